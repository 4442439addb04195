/-
  Tables of some ways; some runs.
-/
import Derived.Test.YtecegjimdohmeaaNexC
namespace Go.Proofs.Ytecegjimdohmeaa
set_option linter.unusedVariables false
set_option linter.unusedSimpArgs false
open Go.Sp
open Go.RowKit (Below)

/-- Ways that are put one behind the other. -/
def puts (l : List Wy) : IS := l.foldl (fun S x => (S.put x).2.2) IS.zero
theorem puts_snoc (l : List Wy) (x : Wy) : puts (l ++ [x]) = ((puts l).put x).2.2 := by simp [puts]
theorem set_len1 (S : IS) (x : Wy) : (S.set x).L.length ≤ S.L.length + 1 := by
  have h : ∀ (L : Tbl) (k : Key) (v : Int), (tput L k v).length ≤ L.length + 1 := by
    intro L k v
    induction L with
    | nil => simp [tput]
    | cons x l ih =>
      simp only [tput]
      split
      · simp
      · split
        · simp
        · simp; omega
  exact h _ _ _
theorem tables_c {w : World} {s : SV} {l : List Wy} (few : Bool) (hs : Rd 6 w s (l.flatMap Wy.cells)) (hok : ∀ x ∈ l, x.ty) (hm : s.len ≤ maxLen) :
    Calls Try.prog 13 #[s.v, .bool few] w (R13 fun r1 r2 w' => ∃ (p q : Nat) (X E : List Nat) (S : IS), r1 = some ⟨p, 0, none⟩ ∧ r2 = some ⟨q, 0, none⟩ ∧ IgpAt w' X p S ∧ RAt w' E q S ∧ S.good ∧ S.L.length ≤ 30 ∧ (∀ y ∈ X, w.heap.size ≤ y) ∧ (∀ y ∈ E, w.heap.size ≤ y) ∧ (few = false → S = puts (l.take 30)) ∧ Keeps [] w w') := by
  unfold maxLen at hm
  have hl := rows_len wy6 (by omega) hs
  refine F13_ok (inew_c.mono fun e w1 g => ?_)
  obtain ⟨r, rfl, p, X, rfl, F1, hX, k1⟩ := g
  refine ⟨_, rfl, rnew_k fun q w2 hq R2 k2 => ?_⟩
  have k12 := k1.trans k2 (by simp)
  refine M.loop1_by (fun x w' => ∃ (i : Nat) (X E : List Nat) (S : IS), x = i ∧ i ≤ 30 ∧ i ≤ l.length ∧ Keeps [] w w' ∧ IgpAt w' X p S ∧ RAt w' E q S ∧ S.good ∧ S.L.length ≤ i ∧ (∀ y ∈ X, w.heap.size ≤ y) ∧ (∀ y ∈ E, w.heap.size ≤ y) ∧ (∀ y ∈ X, y ∉ E) ∧ (few = false → S = puts (l.take i))) (fun x _ => (30 - x).toNat)
    ⟨0, X, [q], IS.zero, rfl, by omega, by omega, k12, F1.keep k2 (by simp), R2, F1.good, by simp [IS.zero], hX, by simp; have := k1.size; omega, fun y hy h => by have := F1.lt y hy; simp at h; omega, fun _ => by simp [puts]⟩ ?_
  clear F1 R2 hX hq k12 k2 k1
  rintro x w3 J ⟨i, X, E, S, rfl, hi, hil, k3, F, R, g, hSl, hX, hE, hd, hS⟩ hJ
  refine M.join_by (fun (J : Bool → World → Prop) => J (decide (i < l.length) && decide (i < 30)) w3) ?_ fun J hJ => M.ite_y rfl (M.ite_by (fun c => ?_) (fun c => ?_))
  rotate_left
  · have c := of_decide_eq_true c
    rw [decide_eq_true (show i < l.length by omega), Bool.true_and, show decide (i < 30) = decide ((i : Int) < 30) by apply decide_eq_decide.2; omega] at hJ
    exact hJ
  · have c := of_decide_eq_false c
    rw [decide_eq_false (show ¬ i < l.length by omega), Bool.false_and] at hJ
    exact hJ
  refine M.ite_by (fun c => ?_) (fun c => ?_)
  · simp only [Bool.and_eq_true, decide_eq_true_eq] at c
    obtain ⟨c1, c2⟩ := c
    have ei := List.getElem?_eq_getElem c1
    have hx := hok _ (List.getElem_mem c1)
    have htk : l.take (i + 1) = l.take i ++ [l[i]] := by rw [List.take_add_one, ei]; rfl
    generalize l[i] = x at *
    have hs' := hs.keep k3 (by simp)
    obtain ⟨a, ha⟩ := hs'.some (by omega)
    refine ⟨a, ha, by omega, by omega, _, _, _, _, _, _, rows_cs wy6 hs' ha ei, M.new_blk fun b w4 hb B4 k4 => M.stA_blk B4 rfl fun w5 B5 k5 => ?_⟩
    have B5 : Blk w5 b 32 x.cells := B5
    have k35 : Keeps [] w3 w5 := k4.trans k5 (by simp; omega)
    refine M.join_by (fun (J : World → Prop) => ∀ (y : Wy), y.ty → (few = false → y = x) → ∀ w', Blk w' b 32 y.cells → Keeps [] w3 w' → J w') (fun y hy hyx w6 B6 k6 => ?_) fun J hJ => M.ite_by (fun c => ?_) (fun c => ?_)
    · refine ⟨_, _, _, _, _, _, B6.cs 0 _ rfl, (iput_c (F.keep k6 (by simp)) hy).mono fun e w7 g7 => ?_⟩
      obtain ⟨a7, e7, rfl, rfl, rfl, X7, F7, k7, f7⟩ := g7
      have hs6 := k6.size
      have hbX : b ∉ X := fun h => by have := F.lt b h; omega
      have hbE : b ∉ E := fun h => by have := R.1 b h; omega
      have R7 := (R.keep k6 (by simp)).keep k7 (fun y hy h => hd y h hy)
      refine ⟨_, _, rfl, _, _, _, _, _, _, (B6.keep k7 hbX).cs 0 _ rfl, (rput_c R7 g hy).mono fun e w8 g8 => ?_⟩
      obtain ⟨a8, e8, rfl, rfl, rfl, E8, R8, k8, f8⟩ := g8
      have hs7 := k7.size
      have hX7 : ∀ y ∈ X7, w.heap.size ≤ y := fun y hy => by
        rcases f7 y hy with h | h
        · exact hX y h
        · have := k3.size; omega
      have hE8 : ∀ y ∈ E8, w.heap.size ≤ y := fun y hy => by
        rcases f8 y hy with h | h
        · exact hE y h
        · have := k3.size; omega
      have hd7 : ∀ y ∈ X7, y ∉ E := fun y hy h => by
        rcases f7 y hy with h1 | h1
        · exact hd y h1 h
        · have := R.1 y h; omega
      refine ⟨_, _, rfl, ?_⟩
      rw [w64 (by omega) (by omega)]
      refine hJ _ _ ⟨i + 1, X7, E8, _, by omega, by omega, by omega, ((k3.trans k6 (by simp)).trans k7 (fun y hy => .inr (hX y hy))).trans k8 (fun y hy => .inr (hE y hy)), F7.keep k8 hd7, R8, F7.good, Nat.le_trans IS.put_len (by omega), hX7, hE8, fun y hy h => ?_, fun hf => ?_⟩ (by omega)
      · rcases f8 y h with h1 | h1
        · exact hd7 y hy h1
        · have := F7.lt y hy; omega
      · rw [htk, puts_snoc, ← hS hf, hyx hf]
    · subst c
      refine ⟨_, _, _, _, _, _, B5.cs 0 _ rfl, (kway_c hx).mono fun e w6 g6 => ?_⟩
      obtain ⟨x1, x2, x3, x4, x5, x6, rfl, ⟨y, hy, hyt, rfl, rfl, rfl, rfl, rfl, rfl⟩, k6⟩ := g6
      refine ⟨_, _, _, _, _, _, rfl, M.stA_blk (B5.keep k6 (by simp)) rfl fun w7 B7 k7 => ?_⟩
      exact hJ y hyt (fun h => nomatch h) w7 B7 ((k35.trans k6 (by simp)).trans k7 (by simp; omega))
    · exact hJ x hx (fun _ => rfl) w5 B5 k35
  · have : i = l.length ∨ i = 30 := by
      rw [Bool.and_eq_false_iff] at c
      rcases c with c | c
      · have := of_decide_eq_false c; omega
      · have := of_decide_eq_false c; omega
    refine ⟨p, q, X, E, S, rfl, rfl, F, R, g, by omega, hX, hE, fun hf => ?_, k3⟩
    rw [hS hf]
    rcases this with h | h
    · rw [List.take_of_length_le (by omega), List.take_of_length_le (by omega)]
    · rw [h]
theorem IS.set_some (S : IS) (x : Wy) (k : Key) : (tget (S.set x).L k).isSome = if x.pf = k then true else (tget S.L k).isSome := by
  show (tget (tput S.L x.pf 0) k).isSome = _
  rw [tget_tput]
  split <;> rfl
theorem IS.set_h (S : IS) (x : Wy) (k : Key) : (S.set x).h k = if k = x.pf then x.fix else S.h k := rfl
theorem puts_two {x y : Wy} (hx : rightW x = true) (hy : rightW y = true) : puts [x, y] = (IS.zero.set x).set y := by
  show ((IS.zero.put x).2.2.put y).2.2 = _
  rw [IS.put_fst hx (by decide)]
  rw [IS.put_fst hy (Nat.lt_of_le_of_lt (set_len1 _ _) (by decide))]
/-- Few next addresses. -/
theorem knext_c {w : World} (a : Int) : Calls Try.prog 14 #[.int .u32 a] w (R14 fun r w' => (∃ A : Nat, r = (A : Int) ∧ A < 4294967296) ∧ w' = w) :=
  F14_ok ⟨bOr_u32 _ _, rfl⟩
def kw1 : Wy := ⟨(167772160, 8), false, 0, 16843009, 4611686018427387904⟩
def kw2 : Wy := ⟨(16843008, 24), true, 3, 0, 4617315517961601024⟩
theorem kw_tell1 : ((IS.zero.set kw1).set kw2).tell 167772161 = some kw1 := by
  have hb : ((IS.zero.set kw1).set kw2).best 167772161 (167772160, 8) := by
    refine ⟨by decide +kernel, by decide +kernel, fun k' h1 h2 => ?_⟩
    unfold IS.opn at h1
    simp only [Bool.and_eq_true] at h1
    obtain ⟨h1, h3⟩ := h1
    obtain ⟨z, hz, rfl⟩ := tget_isSome.1 h1
    have hL : ((IS.zero.set kw1).set kw2).L = [(((16843008 : Nat), (24 : Int)), (0 : Int)), ((167772160, 8), 0)] := by decide +kernel
    rw [hL] at hz
    simp only [List.mem_cons, List.not_mem_nil, or_false] at hz
    rcases hz with rfl | rfl
    · exfalso; revert h2; decide +kernel
    · exact Int.le_refl _
  rw [tell_best hb]
  have : ((IS.zero.set kw1).set kw2).h (167772160, 8) = kw1.fix := by rfl
  rw [this]
  unfold Wy.fix kw1
  rw [show cleanN 4611686018427387904 = 4611686018427387904 by decide +kernel]
theorem kw_tell2 : ((IS.zero.set kw1).set kw2).tell 16843009 = some kw2 := by
  have hb : ((IS.zero.set kw1).set kw2).best 16843009 (16843008, 24) := by
    refine ⟨by decide +kernel, by decide +kernel, fun k' h1 h2 => ?_⟩
    unfold IS.opn at h1
    simp only [Bool.and_eq_true] at h1
    obtain ⟨h1, h3⟩ := h1
    obtain ⟨z, hz, rfl⟩ := tget_isSome.1 h1
    have hL : ((IS.zero.set kw1).set kw2).L = [(((16843008 : Nat), (24 : Int)), (0 : Int)), ((167772160, 8), 0)] := by decide +kernel
    rw [hL] at hz
    simp only [List.mem_cons, List.not_mem_nil, or_false] at hz
    rcases hz with rfl | rfl
    · exact Int.le_refl _
    · exfalso; revert h2; decide +kernel
  rw [tell_best hb]
  have : ((IS.zero.set kw1).set kw2).h (16843008, 24) = kw2.fix := by rfl
  rw [this]
  unfold Wy.fix kw2
  rw [show cleanN 4617315517961601024 = 4617315517961601024 by decide +kernel]
theorem kw_fol2 : folA ((IS.zero.set kw1).set kw2).tell 2 3 [] 0 167772161 = (3, 4619567317775286272, [(167772160, 8), (16843008, 24)], 0) := by
  unfold folA
  simp only [kw_tell1]
  rw [if_neg (by simp), if_neg (by simp), if_neg (by decide)]
  unfold folA
  rw [show kw1.next = 16843009 from rfl]
  simp only [kw_tell2]
  rw [if_neg (by decide), if_neg (by decide), if_pos (by decide)]
  have : addB (addB 0 kw1.cost) kw2.cost = 4619567317775286272 := by decide +kernel
  rw [this]
  have h2 : infB 4619567317775286272 = false := by decide +kernel
  rw [h2]
  rfl
theorem kw_fol1 : (folA ((IS.zero.set kw1).set kw2).tell 1 2 [] 0 167772161).2.2.2 = 27 := by
  unfold folA
  simp only [kw_tell1]
  rw [if_neg (by simp), if_neg (by simp), if_neg (by decide)]
  unfold folA
  rw [show kw1.next = 16843009 from rfl]
  simp only [kw_tell2]
  rw [if_neg (by decide), if_pos (by decide)]
theorem nknown_c {w : World} : Calls Try.prog 12 #[] w (R12 fun r w' => r = true ∧ Keeps [] w w') := by
  refine F12_ok (newn_k (sz := 6) (n := 2) (cs := [kw1, kw2].flatMap Wy.cells) rfl (by omega) (Keeps.refl [] w) fun b w1 g1 g2 x1 _ k1 => ?_)
  refine (tables_c false (l := [kw1, kw2]) x1.rd (by
    intro x hx
    simp only [List.mem_cons, List.not_mem_nil, or_false] at hx
    rcases hx with rfl | rfl
    · exact ⟨by decide, by decide, by decide⟩
    · exact ⟨by decide, by decide, by decide⟩) (show 2 ≤ maxLen by decide)).mono fun e w2 g => ?_
  obtain ⟨r1, r2, rfl, p, q, X, E, S, rfl, rfl, F, R, g, hSl, hX, hE, hS, k2⟩ := g
  have hS := hS rfl
  rw [show [kw1, kw2].take 30 = [kw1, kw2] from rfl, puts_two (by decide +kernel) (by decide +kernel)] at hS
  subst hS
  have k02 := k1.trans k2 (by simp)
  refine ⟨_, _, rfl, M.ite_n rfl ((resolve_c F (A := 167772161) (by omega) (d := 2) (by omega)).mono fun e w3 g3 => ?_)⟩
  obtain ⟨ln3, c3, e3, rfl, he3, hc3, k3⟩ := g3
  rw [kw_fol2] at he3 hc3
  subst he3
  obtain ⟨rfl, rfl⟩ := hc3
  refine ⟨_, _, _, rfl, M.new_blk fun b4 w4 hb4 B4 k4 => M.stA_blk B4 rfl fun w5 B5 k5 => ?_⟩
  have k25 : Keeps [] w2 w5 := (k3.trans k4 (by simp)).trans k5 (by have := k3.size; simp; omega)
  refine (resolve_c (F.keep k25 (by simp)) (A := 167772161) (by omega) (d := 1) (by omega)).mono fun e w6 g6 => ?_
  obtain ⟨ln6, c6, e6, rfl, he6, hc6, k6⟩ := g6
  rw [kw_fol1] at he6
  subst he6
  refine ⟨_, _, _, rfl, M.new_blk fun b7 w7 hb7 B7 k7 => M.stA_blk B7 rfl fun w8 B8 k8 => ?_⟩
  have k58 : Keeps [] w5 w8 := (k6.trans k7 (by simp)).trans k8 (by have := k6.size; simp; omega)
  have k28 := k25.trans k58 (by simp)
  have B58 := B5.keep k58 (by simp)
  refine M.join_by (fun (J : Bool → World → Prop) => ∀ w', Keeps [] w8 w' → J true w') (fun w' k' => ⟨rfl, (k02.trans k28 (by simp)).trans k' (by simp)⟩) fun J hJ => ⟨_, B58.cell 0, M.ite_y rfl ⟨_, B58.cell 1, M.ite_y (by decide +kernel) (M.ite_y rfl (M.ite_y rfl ?_))⟩⟩
  refine (trail_c (F.keep k28 (by simp)) (A := 167772161) (by omega) (d := 2) (by omega)).mono fun e w9 g9 => ?_
  obtain ⟨t9, rfl, rd9, k9⟩ := g9
  rw [kw_fol2] at rd9
  have hl := pf_len rd9
  refine ⟨_, rfl, ?_⟩
  have : ((t9.len : Int) == 2) = true := by rw [hl]; rfl
  dsimp only
  rw [this]
  exact hJ _ k9
theorem nknown_a {W w : World} (a : Aft W w) : Calls Try.prog 12 #[] w (R12 fun r w' => r = true ∧ Aft W w') := nknown_c.mono fun e w' g => by
  obtain ⟨r, rfl, rfl, k⟩ := g
  exact ⟨_, rfl, rfl, a.new k⟩
end Go.Proofs.Ytecegjimdohmeaa
