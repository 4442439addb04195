/-
  A forwarding table in memory, and what its functions do to it.
-/
import Derived.Test.YtnfmkedblnajlaaTrieL
import Derived.Test.YtnfmkedblnajlaaIntC
import Derived.Test.YtnfmkedblnajlaaSpMap
import Derived.Test.YtnfmkedblnajlaaSpDec
namespace Go.Proofs.Ytnfmkedblnajlaa
set_option linter.unusedVariables false
set_option linter.unusedSimpArgs false
open Go.Sp

/-! ### Hops -/
theorem hopEl : elemB Try.prog 55 2 16 = true := by kernel_rfl
theorem hopSl : sliceB Try.prog 28 55 2 = true := by kernel_rfl
def hv (x : Int × Int) : List Value := [.int .i64 x.1, .int .i64 x.2]
def hvs (l : List (Int × Int)) : List Value := l.flatMap hv
theorem hvs_app (a b : List (Int × Int)) : hvs (a ++ b) = hvs a ++ hvs b := by simp [hvs]
theorem hvs_len (l : List (Int × Int)) : (hvs l).length = l.length * 2 := by
  induction l with
  | nil => rfl
  | cons x l ih => simp [hvs, hv] at *; omega
theorem hvs_one (l : List (Int × Int)) : ∀ u ∈ hvs l, u.oneCell' = true := by
  intro u hu
  simp only [hvs, List.mem_flatMap, hv] at hu
  obtain ⟨x, _, hx⟩ := hu
  rcases List.mem_cons.1 hx with rfl | hx
  · rfl
  · rcases List.mem_cons.1 hx with rfl | hx
    · rfl
    · simp at hx
theorem hvs_drop (l : List (Int × Int)) : ∀ i : Nat, (hvs l).drop (i * 2) = hvs (l.drop i) := by
  induction l with
  | nil => intro i; simp [hvs]
  | cons x l ih =>
    intro i
    cases i with
    | zero => simp
    | succ i =>
      rw [show (i + 1) * 2 = i * 2 + 2 by omega]
      exact ih i
theorem h_len {w : World} {s : SV} {l : List (Int × Int)} (h : Rd 2 w s (hvs l)) : s.len = l.length := by
  have := h.len
  rw [hvs_len] at this; omega
theorem h_at {w : World} {s : SV} {l : List (Int × Int)} (h : Rd 2 w s (hvs l)) {a : Addr} (ha : s.a = some a) {i : Nat} {x : Int × Int} (hx : l[i]? = some x) :
    w.cell? (a.add (i * 2)) = some (.int .i64 x.1) ∧ w.cell? ((a.add (i * 2)).add 1) = some (.int .i64 x.2) := by
  have hr : ((hvs l).drop (i * 2)).take 2 = hv x := by
    rw [hvs_drop]
    obtain ⟨hi, hx⟩ := List.getElem?_eq_some_iff.1 hx
    rw [List.drop_eq_getElem_cons hi, hx]
    rfl
  refine ⟨?_, h.row ha (j := 1) (by omega) (by rw [hr]; rfl)⟩
  have := h.row ha (j := 0) (by omega) (v := .int .i64 x.1) (by rw [hr]; rfl)
  rwa [add_zero] at this
theorem hclone_c {w : World} {s : SV} {l : List (Int × Int)} (h : Rd 2 w s (hvs l)) (hb : l.length ≤ 1000000) :
    Calls Try.prog 26 #[s.v] w (R26 fun r w' => Rd 2 w' r (hvs l) ∧ (∀ y ∈ r.blk, w.heap.size ≤ y ∧ y < w'.heap.size) ∧ Keeps [] w w') := by
  have hl := h_len h
  refine F26_ok (M.ite_by (fun c => ?_) (fun c => ?_))
  · have c : s.a = none := by simpa using c
    obtain ⟨h0, _⟩ := h.none c
    obtain rfl : l = [] := List.eq_nil_of_length_eq_zero (by omega)
    exact ⟨Rd.nil _ _, by simp [SV.blk], Keeps.refl _ _⟩
  · refine new0_k (sz := 2) (Keeps.refl _ _) fun b w1 g1 g2 hb1 o1 k1 _ => app_k hopSl hopEl k1 hb1 o1 (h.keep k1 (by simp)) (hvs_one _) (by simp only []; omega) fun r w2 o2 n2 f2 _ k2 => ⟨by simpa using o2.rd, fun y hy => ⟨f2 y hy, o2.lt y hy⟩, k2⟩
/-- May a hop stand where it does? -/
def hopAt (l : List (Int × Int)) (i : Nat) (x : Int × Int) : Bool := decide (0 ≤ x.1) && (decide (x.1 ≤ 255) && (decide (1 ≤ x.2) && (decide (x.2 ≤ 16) && (i == 0 || (match l[i - 1]? with | some y => decide (y.1 < x.1) | none => true)))))
def hopsGo (l : List (Int × Int)) (n : Nat) : Bool := (List.range n).all fun i => match l[i]? with | some x => hopAt l i x | none => true
/-- May these hops be? -/
def hopsB (l : List (Int × Int)) : Bool := hopsGo l l.length && decide (l.length ≤ 16)
theorem hopsGo_succ {l : List (Int × Int)} {i : Nat} {x : Int × Int} (h : l[i]? = some x) : hopsGo l (i + 1) = (hopsGo l i && hopAt l i x) := by
  unfold hopsGo
  rw [List.range_succ, List.all_append]
  simp [h]
theorem hopsGo_false {l : List (Int × Int)} {i n : Nat} (h : hopsGo l i = false) (hn : i ≤ n) : hopsGo l n = false := by
  unfold hopsGo at *
  rw [List.all_eq_false] at *
  obtain ⟨x, hx, hf⟩ := h
  exact ⟨x, List.mem_range.2 (by have := List.mem_range.1 hx; omega), hf⟩
theorem hops_c {w : World} {s : SV} {l : List (Int × Int)} (h : Rd 2 w s (hvs l)) (hb : l.length ≤ 1000000) :
    Calls Try.prog 40 #[s.v] w (R40 fun r w' => r = hopsB l ∧ Keeps [] w w') := by
  have hl := h_len h
  refine F40_ok (M.loop1_by (fun x w' => ∃ i : Nat, x = i ∧ i ≤ l.length ∧ hopsGo l i = true ∧ Keeps [] w w') (fun x _ => l.length - x.toNat) ⟨0, rfl, by omega, rfl, Keeps.refl _ _⟩ ?_)
  rintro x w1 J ⟨i, rfl, hi, hgo, k1⟩ hJ
  refine M.ite_by (fun c => ?_) (fun c => ?_)
  · have c := of_decide_eq_true c
    have il : i < l.length := by omega
    have ei := List.getElem?_eq_getElem il
    have hs := hopsGo_succ ei
    rw [hgo, Bool.true_and] at hs
    have h1 := h.keep k1 (by simp)
    obtain ⟨ax, hax⟩ := h1.some (by omega)
    have e := h_at h1 hax ei
    generalize l[i] = y at *
    refine ⟨ax, hax, by omega, c, _, e.1, _, e.2, M.new_blk fun b w2 hb2 B2 k2 => M.stA_blk B2 rfl fun w3 B3 k3 => ?_⟩
    have k13 : Keeps [] w1 w3 := k2.trans k3 (by simp; omega)
    have kd := Keeps.drew [] w3
    have k4 := (k1.trans k13 (by simp)).trans kd (by simp)
    have h4 := h.keep k4 (by simp)
    have B4 := B3.keep kd (by simp)
    refine M.join_by (fun (J : Bool → World → Prop) => ∀ t, t = !hopAt l i y → J t w3.drew) (fun t ht => ?_) fun J2 hJ2 => ?_
    · refine M.ite_by (fun c5 => ?_) (fun c5 => ?_)
      · rw [c5] at ht
        have : hopAt l i y = false := by simpa using ht
        rw [this] at hs
        exact ⟨by unfold hopsB; rw [hopsGo_false hs (by omega)]; rfl, k4⟩
      · rw [c5] at ht
        have : hopAt l i y = true := by simpa using ht
        rw [this] at hs
        rw [w64 (by omega) (by omega)]
        exact hJ _ _ ⟨i + 1, by omega, by omega, hs, k4⟩ (by omega)
    · unfold hopAt at hJ2
      refine M.drew_by ⟨_, B4.cell 0, M.ite_by (fun c1 => ?_) (fun c1 => ⟨_, B4.cell 0, M.ite_by (fun c2 => ?_) (fun c2 => ⟨_, B4.cell 1, M.ite_by (fun c3 => ?_) (fun c3 => ⟨_, B4.cell 1, M.ite_by (fun c4 => ?_) (fun c4 => M.ite_by (fun c5 => ?_) (fun c5 => ?_))⟩)⟩)⟩)⟩
      · have c1 := of_decide_eq_true c1
        exact hJ2 _ (by rw [decide_eq_false (show ¬ 0 ≤ y.1 by omega)]; rfl)
      · have c1 := of_decide_eq_false c1
        have c2 := of_decide_eq_true c2
        exact hJ2 _ (by rw [decide_eq_true (show 0 ≤ y.1 by omega), decide_eq_false (show ¬ y.1 ≤ 255 by omega)]; rfl)
      · have c1 := of_decide_eq_false c1
        have c2 := of_decide_eq_false c2
        have c3 := of_decide_eq_true c3
        exact hJ2 _ (by rw [decide_eq_true (show 0 ≤ y.1 by omega), decide_eq_true (show y.1 ≤ 255 by omega), decide_eq_false (show ¬ 1 ≤ y.2 by omega)]; rfl)
      · have c1 := of_decide_eq_false c1
        have c2 := of_decide_eq_false c2
        have c3 := of_decide_eq_false c3
        have c4 := of_decide_eq_true c4
        exact hJ2 _ (by rw [decide_eq_true (show 0 ≤ y.1 by omega), decide_eq_true (show y.1 ≤ 255 by omega), decide_eq_true (show 1 ≤ y.2 by omega), decide_eq_false (show ¬ y.2 ≤ 16 by omega)]; rfl)
      · have c1 := of_decide_eq_false c1
        have c2 := of_decide_eq_false c2
        have c3 := of_decide_eq_false c3
        have c4 := of_decide_eq_false c4
        have c5 := of_decide_eq_true c5
        have ip : i - 1 < l.length := by omega
        have ep := List.getElem?_eq_getElem ip
        have e4 := h_at h4 hax ep
        have e1 : IntKind.i64.wrap ((i : Int) - 1) = ((i - 1 : Nat) : Int) := by rw [w64 (by omega) (by omega)]; omega
        rw [e1]
        refine ⟨ax, hax, by omega, by omega, _, e4.1, _, B4.cell 0, hJ2 _ ?_⟩
        rw [decide_eq_true (show 0 ≤ y.1 by omega), decide_eq_true (show y.1 ≤ 255 by omega), decide_eq_true (show 1 ≤ y.2 by omega), decide_eq_true (show y.2 ≤ 16 by omega), ep]
        have : (i == 0) = false := by simp; omega
        rw [this]
        by_cases hlt : (l[i - 1]).1 < y.1
        · simp [hlt]
        · simp [hlt]; omega
      · have c1 := of_decide_eq_false c1
        have c2 := of_decide_eq_false c2
        have c3 := of_decide_eq_false c3
        have c4 := of_decide_eq_false c4
        have c5 := of_decide_eq_false c5
        refine hJ2 _ ?_
        rw [decide_eq_true (show 0 ≤ y.1 by omega), decide_eq_true (show y.1 ≤ 255 by omega), decide_eq_true (show 1 ≤ y.2 by omega), decide_eq_true (show y.2 ≤ 16 by omega)]
        have : (i == 0) = true := by simp; omega
        rw [this]; rfl
  · have c := of_decide_eq_false c
    obtain rfl : i = l.length := by omega
    refine ⟨?_, k1⟩
    unfold hopsB
    rw [hgo, Bool.true_and]
    by_cases h16 : l.length ≤ 16
    · rw [decide_eq_true h16, decide_eq_true (by omega)]
    · rw [decide_eq_false h16, decide_eq_false (by omega)]
theorem hsame_c {w : World} {s t : SV} {l m : List (Int × Int)} (hs : Rd 2 w s (hvs l)) (ht : Rd 2 w t (hvs m)) (hb : l.length ≤ 1099511627776) :
    Calls Try.prog 13 #[s.v, t.v] w (R13 fun r w' => r = (l == m) ∧ Keeps [] w w') := by
  have hl := h_len hs
  have hm := h_len ht
  refine F13_ok (M.ite_by (fun c => ?_) (fun c => ?_))
  · have c : l.length ≠ m.length := by simp at c; omega
    have : (l == m) = false := by simp; intro h; subst h; exact c rfl
    rw [this]
    exact ⟨rfl, Keeps.refl _ _⟩
  · have c : l.length = m.length := by simp at c; omega
    refine M.loop1_by (fun x w' => ∃ i : Nat, x = i ∧ i ≤ l.length ∧ Keeps [] w w' ∧ l.take i = m.take i) (fun x _ => l.length - x.toNat) ⟨0, rfl, by omega, Keeps.refl _ _, rfl⟩ ?_
    rintro x w1 J ⟨i, rfl, hi, k1, he⟩ hJ
    refine M.ite_by (fun c1 => ?_) (fun c1 => ?_)
    · have c1 := of_decide_eq_true c1
      have il : i < l.length := by omega
      have im : i < m.length := by omega
      have ei := List.getElem?_eq_getElem il
      have em := List.getElem?_eq_getElem im
      have h1 : l.take (i + 1) = l.take i ++ [l[i]] := by rw [List.take_add_one, ei]; rfl
      have h2 : m.take (i + 1) = m.take i ++ [m[i]] := by rw [List.take_add_one, em]; rfl
      generalize l[i] = u at *
      generalize m[i] = v at *
      have kd := Keeps.drew [] w1
      have k2 := k1.trans kd (by simp)
      obtain ⟨ax, hax⟩ := (hs.keep k2 (by simp)).some (by omega)
      obtain ⟨ay, hay⟩ := (ht.keep k2 (by simp)).some (by omega)
      have e1 := h_at (hs.keep k2 (by simp)) hax ei
      have e2 := h_at (ht.keep k2 (by simp)) hay em
      refine M.drew_by ⟨ax, hax, by omega, c1, ay, hay, by omega, by omega, _, e1.1, _, e1.2, _, e2.1, _, e2.2, M.ite_by (fun c2 => ?_) (fun c2 => ?_)⟩
      · have : (l == m) = false := by
          simp
          intro h; subst h
          rw [ei] at em; cases em; simp at c2
        rw [this]; exact ⟨rfl, k2⟩
      · have c2 : u = v := by
          have c2 : ((u.1 == v.1) && (u.2 == v.2)) = true := by simpa using c2
          simp at c2; exact Prod.ext c2.1 c2.2
        rw [w64 (by omega) (by omega)]
        exact hJ _ _ ⟨i + 1, by omega, by omega, k2, by rw [h1, h2, he, c2]⟩ (by omega)
    · have c1 := of_decide_eq_false c1
      rw [List.take_of_length_le (by omega), List.take_of_length_le (by omega)] at he
      subst he
      exact ⟨by simp, k1⟩
/-- One entry by itself. -/
theorem oright_c {w : World} {b : Nat} {a : Nat} {n : Int} {s : SV} {l : List (Int × Int)} (B : Blk w b 35 [.int .u32 (a : Int), .int .i64 n, s.v]) (ha : a < 4294967296) (h : Rd 2 w s (hvs l)) (hb : l.length ≤ 1000000) :
    Calls Try.prog 24 #[(SV.mk (some ⟨b, 0, none⟩) 1 1).v] w (R24 fun r w' => r = (rightP a n && hopsB l) ∧ Keeps [] w w') := by
  refine F24_ok (M.loop1_by (fun x w' => (x = 0 ∨ (x = 1 ∧ (rightP a n && hopsB l) = true)) ∧ Keeps [] w w') (fun x _ => 1 - x.toNat) ⟨.inl rfl, Keeps.refl _ _⟩ ?_)
  rintro x w1 J ⟨hx, k1⟩ hJ
  refine M.ite_by (fun c => ?_) (fun c => ?_)
  · have c : x < ((1 : Nat) : Int) := of_decide_eq_true c
    obtain rfl : x = 0 := by rcases hx with h | h <;> omega
    have B1 := B.keep k1 (by simp)
    have e0 : (⟨b, 0, none⟩ : Addr).add ((0 : Int).toNat * 3) = ⟨b, 0, none⟩ := rfl
    refine ⟨_, rfl, by omega, c, ?_⟩
    dsimp only
    rw [e0]
    refine ⟨_, _, _, B1.cs 0 _ rfl, M.new_blk fun b2 w2 hb2 B2 k2 => M.stA_blk B2 rfl fun w3 B3 k3 => ?_⟩
    have k13 : Keeps [] w1 w3 := k2.trans k3 (by simp; omega)
    have kd := Keeps.drew [] w3
    have B4 := B3.keep kd (by simp)
    have k4 := (k1.trans k13 (by simp)).trans kd (by simp)
    refine M.join_by (fun (J : Bool → World → Prop) => ∀ t w', t = !(rightP a n && hopsB l) → Keeps [] w w' → J t w') (fun t w' ht k' => ?_) fun J2 hJ2 => M.drew_by ⟨_, B4.cell 0, _, B4.cell 1, (right_c ha n).mono fun e w5 g => ?_⟩
    · refine M.ite_by (fun c5 => ?_) (fun c5 => ?_)
      · rw [c5] at ht
        have : (rightP a n && hopsB l) = false := by cases h : (rightP a n && hopsB l) <;> simp [h] at ht ⊢
        rw [this]; exact ⟨rfl, k'⟩
      · rw [c5] at ht
        have : (rightP a n && hopsB l) = true := by simpa using ht
        rw [w64 (by omega) (by omega)]
        exact hJ _ _ ⟨.inr ⟨rfl, this⟩, k'⟩ (by omega)
    · obtain ⟨r5, rfl, rfl, k5⟩ := g
      have k05 := k4.trans k5 (by simp)
      refine ⟨_, rfl, M.ite_by (fun c5 => ?_) (fun c5 => ?_)⟩
      · have c5 : rightP a n = false := by simpa using c5
        exact hJ2 _ _ (by rw [c5]; rfl) k05
      · have c5 : rightP a n = true := by simpa using c5
        refine ⟨_, (B4.keep k5 (by simp)).cell 2, (hops_c (h.keep k05 (by simp)) hb).mono fun e w6 g => ?_⟩
        obtain ⟨r6, rfl, rfl, k6⟩ := g
        have k06 := k05.trans k6 (by simp)
        refine ⟨_, rfl, M.ite_by (fun c6 => ?_) (fun c6 => M.ite_ff ?_)⟩
        · have c6 : hopsB l = false := by simpa using c6
          exact hJ2 _ _ (by rw [c5, c6]; rfl) k06
        · have c6 : hopsB l = true := by simpa using c6
          exact hJ2 _ _ (by rw [c5, c6]; rfl) k06
  · have c : ¬ x < ((1 : Nat) : Int) := of_decide_eq_false c
    rcases hx with h | ⟨rfl, h⟩
    · omega
    · rw [h]; exact ⟨rfl, k1⟩
set_option maxRecDepth 100000 in
theorem keyT : KeyT Try.prog 33 where
  check := fun em w k => check_pair (show Try.prog.underlying 33 = some (.struct _) from rfl) rfl rfl rfl (by decide) (by decide) rfl rfl em w k
  eq := fun a b w => by
    show (Op.equalIn 10000 33 (kv a) (kv b)).run Try.prog w = _
    unfold kv
    rw [eq33]
    congr 1
    obtain ⟨a1, a2⟩ := a
    obtain ⟨b1, b2⟩ := b
    rw [Bool.eq_iff_iff]
    simp
    omega
  under := ⟨_, show Try.prog.underlying 33 = some (.struct _) from rfl⟩
end Go.Proofs.Ytnfmkedblnajlaa
