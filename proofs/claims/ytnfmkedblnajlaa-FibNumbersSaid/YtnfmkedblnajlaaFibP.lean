/-
  What the document says of tables of entries.
-/
import Derived.Test.YtnfmkedblnajlaaFibMatch
namespace Go.Proofs.Ytnfmkedblnajlaa
set_option linter.unusedVariables false
set_option linter.unusedSimpArgs false
open Go.Sp

theorem key_beq (a b : Key) : ((a.1 : Int) == (b.1 : Int) && a.2 == b.2) = (a == b) := by
  obtain ⟨a1, a2⟩ := a
  obtain ⟨b1, b2⟩ := b
  rw [Bool.eq_iff_iff]
  simp
  omega
theorem less_c {w : World} {p q : Key} (hp : p.1 < 4294967296 ∧ rightP p.1 p.2 = true) (hq : q.1 < 4294967296 ∧ rightP q.1 q.2 = true) : Calls Try.prog 48 #[.agg #[.int .u32 (p.1 : Int), .int .i64 p.2], .agg #[.int .u32 (q.1 : Int), .int .i64 q.2]] w (R48 fun r w' => r = decide (kLt p q) ∧ Keeps [] w w') := by
  refine F48_ok (M.new_blk fun b w1 hb B k1 => M.new_blk fun c w2 hc C k2 => ?_)
  have B := B.keep k2 (by simp)
  have k2 := k1.trans k2 (by simp)
  refine M.join_by (fun J => ∀ w', Blk w' b 33 [.int .u32 (p.1 : Int), .int .i64 p.2] → Blk w' c 33 [.int .u32 (q.1 : Int), .int .i64 q.2] → Keeps [] w w' → J false w') (fun w4 B4 C4 k4 => ?_) fun J hJ => ⟨_, B.cell 0, _, B.cell 1, (rright_c hp.1 p.2).mono fun e w3 g => ?_⟩
  · refine M.ite_ff (M.join_by (fun J => J (decide (kLt p q)) w4) ⟨rfl, k4⟩ fun J hJ => ⟨_, B4.cell 0, _, C4.cell 0, M.ite_by (fun c1 => ?_) (fun c1 => ?_)⟩)
    · have c1 := of_decide_eq_true c1
      rw [decide_eq_true (show kLt p q from .inl (by omega))] at hJ
      exact hJ
    · have c1 := of_decide_eq_false c1
      refine ⟨_, B4.cell 0, _, C4.cell 0, M.ite_by (fun c2 => ?_) (fun c2 => ?_)⟩
      · have c2 : (p.1 : Int) = q.1 := by simpa using c2
        refine ⟨_, B4.cell 1, _, C4.cell 1, ?_⟩
        rw [show decide (kLt p q) = decide (p.2 < q.2) by apply decide_eq_decide.2; unfold kLt; omega] at hJ
        exact hJ
      · have c2 : ¬ (p.1 : Int) = q.1 := by simpa using c2
        rw [decide_eq_false (show ¬ kLt p q by unfold kLt; omega)] at hJ
        exact hJ
  · obtain ⟨r, rfl, rfl, k3⟩ := g
    rw [hp.2]
    refine ⟨_, rfl, M.ite_ff ⟨_, (C.keep k3 (by simp)).cell 0, _, (C.keep k3 (by simp)).cell 1, (rright_c hq.1 q.2).mono fun e w4 g => ?_⟩⟩
    obtain ⟨r, rfl, rfl, k4⟩ := g
    rw [hq.2]
    have k34 := k3.trans k4 (by simp)
    exact ⟨_, rfl, hJ w4 (B.keep k34 (by simp)) (C.keep k34 (by simp)) (k2.trans k34 (by simp))⟩
/-- May an entry stand where it does? -/
def entAt (l : List En) (i : Nat) (x : En) : Bool := (rightP x.1.1 x.1.2 && (i == 0 || (match l[i - 1]? with | some y => decide (kLt y.1 x.1) | none => true))) && hopsB x.2.2
def entsGo (l : List En) (n : Nat) : Bool := (List.range n).all fun i => match l[i]? with | some x => entAt l i x | none => true
theorem entsGo_succ {l : List En} {i : Nat} {x : En} (h : l[i]? = some x) : entsGo l (i + 1) = (entsGo l i && entAt l i x) := by
  unfold entsGo
  rw [List.range_succ, List.all_append]
  simp [h]
theorem entsGo_false {l : List En} {i n : Nat} (h : entsGo l i = false) (hn : i ≤ n) : entsGo l n = false := by
  unfold entsGo at *
  rw [List.all_eq_false] at *
  obtain ⟨x, hx, hf⟩ := h
  exact ⟨x, List.mem_range.2 (by have := List.mem_range.1 hx; omega), hf⟩
theorem entsGo_at {l : List En} {n i : Nat} {x : En} (h : entsGo l n = true) (hi : i < n) (hx : l[i]? = some x) : entAt l i x = true := by
  unfold entsGo at h
  rw [List.all_eq_true] at h
  have := h i (List.mem_range.2 hi)
  rw [hx] at this; exact this
theorem rright24_c {w : World} {s : SV} {l : List En} (hs : EnAt w s l) (ht : ∀ x ∈ l, x.1.1 < 4294967296) (hb : l.length ≤ 4096) :
    Calls Try.prog 33 #[s.v] w (R33 fun r w' => r = entsGo l l.length ∧ Keeps [] w w') := by
  have hl := hs.len
  refine F33_ok (M.ite_n (decide_eq_false (by omega)) ?_)
  refine M.loop1_by (fun x w' => ∃ i : Nat, x = i ∧ i ≤ l.length ∧ entsGo l i = true ∧ Keeps [] w w') (fun x _ => l.length - x.toNat) ⟨0, rfl, by omega, rfl, Keeps.refl _ _⟩ ?_
  rintro x w1 J ⟨i, rfl, hi, hgo, k1⟩ hJ
  refine M.ite_by (fun c => ?_) (fun c => ?_)
  · have c := of_decide_eq_true c
    have il : i < l.length := by omega
    have ei := List.getElem?_eq_getElem il
    have hm := List.getElem_mem il
    have hsx := entsGo_succ ei
    have hty := ht _ hm
    obtain ⟨hrd, hhl⟩ := hs.2 _ hm
    rw [hgo, Bool.true_and] at hsx
    generalize l[i] = x at *
    have h1 := hs.1.keep k1 (by simp)
    obtain ⟨ax, hax⟩ := h1.some (by omega)
    have e2 := rows_at env3 h1 hax ei (j := 2) (v := x.2.1.v) rfl
    have hno : ∀ w', entAt l i x = false → Keeps [] w w' → (false = entsGo l l.length ∧ Keeps [] w w') := fun w' h k => ⟨by rw [h] at hsx; exact (entsGo_false hsx (by omega)).symm, k⟩
    have hhl2 := h_len (hrd.keep k1 (by simp))
    refine ⟨ax, hax, by omega, by omega, _, e2, M.join_by (fun (J2 : Bool → World → Prop) => ∀ w', Keeps [] w w' → J2 (!((rightP x.1.1 x.1.2 && (i == 0 || (match l[i - 1]? with | some y => decide (kLt y.1 x.1) | none => true))) && decide (x.2.2.length ≤ 16))) w') (fun w2 k2 => ?_) fun J2 hJ2 => M.drew_by ?_⟩
    · unfold entAt at hsx hno
      generalize (rightP x.1.1 x.1.2 && (i == 0 || (match l[i - 1]? with | some y => decide (kLt y.1 x.1) | none => true))) = A at *
      refine M.ite_by (fun c2 => ?_) (fun c2 => ?_)
      · refine hno _ ?_ k2
        cases A with
        | false => rfl
        | true =>
          have c2 : decide (x.2.2.length ≤ 16) = false := by simpa using c2
          unfold hopsB; rw [c2]; simp
      · obtain ⟨rfl, c3⟩ : A = true ∧ decide (x.2.2.length ≤ 16) = true := by simpa using c2
        have rd2 := hrd.keep k2 (by simp)
        have hob : hopsB x.2.2 = hopsGo x.2.2 x.2.2.length := by unfold hopsB; rw [c3, Bool.and_true]
        refine M.loop1_by (fun x' w' => ∃ k : Nat, x' = k ∧ k ≤ x.2.2.length ∧ hopsGo x.2.2 k = true ∧ Keeps [] w w') (fun x' _ => x.2.2.length - x'.toNat) ⟨0, rfl, by omega, rfl, k2⟩ ?_
        rintro x' w3 J3 ⟨k, rfl, hk, hgk, k3⟩ hJ3
        refine M.ite_by (fun c4 => ?_) (fun c4 => ?_)
        · have c4 := of_decide_eq_true c4
          have kl : k < x.2.2.length := by omega
          have ek := List.getElem?_eq_getElem kl
          have hsk := hopsGo_succ ek
          rw [hgk, Bool.true_and] at hsk
          generalize x.2.2[k] = y at *
          have kd := Keeps.drew [] w3
          have k4 := k3.trans kd (by simp)
          have rd4 := hrd.keep k4 (by simp)
          obtain ⟨ay, hay⟩ := rd4.some (by omega)
          have g := h_at rd4 hay ek
          refine M.join_by (fun (J4 : Bool → World → Prop) => J4 (!hopAt x.2.2 k y) w3.drew) ?_ fun J4 hJ4 => M.drew_by ⟨ay, hay, by omega, c4, _, g.1, ?_⟩
          · refine M.ite_by (fun c5 => ?_) (fun c5 => ?_)
            · have c5 : hopAt x.2.2 k y = false := by simpa using c5
              rw [c5] at hsk
              exact hno _ (by rw [hob, hopsGo_false hsk (by omega)]; simp) k4
            · have c5 : hopAt x.2.2 k y = true := by simpa using c5
              rw [w64 (by omega) (by omega)]
              exact hJ3 _ _ ⟨k + 1, by omega, by omega, by rw [hsk, c5], k4⟩ (by omega)
          · unfold hopAt at hJ4
            refine M.ite_by (fun c5 => ?_) (fun c5 => ?_)
            · have c5 := of_decide_eq_true c5
              rw [decide_eq_false (by omega)] at hJ4; exact hJ4
            have c5 := of_decide_eq_false c5
            rw [decide_eq_true (show (0 : Int) ≤ y.1 by omega), Bool.true_and] at hJ4
            refine ⟨ay, hay, by omega, c4, _, g.1, M.ite_by (fun c6 => ?_) (fun c6 => ?_)⟩
            · have c6 := of_decide_eq_true c6
              rw [decide_eq_false (by omega)] at hJ4; exact hJ4
            have c6 := of_decide_eq_false c6
            rw [decide_eq_true (show y.1 ≤ (255 : Int) by omega), Bool.true_and] at hJ4
            refine ⟨ay, hay, by omega, c4, _, g.2, M.ite_by (fun c7 => ?_) (fun c7 => ?_)⟩
            · have c7 := of_decide_eq_true c7
              rw [decide_eq_false (by omega)] at hJ4; exact hJ4
            have c7 := of_decide_eq_false c7
            rw [decide_eq_true (show (1 : Int) ≤ y.2 by omega), Bool.true_and] at hJ4
            refine ⟨ay, hay, by omega, c4, _, g.2, M.ite_by (fun c8 => ?_) (fun c8 => ?_)⟩
            · have c8 := of_decide_eq_true c8
              rw [decide_eq_false (by omega)] at hJ4; exact hJ4
            have c8 := of_decide_eq_false c8
            rw [decide_eq_true (show y.2 ≤ (16 : Int) by omega), Bool.true_and] at hJ4
            refine M.ite_by (fun c9 => ?_) (fun c9 => ?_)
            · have c9 := of_decide_eq_true c9
              have il2 : k - 1 < x.2.2.length := by omega
              have ep := List.getElem?_eq_getElem il2
              have g4 := h_at rd4 hay ep
              have ew : IntKind.i64.wrap ((k : Int) - 1) = ((k - 1 : Nat) : Int) := by rw [w64 (by omega) (by omega)]; omega
              rw [ew]
              rw [ep] at hJ4
              generalize x.2.2[k - 1] = z at *
              refine ⟨ay, hay, by omega, by omega, ay, hay, by omega, c4, _, g4.1, _, g.1, ?_⟩
              have hk0 : (k == 0) = false := by simp; omega
              rw [hk0, Bool.false_or] at hJ4
              have : (!decide (z.1 < y.1)) = decide (y.1 ≤ z.1) := by
                by_cases h : z.1 < y.1
                · rw [decide_eq_true h, decide_eq_false (by omega)]; rfl
                · rw [decide_eq_false h, decide_eq_true (by omega)]; rfl
              simp only [this] at hJ4
              exact hJ4
            · have c9 := of_decide_eq_false c9
              obtain rfl : k = 0 := by omega
              exact hJ4
        · have c4 := of_decide_eq_false c4
          obtain rfl : k = x.2.2.length := by omega
          rw [w64 (by omega) (by omega)]
          exact hJ _ _ ⟨i + 1, by omega, by omega, by rw [hsx, hob, hgk]; rfl, k3⟩ (by omega)
    · have kd := Keeps.drew [] w1
      have k2 := k1.trans kd (by simp)
      have h2 := hs.1.keep k2 (by simp)
      obtain ⟨ay, hay⟩ := h2.some (by omega)
      have f0 := rows_at0 env3 h2 hay ei (v := .int .u32 (x.1.1 : Int)) rfl
      have f1 := rows_at env3 h2 hay ei (j := 1) (v := .int .i64 x.1.2) rfl
      have hlen16 : (!decide (x.2.2.length ≤ 16)) = decide ((16 : Int) < (x.2.1.len : Int)) := by
        rw [hhl2]
        by_cases h : x.2.2.length ≤ 16
        · rw [decide_eq_true h, decide_eq_false (by omega)]; rfl
        · rw [decide_eq_false h, decide_eq_true (by omega)]; rfl
      refine ⟨ay, hay, by omega, by omega, _, f0, _, f1, (rright_c hty x.1.2).mono fun e w3 g => ?_⟩
      obtain ⟨r3, rfl, rfl, k3⟩ := g
      have k13 := k2.trans k3 (by simp)
      refine ⟨_, rfl, M.ite_by (fun c2 => ?_) (fun c2 => ?_)⟩
      · have c2 : rightP x.1.1 x.1.2 = false := by simpa using c2
        have := hJ2 _ k13
        rw [c2] at this; exact this
      have c2 : rightP x.1.1 x.1.2 = true := by simpa using c2
      refine M.ite_by (fun c3 => ?_) (fun c3 => ?_)
      · have c3 := of_decide_eq_true c3
        have il2 : i - 1 < l.length := by omega
        have ep := List.getElem?_eq_getElem il2
        have hpa := entsGo_at hgo (show i - 1 < i by omega) ep
        have hpt := ht _ (List.getElem_mem il2)
        have ew : IntKind.i64.wrap ((i : Int) - 1) = ((i - 1 : Nat) : Int) := by rw [w64 (by omega) (by omega)]; omega
        rw [ew]
        rw [ep] at hJ2
        generalize l[i - 1] = z at *
        have h3 := hs.1.keep k13 (by simp)
        obtain ⟨az, haz⟩ := h3.some (by omega)
        have hzr : rightP z.1.1 z.1.2 = true := by
          unfold entAt at hpa
          simp only [Bool.and_eq_true] at hpa
          exact hpa.1.1
        refine ⟨az, haz, by omega, by omega, az, haz, by omega, by omega, _, rows_at0 env3 h3 haz ep (v := .int .u32 (z.1.1 : Int)) rfl, _, rows_at env3 h3 haz ep (j := 1) (v := .int .i64 z.1.2) rfl, _, rows_at0 env3 h3 haz ei (v := .int .u32 (x.1.1 : Int)) rfl, _, rows_at env3 h3 haz ei (j := 1) (v := .int .i64 x.1.2) rfl, (less_c ⟨hpt, hzr⟩ ⟨hty, c2⟩).mono fun e w4 g => ?_⟩
        obtain ⟨r4, rfl, rfl, k4⟩ := g
        have hJ3 := hJ2 _ (k13.trans k4 (by simp))
        have hi0 : (i == 0) = false := by simp; omega
        rw [c2, hi0, Bool.false_or, Bool.true_and] at hJ3
        dsimp only at hJ3
        refine ⟨_, rfl, M.ite_by (fun c4 => ?_) (fun c4 => ?_)⟩
        · have c4 : decide (kLt z.1 x.1) = false := by simpa using c4
          rw [c4] at hJ3; exact hJ3
        · have c4 : decide (kLt z.1 x.1) = true := by simpa using c4
          rw [c4, Bool.true_and, hlen16] at hJ3; exact hJ3
      · have c3 := of_decide_eq_false c3
        obtain rfl : i = 0 := by omega
        have hJ3 := hJ2 _ k13
        rw [c2, Bool.true_and, show ((0 : Nat) == 0) = true from rfl, Bool.true_or, Bool.true_and, hlen16] at hJ3
        exact hJ3
  · have c := of_decide_eq_false c
    obtain rfl : i = l.length := by omega
    exact ⟨hgo.symm, k1⟩
/-- A table behind a write. -/
def doStep (e : En) (acc : List En × Bool) (y : En) : List En × Bool :=
  let a := if !acc.2 && decide (kLt e.1 y.1) then (acc.1 ++ [e], true) else acc
  (if y.1 = e.1 then a.1 else a.1 ++ [y], a.2)
def doA (cut : Bool) (e : En) (l : List En) : List En := let r := l.foldl (doStep e) ([], cut); if r.2 then r.1 else r.1 ++ [e]
theorem doStep_len (e : En) (acc : List En × Bool) (y : En) : (doStep e acc y).1.length ≤ acc.1.length + 2 := by
  unfold doStep
  dsimp only
  split <;> split <;> simp <;> omega
theorem fold_len (e : En) : ∀ (l : List En) (acc : List En × Bool), (l.foldl (doStep e) acc).1.length ≤ acc.1.length + 2 * l.length
  | [], acc => by simp
  | y :: l, acc => by
    have h1 := fold_len e l (doStep e acc y)
    have h2 := doStep_len e acc y
    simp only [List.foldl_cons, List.length_cons]
    omega
theorem app_e {w0 w : World} {s : SV} {l : List En} (x : En) {K : SV → World → Prop} (k : Keeps [] w0 w) (hf : ∀ y ∈ s.blk, w0.heap.size ≤ y) (ho : Own 35 3 w s (l.flatMap env)) (hb : l.length ≤ 100000) (h : ∀ r w', Own 35 3 w' r ((l ++ [x]).flatMap env) → (∀ y ∈ r.blk, w0.heap.size ≤ y) → Keeps [] w0 w' → K r w') :
    M.new (.cells #[.int .u32 (x.1.1 : Int), .int .i64 x.1.2, x.2.1.v] 35) w fun b w' => M.app Try.prog 45 45 45 s (SV.v (SV.mk (some b) 1 1)) w' K := by
  have hl := rows_len env3 (by omega) ho.rd
  refine new1_k (cs := env x) (sz := 3) rfl k fun b w1 g1 g2 x1 k1 k01 => app_k entSl entEl k01 hf (ho.keep k1 (by simp)) x1 (by simpa using env_one [x]) (by simp only []; omega) fun r w2 o2 n2 f2 _ k02 => h r w2 (by rw [List.flatMap_append]; simpa using o2) f2 k02
theorem rdo_c {w : World} {s : SV} {l : List En} (hs : EnAt w s l) (ht : ∀ x ∈ l, x.1.1 < 4294967296 ∧ rightP x.1.1 x.1.2 = true) (hb : l.length ≤ 5000) (cut : Bool) {e : En} (he : e.1.1 < 4294967296 ∧ rightP e.1.1 e.1.2 = true) :
    Calls Try.prog 34 #[s.v, .agg #[.bool cut, .int .u32 (e.1.1 : Int), .int .i64 e.1.2, e.2.1.v]] w (R34 fun r w' => Rd 3 w' r ((doA cut e l).flatMap env) ∧ (∀ y ∈ r.blk, w.heap.size ≤ y ∧ y < w'.heap.size) ∧ Keeps [] w w') := by
  have hl := hs.len
  refine F34_ok (M.new_blk fun b2 w1 hb2 B k1 => ⟨_, B.cell 0, ?_⟩)
  have hpart : ∀ w', Keeps [] w1 w' → Cs w' ((⟨b2, 0, none⟩ : Addr).add 1) 0 (env e) := fun w' k' => by
    rw [add_mk, Nat.zero_add]
    exact (B.keep k' (by simp)).cs 1 _ rfl
  refine M.loop3_by (fun x d y w' => ∃ i : Nat, y = i ∧ i ≤ l.length ∧ d = ((l.take i).foldl (doStep e) ([], cut)).2 ∧ Own 35 3 w' x ((((l.take i).foldl (doStep e) ([], cut)).1).flatMap env) ∧ (∀ z ∈ x.blk, w1.heap.size ≤ z) ∧ Keeps [] w1 w') (fun _ _ y _ => l.length - y.toNat)
    ⟨0, rfl, by omega, rfl, Own.nil _ _ _, by simp [SV.blk], Keeps.refl _ _⟩ ?_
  rintro x d y w2 J ⟨i, rfl, hi, rfl, o2, f2, k2⟩ hJ
  have hfl := fold_len e (l.take i) ([], cut)
  have htl : (l.take i).length ≤ i := List.length_take_le _ _
  simp only [List.length_nil, Nat.zero_add] at hfl
  refine M.ite_by (fun c => ?_) (fun c => ?_)
  · have c := of_decide_eq_true c
    have il : i < l.length := by omega
    have ei := List.getElem?_eq_getElem il
    have hmem := List.getElem_mem il
    have hstep : (l.take (i + 1)).foldl (doStep e) ([], cut) = doStep e ((l.take i).foldl (doStep e) ([], cut)) l[i] := by
      rw [List.take_add_one, ei, List.foldl_append]; rfl
    obtain ⟨ht1, ht2⟩ := ht _ hmem
    generalize l[i] = z at *
    generalize (l.take i).foldl (doStep e) ([], cut) = acc at *
    have hlen2 := doStep_len e acc z
    refine M.join_by (fun (J2 : SV → Bool → World → Prop) => ∀ x' w', Own 35 3 w' x' ((doStep e acc z).1.flatMap env) → (∀ y ∈ x'.blk, w1.heap.size ≤ y) → Keeps [] w1 w' → J2 x' (doStep e acc z).2 w') (fun x' w' o' f' k' => ?_) fun J2 hJ2 => ?_
    · rw [w64 (by omega) (by omega)]
      exact hJ _ _ _ _ ⟨i + 1, by omega, by omega, by rw [hstep], by rw [hstep]; exact o', f', k'⟩ (by omega)
    · unfold doStep at hJ2
      dsimp only at hJ2
      have hal : (if !acc.2 && decide (kLt e.1 z.1) then (acc.1 ++ [e], true) else acc).1.length ≤ acc.1.length + 1 := by split <;> simp <;> omega
      refine M.join_by (fun (J3 : SV → Bool → World → Prop) => ∀ x' w', Own 35 3 w' x' ((if !acc.2 && decide (kLt e.1 z.1) then (acc.1 ++ [e], true) else acc).1.flatMap env) → (∀ y ∈ x'.blk, w1.heap.size ≤ y) → Keeps [] w1 w' → J3 x' (if !acc.2 && decide (kLt e.1 z.1) then (acc.1 ++ [e], true) else acc).2 w') (fun x' w3 o3 f3 k3 => M.drew_by ?_) fun J3 hJ3 => ?_
      · generalize (if !acc.2 && decide (kLt e.1 z.1) then (acc.1 ++ [e], true) else acc) = a at *
        have kd := Keeps.drew [] w3
        have k4 := k3.trans kd (by simp)
        have o4 := o3.keep kd (by simp)
        have hs4 := hs.1.keep (k1.trans k4 (by simp)) (by simp)
        obtain ⟨ax, hax⟩ := hs4.some (by omega)
        have B4 := B.keep k4 (by simp)
        refine ⟨ax, hax, by omega, by omega, _, rows_at0 env3 hs4 hax ei (v := .int .u32 (z.1.1 : Int)) rfl, _, rows_at env3 hs4 hax ei (j := 1) (v := .int .i64 z.1.2) rfl, _, B4.cell 1, _, B4.cell 2, ?_⟩
        have hkb := key_beq z.1 e.1
        try dsimp only
        rw [hkb]
        refine M.ite_by (fun c2 => ?_) (fun c2 => ?_)
        · have c2 : z.1 ≠ e.1 := by simpa using c2
          rw [if_neg c2] at hJ2
          exact ⟨ax, hax, by omega, by omega, _, _, _, rows_cs env3 hs4 hax ei, app_e z k4 f3 o4 (by omega) fun r w5 o5 f5 k5 => hJ2 r w5 o5 f5 k5⟩
        · have c2 : z.1 = e.1 := by simpa using c2
          rw [if_pos c2] at hJ2
          exact hJ2 _ _ o4 f3 k4
      · have kd := Keeps.drew [] w2
        have k3 := k2.trans kd (by simp)
        have o3 := o2.keep kd (by simp)
        refine M.join_by (fun (J4 : Bool → World → Prop) => ∀ w', Own 35 3 w' x (acc.1.flatMap env) → Keeps [] w1 w' → J4 (!acc.2 && decide (kLt e.1 z.1)) w') (fun w4 o4 k4 => ?_) fun J4 hJ4 => M.drew_by ?_
        · refine M.ite_by (fun c2 => ?_) (fun c2 => ?_)
          · rw [c2, if_pos rfl] at hJ3
            exact ⟨_, _, _, hpart _ k4, app_e e k4 f2 o4 (by omega) fun r w5 o5 f5 k5 => hJ3 r w5 o5 f5 k5⟩
          · rw [c2, if_neg (by simp)] at hJ3
            exact hJ3 _ _ o4 f2 k4
        · refine M.ite_by (fun c2 => ?_) (fun c2 => ?_)
          · have hs4 := hs.1.keep (k1.trans k3 (by simp)) (by simp)
            obtain ⟨ax, hax⟩ := hs4.some (by omega)
            have B4 := B.keep k3 (by simp)
            refine ⟨ax, hax, by omega, by omega, _, B4.cell 1, _, B4.cell 2, _, rows_at0 env3 hs4 hax ei (v := .int .u32 (z.1.1 : Int)) rfl, _, rows_at env3 hs4 hax ei (j := 1) (v := .int .i64 z.1.2) rfl, (less_c he ⟨ht1, ht2⟩).mono fun e' w4 g => ?_⟩
            obtain ⟨r4, rfl, rfl, k4⟩ := g
            rw [c2, Bool.true_and] at hJ4
            exact ⟨_, rfl, hJ4 _ (o3.keep k4 (by simp)) (k3.trans k4 (by simp))⟩
          · rw [c2, Bool.false_and] at hJ4
            exact hJ4 _ o3 k3
  · have c := of_decide_eq_false c
    obtain rfl : i = l.length := by omega
    rw [List.take_length] at o2 hfl ⊢
    unfold doA
    dsimp only
    have hs1 := k1.size
    refine M.join_by (fun (J2 : SV → World → Prop) => ∀ x' w', Own 35 3 w' x' ((if (l.foldl (doStep e) ([], cut)).2 then (l.foldl (doStep e) ([], cut)).1 else (l.foldl (doStep e) ([], cut)).1 ++ [e]).flatMap env) → (∀ y ∈ x'.blk, w1.heap.size ≤ y) → Keeps [] w1 w' → J2 x' w') (fun x' w' o' f' k' => ⟨o'.rd, fun y hy => ⟨by have := f' y hy; omega, o'.lt y hy⟩, k1.trans k' (by simp)⟩) fun J2 hJ2 => ?_
    refine M.ite_by (fun c2 => ?_) (fun c2 => ?_)
    · have c2 : (l.foldl (doStep e) ([], cut)).2 = false := by simpa using c2
      rw [if_neg (by rw [c2]; simp)] at hJ2
      exact ⟨_, _, _, hpart _ k2, app_e e k2 f2 o2 (by omega) fun r w5 o5 f5 k5 => hJ2 r w5 o5 f5 k5⟩
    · have c2 : (l.foldl (doStep e) ([], cut)).2 = true := by simpa using c2
      rw [if_pos c2] at hJ2
      exact hJ2 _ _ o2 f2 k2
end Go.Proofs.Ytnfmkedblnajlaa
