/-
  Both tables side by side.
-/
import Derived.Test.YtnkpjlojijppiaaIgpS
namespace Go.Proofs.Ytnkpjlojijppiaa
set_option linter.unusedVariables false
set_option linter.unusedSimpArgs false
open Go.Sp
open Go.RowKit (Below)

/-- Has a way the address, and does it lead on? -/
def IS.cond (A : Nat) (y : Wy) : Bool := hasB y.pf A && !infB y.cost
theorem cond_opn {S : IS} (g : S.good) {A m : Nat} {y : Wy} (hy : S.all[m]? = some y) : IS.cond A y = true ↔ (S.opn y.pf = true ∧ hasB y.pf A = true) := by
  obtain ⟨v, h1, h2, h3, h4⟩ := IS.all_at g hy
  unfold IS.cond IS.opn
  rw [h2, h3]
  simp only [Bool.and_eq_true, Bool.true_and]
  exact ⟨fun h => ⟨h.2, h.1⟩, fun h => ⟨h.2, h.1⟩⟩
theorem all_full {S : IS} {k : Key} (hk : (tget S.L k).isSome = true) : ∃ m : Nat, m < S.all.length ∧ S.all[m]? = some (S.h k) := by
  obtain ⟨z, hz, rfl⟩ := tget_isSome.1 hk
  obtain ⟨m, hm, he⟩ := List.getElem_of_mem hz
  exact ⟨m, by simp [IS.all, hm], by simp [IS.all, hm, he]⟩
theorem opn_some {S : IS} {k : Key} (h : S.opn k = true) : (tget S.L k).isSome = true := by
  unfold IS.opn at h
  simp only [Bool.and_eq_true] at h
  exact h.1
theorem best_told {S : IS} (g : S.good) {A q : Nat} {y : Wy} (hq : S.all[q]? = some y) (hc : IS.cond A y = true) (hm : ∀ (m : Nat) (z : Wy), m < S.all.length → S.all[m]? = some z → IS.cond A z = true → z.pf.2 ≤ y.pf.2) : S.told A y true := by
  obtain ⟨v, h1, h2, h3, h4⟩ := IS.all_at g hq
  obtain ⟨c1, c2⟩ := (cond_opn g hq).1 hc
  refine .inl ⟨y.pf, ⟨c1, c2, fun k' h1 h2 => ?_⟩, h3.symm, rfl⟩
  have hs := opn_some h1
  obtain ⟨m, hm1, hm2⟩ := all_full hs
  have hp := (g.ok _ hs).1
  have := hm m _ hm1 hm2 ((cond_opn g hm2).2 ⟨by rw [hp]; exact h1, by rw [hp]; exact h2⟩)
  rw [hp] at this; exact this
theorem none_told {S : IS} (g : S.good) {A : Nat} (hm : ∀ (m : Nat) (z : Wy), m < S.all.length → S.all[m]? = some z → IS.cond A z = false) : S.told A Wy.zero false := by
  refine .inr ⟨fun k hk => ?_, rfl, rfl⟩
  have hs := opn_some hk
  obtain ⟨m, hm1, hm2⟩ := all_full hs
  have hp := (g.ok _ hs).1
  cases hb : hasB k A with
  | false => rfl
  | true =>
    have := (cond_opn (A := A) g hm2).2 ⟨by rw [hp]; exact hk, by rw [hp]; exact hb⟩
    rw [hm m _ hm1 hm2] at this; cases this
theorem told_same {S : IS} {A : Nat} {x y : Wy} {a b : Bool} (h : S.told A x a) (k : S.told A y b) : x = y ∧ a = b := by
  rcases h with ⟨q, hq, rfl, rfl⟩ | ⟨hn, rfl, rfl⟩
  · obtain ⟨rfl, rfl⟩ := told_best hq k; exact ⟨rfl, rfl⟩
  · obtain ⟨rfl, rfl⟩ := told_no hn k; exact ⟨rfl, rfl⟩
theorem rmatch_c {w : World} {E : List Nat} {q : Nat} {S : IS} (R : RAt w E q S) (g : S.good) {A : Nat} (hA : A < 4294967296) :
    Calls Try.prog 43 #[.pointer (some ⟨q, 0, none⟩), .int .u32 (A : Int)] w (R43 fun x1 x2 x3 x4 x5 x6 ok w' => (∃ x : Wy, S.told A x ok ∧ x1 = (x.pf.1 : Int) ∧ x2 = x.pf.2 ∧ x3 = x.direct ∧ x4 = x.link ∧ x5 = (x.next : Int) ∧ x6 = x.cost) ∧ Keeps [] w w') := by
  obtain ⟨hE, hqE, s, Q, rd, hs⟩ := R
  have hsl := rows_len wy6 (by omega) rd
  have hal := S.all_len
  have hfew := g.few
  refine F43_ok (M.new_blk fun b2 w1 hb2 B k1 => (rclean_c 13830554455654793216).mono fun e w2 h => ?_)
  obtain ⟨r2, rfl, rfl, hw⟩ := h
  obtain rfl := hw.symm
  rw [show cleanN 13830554455654793216 = fInf by decide +kernel]
  have hb2l := B.lt
  refine ⟨_, rfl, M.loop2_by (fun x y w' => ∃ j : Nat, y = j ∧ j ≤ S.all.length ∧ Keeps [] w1 w' ∧ ((x = -1 ∧ ∀ (m : Nat) (y : Wy), m < j → S.all[m]? = some y → IS.cond A y = false) ∨ (∃ (q : Nat) (yq : Wy), x = q ∧ q < j ∧ S.all[q]? = some yq ∧ IS.cond A yq = true ∧ ∀ (m : Nat) (y : Wy), m < j → S.all[m]? = some y → IS.cond A y = true → y.pf.2 ≤ yq.pf.2))) (fun _ y _ => S.all.length - y.toNat)
      ⟨0, rfl, by omega, Keeps.refl _ _, .inl ⟨rfl, by intro m k h; omega⟩⟩ ?_⟩
  rintro bi y w6 J1 ⟨j, rfl, hj, k6, hbest⟩ hJ1
  have k06 := k1.trans k6 (by simp)
  have Q6 := Q.keep k06 (by simp)
  refine ⟨_, rfl, _, Q6.cell 0, M.ite_by (fun c => ?_) (fun c => ?_)⟩
  · have c := of_decide_eq_true c
    have jl : j < S.all.length := by omega
    have ej := List.getElem?_eq_getElem jl
    obtain ⟨_, _, _, _, hoj⟩ := IS.all_at g ej
    have hlast : ∀ {m : Nat} {k : Wy}, m < j + 1 → S.all[m]? = some k → (m < j ∨ k = S.all[j]) := by
      intro m k h1 h2
      by_cases h3 : m < j
      · exact .inl h3
      · right
        obtain rfl : m = j := by omega
        rw [ej] at h2; cases h2; rfl
    generalize S.all[j] = yj at *
    refine M.join_by (fun (J : Int → World → Prop) => ∀ (x' : Int) (w' : World), Keeps [] w1 w' → ((x' = -1 ∧ ∀ (m : Nat) (y : Wy), m < j + 1 → S.all[m]? = some y → IS.cond A y = false) ∨ (∃ (q : Nat) (yq : Wy), x' = q ∧ q < j + 1 ∧ S.all[q]? = some yq ∧ IS.cond A yq = true ∧ ∀ (m : Nat) (y : Wy), m < j + 1 → S.all[m]? = some y → IS.cond A y = true → y.pf.2 ≤ yq.pf.2)) → J x' w') ?_ ?_
    · intro x' w' h1 h2
      rw [w64 (by omega) (by omega)]
      exact hJ1 _ _ _ ⟨j + 1, by omega, by omega, h1, h2⟩ (by omega)
    · intro J2 hJ2
      refine M.join_by (fun (J : Bool → World → Prop) => ∀ (t : Bool) (w' : World), Keeps [] w1 w' → t = (IS.cond A yj && (decide (bi < 0) || (match S.all[bi.toNat]? with | some yq => decide (yq.pf.2 < yj.pf.2) | none => false))) → J t w') ?_ ?_
      · intro t w' h1 h2
        refine M.ite_by (fun ct => ?_) (fun ct => ?_)
        · rw [ct] at h2
          have h2 := h2.symm
          rw [Bool.and_eq_true] at h2
          obtain ⟨h21, h22⟩ := h2
          refine hJ2 _ _ h1 (.inr ⟨j, yj, rfl, by omega, ej, h21, ?_⟩)
          intro m k hm hk hb
          rcases hlast hm hk with h3 | h3
          · rcases hbest with ⟨rfl, h4⟩ | ⟨q, kq, rfl, hq, hkq, hbq, h4⟩
            · rw [h4 m k h3 hk] at hb; cases hb
            · have h5 := h4 m k h3 hk hb
              rw [Bool.or_eq_true] at h22
              rcases h22 with h6 | h6
              · have := of_decide_eq_true h6; omega
              · rw [Int.toNat_natCast, hkq] at h6
                have := of_decide_eq_true h6
                omega
          · rw [h3]; exact Int.le_refl _
        · rw [ct] at h2
          refine hJ2 _ _ h1 ?_
          rcases hbest with ⟨rfl, h4⟩ | ⟨q, kq, rfl, hq, hkq, hbq, h4⟩
          · left
            refine ⟨rfl, fun m k hm hk => ?_⟩
            rcases hlast hm hk with h3 | h3
            · exact h4 m k h3 hk
            · rw [h3]
              rw [show decide ((-1 : Int) < 0) = true from rfl, Bool.true_or, Bool.and_true] at h2
              exact h2.symm
          · right
            refine ⟨q, kq, rfl, by omega, hkq, hbq, fun m k hm hk hb => ?_⟩
            rcases hlast hm hk with h3 | h3
            · exact h4 m k h3 hk hb
            · rw [h3] at hb ⊢
              rw [hb, Int.toNat_natCast, hkq] at h2
              rw [decide_eq_false (by omega), Bool.false_or, Bool.true_and] at h2
              have := of_decide_eq_false h2.symm
              omega
      · intro J3 hJ3
        have kd := Keeps.drew [] w6
        have k8 := k6.trans kd (by simp)
        have k08 := k1.trans k8 (by simp)
        have Q8 := Q.keep k08 (by simp)
        have rd8 := rd.keep k08 (by simp)
        obtain ⟨a, ha5⟩ := rd8.some (by omega)
        have e0 := rows_at0 wy6 rd8 ha5 ej (v := .int .u32 (yj.pf.1 : Int)) rfl
        have e1 := rows_at wy6 rd8 ha5 ej (j := 1) (v := .int .i64 yj.pf.2) rfl
        refine M.drew_by ⟨_, rfl, _, Q8.cell 0, a, ha5, by omega, by omega, _, e0, _, e1, (has_c hoj.ty.1 hA).mono fun e w9 h => ?_⟩
        obtain ⟨r9, rfl, rfl, k9⟩ := h
        have k19 := k8.trans k9 (by simp)
        have k09 := k1.trans k19 (by simp)
        have Q9 := Q.keep k09 (by simp)
        have rd9 := rd.keep k09 (by simp)
        refine ⟨_, rfl, M.ite_by (fun c8 => ?_) (fun c8 => hJ3 _ _ k19 (by unfold IS.cond; rw [c8]; rfl))⟩
        have e5 := rows_at wy6 rd9 ha5 ej (j := 5) (v := .float .f64 yj.cost) rfl
        refine ⟨_, rfl, _, Q9.cell 0, a, ha5, by omega, by omega, _, e5, (rmless_c yj.cost fInf).mono fun e w10 h => ?_⟩
        obtain ⟨r10, rfl, rfl, hw⟩ := h
        obtain rfl := hw.symm
        rw [hoj.clean, show cleanN fInf = fInf by decide +kernel]
        have hib := infB_pos hoj.le
        refine ⟨_, rfl, M.ite_by (fun c9 => ?_) (fun c9 => hJ3 _ _ k19 (by unfold IS.cond; rw [hib, c9]; simp))⟩
        refine M.ite_by (fun c10 => ?_) (fun c10 => ?_)
        · exact hJ3 _ _ k19 (by unfold IS.cond; rw [c8, hib, c9, c10]; rfl)
        · have c10' := of_decide_eq_false c10
          rcases hbest with ⟨rfl, h4⟩ | ⟨q, kq, rfl, hq, hkq, hbq, h4⟩
          · omega
          · have g1 := rows_at wy6 rd9 ha5 ej (j := 1) (v := .int .i64 yj.pf.2) rfl
            have g2 := rows_at wy6 rd9 ha5 hkq (j := 1) (v := .int .i64 kq.pf.2) rfl
            refine ⟨_, rfl, _, rfl, _, Q9.cell 0, a, ha5, by omega, by omega, _, g1, _, Q9.cell 0, a, ha5, by omega, by omega, _, g2, hJ3 _ _ k19 ?_⟩
            unfold IS.cond
            rw [c8, hib, c9, c10, Int.toNat_natCast, hkq]; simp
  · have c := of_decide_eq_false c
    have hjl : j = S.all.length := by omega
    subst hjl
    have hs06 := k6.size
    rcases hbest with ⟨rfl, h4⟩ | ⟨qi, yq, rfl, hq, hyq, hbq, h4⟩
    · refine M.ite_tt (M.stA_blk (B.keep k6 (by simp)) rfl fun w5 B5 k5 => ⟨_, _, _, _, _, _, B5.cs 0 _ rfl, ⟨Wy.zero, none_told g h4, rfl, rfl, rfl, rfl, rfl, rfl⟩, k06.trans k5 (by simp; omega)⟩)
    · have rd6 := rd.keep k06 (by simp)
      obtain ⟨a, ha5⟩ := rd6.some (by omega)
      refine M.ite_n (decide_eq_false (by omega)) ⟨_, rfl, _, Q6.cell 0, a, ha5, by omega, by omega, _, _, _, _, _, _, rows_cs wy6 rd6 ha5 hyq, M.stA_blk (B.keep k6 (by simp)) rfl fun w5 B5 k5 => ⟨_, _, _, _, _, _, B5.cs 0 _ rfl, ⟨yq, best_told g hyq hbq h4, rfl, rfl, rfl, rfl, rfl, rfl⟩, k06.trans k5 (by simp; omega)⟩⟩
@[reducible] def As.agg (x : As) : Value := .agg #[.int .i64 x.kind, .int .u32 (x.x.pf.1 : Int), .int .i64 x.x.pf.2, .bool x.x.direct, .int .i64 x.x.link, .int .u32 (x.x.next : Int), .float .f64 x.x.cost, .int .u32 (x.A : Int), .bool x.few]
theorem iway_c {w : World} {x : As} (hx : x.ok) : Calls Try.prog 39 #[x.agg] w (R39 fun x1 x2 x3 x4 x5 x6 w' => (∃ y : Wy, y.ty ∧ x1 = (y.pf.1 : Int) ∧ x2 = y.pf.2 ∧ x3 = y.direct ∧ x4 = y.link ∧ x5 = (y.next : Int) ∧ x6 = y.cost) ∧ Keeps [] w w') := by
  refine F39_ok (M.new_blk fun b w1 hb B k1 => M.new_blk fun c w2 hc C k2 => ?_)
  have hbl := B.lt
  have hcl := C.lt
  have hs1 := k1.size
  have B := B.keep k2 (by simp)
  have k02 := k1.trans k2 (by simp)
  have hpart : Cs w2 ((⟨b, 0, none⟩ : Addr).add 1) 0 x.x.cells := by
    rw [add_mk, Nat.zero_add]
    exact B.cs 1 _ rfl
  refine ⟨_, B.cell 8, M.ite_by (fun c1 => ?_) (fun c1 => ?_)⟩
  · refine ⟨_, _, _, _, _, _, hpart, (kway_c hx.1).mono fun e w3 h => ?_⟩
    obtain ⟨x1, x2, x3, x4, x5, x6, rfl, ⟨y, -, hyt, rfl, rfl, rfl, rfl, rfl, rfl⟩, k3⟩ := h
    exact ⟨_, _, _, _, _, _, rfl, M.stA_blk (C.keep k3 (by simp)) rfl fun w4 C4 k4 => ⟨_, _, _, _, _, _, C4.cs 0 _ rfl, ⟨y, hyt, rfl, rfl, rfl, rfl, rfl, rfl⟩, (k02.trans k3 (by simp)).trans k4 (by simp; omega)⟩⟩
  · exact ⟨_, _, _, _, _, _, hpart, M.stA_blk C rfl fun w4 C4 k4 => ⟨_, _, _, _, _, _, C4.cs 0 _ rfl, ⟨x.x, hx.1, rfl, rfl, rfl, rfl, rfl, rfl⟩, k02.trans k4 (by simp; omega)⟩⟩
/-- Both tables. -/
structure Pair (n : Nat) (w : World) (X E : List Nat) (p q : Nat) (S : IS) : Prop where
  a : IgpAt w X p S
  b : RAt w E q S
  dis : ∀ x ∈ X, x ∉ E
  ax : ∀ x ∈ X, n ≤ x
  ae : ∀ x ∈ E, n ≤ x
  sz : n ≤ w.heap.size
theorem Pair.new {n : Nat} {w w' : World} {X E : List Nat} {p q : Nat} {S : IS} (h : Pair n w X E p q S) (k : Keeps [] w w') : Pair n w' X E p q S :=
  ⟨h.a.keep k (by simp), h.b.keep k (by simp), h.dis, h.ax, h.ae, Nat.le_trans h.sz k.size⟩
/-- What an ask leaves: only the tables' blocks are written. -/
def Fr (D : List Nat) (w w' : World) (D' : List Nat) : Prop := Keeps D w w' ∧ From D w D'
theorem Fr.old {D D' : List Nat} {w w' : World} {n : Nat} (h : Fr D w w' D') (hD : ∀ y ∈ D, n ≤ y) (hw : n ≤ w.heap.size) : ∀ y ∈ D', n ≤ y := From.old h.2 hD hw
theorem Fr.then {D D' : List Nat} {w w' w'' : World} (h : Fr D w w' D') (k : Keeps [] w' w'') : Fr D w w'' D' := ⟨h.1.trans k (by simp), h.2⟩
theorem bits_refl (x : Wy) : bitsW x x = true := by simp [bitsW, likeW]
theorem ido_c {n : Nat} {w : World} {X E : List Nat} {p q : Nat} {S : IS} (T : Pair n w X E p q S) {x : As} (hx : x.ok) :
    Calls Try.prog 17 #[.pointer (some ⟨p, 0, none⟩), .pointer (some ⟨q, 0, none⟩), x.agg] w (R17 fun r w' => r = true ∧ ∃ X' E' S', Fr (X ++ E) w w' (X' ++ E') ∧ Pair n w' X' E' p q S') := by
  refine F17_ok (M.new_blk fun b2 w1 hb2 B k1 => ⟨_, _, _, _, _, _, _, _, _, B.cs 0 _ rfl, (iway_c hx).mono fun e w2 h => ?_⟩)
  obtain ⟨y1, y2, y3, y4, y5, y6, rfl, ⟨y, hy, rfl, rfl, rfl, rfl, rfl, rfl⟩, k2⟩ := h
  have k02 := k1.trans k2 (by simp)
  have B2 := B.keep k2 (by simp)
  have hb2l := B.lt
  have hs1 := k1.size
  have hs2 := k2.size
  refine ⟨_, _, _, _, _, _, rfl, M.new_blk fun b3 w3 hb3 C k3 => M.stA_blk C rfl fun w4 C4 k4 => ⟨_, (B2.keep (k3.trans k4 (by simp; omega) : Keeps [] w2 w4) (by simp)).cell 0, ?_⟩⟩
  have C4 : Blk w4 b3 33 y.cells := C4
  have k24 : Keeps [] w2 w4 := k3.trans k4 (by simp; omega)
  have k04 := k02.trans k24 (by simp)
  have B4 := B2.keep k24 (by simp)
  have T4 := T.new k04
  have hb3l := C4.lt
  have hX : ∀ x ∈ X, x < w.heap.size := T.a.lt
  have hE : ∀ x ∈ E, x < w.heap.size := T.b.1
  have hs4 := k04.size
  have hb2n : ∀ {D : List Nat} {u : World}, w.heap.size ≤ u.heap.size → True := fun _ => trivial
  refine M.join_by (fun (J : World → Prop) => ∀ w' X' E' S', Fr (X ++ E) w w' (X' ++ E') → Blk w' b2 36 [.int .i64 x.kind, .int .u32 (x.x.pf.1 : Int), .int .i64 x.x.pf.2, .bool x.x.direct, .int .i64 x.x.link, .int .u32 (x.x.next : Int), .float .f64 x.x.cost, .int .u32 (x.A : Int), .bool x.few] → Blk w' b3 33 y.cells → Pair n w' X' E' p q S' → J w') (fun w5 X5 E5 S5 l5 B5 C5 T5 => ?_) fun J hJ => ?_
  · have hA := hx.2
    have g5 := T5.a.good
    refine ⟨_, B5.cell 7, (imatch_c T5.a hA).mono fun e w6 h => ?_⟩
    obtain ⟨u1, u2, u3, u4, u5, u6, ok6, rfl, ⟨u, hu, rfl, rfl, rfl, rfl, rfl, rfl⟩, k6⟩ := h
    refine ⟨_, _, _, _, _, _, _, rfl, M.new_blk fun b7 w7 hb7 D7 k7 => M.stA_blk D7 rfl fun w8 D8 k8 => ?_⟩
    have k58 : Keeps [] w5 w8 := (k6.trans k7 (by simp)).trans k8 (by have := k6.size; simp; omega)
    have T8 := T5.new k58
    refine ⟨_, (B5.keep k58 (by simp)).cell 7, (rmatch_c T8.b g5 hA).mono fun e w9 h => ?_⟩
    obtain ⟨v1, v2, v3, v4, v5, v6, ok9, rfl, ⟨v, hv, rfl, rfl, rfl, rfl, rfl, rfl⟩, k9⟩ := h
    obtain ⟨rfl, rfl⟩ := told_same hu hv
    refine ⟨_, _, _, _, _, _, _, rfl, M.new_blk fun b10 w10 hb10 D10 k10 => M.stA_blk D10 rfl fun w11 D11 k11 => ?_⟩
    have k811 : Keeps [] w8 w11 := (k9.trans k10 (by simp)).trans k11 (by have := k9.size; simp; omega)
    have T11 := T8.new k811
    have C11 := (C5.keep k58 (by simp)).keep k811 (by simp)
    have D811 := D8.keep k811 (by simp)
    refine ⟨_, C11.cell 0, _, C11.cell 1, (iget_c T11.a y.pf.1 y.pf.2).mono fun e w12 h => ?_⟩
    obtain ⟨z1, z2, z3, z4, z5, z6, ok12, rfl, ⟨rfl, rfl, rfl, rfl, rfl, rfl⟩, rfl, k12⟩ := h
    rw [show ((y.pf.1, y.pf.2) : Key) = y.pf from rfl]
    refine ⟨_, _, _, _, _, _, _, rfl, M.new_blk fun b13 w13 hb13 D13 k13 => M.stA_blk D13 rfl fun w14 D14 k14 => ?_⟩
    have k1114 : Keeps [] w11 w14 := (k12.trans k13 (by simp)).trans k14 (by have := k12.size; simp; omega)
    have T14 := T11.new k1114
    have C14 := C11.keep k1114 (by simp)
    refine ⟨_, C14.cell 0, _, C14.cell 1, (rget_c T14.b g5 y.pf.1 y.pf.2).mono fun e w15 h => ?_⟩
    obtain ⟨z1, z2, z3, z4, z5, z6, ok15, rfl, ⟨rfl, rfl, rfl, rfl, rfl, rfl⟩, rfl, k15⟩ := h
    rw [show ((y.pf.1, y.pf.2) : Key) = y.pf from rfl]
    refine ⟨_, _, _, _, _, _, _, rfl, M.new_blk fun b16 w16 hb16 D16 k16 => M.stA_blk D16 rfl fun w17 D17 k17 => ?_⟩
    have k1417 : Keeps [] w14 w17 := (k15.trans k16 (by simp)).trans k17 (by have := k15.size; simp; omega)
    have T17 := T14.new k1417
    have C17 := C14.keep k1417 (by simp)
    have D817 := (D811.keep k1114 (by simp)).keep k1417 (by simp)
    have D1117 := (D11.keep k1114 (by simp)).keep k1417 (by simp)
    have D1417 := D14.keep k1417 (by simp)
    have k517 := ((k58.trans k811 (by simp)).trans k1114 (by simp)).trans k1417 (by simp)
    refine M.join_by (fun (J : Bool → World → Prop) => ∀ w', Keeps [] w17 w' → J true w') (fun w' k' => ⟨rfl, X5, E5, S5, l5.then (k517.trans k' (by simp)), T17.new k'⟩) fun J hJ => M.drew_by ?_
    have kd := Keeps.drew [] w17
    have C18 := C17.keep kd (by simp)
    have D818 := D817.keep kd (by simp)
    have D1118 := D1117.keep kd (by simp)
    have D1418 := D1417.keep kd (by simp)
    have D1718 := D17.keep kd (by simp)
    generalize w17.drew = w18 at *
    refine ⟨_, _, _, _, _, _, D818.cs 0 _ rfl, _, _, _, _, _, _, D1118.cs 0 _ rfl, (ibits_c u u).mono fun e w19 h => ?_⟩
    obtain ⟨r19, rfl, rfl, k19⟩ := h
    have C19 := C18.keep k19 (by simp)
    have D1419 := D1418.keep k19 (by simp)
    have D1719 := D1718.keep k19 (by simp)
    refine ⟨_, rfl, M.ite_y (bits_refl u) (M.ite_y (by simp) ⟨_, _, _, _, _, _, D1419.cs 0 _ rfl, _, _, _, _, _, _, D1719.cs 0 _ rfl, (ibits_c (S5.get y.pf) (S5.get y.pf)).mono fun e w20 h => ?_⟩)⟩
    obtain ⟨r20, rfl, rfl, k20⟩ := h
    have C20 := C19.keep k20 (by simp)
    have D1420 := D1419.keep k20 (by simp)
    have D1720 := D1719.keep k20 (by simp)
    refine ⟨_, rfl, M.ite_y (bits_refl _) (M.ite_y (by simp) ⟨_, _, _, _, _, _, C20.cs 0 _ rfl, _, _, _, _, _, _, D1420.cs 0 _ rfl, _, _, _, _, _, _, C20.cs 0 _ rfl, _, _, _, _, _, _, D1720.cs 0 _ rfl, (isame_c y (S5.get y.pf)).mono fun e w21 h => ?_⟩)⟩
    obtain ⟨r21, rfl, rfl, k21⟩ := h
    refine ⟨_, rfl, (D1720.keep k21 (by simp)).cs 0 _ rfl, (C20.keep k21 (by simp)).cs 0 _ rfl, (rsame15_c y (S5.get y.pf)).mono fun e w22 h => ?_⟩
    obtain ⟨r22, rfl, rfl, k22⟩ := h
    refine ⟨_, rfl, ?_⟩
    have := hJ _ (((kd.trans k19 (by simp)).trans k20 (by simp)).trans (k21.trans k22 (by simp)) (by simp))
    simpa using this
  · have hb2' : ∀ {D : List Nat} {u u' : World} {cs : List Value} {Ty : TypeId}, Blk u b2 Ty cs → Keeps D u u' → (∀ x ∈ D, x < w.heap.size ∨ w4.heap.size ≤ x) → Blk u' b2 Ty cs := fun B k h => B.keep k (fun hx => by have := h _ hx; have := B4.lt; omega)
    have hb3' : ∀ {D : List Nat} {u u' : World} {cs : List Value} {Ty : TypeId}, Blk u b3 Ty cs → Keeps D u u' → (∀ x ∈ D, x < w.heap.size ∨ w4.heap.size ≤ x) → Blk u' b3 Ty cs := fun B k h => B.keep k (fun hx => by have := h _ hx; omega)
    have g4 := T4.a.good
    refine M.ite_by (fun c => ?_) (fun c => ?_)
    · refine ⟨_, _, _, _, _, _, C4.cs 0 _ rfl, (iput_c T4.a hy).mono fun e w5 h => ?_⟩
      obtain ⟨a5, e5, rfl, rfl, rfl, X5, F5, k5, f5⟩ := h
      have B5 := hb2' B4 k5 (fun x hx => .inl (hX x hx))
      have C5 := hb3' C4 k5 (fun x hx => .inl (hX x hx))
      have R5 := T4.b.keep k5 (fun x hx hX => T.dis x hX hx)
      have hs5 := k5.size
      refine ⟨_, _, rfl, _, _, _, _, _, _, C5.cs 0 _ rfl, (rput_c R5 g4 hy).mono fun e w6 h => ?_⟩
      obtain ⟨a6, e6, rfl, rfl, rfl, E6, R6, k6, f6⟩ := h
      have B6 := hb2' B5 k6 (fun x hx => .inl (hE x hx))
      have C6 := hb3' C5 k6 (fun x hx => .inl (hE x hx))
      have hX5 : ∀ x ∈ X5, x ∈ X ∨ w4.heap.size ≤ x := f5
      have hX5l : ∀ x ∈ X5, x < w5.heap.size := F5.lt
      have hE6 : ∀ x ∈ E6, x ∈ E ∨ w5.heap.size ≤ x := f6
      have F6 := F5.keep k6 (fun x hx hE' => by
        rcases hX5 x hx with h | h
        · exact T.dis x h hE'
        · have := hE x hE'; omega)
      have T6 : Pair n w6 X5 E6 p q (S.put y).2.2 := ⟨F6, R6, fun x hx hx' => by
        rcases hE6 x hx' with h | h
        · rcases hX5 x hx with h2 | h2
          · exact T.dis x h2 h
          · have := hE x h; omega
        · have := hX5l x hx; omega, f5.old T.ax T4.sz, f6.old T.ae (by have := T4.sz; omega), by have := T4.sz; have := k6.size; omega⟩
      have l6 : Fr (X ++ E) w w6 (X5 ++ E6) := ⟨(k04.up.trans k5 (fun x hx => .inl (by simp [hx]))).trans k6 (fun x hx => .inl (by simp [hx])), fun x hx => by
        rcases List.mem_append.1 hx with h | h
        · rcases hX5 x h with h | h
          · exact .inl (by simp [h])
          · right; omega
        · rcases hE6 x h with h | h
          · exact .inl (by simp [h])
          · right; omega⟩
      have kd := Keeps.drew [] w6
      refine ⟨_, _, rfl, M.join_by (fun (J2 : Bool → World → Prop) => ∀ w', Keeps [] w6 w' → J2 false w') (fun w7 k7 => M.ite_ff (hJ w7 X5 E6 _ (l6.then k7) (B6.keep k7 (by simp)) (C6.keep k7 (by simp)) (T6.new k7))) fun J2 hJ2 => M.drew_by (M.ite_n (by simp) (M.ite_n (by simp) ?_))⟩
      have C7 := C6.keep kd (by simp)
      refine ⟨_, _, _, _, _, _, C7.cs 0 _ rfl, _, _, _, _, _, _, C7.cs 0 _ rfl, (iright_c hy.1).mono fun e w8 h => ?_⟩
      obtain ⟨r8, rfl, rfl, k8⟩ := h
      refine ⟨_, rfl, (C7.keep k8 (by simp)).cs 0 _ rfl, (rright15_c hy.1).mono fun e w9 h => ?_⟩
      obtain ⟨r9, rfl, rfl, k9⟩ := h
      refine ⟨_, rfl, ?_⟩
      have := hJ2 _ ((kd.trans k8 (by simp)).trans k9 (by simp))
      simpa using this
    · refine M.ite_by (fun c2 => ?_) (fun c2 => hJ w4 X E S ⟨k04.up, From.refl _ _⟩ B4 C4 T4)
      have kd := Keeps.drew [] w4
      have T5 := T4.new kd
      have B5 := B4.keep kd (by simp)
      have C5 := C4.keep kd (by simp)
      have hds := kd.size
      refine M.drew_by ?_
      generalize w4.drew = w5 at *
      refine ⟨_, C5.cell 0, _, C5.cell 1, _, C5.cell 0, _, C5.cell 1, (icut_c T5.a hy.1 y.pf.2).mono fun e w6 h => ?_⟩
      obtain ⟨r6, rfl, rfl, F6, k6⟩ := h
      rw [show ((y.pf.1, y.pf.2) : Key) = y.pf from rfl] at F6 ⊢
      have B6 := hb2' B5 k6 (fun x hx => .inl (hX x hx))
      have C6 := hb3' C5 k6 (fun x hx => .inl (hX x hx))
      have R6 := T5.b.keep k6 (fun x hx hX => T.dis x hX hx)
      refine ⟨_, rfl, C6.cell 0, C6.cell 1, (rcut_c R6 g4 y.pf.1 y.pf.2).mono fun e w7 h => ?_⟩
      obtain ⟨r7, rfl, rfl, E7, R7, k7, f7⟩ := h
      rw [show ((y.pf.1, y.pf.2) : Key) = y.pf from rfl] at R7 ⊢
      have B7 := hb2' B6 k7 (fun x hx => .inl (hE x hx))
      have C7 := hb3' C6 k7 (fun x hx => .inl (hE x hx))
      have F7 := F6.keep k7 T.dis
      have hE7 : ∀ x ∈ E7, x ∈ E ∨ w6.heap.size ≤ x := f7
      have hs6 := k6.size
      have T7 : Pair n w7 X E7 p q (S.cut y.pf) := ⟨F7, R7, fun x hx hx' => by
        rcases hE7 x hx' with h | h
        · exact T.dis x hx h
        · have := hX x hx; omega, T.ax, f7.old T.ae (by have := T5.sz; omega), by have := T5.sz; have := k7.size; omega⟩
      have l7 : Fr (X ++ E) w w7 (X ++ E7) := ⟨((k04.trans kd (by simp)).up.trans k6 (fun x hx => .inl (by simp [hx]))).trans k7 (fun x hx => .inl (by simp [hx])), fun x hx => by
        rcases List.mem_append.1 hx with h | h
        · exact .inl (by simp [h])
        · rcases hE7 x h with h | h
          · exact .inl (by simp [h])
          · right; omega⟩
      exact ⟨_, rfl, M.ite_n (by simp) (hJ w7 X E7 _ l7 B7 C7 T7)⟩
theorem ialike_c {n : Nat} {w : World} {X E : List Nat} {p q : Nat} {S : IS} (T : Pair n w X E p q S) :
    Calls Try.prog 18 #[.pointer (some ⟨p, 0, none⟩), .pointer (some ⟨q, 0, none⟩)] w (R18 fun r w' => r = true ∧ Keeps [] w w') := by
  refine F18_ok ((iall_c T.a).mono fun e w1 h => ?_)
  obtain ⟨r1, rfl, rd1, f1, k1⟩ := h
  have T1 := T.new k1
  obtain ⟨_, _, s, Q, rd, _⟩ := T1.b
  have hal := S.all_len
  have hfew := T.a.few
  have hl1 := rows_len wy6 (by omega) rd1
  have hl2 := rows_len wy6 (by omega) rd
  refine ⟨_, rfl, _, rfl, _, Q.cell 0, M.ite_n (by rw [hl1, hl2]; simp) ?_⟩
  refine M.loop1_by (fun x w' => ∃ i : Nat, x = i ∧ i ≤ S.all.length ∧ Keeps [] w1 w') (fun x _ => S.all.length - x.toNat) ⟨0, rfl, by omega, Keeps.refl _ _⟩ ?_
  rintro x w2 J ⟨i, rfl, hi, k2⟩ hJ
  refine M.ite_by (fun c => ?_) (fun c => ⟨rfl, k1.trans k2 (by simp)⟩)
  have c := of_decide_eq_true c
  have il : i < S.all.length := by omega
  have ei := List.getElem?_eq_getElem il
  generalize S.all[i] = y at *
  have kd := Keeps.drew [] w2
  have k3 := k2.trans kd (by simp)
  have rd3 := rd1.keep k3 (by simp)
  have rr3 := rd.keep k3 (by simp)
  have Q3 := Q.keep k3 (by simp)
  obtain ⟨a, ha⟩ := rd3.some (by omega)
  obtain ⟨b, hb⟩ := rr3.some (by omega)
  refine M.drew_by ⟨a, ha, by omega, by omega, _, rfl, _, _, _, _, _, _, rows_cs wy6 rd3 ha ei, _, Q3.cell 0, b, hb, by omega, by omega, _, _, _, _, _, _, rows_cs wy6 rr3 hb ei, (ibits_c y y).mono fun e w4 h => ?_⟩
  obtain ⟨r4, rfl, rfl, k4⟩ := h
  refine ⟨_, rfl, M.ite_n (by rw [bits_refl]; rfl) ?_⟩
  rw [w64 (by omega) (by omega)]
  exact hJ _ _ ⟨i + 1, by omega, by omega, k3.trans k4 (by simp)⟩ (by omega)
end Go.Proofs.Ytnkpjlojijppiaa
