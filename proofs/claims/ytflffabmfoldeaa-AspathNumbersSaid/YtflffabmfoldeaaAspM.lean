/-
  Which of two paths comes first.
-/
import Derived.Test.YtflffabmfoldeaaAspL
namespace Go.Proofs.Ytflffabmfoldeaa
set_option linter.unusedVariables false
set_option linter.unusedSimpArgs false
open Go.Sp

def cmpI (a b : Int) : Int := if a < b then -1 else if b < a then 1 else 0
def cmpW {α : Type} (f : α → α → Int) : List α → List α → Int
  | [], [] => 0
  | [], _ :: _ => -1
  | _ :: _, [] => 1
  | a :: x, b :: y => if f a b = 0 then cmpW f x y else f a b
def cmpP (x y : Int × List Int) : Int := if cmpI x.1 y.1 ≠ 0 then cmpI x.1 y.1 else if cmpI x.2.length y.2.length ≠ 0 then cmpI x.2.length y.2.length else cmpW cmpI x.2 y.2
def cmpL (x y : List (Int × List Int)) : Int := cmpW cmpP x y
theorem cmpI_zero {a b : Int} : cmpI a b = 0 ↔ a = b := by
  unfold cmpI
  constructor
  · intro h
    split at h
    · omega
    · split at h <;> omega
  · rintro rfl
    simp
theorem cmpI_anti (a b : Int) : cmpI b a = - cmpI a b := by
  unfold cmpI
  split <;> split <;> (try split) <;> omega
theorem cmpW_zero {α : Type} {f : α → α → Int} (hf : ∀ a b, f a b = 0 ↔ a = b) : ∀ (x y : List α), cmpW f x y = 0 ↔ x = y
  | [], [] => by simp [cmpW]
  | [], _ :: _ => by simp [cmpW]
  | _ :: _, [] => by simp [cmpW]
  | a :: x, b :: y => by
    unfold cmpW
    have := cmpW_zero hf x y
    split
    · rename_i h
      rw [this, (hf a b).1 h]; simp
    · rename_i h
      constructor
      · intro h'; exact absurd h' h
      · intro h'
        exact absurd ((hf a b).2 (List.cons.inj h').1) h
theorem cmpW_anti {α : Type} {f : α → α → Int} (hf : ∀ a b, f b a = - f a b) : ∀ (x y : List α), cmpW f y x = - cmpW f x y
  | [], [] => rfl
  | [], _ :: _ => rfl
  | _ :: _, [] => rfl
  | a :: x, b :: y => by
    unfold cmpW
    rw [cmpW_anti hf x y, hf a b]
    split <;> split <;> omega
theorem cmpP_zero (x y : Int × List Int) : cmpP x y = 0 ↔ x = y := by
  obtain ⟨a, l⟩ := x
  obtain ⟨b, m⟩ := y
  unfold cmpP
  dsimp only
  have h1 := @cmpI_zero a b
  have h2 := @cmpI_zero l.length m.length
  have h3 := cmpW_zero (fun a b => @cmpI_zero a b) l m
  split
  · rename_i h
    constructor
    · intro h'; exact absurd h' h
    · intro h'; exact absurd (h1.2 (Prod.mk.inj h').1) h
  · rename_i h
    have h : cmpI a b = 0 := Decidable.not_not.1 h
    obtain rfl := h1.1 h
    split
    · rename_i h
      constructor
      · intro h'; exact absurd h' h
      · intro h'
        obtain ⟨_, rfl⟩ := Prod.mk.inj h'
        exact absurd (h2.2 rfl) h
    · rw [h3]; simp
theorem cmpP_anti (x y : Int × List Int) : cmpP y x = - cmpP x y := by
  unfold cmpP
  have h1 := cmpI_anti x.1 y.1
  have h2 := cmpI_anti x.2.length y.2.length
  have h3 := cmpW_anti cmpI_anti x.2 y.2
  rw [h1, h2, h3]
  split <;> split <;> (try split) <;> (try split) <;> omega
theorem cmpL_zero (x y : List (Int × List Int)) : cmpL x y = 0 ↔ x = y := cmpW_zero cmpP_zero x y
theorem cmpL_anti (x y : List (Int × List Int)) : cmpL y x = - cmpL x y := cmpW_anti cmpP_anti x y
theorem cmpW_at {α : Type} {f : α → α → Int} {a b : List α} {i : Nat} {x y : α} (hx : a[i]? = some x) (hy : b[i]? = some y) : cmpW f (a.drop i) (b.drop i) = if f x y = 0 then cmpW f (a.drop (i + 1)) (b.drop (i + 1)) else f x y := by
  obtain ⟨h1, rfl⟩ := List.getElem?_eq_some_iff.1 hx
  obtain ⟨h2, rfl⟩ := List.getElem?_eq_some_iff.1 hy
  rw [List.drop_eq_getElem_cons h1, List.drop_eq_getElem_cons h2]
  rfl
theorem cmpW_end {α : Type} {f : α → α → Int} {a b : List α} {i : Nat} (h1 : a.length ≤ i) : cmpW f (a.drop i) (b.drop i) = if i < b.length then -1 else 0 := by
  rw [List.drop_eq_nil_of_le h1]
  split
  · rename_i h
    rw [List.drop_eq_getElem_cons h]; rfl
  · rw [List.drop_eq_nil_of_le (by omega)]; rfl
theorem cmpW_more {α : Type} {f : α → α → Int} {a b : List α} {i : Nat} (h1 : i < a.length) (h2 : b.length ≤ i) : cmpW f (a.drop i) (b.drop i) = 1 := by
  rw [List.drop_eq_nil_of_le h2, List.drop_eq_getElem_cons h1]; rfl
theorem isnan_c {w : World} (n : Int) : Calls Try.prog 73 #[.int .i64 n] w (R73 fun r w' => r = false ∧ w' = w) := F73_ok ⟨by simp, rfl⟩
theorem isnanu_c {w : World} (n : Int) : Calls Try.prog 76 #[.int .u32 n] w (R76 fun r w' => r = false ∧ w' = w) := F76_ok ⟨by simp, rfl⟩
theorem cmpi_c {w : World} (a b : Int) : Calls Try.prog 67 #[.int .i64 a, .int .i64 b] w (R67 fun r w' => r = cmpI a b ∧ w' = w) := by
  refine F67_ok ((isnan_c a).mono fun e w' g => ?_)
  obtain ⟨_, rfl, rfl, hw⟩ := g
  obtain rfl := hw.symm
  refine ⟨_, rfl, (isnan_c b).mono fun e w' g => ?_⟩
  obtain ⟨_, rfl, rfl, hw⟩ := g
  obtain rfl := hw.symm
  refine ⟨_, rfl, M.ite_ff (M.ite_ff ?_)⟩
  unfold cmpI
  refine M.ite_by (fun c => ?_) (fun c => M.ite_by (fun c2 => ?_) (fun c2 => ?_))
  · exact ⟨by rw [if_pos (of_decide_eq_true c)], rfl⟩
  · exact ⟨by rw [if_neg (of_decide_eq_false c), if_pos (of_decide_eq_true c2)], rfl⟩
  · exact ⟨by rw [if_neg (of_decide_eq_false c), if_neg (of_decide_eq_false c2)], rfl⟩
theorem cmpu_c {w : World} (a b : Int) : Calls Try.prog 74 #[.int .u32 a, .int .u32 b] w (R74 fun r w' => r = cmpI a b ∧ w' = w) := by
  refine F74_ok ((isnanu_c a).mono fun e w' g => ?_)
  obtain ⟨_, rfl, rfl, hw⟩ := g
  obtain rfl := hw.symm
  refine ⟨_, rfl, (isnanu_c b).mono fun e w' g => ?_⟩
  obtain ⟨_, rfl, rfl, hw⟩ := g
  obtain rfl := hw.symm
  refine ⟨_, rfl, M.ite_ff (M.ite_ff ?_)⟩
  unfold cmpI
  refine M.ite_by (fun c => ?_) (fun c => M.ite_by (fun c2 => ?_) (fun c2 => ?_))
  · exact ⟨by rw [if_pos (of_decide_eq_true c)], rfl⟩
  · exact ⟨by rw [if_neg (of_decide_eq_false c), if_pos (of_decide_eq_true c2)], rfl⟩
  · exact ⟨by rw [if_neg (of_decide_eq_false c), if_neg (of_decide_eq_false c2)], rfl⟩
theorem scmp_c {w : World} {s t : SV} {a b : List Int} (hs : Rd 1 w s (uval a)) (ht : Rd 1 w t (uval b)) (hb : a.length ≤ 1000000) : Calls Try.prog 68 #[s.v, t.v] w (R68 fun r w' => r = cmpW cmpI a b ∧ w' = w) := by
  have hsl := uval_len hs
  have htl := uval_len ht
  refine F68_ok (M.loop1_by (fun x w' => ∃ i : Nat, x = i ∧ i ≤ a.length ∧ cmpW cmpI (a.drop i) (b.drop i) = cmpW cmpI a b ∧ w' = w) (fun x _ => a.length - x.toNat) ⟨0, rfl, by omega, rfl, rfl⟩ ?_)
  rintro x w1 J ⟨i, rfl, hi, hc, hw⟩ hJ
  obtain rfl := hw.symm
  refine M.ite_by (fun c => ?_) (fun c => ?_)
  · have c := of_decide_eq_true c
    have il : i < a.length := by omega
    have ei := List.getElem?_eq_getElem il
    generalize a[i] = x at *
    refine M.idx_ld hs (uval_get ei) (M.ite_by (fun c2 => ?_) (fun c2 => ?_))
    · have c2 := of_decide_eq_true c2
      exact ⟨by rw [← hc, cmpW_more il (by omega)], rfl⟩
    · have c2 := of_decide_eq_false c2
      have jl : i < b.length := by omega
      have ej := List.getElem?_eq_getElem jl
      generalize b[i] = y at *
      refine M.idx_ld ht (uval_get ej) ((cmpu_c x y).mono fun e w' g => ?_)
      obtain ⟨_, rfl, rfl, hw⟩ := g
      obtain rfl := hw.symm
      rw [cmpW_at ei ej] at hc
      refine ⟨_, rfl, M.ite_by (fun c3 => ?_) (fun c3 => ?_)⟩
      · have c3 : cmpI x y ≠ 0 := by simpa using c3
        rw [if_neg c3] at hc
        exact ⟨hc, rfl⟩
      · have c3 : cmpI x y = 0 := by simpa using c3
        rw [if_pos c3] at hc
        rw [w64 (by omega) (by omega)]
        exact hJ _ _ ⟨i + 1, by omega, by omega, hc, rfl⟩ (by omega)
  · have c := of_decide_eq_false c
    rw [cmpW_end (by omega)] at hc
    refine M.ite_by (fun c2 => ?_) (fun c2 => ?_)
    · have c2 := of_decide_eq_true c2
      rw [if_pos (by omega)] at hc
      exact ⟨hc, rfl⟩
    · have c2 := of_decide_eq_false c2
      rw [if_neg (by omega)] at hc
      exact ⟨hc, rfl⟩
theorem cmpor_c {w : World} {s : SV} (x y z : Int) (hs : Rd 1 w s [Value.int .i64 x, Value.int .i64 y, Value.int .i64 z]) : Calls Try.prog 66 #[s.v] w (R66 fun r w' => r = (if x ≠ 0 then x else if y ≠ 0 then y else z) ∧ w' = w) := by
  have hl := hs.len
  have hl : s.len = 3 := by simp at hl; omega
  refine F66_ok (M.loop1_by (fun i w' => w' = w ∧ ∃ k : Nat, i = k ∧ (k = 0 ∨ (k = 1 ∧ x = 0) ∨ (k = 2 ∧ x = 0 ∧ y = 0) ∨ (k = 3 ∧ x = 0 ∧ y = 0 ∧ z = 0))) (fun x _ => 3 - x.toNat) ⟨rfl, 0, rfl, .inl rfl⟩ ?_)
  rintro i w1 J ⟨hw, k, rfl, hi⟩ hJ
  obtain rfl := hw.symm
  rw [hl]
  rcases hi with rfl | ⟨rfl, hx⟩ | ⟨rfl, hx, hy⟩ | ⟨rfl, hx, hy, hz⟩
  · refine M.ite_y (by decide) (M.idx_ld (j := 0) hs rfl (M.ite_by (fun c => ?_) (fun c => ?_)))
    · have c : x ≠ 0 := by simpa using c
      exact ⟨by rw [if_pos c], rfl⟩
    · have c : x = 0 := by simpa using c
      exact hJ _ _ ⟨rfl, 1, by decide, .inr (.inl ⟨rfl, c⟩)⟩ (by decide)
  · refine M.ite_y (by decide) (M.idx_ld (j := 1) hs rfl (M.ite_by (fun c => ?_) (fun c => ?_)))
    · have c : y ≠ 0 := by simpa using c
      exact ⟨by rw [if_neg (by omega), if_pos c], rfl⟩
    · have c : y = 0 := by simpa using c
      exact hJ _ _ ⟨rfl, 2, by decide, .inr (.inr (.inl ⟨rfl, hx, c⟩))⟩ (by decide)
  · refine M.ite_y (by decide) (M.idx_ld (j := 2) hs rfl (M.ite_by (fun c => ?_) (fun c => ?_)))
    · exact ⟨by rw [if_neg (by omega), if_neg (by omega)], rfl⟩
    · have c : z = 0 := by simpa using c
      exact hJ _ _ ⟨rfl, 3, by decide, .inr (.inr (.inr ⟨rfl, hx, hy, c⟩))⟩ (by decide)
  · refine M.ite_n (by decide) ⟨by rw [if_neg (by omega), if_neg (by omega), hz], rfl⟩
theorem cmpare_c {w : World} {x y : Sg} (hx : Rd 1 w x.2.1 (uval x.2.2)) (hy : Rd 1 w y.2.1 (uval y.2.2)) (hb : x.2.2.length ≤ 1000000) :
    Calls Try.prog 55 #[.agg #[.int .i64 x.1, x.2.1.v], .agg #[.int .i64 y.1, y.2.1.v]] w (R55 fun r w' => r = cmpP (pt x) (pt y) ∧ Keeps [] w w') := by
  have hxl := uval_len hx
  have hyl := uval_len hy
  refine F55_ok (M.new_blk fun b2 w1 hb1 B1 k1 => M.new_blk fun b4 w3 hb3 B3 k3 => M.drew_by ?_)
  have kd := Keeps.drew [] w3
  have k0 : Keeps [] w w3.drew := (k1.trans k3 (by simp)).trans kd (by simp)
  have B2 := (B1.keep k3 (by simp)).keep kd (by simp)
  have B4 := B3.keep kd (by simp)
  generalize w3.drew = w5 at *
  refine ⟨_, B2.cell 0, _, B4.cell 0, x.2.1, B2.cell 1, y.2.1, B4.cell 1, x.2.1, B2.cell 1, y.2.1, B4.cell 1, (cmpi_c x.1 y.1).mono fun e w' g => ?_⟩
  obtain ⟨_, rfl, rfl, hw⟩ := g
  obtain rfl := hw.symm
  refine ⟨_, rfl, B4.cell 1, B2.cell 1, B4.cell 1, B2.cell 1, (cmpi_c (x.2.1.len : Int) (y.2.1.len : Int)).mono fun e w' g => ?_⟩
  obtain ⟨_, rfl, rfl, hw⟩ := g
  obtain rfl := hw.symm
  refine ⟨_, rfl, B4.cell 1, B2.cell 1, (scmp_c (hx.keep k0 (by simp)) (hy.keep k0 (by simp)) hb).mono fun e w' g => ?_⟩
  obtain ⟨_, rfl, rfl, hw⟩ := g
  obtain rfl := hw.symm
  refine ⟨_, rfl, newn_k (n := 3) (sz := 1) (cs := [Value.int .i64 (cmpI x.1 y.1), Value.int .i64 (cmpI (x.2.1.len : Int) (y.2.1.len : Int)), Value.int .i64 (cmpW cmpI x.2.2 y.2.2)]) rfl (by omega) k0 fun b6 w6 g6 l6 o6 _ k6 => (cmpor_c _ _ _ o6.rd).mono fun e w' g => ?_⟩
  obtain ⟨_, rfl, rfl, hw⟩ := g
  obtain rfl := hw.symm
  refine ⟨_, rfl, ?_, k6⟩
  unfold cmpP pt
  rw [hxl, hyl]
theorem cmpf_c {w : World} {s t : SV} {A B : List Sg} (hs : Segs w s A) (ht : Segs w t B) (hb : A.length ≤ 1000000) (hin : ∀ x ∈ A, x.2.2.length ≤ 1000000) :
    Calls Try.prog 54 #[s.v, t.v, FV.v (FV.mk 55 [])] w (R54 fun r w' => r = cmpL (A.map pt) (B.map pt) ∧ Keeps [] w w') := by
  have hsl := hs.len
  have htl := ht.len
  refine F54_ok (M.loop1_by (fun x w' => ∃ i : Nat, x = i ∧ i ≤ A.length ∧ cmpW cmpP ((A.map pt).drop i) ((B.map pt).drop i) = cmpL (A.map pt) (B.map pt) ∧ Keeps [] w w') (fun x _ => A.length - x.toNat) ⟨0, rfl, by omega, rfl, Keeps.refl _ _⟩ ?_)
  rintro x w1 J ⟨i, rfl, hi, hc, k1⟩ hJ
  have hal : (A.map pt).length = A.length := List.length_map _
  have hbl : (B.map pt).length = B.length := List.length_map _
  refine M.ite_by (fun c => ?_) (fun c => ?_)
  · have c := of_decide_eq_true c
    have il : i < A.length := by omega
    have ei := List.getElem?_eq_getElem il
    have hxn := hin _ (List.getElem_mem il)
    generalize A[i] = x at *
    have h1 := hs.new k1
    obtain ⟨a, ha⟩ := h1.1.some (by omega)
    have e := sg_at h1.1 ha ei
    refine ⟨a, ha, by omega, by omega, _, e.1, x.2.1, e.2, M.new_blk fun b w2 hb B2 k2 => M.stA_blk B2 rfl fun w3 B3 k3 => ?_⟩
    have k13 : Keeps [] w1 w3 := k2.trans k3 (by simp; omega)
    refine M.ite_by (fun c2 => ?_) (fun c2 => ?_)
    · have c2 := of_decide_eq_true c2
      exact ⟨by rw [← hc, cmpW_more (by omega) (by omega)], k1.trans k13 (by simp)⟩
    · have c2 := of_decide_eq_false c2
      have jl : i < B.length := by omega
      have ej := List.getElem?_eq_getElem jl
      generalize B[i] = y at *
      have h2 := (ht.new k1).new k13
      obtain ⟨a', ha'⟩ := h2.1.some (by omega)
      have e' := sg_at h2.1 ha' ej
      refine ⟨a', ha', by omega, by omega, _, e'.1, y.2.1, e'.2, M.new_blk fun b' w4 hb4 B4 k4 => M.stA_blk B4 rfl fun w5 B5 k5 => ?_⟩
      have k35 : Keeps [] w3 w5 := k4.trans k5 (by simp; omega)
      have B3' := B3.keep k35 (by simp)
      have k15 := k13.trans k35 (by simp)
      refine ⟨_, B3'.cell 0, x.2.1, B3'.cell 1, _, B5.cell 0, y.2.1, B5.cell 1, by kernel_rfl, (cmpare_c (x := x) (y := y) (segs_inn (h1.new k15) ei) (segs_inn (h2.new k35) ej) hxn).mono fun e w' g => ?_⟩
      obtain ⟨_, rfl, rfl, k6⟩ := g
      rw [cmpW_at (x := pt x) (y := pt y) (by rw [List.getElem?_map, ei]; rfl) (by rw [List.getElem?_map, ej]; rfl)] at hc
      have k06 := (k1.trans k15 (by simp)).trans k6 (by simp)
      refine ⟨_, rfl, M.ite_by (fun c3 => ?_) (fun c3 => ?_)⟩
      · have c3 : cmpP (pt x) (pt y) ≠ 0 := by simpa using c3
        rw [if_neg c3] at hc
        exact ⟨hc, k06⟩
      · have c3 : cmpP (pt x) (pt y) = 0 := by simpa using c3
        rw [if_pos c3] at hc
        rw [w64 (by omega) (by omega)]
        exact hJ _ _ ⟨i + 1, by omega, by omega, hc, k06⟩ (by omega)
  · have c := of_decide_eq_false c
    rw [cmpW_end (by omega)] at hc
    refine M.ite_by (fun c2 => ?_) (fun c2 => ?_)
    · have c2 := of_decide_eq_true c2
      rw [if_pos (by omega)] at hc
      exact ⟨hc, k1⟩
    · have c2 := of_decide_eq_false c2
      rw [if_neg (by omega)] at hc
      exact ⟨hc, k1⟩
theorem apcmp_c {w : World} {s t : SV} {A B : List Sg} (hs : Segs w s A) (ht : Segs w t B) (hb : A.length ≤ 1000000) (hin : ∀ x ∈ A, x.2.2.length ≤ 1000000) :
    Calls Try.prog 31 #[s.v, t.v] w (R31 fun r w' => r = cmpL (A.map pt) (B.map pt) ∧ Keeps [] w w') :=
  F31_ok ((cmpf_c hs ht hb hin).mono fun e w' ⟨r, h, g⟩ => ⟨r, h, g⟩)
theorem apless_c {w : World} {s t : SV} {A B : List Sg} (hs : Segs w s A) (ht : Segs w t B) (hb : A.length ≤ 1000000) (hin : ∀ x ∈ A, x.2.2.length ≤ 1000000) :
    Calls Try.prog 17 #[s.v, t.v] w (R17 fun r w' => r = decide (cmpL (A.map pt) (B.map pt) < 0) ∧ Keeps [] w w') :=
  F17_ok ((apcmp_c hs ht hb hin).mono fun e w' ⟨r, h, g1, g2⟩ => ⟨r, h, by rw [g1], g2⟩)
theorem apsame_c {w : World} {s t : SV} {A B : List Sg} (hs : Segs w s A) (ht : Segs w t B) (hb : A.length ≤ 1000000) (hin : ∀ x ∈ A, x.2.2.length ≤ 1000000) :
    Calls Try.prog 18 #[s.v, t.v] w (R18 fun r w' => r = (cmpL (A.map pt) (B.map pt) == 0) ∧ Keeps [] w w') :=
  F18_ok ((apcmp_c hs ht hb hin).mono fun e w' ⟨r, h, g1, g2⟩ => ⟨r, h, by rw [g1], g2⟩)
end Go.Proofs.Ytflffabmfoldeaa
