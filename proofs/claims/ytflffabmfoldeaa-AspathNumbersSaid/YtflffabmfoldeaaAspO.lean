/-
  The reference's order of paths is the order of paths.
-/
import Derived.Test.YtflffabmfoldeaaAspB
namespace Go.Proofs.Ytflffabmfoldeaa
set_option linter.unusedVariables false
set_option linter.unusedSimpArgs false
open Go.Sp

theorem side_c {w : World} (b : Bool) : Calls Try.prog 59 #[.bool b] w (R59 fun r w' => r = (if b then -1 else 1) ∧ w' = w) := by
  refine F59_ok (M.ite_by (fun c => ?_) (fun c => ?_))
  · subst c; exact ⟨rfl, rfl⟩
  · subst c; exact ⟨rfl, rfl⟩
theorem cmpI_side {a b : Int} (h : a ≠ b) : (if decide (a < b) = true then (-1 : Int) else 1) = cmpI a b := by
  unfold cmpI
  by_cases c : a < b
  · rw [decide_eq_true c, if_pos rfl, if_pos c]
  · rw [decide_eq_false c, if_neg (by simp), if_neg c, if_pos (by omega)]
theorem order_c {w : World} {s t : SV} {A B : List Sg} (hs : Segs w s A) (ht : Segs w t B) (hb : A.length ≤ 1000000) (hin : ∀ x ∈ A, x.2.2.length ≤ 1000000) :
    Calls Try.prog 41 #[s.v, t.v] w (R41 fun r w' => r = cmpL (A.map pt) (B.map pt) ∧ Keeps [] w w') := by
  have hsl := hs.len
  have htl := ht.len
  have hal : (A.map pt).length = A.length := List.length_map _
  have hbl : (B.map pt).length = B.length := List.length_map _
  refine F41_ok (M.loop1_by (fun x w' => ∃ i : Nat, x = i ∧ i ≤ A.length ∧ i ≤ B.length ∧ cmpW cmpP ((A.map pt).drop i) ((B.map pt).drop i) = cmpL (A.map pt) (B.map pt) ∧ Keeps [] w w') (fun x _ => A.length - x.toNat) ⟨0, rfl, by omega, by omega, rfl, Keeps.refl _ _⟩ ?_)
  rintro x w1 J ⟨i, rfl, hi, hi2, hc, k1⟩ hJ
  refine M.join_lt (fun hx1 hx2 => ?_) (fun hend => ?_)
  · have il : i < A.length := by omega
    have ei := List.getElem?_eq_getElem il
    have hxn := hin _ (List.getElem_mem il)
    generalize A[i] = x at *
    have jl : i < B.length := by omega
    have ej := List.getElem?_eq_getElem jl
    generalize B[i] = y at *
    rw [cmpW_at (x := pt x) (y := pt y) (by rw [List.getElem?_map, ei]; rfl) (by rw [List.getElem?_map, ej]; rfl)] at hc
    refine M.drew_by ?_
    have k2 := k1.trans (Keeps.drew [] w1) (by simp)
    generalize w1.drew = w2 at *
    have h1 := hs.new k2
    have h2 := ht.new k2
    obtain ⟨a, ha⟩ := h1.1.some (by omega)
    obtain ⟨b, hb'⟩ := h2.1.some (by omega)
    have e := sg_at h1.1 ha ei
    have f := sg_at h2.1 hb' ej
    have hxl := uval_len (segs_inn h1 ei)
    have hyl := uval_len (segs_inn h2 ej)
    refine ⟨a, ha, by omega, by omega, b, hb', by omega, by omega, _, e.1, _, f.1, M.ite_by (fun c => ?_) (fun c => ?_)⟩
    · have c : x.1 ≠ y.1 := by simpa using c
      have hn : cmpI x.1 y.1 ≠ 0 := fun h => c (cmpI_zero.1 h)
      have hp : cmpP (pt x) (pt y) = cmpI x.1 y.1 := by unfold cmpP pt; rw [if_pos hn]
      rw [hp, if_neg hn] at hc
      refine M.drew_by ?_
      have k3 := k2.trans (Keeps.drew [] w2) (by simp)
      generalize w2.drew = w3 at *
      have h1 := hs.new k3
      have h2 := ht.new k3
      have e := sg_at h1.1 ha ei
      have f := sg_at h2.1 hb' ej
      refine ⟨a, ha, by omega, by omega, b, hb', by omega, by omega, _, e.1, _, f.1, (side_c _).mono fun e w' g => ?_⟩
      obtain ⟨r, rfl, rfl, hw⟩ := g
      obtain rfl := hw.symm
      exact ⟨_, rfl, by rw [cmpI_side c]; exact hc, k3⟩
    · have c : x.1 = y.1 := by simpa using c
      have hn : cmpI x.1 y.1 = 0 := cmpI_zero.2 c
      refine M.drew_by ?_
      have k3 := k2.trans (Keeps.drew [] w2) (by simp)
      generalize w2.drew = w3 at *
      have h1 := hs.new k3
      have h2 := ht.new k3
      have e := sg_at h1.1 ha ei
      have f := sg_at h2.1 hb' ej
      refine ⟨a, ha, by omega, by omega, b, hb', by omega, by omega, x.2.1, e.2, y.2.1, f.2, M.ite_by (fun c2 => ?_) (fun c2 => ?_)⟩
      · have c2 : x.2.1.len ≠ y.2.1.len := fun h => by rw [h] at c2; simp at c2
        have c2' : (x.2.1.len : Int) ≠ (y.2.1.len : Int) := by omega
        have hn2 : cmpI (x.2.1.len : Int) (y.2.1.len : Int) ≠ 0 := fun h => c2' (cmpI_zero.1 h)
        have hp : cmpP (pt x) (pt y) = cmpI (x.2.1.len : Int) (y.2.1.len : Int) := by
          unfold cmpP pt
          rw [hxl, hyl] at hn2 ⊢
          rw [if_neg (by rw [hn]; simp), if_pos hn2]
        rw [hp, if_neg hn2] at hc
        refine M.drew_by ?_
        have k4 := k3.trans (Keeps.drew [] w3) (by simp)
        generalize w3.drew = w4 at *
        have h1 := hs.new k4
        have h2 := ht.new k4
        have e := sg_at h1.1 ha ei
        have f := sg_at h2.1 hb' ej
        refine ⟨a, ha, by omega, by omega, b, hb', by omega, by omega, x.2.1, e.2, y.2.1, f.2, (side_c _).mono fun e w' g => ?_⟩
        obtain ⟨r, rfl, rfl, hw⟩ := g
        obtain rfl := hw.symm
        exact ⟨_, rfl, by rw [cmpI_side c2']; exact hc, k4⟩
      · have c2 : x.2.1.len = y.2.1.len := by
          have : (x.2.1.len : Int) = (y.2.1.len : Int) := by simpa using c2
          omega
        have hp : cmpP (pt x) (pt y) = cmpW cmpI x.2.2 y.2.2 := by
          unfold cmpP pt
          rw [if_neg (by rw [hn]; simp), if_neg]
          intro h
          exact h (cmpI_zero.2 (by show (x.2.2.length : Int) = (y.2.2.length : Int); omega))
        rw [hp] at hc
        refine M.loop1_by (fun z w' => ∃ j : Nat, z = j ∧ j ≤ x.2.2.length ∧ cmpW cmpI (x.2.2.drop j) (y.2.2.drop j) = cmpW cmpI x.2.2 y.2.2 ∧ Keeps [] w w') (fun z _ => x.2.2.length - z.toNat) ⟨0, rfl, by omega, rfl, k3⟩ ?_
        rintro z w4 J2 ⟨j, rfl, hj, hc2, k4⟩ hJ2
        have h1 := hs.new k4
        have e := sg_at h1.1 ha ei
        refine ⟨a, ha, by omega, by omega, x.2.1, e.2, M.ite_by (fun c3 => ?_) (fun c3 => ?_)⟩
        · have c3 := of_decide_eq_true c3
          have il2 : j < x.2.2.length := by omega
          have jl2 : j < y.2.2.length := by omega
          have eu := List.getElem?_eq_getElem il2
          have ev := List.getElem?_eq_getElem jl2
          generalize x.2.2[j] = u at *
          generalize y.2.2[j] = v at *
          rw [cmpW_at eu ev] at hc2
          refine M.drew_by ?_
          have k5 := k4.trans (Keeps.drew [] w4) (by simp)
          generalize w4.drew = w5 at *
          have h1 := hs.new k5
          have h2 := ht.new k5
          have e := sg_at h1.1 ha ei
          have f := sg_at h2.1 hb' ej
          refine ⟨a, ha, by omega, by omega, b, hb', by omega, by omega, x.2.1, e.2, M.idx_ld (segs_inn h1 ei) (uval_get eu) ⟨y.2.1, f.2, M.idx_ld (segs_inn h2 ej) (uval_get ev) (M.ite_by (fun c4 => ?_) (fun c4 => ?_))⟩⟩
          · have c4 : u ≠ v := by simpa using c4
            have hn4 : cmpI u v ≠ 0 := fun h => c4 (cmpI_zero.1 h)
            rw [if_neg hn4] at hc2
            rw [← hc2, if_neg hn4] at hc
            refine M.drew_by ?_
            have k6 := k5.trans (Keeps.drew [] w5) (by simp)
            generalize w5.drew = w6 at *
            have h1 := hs.new k6
            have h2 := ht.new k6
            have e := sg_at h1.1 ha ei
            have f := sg_at h2.1 hb' ej
            refine ⟨a, ha, by omega, by omega, b, hb', by omega, by omega, x.2.1, e.2, M.idx_ld (segs_inn h1 ei) (uval_get eu) ⟨y.2.1, f.2, M.idx_ld (segs_inn h2 ej) (uval_get ev) ((side_c _).mono fun e w' g => ?_)⟩⟩
            obtain ⟨r, rfl, rfl, hw⟩ := g
            obtain rfl := hw.symm
            exact ⟨_, rfl, by rw [cmpI_side c4]; exact hc, k6⟩
          · have c4 : u = v := by simpa using c4
            rw [if_pos (cmpI_zero.2 c4)] at hc2
            rw [w64 (by omega) (by omega)]
            exact hJ2 _ _ ⟨j + 1, by omega, by omega, hc2, k5⟩ (by omega)
        · have c3 := of_decide_eq_false c3
          rw [cmpW_end (by omega), if_neg (by omega)] at hc2
          rw [← hc2, if_pos rfl] at hc
          rw [w64 (by omega) (by omega)]
          exact hJ _ _ ⟨i + 1, by omega, by omega, by omega, hc, k4⟩ (by omega)
  · refine M.ite_by (fun c => ?_) (fun c => ?_)
    · have c : s.len ≠ t.len := fun h => by rw [h] at c; simp at c
      refine (side_c _).mono fun e w' g => ?_
      obtain ⟨r, rfl, rfl, hw⟩ := g
      obtain rfl := hw.symm
      refine ⟨_, rfl, ?_, k1⟩
      rw [← hc]
      by_cases h : i < A.length
      · rw [cmpW_more (by omega) (by omega), decide_eq_false (by omega)]; rfl
      · have e := cmpW_end (f := cmpP) (a := A.map pt) (b := B.map pt) (i := i) (by omega)
        rw [if_pos (by omega)] at e
        rw [e, decide_eq_true (by omega)]; rfl
    · have c : (s.len : Int) = (t.len : Int) := by simpa using c
      refine ⟨?_, k1⟩
      rw [← hc, cmpW_end (by omega), if_neg (by omega)]
theorem segseq_c {w : World} {s t : SV} {A B : List Sg} (hs : Segs w s A) (ht : Segs w t B) (hb : A.length ≤ 1000000) (hin : ∀ x ∈ A, x.2.2.length ≤ 1000000) :
    Calls Try.prog 21 #[s.v, t.v] w (R21 fun r w' => r = (cmpL (A.map pt) (B.map pt) == 0) ∧ Keeps [] w w') :=
  F21_ok ((order_c hs ht hb hin).mono fun _ _ ⟨r, h, g1, g2⟩ => ⟨r, h, by rw [g1], g2⟩)
end Go.Proofs.Ytflffabmfoldeaa
