/-
  AspathRules: what Prepend does to the length, to the first AS and to what is in the path; the order is a total one.
-/
import Derived.Test.YtflffabmfoldeaaAspR
namespace Go.Proofs.Ytflffabmfoldeaa
set_option linter.unusedVariables false
set_option linter.unusedSimpArgs false
open Go.Sp
open Go.RowKit (Below)

theorem count_cons (x : Int × List Int) (l : List (Int × List Int)) : countPt (x :: l) = (if x.1 = 2 then x.2.length else if x.1 = 1 then 1 else 0) + countPt l := by
  unfold countPt
  rw [List.map_cons, List.sum_cons]
theorem count_pre1 (l : List (Int × List Int)) (av : Int) : countPt (pre1 l av) = countPt l + 1 := by
  cases h : headOk l with
  | false => rw [pre1_new h, count_cons]; simp; omega
  | true =>
    match l, h with
    | (k, a) :: m, h =>
      obtain ⟨rfl, h2, h3⟩ := pre1_in h av
      rw [h3, count_cons, count_cons]
      simp; omega
theorem first_pre1 (l : List (Int × List Int)) (av : Int) : firstPt (pre1 l av) = (av, true) := by
  cases h : headOk l with
  | false => rw [pre1_new h]; rfl
  | true =>
    match l, h with
    | (k, a) :: m, h =>
      obtain ⟨rfl, h2, h3⟩ := pre1_in h av
      rw [h3]; rfl
theorem has_pre1 (l : List (Int × List Int)) (av b : Int) : hasPt (pre1 l av) b = (av == b || hasPt l b) := by
  cases h : headOk l with
  | false => rw [pre1_new h]; simp [hasPt]
  | true =>
    match l, h with
    | (k, a) :: m, h =>
      obtain ⟨rfl, h2, h3⟩ := pre1_in h av
      rw [h3]; simp [hasPt, Bool.or_assoc]
theorem count_preN (l : List (Int × List Int)) (av : Int) : ∀ n, countPt (preN av n l) = countPt l + n
  | 0 => rfl
  | n + 1 => by
    show countPt (pre1 (preN av n l) av) = _
    rw [count_pre1, count_preN l av n]; omega
theorem has_preN (l : List (Int × List Int)) (av b : Int) (h : hasPt l b = true) : ∀ n, hasPt (preN av n l) b = true
  | 0 => h
  | n + 1 => by
    show hasPt (pre1 (preN av n l) av) b = _
    rw [has_pre1, has_preN l av b h n, Bool.or_true]
/-- What is ahead of a path changes no other part, and its own only so far. -/
theorem inn_preN (av : Int) (l : List (Int × List Int)) (h : ∀ x ∈ l, x.2.length ≤ 300) : ∀ n, ∀ x ∈ preN av n l, x.2.length ≤ 300
  | 0 => h
  | n + 1 => by
    show ∀ x ∈ pre1 (preN av n l) av, _
    have ih := inn_preN av l h n
    cases hh : headOk (preN av n l) with
    | false =>
      rw [pre1_new hh]
      intro x hx
      rcases List.mem_cons.1 hx with rfl | hx
      · show [av].length ≤ 300; simp
      · exact ih x hx
    | true =>
      match preN av n l, hh, ih with
      | (k, a) :: m, hh, ih =>
        obtain ⟨rfl, h2, h3⟩ := pre1_in hh av
        rw [h3]
        intro x hx
        rcases List.mem_cons.1 hx with rfl | hx
        · show (av :: a).length ≤ 300; simp; omega
        · exact ih x (List.mem_cons_of_mem _ hx)
theorem inn_of {L' : List Sg} {l : List (Int × List Int)} (hL : L'.map pt = l) (h : ∀ x ∈ l, x.2.length ≤ 300) : ∀ x ∈ L', x.2.2.length ≤ 1000000 := fun x hx => by
  have : x.2.2.length ≤ 300 := h (pt x) (by rw [← hL]; exact List.mem_map_of_mem hx)
  omega
theorem count_six {A L : List Sg} (h : Six A L) : countPt (L.map pt) ≤ 36 := by
  have h1 : ∀ (l : List (Int × List Int)), (∀ x ∈ l, x.2.length ≤ 6) → countPt l ≤ 6 * l.length := by
    intro l
    induction l with
    | nil => intro _; simp [countPt]
    | cons x l ih =>
      intro hx
      have h2 := ih (fun y hy => hx y (List.mem_cons_of_mem _ hy))
      have h3 := hx x List.mem_cons_self
      rw [count_cons, List.length_cons]
      split
      · omega
      · split <;> omega
  have h2 := h1 (L.map pt) (fun x hx => by
    obtain ⟨y, hy, rfl⟩ := List.mem_map.1 hx
    exact (h.2 y hy).2.2.1)
  rw [List.length_map] at h2
  have := h.1
  omega
theorem six_300 {A L : List Sg} (h : Six A L) : ∀ x ∈ L.map pt, x.2.length ≤ 300 := fun x hx => by
  obtain ⟨y, hy, rfl⟩ := List.mem_map.1 hx
  have : y.2.2.length ≤ 6 := (h.2 y hy).2.2.1
  show y.2.2.length ≤ 300
  omega
theorem aprules_c {W : World} {s t : SV} {A B : List Sg} (hs : Segs W s A) (hsl : s.len ≤ maxLen) (ht : Segs W t B) (htl : t.len ≤ maxLen) (av n : Int) :
    Calls Try.prog 4 #[s.v, t.v, .int .u32 av, .int .i64 n] W (R4 fun r w' => r = true ∧ Below W.heap.size W w') := by
  refine F4_ok ((apr15_c hs hsl).mono fun e w1 g => ?_)
  obtain ⟨r1, rfl, L, h6, hL1, k1⟩ := g
  refine ⟨_, rfl, (apr15_c (ht.new k1) htl).mono fun e w2 g => ?_⟩
  obtain ⟨r3, rfl, M3, m6, hM2, k2⟩ := g
  have hL2 := hL1.new k2
  have hLl := h6.1
  have hLn := hL2.len
  refine ⟨_, rfl, (within_c n 0 10 (by omega) (by omega) (by omega)).mono fun e w' g => ?_⟩
  obtain ⟨r5, rfl, _, hr0, hr1, hw⟩ := g
  obtain rfl := hw.symm
  refine ⟨_, rfl, (prepend_c hL2 (by omega) (six_in h6) av r5).mono fun e w3 g => ?_⟩
  obtain ⟨r7, rfl, P, hP, hPe, k3⟩ := g
  have hm : ∃ m : Nat, r5 = m := ⟨r5.toNat, by omega⟩
  obtain ⟨m, rfl⟩ := hm
  rw [show (min (max (m : Int) 0) 10).toNat = m by omega] at hPe
  have hPl : P.length ≤ 16 := by
    have h1 := preN_len av (L.map pt) m
    rw [← hPe, List.length_map, List.length_map] at h1
    omega
  have hPin : ∀ x ∈ P, x.2.2.length ≤ 1000000 := inn_of hPe (inn_preN av _ (six_300 h6) m)
  have hcL := count_six h6
  have hcP : countPt (P.map pt) = countPt (L.map pt) + m := by rw [hPe, count_preN]
  have hL3 := hL2.new k3
  have hM3 := hM2.new k3
  have hP3 := hP.segs
  refine ⟨_, rfl, (count_c hP3 (by rw [count_pt, hcP]; omega) (by omega)).mono fun e w4 g => ?_⟩
  obtain ⟨r9, rfl, rfl, k4⟩ := g
  refine ⟨_, rfl, (count_c (hL3.new k4) (by rw [count_pt]; omega) (by omega)).mono fun e w5 g => ?_⟩
  obtain ⟨r11, rfl, rfl, k5⟩ := g
  rw [count_pt, count_pt, hcP]
  have k35 : Keeps [] w3 w5 := k4.trans k5 (by simp)
  have k03 : Keeps [] W w3 := (k1.trans k2 (by simp)).trans k3 (by simp)
  refine ⟨_, rfl, M.ite_n (by rw [w64 (by omega) (by omega)]; simp) (M.join_by (fun (J : World → Prop) => ∀ w', Keeps [] w3 w' → J w') (fun w6 k6 => ?_) fun J hJ => ?_)⟩
  · refine M.loop1_by (fun x w' => ∃ i : Nat, x = i ∧ i ≤ L.length ∧ Keeps [] w3 w') (fun x _ => L.length - x.toNat) ⟨0, rfl, by omega, k6⟩ ?_
    clear k6
    rintro x w7 J ⟨i, rfl, hi, k7⟩ hJ
    refine M.ite_by (fun c => ?_) (fun c => ?_)
    · have c := of_decide_eq_true c
      have il : i < L.length := by omega
      have ei := List.getElem?_eq_getElem il
      have hmem := List.getElem_mem il
      have hxn := six_in h6 _ hmem
      generalize L[i] = x at *
      refine M.loop1_by (fun y w' => ∃ j : Nat, y = j ∧ j ≤ x.2.2.length ∧ Keeps [] w3 w') (fun y _ => x.2.2.length - y.toNat) ⟨0, rfl, by omega, k7⟩ ?_
      clear k7
      rintro y w8 J2 ⟨j, rfl, hj, k8⟩ hJ2
      have h8 := hL3.new k8
      obtain ⟨a, ha⟩ := h8.1.some (by omega)
      have e := sg_at h8.1 ha ei
      have hxl := uval_len (segs_inn h8 ei)
      refine ⟨a, ha, by omega, by omega, x.2.1, e.2, M.ite_by (fun c2 => ?_) (fun c2 => ?_)⟩
      · have c2 := of_decide_eq_true c2
        have jl : j < x.2.2.length := by omega
        have ej := List.getElem?_eq_getElem jl
        have hmj := List.getElem_mem jl
        generalize x.2.2[j] = z at *
        refine ⟨a, ha, by omega, by omega, x.2.1, e.2, M.idx_ld (segs_inn h8 ei) (uval_get ej) ((aphas_c (hP3.new k8) (by omega) hPin z).mono fun e w9 g => ?_)⟩
        obtain ⟨r94, rfl, rfl, k9⟩ := g
        have hhas : hasL P z = true := by
          rw [has_pt, hPe]
          refine has_preN _ _ _ ?_ m
          rw [← has_pt]
          exact List.any_eq_true.2 ⟨x, hmem, List.any_eq_true.2 ⟨z, hmj, by simp⟩⟩
        rw [hhas]
        refine ⟨_, rfl, M.ite_n rfl ?_⟩
        rw [w64 (by omega) (by omega)]
        exact hJ2 _ _ ⟨j + 1, by omega, by omega, k8.trans k9 (by simp)⟩ (by omega)
      · have c2 := of_decide_eq_false c2
        rw [w64 (by omega) (by omega)]
        exact hJ _ _ ⟨i + 1, by omega, by omega, k8⟩ (by omega)
    · clear hJ
      have hLin := six_in h6
      have hMin := six_in m6
      have hMl := m6.1
      have hX : cmpL (M3.map pt) (L.map pt) = - cmpL (L.map pt) (M3.map pt) := cmpL_anti _ _
      generalize hcm : cmpL (L.map pt) (M3.map pt) = cm at hX
      refine (apsame_c (hL3.new k7) (hM3.new k7) (by omega) hLin).mono fun e w8 g => ?_
      obtain ⟨r97, rfl, rfl, k8⟩ := g
      rw [hcm]
      refine ⟨_, rfl, M.join_by (fun (J : Bool → World → Prop) => ∀ w', Keeps [] W w' → J true w') (fun w' k' => ⟨rfl, ((Aft.refl W).new k').1⟩) fun J hJ => ?_⟩
      have k38 := k7.trans k8 (by simp)
      have htail : ∀ w', Keeps [] w3 w' → Calls Try.prog 11 #[r1.v, .int .u32 av, .int .i64 0] w' (R11 fun r w'' => Calls Try.prog 18 #[r1.v, r.v] w'' (R18 fun r' w4 => M.ite r' (Calls Try.prog 14 #[] w4 (R14 fun r4 w5 => J r4 w5)) (J false w4))) := fun w' k' => by
        refine (prepend_c (hL3.new k') (by omega) hLin av 0).mono fun e w'' g => ?_
        obtain ⟨q, rfl, Q, hQ, hQe, kq⟩ := g
        have hQe : Q.map pt = L.map pt := hQe
        refine ⟨_, rfl, (apsame_c ((hL3.new k').new kq) hQ.segs (by omega) hLin).mono fun e w4 g => ?_⟩
        obtain ⟨q2, rfl, rfl, kq2⟩ := g
        rw [hQe]
        refine ⟨_, rfl, M.ite_y (by rw [(cmpL_zero _ _).2 rfl]; rfl) (apknown_c.mono fun e w5 g => ?_)⟩
        obtain ⟨q3, rfl, rfl, kq3⟩ := g
        exact ⟨_, rfl, hJ _ (((k03.trans k' (by simp)).trans kq (by simp)).trans (kq2.trans kq3 (by simp)) (by simp))⟩
      refine (apless_c (hL3.new k38) (hM3.new k38) (by omega) hLin).mono fun e w9 g => ?_
      obtain ⟨r101, rfl, rfl, k9⟩ := g
      rw [hcm]
      have k39 := k38.trans k9 (by simp)
      refine ⟨_, rfl, M.ite_by (fun c1 => ?_) (fun c1 => ?_)⟩
      · have c1 := of_decide_eq_true c1
        refine M.ite_y (by simp; omega) ((apless_c (hL3.new k39) (hM3.new k39) (by omega) hLin).mono fun e w10 g => ?_)
        obtain ⟨r105, rfl, rfl, k10⟩ := g
        rw [hcm]
        have k310 := k39.trans k10 (by simp)
        refine ⟨_, rfl, M.ite_y (decide_eq_true c1) ((apless_c (hM3.new k310) (hL3.new k310) (by omega) hMin).mono fun e w11 g => ?_)⟩
        obtain ⟨r108, rfl, rfl, k11⟩ := g
        rw [hX]
        refine ⟨_, rfl, M.ite_y (by simp; omega) (htail w11 (k310.trans k11 (by simp)))⟩
      · have c1 := of_decide_eq_false c1
        refine (apless_c (hM3.new k39) (hL3.new k39) (by omega) hMin).mono fun e w10 g => ?_
        obtain ⟨r126, rfl, rfl, k10⟩ := g
        rw [hX]
        have k310 := k39.trans k10 (by simp)
        refine ⟨_, rfl, M.ite_y ?_ ((apless_c (hL3.new k310) (hM3.new k310) (by omega) hLin).mono fun e w11 g => ?_)⟩
        · by_cases hz : cm = 0
          · subst hz; rfl
          · rw [decide_eq_true (by omega), beq_false_of_ne hz]; rfl
        · obtain ⟨r129, rfl, rfl, k11⟩ := g
          rw [hcm]
          exact ⟨_, rfl, M.ite_n (decide_eq_false c1) (M.ite_y rfl (htail w11 (k310.trans k11 (by simp))))⟩
  · refine M.ite_by (fun c => ?_) (fun c => hJ _ k35)
    have c := of_decide_eq_true c
    obtain ⟨m', rfl⟩ : ∃ m', m = m' + 1 := ⟨m - 1, by omega⟩
    refine (first_c (hP3.new k35)).mono fun e w6 g => ?_
    obtain ⟨f6, ok6, rfl, he6, k6⟩ := g
    rw [first_pt, hPe] at he6
    have he6 : (f6, ok6) = (av, true) := he6.trans (first_pre1 _ _)
    obtain ⟨rfl, rfl⟩ := Prod.mk.inj he6
    have k36 := k35.trans k6 (by simp)
    refine ⟨_, _, rfl, M.join_by (fun (J : Bool → World → Prop) => ∀ w', Keeps [] w3 w' → J false w') (fun w' k' => M.ite_ff (hJ _ k')) fun J2 hJ2 => ?_⟩
    refine M.ite_n rfl (M.ite_n (by simp) ((aphas_c (hP3.new k36) (by omega) hPin _).mono fun e w7 g => ?_))
    obtain ⟨r7', rfl, rfl, k7⟩ := g
    have k37 := k36.trans k7 (by simp)
    refine ⟨_, rfl, M.ite_n ?_ ((apless_c (hL3.new k37) (hP3.new k37) (by omega) (six_in h6)).mono fun e w8 g => ?_)⟩
    · rw [has_pt, hPe, show preN f6 (m' + 1) (L.map pt) = pre1 (preN f6 m' (L.map pt)) f6 from rfl, has_pre1]
      simp
    · obtain ⟨r8, rfl, rfl, k8⟩ := g
      have k38 := k37.trans k8 (by simp)
      refine ⟨_, rfl, M.ite_by (fun c2 => ?_) (fun c2 => hJ2 _ k38)⟩
      have c2 : ¬ cmpL (L.map pt) (P.map pt) < 0 := by simpa using c2
      refine (apless_c (hP3.new k38) (hL3.new k38) (by omega) hPin).mono fun e w9 g => ?_
      obtain ⟨r9, rfl, rfl, k9⟩ := g
      refine ⟨_, rfl, ?_⟩
      have hne : cmpL (L.map pt) (P.map pt) ≠ 0 := fun h0 => by
        have := (cmpL_zero _ _).1 h0
        rw [← this] at hcP
        omega
      rw [cmpL_anti (L.map pt) (P.map pt), decide_eq_true (by omega)]
      exact hJ2 _ (k38.trans k9 (by simp))
theorem aprules_law (W : World) (args : List Value) (h : GdArgs W [(false, .cons (.slice (.cons (.int .i64) (.cons (.slice (.cons (.int .u32) .nil)) .nil))) .nil), (false, .cons (.slice (.cons (.int .i64) (.cons (.slice (.cons (.int .u32) .nil)) .nil))) .nil), (false, .cons (.int .u32) .nil), (false, .cons (.int .i64) .nil)] args) : Calls Try.prog 4 args.toArray W fun e W' => e = .returned (.bool true) ∧ Below W.heap.size W W' := by
  obtain ⟨v0, r, rfl, h0, h⟩ := h.one
  obtain ⟨v1, r, rfl, h1, h⟩ := h.one
  obtain ⟨v2, r, rfl, h2, h⟩ := h.one
  obtain ⟨v3, r, rfl, h3, h⟩ := h.one
  cases h
  obtain ⟨s, A, rfl, hs, hsl, _⟩ := segs_of h0
  obtain ⟨t, B, rfl, ht, htl, _⟩ := segs_of h1
  obtain ⟨n, rfl, _⟩ := good_int h2
  obtain ⟨m, rfl, _⟩ := good_int h3
  exact (aprules_c hs hsl ht htl n m).mono fun e w' ⟨b, he, hb, hw⟩ => by subst hb; exact ⟨he, hw⟩
end Go.Proofs.Ytflffabmfoldeaa
