/-
  MetricNumbers: chapter 2's runs, each edge with each other, and shares by them.
-/
import Derived.Test.YtkbfpjkikjmmeaaMetL
namespace Go.Proofs.Ytkbfpjkikjmmeaa
set_option linter.unusedVariables false
set_option linter.unusedSimpArgs false
open Go.Sp
open Go.RowKit (Below)

/-- Floats at their edges. -/
def endsL : List Nat := [0, 9223372036854775808, 4607182418800017408, 13830554455654793216, 4611686018427387904, 4602678819172646912, 9218868437227405312, 18442240474082181120, 9221120237041090561, 9218868437227405311, 18442240474082181119, 1, 4845873199050653696, 9094988921128908188, 4613937818241073152]
theorem endsL_lt : ∀ x ∈ endsL, x < 18446744073709551616 := by decide
theorem sh_nil : sharesB [] 5 = [] := List.eq_nil_of_length_eq_zero (sharesB_len [] 5)
theorem ends_c {w : World} : Calls Try.prog 29 #[] w (R29 fun r w' => Rd 1 w' r (fv endsL) ∧ Keeps [] w w') := by
  refine F29_ok (F42_ok (inf_c.mono fun e w1 g => ?_))
  obtain ⟨r1, rfl, rfl, hw⟩ := g
  obtain rfl := hw.symm
  refine ⟨_, rfl, ninf_c.mono fun e w1 g => ?_⟩
  obtain ⟨r2, rfl, rfl, hw⟩ := g
  obtain rfl := hw.symm
  refine ⟨_, rfl, nan_c.mono fun e w1 g => ?_⟩
  obtain ⟨r3, rfl, rfl, hw⟩ := g
  obtain rfl := hw.symm
  have hz : Int.toNat (bOr .u64 (bAndNot .u64 ((0 : Nat) : Int) (9223372036854775808 : Int)) (bAnd .u64 ((13830554455654793216 : Nat) : Int) (9223372036854775808 : Int))) = 9223372036854775808 := by decide +kernel
  refine ⟨_, rfl, ?_⟩
  try dsimp only
  rw [hz]
  exact newn_k (n := 15) (sz := 1) (cs := fv endsL) rfl (by omega) (Keeps.refl [] w) fun b w1 _ _ o1 _ k1 => ⟨o1.rd, k1⟩
theorem mnl_c {W : World} : Calls Try.prog 9 #[] W (R9 fun r w' => r = true ∧ Below W.heap.size W w') := by
  refine F9_ok (ends_c.mono fun e w1 g => ?_)
  obtain ⟨r1, rfl, rd1, k1⟩ := g
  have hlen := fv_len rd1
  have hE : endsL.length = 15 := rfl
  have hlt : ∀ {i : Nat} {x : Nat}, endsL[i]? = some x → x < 18446744073709551616 := fun h => endsL_lt _ (List.mem_of_getElem? h)
  refine ⟨_, rfl, M.loop1_by (fun x w' => ∃ i : Nat, x = i ∧ i ≤ 15 ∧ Keeps [] w1 w') (fun x _ => 15 - x.toNat) ⟨0, rfl, by omega, Keeps.refl _ _⟩ ?_⟩
  rintro x w2 J ⟨i, rfl, hi, k2⟩ hJ
  refine M.ite_by (fun c => ?_) (fun c => ?_)
  · have c := of_decide_eq_true c
    have il : i < endsL.length := by omega
    have ei := List.getElem?_eq_getElem il
    generalize endsL[i] = a at *
    have ha := hlt ei
    refine M.loop1_by (fun x w' => ∃ j : Nat, x = j ∧ j ≤ 15 ∧ Keeps [] w1 w') (fun x _ => 15 - x.toNat) ⟨0, rfl, by omega, k2⟩ ?_
    rintro y w3 J2 ⟨j, rfl, hj, k3⟩ hJ2
    refine M.ite_by (fun c1 => ?_) (fun c1 => ?_)
    · have c1 := of_decide_eq_true c1
      have jl : j < endsL.length := by omega
      have ej := List.getElem?_eq_getElem jl
      generalize endsL[j] = b at *
      have hb := hlt ej
      have kd := Keeps.drew [] w3
      have k4 := k3.trans kd (by simp)
      have rd4 := rd1.keep k4 (by simp)
      obtain ⟨ad, had⟩ := rd4.some (by omega)
      have gi : w3.drew.cell? (ad.add ((i : Int).toNat * 1)) = some (Value.float .f64 a) := by rw [Int.toNat_natCast, Nat.mul_one]; exact rd4.at had (fv_get ei)
      have gj : w3.drew.cell? (ad.add ((j : Int).toNat * 1)) = some (Value.float .f64 b) := by rw [Int.toNat_natCast, Nat.mul_one]; exact rd4.at had (fv_get ej)
      refine M.drew_by ⟨ad, had, by omega, by omega, ad, had, by omega, by omega, _, gi, _, gj, (fsame_c ha hb).mono fun e w4 g => ?_⟩
      obtain ⟨r4, rfl, rfl, hw⟩ := g
      obtain rfl := hw.symm
      refine ⟨_, rfl, M.ite_ff (M.loop1_by (fun x w' => ∃ m : Int, x = m ∧ -1 ≤ m ∧ m ≤ 20 ∧ Keeps [] w1 w') (fun x _ => (20 - x).toNat) ⟨-1, rfl, by omega, by omega, k4⟩ ?_)⟩
      rintro z w5 J3 ⟨m, rfl, hm0, hm1, k5⟩ hJ3
      refine M.ite_by (fun c2 => ?_) (fun c2 => ?_)
      · have c2 := of_decide_eq_true c2
        have kd := Keeps.drew [] w5
        have k6 := k5.trans kd (by simp)
        have rd6 := rd1.keep k6 (by simp)
        have gi : w5.drew.cell? (ad.add ((i : Int).toNat * 1)) = some (Value.float .f64 a) := by rw [Int.toNat_natCast, Nat.mul_one]; exact rd6.at had (fv_get ei)
        have gj : w5.drew.cell? (ad.add ((j : Int).toNat * 1)) = some (Value.float .f64 b) := by rw [Int.toNat_natCast, Nat.mul_one]; exact rd6.at had (fv_get ej)
        refine M.drew_by ⟨ad, had, by omega, by omega, ad, had, by omega, by omega, ad, had, by omega, by omega, _, gi, _, gj, _, gi, newn_k (n := 4) (sz := 1) (cs := fv [a, b, 4607182418800017408, a]) rfl (by omega) k6 fun q w7 _ _ o7 k7 k07 => ?_⟩
        have hl4 : ∀ x ∈ [a, b, 4607182418800017408, a], x < 18446744073709551616 := by
          intro x hx
          simp only [List.mem_cons, List.not_mem_nil, or_false] at hx
          rcases hx with rfl | rfl | rfl | rfl <;> omega
        refine (shares_c o7.rd hl4 (by simp) z).mono fun e w8 g => ?_
        obtain ⟨r8, rfl, rd8, f8, k8⟩ := g
        refine ⟨_, rfl, (rshares_c (o7.rd.keep k8 (by simp)) hl4 (by simp) z).mono fun e w9 g => ?_⟩
        obtain ⟨r9, rfl, rd9, f9, k9⟩ := g
        have hsl := sharesB_len [a, b, 4607182418800017408, a] z
        refine ⟨_, rfl, (samei_c (rd8.keep k9 (by simp)) rd9 (by rw [hsl]; simp)).mono fun e w10 g => ?_⟩
        obtain ⟨r10, rfl, rfl, k10⟩ := g
        refine ⟨_, rfl, M.ite_n (by simp) ?_⟩
        rw [w64 (by omega) (by omega)]
        exact hJ3 _ _ ⟨z + 1, rfl, by omega, by omega, ((k07.trans k8 (by simp)).trans k9 (by simp)).trans k10 (by simp)⟩ (by omega)
      · rw [w64 (by omega) (by omega)]
        exact hJ2 _ _ ⟨j + 1, by omega, by omega, k5⟩ (by omega)
    · have rd3 := rd1.keep k3 (by simp)
      refine M.idx_ld rd3 (fv_get ei) ((mof_c a).mono fun e w4 g => ?_)
      obtain ⟨c4, ok4, rfl, hc4, hok4, hw⟩ := g
      obtain rfl := hw.symm
      refine ⟨_, _, rfl, M.idx_ld rd3 (fv_get ei) ((rmof_c a).mono fun e w4 g => ?_)⟩
      obtain ⟨c5, ok5, rfl, hc5, hok5, hw⟩ := g
      obtain rfl := hw.symm
      rw [← hc4] at hc5
      rw [← hok4] at hok5
      subst hc5 hok5
      refine ⟨_, _, rfl, M.join_by (fun (J : Bool → World → Prop) => J false w3) (M.ite_ff ?_) fun J hJ => (fbits_c _ _).mono fun e w4 g => ?_⟩
      · rw [w64 (by omega) (by omega)]
        exact hJ _ _ ⟨i + 1, by omega, by omega, k3⟩ (by omega)
      · obtain ⟨r6, rfl, rfl, hw⟩ := g
        obtain rfl := hw.symm
        refine ⟨_, rfl, M.ite_n (by simp) ?_⟩
        try dsimp only
        rw [show (!(ok5 == ok5)) = false by simp]
        exact hJ
  · have k02 := k1.trans k2 (by simp)
    refine M.join_by (fun (J : Bool → World → Prop) => ∀ w', Aft W w' → J true w') (fun w' h => ⟨rfl, h.1⟩) fun J hJ => (shares_c (rd1.keep k2 (by simp)) endsL_lt (by rw [hE]; omega) 5000).mono fun e w3 g => ?_
    obtain ⟨r3, rfl, rd3, f3, k3⟩ := g
    refine ⟨_, rfl, (rshares_c ((rd1.keep k2 (by simp)).keep k3 (by simp)) endsL_lt (by rw [hE]; omega) 5000).mono fun e w4 g => ?_⟩
    obtain ⟨r4, rfl, rd4, f4, k4⟩ := g
    have hsl := sharesB_len endsL 5000
    generalize sharesB endsL 5000 = S at *
    refine ⟨_, rfl, (samei_c (rd3.keep k4 (by simp)) rd4 (by rw [hsl, hE]; omega)).mono fun e w5 g => ?_⟩
    obtain ⟨r5, rfl, rfl, k5⟩ := g
    refine ⟨_, rfl, M.ite_y (by simp) ((shares_c (l := []) (Rd.nil _ _) (by simp) (by simp) 5).mono fun e w6 g => ?_)⟩
    obtain ⟨r6, rfl, rd6, f6, k6⟩ := g
    rw [sh_nil] at rd6
    have hl6 := iv_len rd6
    refine ⟨_, rfl, M.ite_y (by rw [hl6]; rfl) ((mknown_a ((Aft.refl W).new (((k02.trans k3 (by simp)).trans k4 (by simp)).trans (k5.trans k6 (by simp)) (by simp)))).mono fun e w7 g => ?_)⟩
    obtain ⟨r7, rfl, rfl, a7⟩ := g
    exact ⟨_, rfl, hJ _ a7⟩
theorem mnl_law (W : World) (args : List Value) (h : GdArgs W [] args) : Calls Try.prog 9 args.toArray W fun e W' => e = .returned (.bool true) ∧ Below W.heap.size W W' := by
  cases h
  exact mnl_c.mono fun e w' ⟨b, he, hb, hw⟩ => by subst hb; exact ⟨he, hw⟩
end Go.Proofs.Ytkbfpjkikjmmeaa
