/-
  MetricBits: of costs the bits lie as the costs do; what is no cost's bits is not read.
-/
import Derived.Test.YtkbfpjkikjmmeaaMetL
namespace Go.Proofs.Ytkbfpjkikjmmeaa
set_option linter.unusedVariables false
set_option linter.unusedSimpArgs false
open Go.Sp
open Go.RowKit (Below)

theorem mbl_c {W : World} {a b u : Nat} (ha : a < 18446744073709551616) (hb : b < 18446744073709551616) (hu : u < 18446744073709551616) :
    Calls Try.prog 7 #[.float .f64 a, .float .f64 b, .int .u64 (u : Int)] W (R7 fun r w' => r = true ∧ Below W.heap.size W w') := by
  have h1 := cleanN_le ha
  have h2 := cleanN_le hb
  refine F7_ok (M.join_by (fun (J : Bool → World → Prop) => J false W) (M.ite_ff ?_) fun J hJ => (mless_c a b).mono fun e w1 g => ?_)
  · refine (mof_c u).mono fun e w1 g => ?_
    obtain ⟨c, ok, rfl, hc, hok, hw⟩ := g
    obtain rfl := hw.symm
    rw [ofB_iff hu] at hc hok
    have e1 : decide ((u : Int) ≤ 9218868437227405312) = decide (u ≤ fInf) := by
      apply decide_eq_decide.2; unfold fInf; omega
    refine ⟨_, _, rfl, M.join_by (fun (J : Bool → World → Prop) => ∀ w', Aft W w' → J true w') (fun w' h => ⟨rfl, h.1⟩) fun J hJ => M.ite_y (by rw [e1, hok]; simp) ?_⟩
    have hkn : ∀ (K : Bool → World → Prop), (∀ w', Aft W w' → K true w') → Calls Try.prog 12 #[] W (R12 K) := fun K hK => (mknown_a (Aft.refl W)).mono fun e w' g => by
      obtain ⟨r, rfl, rfl, a⟩ := g
      exact ⟨_, rfl, hK _ a⟩
    by_cases hle : u ≤ fInf
    · rw [decide_eq_true hle] at hok hc
      subst hok
      have hc : c = u := hc
      subst hc
      refine M.ite_ff (M.ite_tt ((mbits_c c).mono fun e w1 g => ?_))
      obtain ⟨r1, rfl, rfl, hw⟩ := g
      obtain rfl := hw.symm
      refine ⟨_, rfl, M.ite_y (by rw [cleanN_id hle]; simp) (hkn _ hJ)⟩
    · rw [decide_eq_false hle] at hok hc
      subst hok
      have hc : c = 0 := hc
      subst hc
      exact M.ite_tt (M.ite_y (by rw [fEql_pos (Nat.zero_le _) (Nat.zero_le _)]; rfl) (hkn _ hJ))
  · obtain ⟨r1, rfl, rfl, hw⟩ := g
    obtain rfl := hw.symm
    refine ⟨_, rfl, (mbits_c a).mono fun e w1 g => ?_⟩
    obtain ⟨r2, rfl, rfl, hw⟩ := g
    obtain rfl := hw.symm
    refine ⟨_, rfl, (mbits_c b).mono fun e w1 g => ?_⟩
    obtain ⟨r3, rfl, rfl, hw⟩ := g
    obtain rfl := hw.symm
    have e1 : decide ((cleanN a : Int) < (cleanN b : Int)) = decide (cleanN a < cleanN b) := by apply decide_eq_decide.2; omega
    refine ⟨_, rfl, M.ite_n (by rw [fLss_pos h1 h2, e1]; simp) ((msame_c a b).mono fun e w1 g => ?_)⟩
    obtain ⟨r4, rfl, rfl, hw⟩ := g
    obtain rfl := hw.symm
    refine ⟨_, rfl, (mbits_c a).mono fun e w1 g => ?_⟩
    obtain ⟨r5, rfl, rfl, hw⟩ := g
    obtain rfl := hw.symm
    refine ⟨_, rfl, (mbits_c b).mono fun e w1 g => ?_⟩
    obtain ⟨r6, rfl, rfl, hw⟩ := g
    obtain rfl := hw.symm
    refine ⟨_, rfl, ?_⟩
    dsimp only
    have e2 : (!(fEql (cleanN a) (cleanN b) == ((cleanN a : Int) == (cleanN b : Int)))) = false := by
      rw [fEql_pos h1 h2]
      by_cases h : cleanN a = cleanN b
      · rw [h]; simp
      · rw [decide_eq_false h, beq_eq_false_iff_ne.2 (show (cleanN a : Int) ≠ cleanN b by omega)]; rfl
    rw [e2]; exact hJ
theorem mbl_law (W : World) (args : List Value) (h : GdArgs W [(false, .cons .flo .nil), (false, .cons .flo .nil), (false, .cons (.int .u64) .nil)] args) : Calls Try.prog 7 args.toArray W fun e W' => e = .returned (.bool true) ∧ Below W.heap.size W W' := by
  obtain ⟨v0, r, rfl, h0, h⟩ := h.one
  obtain ⟨v1, r, rfl, h1, h⟩ := h.one
  obtain ⟨v2, r, rfl, h2, h⟩ := h.one
  cases h
  obtain ⟨a, rfl, ha⟩ := h0
  obtain ⟨b, rfl, hb⟩ := h1
  obtain ⟨u, rfl, hu1, hu2⟩ := good_int h2
  have e1 : IntKind.u64.min = 0 := rfl
  have e2 : IntKind.u64.max = 18446744073709551615 := rfl
  obtain ⟨u, rfl⟩ := Int.eq_ofNat_of_zero_le (show 0 ≤ u by omega)
  exact (mbl_c ha hb (by omega)).mono fun e w' ⟨b, he, hb, hw⟩ => by subst hb; exact ⟨he, hw⟩
end Go.Proofs.Ytkbfpjkikjmmeaa
