/-
  MetricRules: sums go both ways, and are no less than either; less is an order; bits come back.
-/
import Derived.Test.YtkbfpjkikjmmeaaMetL
namespace Go.Proofs.Ytkbfpjkikjmmeaa
set_option linter.unusedVariables false
set_option linter.unusedSimpArgs false
open Go.Sp
open Go.RowKit (Below)

theorem ml_c {w : World} {a b : Nat} (ha : cleanN a ≤ fInf) (hb : cleanN b ≤ fInf) : Calls Try.prog 23 #[.float .f64 a, .float .f64 b] w (R23 fun r w' => r = decide (cleanN a < cleanN b) ∧ w' = w) := by
  refine (mless_c a b).mono fun e w1 g => ?_
  obtain ⟨r, rfl, rfl, hw⟩ := g
  exact ⟨_, rfl, fLss_pos ha hb, hw⟩
theorem ms_c {w : World} {a b : Nat} (ha : cleanN a ≤ fInf) (hb : cleanN b ≤ fInf) : Calls Try.prog 25 #[.float .f64 a, .float .f64 b] w (R25 fun r w' => r = decide (cleanN a = cleanN b) ∧ w' = w) := by
  refine (msame_c a b).mono fun e w1 g => ?_
  obtain ⟨r, rfl, rfl, hw⟩ := g
  exact ⟨_, rfl, fEql_pos ha hb, hw⟩
theorem signb_c {w : World} {a : Nat} (ha : a ≤ fInf) : Calls Try.prog 27 #[.float .f64 a] w (R27 fun r w' => r = false ∧ w' = w) := by
  refine F27_ok ⟨?_, rfl⟩
  unfold fInf at ha
  rw [w64 (by omega) (by omega), decide_eq_false (by omega)]
theorem mrl_c {W : World} {a b c : Nat} (ha : a < 18446744073709551616) (hb : b < 18446744073709551616) (hc : c < 18446744073709551616) :
    Calls Try.prog 8 #[.float .f64 a, .float .f64 b, .float .f64 c] W (R8 fun r w' => r = true ∧ Below W.heap.size W w') := by
  have hA := cleanN_le ha
  have hB := cleanN_le hb
  have hC := cleanN_le hc
  refine F8_ok ((madd_c ha hb).mono fun e w1 g => ?_)
  obtain ⟨r1, rfl, hr1, hw⟩ := g
  obtain rfl := hw.symm
  have hs : r1 ≤ fInf := by rw [hr1]; exact addB_le _ _
  have hs2 : r1 < 18446744073709551616 := by unfold fInf at hs; omega
  have hcs := cleanN_id hs
  have hge1 : cleanN a ≤ r1 := by rw [hr1]; exact addB_ge hA
  have hge2 : cleanN b ≤ r1 := by rw [hr1]; exact addB_ge2 hB
  refine ⟨_, rfl, M.join_by (fun (J : Bool → World → Prop) => J false W) (M.ite_ff ?_) fun J hJ => ?_⟩
  rotate_left
  · refine (madd_c hb ha).mono fun e w1 g => ?_
    obtain ⟨r2, rfl, hr2, hw⟩ := g
    obtain rfl := hw.symm
    refine ⟨_, rfl, (fbits_c _ _).mono fun e w1 g => ?_⟩
    obtain ⟨r3, rfl, rfl, hw⟩ := g
    obtain rfl := hw.symm
    refine ⟨_, rfl, M.ite_n (by rw [hr1, hr2, addB_comm]; simp) ((ml_c (by rw [hcs]; exact hs) hA).mono fun e w1 g => ?_)⟩
    obtain ⟨r4, rfl, rfl, hw⟩ := g
    obtain rfl := hw.symm
    refine ⟨_, rfl, M.ite_n (by rw [hcs]; exact decide_eq_false (by omega)) ((ml_c (by rw [hcs]; exact hs) hB).mono fun e w1 g => ?_)⟩
    obtain ⟨r5, rfl, rfl, hw⟩ := g
    obtain rfl := hw.symm
    refine ⟨_, rfl, M.ite_n (by rw [hcs]; exact decide_eq_false (by omega)) ((mright_c _).mono fun e w1 g => ?_)⟩
    obtain ⟨r6, rfl, rfl, hw⟩ := g
    obtain rfl := hw.symm
    refine ⟨_, rfl, M.ite_n (by rw [fGeq_pos hs (Nat.zero_le _)]; simp) ((signb_c hs).mono fun e w1 g => ?_)⟩
    obtain ⟨r7, rfl, rfl, hw⟩ := g
    obtain rfl := hw.symm
    exact ⟨_, rfl, hJ⟩
  refine M.join_by (fun (J : Bool → World → Prop) => J false W) (M.ite_ff ?_) fun J hJ => ?_
  rotate_left
  · refine (ml_c hA hB).mono fun e w1 g => ?_
    obtain ⟨r2, rfl, rfl, hw⟩ := g
    obtain rfl := hw.symm
    refine ⟨_, rfl, M.ite_by (fun c1 => ?_) (fun c1 => ?_)⟩
    · have hlt := of_decide_eq_true c1
      refine (ml_c hB hA).mono fun e w1 g => ?_
      obtain ⟨r3, rfl, rfl, hw⟩ := g
      obtain rfl := hw.symm
      refine ⟨_, rfl, M.ite_n (decide_eq_false (by omega)) ((ms_c hA hB).mono fun e w1 g => ?_)⟩
      obtain ⟨r4, rfl, rfl, hw⟩ := g
      obtain rfl := hw.symm
      refine ⟨_, rfl, M.ite_n (decide_eq_false (by omega)) ((ml_c hA hB).mono fun e w1 g => ?_)⟩
      obtain ⟨r5, rfl, rfl, hw⟩ := g
      obtain rfl := hw.symm
      refine ⟨_, rfl, M.ite_n (by rw [c1]; rfl) ((ml_c hA hB).mono fun e w1 g => ?_)⟩
      obtain ⟨r6, rfl, rfl, hw⟩ := g
      obtain rfl := hw.symm
      refine ⟨_, rfl, M.ite_y c1 ((ml_c hB hC).mono fun e w1 g => ?_)⟩
      obtain ⟨r7, rfl, rfl, hw⟩ := g
      obtain rfl := hw.symm
      refine ⟨_, rfl, M.ite_by (fun c2 => ?_) (fun c2 => hJ)⟩
      have hlt2 := of_decide_eq_true c2
      refine (ml_c hA hC).mono fun e w1 g => ?_
      obtain ⟨r8, rfl, rfl, hw⟩ := g
      obtain rfl := hw.symm
      refine ⟨_, rfl, ?_⟩
      dsimp only
      rw [decide_eq_true (by omega)]
      exact hJ
    · have hlt := of_decide_eq_false c1
      refine (ml_c hA hB).mono fun e w1 g => ?_
      obtain ⟨r3, rfl, rfl, hw⟩ := g
      obtain rfl := hw.symm
      refine ⟨_, rfl, M.ite_y (by rw [c1]; rfl) ((ml_c hB hA).mono fun e w1 g => ?_)⟩
      obtain ⟨r4, rfl, rfl, hw⟩ := g
      obtain rfl := hw.symm
      refine ⟨_, rfl, M.ite_by (fun c2 => ?_) (fun c2 => ?_)⟩
      · have c2 : decide (cleanN b < cleanN a) = false := by simpa using c2
        have hge := of_decide_eq_false c2
        refine (ms_c hA hB).mono fun e w1 g => ?_
        obtain ⟨r5, rfl, rfl, hw⟩ := g
        obtain rfl := hw.symm
        refine ⟨_, rfl, M.ite_n (by rw [decide_eq_true (by omega)]; rfl) ((ml_c hA hB).mono fun e w1 g => ?_)⟩
        obtain ⟨r6, rfl, rfl, hw⟩ := g
        obtain rfl := hw.symm
        exact ⟨_, rfl, M.ite_n c1 hJ⟩
      · refine (ml_c hA hB).mono fun e w1 g => ?_
        obtain ⟨r5, rfl, rfl, hw⟩ := g
        obtain rfl := hw.symm
        exact ⟨_, rfl, M.ite_n c1 hJ⟩
  refine M.join_by (fun (J : Bool → World → Prop) => J false W) (M.ite_ff ?_) fun J hJ => ?_
  rotate_left
  · refine (ml_c hA hB).mono fun e w1 g => ?_
    obtain ⟨r2, rfl, rfl, hw⟩ := g
    obtain rfl := hw.symm
    refine ⟨_, rfl, M.ite_by (fun c1 => ?_) (fun c1 => hJ)⟩
    have hlt := of_decide_eq_true c1
    refine (madd_c hb hc).mono fun e w1 g => ?_
    obtain ⟨r3, rfl, hr3, hw⟩ := g
    obtain rfl := hw.symm
    refine ⟨_, rfl, (madd_c ha hc).mono fun e w1 g => ?_⟩
    obtain ⟨r4, rfl, hr4, hw⟩ := g
    obtain rfl := hw.symm
    have h3 : r3 ≤ fInf := by rw [hr3]; exact addB_le _ _
    have h4 : r4 ≤ fInf := by rw [hr4]; exact addB_le _ _
    refine ⟨_, rfl, (ml_c (by rw [cleanN_id h3]; exact h3) (by rw [cleanN_id h4]; exact h4)).mono fun e w1 g => ?_⟩
    obtain ⟨r5, rfl, rfl, hw⟩ := g
    obtain rfl := hw.symm
    have hle : r4 ≤ r3 := by rw [hr3, hr4]; exact addB_mono (by omega) (Nat.le_refl _)
    refine ⟨_, rfl, ?_⟩
    rw [cleanN_id h3, cleanN_id h4, decide_eq_false (by omega)]
    exact hJ
  refine (mbits_c a).mono fun e w1 g => ?_
  obtain ⟨r2, rfl, rfl, hw⟩ := g
  obtain rfl := hw.symm
  refine ⟨_, rfl, (mof_c _).mono fun e w1 g => ?_⟩
  obtain ⟨r3, ok3, rfl, hr3, hok3, hw⟩ := g
  obtain rfl := hw.symm
  rw [ofB_iff (by unfold fInf at hA; omega), decide_eq_true hA] at hr3 hok3
  have hr3 : r3 = cleanN a := hr3
  subst hr3 hok3
  refine ⟨_, _, rfl, M.join_by (fun (J : Bool → World → Prop) => ∀ w', Aft W w' → J true w') (fun w' h => ⟨rfl, h.1⟩) fun J hJ => M.ite_tt ((clean_c a).mono fun e w1 g => ?_)⟩
  obtain ⟨r4, rfl, rfl, hw⟩ := g
  obtain rfl := hw.symm
  refine ⟨_, rfl, (fbits_c _ _).mono fun e w1 g => ?_⟩
  obtain ⟨r5, rfl, rfl, hw⟩ := g
  obtain rfl := hw.symm
  refine ⟨_, rfl, M.ite_y (by simp) ((ms_c hA (by rw [cleanN_id hA]; exact hA)).mono fun e w1 g => ?_)⟩
  obtain ⟨r6, rfl, rfl, hw⟩ := g
  obtain rfl := hw.symm
  refine ⟨_, rfl, M.ite_y (by rw [cleanN_id hA]; simp) ((madd_c ha (by omega)).mono fun e w1 g => ?_)⟩
  obtain ⟨r7, rfl, rfl, hw⟩ := g
  obtain rfl := hw.symm
  refine ⟨_, rfl, (clean_c a).mono fun e w1 g => ?_⟩
  obtain ⟨r8, rfl, rfl, hw⟩ := g
  obtain rfl := hw.symm
  refine ⟨_, rfl, (fbits_c _ _).mono fun e w1 g => ?_⟩
  obtain ⟨r9, rfl, rfl, hw⟩ := g
  obtain rfl := hw.symm
  refine ⟨_, rfl, M.ite_y (by rw [cleanN_id (Nat.zero_le _), addB_comm, addB_zero hA]; simp) ((mknown_a (Aft.refl W)).mono fun e w' g => ?_)⟩
  obtain ⟨r, rfl, rfl, a⟩ := g
  exact ⟨_, rfl, hJ _ a⟩
theorem mrl_law (W : World) (args : List Value) (h : GdArgs W [(false, .cons .flo .nil), (false, .cons .flo .nil), (false, .cons .flo .nil)] args) : Calls Try.prog 8 args.toArray W fun e W' => e = .returned (.bool true) ∧ Below W.heap.size W W' := by
  obtain ⟨v0, r, rfl, h0, h⟩ := h.one
  obtain ⟨v1, r, rfl, h1, h⟩ := h.one
  obtain ⟨v2, r, rfl, h2, h⟩ := h.one
  cases h
  obtain ⟨a, rfl, ha⟩ := h0
  obtain ⟨b, rfl, hb⟩ := h1
  obtain ⟨c, rfl, hc⟩ := h2
  exact (mrl_c ha hb hc).mono fun e w' ⟨b, he, hb, hw⟩ => by subst hb; exact ⟨he, hw⟩
end Go.Proofs.Ytkbfpjkikjmmeaa
