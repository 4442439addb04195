/-
  NlriNumbers: the closed sentence of chapter 8.
-/
import Derived.Test.YtfcgkkgdnagmcaaNlriL
namespace Go.Proofs.Ytfcgkkgdnagmcaa
set_option linter.unusedVariables false
set_option linter.unusedSimpArgs false
open Go.Sp
open Go.RowKit (Below)

theorem numbers_c {W : World} : Calls Try.prog 3 #[] W (R3 fun r w' => r = true ∧ Below W.heap.size W w') := by
  refine F3_ok ?_
  refine M.loop1_by (fun x w => -1 ≤ x ∧ x ≤ 35 ∧ Keeps [] W w) (fun x _ => (35 - x).toNat) ⟨by omega, by omega, Keeps.refl _ _⟩ ?_
  rintro x w J ⟨hx0, hx, ha⟩ hJ
  refine M.ite_by (fun c => ?_) (fun c => ?_)
  · have c := of_decide_eq_true c
    refine (rof_c (a := 4294967295) (by omega) x).mono fun e w1 g => ?_
    obtain ⟨r1, y1, rfl, rfl, rfl, k1⟩ := g
    refine ⟨_, _, rfl, M.new_blk fun b w2 hb B k2 => M.stA_blk B rfl fun w3 B3 k3 => ?_⟩
    have k13 : Keeps [] w1 w3 := k2.trans k3 (by simp; omega)
    refine M.join_by (fun J => ∀ w, Keeps [] w3 w → J false w) ?_ ?_
    rotate_left
    · intro J2 hJ2
      refine ⟨_, B3.cell 0, _, B3.cell 1, M.new_by ?_⟩
      have ht : topN 4294967295 (clampN x) < 4294967296 := topN_lt (by omega)
      have kal := Keeps.alloc [] w3 (.cells (pvs [(topN 4294967295 (clampN x), x), (0, 0)]).toArray 24)
      have hr : Rd 2 (w3.alloc (.cells (pvs [(topN 4294967295 (clampN x), x), (0, 0)]).toArray 24)) (SV.mk (some ⟨w3.heap.size, 0, none⟩) 2 2) (pvs [(topN 4294967295 (clampN x), x), (0, 0)]) := (Own.new w3 24 2 2 _ rfl (by decide)).rd
      refine (same_c hr (by
        intro y hy
        rcases List.mem_cons.1 hy with rfl | hy
        · exact ht
        · simp at hy; subst hy; show 0 < 4294967296; omega) (by simp)).mono fun e w4 g => ?_
      obtain ⟨r4, rfl, rfl, k4⟩ := g
      refine ⟨_, rfl, M.ite_n rfl (M.new_by ?_)⟩
      refine (same_c (new_p w4 (1, x)) (by simp) (by simp)).mono fun e w5 g => ?_
      obtain ⟨r5, rfl, rfl, k5⟩ := g
      exact ⟨_, rfl, hJ2 _ ((kal.trans k4 (by simp)).trans ((Keeps.alloc [] w4 _).trans k5 (by simp)) (by simp))⟩
    · intro w4 k4
      refine M.ite_ff (M.new_by (M.new_by ?_))
      have n5 : Own 5 1 (w4.alloc (.cells (bv (lowB x 1)).toArray 5)) (SV.mk (some ⟨w4.heap.size, 0, none⟩) 1 1) (bv (lowB x 1)) := Own.new w4 5 1 1 _ (by rw [bv_length, lowB_len]) (by decide)
      have k5 := Keeps.alloc [] w4 (.cells (bv (lowB x 1)).toArray 5)
      rw [show (bv (lowB x 1)).toArray = #[Value.int .u8 (IntKind.u8.wrap x)] by rw [lowB1]] at n5 k5
      generalize w4.alloc (.cells #[Value.int .u8 (IntKind.u8.wrap x)] 5) = w5 at *
      have k6 := Keeps.alloc [] w5 (.cells (bv [255, 255, 255, 255]).toArray 5)
      obtain ⟨r7, w7, v1, v2, v3, v4⟩ := app_b (n5.keep k6 (by simp)) (new_b w5 [255, 255, 255, 255] (by simp)) (by rw [lowB_len]; simp)
      have k47 : Keeps [] w4 w7 := (k5.trans k6 (by simp)).trans v3 (fun y hy => .inr (by simp [SV.blk] at hy; omega))
      have k07 : Keeps [] W w7 := (((ha.trans k1 (by simp)).trans k13 (by simp)).trans k4 (by simp)).trans k47 (by simp)
      have hl7 := v2.rd.len
      have hc7 := v2.rd.cap
      rw [bv_length, Nat.mul_one, List.length_append, lowB_len] at hl7
      have hl7 : r7.len = 5 := by simp at hl7; omega
      refine ⟨r7, w7, v1, ?_⟩
      refine M.loop1_by (fun y w => ∃ k : Nat, y = k ∧ k ≤ 6 ∧ Keeps [] w7 w) (fun y _ => (6 - y).toNat) ⟨0, rfl, by omega, Keeps.refl _ _⟩ ?_
      rintro y w8 J3 ⟨k, rfl, hk, k8⟩ hJ3
      refine M.ite_by (fun c2 => ?_) (fun c2 => ?_)
      · have c2 := of_decide_eq_true c2
        have hsub := (v2.rd.keep k8 (by simp)).sub (l := 0) (u := k) (by omega) (by omega)
        simp only [Nat.zero_mul, List.drop_zero, Nat.sub_zero, Nat.mul_one, bv_take] at hsub
        refine ⟨by omega, by omega, by omega, (read_c hsub (by rw [List.length_take]; omega)).mono fun e w9 g => ?_⟩
        obtain ⟨r9, rfl, rfl, k9⟩ := g
        refine ⟨_, rfl, M.ite_n rfl ?_⟩
        rw [w64 (by omega) (by omega)]
        exact hJ3 _ _ ⟨k + 1, by omega, by omega, k8.trans k9 (by simp)⟩ (by omega)
      · rw [w64 (by omega) (by omega)]
        exact hJ _ _ ⟨by omega, by omega, k07.trans k8 (by simp)⟩ (by omega)
  · refine M.join_by (fun J => ∀ w, Keeps [] W w → J true w) (fun w h => ⟨rfl, ((Aft.refl W).new h).1⟩) fun J2 hJ2 => ?_
    refine (read_c (bs := []) (Rd.nil 1 w) (by simp)).mono fun e w1 g => ?_
    obtain ⟨r1, rfl, rfl, k1⟩ := g
    refine ⟨_, rfl, M.ite_tt (known_c.mono fun e w2 g => ?_)⟩
    obtain ⟨r2, rfl, rfl, k2⟩ := g
    exact ⟨_, rfl, hJ2 _ ((ha.trans k1 (by simp)).trans k2 (by simp))⟩
theorem numbers_law (W : World) (args : List Value) (h : GdArgs W [] args) : Calls Try.prog 3 args.toArray W fun e W' => e = .returned (.bool true) ∧ Below W.heap.size W W' := by
  cases h
  exact numbers_c.mono fun e w' ⟨b, he, hb, hw⟩ => by subst hb; exact ⟨he, hw⟩
end Go.Proofs.Ytfcgkkgdnagmcaa
