/-
  What the functions on prefixes do, the program's and the document's.
-/
import Derived.Test.YtecegjimdohmeaaBookC
import Derived.Test.YtecegjimdohmeaaSpAddr
namespace Go.Proofs.Ytecegjimdohmeaa
set_option linter.unusedVariables false
set_option linter.unusedSimpArgs false
open Go.Sp

theorem mask_c {w : World} (n : Int) : Calls Try.prog 51 #[.int .i64 n] w (R51 fun r w' => r = (maskN (clampN n) : Int) ∧ w' = w) := by
  refine F51_ok (M.ite_by (fun c => ?_) (fun c => ?_))
  · have c := of_decide_eq_true c
    rw [show clampN n = 0 by unfold clampN; omega]
    exact ⟨rfl, rfl⟩
  · have c := of_decide_eq_false c
    have h := clampN_cast n
    have hle := clampN_le n
    have e : min n (32 : Int) = (clampN n : Int) := by omega
    rw [e, w64 (by omega) (by omega), mask_shl (by omega) hle]
    exact ⟨by omega, rfl, rfl⟩
theorem right_c {w : World} {a : Nat} (ha : a < 4294967296) (n : Int) : Calls Try.prog 30 #[.agg #[.int .u32 (a : Int), .int .i64 n]] w (R30 fun r w' => r = rightP a n ∧ Keeps [] w w') := by
  refine F30_ok (M.new_blk fun b w1 hb B k1 => ?_)
  have kd := Keeps.drew [] w1
  have B2 := B.keep kd (by simp)
  have k2 := k1.trans kd (by simp)
  refine M.join_by (fun J => J (rightP a n) w1.drew) ⟨rfl, k2⟩ fun J hJ => M.drew_by ⟨_, B2.cell 1, M.ite_by (fun c => ?_) (fun c => ?_)⟩
  · refine ⟨_, B2.cell 1, M.ite_by (fun c2 => ?_) (fun c2 => ?_)⟩
    · refine ⟨_, B2.cell 0, _, B2.cell 1, (mask_c n).mono fun e w3 g => ?_⟩
      obtain ⟨r, rfl, rfl, rfl⟩ := g
      refine ⟨_, rfl, B2.cell 0, ?_⟩
      rw [bAndNot_low ha (clampN_le n)]
      have h0 := of_decide_eq_true c
      have h1 := of_decide_eq_true c2
      have e : clampN n = n.toNat := by unfold clampN; omega
      have : rightP a n = ((lowN a (clampN n) : Int) == 0) := by
        rw [rightP, c, c2, Bool.true_and, Bool.true_and, e]
        cases h : lowN a n.toNat == 0 <;> simp at h <;> simp [h]
      rw [← this]; exact hJ
    · rw [rightP, c2, Bool.false_and, Bool.and_false] at hJ; exact hJ
  · rw [rightP, c, Bool.false_and] at hJ; exact hJ
theorem of_c {w : World} {a : Nat} (ha : a < 4294967296) (n : Int) : Calls Try.prog 61 #[.int .u32 (a : Int), .int .i64 n] w (R61 fun x y w' => x = (topN a (clampN n) : Int) ∧ y = (clampN n : Int) ∧ Keeps [] w w') := by
  refine F61_ok (M.new_blk fun b w1 hb B k1 => (mask_c n).mono fun e w3 g => ?_)
  obtain ⟨r, rfl, rfl, rfl⟩ := g
  refine ⟨_, rfl, M.stA_blk B rfl fun w4 B4 k4 => ⟨_, B4.cell 0, _, B4.cell 1, ?_, ?_, k1.trans k4 (by simp; omega)⟩⟩
  · exact bAnd_top ha (clampN_le n)
  · exact (clampN_cast n).symm

theorem rmask_c {w : World} (n : Int) : Calls Try.prog 35 #[.int .i64 n] w (R35 fun r w' => r = (maskN (clampN n) : Int) ∧ w' = w) := by
  have h := clampN_cast n
  have hle := clampN_le n
  refine F35_ok ?_
  refine M.loop2_by (fun x y w' => ∃ i : Nat, y = i ∧ i ≤ clampN n ∧ x = (maskN i : Int) ∧ w' = w) (fun _ y _ => (32 - y).toNat) ⟨0, rfl, by omega, rfl, rfl⟩ ?_
  rintro x y w' J ⟨i, rfl, hi, rfl, rfl⟩ hJ
  refine M.join_lt (fun h1 h2 => ?_) (fun hend => ?_)
  · have e : IntKind.u64.wrap (IntKind.i64.wrap ((31 : Int) - (i : Int))) = ((31 - i : Nat) : Int) := by
      rw [w64 (n := (31 : Int) - (i : Int)) (by omega) (by omega), wu64 (by omega) (by omega)]; omega
    rw [e, mask_or (by omega), w64 (by omega) (by omega)]
    exact ⟨by omega, hJ _ _ _ ⟨i + 1, by omega, by omega, rfl, rfl⟩ (by omega)⟩
  · rw [show clampN n = i by omega]
    exact ⟨rfl, rfl⟩
theorem rright_c {w : World} {a : Nat} (ha : a < 4294967296) (n : Int) : Calls Try.prog 57 #[.agg #[.int .u32 (a : Int), .int .i64 n]] w (R57 fun r w' => r = rightP a n ∧ Keeps [] w w') := by
  refine F57_ok (M.new_blk fun b w1 hb B k1 => ?_)
  have kd := Keeps.drew [] w1
  have B2 := B.keep kd (by simp)
  have k2 := k1.trans kd (by simp)
  refine M.join_by (fun J => J (rightP a n) w1.drew) ⟨rfl, k2⟩ fun J hJ => M.drew_by ⟨_, B2.cell 1, M.ite_by (fun c => ?_) (fun c => ?_)⟩
  · refine ⟨_, B2.cell 1, M.ite_by (fun c2 => ?_) (fun c2 => ?_)⟩
    · refine ⟨_, B2.cell 0, _, B2.cell 1, (rmask_c n).mono fun e w3 g => ?_⟩
      obtain ⟨r, rfl, rfl, rfl⟩ := g
      refine ⟨_, rfl, B2.cell 0, ?_⟩
      rw [bAndNot_low ha (clampN_le n)]
      have h0 := of_decide_eq_true c
      have h1 := of_decide_eq_true c2
      have e : clampN n = n.toNat := by unfold clampN; omega
      have : rightP a n = ((lowN a (clampN n) : Int) == 0) := by
        rw [rightP, c, c2, Bool.true_and, Bool.true_and, e]
        cases h : lowN a n.toNat == 0 <;> simp at h <;> simp [h]
      rw [← this]; exact hJ
    · rw [rightP, c2, Bool.false_and, Bool.and_false] at hJ; exact hJ
  · rw [rightP, c, Bool.false_and] at hJ; exact hJ
theorem rof_c {w : World} {a : Nat} (ha : a < 4294967296) (n : Int) : Calls Try.prog 21 #[.int .u32 (a : Int), .int .i64 n] w (R21 fun x y w' => x = (topN a (clampN n) : Int) ∧ y = (clampN n : Int) ∧ Keeps [] w w') := by
  have h := clampN_cast n
  refine F21_ok (M.new_blk fun b w1 hb B k1 => ?_)
  refine M.join_by (fun J => J (max n 0) w1) ?_ fun J hJ => ?_
  · refine M.join_by (fun J => J (clampN n : Int) w1) ?_ fun J hJ => ?_
    · refine (rmask_c _).mono fun e w3 g => ?_
      obtain ⟨r, rfl, rfl, rfl⟩ := g
      refine ⟨_, rfl, M.stA_blk B rfl fun w4 B4 k4 => ⟨_, B4.cell 0, _, B4.cell 1, ?_, rfl, k1.trans k4 (by simp; omega)⟩⟩
      rw [clampN_nat (clampN_le n)]
      exact bAnd_top ha (clampN_le n)
    · refine M.ite_by (fun c => ?_) (fun c => ?_)
      · have c := of_decide_eq_true c
        rw [show (clampN n : Int) = 32 by omega] at hJ; exact hJ
      · have c := of_decide_eq_false c
        rw [show (clampN n : Int) = max n 0 by omega] at hJ; exact hJ
  · refine M.ite_by (fun c => ?_) (fun c => ?_)
    · have c := of_decide_eq_true c
      rw [show max n 0 = 0 by omega] at hJ; exact hJ
    · have c := of_decide_eq_false c
      rw [show max n 0 = n by omega] at hJ; exact hJ
theorem any_c {w : World} {a : Nat} (ha : a < 4294967296) (n : Int) : Calls Try.prog 8 #[.int .u32 (a : Int), .int .i64 n] w (R8 fun x y w' => ∃ k : Nat, k ≤ 32 ∧ (k : Int) = n % 33 ∧ x = (topN a k : Int) ∧ y = (k : Int) ∧ Keeps [] w w') := by
  refine F8_ok (M.new_blk fun b w1 hb B k1 => (within_c n 0 32 (by omega) (by omega) (by omega)).mono fun e w2 g => ?_)
  obtain ⟨r, rfl, hr, h0, h1, rfl⟩ := g
  obtain ⟨k, rfl⟩ := Int.eq_ofNat_of_zero_le h0
  refine ⟨_, rfl, (rof_c ha _).mono fun e w3 g => ?_⟩
  obtain ⟨x, y, rfl, rfl, rfl, k3⟩ := g
  refine ⟨_, _, rfl, M.stA_blk (B.keep k3 (by simp)) rfl fun w4 B4 k4 => ⟨_, B4.cell 0, _, B4.cell 1, k, by omega, ?_, ?_, ?_, (k1.trans k3 (by simp)).trans k4 (by simp; omega)⟩⟩
  · omega
  · rw [clampN_nat (by omega)]
  · rw [clampN_nat (by omega)]
end Go.Proofs.Ytecegjimdohmeaa
