/-
  What the laws of package wire share.
-/
import Derived.Test.YtobnlhfkggeahaaWireC
import Derived.Test.YtobnlhfkggeahaaSpBytes
import Derived.Test.YtobnlhfkggeahaaSpRow
namespace Go.Proofs.Ytobnlhfkggeahaa
set_option linter.unusedVariables false
set_option linter.unusedSimpArgs false
open Go.Sp
open Go.RowKit (Below)

theorem wireU8 : intB Try.prog 5 .u8 = true := by kernel_rfl
theorem wireStr : Try.prog.underlying 9 = some .string := by kernel_rfl
theorem b2s_c {w : World} {s : SV} {bs : List UInt8} (h : Rd 1 w s (bv bs)) : (convert 23 9 s.v).run Try.prog w = .ok (.string (baOf bs)) w :=
  b2s_rd wireSl wireU8 wireStr h

theorem cut_c {w : World} {s : SV} {bs : List UInt8} (h : Rd 1 w s (bv bs)) (n : Nat) :
    Calls Try.prog 10 #[s.v, .int .i64 n] w (R10 fun r w' => w' = w ∧ ∀ w1, Rd 1 w1 s (bv bs) → Rd 1 w1 r (bv (bs.take n))) := by
  have hl := h.len
  have hc := h.cap
  rw [bv_length, Nat.mul_one] at hl
  refine F10_ok (M.ite_by (fun hb => ?_) (fun hb => ?_))
  · have hb := of_decide_eq_true hb
    refine ⟨by omega, by omega, by omega, rfl, fun w1 h1 => ?_⟩
    have := h1.sub (l := 0) (u := n) (Nat.zero_le _) (by omega)
    simp only [Nat.zero_mul, List.drop_zero, Nat.sub_zero, Nat.mul_one, bv_take] at this
    exact this
  · have hb := of_decide_eq_false hb
    rw [List.take_of_length_le (by omega)]
    exact ⟨rfl, fun w1 h1 => h1⟩

theorem known_c {w : World} : Calls Try.prog 9 #[] w (R9 fun r w' => r = true ∧ Keeps [] w w') := by
  refine F9_ok (neww_c.mono fun e w1 h => ?_)
  obtain ⟨r, rfl, p, rfl, hw, hk, hp⟩ := h
  refine ⟨_, rfl, M.ite_n rfl ((wu16_c hw 258 (by simp)).mono fun e w2 h => ?_)⟩
  obtain ⟨rfl, q2, hw2, hk2, hq2⟩ := h
  refine ⟨rfl, (wu32_c hw2 1 (by simp [lowB, beB_length])).mono fun e w3 h => ?_⟩
  obtain ⟨rfl, q3, hw3, hk3, hq3⟩ := h
  have hbs : ([] ++ lowB 258 2) ++ lowB 1 4 = [1, 2, 0, 0, 0, 1] := by decide
  rw [hbs] at hw3
  refine ⟨rfl, (done_c hw3 (by simp)).mono fun e w4 h => ?_⟩
  obtain ⟨r, rfl, ho, hl, hk4, hq4⟩ := h
  have hk13 : Keeps [p] w1 w3 := by
    refine (hk2.mono (D' := [p]) (fun x hx => .inl (by simpa using hx))).trans hk3 ?_
    intro x hx
    rcases List.mem_cons.1 hx with rfl | hx
    · left; simp
    · rcases hq2 x hx with h5 | h5
      · simp at h5
      · right; exact h5
  have hk14 : Keeps [] w w4 := (hk.trans hk13 (by intro x hx; right; simp at hx; omega)).trans hk4 (by simp)
  have hs : (baOf [1, 2, 0, 0, 0, 1]).toList == str0.toList := by decide +kernel
  refine ⟨r, rfl, _, b2s_c ho.rd, M.ite_y hs ((wlen_c (hw3.keep hk4 (by simp) (by simp))).mono fun e w5 h => ?_)⟩
  obtain ⟨r, rfl, rfl, rfl⟩ := h
  exact ⟨_, rfl, rfl, hk14⟩
end Go.Proofs.Ytobnlhfkggeahaa
