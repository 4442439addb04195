/-
  What is written is read: prefixes in plain numbers.
-/
import Derived.Test.YtfcgkkgdnagmcaaNlriL
namespace Go.Proofs.Ytfcgkkgdnagmcaa
set_option linter.unusedVariables false
set_option linter.unusedSimpArgs false
open Go.Sp

theorem beB_head (a : Nat) {k : Nat} (hk : k ≤ 4) : (beB a 4).take k = beB (a / 256 ^ (4 - k)) k := by
  have : k = 0 ∨ k = 1 ∨ k = 2 ∨ k = 3 ∨ k = 4 := by omega
  rcases this with rfl | rfl | rfl | rfl | rfl <;> simp [beB, Nat.div_div_eq_div_mul]
theorem lowB_nat {a : Nat} (ha : a < 4294967296) (k : Nat) : lowB (a : Int) k = beB a k := by
  unfold lowB
  rw [show ((a : Int) % 18446744073709551616).toNat = a by omega]
theorem val_take {a : Nat} (ha : a < 4294967296) {k : Nat} (hk : k ≤ 4) : valB ((lowB (a : Int) 4).take k) = a / 256 ^ (4 - k) * 256 ^ (4 - k) := by
  rw [lowB_nat ha, beB_head a hk, valB, beB_length, be_beB]
  congr 1
  apply Nat.mod_eq_of_lt
  apply Nat.div_lt_of_lt_mul
  rw [← Nat.pow_add, show 4 - k + k = 4 by omega]
  exact ha
/-- The bytes hold all of a right prefix's bits. -/
theorem val_right {a n : Nat} (ha : a < 4294967296) (hn : n ≤ 32) (h : lowN a n = 0) : valB ((lowB (a : Int) 4).take ((n + 7) / 8)) = a := by
  rw [val_take ha (by omega)]
  have e : 256 ^ (4 - (n + 7) / 8) = 2 ^ (8 * (4 - (n + 7) / 8)) := by rw [Nat.pow_mul]
  rw [e]
  apply Nat.div_mul_cancel
  unfold lowN at h
  have hd : 2 ^ (32 - n) ∣ a := Nat.dvd_of_mod_eq_zero h
  exact Nat.dvd_trans (Nat.pow_dvd_pow 2 (by omega)) hd
theorem lowB_one {n : Nat} (hn : n ≤ 32) : lowB (n : Int) 1 = [UInt8.ofNat n] := by
  rw [lowB_nat (by omega)]; simp [beB]
theorem dec_one {x : Nat × Int} (hx : x.1 < 4294967296) (hr : rightP x.1 x.2 = true) (rest : List UInt8) : decB (encB1 x ++ rest) = (decB rest).map (x :: ·) := by
  obtain ⟨a, n⟩ := x
  obtain ⟨h0, h1, h2⟩ := (rightP_iff _ _).1 hr
  obtain ⟨n, rfl⟩ := Int.eq_ofNat_of_zero_le h0
  simp only [] at hx h2
  rw [Int.toNat_natCast] at h2
  have hn : n ≤ 32 := by omega
  have hb : (UInt8.ofNat n).toNat = n := by rw [UInt8.toNat_ofNat']; omega
  simp only [encB1, Int.toNat_natCast]
  rw [lowB_one hn, List.append_assoc, List.singleton_append, decB_cons, hb, if_neg (by omega)]
  have hl : ((lowB (a : Int) 4).take ((n + 7) / 8)).length = (n + 7) / 8 := by rw [List.length_take, lowB_len]; omega
  have hv := val_right hx hn h2
  generalize (lowB (a : Int) 4).take ((n + 7) / 8) = y at *
  rw [if_neg (by rw [List.length_append]; omega), ← hl, List.drop_left, List.take_left, hv, topN_of_low h2]
theorem dec_enc {l : List (Nat × Int)} (h : ∀ x ∈ l, x.1 < 4294967296 ∧ rightP x.1 x.2 = true) : decB (encB l) = some l := by
  induction l with
  | nil => rw [encB, List.flatMap_nil, decB_nil]
  | cons x l ih =>
    rw [encB, List.flatMap_cons, dec_one (h x (by simp)).1 (h x (by simp)).2]
    have := ih (fun y hy => h y (by simp [hy]))
    rw [encB] at this
    rw [this]; rfl
def sizeL (l : List (Nat × Int)) : Nat := (l.map sizeP).sum
theorem enc_size {l : List (Nat × Int)} (h : ∀ x ∈ l, rightP x.1 x.2 = true) : (encB l).length = sizeL l := by
  induction l with
  | nil => rfl
  | cons x l ih =>
    have h1 := encB1_len (h x (by simp))
    have h2 := ih (fun y hy => h y (by simp [hy]))
    simp only [encB, sizeL, List.flatMap_cons, List.length_append, List.map_cons, List.sum_cons] at *
    omega
theorem enc_app (a b : List (Nat × Int)) : encB (a ++ b) = encB a ++ encB b := by simp [encB]
end Go.Proofs.Ytfcgkkgdnagmcaa
