/-
  A path as bytes and back, without a program.
-/
import Derived.Test.YtflffabmfoldeaaAspD
namespace Go.Proofs.Ytflffabmfoldeaa
set_option linter.unusedVariables false
set_option linter.unusedSimpArgs false
open Go.Sp

def wfP (l : List (Int × List Int)) : Prop := ∀ x ∈ l, (x.1 = 1 ∨ x.1 = 2) ∧ 1 ≤ x.2.length ∧ x.2.length ≤ 255 ∧ ∀ n ∈ x.2, 0 ≤ n ∧ n < 4294967296
theorem be_low4 {n : Int} (h0 : 0 ≤ n) (h1 : n < 4294967296) : (be (lowB n 4) : Int) = n := by
  have := lowB_be n 4 (by omega)
  unfold lowB
  rw [this]
  have e : ((256 ^ 4 : Nat) : Int) = 4294967296 := by decide
  rw [e]; omega
theorem numsB_enc : ∀ (l : List Int) (m : List UInt8), (∀ n ∈ l, 0 ≤ n ∧ n < 4294967296) → numsB l.length (encN l ++ m) = l
  | [], _, _ => rfl
  | x :: l, m, h => by
    have ih := numsB_enc l m (fun n hn => h n (List.mem_cons_of_mem _ hn))
    obtain ⟨h0, h1⟩ := h x List.mem_cons_self
    have e : encN (x :: l) ++ m = lowB x 4 ++ (encN l ++ m) := by simp [encN]
    rw [e]
    show (be ((lowB x 4 ++ (encN l ++ m)).take 4) : Int) :: numsB l.length ((lowB x 4 ++ (encN l ++ m)).drop 4) = _
    rw [List.take_left' (lowB_len x 4), List.drop_left' (lowB_len x 4), ih, be_low4 h0 h1]
theorem byte_low {n : Int} (h0 : 0 ≤ n) (h1 : n ≤ 255) : lowB n 1 = [UInt8.ofNat n.toNat] ∧ (UInt8.ofNat n.toNat).toNat = n.toNat := by
  refine ⟨?_, by rw [UInt8.toNat_ofNat']; omega⟩
  unfold lowB
  rw [show (n % 18446744073709551616).toNat = n.toNat by omega]
  simp [beB]
theorem decS_enc : ∀ (l : List (Int × List Int)), wfP l → decS (encP l) = some l
  | [], _ => by simp [encP, decS]
  | (k, a) :: l, h => by
    have ih := decS_enc l (fun y hy => h y (List.mem_cons_of_mem _ hy))
    obtain ⟨hk, h1, h2, h3⟩ := h (k, a) List.mem_cons_self
    have hk : k = 1 ∨ k = 2 := hk
    have h2 : a.length ≤ 255 := h2
    obtain ⟨b1, b2⟩ := byte_low (n := k) (by omega) (by omega)
    obtain ⟨b3, b4⟩ := byte_low (n := (a.length : Int)) (by omega) (by omega)
    have e : encP ((k, a) :: l) = UInt8.ofNat k.toNat :: UInt8.ofNat (a.length : Int).toNat :: (encN a ++ encP l) := by
      rw [show ((k, a) :: l) = [(k, a)] ++ l from rfl, encP_app, encP_one]
      unfold encH
      rw [b1, b3]; simp
    rw [e, decS, b4, b2]
    have hn : ((a.length : Int)).toNat = a.length := by omega
    have hel := encN_len a
    rw [hn, if_neg (by rw [List.length_append]; omega), numsB_enc a _ h3, List.drop_left' (by omega), ih]
    rw [show ((k.toNat : Nat) : Int) = k by omega]
    rfl
theorem encP_inj {a b : List (Int × List Int)} (ha : wfP a) (hb : wfP b) (h : encP a = encP b) : a = b := by
  have h1 := decS_enc a ha
  have h2 := decS_enc b hb
  rw [h, h2] at h1
  exact (Option.some.inj h1).symm
theorem beB_be (l : List UInt8) : beB (be l) l.length = l := by
  induction l with
  | nil => rfl
  | cons b l ih =>
    have hlt := be_lt l
    have hb := b.toNat_lt
    rw [List.length_cons, beB, be_cons]
    have hpos : 0 < 256 ^ l.length := Nat.pow_pos (by omega)
    have e1 : (b.toNat * 256 ^ l.length + be l) / 256 ^ l.length = b.toNat := by
      rw [Nat.add_comm, Nat.add_mul_div_right _ _ hpos, Nat.div_eq_of_lt hlt, Nat.zero_add]
    have e2 : (b.toNat * 256 ^ l.length + be l) % 256 ^ l.length = be l := by
      rw [Nat.add_comm, Nat.add_mul_mod_self_right, Nat.mod_eq_of_lt hlt]
    rw [e1, ← beB_mod (b.toNat * 256 ^ l.length + be l), e2, ih]
    simp
theorem low_be (l : List UInt8) (k : Nat) (h : l.length = k) (hk : k ≤ 4) : lowB (be l : Int) k = l := by
  have h1 := be_lt l
  have h2 : 256 ^ l.length ≤ 256 ^ 4 := Nat.pow_le_pow_right (by omega) (by omega)
  have e : (256 : Nat) ^ 4 = 4294967296 := by decide
  unfold lowB
  rw [show (((be l : Int)) % 18446744073709551616).toNat = be l by omega, ← h]
  exact beB_be l
theorem encN_nums (n : Nat) : ∀ (bs : List UInt8), 4 * n ≤ bs.length → encN (numsB n bs) = bs.take (4 * n) := by
  induction n with
  | zero => intro bs _; simp [numsB, encN]
  | succ n ih =>
    intro bs h
    have h1 := ih (bs.drop 4) (by rw [List.length_drop]; omega)
    show encN ((be (bs.take 4) : Int) :: numsB n (bs.drop 4)) = _
    have e : encN ((be (bs.take 4) : Int) :: numsB n (bs.drop 4)) = lowB (be (bs.take 4) : Int) 4 ++ encN (numsB n (bs.drop 4)) := by simp [encN]
    rw [e, h1, low_be _ 4 (by rw [List.length_take]; omega) (by omega), show 4 * (n + 1) = 4 + 4 * n by omega, List.take_add]
theorem enc_decS : ∀ (m : Nat) (bs : List UInt8), bs.length ≤ m → ∀ l, decS bs = some l → encP l = bs
  | _, [], _, l, h => by
    rw [decS] at h
    obtain rfl := Option.some.inj h
    rfl
  | _, [_], _, l, h => by simp [decS] at h
  | 0, _ :: _ :: _, hm, _, _ => by simp at hm
  | m + 1, k :: n :: rest, hm, l, h => by
    rw [decS] at h
    split at h
    · cases h
    · rename_i hr
      rw [Option.map_eq_some_iff] at h
      obtain ⟨l', hl', rfl⟩ := h
      have ih := enc_decS m (rest.drop (4 * n.toNat)) (by rw [List.length_drop]; simp only [List.length_cons] at hm; omega) l' hl'
      have hk := k.toNat_lt
      have hn := n.toNat_lt
      obtain ⟨b1, _⟩ := byte_low (n := (k.toNat : Int)) (by omega) (by omega)
      obtain ⟨b3, _⟩ := byte_low (n := (n.toNat : Int)) (by omega) (by omega)
      rw [show ((k.toNat : Int), numsB n.toNat rest) :: l' = [((k.toNat : Int), numsB n.toNat rest)] ++ l' from rfl, encP_app, encP_one, ih]
      unfold encH
      rw [numsB_len, encN_nums _ _ (by omega), b1, b3]
      simp
end Go.Proofs.Ytflffabmfoldeaa
