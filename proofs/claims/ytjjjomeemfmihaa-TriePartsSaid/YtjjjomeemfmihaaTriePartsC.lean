/-
  The document's halves of a prefix.
-/
import Derived.Test.YtjjjomeemfmihaaTrieOrder
namespace Go.Proofs.Ytjjjomeemfmihaa
set_option linter.unusedVariables false
set_option linter.unusedSimpArgs false
open Go.Sp

theorem rhalf_c {w : World} {a n : Nat} (ha : a < 4294967296) (hn : n < 32) (hl : lowN a n = 0) (high : Bool) :
    Calls Try.prog 23 #[.agg #[.int .u32 (a : Int), .int .i64 (n : Int)], .bool high] w (R23 fun x y ok w' => x = ((if high then a + 2 ^ (31 - n) else a : Nat) : Int) ∧ y = ((n + 1 : Nat) : Int) ∧ ok = true ∧ Keeps [] w w') := by
  have hR : rightP a (n : Int) = true := by rw [rightP_iff]; exact ⟨by omega, by omega, by rw [Int.toNat_natCast]; exact hl⟩
  refine F23_ok (M.new_blk fun b w1 hb B k1 => M.new_blk fun b4 w2 hb4 B4 k2 => ?_)
  have hlt1 := B.lt
  have B := B.keep k2 (by simp)
  have hlt4 := B4.lt
  have k02 := k1.trans k2 (by simp)
  have hne : b ≠ b4 := by omega
  have hs1 := k1.size
  refine M.join_by (fun (J : Bool → World → Prop) => ∀ w', Keeps [] w2 w' → J false w') (fun w3 k3 => ?_) fun J hJ => ⟨_, B.cell 0, _, B.cell 1, (rright_c ha (n : Int)).mono fun e w3 g => ?_⟩
  · have B3 := B.keep k3 (by simp)
    have C3 := B4.keep k3 (by simp)
    have k03 := k02.trans k3 (by simp)
    refine M.ite_ff ⟨_, B3.cell 1, M.st_blk B3 (by simp) fun w4 P4 k4 => ?_⟩
    have e1 : IntKind.i64.wrap ((n : Int) + 1) = ((n + 1 : Nat) : Int) := by rw [w64 (by omega) (by omega)]; omega
    rw [e1] at P4
    have C4 := C3.keep k4 (by simp; omega)
    have k04 := k03.trans k4 (by simp; omega)
    refine M.join_by (fun (J : World → Prop) => ∀ w', Blk w' b 27 [.int .u32 ((if high then a + 2 ^ (31 - n) else a : Nat) : Int), .int .i64 ((n + 1 : Nat) : Int)] → Blk w' b4 27 [.int .u32 0, .int .i64 0] → Keeps [] w w' → J w') ?_ ?_
    · intro w5 P5 C5 k05
      refine ⟨_, P5.cell 0, _, P5.cell 1, M.stA_blk C5 rfl fun w6 C6 k6 => ⟨_, C6.cell 0, _, C6.cell 1, rfl, rfl, rfl, k05.trans k6 (by simp; omega)⟩⟩
    · intro J2 hJ2
      cases high with
      | false => exact M.ite_ff (hJ2 _ P4 C4 k04)
      | true =>
        refine M.ite_tt ⟨_, P4.cell 0, _, P4.cell 1, ?_⟩
        have e2 : IntKind.u64.wrap (IntKind.i64.wrap ((32 : Int) - ((n + 1 : Nat) : Int))) = ((31 - n : Nat) : Int) := by
          rw [w64 (n := (32 : Int) - ((n + 1 : Nat) : Int)) (by omega) (by omega), wu64 (by omega) (by omega)]; omega
        dsimp only
        rw [e2, or_half ha hl hn]
        refine ⟨by omega, M.st_blk0 P4 fun w5 P5 k5 => hJ2 _ P5 (C4.keep k5 (by simp; omega)) (k04.trans k5 (by simp; omega))⟩
  · obtain ⟨r3, rfl, rfl, k3⟩ := g
    rw [hR]
    refine ⟨_, rfl, M.ite_n rfl ⟨_, (B.keep k3 (by simp)).cell 1, ?_⟩⟩
    have := hJ _ k3
    have e : ((n : Int) == 32) = false := by simp; omega
    dsimp only
    rw [e]; exact this
end Go.Proofs.Ytjjjomeemfmihaa
