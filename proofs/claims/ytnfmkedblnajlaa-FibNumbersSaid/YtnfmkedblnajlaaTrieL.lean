/-
  What the laws on tables of prefixes share.
-/
import Derived.Test.YtnfmkedblnajlaaTrieD
namespace Go.Proofs.Ytnfmkedblnajlaa
set_option linter.unusedVariables false
set_option linter.unusedSimpArgs false
open Go.Sp
open Go.RowKit (Below)

theorem bOr_u32 (x y : Int) : ∃ n : Nat, bOr .u32 x y = (n : Int) ∧ n < 4294967296 := by
  unfold bOr
  rw [IntKind.wrap_u32]
  refine ⟨(((BitVec.ofInt IntKind.u32.bits x ||| BitVec.ofInt IntKind.u32.bits y).toNat : Int) % 4294967296).toNat, ?_, ?_⟩
  · omega
  · omega
/-- The prefix that the laws make of two numbers. -/
def kpA (A : Int) : Nat := (bOr .u32 (167772160 : Int) (bShl .u32 (Int.tmod A (64 : Int)) (18 : Int))).toNat
def kpN (N : Int) : Nat := (8 + N % 7).toNat
def kp (A N : Int) : Key := (topN (kpA A) (kpN N), (kpN N : Int))
theorem kpN_le (N : Int) : kpN N ≤ 14 := by unfold kpN; omega
theorem kpA_lt (A : Int) : kpA A < 4294967296 := by
  obtain ⟨n, h1, h2⟩ := bOr_u32 (167772160 : Int) (bShl .u32 (Int.tmod A (64 : Int)) (18 : Int))
  unfold kpA
  rw [h1, Int.toNat_natCast]; exact h2
theorem kp_lt (A N : Int) : (kp A N).1 < 4294967296 := topN_lt (kpA_lt A)
theorem kp_right (A N : Int) : rightP (kp A N).1 (kp A N).2 = true := by
  have := kpN_le N
  exact rightP_iff _ _ |>.2 ⟨by show (0 : Int) ≤ (kpN N : Int); omega, by show (kpN N : Int) ≤ 32; omega, by
    show lowN (topN (kpA A) (kpN N)) ((kpN N : Int)).toNat = 0
    rw [Int.toNat_natCast]; exact lowN_top _ _⟩
theorem kprefix_c {w : World} (A N : Int) : Calls Try.prog 27 #[.int .u32 A, .int .i64 N] w (R27 fun x y w' => x = ((kp A N).1 : Int) ∧ y = (kp A N).2 ∧ Keeps [] w w') := by
  refine F27_ok (M.new_blk fun b w1 hb B k1 => (within_c N 0 6 (by omega) (by omega) (by omega)).mono fun e w2 g => ?_)
  obtain ⟨r, rfl, hr, h0, h1, rfl⟩ := g
  refine ⟨_, rfl, ?_⟩
  have e1 : IntKind.i64.wrap (8 + r) = (kpN N : Int) := by rw [w64 (by omega) (by omega)]; unfold kpN; omega
  have e2 : bOr .u32 (167772160 : Int) (bShl .u32 (Int.tmod A (64 : Int)) (18 : Int)) = (kpA A : Int) := by
    obtain ⟨n, h1, h2⟩ := bOr_u32 (167772160 : Int) (bShl .u32 (Int.tmod A (64 : Int)) (18 : Int))
    unfold kpA
    rw [h1, Int.toNat_natCast]
  dsimp only
  rw [e1, e2]
  have hk := kpN_le N
  refine (rof_c (kpA_lt A) _).mono fun e w3 g => ?_
  obtain ⟨x3, y3, rfl, rfl, rfl, k3⟩ := g
  rw [clampN_nat (by omega)]
  exact ⟨_, _, rfl, M.stA_blk (B.keep k3 (by simp)) rfl fun w4 B4 k4 => ⟨_, B4.cell 0, _, B4.cell 1, rfl, rfl, (k1.trans k3 (by simp)).trans k4 (by simp; omega)⟩⟩
theorem has_c {w : World} {p : Key} (hp : p.1 < 4294967296) {a : Nat} (ha : a < 4294967296) : Calls Try.prog 37 #[.agg #[.int .u32 (p.1 : Int), .int .i64 p.2], .int .u32 (a : Int)] w (R37 fun r w' => r = hasB p a ∧ Keeps [] w w') := by
  refine F37_ok (M.new_blk fun b w1 hb B k1 => ?_)
  have kd := Keeps.drew [] w1
  have B2 := B.keep kd (by simp)
  have k2 := k1.trans kd (by simp)
  refine M.join_by (fun J => ∀ w', Keeps [] w w' → J (hasB p a) w') (fun w' h => ⟨rfl, h⟩) fun J hJ => M.drew_by ⟨_, B2.cell 0, _, B2.cell 1, (rright_c hp p.2).mono fun e w3 g => ?_⟩
  obtain ⟨r, rfl, rfl, k3⟩ := g
  have B3 := B2.keep k3 (by simp)
  have k03 := k2.trans k3 (by simp)
  refine ⟨_, rfl, M.ite_by (fun c => ?_) (fun c => ?_)⟩
  · obtain ⟨c0, c1, c2⟩ := (rightP_iff _ _).1 c
    refine ⟨_, B3.cell 1, _, B3.cell 0, (rmask_c p.2).mono fun e w4 g => ?_⟩
    obtain ⟨r4, rfl, rfl, rfl⟩ := g
    refine ⟨_, rfl, B3.cell 0, ?_⟩
    rw [bAnd_top ha (clampN_le _)]
    have e : clampN p.2 = p.2.toNat := by unfold clampN; omega
    have := hJ _ k03
    unfold hasB at this
    rw [c, Bool.true_and] at this
    rw [e]
    have e2 : ((topN a p.2.toNat : Int) == (p.1 : Int)) = (topN a p.2.toNat == p.1) := by
      cases h : topN a p.2.toNat == p.1 <;> simp at h <;> simp [h]
      exact_mod_cast h
    rw [e2]; exact this
  · have := hJ _ k03
    unfold hasB at this
    rw [c, Bool.false_and] at this
    exact this
end Go.Proofs.Ytnfmkedblnajlaa
