/-
  What the laws on tables of prefixes share.
-/
import Derived.Test.YtjjjomeemfmihaaTrieD
namespace Go.Proofs.Ytjjjomeemfmihaa
set_option linter.unusedVariables false
set_option linter.unusedSimpArgs false
open Go.Sp
open Go.RowKit (Below)

theorem bOr_u32 (x y : Int) : ∃ n : Nat, bOr .u32 x y = (n : Int) ∧ n < 4294967296 := by
  unfold bOr
  rw [IntKind.wrap_u32]
  refine ⟨(((BitVec.ofInt IntKind.u32.bits x ||| BitVec.ofInt IntKind.u32.bits y).toNat : Int) % 4294967296).toNat, ?_, ?_⟩
  · omega
  · omega
/-- The prefix that the laws make of two numbers. -/
def kpA (A : Int) : Nat := (bOr .u32 (167772160 : Int) (bShl .u32 (Int.tmod A (64 : Int)) (18 : Int))).toNat
def kpN (N : Int) : Nat := (8 + N % 7).toNat
def kp (A N : Int) : Key := (topN (kpA A) (kpN N), (kpN N : Int))
theorem kpN_le (N : Int) : kpN N ≤ 14 := by unfold kpN; omega
theorem kpA_lt (A : Int) : kpA A < 4294967296 := by
  obtain ⟨n, h1, h2⟩ := bOr_u32 (167772160 : Int) (bShl .u32 (Int.tmod A (64 : Int)) (18 : Int))
  unfold kpA
  rw [h1, Int.toNat_natCast]; exact h2
theorem kp_lt (A N : Int) : (kp A N).1 < 4294967296 := topN_lt (kpA_lt A)
theorem kp_right (A N : Int) : rightP (kp A N).1 (kp A N).2 = true := by
  have := kpN_le N
  exact rightP_iff _ _ |>.2 ⟨by show (0 : Int) ≤ (kpN N : Int); omega, by show (kpN N : Int) ≤ 32; omega, by
    show lowN (topN (kpA A) (kpN N)) ((kpN N : Int)).toNat = 0
    rw [Int.toNat_natCast]; exact lowN_top _ _⟩
theorem kprefix_c {w : World} (A N : Int) : Calls Try.prog 11 #[.int .u32 A, .int .i64 N] w (R11 fun x y w' => x = ((kp A N).1 : Int) ∧ y = (kp A N).2 ∧ Keeps [] w w') := by
  refine F11_ok (M.new_blk fun b w1 hb B k1 => (within_c N 0 6 (by omega) (by omega) (by omega)).mono fun e w2 g => ?_)
  obtain ⟨r, rfl, hr, h0, h1, rfl⟩ := g
  refine ⟨_, rfl, ?_⟩
  have e1 : IntKind.i64.wrap (8 + r) = (kpN N : Int) := by rw [w64 (by omega) (by omega)]; unfold kpN; omega
  have e2 : bOr .u32 (167772160 : Int) (bShl .u32 (Int.tmod A (64 : Int)) (18 : Int)) = (kpA A : Int) := by
    obtain ⟨n, h1, h2⟩ := bOr_u32 (167772160 : Int) (bShl .u32 (Int.tmod A (64 : Int)) (18 : Int))
    unfold kpA
    rw [h1, Int.toNat_natCast]
  dsimp only
  rw [e1, e2]
  have hk := kpN_le N
  refine (rof_c (kpA_lt A) _).mono fun e w3 g => ?_
  obtain ⟨x3, y3, rfl, rfl, rfl, k3⟩ := g
  rw [clampN_nat (by omega)]
  exact ⟨_, _, rfl, M.stA_blk (B.keep k3 (by simp)) rfl fun w4 B4 k4 => ⟨_, B4.cell 0, _, B4.cell 1, rfl, rfl, (k1.trans k3 (by simp)).trans k4 (by simp; omega)⟩⟩
theorem has_c {w : World} {p : Key} (hp : p.1 < 4294967296) {a : Nat} (ha : a < 4294967296) : Calls Try.prog 21 #[.agg #[.int .u32 (p.1 : Int), .int .i64 p.2], .int .u32 (a : Int)] w (R21 fun r w' => r = hasB p a ∧ Keeps [] w w') := by
  refine F21_ok (M.new_blk fun b w1 hb B k1 => ?_)
  have kd := Keeps.drew [] w1
  have B2 := B.keep kd (by simp)
  have k2 := k1.trans kd (by simp)
  refine M.join_by (fun J => ∀ w', Keeps [] w w' → J (hasB p a) w') (fun w' h => ⟨rfl, h⟩) fun J hJ => M.drew_by ⟨_, B2.cell 0, _, B2.cell 1, (rright_c hp p.2).mono fun e w3 g => ?_⟩
  obtain ⟨r, rfl, rfl, k3⟩ := g
  have B3 := B2.keep k3 (by simp)
  have k03 := k2.trans k3 (by simp)
  refine ⟨_, rfl, M.ite_by (fun c => ?_) (fun c => ?_)⟩
  · obtain ⟨c0, c1, c2⟩ := (rightP_iff _ _).1 c
    refine ⟨_, B3.cell 1, _, B3.cell 0, (rmask_c p.2).mono fun e w4 g => ?_⟩
    obtain ⟨r4, rfl, rfl, rfl⟩ := g
    refine ⟨_, rfl, B3.cell 0, ?_⟩
    rw [bAnd_top ha (clampN_le _)]
    have e : clampN p.2 = p.2.toNat := by unfold clampN; omega
    have := hJ _ k03
    unfold hasB at this
    rw [c, Bool.true_and] at this
    rw [e]
    have e2 : ((topN a p.2.toNat : Int) == (p.1 : Int)) = (topN a p.2.toNat == p.1) := by
      cases h : topN a p.2.toNat == p.1 <;> simp at h <;> simp [h]
      exact_mod_cast h
    rw [e2]; exact this
  · have := hJ _ k03
    unfold hasB at this
    rw [c, Bool.false_and] at this
    exact this
theorem known_c {w : World} : Calls Try.prog 19 #[] w (R19 fun r w' => r = true ∧ Keeps [] w w') := by
  refine F19_ok (tnew_c.mono fun e w1 g => ?_)
  obtain ⟨r, rfl, p, rfl, h1, k1, hp⟩ := g
  refine ⟨_, rfl, M.ite_n rfl ((put_c h1 (a := 167772160) (by omega) 8 7 (by simp)).mono fun e w2 g => ?_)⟩
  obtain ⟨r2, rfl, rfl, D2, h2, k2, f2⟩ := g
  have e2 : (if rightP 167772160 8 = true then tput [] (167772160, 8) 7 else []) = [(((167772160 : Nat), (8 : Int)), (7 : Int))] := by decide +kernel
  rw [e2] at h2
  refine ⟨_, rfl, (put_c h2 (a := 167837696) (by omega) 16 9 (by simp)).mono fun e w3 g => ?_⟩
  obtain ⟨r3, rfl, rfl, D3, h3, k3, f3⟩ := g
  have e3 : (if rightP 167837696 16 = true then tput [(((167772160 : Nat), (8 : Int)), (7 : Int))] (167837696, 16) 9 else [(((167772160 : Nat), (8 : Int)), (7 : Int))]) = [(((167772160 : Nat), (8 : Int)), (7 : Int)), (((167837696 : Nat), (16 : Int)), (9 : Int))] := by decide +kernel
  rw [e3] at h3
  refine ⟨_, rfl, (match_c h3 (A := 167838211) (by omega)).mono fun e w4 g => ?_⟩
  obtain ⟨x4, y4, v4, ok4, rfl, hm, k4⟩ := g
  have e4 : matchT [(((167772160 : Nat), (8 : Int)), (7 : Int)), (((167837696 : Nat), (16 : Int)), (9 : Int))] 167838211 = some ((167837696, 16), 9) := by decide +kernel
  rw [e4] at hm
  obtain ⟨rfl, rfl, rfl, rfl⟩ := hm
  refine ⟨_, _, _, _, rfl, M.new_blk fun b w5 hb B k5 => M.stA_blk B rfl fun w6 B6 k6 => ?_⟩
  have k46 : Keeps [] w4 w6 := k5.trans k6 (by simp; omega)
  have h6 := (h3.keep k4 (by simp)).keep k46 (by simp)
  have hD2 : ∀ x ∈ D2, w.heap.size ≤ x := fun x hx => by
    have := k1.size
    rcases f2 x hx with h | h
    · simp at h; omega
    · omega
  have k02 : Keeps [] w w2 := k1.trans k2 (by intro x hx; simp at hx; right; omega)
  have k03 := k02.trans k3 (fun x hx => .inr (hD2 x hx))
  have k06 := (k03.trans k4 (by simp)).trans k46 (by simp)
  have c2 : (rightP 167772160 8 && (tget [] (167772160, 8)).isNone) = true := by decide +kernel
  have c3 : (rightP 167837696 16 && (tget [(((167772160 : Nat), (8 : Int)), (7 : Int))] (167837696, 16)).isNone) = true := by decide +kernel
  refine M.join_by (fun J => J true w6) ⟨rfl, k06⟩ fun J hJ => M.ite_y c2 (M.ite_y c3 ⟨_, B6.cell 0, _, B6.cell 1, M.ite_y rfl (M.ite_y rfl (M.ite_tt ((tlen_c h6).mono fun e w7 g => ?_)))⟩)
  obtain ⟨r7, rfl, rfl, rfl⟩ := g
  exact ⟨_, rfl, hJ⟩
end Go.Proofs.Ytjjjomeemfmihaa
