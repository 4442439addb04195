/-
  Ways: which may be, which are the same.
-/
import Derived.Test.YtecegjimdohmeaaTrieL
import Derived.Test.YtecegjimdohmeaaIntC
import Derived.Test.YtecegjimdohmeaaMetC
import Derived.Test.YtecegjimdohmeaaSpMap
import Derived.Test.YtecegjimdohmeaaSpRows
namespace Go.Proofs.Ytecegjimdohmeaa
set_option linter.unusedVariables false
set_option linter.unusedSimpArgs false
open Go.Sp

set_option maxRecDepth 100000 in
theorem keyT : KeyT Try.prog 28 where
  check := fun em w k => check_pair (show Try.prog.underlying 28 = some (.struct _) from rfl) rfl rfl rfl (by decide) (by decide) rfl rfl em w k
  eq := fun a b w => by
    show (Op.equalIn 10000 28 (kv a) (kv b)).run Try.prog w = _
    unfold kv
    rw [eq28]
    congr 1
    obtain ⟨a1, a2⟩ := a
    obtain ⟨b1, b2⟩ := b
    rw [Bool.eq_iff_iff]
    simp
    omega
  under := ⟨_, show Try.prog.underlying 28 = some (.struct _) from rfl⟩
theorem key_beq (a b : Key) : ((a.1 : Int) == (b.1 : Int) && a.2 == b.2) = (a == b) := by
  obtain ⟨a1, a2⟩ := a
  obtain ⟨b1, b2⟩ := b
  rw [Bool.eq_iff_iff]
  simp
  omega
/-- A way. -/
structure Wy where
  pf : Key
  direct : Bool
  link : Int
  next : Nat
  cost : Nat
@[reducible] def Wy.cells (x : Wy) : List Value := [.int .u32 (x.pf.1 : Int), .int .i64 x.pf.2, .bool x.direct, .int .i64 x.link, .int .u32 (x.next : Int), .float .f64 x.cost]
@[reducible] def Wy.agg (x : Wy) : Value := .agg #[.int .u32 (x.pf.1 : Int), .int .i64 x.pf.2, .bool x.direct, .int .i64 x.link, .int .u32 (x.next : Int), .float .f64 x.cost]
theorem wy6 (x : Wy) : x.cells.length = 6 := rfl
def Wy.zero : Wy := ⟨(0, 0), false, 0, 0, 0⟩
def Wy.ty (x : Wy) : Prop := x.pf.1 < 4294967296 ∧ x.next < 4294967296 ∧ x.cost < 18446744073709551616
def rightW (x : Wy) : Bool := (rightP x.pf.1 x.pf.2 && fGeq x.cost 0) && (if x.direct then (decide (0 ≤ x.link) && (decide (x.link ≤ 255) && x.next == 0)) else x.link == 0)
def likeW (a b : Wy) : Bool := a.pf == b.pf && (a.direct == b.direct && (a.link == b.link && a.next == b.next))
def sameW (a b : Wy) : Bool := likeW a b && fEql (cleanN a.cost) (cleanN b.cost)
def bitsW (a b : Wy) : Bool := likeW a b && a.cost == b.cost
theorem iright_c {w : World} {x : Wy} (hx : x.pf.1 < 4294967296) : Calls Try.prog 22 #[x.agg] w (R22 fun r w' => r = rightW x ∧ Keeps [] w w') := by
  refine F22_ok (M.new_blk fun b w1 hb B k1 => ?_)
  refine M.join_by (fun (J : Bool → World → Prop) => ∀ w', Blk w' b 32 x.cells → Keeps [] w w' → J (!(rightP x.pf.1 x.pf.2 && fGeq x.cost 0)) w') (fun w2 B2 k2 => ?_) fun J hJ => ⟨_, B.cell 0, _, B.cell 1, (right_c hx x.pf.2).mono fun e w2 g => ?_⟩
  · unfold rightW
    refine M.ite_by (fun c => ?_) (fun c => ?_)
    · have c : (rightP x.pf.1 x.pf.2 && fGeq x.cost 0) = false := by cases h : (rightP x.pf.1 x.pf.2 && fGeq x.cost 0) <;> simp [h] at c ⊢
      rw [c]; exact ⟨rfl, k2⟩
    · have c : (rightP x.pf.1 x.pf.2 && fGeq x.cost 0) = true := by cases h : (rightP x.pf.1 x.pf.2 && fGeq x.cost 0) <;> simp [h] at c ⊢
      rw [c, Bool.true_and]
      refine ⟨_, B2.cell 2, M.ite_by (fun c1 => ?_) (fun c1 => ?_)⟩
      · rw [if_pos c1]
        refine M.join_by (fun (J : Bool → World → Prop) => J (decide (0 ≤ x.link) && (decide (x.link ≤ 255) && x.next == 0)) w2) ⟨rfl, k2⟩ fun J hJ => ⟨_, B2.cell 3, M.ite_by (fun c2 => ?_) (fun c2 => ?_)⟩
        · rw [c2, Bool.true_and] at hJ
          refine ⟨_, B2.cell 3, M.ite_by (fun c3 => ?_) (fun c3 => ?_)⟩
          · rw [c3, Bool.true_and] at hJ
            refine ⟨_, B2.cell 4, ?_⟩
            have : ((x.next : Int) == 0) = (x.next == 0) := by rw [Bool.eq_iff_iff]; simp
            dsimp only
            rw [this]; exact hJ
          · rw [c3, Bool.false_and] at hJ; exact hJ
        · rw [c2, Bool.false_and] at hJ; exact hJ
      · have c1 : x.direct = false := c1
        rw [c1]
        exact ⟨_, B2.cell 3, rfl, k2⟩
  · obtain ⟨r, rfl, rfl, k2⟩ := g
    have k12 := k1.trans k2 (by simp)
    have B2 := B.keep k2 (by simp)
    refine ⟨_, rfl, M.ite_by (fun c => ?_) (fun c => ?_)⟩
    · have c : rightP x.pf.1 x.pf.2 = false := by simpa using c
      have := hJ w2 B2 k12
      rw [c, Bool.false_and] at this; exact this
    · have c : rightP x.pf.1 x.pf.2 = true := by simpa using c
      refine ⟨_, B2.cell 5, (mright_c _).mono fun e w3 g => ?_⟩
      obtain ⟨r, rfl, rfl, rfl⟩ := g
      have := hJ w3 B2 k12
      rw [c, Bool.true_and] at this
      exact ⟨_, rfl, this⟩
theorem rright15_c {w : World} {x : Wy} (hx : x.pf.1 < 4294967296) : Calls Try.prog 45 #[x.agg] w (R45 fun r w' => r = rightW x ∧ Keeps [] w w') := by
  refine F45_ok (M.new_blk fun b w1 hb B k1 => ?_)
  refine M.join_by (fun (J : Bool → World → Prop) => ∀ w', Blk w' b 32 x.cells → Keeps [] w w' → J (!(rightP x.pf.1 x.pf.2 && fGeq x.cost 0)) w') (fun w2 B2 k2 => ?_) fun J hJ => ⟨_, B.cell 0, _, B.cell 1, (rright_c hx x.pf.2).mono fun e w2 g => ?_⟩
  · unfold rightW
    refine M.ite_by (fun c => ?_) (fun c => ?_)
    · have c : (rightP x.pf.1 x.pf.2 && fGeq x.cost 0) = false := by cases h : (rightP x.pf.1 x.pf.2 && fGeq x.cost 0) <;> simp [h] at c ⊢
      rw [c]; exact ⟨rfl, k2⟩
    · have c : (rightP x.pf.1 x.pf.2 && fGeq x.cost 0) = true := by cases h : (rightP x.pf.1 x.pf.2 && fGeq x.cost 0) <;> simp [h] at c ⊢
      rw [c, Bool.true_and]
      refine ⟨_, B2.cell 2, M.ite_by (fun c1 => ?_) (fun c1 => ?_)⟩
      · rw [if_pos c1]
        refine M.join_by (fun (J : Bool → World → Prop) => J (decide (0 ≤ x.link) && (decide (x.link ≤ 255) && x.next == 0)) w2) ⟨rfl, k2⟩ fun J hJ => ⟨_, B2.cell 3, M.ite_by (fun c2 => ?_) (fun c2 => ?_)⟩
        · rw [c2, Bool.true_and] at hJ
          refine ⟨_, B2.cell 3, M.ite_by (fun c3 => ?_) (fun c3 => ?_)⟩
          · rw [c3, Bool.true_and] at hJ
            refine ⟨_, B2.cell 4, ?_⟩
            have : ((x.next : Int) == 0) = (x.next == 0) := by rw [Bool.eq_iff_iff]; simp
            dsimp only
            rw [this]; exact hJ
          · rw [c3, Bool.false_and] at hJ; exact hJ
        · rw [c2, Bool.false_and] at hJ; exact hJ
      · have c1 : x.direct = false := c1
        rw [c1]
        exact ⟨_, B2.cell 3, rfl, k2⟩
  · obtain ⟨r, rfl, rfl, k2⟩ := g
    have k12 := k1.trans k2 (by simp)
    have B2 := B.keep k2 (by simp)
    refine ⟨_, rfl, M.ite_by (fun c => ?_) (fun c => ?_)⟩
    · have c : rightP x.pf.1 x.pf.2 = false := by simpa using c
      have := hJ w2 B2 k12
      rw [c, Bool.false_and] at this; exact this
    · have c : rightP x.pf.1 x.pf.2 = true := by simpa using c
      refine ⟨_, B2.cell 5, (rmright_c _).mono fun e w3 g => ?_⟩
      obtain ⟨r, rfl, rfl, rfl⟩ := g
      have := hJ w3 B2 k12
      rw [c, Bool.true_and] at this
      exact ⟨_, rfl, this⟩
theorem isame_c {w : World} (x y : Wy) : Calls Try.prog 27 #[x.agg, y.agg] w (R27 fun r w' => r = sameW x y ∧ Keeps [] w w') := by
  refine F27_ok (M.new_blk fun b w1 hb B k1 => M.new_blk fun c w2 hc C k2 => ?_)
  have B := B.keep k2 (by simp)
  have k2 := k1.trans k2 (by simp)
  refine M.join_by (fun (J : Bool → World → Prop) => J (sameW x y) w2) ⟨rfl, k2⟩ fun J hJ => ⟨_, B.cell 0, _, B.cell 1, _, C.cell 0, _, C.cell 1, ?_⟩
  unfold sameW likeW at hJ
  have h0 := key_beq x.pf y.pf
  have h4 : ((x.next : Int) == (y.next : Int)) = (x.next == y.next) := by rw [Bool.eq_iff_iff]; simp; omega
  dsimp only
  rw [h0]
  refine M.ite_by (fun c0 => ?_) (fun c0 => by rw [c0] at hJ; exact hJ)
  rw [c0, Bool.true_and] at hJ
  refine ⟨_, B.cell 2, _, C.cell 2, M.ite_by (fun c1 => ?_) (fun c1 => by rw [c1] at hJ; exact hJ)⟩
  rw [c1, Bool.true_and] at hJ
  refine ⟨_, B.cell 3, _, C.cell 3, M.ite_by (fun c2 => ?_) (fun c2 => by rw [c2] at hJ; exact hJ)⟩
  rw [c2, Bool.true_and] at hJ
  refine ⟨_, B.cell 4, _, C.cell 4, ?_⟩
  dsimp only
  rw [h4]
  refine M.ite_by (fun c3 => ?_) (fun c3 => by rw [c3] at hJ; exact hJ)
  rw [c3, Bool.true_and] at hJ
  refine ⟨_, B.cell 5, _, C.cell 5, (msame_c _ _).mono fun e w3 g => ?_⟩
  obtain ⟨r, rfl, rfl, rfl⟩ := g
  exact ⟨_, rfl, hJ⟩
theorem rsame15_c {w : World} (x y : Wy) : Calls Try.prog 50 #[x.agg, y.agg] w (R50 fun r w' => r = sameW x y ∧ Keeps [] w w') := by
  refine F50_ok (M.new_blk fun b w1 hb B k1 => M.new_blk fun c w2 hc C k2 => ?_)
  have B := B.keep k2 (by simp)
  have k2 := k1.trans k2 (by simp)
  refine M.join_by (fun (J : Bool → World → Prop) => J (sameW x y) w2) ⟨rfl, k2⟩ fun J hJ => ⟨_, B.cell 0, _, B.cell 1, _, C.cell 0, _, C.cell 1, ?_⟩
  unfold sameW likeW at hJ
  have h0 := key_beq x.pf y.pf
  have h4 : ((x.next : Int) == (y.next : Int)) = (x.next == y.next) := by rw [Bool.eq_iff_iff]; simp; omega
  dsimp only
  rw [h0]
  refine M.ite_by (fun c0 => ?_) (fun c0 => by rw [c0] at hJ; exact hJ)
  rw [c0, Bool.true_and] at hJ
  refine ⟨_, B.cell 2, _, C.cell 2, M.ite_by (fun c1 => ?_) (fun c1 => by rw [c1] at hJ; exact hJ)⟩
  rw [c1, Bool.true_and] at hJ
  refine ⟨_, B.cell 3, _, C.cell 3, M.ite_by (fun c2 => ?_) (fun c2 => by rw [c2] at hJ; exact hJ)⟩
  rw [c2, Bool.true_and] at hJ
  refine ⟨_, B.cell 4, _, C.cell 4, ?_⟩
  dsimp only
  rw [h4]
  refine M.ite_by (fun c3 => ?_) (fun c3 => by rw [c3] at hJ; exact hJ)
  rw [c3, Bool.true_and] at hJ
  refine ⟨_, B.cell 5, _, C.cell 5, (rmsame_c _ _).mono fun e w3 g => ?_⟩
  obtain ⟨r, rfl, rfl, rfl⟩ := g
  exact ⟨_, rfl, hJ⟩
end Go.Proofs.Ytecegjimdohmeaa
