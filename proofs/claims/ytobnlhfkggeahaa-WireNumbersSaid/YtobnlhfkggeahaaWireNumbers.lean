/-
  WireNumbers: the closed sentence of chapter 4.
-/
import Derived.Test.YtobnlhfkggeahaaWireG
namespace Go.Proofs.Ytobnlhfkggeahaa
set_option linter.unusedVariables false
set_option linter.unusedSimpArgs false
open Go.Sp
open Go.RowKit (Below)
theorem numbers_c {W : World} : Calls Try.prog 3 #[] W (R3 fun r w' => r = true ∧ Below W.heap.size W w') := by
  refine F3_ok ?_
  refine M.loop1_by (fun x w => ∃ i : Nat, x = i ∧ i ≤ 6 ∧ Aft W w) (fun x _ => (6 - x).toNat) ⟨0, rfl, by omega, Aft.refl W⟩ ?_
  rintro x w J ⟨i, rfl, hi, ha⟩ hJ
  refine M.ite_by (fun hlt => ?_) (fun hge => ?_)
  · have hlt := of_decide_eq_true hlt
    refine M.loop1_by (fun x w => ∃ j : Nat, x = j ∧ j ≤ 5 ∧ Aft W w) (fun x _ => (5 - x).toNat) ⟨1, rfl, by omega, ha⟩ ?_
    rintro x w J2 ⟨j, rfl, hj, ha⟩ hJ2
    refine M.ite_by (fun hlt2 => ?_) (fun hge2 => ?_)
    · have hlt2 := of_decide_eq_true hlt2
      refine M.new_by ?_
      have kal := Keeps.alloc [] w (.cells #[(Value.int .i64 (-1 : Int)), (Value.int .i64 (0 : Int)), (Value.int .i64 (1 : Int)), (Value.int .i64 (i : Int)), (Value.int .i64 (IntKind.i64.wrap ((i : Int) + (1 : Int)))), (Value.int .i64 (1099511627776 : Int))] 3)
      have hb := Blk.new w [(Value.int .i64 (-1 : Int)), (Value.int .i64 (0 : Int)), (Value.int .i64 (1 : Int)), (Value.int .i64 (i : Int)), (Value.int .i64 (IntKind.i64.wrap ((i : Int) + (1 : Int)))), (Value.int .i64 (1099511627776 : Int))] 3
      have hbB := ha.2
      generalize w.heap.size = bb at *
      refine M.loop1_by (fun x w => ∃ k : Nat, x = k ∧ k ≤ 6 ∧ Aft W w ∧ ∃ l : List Int, l.length = 6 ∧ Blk w bb 3 (l.map (Value.int .i64))) (fun x _ => (6 - x).toNat)
        ⟨0, rfl, by omega, ha.new kal, [_, _, _, _, _, _], rfl, hb⟩ ?_
      clear hb kal ha
      rintro x w J3 ⟨k, rfl, hk, ha, l, hl, hb⟩ hJ3
      refine M.ite_by (fun hlt3 => ?_) (fun hge3 => ?_)
      · have hlt3 : (k : Int) < 6 := of_decide_eq_true hlt3
        have hkl : k < l.length := by omega
        refine ⟨_, rfl, by omega, hlt3, l[k], ?_, M.new_by ⟨by omega, by omega, by show (i : Int) ≤ 6; omega, ?_⟩⟩
        · rw [add_mk, hb.cell]
          simp [List.getElem?_eq_getElem hkl]
        have kal := Keeps.alloc [] w (.cells (bv [1, 2, 3, 4, 5, 6]).toArray 5)
        have r1 := (new_b w [1, 2, 3, 4, 5, 6] (by simp)).sub (l := 0) (u := i) (by omega) (by show i ≤ 6; omega)
        simp only [Nat.zero_mul, List.drop_zero, Nat.sub_zero, Nat.mul_one, bv_take] at r1
        have hlb := hb.lt
        have lt6 : ((List.take i [1, 2, 3, 4, 5, 6] : List UInt8)).length ≤ 6 := by rw [List.length_take]; simp; omega
        generalize (List.take i [1, 2, 3, 4, 5, 6] : List UInt8) = bs at *
        refine (newr_c r1 (by omega)).mono fun e w2 h => ?_
        obtain ⟨r2, rfl, p, q, rfl, hr, k2, hp, hq⟩ := h
        have k02 : Keeps [] w w2 := kal.trans k2 (by simp)
        refine ⟨_, rfl, M.new_by ?_⟩
        have kal3 := Keeps.alloc [] w2 (.cells [((SV.mk (some ⟨w.heap.size, 0, none⟩) 6 6).sub 0 i 1).v, .int .i64 0, .bool false].toArray 28)
        have hlp := hr.lt
        simp at hp hq
        have v3 : IsV (w2.alloc (.cells [((SV.mk (some ⟨w.heap.size, 0, none⟩) 6 6).sub 0 i 1).v, .int .i64 0, .bool false].toArray 28)) w2.heap.size [w.heap.size] bs false := by
          have hk2 := k02.size
          have hwp : w.heap.size < w2.heap.size := by omega
          refine ⟨(SV.mk (some ⟨w.heap.size, 0, none⟩) 6 6).sub 0 i 1, bs, 0, by rw [SV.sub_blk]; rfl, by simp; omega, Blk.new _ _ _, (r1.keep k2 (by simp)).keep kal3 (by simp), by omega, by omega, rfl⟩
        have hP : Pair (w2.alloc (.cells [((SV.mk (some ⟨w.heap.size, 0, none⟩) 6 6).sub 0 i 1).v, .int .i64 0, .bool false].toArray 28)) p q w2.heap.size [w.heap.size] bs false := ⟨hr.keep kal3 (by simp) (by simp), v3⟩
        have k03 : Keeps [p, w2.heap.size] w (w2.alloc (.cells [((SV.mk (some ⟨w.heap.size, 0, none⟩) 6 6).sub 0 i 1).v, .int .i64 0, .bool false].toArray 28)) := (k02.trans kal3 (by simp)).up
        have hne : p ≠ w2.heap.size := by omega
        have hpq : p ∉ [w.heap.size] := by simp; omega
        have hqp : w2.heap.size ∉ q := by
          intro hx
          have := hq _ hx
          omega
        have hk2s := k02.size
        refine M.join_by (fun J => ∀ w4 bs' bad', Pair w4 p q w2.heap.size [w.heap.size] bs' bad' → Keeps [p, w2.heap.size] w w4 → J false w4) ?_ ?_
        · intro w4 bs' bad' _ k4
          refine M.ite_ff ?_
          rw [w64 (by omega) (by omega)]
          exact hJ3 _ _ ⟨k + 1, by omega, by omega, ha.step k4 (by simp; have := ha.2; omega), l, hl, hb.keep k4 (by simp; omega)⟩ (by omega)
        intro J4 hJ4
        refine M.ite_n rfl ((getl_c hP hne hpq hqp _ _ _).mono fun e w4 h => ?_)
        obtain ⟨r4, rfl, rfl, b4, d4, P4, k4⟩ := h
        have k4 := k03.and k4
        refine ⟨_, rfl, M.ite_n rfl ((getl_c P4 hne hpq hqp _ _ _).mono fun e w5 h => ?_)⟩
        obtain ⟨r5, rfl, rfl, b5, d5, P5, k5⟩ := h
        have k5 := k4.and k5
        refine ⟨_, rfl, M.ite_n rfl ((getl_c P5 hne hpq hqp _ _ _).mono fun e w6 h => ?_)⟩
        obtain ⟨r6, rfl, rfl, b6, d6, P6, k6⟩ := h
        have k6 := k5.and k6
        refine ⟨_, rfl, M.ite_n rfl ((getl_c P6 hne hpq hqp _ _ _).mono fun e w7 h => ?_)⟩
        obtain ⟨r7, rfl, rfl, b7, d7, P7, k7⟩ := h
        exact ⟨_, rfl, hJ4 _ _ _ P7 (k6.and k7)⟩
      · rw [w64 (by omega) (by omega)]
        exact hJ2 _ _ ⟨j + 1, by omega, by omega, ha⟩ (by omega)
    · rw [w64 (by omega) (by omega)]
      exact hJ _ _ ⟨i + 1, by omega, by omega, ha⟩ (by omega)
  · refine known_c.mono fun e w6 h => ?_
    obtain ⟨r6, rfl, rfl, hk6⟩ := h
    exact ⟨_, rfl, rfl, (ha.new hk6).1⟩
theorem numbers_law (W : World) (args : List Value) (h : GdArgs W [] args) : Calls Try.prog 3 args.toArray W fun e W' => e = .returned (.bool true) ∧ Below W.heap.size W W' := by
  cases h
  exact numbers_c.mono fun e w' ⟨b, he, hb, hw⟩ => by subst hb; exact ⟨he, hw⟩
end Go.Proofs.Ytobnlhfkggeahaa
