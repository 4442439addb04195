/-
  Printed by gen.py: the formula of each function, and that it holds of the function.
-/
import Derived.Test.YtnkpjlojijppiaaTy
namespace Go.Proofs.Ytnkpjlojijppiaa
set_option linter.unusedVariables false
set_option linter.unusedSimpArgs false
open Go.Sp
set_option linter.unusedVariables false
/-- The formula of (*signpost.signpostref15.Table).Match. -/
def F43 (p0 : Option Addr) (p1 : Int) (K : Int → Int → Bool → Int → Int → Nat → Bool → World → Prop) (w0 : World) : Prop :=
M.new (.cells #[(Value.int .u32 (0 : Int)), (Value.int .i64 (0 : Int)), (Value.bool false), (Value.int .i64 (0 : Int)), (Value.int .u32 (0 : Int)), (Value.float .f64 (0 : Nat))] 33) w0 fun b2 w1 =>
Calls Try.prog 55 #[(Value.float .f64 (13830554455654793216 : Nat))] w1 (R55 fun r3 w4 =>
M.loop2 (fun (J7 : Int → Int → World → Prop) (x5 : Int) (x6 : Int) (w8 : World) => 
M.nil p0 fun a21 =>
M.ld SV.v a21 w8 fun t23 =>
M.ite (decide (x6 < (t23.len : Int))) (
M.join (fun (x27 : Int) (w91 : World) => 
J7 x27 (IntKind.i64.wrap (x6 + (1 : Int))) w91) fun J26 => 
M.join (fun (x29 : Bool) (w81 : World) => 
M.ite x29 (
J26 x6 w81) (
J26 x5 w81)) fun J28 => 
M.drew w8 fun w30 => 
M.nil p0 fun a31 =>
M.ld SV.v a31 w30 fun t33 =>
M.idx t33 x6 6 fun a35 =>
M.ld (Value.int .u32) (a35.add (x6.toNat * 6)) w30 fun t39 =>
M.ld (Value.int .i64) ((a35.add (x6.toNat * 6)).add 1) w30 fun t41 =>
Calls Try.prog 13 #[(Value.agg #[(Value.int .u32 t39), (Value.int .i64 t41)]), (Value.int .u32 p1)] w30 (R13 fun r43 w44 =>
M.ite r43 (
M.nil p0 fun a46 =>
M.ld SV.v a46 w44 fun t48 =>
M.idx t48 x6 6 fun a50 =>
M.ld (Value.float .f64) ((a50.add (x6.toNat * 6)).add 5) w44 fun t54 =>
Calls Try.prog 57 #[(Value.float .f64 t54), (Value.float .f64 r3)] w44 (R57 fun r56 w57 =>
M.ite r56 (
M.ite (decide (x5 < (0 : Int))) (
J28 true w57) (
M.nil p0 fun a60 =>
M.nil p0 fun a62 =>
M.ld SV.v a60 w57 fun t64 =>
M.idx t64 x6 6 fun a66 =>
M.ld (Value.int .i64) ((a66.add (x6.toNat * 6)).add 1) w57 fun t70 =>
M.ld SV.v a62 w57 fun t72 =>
M.idx t72 x5 6 fun a74 =>
M.ld (Value.int .i64) ((a74.add (x5.toNat * 6)).add 1) w57 fun t78 =>
J28 (decide (t78 < t70)) w57)) (
J28 false w57))) (
J28 false w44))) (
M.ite (decide (x5 < (0 : Int))) (
M.stA b2 [(Value.int .u32 (0 : Int)), (Value.int .i64 (0 : Int)), (Value.bool false), (Value.int .i64 (0 : Int)), (Value.int .u32 (0 : Int)), (Value.float .f64 (0 : Nat))] w8 fun w99 =>
∃ (t101 : Int) (t102 : Int) (t103 : Bool) (t104 : Int) (t105 : Int) (t106 : Nat), Cs w99 b2 0 [(Value.int .u32 t101), (Value.int .i64 t102), (Value.bool t103), (Value.int .i64 t104), (Value.int .u32 t105), (Value.float .f64 t106)] ∧
K t101 t102 t103 t104 t105 t106 false w99) (
M.nil p0 fun a108 =>
M.ld SV.v a108 w8 fun t110 =>
M.idx t110 x5 6 fun a112 =>
∃ (t116 : Int) (t117 : Int) (t118 : Bool) (t119 : Int) (t120 : Int) (t121 : Nat), Cs w8 (a112.add (x5.toNat * 6)) 0 [(Value.int .u32 t116), (Value.int .i64 t117), (Value.bool t118), (Value.int .i64 t119), (Value.int .u32 t120), (Value.float .f64 t121)] ∧
M.stA b2 [(Value.int .u32 t116), (Value.int .i64 t117), (Value.bool t118), (Value.int .i64 t119), (Value.int .u32 t120), (Value.float .f64 t121)] w8 fun w123 =>
∃ (t125 : Int) (t126 : Int) (t127 : Bool) (t128 : Int) (t129 : Int) (t130 : Nat), Cs w123 b2 0 [(Value.int .u32 t125), (Value.int .i64 t126), (Value.bool t127), (Value.int .i64 t128), (Value.int .u32 t129), (Value.float .f64 t130)] ∧
K t125 t126 t127 t128 t129 t130 true w123))) (-1 : Int) (0 : Int) w4)
theorem F43_ok {w0 : World} {p0 : Option Addr} {p1 : Int} {K : Int → Int → Bool → Int → Int → Nat → Bool → World → Prop} (h : F43 p0 p1 K w0) : Calls Try.prog 43 #[(Value.pointer p0), (Value.int .u32 p1)] w0 (R43 K) := by
  refine calls_of_WE (args := [(Value.pointer p0), (Value.int .u32 p1)]) (rs := [.cell 4 33, .tmp 5]) Try.func43 rfl (N := 77) rfl rfl rfl rfl ?_
  refine WE.seq ?_
  refine WE.reg ?_
  obtain ⟨b2, hpb2, w1, hww1, h⟩ := M.new_use h
  refine LE.r (v := (Value.pointer (some b2))) (Wn.no rfl) rfl (R.alloc (cs := #[(Value.int .u32 (0 : Int)), (Value.int .i64 (0 : Int)), (Value.bool false), (Value.int .i64 (0 : Int)), (Value.int .u32 (0 : Int)), (Value.float .f64 (0 : Nat))]) ze33 rfl hpb2 hww1) ?_
  refine LE.p (v := (Value.bool false)) (Wn.no rfl) rfl (R.assign rfl) ?_
  refine LE.nil ?_
  refine WE.seq ?_
  refine WE.reg ?_
  refine LE.p (v := (Value.int .i64 (-1 : Int))) (Wn.no rfl) rfl (R.assign rfl) ?_
  refine LE.nil ?_
  refine WE.seq ?_
  refine WE.reg ?_
  refine LE.c (Wn.no rfl) rfl (R.call bd55 (Ls.cons rfl Ls.nil) rfl) (Calls.mono h ?_)
  rintro _ w4 ⟨r3, rfl, h⟩
  refine ⟨_, rfl, ?_⟩
  refine LE.p (v := (Value.float .f64 r3)) (Wn.no rfl) rfl (R.assign rfl) ?_
  refine LE.nil ?_
  refine WE.seq ?_
  refine WE.seq ?_
  refine WE.reg ?_
  refine LE.p (v := (Value.int .i64 (0 : Int))) (Wn.no rfl) rfl (R.assign rfl) ?_
  refine LE.nil ?_
  refine WE.block ?_
  obtain ⟨I11, ⟨n10, h⟩, hr12⟩ := h
  refine WE.loop (fun n e w => ∃ (x5 : Int) (x6 : Int), I11 n x5 x6 w ∧ e 0 = (Value.pointer p0) ∧ e 1 = (Value.int .u32 p1) ∧ e 4 = (Value.pointer (some b2)) ∧ e 6 = (Value.int .i64 x5) ∧ e 7 = (Value.float .f64 r3) ∧ e 8 = (Value.int .i64 x6)) n10 ⟨_, _, h, rfl, rfl, rfl, rfl, rfl, rfl⟩ ?_
  clear h
  rintro n10 e9 w8 ⟨x5, x6, h, f15, f16, f17, f18, f19, f20⟩
  replace h := hr12 n10 x5 x6 w8 h
  refine WE.seq ?_
  refine WE.seq ?_
  refine WE.reg ?_
  refine LE.p (v := (Value.int .i64 x6)) (Wn.no rfl) rfl (R.move f20) ?_
  refine LE.p (v := (Value.pointer p0)) (Wn.no rfl) rfl (R.move f15) ?_
  obtain ⟨a21, h22, h⟩ := h
  refine LE.p (v := (Value.pointer (some a21))) (Wn.no rfl) rfl (R.nilC (congrArg Value.pointer h22)) ?_
  refine LE.p (v := (Value.pointer (some a21))) (Wn.no rfl) rfl (R.fld (off := 0) fa49_0 rfl) ?_
  obtain ⟨t23, h24, h⟩ := h
  refine LE.r (v := (SV.v t23)) (Wn.no rfl) rfl (R.ld sc39 rfl h24) ?_
  refine LE.p (v := (Value.int .i64 (t23.len : Int))) (Wn.no rfl) rfl (R.len sl39 rfl) ?_
  refine LE.p (v := (Value.bool (decide (x6 < (t23.len : Int))))) (Wn.no rfl) rfl (R.lss rfl rfl) ?_
  refine LE.nil ?_
  refine WE.condT rfl (b := (decide (x6 < (t23.len : Int)))) rfl ?_ ?_
  · intro hb25
    replace h := M.ite_t h hb25
    refine WE.skip ?_
    refine WE.seq ?_
    obtain ⟨J26, hJ26, h⟩ := M.join_use h
    refine WE.blkJ (fun e w => ∃ (x27 : Int), J26 x27 w ∧ e 0 = (Value.pointer p0) ∧ e 1 = (Value.int .u32 p1) ∧ e 4 = (Value.pointer (some b2)) ∧ e 6 = (Value.int .i64 x27) ∧ e 7 = (Value.float .f64 r3) ∧ e 8 = (Value.int .i64 x6)) ?_ ?_
    · clear hJ26
      refine WE.seq ?_
      obtain ⟨J28, hJ28, h⟩ := M.join_use h
      refine WE.drawJ (fun e w => ∃ (x29 : Bool), J28 x29 w ∧ e 0 = (Value.pointer p0) ∧ e 1 = (Value.int .u32 p1) ∧ e 4 = (Value.pointer (some b2)) ∧ e 6 = (Value.int .i64 x5) ∧ e 7 = (Value.float .f64 r3) ∧ e 8 = (Value.int .i64 x6) ∧ e 65 = (Value.bool x29)) mix ?_ ?_
      · clear hJ28
        obtain ⟨w30, hww30, h⟩ := M.drew_use h
        rw [← hww30]
        clear hww30
        refine DE.t 0 (v := (Value.pointer p0)) rfl (by kernel_rfl) (Wn.no rfl) rfl (R.move f15) ?_
        obtain ⟨a31, h32, h⟩ := h
        refine DE.t 1 (v := (Value.pointer (some a31))) rfl (by kernel_rfl) (Wn.no rfl) rfl (R.nilC (congrArg Value.pointer h32)) ?_
        refine DE.t 2 (v := (Value.pointer (some a31))) rfl (by kernel_rfl) (Wn.no rfl) rfl (R.fld (off := 0) fa49_0 rfl) ?_
        refine DE.t 4 (v := (Value.int .i64 x6)) rfl (by kernel_rfl) (Wn.no rfl) rfl (R.move f20) ?_
        refine DE.t 8 (v := (Value.int .u32 p1)) rfl (by kernel_rfl) (Wn.no rfl) rfl (R.move f16) ?_
        obtain ⟨t33, h34, h⟩ := h
        refine DE.main 3 (by kernel_rfl) ?_
        refine One.r 3 (v := (SV.v t33)) rfl (Wn.no rfl) rfl (R.ld sc39 rfl h34) (.inl rfl) ?_
        obtain ⟨a35, h36, h37, h38, h⟩ := h
        refine DE.t 5 (v := (Value.pointer (some (a35.add (x6.toNat * 6))))) rfl (by kernel_rfl) (Wn.no rfl) rfl (R.idx (s := t33) sl39 rfl rfl h36 h37 h38) ?_
        refine DE.t 6 (v := (Value.pointer (some (a35.add (x6.toNat * 6))))) rfl (by kernel_rfl) (Wn.no rfl) rfl (R.fld (off := 0) fa33_0 rfl) ?_
        obtain ⟨t39, h40, h⟩ := h
        obtain ⟨t41, h42, h⟩ := h
        refine DE.main 7 (by kernel_rfl) ?_
        refine One.r 7 (v := (Value.agg #[(Value.int .u32 t39), (Value.int .i64 t41)])) rfl (Wn.no rfl) rfl (R.ldA ag30 sz30 rfl rfl (Cs.cons h40 (Cs.cons h42 Cs.nil))) (.inl rfl) ?_
        refine DE.main 9 (by kernel_rfl) ?_
        refine One.c 9 rfl (Wn.no rfl) rfl (R.call bd13 (Ls.cons rfl (Ls.cons rfl Ls.nil)) rfl) (Calls.mono h ?_)
        rintro _ w44 ⟨r43, rfl, h⟩
        refine ⟨_, rfl, trivial, ?_⟩
        refine DE.t 10 (v := (Value.bool r43)) rfl (by kernel_rfl) (Wn.no rfl) rfl (R.move rfl) ?_
        rcases M.ite_use h with ⟨hb45, h⟩ | ⟨hb45, h⟩
        · refine DE.t 11 (v := (Value.pointer p0)) rfl (by kernel_rfl) (Wn.yes 10 29 true rfl rfl rfl (congrArg Value.bool hb45)) rfl (R.move f15) ?_
          obtain ⟨a46, h47, h⟩ := h
          refine DE.t 12 (v := (Value.pointer (some a46))) rfl (by kernel_rfl) (Wn.yes 10 29 true rfl rfl rfl (congrArg Value.bool hb45)) rfl (R.nilC (congrArg Value.pointer h47)) ?_
          refine DE.t 13 (v := (Value.pointer (some a46))) rfl (by kernel_rfl) (Wn.yes 10 29 true rfl rfl rfl (congrArg Value.bool hb45)) rfl (R.fld (off := 0) fa49_0 rfl) ?_
          refine DE.t 15 (v := (Value.int .i64 x6)) rfl (by kernel_rfl) (Wn.yes 10 29 true rfl rfl rfl (congrArg Value.bool hb45)) rfl (R.move f20) ?_
          refine DE.t 19 (v := (Value.float .f64 r3)) rfl (by kernel_rfl) (Wn.yes 10 29 true rfl rfl rfl (congrArg Value.bool hb45)) rfl (R.move f19) ?_
          obtain ⟨t48, h49, h⟩ := h
          refine DE.main 14 (by kernel_rfl) ?_
          refine One.r 14 (v := (SV.v t48)) rfl (Wn.yes 10 29 true rfl rfl rfl (congrArg Value.bool hb45)) rfl (R.ld sc39 rfl h49) (.inl rfl) ?_
          obtain ⟨a50, h51, h52, h53, h⟩ := h
          refine DE.t 16 (v := (Value.pointer (some (a50.add (x6.toNat * 6))))) rfl (by kernel_rfl) (Wn.yes 10 29 true rfl rfl rfl (congrArg Value.bool hb45)) rfl (R.idx (s := t48) sl39 rfl rfl h51 h52 h53) ?_
          refine DE.t 17 (v := (Value.pointer (some ((a50.add (x6.toNat * 6)).add 5)))) rfl (by kernel_rfl) (Wn.yes 10 29 true rfl rfl rfl (congrArg Value.bool hb45)) rfl (R.fld (off := 5) fa33_4 rfl) ?_
          obtain ⟨t54, h55, h⟩ := h
          refine DE.main 18 (by kernel_rfl) ?_
          refine One.r 18 (v := (Value.float .f64 t54)) rfl (Wn.yes 10 29 true rfl rfl rfl (congrArg Value.bool hb45)) rfl (R.ld sc31 rfl h55) (.inl rfl) ?_
          refine DE.main 20 (by kernel_rfl) ?_
          refine One.c 20 rfl (Wn.yes 10 29 true rfl rfl rfl (congrArg Value.bool hb45)) rfl (R.call bd57 (Ls.cons rfl (Ls.cons rfl Ls.nil)) rfl) (Calls.mono h ?_)
          rintro _ w57 ⟨r56, rfl, h⟩
          refine ⟨_, rfl, trivial, ?_⟩
          refine DE.t 21 (v := (Value.bool r56)) rfl (by kernel_rfl) (Wn.no rfl) rfl (R.pickT (congrArg Value.bool hb45) rfl) ?_
          refine DE.t 22 (v := (Value.bool r56)) rfl (by kernel_rfl) (Wn.no rfl) rfl (R.move rfl) ?_
          rcases M.ite_use h with ⟨hb58, h⟩ | ⟨hb58, h⟩
          · refine DE.t 23 (v := (Value.int .i64 x5)) rfl (by kernel_rfl) (Wn.yes 22 41 true rfl rfl rfl (congrArg Value.bool hb58)) rfl (R.move f18) ?_
            refine DE.t 24 (v := (Value.bool (decide (x5 < (0 : Int))))) rfl (by kernel_rfl) (Wn.yes 22 41 true rfl rfl rfl (congrArg Value.bool hb58)) rfl (R.lss rfl rfl) ?_
            refine DE.t 25 (v := (Value.bool (decide (x5 < (0 : Int))))) rfl (by kernel_rfl) (Wn.yes 22 41 true rfl rfl rfl (congrArg Value.bool hb58)) rfl (R.move rfl) ?_
            rcases M.ite_use h with ⟨hb59, h⟩ | ⟨hb59, h⟩
            · refine DE.u 26 rfl (by kernel_rfl) (Un.no 25 44 false rfl rfl rfl (congrArg Value.bool hb59)) ?_
              refine DE.u 27 rfl (by kernel_rfl) (Un.no 25 44 false rfl rfl rfl (congrArg Value.bool hb59)) ?_
              refine DE.u 28 rfl (by kernel_rfl) (Un.no 25 44 false rfl rfl rfl (congrArg Value.bool hb59)) ?_
              refine DE.u 29 rfl (by kernel_rfl) (Un.no 25 44 false rfl rfl rfl (congrArg Value.bool hb59)) ?_
              refine DE.u 30 rfl (by kernel_rfl) (Un.no 25 44 false rfl rfl rfl (congrArg Value.bool hb59)) ?_
              refine DE.u 31 rfl (by kernel_rfl) (Un.no 25 44 false rfl rfl rfl (congrArg Value.bool hb59)) ?_
              refine DE.u 32 rfl (by kernel_rfl) (Un.no 25 44 false rfl rfl rfl (congrArg Value.bool hb59)) ?_
              refine DE.u 33 rfl (by kernel_rfl) (Un.no 25 44 false rfl rfl rfl (congrArg Value.bool hb59)) ?_
              refine DE.u 34 rfl (by kernel_rfl) (Un.no 25 44 false rfl rfl rfl (congrArg Value.bool hb59)) ?_
              refine DE.u 35 rfl (by kernel_rfl) (Un.no 25 44 false rfl rfl rfl (congrArg Value.bool hb59)) ?_
              refine DE.u 36 rfl (by kernel_rfl) (Un.no 25 44 false rfl rfl rfl (congrArg Value.bool hb59)) ?_
              refine DE.u 37 rfl (by kernel_rfl) (Un.no 25 44 false rfl rfl rfl (congrArg Value.bool hb59)) ?_
              refine DE.u 38 rfl (by kernel_rfl) (Un.no 25 44 false rfl rfl rfl (congrArg Value.bool hb59)) ?_
              refine DE.u 39 rfl (by kernel_rfl) (Un.no 25 44 false rfl rfl rfl (congrArg Value.bool hb59)) ?_
              refine DE.u 40 rfl (by kernel_rfl) (Un.no 25 44 false rfl rfl rfl (congrArg Value.bool hb59)) ?_
              refine DE.u 41 rfl (by kernel_rfl) (Un.no 25 44 false rfl rfl rfl (congrArg Value.bool hb59)) ?_
              refine DE.u 42 rfl (by kernel_rfl) (Un.no 25 44 false rfl rfl rfl (congrArg Value.bool hb59)) ?_
              refine DE.u 43 rfl (by kernel_rfl) (Un.no 25 44 false rfl rfl rfl (congrArg Value.bool hb59)) ?_
              refine DE.u 44 rfl (by kernel_rfl) (Un.no 25 44 false rfl rfl rfl (congrArg Value.bool hb59)) ?_
              refine DE.t 45 (v := (Value.bool true)) rfl (by kernel_rfl) (Wn.yes 22 41 true rfl rfl rfl (congrArg Value.bool hb58)) rfl (R.pickT (congrArg Value.bool hb59) rfl) ?_
              refine DE.t 46 (v := (Value.bool true)) rfl (by kernel_rfl) (Wn.no rfl) rfl (R.pickT (congrArg Value.bool hb58) rfl) ?_
              refine DE.done (by kernel_rfl) ?_
              exact ⟨_, h, f15, f16, f17, f18, f19, f20, rfl⟩
            · refine DE.t 26 (v := (Value.pointer p0)) rfl (by kernel_rfl) (Wn.yes 25 44 false rfl rfl rfl (congrArg Value.bool hb59)) rfl (R.move f15) ?_
              obtain ⟨a60, h61, h⟩ := h
              refine DE.t 27 (v := (Value.pointer (some a60))) rfl (by kernel_rfl) (Wn.yes 25 44 false rfl rfl rfl (congrArg Value.bool hb59)) rfl (R.nilC (congrArg Value.pointer h61)) ?_
              refine DE.t 28 (v := (Value.pointer (some a60))) rfl (by kernel_rfl) (Wn.yes 25 44 false rfl rfl rfl (congrArg Value.bool hb59)) rfl (R.fld (off := 0) fa49_0 rfl) ?_
              refine DE.t 30 (v := (Value.int .i64 x6)) rfl (by kernel_rfl) (Wn.yes 25 44 false rfl rfl rfl (congrArg Value.bool hb59)) rfl (R.move f20) ?_
              refine DE.t 35 (v := (Value.pointer p0)) rfl (by kernel_rfl) (Wn.yes 25 44 false rfl rfl rfl (congrArg Value.bool hb59)) rfl (R.move f15) ?_
              obtain ⟨a62, h63, h⟩ := h
              refine DE.t 36 (v := (Value.pointer (some a62))) rfl (by kernel_rfl) (Wn.yes 25 44 false rfl rfl rfl (congrArg Value.bool hb59)) rfl (R.nilC (congrArg Value.pointer h63)) ?_
              refine DE.t 37 (v := (Value.pointer (some a62))) rfl (by kernel_rfl) (Wn.yes 25 44 false rfl rfl rfl (congrArg Value.bool hb59)) rfl (R.fld (off := 0) fa49_0 rfl) ?_
              refine DE.t 39 (v := (Value.int .i64 x5)) rfl (by kernel_rfl) (Wn.yes 25 44 false rfl rfl rfl (congrArg Value.bool hb59)) rfl (R.move f18) ?_
              obtain ⟨t64, h65, h⟩ := h
              refine DE.hold 29 (fun w => w.cell? a60 = some (SV.v t64)) (v := (SV.v t64)) rfl (by kernel_rfl) (Wn.yes 25 44 false rfl rfl rfl (congrArg Value.bool hb59)) rfl h65 (fun w hs => R.ld sc39 rfl hs) ?_
              obtain ⟨a66, h67, h68, h69, h⟩ := h
              refine DE.t 31 (v := (Value.pointer (some (a66.add (x6.toNat * 6))))) rfl (by kernel_rfl) (Wn.yes 25 44 false rfl rfl rfl (congrArg Value.bool hb59)) rfl (R.idx (s := t64) sl39 rfl rfl h67 h68 h69) ?_
              refine DE.t 32 (v := (Value.pointer (some (a66.add (x6.toNat * 6))))) rfl (by kernel_rfl) (Wn.yes 25 44 false rfl rfl rfl (congrArg Value.bool hb59)) rfl (R.fld (off := 0) fa33_0 rfl) ?_
              refine DE.t 33 (v := (Value.pointer (some ((a66.add (x6.toNat * 6)).add 1)))) rfl (by kernel_rfl) (Wn.yes 25 44 false rfl rfl rfl (congrArg Value.bool hb59)) rfl (R.fld (off := 1) fa30_1 rfl) ?_
              obtain ⟨t70, h71, h⟩ := h
              refine DE.hold 34 (fun w => w.cell? ((a66.add (x6.toNat * 6)).add 1) = some (Value.int .i64 t70)) (v := (Value.int .i64 t70)) rfl (by kernel_rfl) (Wn.yes 25 44 false rfl rfl rfl (congrArg Value.bool hb59)) rfl h71 (fun w hs => R.ld sc3 rfl hs) ?_
              obtain ⟨t72, h73, h⟩ := h
              refine DE.main 38 (by kernel_rfl) ?_
              refine One.r 38 (v := (SV.v t72)) rfl (Wn.yes 25 44 false rfl rfl rfl (congrArg Value.bool hb59)) rfl (R.ld sc39 rfl h73) (.inl rfl) ?_
              obtain ⟨a74, h75, h76, h77, h⟩ := h
              refine DE.t 40 (v := (Value.pointer (some (a74.add (x5.toNat * 6))))) rfl (by kernel_rfl) (Wn.yes 25 44 false rfl rfl rfl (congrArg Value.bool hb59)) rfl (R.idx (s := t72) sl39 rfl rfl h75 h76 h77) ?_
              refine DE.t 41 (v := (Value.pointer (some (a74.add (x5.toNat * 6))))) rfl (by kernel_rfl) (Wn.yes 25 44 false rfl rfl rfl (congrArg Value.bool hb59)) rfl (R.fld (off := 0) fa33_0 rfl) ?_
              refine DE.t 42 (v := (Value.pointer (some ((a74.add (x5.toNat * 6)).add 1)))) rfl (by kernel_rfl) (Wn.yes 25 44 false rfl rfl rfl (congrArg Value.bool hb59)) rfl (R.fld (off := 1) fa30_1 rfl) ?_
              obtain ⟨t78, h79, h⟩ := h
              refine DE.main 43 (by kernel_rfl) ?_
              refine One.r 43 (v := (Value.int .i64 t78)) rfl (Wn.yes 25 44 false rfl rfl rfl (congrArg Value.bool hb59)) rfl (R.ld sc3 rfl h79) (.inl rfl) ?_
              refine DE.t 44 (v := (Value.bool (decide (t78 < t70)))) rfl (by kernel_rfl) (Wn.yes 25 44 false rfl rfl rfl (congrArg Value.bool hb59)) rfl (R.gtr rfl rfl) ?_
              refine DE.t 45 (v := (Value.bool (decide (t78 < t70)))) rfl (by kernel_rfl) (Wn.yes 22 41 true rfl rfl rfl (congrArg Value.bool hb58)) rfl (R.pickF (congrArg Value.bool hb59) rfl) ?_
              refine DE.t 46 (v := (Value.bool (decide (t78 < t70)))) rfl (by kernel_rfl) (Wn.no rfl) rfl (R.pickT (congrArg Value.bool hb58) rfl) ?_
              refine DE.done (by kernel_rfl) ?_
              exact ⟨_, h, f15, f16, f17, f18, f19, f20, rfl⟩
          · refine DE.u 23 rfl (by kernel_rfl) (Un.no 22 41 true rfl rfl rfl (congrArg Value.bool hb58)) ?_
            refine DE.u 24 rfl (by kernel_rfl) (Un.no 22 41 true rfl rfl rfl (congrArg Value.bool hb58)) ?_
            refine DE.u 25 rfl (by kernel_rfl) (Un.no 22 41 true rfl rfl rfl (congrArg Value.bool hb58)) ?_
            refine DE.u 26 rfl (by kernel_rfl) (Un.un 25 44 false rfl rfl rfl rfl) ?_
            refine DE.u 27 rfl (by kernel_rfl) (Un.un 25 44 false rfl rfl rfl rfl) ?_
            refine DE.u 28 rfl (by kernel_rfl) (Un.un 25 44 false rfl rfl rfl rfl) ?_
            refine DE.u 29 rfl (by kernel_rfl) (Un.un 25 44 false rfl rfl rfl rfl) ?_
            refine DE.u 30 rfl (by kernel_rfl) (Un.un 25 44 false rfl rfl rfl rfl) ?_
            refine DE.u 31 rfl (by kernel_rfl) (Un.un 25 44 false rfl rfl rfl rfl) ?_
            refine DE.u 32 rfl (by kernel_rfl) (Un.un 25 44 false rfl rfl rfl rfl) ?_
            refine DE.u 33 rfl (by kernel_rfl) (Un.un 25 44 false rfl rfl rfl rfl) ?_
            refine DE.u 34 rfl (by kernel_rfl) (Un.un 25 44 false rfl rfl rfl rfl) ?_
            refine DE.u 35 rfl (by kernel_rfl) (Un.un 25 44 false rfl rfl rfl rfl) ?_
            refine DE.u 36 rfl (by kernel_rfl) (Un.un 25 44 false rfl rfl rfl rfl) ?_
            refine DE.u 37 rfl (by kernel_rfl) (Un.un 25 44 false rfl rfl rfl rfl) ?_
            refine DE.u 38 rfl (by kernel_rfl) (Un.un 25 44 false rfl rfl rfl rfl) ?_
            refine DE.u 39 rfl (by kernel_rfl) (Un.un 25 44 false rfl rfl rfl rfl) ?_
            refine DE.u 40 rfl (by kernel_rfl) (Un.un 25 44 false rfl rfl rfl rfl) ?_
            refine DE.u 41 rfl (by kernel_rfl) (Un.un 25 44 false rfl rfl rfl rfl) ?_
            refine DE.u 42 rfl (by kernel_rfl) (Un.un 25 44 false rfl rfl rfl rfl) ?_
            refine DE.u 43 rfl (by kernel_rfl) (Un.un 25 44 false rfl rfl rfl rfl) ?_
            refine DE.u 44 rfl (by kernel_rfl) (Un.un 25 44 false rfl rfl rfl rfl) ?_
            refine DE.u 45 rfl (by kernel_rfl) (Un.no 22 41 true rfl rfl rfl (congrArg Value.bool hb58)) ?_
            refine DE.t 46 (v := (Value.bool false)) rfl (by kernel_rfl) (Wn.no rfl) rfl (R.pickF (congrArg Value.bool hb58) rfl) ?_
            refine DE.done (by kernel_rfl) ?_
            exact ⟨_, h, f15, f16, f17, f18, f19, f20, rfl⟩
        · refine DE.u 11 rfl (by kernel_rfl) (Un.no 10 29 true rfl rfl rfl (congrArg Value.bool hb45)) ?_
          refine DE.u 12 rfl (by kernel_rfl) (Un.no 10 29 true rfl rfl rfl (congrArg Value.bool hb45)) ?_
          refine DE.u 13 rfl (by kernel_rfl) (Un.no 10 29 true rfl rfl rfl (congrArg Value.bool hb45)) ?_
          refine DE.u 14 rfl (by kernel_rfl) (Un.no 10 29 true rfl rfl rfl (congrArg Value.bool hb45)) ?_
          refine DE.u 15 rfl (by kernel_rfl) (Un.no 10 29 true rfl rfl rfl (congrArg Value.bool hb45)) ?_
          refine DE.u 16 rfl (by kernel_rfl) (Un.no 10 29 true rfl rfl rfl (congrArg Value.bool hb45)) ?_
          refine DE.u 17 rfl (by kernel_rfl) (Un.no 10 29 true rfl rfl rfl (congrArg Value.bool hb45)) ?_
          refine DE.u 18 rfl (by kernel_rfl) (Un.no 10 29 true rfl rfl rfl (congrArg Value.bool hb45)) ?_
          refine DE.u 19 rfl (by kernel_rfl) (Un.no 10 29 true rfl rfl rfl (congrArg Value.bool hb45)) ?_
          refine DE.u 20 rfl (by kernel_rfl) (Un.no 10 29 true rfl rfl rfl (congrArg Value.bool hb45)) ?_
          refine DE.t 21 (v := (Value.bool false)) rfl (by kernel_rfl) (Wn.no rfl) rfl (R.pickF (congrArg Value.bool hb45) rfl) ?_
          refine DE.t 22 (v := (Value.bool false)) rfl (by kernel_rfl) (Wn.no rfl) rfl (R.move rfl) ?_
          refine DE.u 23 rfl (by kernel_rfl) (Un.no 22 41 true rfl rfl rfl rfl) ?_
          refine DE.u 24 rfl (by kernel_rfl) (Un.no 22 41 true rfl rfl rfl rfl) ?_
          refine DE.u 25 rfl (by kernel_rfl) (Un.no 22 41 true rfl rfl rfl rfl) ?_
          refine DE.u 26 rfl (by kernel_rfl) (Un.un 25 44 false rfl rfl rfl rfl) ?_
          refine DE.u 27 rfl (by kernel_rfl) (Un.un 25 44 false rfl rfl rfl rfl) ?_
          refine DE.u 28 rfl (by kernel_rfl) (Un.un 25 44 false rfl rfl rfl rfl) ?_
          refine DE.u 29 rfl (by kernel_rfl) (Un.un 25 44 false rfl rfl rfl rfl) ?_
          refine DE.u 30 rfl (by kernel_rfl) (Un.un 25 44 false rfl rfl rfl rfl) ?_
          refine DE.u 31 rfl (by kernel_rfl) (Un.un 25 44 false rfl rfl rfl rfl) ?_
          refine DE.u 32 rfl (by kernel_rfl) (Un.un 25 44 false rfl rfl rfl rfl) ?_
          refine DE.u 33 rfl (by kernel_rfl) (Un.un 25 44 false rfl rfl rfl rfl) ?_
          refine DE.u 34 rfl (by kernel_rfl) (Un.un 25 44 false rfl rfl rfl rfl) ?_
          refine DE.u 35 rfl (by kernel_rfl) (Un.un 25 44 false rfl rfl rfl rfl) ?_
          refine DE.u 36 rfl (by kernel_rfl) (Un.un 25 44 false rfl rfl rfl rfl) ?_
          refine DE.u 37 rfl (by kernel_rfl) (Un.un 25 44 false rfl rfl rfl rfl) ?_
          refine DE.u 38 rfl (by kernel_rfl) (Un.un 25 44 false rfl rfl rfl rfl) ?_
          refine DE.u 39 rfl (by kernel_rfl) (Un.un 25 44 false rfl rfl rfl rfl) ?_
          refine DE.u 40 rfl (by kernel_rfl) (Un.un 25 44 false rfl rfl rfl rfl) ?_
          refine DE.u 41 rfl (by kernel_rfl) (Un.un 25 44 false rfl rfl rfl rfl) ?_
          refine DE.u 42 rfl (by kernel_rfl) (Un.un 25 44 false rfl rfl rfl rfl) ?_
          refine DE.u 43 rfl (by kernel_rfl) (Un.un 25 44 false rfl rfl rfl rfl) ?_
          refine DE.u 44 rfl (by kernel_rfl) (Un.un 25 44 false rfl rfl rfl rfl) ?_
          refine DE.u 45 rfl (by kernel_rfl) (Un.no 22 41 true rfl rfl rfl rfl) ?_
          refine DE.t 46 (v := (Value.bool false)) rfl (by kernel_rfl) (Wn.no rfl) rfl (R.pickF rfl rfl) ?_
          refine DE.done (by kernel_rfl) ?_
          exact ⟨_, h, f15, f16, f17, f18, f19, f20, rfl⟩
      · rintro e80 w81 ⟨x29, h, f82, f83, f84, f85, f86, f87, f88⟩
        subst hJ28
        refine WE.condT rfl (b := x29) f88 ?_ ?_
        · intro hb89
          replace h := M.ite_t h hb89
          refine WE.reg ?_
          refine LE.p (v := (Value.int .i64 x6)) (Wn.no rfl) rfl (R.move f87) ?_
          refine LE.p (v := (Value.int .i64 x6)) (Wn.no rfl) rfl (R.assign rfl) ?_
          refine LE.nil ?_
          exact ⟨_, h, f82, f83, f84, rfl, f86, f87⟩
        · intro hb89
          replace h := M.ite_f h hb89
          refine WE.skip ?_
          exact ⟨_, h, f82, f83, f84, f85, f86, f87⟩
    · rintro e90 w91 ⟨x27, h, f92, f93, f94, f95, f96, f97⟩
      subst hJ26
      refine WE.reg ?_
      refine LE.p (v := (Value.int .i64 x6)) (Wn.no rfl) rfl (R.move f97) ?_
      refine LE.p (v := (Value.int .i64 (IntKind.i64.wrap (x6 + (1 : Int))))) (Wn.no rfl) rfl (R.add rfl rfl) ?_
      refine LE.p (v := (Value.int .i64 (IntKind.i64.wrap (x6 + (1 : Int))))) (Wn.no rfl) rfl (R.assign rfl) ?_
      refine LE.nil ?_
      obtain ⟨m13, hm14, h⟩ := h
      exact ⟨m13, hm14, _, _, h, f92, f93, f94, f95, f96, rfl⟩
  · intro hb25
    replace h := M.ite_f h hb25
    refine WE.exit ?_
    refine WE.seq ?_
    refine WE.seq ?_
    refine WE.reg ?_
    refine LE.p (v := (Value.int .i64 x5)) (Wn.no rfl) rfl (R.move f18) ?_
    refine LE.p (v := (Value.bool (decide (x5 < (0 : Int))))) (Wn.no rfl) rfl (R.lss rfl rfl) ?_
    refine LE.nil ?_
    refine WE.condT rfl (b := (decide (x5 < (0 : Int)))) rfl ?_ ?_
    · intro hb98
      replace h := M.ite_t h hb98
      refine WE.seq ?_
      refine WE.reg ?_
      refine LE.p (v := (Value.agg #[(Value.int .u32 (0 : Int)), (Value.int .i64 (0 : Int)), (Value.bool false), (Value.int .i64 (0 : Int)), (Value.int .u32 (0 : Int)), (Value.float .f64 (0 : Nat))])) (Wn.no rfl) rfl (R.bld (by exact Ls.nil) (fun w => bu33_  w)) ?_
      obtain ⟨w99, hww99, h100, h⟩ := M.stA_use h
      refine LE.s (Wn.no rfl) rfl (R.stA (a := b2) [(Value.int .u32 (0 : Int)), (Value.int .i64 (0 : Int)), (Value.bool false), (Value.int .i64 (0 : Int)), (Value.int .u32 (0 : Int)), (Value.float .f64 (0 : Nat))] sz33 f17 rfl rfl (by simp [Value.oneCell']) h100 hww99) ?_
      refine LE.p (v := (Value.bool false)) (Wn.no rfl) rfl (R.assign rfl) ?_
      refine LE.nil ?_
      refine WE.ret ?_
      obtain ⟨t101, t102, t103, t104, t105, t106, h107, h⟩ := h
      exact ⟨_, (Res.cell f17 (R.ldCellA ag33 sz33 rfl h107) (Res.tmp rfl Res.nil)), _, _, _, _, _, _, _, rfl, h⟩
    · intro hb98
      replace h := M.ite_f h hb98
      refine WE.skip ?_
      refine WE.seq ?_
      refine WE.reg ?_
      refine LE.p (v := (Value.pointer p0)) (Wn.no rfl) rfl (R.move f15) ?_
      obtain ⟨a108, h109, h⟩ := h
      refine LE.p (v := (Value.pointer (some a108))) (Wn.no rfl) rfl (R.nilC (congrArg Value.pointer h109)) ?_
      refine LE.p (v := (Value.pointer (some a108))) (Wn.no rfl) rfl (R.fld (off := 0) fa49_0 rfl) ?_
      obtain ⟨t110, h111, h⟩ := h
      refine LE.r (v := (SV.v t110)) (Wn.no rfl) rfl (R.ld sc39 rfl h111) ?_
      refine LE.p (v := (Value.int .i64 x5)) (Wn.no rfl) rfl (R.move f18) ?_
      obtain ⟨a112, h113, h114, h115, h⟩ := h
      refine LE.p (v := (Value.pointer (some (a112.add (x5.toNat * 6))))) (Wn.no rfl) rfl (R.idx (s := t110) sl39 rfl rfl h113 h114 h115) ?_
      obtain ⟨t116, t117, t118, t119, t120, t121, h122, h⟩ := h
      refine LE.r (v := (Value.agg #[(Value.int .u32 t116), (Value.int .i64 t117), (Value.bool t118), (Value.int .i64 t119), (Value.int .u32 t120), (Value.float .f64 t121)])) (Wn.no rfl) rfl (R.ldA ag33 sz33 rfl rfl h122) ?_
      obtain ⟨w123, hww123, h124, h⟩ := M.stA_use h
      refine LE.s (Wn.no rfl) rfl (R.stA (a := b2) [(Value.int .u32 t116), (Value.int .i64 t117), (Value.bool t118), (Value.int .i64 t119), (Value.int .u32 t120), (Value.float .f64 t121)] sz33 f17 rfl rfl (by simp [Value.oneCell']) h124 hww123) ?_
      refine LE.p (v := (Value.bool true)) (Wn.no rfl) rfl (R.assign rfl) ?_
      refine LE.nil ?_
      refine WE.ret ?_
      obtain ⟨t125, t126, t127, t128, t129, t130, h131, h⟩ := h
      exact ⟨_, (Res.cell f17 (R.ldCellA ag33 sz33 rfl h131) (Res.tmp rfl Res.nil)), _, _, _, _, _, _, _, rfl, h⟩
/-- The formula of (*signpost.signpostref15.Table).Get. -/
def F44 (p0 : Option Addr) (p1_0 : Int) (p1_1 : Int) (K : Int → Int → Bool → Int → Int → Nat → Bool → World → Prop) (w0 : World) : Prop :=
M.new (.cells #[(Value.int .u32 p1_0), (Value.int .i64 p1_1)] 30) w0 fun b2 w1 =>
M.new (.cells #[(Value.int .u32 (0 : Int)), (Value.int .i64 (0 : Int)), (Value.bool false), (Value.int .i64 (0 : Int)), (Value.int .u32 (0 : Int)), (Value.float .f64 (0 : Nat))] 33) w1 fun b4 w3 =>
M.loop1 (fun (J6 : Int → World → Prop) (x5 : Int) (w7 : World) => 
M.nil p0 fun a18 =>
M.ld SV.v a18 w7 fun t20 =>
M.ite (decide (x5 < (t20.len : Int))) (
M.drew w7 fun w23 => 
M.nil p0 fun a24 =>
M.ld SV.v a24 w23 fun t26 =>
M.idx t26 x5 6 fun a28 =>
M.ld (Value.int .u32) (a28.add (x5.toNat * 6)) w23 fun t32 =>
M.ld (Value.int .i64) ((a28.add (x5.toNat * 6)).add 1) w23 fun t34 =>
M.ld (Value.int .u32) b2 w23 fun t36 =>
M.ld (Value.int .i64) (b2.add 1) w23 fun t38 =>
M.ite ((t32 == t36) && (t34 == t38)) (
M.nil p0 fun a41 =>
M.ld SV.v a41 w23 fun t43 =>
M.idx t43 x5 6 fun a45 =>
∃ (t49 : Int) (t50 : Int) (t51 : Bool) (t52 : Int) (t53 : Int) (t54 : Nat), Cs w23 (a45.add (x5.toNat * 6)) 0 [(Value.int .u32 t49), (Value.int .i64 t50), (Value.bool t51), (Value.int .i64 t52), (Value.int .u32 t53), (Value.float .f64 t54)] ∧
M.stA b4 [(Value.int .u32 t49), (Value.int .i64 t50), (Value.bool t51), (Value.int .i64 t52), (Value.int .u32 t53), (Value.float .f64 t54)] w23 fun w56 =>
∃ (t58 : Int) (t59 : Int) (t60 : Bool) (t61 : Int) (t62 : Int) (t63 : Nat), Cs w56 b4 0 [(Value.int .u32 t58), (Value.int .i64 t59), (Value.bool t60), (Value.int .i64 t61), (Value.int .u32 t62), (Value.float .f64 t63)] ∧
K t58 t59 t60 t61 t62 t63 true w56) (
J6 (IntKind.i64.wrap (x5 + (1 : Int))) w23)) (
M.stA b4 [(Value.int .u32 (0 : Int)), (Value.int .i64 (0 : Int)), (Value.bool false), (Value.int .i64 (0 : Int)), (Value.int .u32 (0 : Int)), (Value.float .f64 (0 : Nat))] w7 fun w65 =>
∃ (t67 : Int) (t68 : Int) (t69 : Bool) (t70 : Int) (t71 : Int) (t72 : Nat), Cs w65 b4 0 [(Value.int .u32 t67), (Value.int .i64 t68), (Value.bool t69), (Value.int .i64 t70), (Value.int .u32 t71), (Value.float .f64 t72)] ∧
K t67 t68 t69 t70 t71 t72 false w65)) (0 : Int) w3
theorem F44_ok {w0 : World} {p0 : Option Addr} {p1_0 : Int} {p1_1 : Int} {K : Int → Int → Bool → Int → Int → Nat → Bool → World → Prop} (h : F44 p0 p1_0 p1_1 K w0) : Calls Try.prog 44 #[(Value.pointer p0), (Value.agg #[(Value.int .u32 p1_0), (Value.int .i64 p1_1)])] w0 (R44 K) := by
  refine calls_of_WE (args := [(Value.pointer p0), (Value.agg #[(Value.int .u32 p1_0), (Value.int .i64 p1_1)])]) (rs := [.cell 4 33, .tmp 5]) Try.func44 rfl (N := 34) rfl rfl rfl rfl ?_
  refine WE.seq ?_
  refine WE.reg ?_
  obtain ⟨b2, hpb2, w1, hww1, h⟩ := M.new_use h
  refine LE.r (v := (Value.pointer (some b2))) (Wn.no rfl) rfl (R.box (cs := #[(Value.int .u32 p1_0), (Value.int .i64 p1_1)]) rfl rfl hpb2 hww1) ?_
  obtain ⟨b4, hpb4, w3, hww3, h⟩ := M.new_use h
  refine LE.r (v := (Value.pointer (some b4))) (Wn.no rfl) rfl (R.alloc (cs := #[(Value.int .u32 (0 : Int)), (Value.int .i64 (0 : Int)), (Value.bool false), (Value.int .i64 (0 : Int)), (Value.int .u32 (0 : Int)), (Value.float .f64 (0 : Nat))]) ze33 rfl hpb4 hww3) ?_
  refine LE.p (v := (Value.bool false)) (Wn.no rfl) rfl (R.assign rfl) ?_
  refine LE.nil ?_
  refine WE.seq ?_
  refine WE.seq ?_
  refine WE.reg ?_
  refine LE.p (v := (Value.int .i64 (0 : Int))) (Wn.no rfl) rfl (R.assign rfl) ?_
  refine LE.nil ?_
  refine WE.block ?_
  obtain ⟨I10, ⟨n9, h⟩, hr11⟩ := h
  refine WE.loop (fun n e w => ∃ (x5 : Int), I10 n x5 w ∧ e 0 = (Value.pointer p0) ∧ e 3 = (Value.pointer (some b2)) ∧ e 4 = (Value.pointer (some b4)) ∧ e 6 = (Value.int .i64 x5)) n9 ⟨_, h, rfl, rfl, rfl, rfl⟩ ?_
  clear h
  rintro n9 e8 w7 ⟨x5, h, f14, f15, f16, f17⟩
  replace h := hr11 n9 x5 w7 h
  refine WE.seq ?_
  refine WE.seq ?_
  refine WE.reg ?_
  refine LE.p (v := (Value.int .i64 x5)) (Wn.no rfl) rfl (R.move f17) ?_
  refine LE.p (v := (Value.pointer p0)) (Wn.no rfl) rfl (R.move f14) ?_
  obtain ⟨a18, h19, h⟩ := h
  refine LE.p (v := (Value.pointer (some a18))) (Wn.no rfl) rfl (R.nilC (congrArg Value.pointer h19)) ?_
  refine LE.p (v := (Value.pointer (some a18))) (Wn.no rfl) rfl (R.fld (off := 0) fa49_0 rfl) ?_
  obtain ⟨t20, h21, h⟩ := h
  refine LE.r (v := (SV.v t20)) (Wn.no rfl) rfl (R.ld sc39 rfl h21) ?_
  refine LE.p (v := (Value.int .i64 (t20.len : Int))) (Wn.no rfl) rfl (R.len sl39 rfl) ?_
  refine LE.p (v := (Value.bool (decide (x5 < (t20.len : Int))))) (Wn.no rfl) rfl (R.lss rfl rfl) ?_
  refine LE.nil ?_
  refine WE.condT rfl (b := (decide (x5 < (t20.len : Int)))) rfl ?_ ?_
  · intro hb22
    replace h := M.ite_t h hb22
    refine WE.skip ?_
    refine WE.seq ?_
    refine WE.block ?_
    refine WE.seq ?_
    refine WE.draw mix ?_
    obtain ⟨w23, hww23, h⟩ := M.drew_use h
    rw [← hww23]
    clear hww23
    refine DE.t 0 (v := (Value.pointer p0)) rfl (by kernel_rfl) (Wn.no rfl) rfl (R.move f14) ?_
    obtain ⟨a24, h25, h⟩ := h
    refine DE.t 1 (v := (Value.pointer (some a24))) rfl (by kernel_rfl) (Wn.no rfl) rfl (R.nilC (congrArg Value.pointer h25)) ?_
    refine DE.t 2 (v := (Value.pointer (some a24))) rfl (by kernel_rfl) (Wn.no rfl) rfl (R.fld (off := 0) fa49_0 rfl) ?_
    refine DE.t 4 (v := (Value.int .i64 x5)) rfl (by kernel_rfl) (Wn.no rfl) rfl (R.move f17) ?_
    obtain ⟨t26, h27, h⟩ := h
    refine DE.hold 3 (fun w => w.cell? a24 = some (SV.v t26)) (v := (SV.v t26)) rfl (by kernel_rfl) (Wn.no rfl) rfl h27 (fun w hs => R.ld sc39 rfl hs) ?_
    obtain ⟨a28, h29, h30, h31, h⟩ := h
    refine DE.t 5 (v := (Value.pointer (some (a28.add (x5.toNat * 6))))) rfl (by kernel_rfl) (Wn.no rfl) rfl (R.idx (s := t26) sl39 rfl rfl h29 h30 h31) ?_
    refine DE.t 6 (v := (Value.pointer (some (a28.add (x5.toNat * 6))))) rfl (by kernel_rfl) (Wn.no rfl) rfl (R.fld (off := 0) fa33_0 rfl) ?_
    obtain ⟨t32, h33, h⟩ := h
    obtain ⟨t34, h35, h⟩ := h
    refine DE.hold 7 (fun w => w.cell? (a28.add (x5.toNat * 6)) = some (Value.int .u32 t32) ∧ w.cell? ((a28.add (x5.toNat * 6)).add 1) = some (Value.int .i64 t34)) (v := (Value.agg #[(Value.int .u32 t32), (Value.int .i64 t34)])) rfl (by kernel_rfl) (Wn.no rfl) rfl ⟨h33, h35⟩ (fun w hs => R.ldA ag30 sz30 rfl rfl (Cs.cons hs.1 (Cs.cons hs.2 Cs.nil))) ?_
    obtain ⟨t36, h37, h⟩ := h
    obtain ⟨t38, h39, h⟩ := h
    refine DE.main 8 (by kernel_rfl) ?_
    refine One.r 8 (v := (Value.agg #[(Value.int .u32 t36), (Value.int .i64 t38)])) rfl (Wn.no rfl) rfl (R.ldA ag30 sz30 f15 rfl (Cs.cons h37 (Cs.cons h39 Cs.nil))) (.inl rfl) ?_
    refine DE.t 9 (v := (Value.bool ((t32 == t36) && (t34 == t38)))) rfl (by kernel_rfl) (Wn.no rfl) rfl (R.eqS (fun w => eq30 t32 t36 t34 t38 w) sg30 rfl rfl) ?_
    refine DE.done (by kernel_rfl) ?_
    refine WE.condT rfl (b := ((t32 == t36) && (t34 == t38))) rfl ?_ ?_
    · intro hb40
      replace h := M.ite_t h hb40
      refine WE.seq ?_
      refine WE.reg ?_
      refine LE.p (v := (Value.pointer p0)) (Wn.no rfl) rfl (R.move f14) ?_
      obtain ⟨a41, h42, h⟩ := h
      refine LE.p (v := (Value.pointer (some a41))) (Wn.no rfl) rfl (R.nilC (congrArg Value.pointer h42)) ?_
      refine LE.p (v := (Value.pointer (some a41))) (Wn.no rfl) rfl (R.fld (off := 0) fa49_0 rfl) ?_
      obtain ⟨t43, h44, h⟩ := h
      refine LE.r (v := (SV.v t43)) (Wn.no rfl) rfl (R.ld sc39 rfl h44) ?_
      refine LE.p (v := (Value.int .i64 x5)) (Wn.no rfl) rfl (R.move f17) ?_
      obtain ⟨a45, h46, h47, h48, h⟩ := h
      refine LE.p (v := (Value.pointer (some (a45.add (x5.toNat * 6))))) (Wn.no rfl) rfl (R.idx (s := t43) sl39 rfl rfl h46 h47 h48) ?_
      obtain ⟨t49, t50, t51, t52, t53, t54, h55, h⟩ := h
      refine LE.r (v := (Value.agg #[(Value.int .u32 t49), (Value.int .i64 t50), (Value.bool t51), (Value.int .i64 t52), (Value.int .u32 t53), (Value.float .f64 t54)])) (Wn.no rfl) rfl (R.ldA ag33 sz33 rfl rfl h55) ?_
      obtain ⟨w56, hww56, h57, h⟩ := M.stA_use h
      refine LE.s (Wn.no rfl) rfl (R.stA (a := b4) [(Value.int .u32 t49), (Value.int .i64 t50), (Value.bool t51), (Value.int .i64 t52), (Value.int .u32 t53), (Value.float .f64 t54)] sz33 f16 rfl rfl (by simp [Value.oneCell']) h57 hww56) ?_
      refine LE.p (v := (Value.bool true)) (Wn.no rfl) rfl (R.assign rfl) ?_
      refine LE.nil ?_
      refine WE.ret ?_
      obtain ⟨t58, t59, t60, t61, t62, t63, h64, h⟩ := h
      exact ⟨_, (Res.cell f16 (R.ldCellA ag33 sz33 rfl h64) (Res.tmp rfl Res.nil)), _, _, _, _, _, _, _, rfl, h⟩
    · intro hb40
      replace h := M.ite_f h hb40
      refine WE.skip ?_
      refine WE.reg ?_
      refine LE.p (v := (Value.int .i64 x5)) (Wn.no rfl) rfl (R.move f17) ?_
      refine LE.p (v := (Value.int .i64 (IntKind.i64.wrap (x5 + (1 : Int))))) (Wn.no rfl) rfl (R.add rfl rfl) ?_
      refine LE.p (v := (Value.int .i64 (IntKind.i64.wrap (x5 + (1 : Int))))) (Wn.no rfl) rfl (R.assign rfl) ?_
      refine LE.nil ?_
      obtain ⟨m12, hm13, h⟩ := h
      exact ⟨m12, hm13, _, h, f14, f15, f16, rfl⟩
  · intro hb22
    replace h := M.ite_f h hb22
    refine WE.exit ?_
    refine WE.seq ?_
    refine WE.reg ?_
    refine LE.p (v := (Value.agg #[(Value.int .u32 (0 : Int)), (Value.int .i64 (0 : Int)), (Value.bool false), (Value.int .i64 (0 : Int)), (Value.int .u32 (0 : Int)), (Value.float .f64 (0 : Nat))])) (Wn.no rfl) rfl (R.bld (by exact Ls.nil) (fun w => bu33_  w)) ?_
    obtain ⟨w65, hww65, h66, h⟩ := M.stA_use h
    refine LE.s (Wn.no rfl) rfl (R.stA (a := b4) [(Value.int .u32 (0 : Int)), (Value.int .i64 (0 : Int)), (Value.bool false), (Value.int .i64 (0 : Int)), (Value.int .u32 (0 : Int)), (Value.float .f64 (0 : Nat))] sz33 f16 rfl rfl (by simp [Value.oneCell']) h66 hww65) ?_
    refine LE.p (v := (Value.bool false)) (Wn.no rfl) rfl (R.assign rfl) ?_
    refine LE.nil ?_
    refine WE.ret ?_
    obtain ⟨t67, t68, t69, t70, t71, t72, h73, h⟩ := h
    exact ⟨_, (Res.cell f16 (R.ldCellA ag33 sz33 rfl h73) (Res.tmp rfl Res.nil)), _, _, _, _, _, _, _, rfl, h⟩
/-- The formula of signpost.signpostref15.Same. -/
def F45 (p0_0 : Int) (p0_1 : Int) (p0_2 : Bool) (p0_3 : Int) (p0_4 : Int) (p0_5 : Nat) (p1_0 : Int) (p1_1 : Int) (p1_2 : Bool) (p1_3 : Int) (p1_4 : Int) (p1_5 : Nat) (K : Bool → World → Prop) (w0 : World) : Prop :=
M.new (.cells #[(Value.int .u32 p0_0), (Value.int .i64 p0_1), (Value.bool p0_2), (Value.int .i64 p0_3), (Value.int .u32 p0_4), (Value.float .f64 p0_5)] 33) w0 fun b2 w1 =>
M.new (.cells #[(Value.int .u32 p1_0), (Value.int .i64 p1_1), (Value.bool p1_2), (Value.int .i64 p1_3), (Value.int .u32 p1_4), (Value.float .f64 p1_5)] 33) w1 fun b4 w3 =>
M.join (fun (x6 : Bool) (w38 : World) => 
K x6 w38) fun J5 => 
M.ld (Value.int .u32) b2 w3 fun t7 =>
M.ld (Value.int .i64) (b2.add 1) w3 fun t9 =>
M.ld (Value.int .u32) b4 w3 fun t11 =>
M.ld (Value.int .i64) (b4.add 1) w3 fun t13 =>
M.ite ((t7 == t11) && (t9 == t13)) (
M.ld Value.bool (b2.add 2) w3 fun t16 =>
M.ld Value.bool (b4.add 2) w3 fun t18 =>
M.ite (t16 == t18) (
M.ld (Value.int .i64) (b2.add 3) w3 fun t21 =>
M.ld (Value.int .i64) (b4.add 3) w3 fun t23 =>
M.ite (t21 == t23) (
M.ld (Value.int .u32) (b2.add 4) w3 fun t26 =>
M.ld (Value.int .u32) (b4.add 4) w3 fun t28 =>
M.ite (t26 == t28) (
M.ld (Value.float .f64) (b2.add 5) w3 fun t31 =>
M.ld (Value.float .f64) (b4.add 5) w3 fun t33 =>
Calls Try.prog 58 #[(Value.float .f64 t31), (Value.float .f64 t33)] w3 (R58 fun r35 w36 =>
J5 r35 w36)) (
J5 false w3)) (
J5 false w3)) (
J5 false w3)) (
J5 false w3)
theorem F45_ok {w0 : World} {p0_0 : Int} {p0_1 : Int} {p0_2 : Bool} {p0_3 : Int} {p0_4 : Int} {p0_5 : Nat} {p1_0 : Int} {p1_1 : Int} {p1_2 : Bool} {p1_3 : Int} {p1_4 : Int} {p1_5 : Nat} {K : Bool → World → Prop} (h : F45 p0_0 p0_1 p0_2 p0_3 p0_4 p0_5 p1_0 p1_1 p1_2 p1_3 p1_4 p1_5 K w0) : Calls Try.prog 45 #[(Value.agg #[(Value.int .u32 p0_0), (Value.int .i64 p0_1), (Value.bool p0_2), (Value.int .i64 p0_3), (Value.int .u32 p0_4), (Value.float .f64 p0_5)]), (Value.agg #[(Value.int .u32 p1_0), (Value.int .i64 p1_1), (Value.bool p1_2), (Value.int .i64 p1_3), (Value.int .u32 p1_4), (Value.float .f64 p1_5)])] w0 (R45 K) := by
  refine calls_of_WE (args := [(Value.agg #[(Value.int .u32 p0_0), (Value.int .i64 p0_1), (Value.bool p0_2), (Value.int .i64 p0_3), (Value.int .u32 p0_4), (Value.float .f64 p0_5)]), (Value.agg #[(Value.int .u32 p1_0), (Value.int .i64 p1_1), (Value.bool p1_2), (Value.int .i64 p1_3), (Value.int .u32 p1_4), (Value.float .f64 p1_5)])]) (rs := [.tmp 4]) Try.func45 rfl (N := 38) rfl rfl rfl rfl ?_
  refine WE.seq ?_
  refine WE.reg ?_
  obtain ⟨b2, hpb2, w1, hww1, h⟩ := M.new_use h
  refine LE.r (v := (Value.pointer (some b2))) (Wn.no rfl) rfl (R.box (cs := #[(Value.int .u32 p0_0), (Value.int .i64 p0_1), (Value.bool p0_2), (Value.int .i64 p0_3), (Value.int .u32 p0_4), (Value.float .f64 p0_5)]) rfl rfl hpb2 hww1) ?_
  obtain ⟨b4, hpb4, w3, hww3, h⟩ := M.new_use h
  refine LE.r (v := (Value.pointer (some b4))) (Wn.no rfl) rfl (R.box (cs := #[(Value.int .u32 p1_0), (Value.int .i64 p1_1), (Value.bool p1_2), (Value.int .i64 p1_3), (Value.int .u32 p1_4), (Value.float .f64 p1_5)]) rfl rfl hpb4 hww3) ?_
  refine LE.p (v := (Value.bool false)) (Wn.no rfl) rfl (R.assign rfl) ?_
  refine LE.nil ?_
  refine WE.seq ?_
  obtain ⟨J5, hJ5, h⟩ := M.join_use h
  refine WE.regJ (fun e w => ∃ (x6 : Bool), J5 x6 w ∧ e 4 = (Value.bool x6)) ?_ ?_
  · clear hJ5
    refine LE.p (v := (Value.pointer (some b2))) (Wn.no rfl) rfl (R.fld (off := 0) fa33_0 rfl) ?_
    obtain ⟨t7, h8, h⟩ := h
    obtain ⟨t9, h10, h⟩ := h
    refine LE.r (v := (Value.agg #[(Value.int .u32 t7), (Value.int .i64 t9)])) (Wn.no rfl) rfl (R.ldA ag30 sz30 rfl rfl (Cs.cons h8 (Cs.cons h10 Cs.nil))) ?_
    refine LE.p (v := (Value.pointer (some b4))) (Wn.no rfl) rfl (R.fld (off := 0) fa33_0 rfl) ?_
    obtain ⟨t11, h12, h⟩ := h
    obtain ⟨t13, h14, h⟩ := h
    refine LE.r (v := (Value.agg #[(Value.int .u32 t11), (Value.int .i64 t13)])) (Wn.no rfl) rfl (R.ldA ag30 sz30 rfl rfl (Cs.cons h12 (Cs.cons h14 Cs.nil))) ?_
    refine LE.p (v := (Value.bool ((t7 == t11) && (t9 == t13)))) (Wn.no rfl) rfl (R.eqS (fun w => eq30 t7 t11 t9 t13 w) sg30 rfl rfl) ?_
    refine LE.p (v := (Value.bool ((t7 == t11) && (t9 == t13)))) (Wn.no rfl) rfl (R.move rfl) ?_
    rcases M.ite_use h with ⟨hb15, h⟩ | ⟨hb15, h⟩
    · refine LE.p (v := (Value.pointer (some (b2.add 2)))) (Wn.yes 5 10 true rfl rfl rfl (congrArg Value.bool hb15)) rfl (R.fld (off := 2) fa33_1 rfl) ?_
      obtain ⟨t16, h17, h⟩ := h
      refine LE.r (v := (Value.bool t16)) (Wn.yes 5 10 true rfl rfl rfl (congrArg Value.bool hb15)) rfl (R.ld sc4 rfl h17) ?_
      refine LE.p (v := (Value.pointer (some (b4.add 2)))) (Wn.yes 5 10 true rfl rfl rfl (congrArg Value.bool hb15)) rfl (R.fld (off := 2) fa33_1 rfl) ?_
      obtain ⟨t18, h19, h⟩ := h
      refine LE.r (v := (Value.bool t18)) (Wn.yes 5 10 true rfl rfl rfl (congrArg Value.bool hb15)) rfl (R.ld sc4 rfl h19) ?_
      refine LE.p (v := (Value.bool (t16 == t18))) (Wn.yes 5 10 true rfl rfl rfl (congrArg Value.bool hb15)) rfl (R.beql bo4 rfl rfl) ?_
      refine LE.p (v := (Value.bool (t16 == t18))) (Wn.no rfl) rfl (R.pickT (congrArg Value.bool hb15) rfl) ?_
      refine LE.p (v := (Value.bool (t16 == t18))) (Wn.no rfl) rfl (R.move rfl) ?_
      rcases M.ite_use h with ⟨hb20, h⟩ | ⟨hb20, h⟩
      · refine LE.p (v := (Value.pointer (some (b2.add 3)))) (Wn.yes 12 17 true rfl rfl rfl (congrArg Value.bool hb20)) rfl (R.fld (off := 3) fa33_2 rfl) ?_
        obtain ⟨t21, h22, h⟩ := h
        refine LE.r (v := (Value.int .i64 t21)) (Wn.yes 12 17 true rfl rfl rfl (congrArg Value.bool hb20)) rfl (R.ld sc3 rfl h22) ?_
        refine LE.p (v := (Value.pointer (some (b4.add 3)))) (Wn.yes 12 17 true rfl rfl rfl (congrArg Value.bool hb20)) rfl (R.fld (off := 3) fa33_2 rfl) ?_
        obtain ⟨t23, h24, h⟩ := h
        refine LE.r (v := (Value.int .i64 t23)) (Wn.yes 12 17 true rfl rfl rfl (congrArg Value.bool hb20)) rfl (R.ld sc3 rfl h24) ?_
        refine LE.p (v := (Value.bool (t21 == t23))) (Wn.yes 12 17 true rfl rfl rfl (congrArg Value.bool hb20)) rfl (R.eql rfl rfl) ?_
        refine LE.p (v := (Value.bool (t21 == t23))) (Wn.no rfl) rfl (R.pickT (congrArg Value.bool hb20) rfl) ?_
        refine LE.p (v := (Value.bool (t21 == t23))) (Wn.no rfl) rfl (R.move rfl) ?_
        rcases M.ite_use h with ⟨hb25, h⟩ | ⟨hb25, h⟩
        · refine LE.p (v := (Value.pointer (some (b2.add 4)))) (Wn.yes 19 24 true rfl rfl rfl (congrArg Value.bool hb25)) rfl (R.fld (off := 4) fa33_3 rfl) ?_
          obtain ⟨t26, h27, h⟩ := h
          refine LE.r (v := (Value.int .u32 t26)) (Wn.yes 19 24 true rfl rfl rfl (congrArg Value.bool hb25)) rfl (R.ld sc23 rfl h27) ?_
          refine LE.p (v := (Value.pointer (some (b4.add 4)))) (Wn.yes 19 24 true rfl rfl rfl (congrArg Value.bool hb25)) rfl (R.fld (off := 4) fa33_3 rfl) ?_
          obtain ⟨t28, h29, h⟩ := h
          refine LE.r (v := (Value.int .u32 t28)) (Wn.yes 19 24 true rfl rfl rfl (congrArg Value.bool hb25)) rfl (R.ld sc23 rfl h29) ?_
          refine LE.p (v := (Value.bool (t26 == t28))) (Wn.yes 19 24 true rfl rfl rfl (congrArg Value.bool hb25)) rfl (R.eql rfl rfl) ?_
          refine LE.p (v := (Value.bool (t26 == t28))) (Wn.no rfl) rfl (R.pickT (congrArg Value.bool hb25) rfl) ?_
          refine LE.p (v := (Value.bool (t26 == t28))) (Wn.no rfl) rfl (R.move rfl) ?_
          rcases M.ite_use h with ⟨hb30, h⟩ | ⟨hb30, h⟩
          · refine LE.p (v := (Value.pointer (some (b2.add 5)))) (Wn.yes 26 31 true rfl rfl rfl (congrArg Value.bool hb30)) rfl (R.fld (off := 5) fa33_4 rfl) ?_
            obtain ⟨t31, h32, h⟩ := h
            refine LE.r (v := (Value.float .f64 t31)) (Wn.yes 26 31 true rfl rfl rfl (congrArg Value.bool hb30)) rfl (R.ld sc31 rfl h32) ?_
            refine LE.p (v := (Value.pointer (some (b4.add 5)))) (Wn.yes 26 31 true rfl rfl rfl (congrArg Value.bool hb30)) rfl (R.fld (off := 5) fa33_4 rfl) ?_
            obtain ⟨t33, h34, h⟩ := h
            refine LE.r (v := (Value.float .f64 t33)) (Wn.yes 26 31 true rfl rfl rfl (congrArg Value.bool hb30)) rfl (R.ld sc31 rfl h34) ?_
            refine LE.c (Wn.yes 26 31 true rfl rfl rfl (congrArg Value.bool hb30)) rfl (R.call bd58 (Ls.cons rfl (Ls.cons rfl Ls.nil)) rfl) (Calls.mono h ?_)
            rintro _ w36 ⟨r35, rfl, h⟩
            refine ⟨_, rfl, ?_⟩
            refine LE.p (v := (Value.bool r35)) (Wn.no rfl) rfl (R.pickT (congrArg Value.bool hb30) rfl) ?_
            refine LE.p (v := (Value.bool r35)) (Wn.no rfl) rfl (R.assign rfl) ?_
            refine LE.nil ?_
            exact ⟨_, h, rfl⟩
          · refine LE.u (Un.no 26 31 true rfl rfl rfl (congrArg Value.bool hb30)) ?_
            refine LE.u (Un.no 26 31 true rfl rfl rfl (congrArg Value.bool hb30)) ?_
            refine LE.u (Un.no 26 31 true rfl rfl rfl (congrArg Value.bool hb30)) ?_
            refine LE.u (Un.no 26 31 true rfl rfl rfl (congrArg Value.bool hb30)) ?_
            refine LE.u (Un.no 26 31 true rfl rfl rfl (congrArg Value.bool hb30)) ?_
            refine LE.p (v := (Value.bool false)) (Wn.no rfl) rfl (R.pickF (congrArg Value.bool hb30) rfl) ?_
            refine LE.p (v := (Value.bool false)) (Wn.no rfl) rfl (R.assign rfl) ?_
            refine LE.nil ?_
            exact ⟨_, h, rfl⟩
        · refine LE.u (Un.no 19 24 true rfl rfl rfl (congrArg Value.bool hb25)) ?_
          refine LE.u (Un.no 19 24 true rfl rfl rfl (congrArg Value.bool hb25)) ?_
          refine LE.u (Un.no 19 24 true rfl rfl rfl (congrArg Value.bool hb25)) ?_
          refine LE.u (Un.no 19 24 true rfl rfl rfl (congrArg Value.bool hb25)) ?_
          refine LE.u (Un.no 19 24 true rfl rfl rfl (congrArg Value.bool hb25)) ?_
          refine LE.p (v := (Value.bool false)) (Wn.no rfl) rfl (R.pickF (congrArg Value.bool hb25) rfl) ?_
          refine LE.p (v := (Value.bool false)) (Wn.no rfl) rfl (R.move rfl) ?_
          refine LE.u (Un.no 26 31 true rfl rfl rfl rfl) ?_
          refine LE.u (Un.no 26 31 true rfl rfl rfl rfl) ?_
          refine LE.u (Un.no 26 31 true rfl rfl rfl rfl) ?_
          refine LE.u (Un.no 26 31 true rfl rfl rfl rfl) ?_
          refine LE.u (Un.no 26 31 true rfl rfl rfl rfl) ?_
          refine LE.p (v := (Value.bool false)) (Wn.no rfl) rfl (R.pickF rfl rfl) ?_
          refine LE.p (v := (Value.bool false)) (Wn.no rfl) rfl (R.assign rfl) ?_
          refine LE.nil ?_
          exact ⟨_, h, rfl⟩
      · refine LE.u (Un.no 12 17 true rfl rfl rfl (congrArg Value.bool hb20)) ?_
        refine LE.u (Un.no 12 17 true rfl rfl rfl (congrArg Value.bool hb20)) ?_
        refine LE.u (Un.no 12 17 true rfl rfl rfl (congrArg Value.bool hb20)) ?_
        refine LE.u (Un.no 12 17 true rfl rfl rfl (congrArg Value.bool hb20)) ?_
        refine LE.u (Un.no 12 17 true rfl rfl rfl (congrArg Value.bool hb20)) ?_
        refine LE.p (v := (Value.bool false)) (Wn.no rfl) rfl (R.pickF (congrArg Value.bool hb20) rfl) ?_
        refine LE.p (v := (Value.bool false)) (Wn.no rfl) rfl (R.move rfl) ?_
        refine LE.u (Un.no 19 24 true rfl rfl rfl rfl) ?_
        refine LE.u (Un.no 19 24 true rfl rfl rfl rfl) ?_
        refine LE.u (Un.no 19 24 true rfl rfl rfl rfl) ?_
        refine LE.u (Un.no 19 24 true rfl rfl rfl rfl) ?_
        refine LE.u (Un.no 19 24 true rfl rfl rfl rfl) ?_
        refine LE.p (v := (Value.bool false)) (Wn.no rfl) rfl (R.pickF rfl rfl) ?_
        refine LE.p (v := (Value.bool false)) (Wn.no rfl) rfl (R.move rfl) ?_
        refine LE.u (Un.no 26 31 true rfl rfl rfl rfl) ?_
        refine LE.u (Un.no 26 31 true rfl rfl rfl rfl) ?_
        refine LE.u (Un.no 26 31 true rfl rfl rfl rfl) ?_
        refine LE.u (Un.no 26 31 true rfl rfl rfl rfl) ?_
        refine LE.u (Un.no 26 31 true rfl rfl rfl rfl) ?_
        refine LE.p (v := (Value.bool false)) (Wn.no rfl) rfl (R.pickF rfl rfl) ?_
        refine LE.p (v := (Value.bool false)) (Wn.no rfl) rfl (R.assign rfl) ?_
        refine LE.nil ?_
        exact ⟨_, h, rfl⟩
    · refine LE.u (Un.no 5 10 true rfl rfl rfl (congrArg Value.bool hb15)) ?_
      refine LE.u (Un.no 5 10 true rfl rfl rfl (congrArg Value.bool hb15)) ?_
      refine LE.u (Un.no 5 10 true rfl rfl rfl (congrArg Value.bool hb15)) ?_
      refine LE.u (Un.no 5 10 true rfl rfl rfl (congrArg Value.bool hb15)) ?_
      refine LE.u (Un.no 5 10 true rfl rfl rfl (congrArg Value.bool hb15)) ?_
      refine LE.p (v := (Value.bool false)) (Wn.no rfl) rfl (R.pickF (congrArg Value.bool hb15) rfl) ?_
      refine LE.p (v := (Value.bool false)) (Wn.no rfl) rfl (R.move rfl) ?_
      refine LE.u (Un.no 12 17 true rfl rfl rfl rfl) ?_
      refine LE.u (Un.no 12 17 true rfl rfl rfl rfl) ?_
      refine LE.u (Un.no 12 17 true rfl rfl rfl rfl) ?_
      refine LE.u (Un.no 12 17 true rfl rfl rfl rfl) ?_
      refine LE.u (Un.no 12 17 true rfl rfl rfl rfl) ?_
      refine LE.p (v := (Value.bool false)) (Wn.no rfl) rfl (R.pickF rfl rfl) ?_
      refine LE.p (v := (Value.bool false)) (Wn.no rfl) rfl (R.move rfl) ?_
      refine LE.u (Un.no 19 24 true rfl rfl rfl rfl) ?_
      refine LE.u (Un.no 19 24 true rfl rfl rfl rfl) ?_
      refine LE.u (Un.no 19 24 true rfl rfl rfl rfl) ?_
      refine LE.u (Un.no 19 24 true rfl rfl rfl rfl) ?_
      refine LE.u (Un.no 19 24 true rfl rfl rfl rfl) ?_
      refine LE.p (v := (Value.bool false)) (Wn.no rfl) rfl (R.pickF rfl rfl) ?_
      refine LE.p (v := (Value.bool false)) (Wn.no rfl) rfl (R.move rfl) ?_
      refine LE.u (Un.no 26 31 true rfl rfl rfl rfl) ?_
      refine LE.u (Un.no 26 31 true rfl rfl rfl rfl) ?_
      refine LE.u (Un.no 26 31 true rfl rfl rfl rfl) ?_
      refine LE.u (Un.no 26 31 true rfl rfl rfl rfl) ?_
      refine LE.u (Un.no 26 31 true rfl rfl rfl rfl) ?_
      refine LE.p (v := (Value.bool false)) (Wn.no rfl) rfl (R.pickF rfl rfl) ?_
      refine LE.p (v := (Value.bool false)) (Wn.no rfl) rfl (R.assign rfl) ?_
      refine LE.nil ?_
      exact ⟨_, h, rfl⟩
  · rintro e37 w38 ⟨x6, h, f39⟩
    subst hJ5
    refine WE.ret ?_
    exact ⟨_, (Res.tmp f39 Res.nil), _, rfl, h⟩
/-- The formula of signpost.addr.Right. -/
def F47 (p0_0 : Int) (p0_1 : Int) (K : Bool → World → Prop) (w0 : World) : Prop :=
M.new (.cells #[(Value.int .u32 p0_0), (Value.int .i64 p0_1)] 30) w0 fun b2 w1 =>
M.join (fun (x4 : Bool) (w20 : World) => 
K x4 w20) fun J3 => 
M.drew w1 fun w5 => 
M.ld (Value.int .i64) (b2.add 1) w5 fun t6 =>
M.ite (decide ((0 : Int) ≤ t6)) (
M.ld (Value.int .i64) (b2.add 1) w5 fun t9 =>
M.ite (decide (t9 ≤ (32 : Int))) (
M.ld (Value.int .u32) b2 w5 fun t12 =>
M.ld (Value.int .i64) (b2.add 1) w5 fun t14 =>
Calls Try.prog 59 #[(Value.int .i64 t14)] w5 (R59 fun r16 w17 =>
M.keep (w17.cell? b2 = some (Value.int .u32 t12)) <|
J3 ((bAndNot .u32 t12 r16) == (0 : Int)) w17)) (
J3 false w5)) (
J3 false w5)
theorem F47_ok {w0 : World} {p0_0 : Int} {p0_1 : Int} {K : Bool → World → Prop} (h : F47 p0_0 p0_1 K w0) : Calls Try.prog 47 #[(Value.agg #[(Value.int .u32 p0_0), (Value.int .i64 p0_1)])] w0 (R47 K) := by
  refine calls_of_WE (args := [(Value.agg #[(Value.int .u32 p0_0), (Value.int .i64 p0_1)])]) (rs := [.tmp 2]) Try.func47 rfl (N := 20) rfl rfl rfl rfl ?_
  refine WE.seq ?_
  refine WE.reg ?_
  obtain ⟨b2, hpb2, w1, hww1, h⟩ := M.new_use h
  refine LE.r (v := (Value.pointer (some b2))) (Wn.no rfl) rfl (R.box (cs := #[(Value.int .u32 p0_0), (Value.int .i64 p0_1)]) rfl rfl hpb2 hww1) ?_
  refine LE.p (v := (Value.bool false)) (Wn.no rfl) rfl (R.assign rfl) ?_
  refine LE.nil ?_
  refine WE.seq ?_
  obtain ⟨J3, hJ3, h⟩ := M.join_use h
  refine WE.drawJ (fun e w => ∃ (x4 : Bool), J3 x4 w ∧ e 2 = (Value.bool x4)) mix ?_ ?_
  · clear hJ3
    obtain ⟨w5, hww5, h⟩ := M.drew_use h
    rw [← hww5]
    clear hww5
    refine DE.t 0 (v := (Value.pointer (some (b2.add 1)))) rfl (by kernel_rfl) (Wn.no rfl) rfl (R.fld (off := 1) fa30_1 rfl) ?_
    obtain ⟨t6, h7, h⟩ := h
    refine DE.main 1 (by kernel_rfl) ?_
    refine One.r 1 (v := (Value.int .i64 t6)) rfl (Wn.no rfl) rfl (R.ld sc3 rfl h7) (.inl rfl) ?_
    refine DE.t 2 (v := (Value.bool (decide ((0 : Int) ≤ t6)))) rfl (by kernel_rfl) (Wn.no rfl) rfl (R.geq rfl rfl) ?_
    refine DE.t 3 (v := (Value.bool (decide ((0 : Int) ≤ t6)))) rfl (by kernel_rfl) (Wn.no rfl) rfl (R.move rfl) ?_
    rcases M.ite_use h with ⟨hb8, h⟩ | ⟨hb8, h⟩
    · refine DE.t 4 (v := (Value.pointer (some (b2.add 1)))) rfl (by kernel_rfl) (Wn.yes 3 6 true rfl rfl rfl (congrArg Value.bool hb8)) rfl (R.fld (off := 1) fa30_1 rfl) ?_
      obtain ⟨t9, h10, h⟩ := h
      refine DE.main 5 (by kernel_rfl) ?_
      refine One.r 5 (v := (Value.int .i64 t9)) rfl (Wn.yes 3 6 true rfl rfl rfl (congrArg Value.bool hb8)) rfl (R.ld sc3 rfl h10) (.inl rfl) ?_
      refine DE.t 6 (v := (Value.bool (decide (t9 ≤ (32 : Int))))) rfl (by kernel_rfl) (Wn.yes 3 6 true rfl rfl rfl (congrArg Value.bool hb8)) rfl (R.leq rfl rfl) ?_
      refine DE.t 7 (v := (Value.bool (decide (t9 ≤ (32 : Int))))) rfl (by kernel_rfl) (Wn.no rfl) rfl (R.pickT (congrArg Value.bool hb8) rfl) ?_
      refine DE.t 8 (v := (Value.bool (decide (t9 ≤ (32 : Int))))) rfl (by kernel_rfl) (Wn.no rfl) rfl (R.move rfl) ?_
      rcases M.ite_use h with ⟨hb11, h⟩ | ⟨hb11, h⟩
      · refine DE.t 9 (v := (Value.pointer (some b2))) rfl (by kernel_rfl) (Wn.yes 8 11 true rfl rfl rfl (congrArg Value.bool hb11)) rfl (R.fld (off := 0) fa30_0 rfl) ?_
        refine DE.t 11 (v := (Value.pointer (some (b2.add 1)))) rfl (by kernel_rfl) (Wn.yes 8 11 true rfl rfl rfl (congrArg Value.bool hb11)) rfl (R.fld (off := 1) fa30_1 rfl) ?_
        obtain ⟨t12, h13, h⟩ := h
        refine DE.hold 10 (fun w => w.cell? b2 = some (Value.int .u32 t12)) (v := (Value.int .u32 t12)) rfl (by kernel_rfl) (Wn.yes 8 11 true rfl rfl rfl (congrArg Value.bool hb11)) rfl h13 (fun w hs => R.ld sc23 rfl hs) ?_
        obtain ⟨t14, h15, h⟩ := h
        refine DE.main 12 (by kernel_rfl) ?_
        refine One.r 12 (v := (Value.int .i64 t14)) rfl (Wn.yes 8 11 true rfl rfl rfl (congrArg Value.bool hb11)) rfl (R.ld sc3 rfl h15) (.inl rfl) ?_
        refine DE.main 13 (by kernel_rfl) ?_
        refine One.c 13 rfl (Wn.yes 8 11 true rfl rfl rfl (congrArg Value.bool hb11)) rfl (R.call bd59 (Ls.cons rfl Ls.nil) rfl) (Calls.mono h ?_)
        rintro _ w17 ⟨r16, rfl, h⟩
        obtain ⟨k18, h⟩ := h
        refine ⟨_, rfl, ⟨fun _ => k18, trivial⟩, ?_⟩
        refine DE.t 14 (v := (Value.int .u32 (bAndNot .u32 t12 r16))) rfl (by kernel_rfl) (Wn.yes 8 11 true rfl rfl rfl (congrArg Value.bool hb11)) rfl (R.andNot rfl rfl) ?_
        refine DE.t 15 (v := (Value.bool ((bAndNot .u32 t12 r16) == (0 : Int)))) rfl (by kernel_rfl) (Wn.yes 8 11 true rfl rfl rfl (congrArg Value.bool hb11)) rfl (R.eql rfl rfl) ?_
        refine DE.t 16 (v := (Value.bool ((bAndNot .u32 t12 r16) == (0 : Int)))) rfl (by kernel_rfl) (Wn.no rfl) rfl (R.pickT (congrArg Value.bool hb11) rfl) ?_
        refine DE.t 17 (v := (Value.bool ((bAndNot .u32 t12 r16) == (0 : Int)))) rfl (by kernel_rfl) (Wn.no rfl) rfl (R.assign rfl) ?_
        refine DE.done (by kernel_rfl) ?_
        exact ⟨_, h, rfl⟩
      · refine DE.u 9 rfl (by kernel_rfl) (Un.no 8 11 true rfl rfl rfl (congrArg Value.bool hb11)) ?_
        refine DE.u 10 rfl (by kernel_rfl) (Un.no 8 11 true rfl rfl rfl (congrArg Value.bool hb11)) ?_
        refine DE.u 11 rfl (by kernel_rfl) (Un.no 8 11 true rfl rfl rfl (congrArg Value.bool hb11)) ?_
        refine DE.u 12 rfl (by kernel_rfl) (Un.no 8 11 true rfl rfl rfl (congrArg Value.bool hb11)) ?_
        refine DE.u 13 rfl (by kernel_rfl) (Un.no 8 11 true rfl rfl rfl (congrArg Value.bool hb11)) ?_
        refine DE.u 14 rfl (by kernel_rfl) (Un.no 8 11 true rfl rfl rfl (congrArg Value.bool hb11)) ?_
        refine DE.u 15 rfl (by kernel_rfl) (Un.no 8 11 true rfl rfl rfl (congrArg Value.bool hb11)) ?_
        refine DE.t 16 (v := (Value.bool false)) rfl (by kernel_rfl) (Wn.no rfl) rfl (R.pickF (congrArg Value.bool hb11) rfl) ?_
        refine DE.t 17 (v := (Value.bool false)) rfl (by kernel_rfl) (Wn.no rfl) rfl (R.assign rfl) ?_
        refine DE.done (by kernel_rfl) ?_
        exact ⟨_, h, rfl⟩
    · refine DE.u 4 rfl (by kernel_rfl) (Un.no 3 6 true rfl rfl rfl (congrArg Value.bool hb8)) ?_
      refine DE.u 5 rfl (by kernel_rfl) (Un.no 3 6 true rfl rfl rfl (congrArg Value.bool hb8)) ?_
      refine DE.u 6 rfl (by kernel_rfl) (Un.no 3 6 true rfl rfl rfl (congrArg Value.bool hb8)) ?_
      refine DE.t 7 (v := (Value.bool false)) rfl (by kernel_rfl) (Wn.no rfl) rfl (R.pickF (congrArg Value.bool hb8) rfl) ?_
      refine DE.t 8 (v := (Value.bool false)) rfl (by kernel_rfl) (Wn.no rfl) rfl (R.move rfl) ?_
      refine DE.u 9 rfl (by kernel_rfl) (Un.no 8 11 true rfl rfl rfl rfl) ?_
      refine DE.u 10 rfl (by kernel_rfl) (Un.no 8 11 true rfl rfl rfl rfl) ?_
      refine DE.u 11 rfl (by kernel_rfl) (Un.no 8 11 true rfl rfl rfl rfl) ?_
      refine DE.u 12 rfl (by kernel_rfl) (Un.no 8 11 true rfl rfl rfl rfl) ?_
      refine DE.u 13 rfl (by kernel_rfl) (Un.no 8 11 true rfl rfl rfl rfl) ?_
      refine DE.u 14 rfl (by kernel_rfl) (Un.no 8 11 true rfl rfl rfl rfl) ?_
      refine DE.u 15 rfl (by kernel_rfl) (Un.no 8 11 true rfl rfl rfl rfl) ?_
      refine DE.t 16 (v := (Value.bool false)) rfl (by kernel_rfl) (Wn.no rfl) rfl (R.pickF rfl rfl) ?_
      refine DE.t 17 (v := (Value.bool false)) rfl (by kernel_rfl) (Wn.no rfl) rfl (R.assign rfl) ?_
      refine DE.done (by kernel_rfl) ?_
      exact ⟨_, h, rfl⟩
  · rintro e19 w20 ⟨x4, h, f21⟩
    subst hJ3
    refine WE.ret ?_
    exact ⟨_, (Res.tmp f21 Res.nil), _, rfl, h⟩
/-- The formula of signpost.metric.Right. -/
def F48 (p0 : Nat) (K : Bool → World → Prop) (w0 : World) : Prop :=
K (fGeq p0 (0 : Nat)) w0
theorem F48_ok {w0 : World} {p0 : Nat} {K : Bool → World → Prop} (h : F48 p0 K w0) : Calls Try.prog 48 #[(Value.float .f64 p0)] w0 (R48 K) := by
  refine calls_of_WE (args := [(Value.float .f64 p0)]) (rs := [.tmp 2]) Try.func48 rfl (N := 5) rfl rfl rfl rfl ?_
  refine WE.seq ?_
  refine WE.reg ?_
  refine LE.p (v := (Value.bool false)) (Wn.no rfl) rfl (R.assign rfl) ?_
  refine LE.nil ?_
  refine WE.seq ?_
  refine WE.reg ?_
  refine LE.p (v := (Value.float .f64 p0)) (Wn.no rfl) rfl (R.move rfl) ?_
  refine LE.p (v := (Value.bool (fGeq p0 (0 : Nat)))) (Wn.no rfl) rfl (R.fgeq rfl rfl) ?_
  refine LE.p (v := (Value.bool (fGeq p0 (0 : Nat)))) (Wn.no rfl) rfl (R.assign rfl) ?_
  refine LE.nil ?_
  refine WE.ret ?_
  exact ⟨_, (Res.tmp rfl Res.nil), _, rfl, h⟩
/-- The formula of signpost.trie.bit. -/
def F49 (p0 : Int) (p1 : Int) (K : Int → World → Prop) (w0 : World) : Prop :=
M.sh (IntKind.i64.wrap ((31 : Int) - p1)) <|
K (IntKind.i64.wrap (bAnd .u32 (bShr .u32 p0 (IntKind.i64.wrap ((31 : Int) - p1))) (1 : Int))) w0
theorem F49_ok {w0 : World} {p0 : Int} {p1 : Int} {K : Int → World → Prop} (h : F49 p0 p1 K w0) : Calls Try.prog 49 #[(Value.int .u32 p0), (Value.int .i64 p1)] w0 (R49 K) := by
  refine calls_of_WE (args := [(Value.int .u32 p0), (Value.int .i64 p1)]) (rs := [.tmp 4]) Try.func49 rfl (N := 11) rfl rfl rfl rfl ?_
  refine WE.seq ?_
  refine WE.reg ?_
  refine LE.p (v := (Value.int .i64 (0 : Int))) (Wn.no rfl) rfl (R.assign rfl) ?_
  refine LE.nil ?_
  refine WE.seq ?_
  refine WE.reg ?_
  refine LE.p (v := (Value.int .u32 p0)) (Wn.no rfl) rfl (R.move rfl) ?_
  refine LE.p (v := (Value.int .i64 p1)) (Wn.no rfl) rfl (R.move rfl) ?_
  refine LE.p (v := (Value.int .i64 (IntKind.i64.wrap ((31 : Int) - p1)))) (Wn.no rfl) rfl (R.sub rfl rfl) ?_
  obtain ⟨h1, h⟩ := h
  refine LE.p (v := (Value.int .u32 (bShr .u32 p0 (IntKind.i64.wrap ((31 : Int) - p1))))) (Wn.no rfl) rfl (R.shr rfl rfl h1) ?_
  refine LE.p (v := (Value.int .u32 (bAnd .u32 (bShr .u32 p0 (IntKind.i64.wrap ((31 : Int) - p1))) (1 : Int)))) (Wn.no rfl) rfl (R.and rfl rfl) ?_
  refine LE.p (v := (Value.int .i64 (IntKind.i64.wrap (bAnd .u32 (bShr .u32 p0 (IntKind.i64.wrap ((31 : Int) - p1))) (1 : Int))))) (Wn.no rfl) rfl (R.conv in3 in23 rfl) ?_
  refine LE.p (v := (Value.int .i64 (IntKind.i64.wrap (bAnd .u32 (bShr .u32 p0 (IntKind.i64.wrap ((31 : Int) - p1))) (1 : Int))))) (Wn.no rfl) rfl (R.assign rfl) ?_
  refine LE.nil ?_
  refine WE.ret ?_
  exact ⟨_, (Res.tmp rfl Res.nil), _, rfl, h⟩
/-- The formula of (*signpost.trie.Trie).Get. -/
def F50 (p0 : Option Addr) (p1_0 : Int) (p1_1 : Int) (K : Int → Bool → World → Prop) (w0 : World) : Prop :=
M.new (.cells #[(Value.int .u32 p1_0), (Value.int .i64 p1_1)] 30) w0 fun b2 w1 =>
M.ld (Value.int .u32) b2 w1 fun t3 =>
M.ld (Value.int .i64) (b2.add 1) w1 fun t5 =>
Calls Try.prog 47 #[(Value.agg #[(Value.int .u32 t3), (Value.int .i64 t5)])] w1 (R47 fun r7 w8 =>
M.ite (!r7) (
K (0 : Int) false w8) (
M.ld (Value.int .u32) b2 w8 fun t10 =>
M.ld (Value.int .i64) (b2.add 1) w8 fun t12 =>
Calls Try.prog 60 #[(Value.pointer p0), (Value.agg #[(Value.int .u32 t10), (Value.int .i64 t12)])] w8 (R60 fun r14 w15 =>
M.join (fun (x17 : Bool) (w24 : World) => 
M.ite x17 (
K (0 : Int) false w24) (
M.nil r14 fun a28 =>
M.ld (Value.int .i64) (a28.add 3) w24 fun t30 =>
K t30 true w24)) fun J16 => 
M.ite (Option.isNone r14) (
J16 true w15) (
M.nil r14 fun a19 =>
M.ld Value.bool (a19.add 2) w15 fun t21 =>
J16 (!t21) w15))))
theorem F50_ok {w0 : World} {p0 : Option Addr} {p1_0 : Int} {p1_1 : Int} {K : Int → Bool → World → Prop} (h : F50 p0 p1_0 p1_1 K w0) : Calls Try.prog 50 #[(Value.pointer p0), (Value.agg #[(Value.int .u32 p1_0), (Value.int .i64 p1_1)])] w0 (R50 K) := by
  refine calls_of_WE (args := [(Value.pointer p0), (Value.agg #[(Value.int .u32 p1_0), (Value.int .i64 p1_1)])]) (rs := [.tmp 4, .tmp 5]) Try.func50 rfl (N := 26) rfl rfl rfl rfl ?_
  refine WE.seq ?_
  refine WE.reg ?_
  obtain ⟨b2, hpb2, w1, hww1, h⟩ := M.new_use h
  refine LE.r (v := (Value.pointer (some b2))) (Wn.no rfl) rfl (R.box (cs := #[(Value.int .u32 p1_0), (Value.int .i64 p1_1)]) rfl rfl hpb2 hww1) ?_
  refine LE.p (v := (Value.int .i64 (0 : Int))) (Wn.no rfl) rfl (R.assign rfl) ?_
  refine LE.p (v := (Value.bool false)) (Wn.no rfl) rfl (R.assign rfl) ?_
  refine LE.nil ?_
  refine WE.seq ?_
  refine WE.seq ?_
  refine WE.reg ?_
  obtain ⟨t3, h4, h⟩ := h
  obtain ⟨t5, h6, h⟩ := h
  refine LE.r (v := (Value.agg #[(Value.int .u32 t3), (Value.int .i64 t5)])) (Wn.no rfl) rfl (R.ldA ag30 sz30 rfl rfl (Cs.cons h4 (Cs.cons h6 Cs.nil))) ?_
  refine LE.c (Wn.no rfl) rfl (R.call bd47 (Ls.cons rfl Ls.nil) rfl) (Calls.mono h ?_)
  rintro _ w8 ⟨r7, rfl, h⟩
  refine ⟨_, rfl, ?_⟩
  refine LE.p (v := (Value.bool (!r7))) (Wn.no rfl) rfl (R.not rfl) ?_
  refine LE.nil ?_
  refine WE.condT rfl (b := (!r7)) rfl ?_ ?_
  · intro hb9
    replace h := M.ite_t h hb9
    refine WE.seq ?_
    refine WE.reg ?_
    refine LE.p (v := (Value.int .i64 (0 : Int))) (Wn.no rfl) rfl (R.assign rfl) ?_
    refine LE.p (v := (Value.bool false)) (Wn.no rfl) rfl (R.assign rfl) ?_
    refine LE.nil ?_
    refine WE.ret ?_
    exact ⟨_, (Res.tmp rfl (Res.tmp rfl Res.nil)), _, _, rfl, h⟩
  · intro hb9
    replace h := M.ite_f h hb9
    refine WE.skip ?_
    refine WE.seq ?_
    refine WE.reg ?_
    refine LE.p (v := (Value.pointer p0)) (Wn.no rfl) rfl (R.move rfl) ?_
    obtain ⟨t10, h11, h⟩ := h
    obtain ⟨t12, h13, h⟩ := h
    refine LE.r (v := (Value.agg #[(Value.int .u32 t10), (Value.int .i64 t12)])) (Wn.no rfl) rfl (R.ldA ag30 sz30 rfl rfl (Cs.cons h11 (Cs.cons h13 Cs.nil))) ?_
    refine LE.c (Wn.no rfl) rfl (R.call bd60 (Ls.cons rfl (Ls.cons rfl Ls.nil)) rfl) (Calls.mono h ?_)
    rintro _ w15 ⟨r14, rfl, h⟩
    refine ⟨_, rfl, ?_⟩
    refine LE.p (v := (Value.pointer r14)) (Wn.no rfl) rfl (R.assign rfl) ?_
    refine LE.nil ?_
    refine WE.seq ?_
    refine WE.seq ?_
    obtain ⟨J16, hJ16, h⟩ := M.join_use h
    refine WE.regJ (fun e w => ∃ (x17 : Bool), J16 x17 w ∧ e 6 = (Value.pointer r14) ∧ e 21 = (Value.bool x17)) ?_ ?_
    · clear hJ16
      refine LE.p (v := (Value.pointer r14)) (Wn.no rfl) rfl (R.move rfl) ?_
      refine LE.p (v := (Value.bool (Option.isNone r14))) (Wn.no rfl) rfl (R.peqNil pt83 rfl rfl) ?_
      refine LE.p (v := (Value.bool (Option.isNone r14))) (Wn.no rfl) rfl (R.move rfl) ?_
      rcases M.ite_use h with ⟨hb18, h⟩ | ⟨hb18, h⟩
      · refine LE.u (Un.no 2 15 false rfl rfl rfl (congrArg Value.bool hb18)) ?_
        refine LE.u (Un.no 2 15 false rfl rfl rfl (congrArg Value.bool hb18)) ?_
        refine LE.u (Un.no 2 15 false rfl rfl rfl (congrArg Value.bool hb18)) ?_
        refine LE.u (Un.no 2 15 false rfl rfl rfl (congrArg Value.bool hb18)) ?_
        refine LE.u (Un.no 2 15 false rfl rfl rfl (congrArg Value.bool hb18)) ?_
        refine LE.p (v := (Value.bool true)) (Wn.no rfl) rfl (R.pickT (congrArg Value.bool hb18) rfl) ?_
        refine LE.nil ?_
        exact ⟨_, h, rfl, rfl⟩
      · refine LE.p (v := (Value.pointer r14)) (Wn.yes 2 15 false rfl rfl rfl (congrArg Value.bool hb18)) rfl (R.move rfl) ?_
        obtain ⟨a19, h20, h⟩ := h
        refine LE.p (v := (Value.pointer (some a19))) (Wn.yes 2 15 false rfl rfl rfl (congrArg Value.bool hb18)) rfl (R.nilC (congrArg Value.pointer h20)) ?_
        refine LE.p (v := (Value.pointer (some (a19.add 2)))) (Wn.yes 2 15 false rfl rfl rfl (congrArg Value.bool hb18)) rfl (R.fld (off := 2) fa86_1 rfl) ?_
        obtain ⟨t21, h22, h⟩ := h
        refine LE.r (v := (Value.bool t21)) (Wn.yes 2 15 false rfl rfl rfl (congrArg Value.bool hb18)) rfl (R.ld sc4 rfl h22) ?_
        refine LE.p (v := (Value.bool (!t21))) (Wn.yes 2 15 false rfl rfl rfl (congrArg Value.bool hb18)) rfl (R.not rfl) ?_
        refine LE.p (v := (Value.bool (!t21))) (Wn.no rfl) rfl (R.pickF (congrArg Value.bool hb18) rfl) ?_
        refine LE.nil ?_
        exact ⟨_, h, rfl, rfl⟩
    · rintro e23 w24 ⟨x17, h, f25, f26⟩
      subst hJ16
      refine WE.condT rfl (b := x17) f26 ?_ ?_
      · intro hb27
        replace h := M.ite_t h hb27
        refine WE.seq ?_
        refine WE.reg ?_
        refine LE.p (v := (Value.int .i64 (0 : Int))) (Wn.no rfl) rfl (R.assign rfl) ?_
        refine LE.p (v := (Value.bool false)) (Wn.no rfl) rfl (R.assign rfl) ?_
        refine LE.nil ?_
        refine WE.ret ?_
        exact ⟨_, (Res.tmp rfl (Res.tmp rfl Res.nil)), _, _, rfl, h⟩
      · intro hb27
        replace h := M.ite_f h hb27
        refine WE.skip ?_
        refine WE.seq ?_
        refine WE.reg ?_
        refine LE.p (v := (Value.pointer r14)) (Wn.no rfl) rfl (R.move f25) ?_
        obtain ⟨a28, h29, h⟩ := h
        refine LE.p (v := (Value.pointer (some a28))) (Wn.no rfl) rfl (R.nilC (congrArg Value.pointer h29)) ?_
        refine LE.p (v := (Value.pointer (some (a28.add 3)))) (Wn.no rfl) rfl (R.fld (off := 3) fa86_2 rfl) ?_
        obtain ⟨t30, h31, h⟩ := h
        refine LE.r (v := (Value.int .i64 t30)) (Wn.no rfl) rfl (R.ld sc3 rfl h31) ?_
        refine LE.p (v := (Value.int .i64 t30)) (Wn.no rfl) rfl (R.assign rfl) ?_
        refine LE.p (v := (Value.bool true)) (Wn.no rfl) rfl (R.assign rfl) ?_
        refine LE.nil ?_
        refine WE.ret ?_
        exact ⟨_, (Res.tmp rfl (Res.tmp rfl Res.nil)), _, _, rfl, h⟩
/-- The formula of (*signpost.trie.node).empty. -/
def F51 (p0 : Option Addr) (K : Bool → World → Prop) (w0 : World) : Prop :=
M.join (fun (x2 : Bool) (w22 : World) => 
K x2 w22) fun J1 => 
M.nil p0 fun a3 =>
M.ld Value.bool (a3.add 2) w0 fun t5 =>
M.ite (!t5) (
M.nil p0 fun a8 =>
M.inb (0 : Int) 2 <|
M.ld Value.pointer (a8.add ((0 : Int).toNat * 1)) w0 fun t12 =>
M.ite (Option.isNone t12) (
M.nil p0 fun a15 =>
M.inb (1 : Int) 2 <|
M.ld Value.pointer (a15.add ((1 : Int).toNat * 1)) w0 fun t19 =>
J1 (Option.isNone t19) w0) (
J1 false w0)) (
J1 false w0)
theorem F51_ok {w0 : World} {p0 : Option Addr} {K : Bool → World → Prop} (h : F51 p0 K w0) : Calls Try.prog 51 #[(Value.pointer p0)] w0 (R51 K) := by
  refine calls_of_WE (args := [(Value.pointer p0)]) (rs := [.tmp 2]) Try.func51 rfl (N := 24) rfl rfl rfl rfl ?_
  refine WE.seq ?_
  refine WE.reg ?_
  refine LE.p (v := (Value.bool false)) (Wn.no rfl) rfl (R.assign rfl) ?_
  refine LE.nil ?_
  refine WE.seq ?_
  obtain ⟨J1, hJ1, h⟩ := M.join_use h
  refine WE.regJ (fun e w => ∃ (x2 : Bool), J1 x2 w ∧ e 2 = (Value.bool x2)) ?_ ?_
  · clear hJ1
    refine LE.p (v := (Value.pointer p0)) (Wn.no rfl) rfl (R.move rfl) ?_
    obtain ⟨a3, h4, h⟩ := h
    refine LE.p (v := (Value.pointer (some a3))) (Wn.no rfl) rfl (R.nilC (congrArg Value.pointer h4)) ?_
    refine LE.p (v := (Value.pointer (some (a3.add 2)))) (Wn.no rfl) rfl (R.fld (off := 2) fa86_1 rfl) ?_
    obtain ⟨t5, h6, h⟩ := h
    refine LE.r (v := (Value.bool t5)) (Wn.no rfl) rfl (R.ld sc4 rfl h6) ?_
    refine LE.p (v := (Value.bool (!t5))) (Wn.no rfl) rfl (R.not rfl) ?_
    refine LE.p (v := (Value.bool (!t5))) (Wn.no rfl) rfl (R.move rfl) ?_
    rcases M.ite_use h with ⟨hb7, h⟩ | ⟨hb7, h⟩
    · refine LE.p (v := (Value.pointer p0)) (Wn.yes 5 8 true rfl rfl rfl (congrArg Value.bool hb7)) rfl (R.move rfl) ?_
      obtain ⟨a8, h9, h⟩ := h
      refine LE.p (v := (Value.pointer (some a8))) (Wn.yes 5 8 true rfl rfl rfl (congrArg Value.bool hb7)) rfl (R.nilC (congrArg Value.pointer h9)) ?_
      refine LE.p (v := (Value.pointer (some a8))) (Wn.yes 5 8 true rfl rfl rfl (congrArg Value.bool hb7)) rfl (R.fld (off := 0) fa86_0 rfl) ?_
      obtain ⟨h10, h11, h⟩ := h
      refine LE.p (v := (Value.pointer (some (a8.add ((0 : Int).toNat * 1))))) (Wn.yes 5 8 true rfl rfl rfl (congrArg Value.bool hb7)) rfl (R.idxArr ar84 rfl rfl h10 h11) ?_
      obtain ⟨t12, h13, h⟩ := h
      refine LE.r (v := (Value.pointer t12)) (Wn.yes 5 8 true rfl rfl rfl (congrArg Value.bool hb7)) rfl (R.ld sc83 rfl h13) ?_
      refine LE.p (v := (Value.bool (Option.isNone t12))) (Wn.yes 5 8 true rfl rfl rfl (congrArg Value.bool hb7)) rfl (R.peqNil pt83 rfl rfl) ?_
      refine LE.p (v := (Value.bool (Option.isNone t12))) (Wn.no rfl) rfl (R.pickT (congrArg Value.bool hb7) rfl) ?_
      refine LE.p (v := (Value.bool (Option.isNone t12))) (Wn.no rfl) rfl (R.move rfl) ?_
      rcases M.ite_use h with ⟨hb14, h⟩ | ⟨hb14, h⟩
      · refine LE.p (v := (Value.pointer p0)) (Wn.yes 13 16 true rfl rfl rfl (congrArg Value.bool hb14)) rfl (R.move rfl) ?_
        obtain ⟨a15, h16, h⟩ := h
        refine LE.p (v := (Value.pointer (some a15))) (Wn.yes 13 16 true rfl rfl rfl (congrArg Value.bool hb14)) rfl (R.nilC (congrArg Value.pointer h16)) ?_
        refine LE.p (v := (Value.pointer (some a15))) (Wn.yes 13 16 true rfl rfl rfl (congrArg Value.bool hb14)) rfl (R.fld (off := 0) fa86_0 rfl) ?_
        obtain ⟨h17, h18, h⟩ := h
        refine LE.p (v := (Value.pointer (some (a15.add ((1 : Int).toNat * 1))))) (Wn.yes 13 16 true rfl rfl rfl (congrArg Value.bool hb14)) rfl (R.idxArr ar84 rfl rfl h17 h18) ?_
        obtain ⟨t19, h20, h⟩ := h
        refine LE.r (v := (Value.pointer t19)) (Wn.yes 13 16 true rfl rfl rfl (congrArg Value.bool hb14)) rfl (R.ld sc83 rfl h20) ?_
        refine LE.p (v := (Value.bool (Option.isNone t19))) (Wn.yes 13 16 true rfl rfl rfl (congrArg Value.bool hb14)) rfl (R.peqNil pt83 rfl rfl) ?_
        refine LE.p (v := (Value.bool (Option.isNone t19))) (Wn.no rfl) rfl (R.pickT (congrArg Value.bool hb14) rfl) ?_
        refine LE.p (v := (Value.bool (Option.isNone t19))) (Wn.no rfl) rfl (R.assign rfl) ?_
        refine LE.nil ?_
        exact ⟨_, h, rfl⟩
      · refine LE.u (Un.no 13 16 true rfl rfl rfl (congrArg Value.bool hb14)) ?_
        refine LE.u (Un.no 13 16 true rfl rfl rfl (congrArg Value.bool hb14)) ?_
        refine LE.u (Un.no 13 16 true rfl rfl rfl (congrArg Value.bool hb14)) ?_
        refine LE.u (Un.no 13 16 true rfl rfl rfl (congrArg Value.bool hb14)) ?_
        refine LE.u (Un.no 13 16 true rfl rfl rfl (congrArg Value.bool hb14)) ?_
        refine LE.u (Un.no 13 16 true rfl rfl rfl (congrArg Value.bool hb14)) ?_
        refine LE.p (v := (Value.bool false)) (Wn.no rfl) rfl (R.pickF (congrArg Value.bool hb14) rfl) ?_
        refine LE.p (v := (Value.bool false)) (Wn.no rfl) rfl (R.assign rfl) ?_
        refine LE.nil ?_
        exact ⟨_, h, rfl⟩
    · refine LE.u (Un.no 5 8 true rfl rfl rfl (congrArg Value.bool hb7)) ?_
      refine LE.u (Un.no 5 8 true rfl rfl rfl (congrArg Value.bool hb7)) ?_
      refine LE.u (Un.no 5 8 true rfl rfl rfl (congrArg Value.bool hb7)) ?_
      refine LE.u (Un.no 5 8 true rfl rfl rfl (congrArg Value.bool hb7)) ?_
      refine LE.u (Un.no 5 8 true rfl rfl rfl (congrArg Value.bool hb7)) ?_
      refine LE.u (Un.no 5 8 true rfl rfl rfl (congrArg Value.bool hb7)) ?_
      refine LE.p (v := (Value.bool false)) (Wn.no rfl) rfl (R.pickF (congrArg Value.bool hb7) rfl) ?_
      refine LE.p (v := (Value.bool false)) (Wn.no rfl) rfl (R.move rfl) ?_
      refine LE.u (Un.no 13 16 true rfl rfl rfl rfl) ?_
      refine LE.u (Un.no 13 16 true rfl rfl rfl rfl) ?_
      refine LE.u (Un.no 13 16 true rfl rfl rfl rfl) ?_
      refine LE.u (Un.no 13 16 true rfl rfl rfl rfl) ?_
      refine LE.u (Un.no 13 16 true rfl rfl rfl rfl) ?_
      refine LE.u (Un.no 13 16 true rfl rfl rfl rfl) ?_
      refine LE.p (v := (Value.bool false)) (Wn.no rfl) rfl (R.pickF rfl rfl) ?_
      refine LE.p (v := (Value.bool false)) (Wn.no rfl) rfl (R.assign rfl) ?_
      refine LE.nil ?_
      exact ⟨_, h, rfl⟩
  · rintro e21 w22 ⟨x2, h, f23⟩
    subst hJ1
    refine WE.ret ?_
    exact ⟨_, (Res.tmp f23 Res.nil), _, rfl, h⟩
/-- The formula of signpost.metric.Same. -/
def F52 (p0 : Nat) (p1 : Nat) (K : Bool → World → Prop) (w0 : World) : Prop :=
Calls Try.prog 26 #[(Value.float .f64 p0)] w0 (R26 fun r1 w2 =>
Calls Try.prog 26 #[(Value.float .f64 p1)] w2 (R26 fun r3 w4 =>
K (fEql r1 r3) w4))
theorem F52_ok {w0 : World} {p0 : Nat} {p1 : Nat} {K : Bool → World → Prop} (h : F52 p0 p1 K w0) : Calls Try.prog 52 #[(Value.float .f64 p0), (Value.float .f64 p1)] w0 (R52 K) := by
  refine calls_of_WE (args := [(Value.float .f64 p0), (Value.float .f64 p1)]) (rs := [.tmp 4]) Try.func52 rfl (N := 10) rfl rfl rfl rfl ?_
  refine WE.seq ?_
  refine WE.reg ?_
  refine LE.p (v := (Value.bool false)) (Wn.no rfl) rfl (R.assign rfl) ?_
  refine LE.nil ?_
  refine WE.seq ?_
  refine WE.reg ?_
  refine LE.p (v := (Value.float .f64 p0)) (Wn.no rfl) rfl (R.move rfl) ?_
  refine LE.c (Wn.no rfl) rfl (R.call bd26 (Ls.cons rfl Ls.nil) rfl) (Calls.mono h ?_)
  rintro _ w2 ⟨r1, rfl, h⟩
  refine ⟨_, rfl, ?_⟩
  refine LE.p (v := (Value.float .f64 p1)) (Wn.no rfl) rfl (R.move rfl) ?_
  refine LE.c (Wn.no rfl) rfl (R.call bd26 (Ls.cons rfl Ls.nil) rfl) (Calls.mono h ?_)
  rintro _ w4 ⟨r3, rfl, h⟩
  refine ⟨_, rfl, ?_⟩
  refine LE.p (v := (Value.bool (fEql r1 r3))) (Wn.no rfl) rfl (R.feql rfl rfl) ?_
  refine LE.p (v := (Value.bool (fEql r1 r3))) (Wn.no rfl) rfl (R.assign rfl) ?_
  refine LE.nil ?_
  refine WE.ret ?_
  exact ⟨_, (Res.tmp rfl Res.nil), _, rfl, h⟩
/-- The formula of (*signpost.trie.Trie).down. -/
def F53 (p0 : Option Addr) (p1 : Int) (p2 : Int) (K : SV → World → Prop) (w0 : World) : Prop :=
M.nil p0 fun a1 =>
M.join (fun (x4 : SV) (w56 : World) => 
K x4 w56) fun J3 => 
M.loop3 (fun (J8 : SV → Option Addr → Int → World → Prop) (x5 : SV) (x6 : Option Addr) (x7 : Int) (w9 : World) => 
M.join (fun (x22 : SV) (w38 : World) => 
M.ite (x7 == p2) (
J3 x22 w38) (
M.drew w38 fun w45 => 
M.nil x6 fun a46 =>
Calls Try.prog 49 #[(Value.int .u32 p1), (Value.int .i64 x7)] w45 (R49 fun r48 w49 =>
M.inb r48 2 <|
M.ld Value.pointer (a46.add (r48.toNat * 1)) w49 fun t52 =>
M.ite (Option.isNone t52) (
J3 x22 w49) (
J8 x22 t52 (IntKind.i64.wrap (x7 + (1 : Int))) w49)))) fun J21 => 
M.nil x6 fun a23 =>
M.ld Value.bool (a23.add 2) w9 fun t25 =>
M.ite t25 (
Calls Try.prog 61 #[(Value.int .u32 p1), (Value.int .i64 x7)] w9 (R61 fun r28 r29 w30 =>
M.new (.cells #[(Value.int .u32 r28), (Value.int .i64 r29)] 30) w30 fun b33 w31 =>
M.app Try.prog 74 74 74 x5 (SV.v (SV.mk (some b33) 1 1)) w31 fun s34 w35 =>
J21 s34 w35)) (
J21 x5 w9)) SV.nil (some a1) (0 : Int) w0
theorem F53_ok {w0 : World} {p0 : Option Addr} {p1 : Int} {p2 : Int} {K : SV → World → Prop} (h : F53 p0 p1 p2 K w0) : Calls Try.prog 53 #[(Value.pointer p0), (Value.int .u32 p1), (Value.int .i64 p2)] w0 (R53 K) := by
  refine calls_of_WE (args := [(Value.pointer p0), (Value.int .u32 p1), (Value.int .i64 p2)]) (rs := [.tmp 6]) Try.func53 rfl (N := 39) rfl rfl rfl rfl ?_
  refine WE.seq ?_
  refine WE.reg ?_
  refine LE.p (v := (SV.v SV.nil)) (Wn.no rfl) rfl (R.assign rfl) ?_
  refine LE.nil ?_
  refine WE.scope ?_
  refine WE.seq ?_
  refine WE.reg ?_
  refine LE.p (v := (SV.v SV.nil)) (Wn.no rfl) rfl (R.assign rfl) ?_
  refine LE.nil ?_
  refine WE.seq ?_
  refine WE.reg ?_
  refine LE.p (v := (Value.pointer p0)) (Wn.no rfl) rfl (R.move rfl) ?_
  obtain ⟨a1, h2, h⟩ := h
  refine LE.p (v := (Value.pointer (some a1))) (Wn.no rfl) rfl (R.nilC (congrArg Value.pointer h2)) ?_
  refine LE.p (v := (Value.pointer (some a1))) (Wn.no rfl) rfl (R.fld (off := 0) fa88_0 rfl) ?_
  refine LE.p (v := (Value.pointer (some a1))) (Wn.no rfl) rfl (R.assign rfl) ?_
  refine LE.nil ?_
  refine WE.seq ?_
  refine WE.label ?_
  refine WE.seq ?_
  refine WE.seq ?_
  refine WE.reg ?_
  refine LE.p (v := (Value.int .i64 (0 : Int))) (Wn.no rfl) rfl (R.assign rfl) ?_
  refine LE.nil ?_
  obtain ⟨J3, hJ3, h⟩ := M.join_use h
  refine WE.blkJ (fun e w => ∃ (x4 : SV), J3 x4 w ∧ e 7 = (SV.v x4)) ?_ ?_
  · clear hJ3
    obtain ⟨I12, ⟨n11, h⟩, hr13⟩ := h
    refine WE.loop (fun n e w => ∃ (x5 : SV) (x6 : Option Addr) (x7 : Int), I12 n x5 x6 x7 w ∧ e 1 = (Value.int .u32 p1) ∧ e 2 = (Value.int .i64 p2) ∧ e 7 = (SV.v x5) ∧ e 8 = (Value.pointer x6) ∧ e 9 = (Value.int .i64 x7)) n11 ⟨_, _, _, h, rfl, rfl, rfl, rfl, rfl⟩ ?_
    clear h
    rintro n11 e10 w9 ⟨x5, x6, x7, h, f16, f17, f18, f19, f20⟩
    replace h := hr13 n11 x5 x6 x7 w9 h
    refine WE.seq ?_
    refine WE.block ?_
    obtain ⟨J21, hJ21, h⟩ := M.join_use h
    refine WE.join (fun e w => ∃ (x22 : SV), J21 x22 w ∧ e 1 = (Value.int .u32 p1) ∧ e 2 = (Value.int .i64 p2) ∧ e 7 = (SV.v x22) ∧ e 8 = (Value.pointer x6) ∧ e 9 = (Value.int .i64 x7)) ?_ ?_
    · clear hJ21
      refine WE.seq ?_
      refine WE.reg ?_
      refine LE.p (v := (Value.pointer x6)) (Wn.no rfl) rfl (R.move f19) ?_
      obtain ⟨a23, h24, h⟩ := h
      refine LE.p (v := (Value.pointer (some a23))) (Wn.no rfl) rfl (R.nilC (congrArg Value.pointer h24)) ?_
      refine LE.p (v := (Value.pointer (some (a23.add 2)))) (Wn.no rfl) rfl (R.fld (off := 2) fa86_1 rfl) ?_
      obtain ⟨t25, h26, h⟩ := h
      refine LE.r (v := (Value.bool t25)) (Wn.no rfl) rfl (R.ld sc4 rfl h26) ?_
      refine LE.nil ?_
      refine WE.condT rfl (b := t25) rfl ?_ ?_
      · intro hb27
        replace h := M.ite_t h hb27
        refine WE.reg ?_
        refine LE.p (v := (SV.v x5)) (Wn.no rfl) rfl (R.move f18) ?_
        refine LE.p (v := (Value.int .u32 p1)) (Wn.no rfl) rfl (R.move f16) ?_
        refine LE.p (v := (Value.int .i64 x7)) (Wn.no rfl) rfl (R.move f20) ?_
        refine LE.c (Wn.no rfl) rfl (R.call bd61 (Ls.cons rfl (Ls.cons rfl Ls.nil)) rfl) (Calls.mono h ?_)
        rintro _ w30 ⟨r28, r29, rfl, h⟩
        refine ⟨_, rfl, ?_⟩
        obtain ⟨b33, hpb33, w31, hww31, h⟩ := M.new_use h
        refine LE.r (v := (SV.v (SV.mk (some b33) 1 1))) (Wn.no rfl) rfl (R.bsl (by exact (Ls.cons (R.Pr rfl) Ls.nil)) (fun w => bs74_1 r28 r29 w) hpb33 hww31) ?_
        obtain ⟨s34, w35, h36, h⟩ := h
        refine LE.r (v := (SV.v s34)) (Wn.no rfl) rfl (R.app (s := x5) (r := s34) rfl rfl h36) ?_
        refine LE.p (v := (SV.v s34)) (Wn.no rfl) rfl (R.assign rfl) ?_
        refine LE.nil ?_
        exact ⟨_, h, f16, f17, rfl, f19, f20⟩
      · intro hb27
        replace h := M.ite_f h hb27
        refine WE.skip ?_
        exact ⟨_, h, f16, f17, f18, f19, f20⟩
    · rintro e37 w38 ⟨x22, h, f39, f40, f41, f42, f43⟩
      subst hJ21
      refine WE.seq ?_
      refine WE.seq ?_
      refine WE.reg ?_
      refine LE.p (v := (Value.int .i64 x7)) (Wn.no rfl) rfl (R.move f43) ?_
      refine LE.p (v := (Value.int .i64 p2)) (Wn.no rfl) rfl (R.move f40) ?_
      refine LE.p (v := (Value.bool (x7 == p2))) (Wn.no rfl) rfl (R.eql rfl rfl) ?_
      refine LE.nil ?_
      refine WE.condT rfl (b := (x7 == p2)) rfl ?_ ?_
      · intro hb44
        replace h := M.ite_t h hb44
        refine WE.exit ?_
        exact ⟨_, h, f41⟩
      · intro hb44
        replace h := M.ite_f h hb44
        refine WE.skip ?_
        refine WE.seq ?_
        refine WE.draw mix ?_
        obtain ⟨w45, hww45, h⟩ := M.drew_use h
        rw [← hww45]
        clear hww45
        refine DE.t 0 (v := (Value.pointer x6)) rfl (by kernel_rfl) (Wn.no rfl) rfl (R.move f42) ?_
        refine DE.t 1 (v := (Value.int .u32 p1)) rfl (by kernel_rfl) (Wn.no rfl) rfl (R.move f39) ?_
        refine DE.t 2 (v := (Value.int .i64 x7)) rfl (by kernel_rfl) (Wn.no rfl) rfl (R.move f43) ?_
        obtain ⟨a46, h47, h⟩ := h
        refine DE.t 4 (v := (Value.pointer (some a46))) rfl (by kernel_rfl) (Wn.no rfl) rfl (R.nilC (congrArg Value.pointer h47)) ?_
        refine DE.t 5 (v := (Value.pointer (some a46))) rfl (by kernel_rfl) (Wn.no rfl) rfl (R.fld (off := 0) fa86_0 rfl) ?_
        refine DE.main 3 (by kernel_rfl) ?_
        refine One.c 3 rfl (Wn.no rfl) rfl (R.call bd49 (Ls.cons rfl (Ls.cons rfl Ls.nil)) rfl) (Calls.mono h ?_)
        rintro _ w49 ⟨r48, rfl, h⟩
        refine ⟨_, rfl, trivial, ?_⟩
        obtain ⟨h50, h51, h⟩ := h
        refine DE.t 6 (v := (Value.pointer (some (a46.add (r48.toNat * 1))))) rfl (by kernel_rfl) (Wn.no rfl) rfl (R.idxArr ar84 rfl rfl h50 h51) ?_
        obtain ⟨t52, h53, h⟩ := h
        refine DE.main 7 (by kernel_rfl) ?_
        refine One.r 7 (v := (Value.pointer t52)) rfl (Wn.no rfl) rfl (R.ld sc83 rfl h53) (.inl rfl) ?_
        refine DE.t 8 (v := (Value.pointer t52)) rfl (by kernel_rfl) (Wn.no rfl) rfl (R.assign rfl) ?_
        refine DE.done (by kernel_rfl) ?_
        refine WE.seq ?_
        refine WE.reg ?_
        refine LE.p (v := (Value.pointer t52)) (Wn.no rfl) rfl (R.move rfl) ?_
        refine LE.p (v := (Value.bool (Option.isNone t52))) (Wn.no rfl) rfl (R.peqNil pt83 rfl rfl) ?_
        refine LE.nil ?_
        refine WE.condT rfl (b := (Option.isNone t52)) rfl ?_ ?_
        · intro hb54
          replace h := M.ite_t h hb54
          refine WE.exit ?_
          exact ⟨_, h, f41⟩
        · intro hb54
          replace h := M.ite_f h hb54
          refine WE.skip ?_
          refine WE.reg ?_
          refine LE.p (v := (Value.int .i64 x7)) (Wn.no rfl) rfl (R.move f43) ?_
          refine LE.p (v := (Value.int .i64 (IntKind.i64.wrap (x7 + (1 : Int))))) (Wn.no rfl) rfl (R.add rfl rfl) ?_
          refine LE.p (v := (Value.int .i64 (IntKind.i64.wrap (x7 + (1 : Int))))) (Wn.no rfl) rfl (R.assign rfl) ?_
          refine LE.nil ?_
          obtain ⟨m14, hm15, h⟩ := h
          exact ⟨m14, hm15, _, _, _, h, f39, f40, f41, rfl, rfl⟩
  · rintro e55 w56 ⟨x4, h, f57⟩
    subst hJ3
    refine WE.seq ?_
    refine WE.reg ?_
    refine LE.p (v := (SV.v x4)) (Wn.no rfl) rfl (R.move f57) ?_
    refine LE.p (v := (SV.v x4)) (Wn.no rfl) rfl (R.assign rfl) ?_
    refine LE.nil ?_
    refine WE.ret ?_
    exact ⟨_, (Res.tmp rfl Res.nil), _, rfl, h⟩
/-- The formula of (*signpost.trie.Trie).Below. -/
def F54 (p0 : Option Addr) (p1_0 : Int) (p1_1 : Int) (K : SV → World → Prop) (w0 : World) : Prop :=
M.new (.cells #[(Value.int .u32 p1_0), (Value.int .i64 p1_1)] 30) w0 fun b2 w1 =>
M.ld (Value.int .u32) b2 w1 fun t3 =>
M.ld (Value.int .i64) (b2.add 1) w1 fun t5 =>
Calls Try.prog 47 #[(Value.agg #[(Value.int .u32 t3), (Value.int .i64 t5)])] w1 (R47 fun r7 w8 =>
M.ite (!r7) (
K SV.nil w8) (
M.drew w8 fun w10 => 
M.ld (Value.int .u32) b2 w10 fun t11 =>
M.ld (Value.int .i64) (b2.add 1) w10 fun t13 =>
M.ld (Value.int .u32) b2 w10 fun t15 =>
M.ld (Value.int .i64) (b2.add 1) w10 fun t17 =>
Calls Try.prog 60 #[(Value.pointer p0), (Value.agg #[(Value.int .u32 t11), (Value.int .i64 t13)])] w10 (R60 fun r19 w20 =>
M.keep (w20.cell? b2 = some (Value.int .u32 t15)) <|
M.keep (w20.cell? (b2.add 1) = some (Value.int .i64 t17)) <|
Calls Try.prog 62 #[(Value.pointer r19), (Value.agg #[(Value.int .u32 t15), (Value.int .i64 t17)]), (SV.v SV.nil)] w20 (R62 fun r23 w24 =>
K r23 w24))))
theorem F54_ok {w0 : World} {p0 : Option Addr} {p1_0 : Int} {p1_1 : Int} {K : SV → World → Prop} (h : F54 p0 p1_0 p1_1 K w0) : Calls Try.prog 54 #[(Value.pointer p0), (Value.agg #[(Value.int .u32 p1_0), (Value.int .i64 p1_1)])] w0 (R54 K) := by
  refine calls_of_WE (args := [(Value.pointer p0), (Value.agg #[(Value.int .u32 p1_0), (Value.int .i64 p1_1)])]) (rs := [.tmp 4]) Try.func54 rfl (N := 13) rfl rfl rfl rfl ?_
  refine WE.seq ?_
  refine WE.reg ?_
  obtain ⟨b2, hpb2, w1, hww1, h⟩ := M.new_use h
  refine LE.r (v := (Value.pointer (some b2))) (Wn.no rfl) rfl (R.box (cs := #[(Value.int .u32 p1_0), (Value.int .i64 p1_1)]) rfl rfl hpb2 hww1) ?_
  refine LE.p (v := (SV.v SV.nil)) (Wn.no rfl) rfl (R.assign rfl) ?_
  refine LE.nil ?_
  refine WE.seq ?_
  refine WE.seq ?_
  refine WE.reg ?_
  obtain ⟨t3, h4, h⟩ := h
  obtain ⟨t5, h6, h⟩ := h
  refine LE.r (v := (Value.agg #[(Value.int .u32 t3), (Value.int .i64 t5)])) (Wn.no rfl) rfl (R.ldA ag30 sz30 rfl rfl (Cs.cons h4 (Cs.cons h6 Cs.nil))) ?_
  refine LE.c (Wn.no rfl) rfl (R.call bd47 (Ls.cons rfl Ls.nil) rfl) (Calls.mono h ?_)
  rintro _ w8 ⟨r7, rfl, h⟩
  refine ⟨_, rfl, ?_⟩
  refine LE.p (v := (Value.bool (!r7))) (Wn.no rfl) rfl (R.not rfl) ?_
  refine LE.nil ?_
  refine WE.condT rfl (b := (!r7)) rfl ?_ ?_
  · intro hb9
    replace h := M.ite_t h hb9
    refine WE.seq ?_
    refine WE.reg ?_
    refine LE.p (v := (SV.v SV.nil)) (Wn.no rfl) rfl (R.assign rfl) ?_
    refine LE.nil ?_
    refine WE.ret ?_
    exact ⟨_, (Res.tmp rfl Res.nil), _, rfl, h⟩
  · intro hb9
    replace h := M.ite_f h hb9
    refine WE.skip ?_
    refine WE.seq ?_
    refine WE.draw mix ?_
    obtain ⟨w10, hww10, h⟩ := M.drew_use h
    rw [← hww10]
    clear hww10
    refine DE.t 0 (v := (Value.pointer p0)) rfl (by kernel_rfl) (Wn.no rfl) rfl (R.move rfl) ?_
    obtain ⟨t11, h12, h⟩ := h
    obtain ⟨t13, h14, h⟩ := h
    refine DE.hold 1 (fun w => w.cell? b2 = some (Value.int .u32 t11) ∧ w.cell? (b2.add 1) = some (Value.int .i64 t13)) (v := (Value.agg #[(Value.int .u32 t11), (Value.int .i64 t13)])) rfl (by kernel_rfl) (Wn.no rfl) rfl ⟨h12, h14⟩ (fun w hs => R.ldA ag30 sz30 rfl rfl (Cs.cons hs.1 (Cs.cons hs.2 Cs.nil))) ?_
    obtain ⟨t15, h16, h⟩ := h
    obtain ⟨t17, h18, h⟩ := h
    refine DE.hold 3 (fun w => w.cell? b2 = some (Value.int .u32 t15) ∧ w.cell? (b2.add 1) = some (Value.int .i64 t17)) (v := (Value.agg #[(Value.int .u32 t15), (Value.int .i64 t17)])) rfl (by kernel_rfl) (Wn.no rfl) rfl ⟨h16, h18⟩ (fun w hs => R.ldA ag30 sz30 rfl rfl (Cs.cons hs.1 (Cs.cons hs.2 Cs.nil))) ?_
    refine DE.main 2 (by kernel_rfl) ?_
    refine One.c 2 rfl (Wn.no rfl) rfl (R.call bd60 (Ls.cons rfl (Ls.cons rfl Ls.nil)) rfl) (Calls.mono h ?_)
    rintro _ w20 ⟨r19, rfl, h⟩
    obtain ⟨k21, h⟩ := h
    obtain ⟨k22, h⟩ := h
    refine ⟨_, rfl, ⟨fun _ => ⟨k21, k22⟩, aftT (by kernel_rfl), trivial⟩, ?_⟩
    refine DE.main 4 (by kernel_rfl) ?_
    refine One.c 4 rfl (Wn.no rfl) rfl (R.call bd62 (Ls.cons rfl (Ls.cons rfl (Ls.cons rfl Ls.nil))) rfl) (Calls.mono h ?_)
    rintro _ w24 ⟨r23, rfl, h⟩
    refine ⟨_, rfl, ⟨aftT (by kernel_rfl), aftT (by kernel_rfl), trivial⟩, ?_⟩
    refine DE.t 5 (v := (SV.v r23)) rfl (by kernel_rfl) (Wn.no rfl) rfl (R.assign rfl) ?_
    refine DE.done (by kernel_rfl) ?_
    refine WE.ret ?_
    exact ⟨_, (Res.tmp rfl Res.nil), _, rfl, h⟩
/-- The formula of signpost.signpostref2.Clean. -/
def F55 (p0 : Nat) (K : Nat → World → Prop) (w0 : World) : Prop :=
Calls Try.prog 56 #[(Value.float .f64 p0)] w0 (R56 fun r1 w2 =>
M.ite (!r1) (
Calls Try.prog 19 #[(Value.int .i64 (1 : Int))] w2 (R19 fun r4 w5 =>
K r4 w5)) (
M.ite (fEql p0 (0 : Nat)) (
K (0 : Nat) w2) (
K p0 w2)))
theorem F55_ok {w0 : World} {p0 : Nat} {K : Nat → World → Prop} (h : F55 p0 K w0) : Calls Try.prog 55 #[(Value.float .f64 p0)] w0 (R55 K) := by
  refine calls_of_WE (args := [(Value.float .f64 p0)]) (rs := [.tmp 2]) Try.func55 rfl (N := 10) rfl rfl rfl rfl ?_
  refine WE.seq ?_
  refine WE.reg ?_
  refine LE.p (v := (Value.float .f64 (0 : Nat))) (Wn.no rfl) rfl (R.assign rfl) ?_
  refine LE.nil ?_
  refine WE.seq ?_
  refine WE.seq ?_
  refine WE.reg ?_
  refine LE.p (v := (Value.float .f64 p0)) (Wn.no rfl) rfl (R.move rfl) ?_
  refine LE.c (Wn.no rfl) rfl (R.call bd56 (Ls.cons rfl Ls.nil) rfl) (Calls.mono h ?_)
  rintro _ w2 ⟨r1, rfl, h⟩
  refine ⟨_, rfl, ?_⟩
  refine LE.p (v := (Value.bool (!r1))) (Wn.no rfl) rfl (R.not rfl) ?_
  refine LE.nil ?_
  refine WE.condT rfl (b := (!r1)) rfl ?_ ?_
  · intro hb3
    replace h := M.ite_t h hb3
    refine WE.seq ?_
    refine WE.reg ?_
    refine LE.c (Wn.no rfl) rfl (R.call bd19 (Ls.cons rfl Ls.nil) rfl) (Calls.mono h ?_)
    rintro _ w5 ⟨r4, rfl, h⟩
    refine ⟨_, rfl, ?_⟩
    refine LE.p (v := (Value.float .f64 r4)) (Wn.no rfl) rfl (R.assign rfl) ?_
    refine LE.nil ?_
    refine WE.ret ?_
    exact ⟨_, (Res.tmp rfl Res.nil), _, rfl, h⟩
  · intro hb3
    replace h := M.ite_f h hb3
    refine WE.skip ?_
    refine WE.seq ?_
    refine WE.seq ?_
    refine WE.reg ?_
    refine LE.p (v := (Value.float .f64 p0)) (Wn.no rfl) rfl (R.move rfl) ?_
    refine LE.p (v := (Value.bool (fEql p0 (0 : Nat)))) (Wn.no rfl) rfl (R.feql rfl rfl) ?_
    refine LE.nil ?_
    refine WE.condT rfl (b := (fEql p0 (0 : Nat))) rfl ?_ ?_
    · intro hb6
      replace h := M.ite_t h hb6
      refine WE.seq ?_
      refine WE.reg ?_
      refine LE.p (v := (Value.float .f64 (0 : Nat))) (Wn.no rfl) rfl (R.assign rfl) ?_
      refine LE.nil ?_
      refine WE.ret ?_
      exact ⟨_, (Res.tmp rfl Res.nil), _, rfl, h⟩
    · intro hb6
      replace h := M.ite_f h hb6
      refine WE.skip ?_
      refine WE.seq ?_
      refine WE.reg ?_
      refine LE.p (v := (Value.float .f64 p0)) (Wn.no rfl) rfl (R.move rfl) ?_
      refine LE.p (v := (Value.float .f64 p0)) (Wn.no rfl) rfl (R.assign rfl) ?_
      refine LE.nil ?_
      refine WE.ret ?_
      exact ⟨_, (Res.tmp rfl Res.nil), _, rfl, h⟩
/-- The formula of signpost.signpostref2.Right. -/
def F56 (p0 : Nat) (K : Bool → World → Prop) (w0 : World) : Prop :=
K (fGeq p0 (0 : Nat)) w0
theorem F56_ok {w0 : World} {p0 : Nat} {K : Bool → World → Prop} (h : F56 p0 K w0) : Calls Try.prog 56 #[(Value.float .f64 p0)] w0 (R56 K) := by
  refine calls_of_WE (args := [(Value.float .f64 p0)]) (rs := [.tmp 2]) Try.func56 rfl (N := 5) rfl rfl rfl rfl ?_
  refine WE.seq ?_
  refine WE.reg ?_
  refine LE.p (v := (Value.bool false)) (Wn.no rfl) rfl (R.assign rfl) ?_
  refine LE.nil ?_
  refine WE.seq ?_
  refine WE.reg ?_
  refine LE.p (v := (Value.float .f64 p0)) (Wn.no rfl) rfl (R.move rfl) ?_
  refine LE.p (v := (Value.bool (fGeq p0 (0 : Nat)))) (Wn.no rfl) rfl (R.fgeq rfl rfl) ?_
  refine LE.p (v := (Value.bool (fGeq p0 (0 : Nat)))) (Wn.no rfl) rfl (R.assign rfl) ?_
  refine LE.nil ?_
  refine WE.ret ?_
  exact ⟨_, (Res.tmp rfl Res.nil), _, rfl, h⟩
/-- The formula of signpost.signpostref2.Less. -/
def F57 (p0 : Nat) (p1 : Nat) (K : Bool → World → Prop) (w0 : World) : Prop :=
Calls Try.prog 55 #[(Value.float .f64 p0)] w0 (R55 fun r1 w2 =>
Calls Try.prog 55 #[(Value.float .f64 p1)] w2 (R55 fun r3 w4 =>
K (fLss r1 r3) w4))
theorem F57_ok {w0 : World} {p0 : Nat} {p1 : Nat} {K : Bool → World → Prop} (h : F57 p0 p1 K w0) : Calls Try.prog 57 #[(Value.float .f64 p0), (Value.float .f64 p1)] w0 (R57 K) := by
  refine calls_of_WE (args := [(Value.float .f64 p0), (Value.float .f64 p1)]) (rs := [.tmp 4]) Try.func57 rfl (N := 10) rfl rfl rfl rfl ?_
  refine WE.seq ?_
  refine WE.reg ?_
  refine LE.p (v := (Value.bool false)) (Wn.no rfl) rfl (R.assign rfl) ?_
  refine LE.nil ?_
  refine WE.seq ?_
  refine WE.reg ?_
  refine LE.p (v := (Value.float .f64 p0)) (Wn.no rfl) rfl (R.move rfl) ?_
  refine LE.c (Wn.no rfl) rfl (R.call bd55 (Ls.cons rfl Ls.nil) rfl) (Calls.mono h ?_)
  rintro _ w2 ⟨r1, rfl, h⟩
  refine ⟨_, rfl, ?_⟩
  refine LE.p (v := (Value.float .f64 p1)) (Wn.no rfl) rfl (R.move rfl) ?_
  refine LE.c (Wn.no rfl) rfl (R.call bd55 (Ls.cons rfl Ls.nil) rfl) (Calls.mono h ?_)
  rintro _ w4 ⟨r3, rfl, h⟩
  refine ⟨_, rfl, ?_⟩
  refine LE.p (v := (Value.bool (fLss r1 r3))) (Wn.no rfl) rfl (R.flss rfl rfl) ?_
  refine LE.p (v := (Value.bool (fLss r1 r3))) (Wn.no rfl) rfl (R.assign rfl) ?_
  refine LE.nil ?_
  refine WE.ret ?_
  exact ⟨_, (Res.tmp rfl Res.nil), _, rfl, h⟩
/-- The formula of signpost.signpostref2.Same. -/
def F58 (p0 : Nat) (p1 : Nat) (K : Bool → World → Prop) (w0 : World) : Prop :=
Calls Try.prog 55 #[(Value.float .f64 p0)] w0 (R55 fun r1 w2 =>
Calls Try.prog 55 #[(Value.float .f64 p1)] w2 (R55 fun r3 w4 =>
K (fEql r1 r3) w4))
theorem F58_ok {w0 : World} {p0 : Nat} {p1 : Nat} {K : Bool → World → Prop} (h : F58 p0 p1 K w0) : Calls Try.prog 58 #[(Value.float .f64 p0), (Value.float .f64 p1)] w0 (R58 K) := by
  refine calls_of_WE (args := [(Value.float .f64 p0), (Value.float .f64 p1)]) (rs := [.tmp 4]) Try.func58 rfl (N := 10) rfl rfl rfl rfl ?_
  refine WE.seq ?_
  refine WE.reg ?_
  refine LE.p (v := (Value.bool false)) (Wn.no rfl) rfl (R.assign rfl) ?_
  refine LE.nil ?_
  refine WE.seq ?_
  refine WE.reg ?_
  refine LE.p (v := (Value.float .f64 p0)) (Wn.no rfl) rfl (R.move rfl) ?_
  refine LE.c (Wn.no rfl) rfl (R.call bd55 (Ls.cons rfl Ls.nil) rfl) (Calls.mono h ?_)
  rintro _ w2 ⟨r1, rfl, h⟩
  refine ⟨_, rfl, ?_⟩
  refine LE.p (v := (Value.float .f64 p1)) (Wn.no rfl) rfl (R.move rfl) ?_
  refine LE.c (Wn.no rfl) rfl (R.call bd55 (Ls.cons rfl Ls.nil) rfl) (Calls.mono h ?_)
  rintro _ w4 ⟨r3, rfl, h⟩
  refine ⟨_, rfl, ?_⟩
  refine LE.p (v := (Value.bool (fEql r1 r3))) (Wn.no rfl) rfl (R.feql rfl rfl) ?_
  refine LE.p (v := (Value.bool (fEql r1 r3))) (Wn.no rfl) rfl (R.assign rfl) ?_
  refine LE.nil ?_
  refine WE.ret ?_
  exact ⟨_, (Res.tmp rfl Res.nil), _, rfl, h⟩
/-- The formula of signpost.addr.Mask. -/
def F59 (p0 : Int) (K : Int → World → Prop) (w0 : World) : Prop :=
M.ite (decide (p0 < (1 : Int))) (
K (0 : Int) w0) (
M.sh (IntKind.i64.wrap ((32 : Int) - (min p0 (32 : Int)))) <|
K (bShl .u32 (4294967295 : Int) (IntKind.i64.wrap ((32 : Int) - (min p0 (32 : Int))))) w0)
theorem F59_ok {w0 : World} {p0 : Int} {K : Int → World → Prop} (h : F59 p0 K w0) : Calls Try.prog 59 #[(Value.int .i64 p0)] w0 (R59 K) := by
  refine calls_of_WE (args := [(Value.int .i64 p0)]) (rs := [.tmp 2]) Try.func59 rfl (N := 9) rfl rfl rfl rfl ?_
  refine WE.seq ?_
  refine WE.reg ?_
  refine LE.p (v := (Value.int .u32 (0 : Int))) (Wn.no rfl) rfl (R.assign rfl) ?_
  refine LE.nil ?_
  refine WE.seq ?_
  refine WE.seq ?_
  refine WE.reg ?_
  refine LE.p (v := (Value.int .i64 p0)) (Wn.no rfl) rfl (R.move rfl) ?_
  refine LE.p (v := (Value.bool (decide (p0 < (1 : Int))))) (Wn.no rfl) rfl (R.lss rfl rfl) ?_
  refine LE.nil ?_
  refine WE.condT rfl (b := (decide (p0 < (1 : Int)))) rfl ?_ ?_
  · intro hb1
    replace h := M.ite_t h hb1
    refine WE.seq ?_
    refine WE.reg ?_
    refine LE.p (v := (Value.int .u32 (0 : Int))) (Wn.no rfl) rfl (R.assign rfl) ?_
    refine LE.nil ?_
    refine WE.ret ?_
    exact ⟨_, (Res.tmp rfl Res.nil), _, rfl, h⟩
  · intro hb1
    replace h := M.ite_f h hb1
    refine WE.skip ?_
    refine WE.seq ?_
    refine WE.reg ?_
    refine LE.p (v := (Value.int .i64 p0)) (Wn.no rfl) rfl (R.move rfl) ?_
    refine LE.p (v := (Value.int .i64 (min p0 (32 : Int)))) (Wn.no rfl) rfl (R.min2 rfl rfl) ?_
    refine LE.p (v := (Value.int .i64 (IntKind.i64.wrap ((32 : Int) - (min p0 (32 : Int)))))) (Wn.no rfl) rfl (R.sub rfl rfl) ?_
    obtain ⟨h2, h⟩ := h
    refine LE.p (v := (Value.int .u32 (bShl .u32 (4294967295 : Int) (IntKind.i64.wrap ((32 : Int) - (min p0 (32 : Int))))))) (Wn.no rfl) rfl (R.shl rfl rfl h2) ?_
    refine LE.p (v := (Value.int .u32 (bShl .u32 (4294967295 : Int) (IntKind.i64.wrap ((32 : Int) - (min p0 (32 : Int))))))) (Wn.no rfl) rfl (R.assign rfl) ?_
    refine LE.nil ?_
    refine WE.ret ?_
    exact ⟨_, (Res.tmp rfl Res.nil), _, rfl, h⟩
/-- The formula of (*signpost.trie.Trie).find. -/
def F60 (p0 : Option Addr) (p1_0 : Int) (p1_1 : Int) (K : Option Addr → World → Prop) (w0 : World) : Prop :=
M.new (.cells #[(Value.int .u32 p1_0), (Value.int .i64 p1_1)] 30) w0 fun b2 w1 =>
M.nil p0 fun a3 =>
M.ld (Value.int .i64) (b2.add 1) w1 fun t5 =>
M.loop2 (fun (J9 : Option Addr → Int → World → Prop) (x7 : Option Addr) (x8 : Int) (w10 : World) => 
M.ite (decide (x8 < t5)) (
M.drew w10 fun w22 => 
M.nil x7 fun a23 =>
M.ld (Value.int .u32) b2 w22 fun t25 =>
Calls Try.prog 49 #[(Value.int .u32 t25), (Value.int .i64 x8)] w22 (R49 fun r27 w28 =>
M.inb r27 2 <|
M.ld Value.pointer (a23.add (r27.toNat * 1)) w28 fun t31 =>
M.ite (Option.isNone t31) (
K (none : Option Addr) w28) (
J9 t31 (IntKind.i64.wrap (x8 + (1 : Int))) w28))) (
K x7 w10)) (some a3) (0 : Int) w1
theorem F60_ok {w0 : World} {p0 : Option Addr} {p1_0 : Int} {p1_1 : Int} {K : Option Addr → World → Prop} (h : F60 p0 p1_0 p1_1 K w0) : Calls Try.prog 60 #[(Value.pointer p0), (Value.agg #[(Value.int .u32 p1_0), (Value.int .i64 p1_1)])] w0 (R60 K) := by
  refine calls_of_WE (args := [(Value.pointer p0), (Value.agg #[(Value.int .u32 p1_0), (Value.int .i64 p1_1)])]) (rs := [.tmp 4]) Try.func60 rfl (N := 28) rfl rfl rfl rfl ?_
  refine WE.seq ?_
  refine WE.reg ?_
  obtain ⟨b2, hpb2, w1, hww1, h⟩ := M.new_use h
  refine LE.r (v := (Value.pointer (some b2))) (Wn.no rfl) rfl (R.box (cs := #[(Value.int .u32 p1_0), (Value.int .i64 p1_1)]) rfl rfl hpb2 hww1) ?_
  refine LE.p (v := (Value.pointer (none : Option Addr))) (Wn.no rfl) rfl (R.assign rfl) ?_
  refine LE.nil ?_
  refine WE.seq ?_
  refine WE.reg ?_
  refine LE.p (v := (Value.pointer p0)) (Wn.no rfl) rfl (R.move rfl) ?_
  obtain ⟨a3, h4, h⟩ := h
  refine LE.p (v := (Value.pointer (some a3))) (Wn.no rfl) rfl (R.nilC (congrArg Value.pointer h4)) ?_
  refine LE.p (v := (Value.pointer (some a3))) (Wn.no rfl) rfl (R.fld (off := 0) fa88_0 rfl) ?_
  refine LE.p (v := (Value.pointer (some a3))) (Wn.no rfl) rfl (R.assign rfl) ?_
  refine LE.nil ?_
  refine WE.seq ?_
  refine WE.seq ?_
  refine WE.reg ?_
  refine LE.p (v := (Value.pointer (some (b2.add 1)))) (Wn.no rfl) rfl (R.fld (off := 1) fa30_1 rfl) ?_
  obtain ⟨t5, h6, h⟩ := h
  refine LE.r (v := (Value.int .i64 t5)) (Wn.no rfl) rfl (R.ld sc3 rfl h6) ?_
  refine LE.p (v := (Value.int .i64 (0 : Int))) (Wn.no rfl) rfl (R.move rfl) ?_
  refine LE.nil ?_
  refine WE.block ?_
  obtain ⟨I13, ⟨n12, h⟩, hr14⟩ := h
  refine WE.loop (fun n e w => ∃ (x7 : Option Addr) (x8 : Int), I13 n x7 x8 w ∧ e 3 = (Value.pointer (some b2)) ∧ e 5 = (Value.pointer x7) ∧ e 11 = (Value.int .i64 t5) ∧ e 12 = (Value.int .i64 x8)) n12 ⟨_, _, h, rfl, rfl, rfl, rfl⟩ ?_
  clear h
  rintro n12 e11 w10 ⟨x7, x8, h, f17, f18, f19, f20⟩
  replace h := hr14 n12 x7 x8 w10 h
  refine WE.seq ?_
  refine WE.reg ?_
  refine LE.p (v := (Value.bool (decide (x8 < t5)))) (Wn.no rfl) rfl (R.lss f20 f19) ?_
  refine LE.nil ?_
  refine WE.seq ?_
  refine WE.condT rfl (b := (decide (x8 < t5))) rfl ?_ ?_
  · intro hb21
    replace h := M.ite_t h hb21
    refine WE.skip ?_
    refine WE.seq ?_
    refine WE.block ?_
    refine WE.seq ?_
    refine WE.reg ?_
    refine LE.p (v := (Value.int .i64 x8)) (Wn.no rfl) rfl (R.move f20) ?_
    refine LE.p (v := (Value.int .i64 x8)) (Wn.no rfl) rfl (R.assign rfl) ?_
    refine LE.nil ?_
    refine WE.seq ?_
    refine WE.draw mix ?_
    obtain ⟨w22, hww22, h⟩ := M.drew_use h
    rw [← hww22]
    clear hww22
    refine DE.t 0 (v := (Value.pointer x7)) rfl (by kernel_rfl) (Wn.no rfl) rfl (R.move f18) ?_
    refine DE.t 1 (v := (Value.pointer (some b2))) rfl (by kernel_rfl) (Wn.no rfl) rfl (R.fld (off := 0) fa30_0 f17) ?_
    refine DE.t 3 (v := (Value.int .i64 x8)) rfl (by kernel_rfl) (Wn.no rfl) rfl (R.move rfl) ?_
    obtain ⟨a23, h24, h⟩ := h
    refine DE.t 5 (v := (Value.pointer (some a23))) rfl (by kernel_rfl) (Wn.no rfl) rfl (R.nilC (congrArg Value.pointer h24)) ?_
    refine DE.t 6 (v := (Value.pointer (some a23))) rfl (by kernel_rfl) (Wn.no rfl) rfl (R.fld (off := 0) fa86_0 rfl) ?_
    obtain ⟨t25, h26, h⟩ := h
    refine DE.main 2 (by kernel_rfl) ?_
    refine One.r 2 (v := (Value.int .u32 t25)) rfl (Wn.no rfl) rfl (R.ld sc23 rfl h26) (.inl rfl) ?_
    refine DE.main 4 (by kernel_rfl) ?_
    refine One.c 4 rfl (Wn.no rfl) rfl (R.call bd49 (Ls.cons rfl (Ls.cons rfl Ls.nil)) rfl) (Calls.mono h ?_)
    rintro _ w28 ⟨r27, rfl, h⟩
    refine ⟨_, rfl, trivial, ?_⟩
    obtain ⟨h29, h30, h⟩ := h
    refine DE.t 7 (v := (Value.pointer (some (a23.add (r27.toNat * 1))))) rfl (by kernel_rfl) (Wn.no rfl) rfl (R.idxArr ar84 rfl rfl h29 h30) ?_
    obtain ⟨t31, h32, h⟩ := h
    refine DE.main 8 (by kernel_rfl) ?_
    refine One.r 8 (v := (Value.pointer t31)) rfl (Wn.no rfl) rfl (R.ld sc83 rfl h32) (.inl rfl) ?_
    refine DE.t 9 (v := (Value.pointer t31)) rfl (by kernel_rfl) (Wn.no rfl) rfl (R.assign rfl) ?_
    refine DE.done (by kernel_rfl) ?_
    refine WE.seq ?_
    refine WE.reg ?_
    refine LE.p (v := (Value.pointer t31)) (Wn.no rfl) rfl (R.move rfl) ?_
    refine LE.p (v := (Value.bool (Option.isNone t31))) (Wn.no rfl) rfl (R.peqNil pt83 rfl rfl) ?_
    refine LE.nil ?_
    refine WE.condT rfl (b := (Option.isNone t31)) rfl ?_ ?_
    · intro hb33
      replace h := M.ite_t h hb33
      refine WE.seq ?_
      refine WE.reg ?_
      refine LE.p (v := (Value.pointer (none : Option Addr))) (Wn.no rfl) rfl (R.assign rfl) ?_
      refine LE.nil ?_
      refine WE.ret ?_
      exact ⟨_, (Res.tmp rfl Res.nil), _, rfl, h⟩
    · intro hb33
      replace h := M.ite_f h hb33
      refine WE.skip ?_
      refine WE.reg ?_
      refine LE.p (v := (Value.int .i64 (IntKind.i64.wrap (x8 + (1 : Int))))) (Wn.no rfl) rfl (R.add f20 rfl) ?_
      refine LE.p (v := (Value.int .i64 (IntKind.i64.wrap (x8 + (1 : Int))))) (Wn.no rfl) rfl (R.move rfl) ?_
      refine LE.nil ?_
      obtain ⟨m15, hm16, h⟩ := h
      exact ⟨m15, hm16, _, _, h, f17, rfl, f19, rfl⟩
  · intro hb21
    replace h := M.ite_f h hb21
    refine WE.exit ?_
    refine WE.seq ?_
    refine WE.reg ?_
    refine LE.p (v := (Value.pointer x7)) (Wn.no rfl) rfl (R.move f18) ?_
    refine LE.p (v := (Value.pointer x7)) (Wn.no rfl) rfl (R.assign rfl) ?_
    refine LE.nil ?_
    refine WE.ret ?_
    exact ⟨_, (Res.tmp rfl Res.nil), _, rfl, h⟩
/-- The formula of signpost.addr.Of. -/
def F61 (p0 : Int) (p1 : Int) (K : Int → Int → World → Prop) (w0 : World) : Prop :=
M.new (.cells #[(Value.int .u32 (0 : Int)), (Value.int .i64 (0 : Int))] 30) w0 fun b2 w1 =>
Calls Try.prog 59 #[(Value.int .i64 p1)] w1 (R59 fun r3 w4 =>
M.stA b2 [(Value.int .u32 (bAnd .u32 p0 r3)), (Value.int .i64 (min (max p1 (0 : Int)) (32 : Int)))] w4 fun w5 =>
M.ld (Value.int .u32) b2 w5 fun t7 =>
M.ld (Value.int .i64) (b2.add 1) w5 fun t9 =>
K t7 t9 w5)
theorem F61_ok {w0 : World} {p0 : Int} {p1 : Int} {K : Int → Int → World → Prop} (h : F61 p0 p1 K w0) : Calls Try.prog 61 #[(Value.int .u32 p0), (Value.int .i64 p1)] w0 (R61 K) := by
  refine calls_of_WE (args := [(Value.int .u32 p0), (Value.int .i64 p1)]) (rs := [.cell 4 30]) Try.func61 rfl (N := 13) rfl rfl rfl rfl ?_
  refine WE.seq ?_
  refine WE.reg ?_
  obtain ⟨b2, hpb2, w1, hww1, h⟩ := M.new_use h
  refine LE.r (v := (Value.pointer (some b2))) (Wn.no rfl) rfl (R.alloc (cs := #[(Value.int .u32 (0 : Int)), (Value.int .i64 (0 : Int))]) ze30 rfl hpb2 hww1) ?_
  refine LE.nil ?_
  refine WE.seq ?_
  refine WE.reg ?_
  refine LE.p (v := (Value.int .u32 p0)) (Wn.no rfl) rfl (R.move rfl) ?_
  refine LE.p (v := (Value.int .i64 p1)) (Wn.no rfl) rfl (R.move rfl) ?_
  refine LE.c (Wn.no rfl) rfl (R.call bd59 (Ls.cons rfl Ls.nil) rfl) (Calls.mono h ?_)
  rintro _ w4 ⟨r3, rfl, h⟩
  refine ⟨_, rfl, ?_⟩
  refine LE.p (v := (Value.int .u32 (bAnd .u32 p0 r3))) (Wn.no rfl) rfl (R.and rfl rfl) ?_
  refine LE.p (v := (Value.int .i64 p1)) (Wn.no rfl) rfl (R.move rfl) ?_
  refine LE.p (v := (Value.int .i64 (max p1 (0 : Int)))) (Wn.no rfl) rfl (R.max2 rfl rfl) ?_
  refine LE.p (v := (Value.int .i64 (min (max p1 (0 : Int)) (32 : Int)))) (Wn.no rfl) rfl (R.min2 rfl rfl) ?_
  refine LE.p (v := (Value.agg #[(Value.int .u32 (bAnd .u32 p0 r3)), (Value.int .i64 (min (max p1 (0 : Int)) (32 : Int)))])) (Wn.no rfl) rfl (R.bld (by exact (Ls.cons (R.Pr rfl) (Ls.cons (R.Pr rfl) Ls.nil))) (fun w => bu30_0_1 (bAnd .u32 p0 r3) (min (max p1 (0 : Int)) (32 : Int)) w)) ?_
  obtain ⟨w5, hww5, h6, h⟩ := M.stA_use h
  refine LE.s (Wn.no rfl) rfl (R.stA (a := b2) [(Value.int .u32 (bAnd .u32 p0 r3)), (Value.int .i64 (min (max p1 (0 : Int)) (32 : Int)))] sz30 rfl rfl rfl (by simp [Value.oneCell']) h6 hww5) ?_
  refine LE.nil ?_
  refine WE.ret ?_
  obtain ⟨t7, h8, h⟩ := h
  obtain ⟨t9, h10, h⟩ := h
  exact ⟨_, (Res.cell rfl (R.ldCellA ag30 sz30 rfl (Cs.cons h8 (Cs.cons h10 Cs.nil))) Res.nil), _, _, rfl, h⟩
/-- The formula of (*signpost.trie.node).below. -/
def F62 (p0 : Option Addr) (p1_0 : Int) (p1_1 : Int) (p2 : SV) (K : SV → World → Prop) (w0 : World) : Prop :=
M.new (.cells #[(Value.int .u32 p1_0), (Value.int .i64 p1_1)] 30) w0 fun b2 w1 =>
M.ite (Option.isNone p0) (
K p2 w1) (
M.join (fun (x5 : SV) (w22 : World) => 
M.new (.cells #[(Value.bool false), (Value.bool true)] 4) w22 fun b28 w26 =>
M.loop2 (fun (J31 : SV → Int → World → Prop) (x29 : SV) (x30 : Int) (w32 : World) => 
M.ite (decide (x30 < ((SV.mk (some b28) 2 2).len : Int))) (
M.join (fun (x47 : SV) (w81 : World) => 
J31 x47 (IntKind.i64.wrap (x30 + (1 : Int))) w81) fun J46 => 
M.idx (SV.mk (some b28) 2 2) x30 1 fun a48 =>
M.ld Value.bool (a48.add (x30.toNat * 1)) w32 fun t52 =>
M.ld (Value.int .u32) b2 w32 fun t54 =>
M.ld (Value.int .i64) (b2.add 1) w32 fun t56 =>
Calls Try.prog 63 #[(Value.agg #[(Value.int .u32 t54), (Value.int .i64 t56)]), (Value.bool t52)] w32 (R63 fun r58 r59 r60 w61 =>
M.new (.cells #[(Value.int .u32 (0 : Int)), (Value.int .i64 (0 : Int))] 30) w61 fun b63 w62 =>
M.stA b63 [(Value.int .u32 r58), (Value.int .i64 r59)] w62 fun w64 =>
M.ite r60 (
M.drew w64 fun w67 => 
M.nil p0 fun a68 =>
M.inb x30 2 <|
M.ld Value.pointer (a68.add (x30.toNat * 1)) w67 fun t72 =>
M.ld (Value.int .u32) b63 w67 fun t74 =>
M.ld (Value.int .i64) (b63.add 1) w67 fun t76 =>
Calls Try.prog 62 #[(Value.pointer t72), (Value.agg #[(Value.int .u32 t74), (Value.int .i64 t76)]), (SV.v x29)] w67 (R62 fun r78 w79 =>
J46 r78 w79)) (
J46 x29 w64))) (
K x29 w32)) x5 (0 : Int) w26) fun J4 => 
M.nil p0 fun a6 =>
M.ld Value.bool (a6.add 2) w1 fun t8 =>
M.ite t8 (
M.ld (Value.int .u32) b2 w1 fun t11 =>
M.ld (Value.int .i64) (b2.add 1) w1 fun t13 =>
M.new (.cells #[(Value.int .u32 t11), (Value.int .i64 t13)] 30) w1 fun b17 w15 =>
M.app Try.prog 74 74 74 p2 (SV.v (SV.mk (some b17) 1 1)) w15 fun s18 w19 =>
J4 s18 w19) (
J4 p2 w1))
theorem F62_ok {w0 : World} {p0 : Option Addr} {p1_0 : Int} {p1_1 : Int} {p2 : SV} {K : SV → World → Prop} (h : F62 p0 p1_0 p1_1 p2 K w0) : Calls Try.prog 62 #[(Value.pointer p0), (Value.agg #[(Value.int .u32 p1_0), (Value.int .i64 p1_1)]), (SV.v p2)] w0 (R62 K) := by
  refine calls_of_WE (args := [(Value.pointer p0), (Value.agg #[(Value.int .u32 p1_0), (Value.int .i64 p1_1)]), (SV.v p2)]) (rs := [.tmp 6]) Try.func62 rfl (N := 47) rfl rfl rfl rfl ?_
  refine WE.seq ?_
  refine WE.reg ?_
  obtain ⟨b2, hpb2, w1, hww1, h⟩ := M.new_use h
  refine LE.r (v := (Value.pointer (some b2))) (Wn.no rfl) rfl (R.box (cs := #[(Value.int .u32 p1_0), (Value.int .i64 p1_1)]) rfl rfl hpb2 hww1) ?_
  refine LE.p (v := (SV.v SV.nil)) (Wn.no rfl) rfl (R.assign rfl) ?_
  refine LE.nil ?_
  refine WE.seq ?_
  refine WE.seq ?_
  refine WE.reg ?_
  refine LE.p (v := (Value.pointer p0)) (Wn.no rfl) rfl (R.move rfl) ?_
  refine LE.p (v := (Value.bool (Option.isNone p0))) (Wn.no rfl) rfl (R.peqNil pt83 rfl rfl) ?_
  refine LE.nil ?_
  refine WE.condT rfl (b := (Option.isNone p0)) rfl ?_ ?_
  · intro hb3
    replace h := M.ite_t h hb3
    refine WE.seq ?_
    refine WE.reg ?_
    refine LE.p (v := (SV.v p2)) (Wn.no rfl) rfl (R.move rfl) ?_
    refine LE.p (v := (SV.v p2)) (Wn.no rfl) rfl (R.assign rfl) ?_
    refine LE.nil ?_
    refine WE.ret ?_
    exact ⟨_, (Res.tmp rfl Res.nil), _, rfl, h⟩
  · intro hb3
    replace h := M.ite_f h hb3
    refine WE.skip ?_
    obtain ⟨J4, hJ4, h⟩ := M.join_use h
    refine WE.join (fun e w => ∃ (x5 : SV), J4 x5 w ∧ e 0 = (Value.pointer p0) ∧ e 2 = (SV.v x5) ∧ e 4 = (Value.pointer (some b2))) ?_ ?_
    · clear hJ4
      refine WE.seq ?_
      refine WE.reg ?_
      refine LE.p (v := (Value.pointer p0)) (Wn.no rfl) rfl (R.move rfl) ?_
      obtain ⟨a6, h7, h⟩ := h
      refine LE.p (v := (Value.pointer (some a6))) (Wn.no rfl) rfl (R.nilC (congrArg Value.pointer h7)) ?_
      refine LE.p (v := (Value.pointer (some (a6.add 2)))) (Wn.no rfl) rfl (R.fld (off := 2) fa86_1 rfl) ?_
      obtain ⟨t8, h9, h⟩ := h
      refine LE.r (v := (Value.bool t8)) (Wn.no rfl) rfl (R.ld sc4 rfl h9) ?_
      refine LE.nil ?_
      refine WE.condT rfl (b := t8) rfl ?_ ?_
      · intro hb10
        replace h := M.ite_t h hb10
        refine WE.reg ?_
        refine LE.p (v := (SV.v p2)) (Wn.no rfl) rfl (R.move rfl) ?_
        obtain ⟨t11, h12, h⟩ := h
        obtain ⟨t13, h14, h⟩ := h
        refine LE.r (v := (Value.agg #[(Value.int .u32 t11), (Value.int .i64 t13)])) (Wn.no rfl) rfl (R.ldA ag30 sz30 rfl rfl (Cs.cons h12 (Cs.cons h14 Cs.nil))) ?_
        obtain ⟨b17, hpb17, w15, hww15, h⟩ := M.new_use h
        refine LE.r (v := (SV.v (SV.mk (some b17) 1 1))) (Wn.no rfl) rfl (R.bsl (by exact (Ls.cons (R.Pr rfl) Ls.nil)) (fun w => bs74_1 t11 t13 w) hpb17 hww15) ?_
        obtain ⟨s18, w19, h20, h⟩ := h
        refine LE.r (v := (SV.v s18)) (Wn.no rfl) rfl (R.app (s := p2) (r := s18) rfl rfl h20) ?_
        refine LE.p (v := (SV.v s18)) (Wn.no rfl) rfl (R.assign rfl) ?_
        refine LE.nil ?_
        exact ⟨_, h, rfl, rfl, rfl⟩
      · intro hb10
        replace h := M.ite_f h hb10
        refine WE.skip ?_
        exact ⟨_, h, rfl, rfl, rfl⟩
    · rintro e21 w22 ⟨x5, h, f23, f24, f25⟩
      subst hJ4
      refine WE.seq ?_
      refine WE.seq ?_
      refine WE.reg ?_
      obtain ⟨b28, hpb28, w26, hww26, h⟩ := M.new_use h
      refine LE.r (v := (SV.v (SV.mk (some b28) 2 2))) (Wn.no rfl) rfl (R.bsl (by exact (Ls.cons (R.Pr rfl) (Ls.cons (R.Pr rfl) Ls.nil))) (fun w => bs99_2 false true w) hpb28 hww26) ?_
      refine LE.p (v := (Value.int .i64 ((SV.mk (some b28) 2 2).len : Int))) (Wn.no rfl) rfl (R.len sl99 rfl) ?_
      refine LE.p (v := (Value.int .i64 (0 : Int))) (Wn.no rfl) rfl (R.move rfl) ?_
      refine LE.nil ?_
      refine WE.block ?_
      obtain ⟨I35, ⟨n34, h⟩, hr36⟩ := h
      refine WE.loop (fun n e w => ∃ (x29 : SV) (x30 : Int), I35 n x29 x30 w ∧ e 0 = (Value.pointer p0) ∧ e 2 = (SV.v x29) ∧ e 4 = (Value.pointer (some b2)) ∧ e 22 = (SV.v (SV.mk (some b28) 2 2)) ∧ e 23 = (Value.int .i64 ((SV.mk (some b28) 2 2).len : Int)) ∧ e 24 = (Value.int .i64 x30)) n34 ⟨_, _, h, f23, f24, f25, rfl, rfl, rfl⟩ ?_
      clear h
      rintro n34 e33 w32 ⟨x29, x30, h, f39, f40, f41, f42, f43, f44⟩
      replace h := hr36 n34 x29 x30 w32 h
      refine WE.seq ?_
      refine WE.reg ?_
      refine LE.p (v := (Value.bool (decide (x30 < ((SV.mk (some b28) 2 2).len : Int))))) (Wn.no rfl) rfl (R.lss f44 f43) ?_
      refine LE.nil ?_
      refine WE.seq ?_
      refine WE.condT rfl (b := (decide (x30 < ((SV.mk (some b28) 2 2).len : Int)))) rfl ?_ ?_
      · intro hb45
        replace h := M.ite_t h hb45
        refine WE.skip ?_
        refine WE.seq ?_
        obtain ⟨J46, hJ46, h⟩ := M.join_use h
        refine WE.blkJ (fun e w => ∃ (x47 : SV), J46 x47 w ∧ e 0 = (Value.pointer p0) ∧ e 2 = (SV.v x47) ∧ e 4 = (Value.pointer (some b2)) ∧ e 22 = (SV.v (SV.mk (some b28) 2 2)) ∧ e 23 = (Value.int .i64 ((SV.mk (some b28) 2 2).len : Int)) ∧ e 24 = (Value.int .i64 x30)) ?_ ?_
        · clear hJ46
          refine WE.seq ?_
          refine WE.reg ?_
          refine LE.p (v := (Value.int .i64 x30)) (Wn.no rfl) rfl (R.move f44) ?_
          obtain ⟨a48, h49, h50, h51, h⟩ := h
          refine LE.p (v := (Value.pointer (some (a48.add (x30.toNat * 1))))) (Wn.no rfl) rfl (R.idx (s := (SV.mk (some b28) 2 2)) sl99 f42 f44 h49 h50 h51) ?_
          obtain ⟨t52, h53, h⟩ := h
          refine LE.r (v := (Value.bool t52)) (Wn.no rfl) rfl (R.ld sc4 rfl h53) ?_
          refine LE.p (v := (Value.int .i64 x30)) (Wn.no rfl) rfl (R.assign rfl) ?_
          refine LE.p (v := (Value.bool t52)) (Wn.no rfl) rfl (R.assign rfl) ?_
          refine LE.nil ?_
          refine WE.seq ?_
          refine WE.reg ?_
          obtain ⟨t54, h55, h⟩ := h
          obtain ⟨t56, h57, h⟩ := h
          refine LE.r (v := (Value.agg #[(Value.int .u32 t54), (Value.int .i64 t56)])) (Wn.no rfl) rfl (R.ldA ag30 sz30 f41 rfl (Cs.cons h55 (Cs.cons h57 Cs.nil))) ?_
          refine LE.p (v := (Value.bool t52)) (Wn.no rfl) rfl (R.move rfl) ?_
          refine LE.c (Wn.no rfl) rfl (R.call bd63 (Ls.cons rfl (Ls.cons rfl Ls.nil)) rfl) (Calls.mono h ?_)
          rintro _ w61 ⟨r58, r59, r60, rfl, h⟩
          refine ⟨_, rfl, ?_⟩
          refine LE.p (v := (Value.tuple #[(Value.agg #[(Value.int .u32 r58), (Value.int .i64 r59)]), (Value.bool r60)])) (Wn.no rfl) rfl (R.move rfl) ?_
          refine LE.p (v := (Value.agg #[(Value.int .u32 r58), (Value.int .i64 r59)])) (Wn.no rfl) rfl (R.ext rfl rfl) ?_
          refine LE.p (v := (Value.bool r60)) (Wn.no rfl) rfl (R.ext rfl rfl) ?_
          obtain ⟨b63, hpb63, w62, hww62, h⟩ := M.new_use h
          refine LE.r (v := (Value.pointer (some b63))) (Wn.no rfl) rfl (R.alloc (cs := #[(Value.int .u32 (0 : Int)), (Value.int .i64 (0 : Int))]) ze30 rfl hpb63 hww62) ?_
          obtain ⟨w64, hww64, h65, h⟩ := M.stA_use h
          refine LE.s (Wn.no rfl) rfl (R.stA (a := b63) [(Value.int .u32 r58), (Value.int .i64 r59)] sz30 rfl rfl rfl (by simp [Value.oneCell']) h65 hww64) ?_
          refine LE.p (v := (Value.bool r60)) (Wn.no rfl) rfl (R.assign rfl) ?_
          refine LE.nil ?_
          refine WE.seq ?_
          refine WE.reg ?_
          refine LE.p (v := (Value.bool r60)) (Wn.no rfl) rfl (R.move rfl) ?_
          refine LE.nil ?_
          refine WE.condT rfl (b := r60) rfl ?_ ?_
          · intro hb66
            replace h := M.ite_t h hb66
            refine WE.draw mix ?_
            obtain ⟨w67, hww67, h⟩ := M.drew_use h
            rw [← hww67]
            clear hww67
            refine DE.t 0 (v := (Value.pointer p0)) rfl (by kernel_rfl) (Wn.no rfl) rfl (R.move f39) ?_
            refine DE.t 1 (v := (Value.int .i64 x30)) rfl (by kernel_rfl) (Wn.no rfl) rfl (R.move rfl) ?_
            obtain ⟨a68, h69, h⟩ := h
            refine DE.t 2 (v := (Value.pointer (some a68))) rfl (by kernel_rfl) (Wn.no rfl) rfl (R.nilC (congrArg Value.pointer h69)) ?_
            refine DE.t 3 (v := (Value.pointer (some a68))) rfl (by kernel_rfl) (Wn.no rfl) rfl (R.fld (off := 0) fa86_0 rfl) ?_
            obtain ⟨h70, h71, h⟩ := h
            refine DE.t 4 (v := (Value.pointer (some (a68.add (x30.toNat * 1))))) rfl (by kernel_rfl) (Wn.no rfl) rfl (R.idxArr ar84 rfl rfl h70 h71) ?_
            refine DE.t 7 (v := (SV.v x29)) rfl (by kernel_rfl) (Wn.no rfl) rfl (R.move f40) ?_
            obtain ⟨t72, h73, h⟩ := h
            refine DE.hold 5 (fun w => w.cell? (a68.add (x30.toNat * 1)) = some (Value.pointer t72)) (v := (Value.pointer t72)) rfl (by kernel_rfl) (Wn.no rfl) rfl h73 (fun w hs => R.ld sc83 rfl hs) ?_
            obtain ⟨t74, h75, h⟩ := h
            obtain ⟨t76, h77, h⟩ := h
            refine DE.main 6 (by kernel_rfl) ?_
            refine One.r 6 (v := (Value.agg #[(Value.int .u32 t74), (Value.int .i64 t76)])) rfl (Wn.no rfl) rfl (R.ldA ag30 sz30 rfl rfl (Cs.cons h75 (Cs.cons h77 Cs.nil))) (.inl rfl) ?_
            refine DE.main 8 (by kernel_rfl) ?_
            refine One.c 8 rfl (Wn.no rfl) rfl (R.call bd62 (Ls.cons rfl (Ls.cons rfl (Ls.cons rfl Ls.nil))) rfl) (Calls.mono h ?_)
            rintro _ w79 ⟨r78, rfl, h⟩
            refine ⟨_, rfl, ⟨aftT (by kernel_rfl), trivial⟩, ?_⟩
            refine DE.t 9 (v := (SV.v r78)) rfl (by kernel_rfl) (Wn.no rfl) rfl (R.assign rfl) ?_
            refine DE.done (by kernel_rfl) ?_
            exact ⟨_, h, f39, rfl, f41, f42, f43, f44⟩
          · intro hb66
            replace h := M.ite_f h hb66
            refine WE.skip ?_
            exact ⟨_, h, f39, f40, f41, f42, f43, f44⟩
        · rintro e80 w81 ⟨x47, h, f82, f83, f84, f85, f86, f87⟩
          subst hJ46
          refine WE.reg ?_
          refine LE.p (v := (Value.int .i64 (IntKind.i64.wrap (x30 + (1 : Int))))) (Wn.no rfl) rfl (R.add f87 rfl) ?_
          refine LE.p (v := (Value.int .i64 (IntKind.i64.wrap (x30 + (1 : Int))))) (Wn.no rfl) rfl (R.move rfl) ?_
          refine LE.nil ?_
          obtain ⟨m37, hm38, h⟩ := h
          exact ⟨m37, hm38, _, _, h, f82, f83, f84, f85, f86, rfl⟩
      · intro hb45
        replace h := M.ite_f h hb45
        refine WE.exit ?_
        refine WE.seq ?_
        refine WE.reg ?_
        refine LE.p (v := (SV.v x29)) (Wn.no rfl) rfl (R.move f40) ?_
        refine LE.p (v := (SV.v x29)) (Wn.no rfl) rfl (R.assign rfl) ?_
        refine LE.nil ?_
        refine WE.ret ?_
        exact ⟨_, (Res.tmp rfl Res.nil), _, rfl, h⟩
/-- The formula of signpost.addr.Half. -/
def F63 (p0_0 : Int) (p0_1 : Int) (p1 : Bool) (K : Int → Int → Bool → World → Prop) (w0 : World) : Prop :=
M.new (.cells #[(Value.int .u32 p0_0), (Value.int .i64 p0_1)] 30) w0 fun b2 w1 =>
M.new (.cells #[(Value.int .u32 (0 : Int)), (Value.int .i64 (0 : Int))] 30) w1 fun b4 w3 =>
M.join (fun (x6 : Bool) (w17 : World) => 
M.ite x6 (
M.stA b4 [(Value.int .u32 (0 : Int)), (Value.int .i64 (0 : Int))] w17 fun w23 =>
M.ld (Value.int .u32) b4 w23 fun t25 =>
M.ld (Value.int .i64) (b4.add 1) w23 fun t27 =>
K t25 t27 false w23) (
M.ld (Value.int .u32) b2 w17 fun t29 =>
M.join (fun (x32 : Int) (w38 : World) => 
M.ld (Value.int .i64) (b2.add 1) w38 fun t42 =>
M.stA b4 [(Value.int .u32 x32), (Value.int .i64 (IntKind.i64.wrap (t42 + (1 : Int))))] w38 fun w44 =>
M.ld (Value.int .u32) b4 w44 fun t46 =>
M.ld (Value.int .i64) (b4.add 1) w44 fun t48 =>
K t46 t48 true w44) fun J31 => 
M.ite p1 (
M.ld (Value.int .i64) (b2.add 1) w17 fun t34 =>
M.sh (IntKind.i64.wrap ((31 : Int) - t34)) <|
J31 (bOr .u32 t29 (bShl .u32 (1 : Int) (IntKind.i64.wrap ((31 : Int) - t34)))) w17) (
J31 t29 w17))) fun J5 => 
M.ld (Value.int .u32) b2 w3 fun t7 =>
M.ld (Value.int .i64) (b2.add 1) w3 fun t9 =>
Calls Try.prog 47 #[(Value.agg #[(Value.int .u32 t7), (Value.int .i64 t9)])] w3 (R47 fun r11 w12 =>
M.ite (!r11) (
J5 true w12) (
M.ld (Value.int .i64) (b2.add 1) w12 fun t14 =>
J5 (t14 == (32 : Int)) w12))
theorem F63_ok {w0 : World} {p0_0 : Int} {p0_1 : Int} {p1 : Bool} {K : Int → Int → Bool → World → Prop} (h : F63 p0_0 p0_1 p1 K w0) : Calls Try.prog 63 #[(Value.agg #[(Value.int .u32 p0_0), (Value.int .i64 p0_1)]), (Value.bool p1)] w0 (R63 K) := by
  refine calls_of_WE (args := [(Value.agg #[(Value.int .u32 p0_0), (Value.int .i64 p0_1)]), (Value.bool p1)]) (rs := [.cell 4 30, .tmp 5]) Try.func63 rfl (N := 30) rfl rfl rfl rfl ?_
  refine WE.seq ?_
  refine WE.reg ?_
  obtain ⟨b2, hpb2, w1, hww1, h⟩ := M.new_use h
  refine LE.r (v := (Value.pointer (some b2))) (Wn.no rfl) rfl (R.box (cs := #[(Value.int .u32 p0_0), (Value.int .i64 p0_1)]) rfl rfl hpb2 hww1) ?_
  obtain ⟨b4, hpb4, w3, hww3, h⟩ := M.new_use h
  refine LE.r (v := (Value.pointer (some b4))) (Wn.no rfl) rfl (R.alloc (cs := #[(Value.int .u32 (0 : Int)), (Value.int .i64 (0 : Int))]) ze30 rfl hpb4 hww3) ?_
  refine LE.p (v := (Value.bool false)) (Wn.no rfl) rfl (R.assign rfl) ?_
  refine LE.nil ?_
  refine WE.seq ?_
  refine WE.seq ?_
  obtain ⟨J5, hJ5, h⟩ := M.join_use h
  refine WE.regJ (fun e w => ∃ (x6 : Bool), J5 x6 w ∧ e 1 = (Value.bool p1) ∧ e 2 = (Value.pointer (some b2)) ∧ e 4 = (Value.pointer (some b4)) ∧ e 14 = (Value.bool x6)) ?_ ?_
  · clear hJ5
    obtain ⟨t7, h8, h⟩ := h
    obtain ⟨t9, h10, h⟩ := h
    refine LE.r (v := (Value.agg #[(Value.int .u32 t7), (Value.int .i64 t9)])) (Wn.no rfl) rfl (R.ldA ag30 sz30 rfl rfl (Cs.cons h8 (Cs.cons h10 Cs.nil))) ?_
    refine LE.c (Wn.no rfl) rfl (R.call bd47 (Ls.cons rfl Ls.nil) rfl) (Calls.mono h ?_)
    rintro _ w12 ⟨r11, rfl, h⟩
    refine ⟨_, rfl, ?_⟩
    refine LE.p (v := (Value.bool (!r11))) (Wn.no rfl) rfl (R.not rfl) ?_
    refine LE.p (v := (Value.bool (!r11))) (Wn.no rfl) rfl (R.move rfl) ?_
    rcases M.ite_use h with ⟨hb13, h⟩ | ⟨hb13, h⟩
    · refine LE.u (Un.no 3 10 false rfl rfl rfl (congrArg Value.bool hb13)) ?_
      refine LE.u (Un.no 3 10 false rfl rfl rfl (congrArg Value.bool hb13)) ?_
      refine LE.u (Un.no 3 10 false rfl rfl rfl (congrArg Value.bool hb13)) ?_
      refine LE.p (v := (Value.bool true)) (Wn.no rfl) rfl (R.pickT (congrArg Value.bool hb13) rfl) ?_
      refine LE.nil ?_
      exact ⟨_, h, rfl, rfl, rfl, rfl⟩
    · refine LE.p (v := (Value.pointer (some (b2.add 1)))) (Wn.yes 3 10 false rfl rfl rfl (congrArg Value.bool hb13)) rfl (R.fld (off := 1) fa30_1 rfl) ?_
      obtain ⟨t14, h15, h⟩ := h
      refine LE.r (v := (Value.int .i64 t14)) (Wn.yes 3 10 false rfl rfl rfl (congrArg Value.bool hb13)) rfl (R.ld sc3 rfl h15) ?_
      refine LE.p (v := (Value.bool (t14 == (32 : Int)))) (Wn.yes 3 10 false rfl rfl rfl (congrArg Value.bool hb13)) rfl (R.eql rfl rfl) ?_
      refine LE.p (v := (Value.bool (t14 == (32 : Int)))) (Wn.no rfl) rfl (R.pickF (congrArg Value.bool hb13) rfl) ?_
      refine LE.nil ?_
      exact ⟨_, h, rfl, rfl, rfl, rfl⟩
  · rintro e16 w17 ⟨x6, h, f18, f19, f20, f21⟩
    subst hJ5
    refine WE.condT rfl (b := x6) f21 ?_ ?_
    · intro hb22
      replace h := M.ite_t h hb22
      refine WE.seq ?_
      refine WE.reg ?_
      refine LE.p (v := (Value.agg #[(Value.int .u32 (0 : Int)), (Value.int .i64 (0 : Int))])) (Wn.no rfl) rfl (R.bld (by exact Ls.nil) (fun w => bu30_  w)) ?_
      obtain ⟨w23, hww23, h24, h⟩ := M.stA_use h
      refine LE.s (Wn.no rfl) rfl (R.stA (a := b4) [(Value.int .u32 (0 : Int)), (Value.int .i64 (0 : Int))] sz30 f20 rfl rfl (by simp [Value.oneCell']) h24 hww23) ?_
      refine LE.p (v := (Value.bool false)) (Wn.no rfl) rfl (R.assign rfl) ?_
      refine LE.nil ?_
      refine WE.ret ?_
      obtain ⟨t25, h26, h⟩ := h
      obtain ⟨t27, h28, h⟩ := h
      exact ⟨_, (Res.cell f20 (R.ldCellA ag30 sz30 rfl (Cs.cons h26 (Cs.cons h28 Cs.nil))) (Res.tmp rfl Res.nil)), _, _, _, rfl, h⟩
    · intro hb22
      replace h := M.ite_f h hb22
      refine WE.skip ?_
      refine WE.seq ?_
      refine WE.reg ?_
      refine LE.p (v := (Value.pointer (some b2))) (Wn.no rfl) rfl (R.fld (off := 0) fa30_0 f19) ?_
      obtain ⟨t29, h30, h⟩ := h
      refine LE.r (v := (Value.int .u32 t29)) (Wn.no rfl) rfl (R.ld sc23 rfl h30) ?_
      refine LE.p (v := (Value.int .u32 t29)) (Wn.no rfl) rfl (R.assign rfl) ?_
      refine LE.nil ?_
      obtain ⟨J31, hJ31, h⟩ := M.join_use h
      refine WE.join (fun e w => ∃ (x32 : Int), J31 x32 w ∧ e 2 = (Value.pointer (some b2)) ∧ e 4 = (Value.pointer (some b4)) ∧ e 6 = (Value.int .u32 x32)) ?_ ?_
      · clear hJ31
        refine WE.seq ?_
        refine WE.reg ?_
        refine LE.p (v := (Value.bool p1)) (Wn.no rfl) rfl (R.move f18) ?_
        refine LE.nil ?_
        refine WE.condT rfl (b := p1) rfl ?_ ?_
        · intro hb33
          replace h := M.ite_t h hb33
          refine WE.reg ?_
          refine LE.p (v := (Value.int .u32 t29)) (Wn.no rfl) rfl (R.move rfl) ?_
          refine LE.p (v := (Value.pointer (some (b2.add 1)))) (Wn.no rfl) rfl (R.fld (off := 1) fa30_1 f19) ?_
          obtain ⟨t34, h35, h⟩ := h
          refine LE.r (v := (Value.int .i64 t34)) (Wn.no rfl) rfl (R.ld sc3 rfl h35) ?_
          refine LE.p (v := (Value.int .i64 (IntKind.i64.wrap ((31 : Int) - t34)))) (Wn.no rfl) rfl (R.sub rfl rfl) ?_
          obtain ⟨h36, h⟩ := h
          refine LE.p (v := (Value.int .u32 (bShl .u32 (1 : Int) (IntKind.i64.wrap ((31 : Int) - t34))))) (Wn.no rfl) rfl (R.shl rfl rfl h36) ?_
          refine LE.p (v := (Value.int .u32 (bOr .u32 t29 (bShl .u32 (1 : Int) (IntKind.i64.wrap ((31 : Int) - t34)))))) (Wn.no rfl) rfl (R.or rfl rfl) ?_
          refine LE.p (v := (Value.int .u32 (bOr .u32 t29 (bShl .u32 (1 : Int) (IntKind.i64.wrap ((31 : Int) - t34)))))) (Wn.no rfl) rfl (R.assign rfl) ?_
          refine LE.nil ?_
          exact ⟨_, h, f19, f20, rfl⟩
        · intro hb33
          replace h := M.ite_f h hb33
          refine WE.skip ?_
          exact ⟨_, h, f19, f20, rfl⟩
      · rintro e37 w38 ⟨x32, h, f39, f40, f41⟩
        subst hJ31
        refine WE.seq ?_
        refine WE.reg ?_
        refine LE.p (v := (Value.int .u32 x32)) (Wn.no rfl) rfl (R.move f41) ?_
        refine LE.p (v := (Value.pointer (some (b2.add 1)))) (Wn.no rfl) rfl (R.fld (off := 1) fa30_1 f39) ?_
        obtain ⟨t42, h43, h⟩ := h
        refine LE.r (v := (Value.int .i64 t42)) (Wn.no rfl) rfl (R.ld sc3 rfl h43) ?_
        refine LE.p (v := (Value.int .i64 (IntKind.i64.wrap (t42 + (1 : Int))))) (Wn.no rfl) rfl (R.add rfl rfl) ?_
        refine LE.p (v := (Value.agg #[(Value.int .u32 x32), (Value.int .i64 (IntKind.i64.wrap (t42 + (1 : Int))))])) (Wn.no rfl) rfl (R.bld (by exact (Ls.cons (R.Pr rfl) (Ls.cons (R.Pr rfl) Ls.nil))) (fun w => bu30_0_1 x32 (IntKind.i64.wrap (t42 + (1 : Int))) w)) ?_
        obtain ⟨w44, hww44, h45, h⟩ := M.stA_use h
        refine LE.s (Wn.no rfl) rfl (R.stA (a := b4) [(Value.int .u32 x32), (Value.int .i64 (IntKind.i64.wrap (t42 + (1 : Int))))] sz30 f40 rfl rfl (by simp [Value.oneCell']) h45 hww44) ?_
        refine LE.p (v := (Value.bool true)) (Wn.no rfl) rfl (R.assign rfl) ?_
        refine LE.nil ?_
        refine WE.ret ?_
        obtain ⟨t46, h47, h⟩ := h
        obtain ⟨t48, h49, h⟩ := h
        exact ⟨_, (Res.cell f40 (R.ldCellA ag30 sz30 rfl (Cs.cons h47 (Cs.cons h49 Cs.nil))) (Res.tmp rfl Res.nil)), _, _, _, rfl, h⟩
end Go.Proofs.Ytnkpjlojijppiaa
