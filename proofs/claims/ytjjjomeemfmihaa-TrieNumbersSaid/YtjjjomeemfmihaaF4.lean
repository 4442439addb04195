/-
  Printed by gen.py: the formula of each function, and that it holds of the function.
-/
import Derived.Test.YtjjjomeemfmihaaTy
namespace Go.Proofs.Ytjjjomeemfmihaa
set_option linter.unusedVariables false
set_option linter.unusedSimpArgs false
open Go.Sp
set_option linter.unusedVariables false
/-- The formula of (*signpost.signpostref3.Trie).Cut. -/
def F39 (p0 : Option Addr) (p1_0 : Int) (p1_1 : Int) (K : Bool → World → Prop) (w0 : World) : Prop :=
M.new (.cells #[(Value.int .u32 p1_0), (Value.int .i64 p1_1)] 27) w0 fun b2 w1 =>
M.ld (Value.int .u32) b2 w1 fun t3 =>
M.ld (Value.int .i64) (b2.add 1) w1 fun t5 =>
Calls Try.prog 47 #[(Value.pointer p0), (Value.agg #[(Value.int .u32 t3), (Value.int .i64 t5)])] w1 (R47 fun r7 w8 =>
M.ite (decide (r7 < (0 : Int))) (
K false w8) (
M.drew w8 fun w10 => 
M.nil p0 fun a11 =>
M.nil p0 fun a13 =>
M.ld SV.v a11 w10 fun t15 =>
M.bnd (0 : Int) r7 t15 <|
M.ld SV.v a13 w10 fun t21 =>
M.bnd (IntKind.i64.wrap (r7 + (1 : Int))) (t21.len : Int) t21 <|
M.new (.cells #[] 27) w10 fun b29 w27 =>
M.keep (w27.cell? a13 = some (SV.v t21)) <|
M.keep (w27.cell? a11 = some (SV.v t15)) <|
M.app Try.prog 33 33 33 (SV.mk (some b29) 0 0) (SV.v (SV.sub t15 (Int.toNat (0 : Int)) (Int.toNat r7) 2)) w27 fun s32 w33 =>
M.keep (w33.cell? a13 = some (SV.v t21)) <|
M.app Try.prog 33 33 33 s32 (SV.v (SV.sub t21 (Int.toNat (IntKind.i64.wrap (r7 + (1 : Int)))) (Int.toNat (t21.len : Int)) 2)) w33 fun s36 w37 =>
M.nil p0 fun a39 =>
M.st a39 (SV.v s36) w37 fun w41 =>
M.drew w41 fun w44 => 
M.nil p0 fun a45 =>
M.nil p0 fun a47 =>
M.ld SV.v (a45.add 1) w44 fun t49 =>
M.bnd (0 : Int) r7 t49 <|
M.ld SV.v (a47.add 1) w44 fun t55 =>
M.bnd (IntKind.i64.wrap (r7 + (1 : Int))) (t55.len : Int) t55 <|
M.new (.cells #[] 3) w44 fun b63 w61 =>
M.keep (w61.cell? (a47.add 1) = some (SV.v t55)) <|
M.keep (w61.cell? (a45.add 1) = some (SV.v t49)) <|
M.app Try.prog 53 53 53 (SV.mk (some b63) 0 0) (SV.v (SV.sub t49 (Int.toNat (0 : Int)) (Int.toNat r7) 1)) w61 fun s66 w67 =>
M.keep (w67.cell? (a47.add 1) = some (SV.v t55)) <|
M.app Try.prog 53 53 53 s66 (SV.v (SV.sub t55 (Int.toNat (IntKind.i64.wrap (r7 + (1 : Int)))) (Int.toNat (t55.len : Int)) 1)) w67 fun s70 w71 =>
M.nil p0 fun a73 =>
M.st (a73.add 1) (SV.v s70) w71 fun w75 =>
K true w75))
theorem F39_ok {w0 : World} {p0 : Option Addr} {p1_0 : Int} {p1_1 : Int} {K : Bool → World → Prop} (h : F39 p0 p1_0 p1_1 K w0) : Calls Try.prog 39 #[(Value.pointer p0), (Value.agg #[(Value.int .u32 p1_0), (Value.int .i64 p1_1)])] w0 (R39 K) := by
  refine calls_of_WE (args := [(Value.pointer p0), (Value.agg #[(Value.int .u32 p1_0), (Value.int .i64 p1_1)])]) (rs := [.tmp 4]) Try.func39 rfl (N := 49) rfl rfl rfl rfl ?_
  refine WE.seq ?_
  refine WE.reg ?_
  obtain ⟨b2, hpb2, w1, hww1, h⟩ := M.new_use h
  refine LE.r (v := (Value.pointer (some b2))) (Wn.no rfl) rfl (R.box (cs := #[(Value.int .u32 p1_0), (Value.int .i64 p1_1)]) rfl rfl hpb2 hww1) ?_
  refine LE.p (v := (Value.bool false)) (Wn.no rfl) rfl (R.assign rfl) ?_
  refine LE.nil ?_
  refine WE.seq ?_
  refine WE.reg ?_
  refine LE.p (v := (Value.pointer p0)) (Wn.no rfl) rfl (R.move rfl) ?_
  obtain ⟨t3, h4, h⟩ := h
  obtain ⟨t5, h6, h⟩ := h
  refine LE.r (v := (Value.agg #[(Value.int .u32 t3), (Value.int .i64 t5)])) (Wn.no rfl) rfl (R.ldA ag27 sz27 rfl rfl (Cs.cons h4 (Cs.cons h6 Cs.nil))) ?_
  refine LE.c (Wn.no rfl) rfl (R.call bd47 (Ls.cons rfl (Ls.cons rfl Ls.nil)) rfl) (Calls.mono h ?_)
  rintro _ w8 ⟨r7, rfl, h⟩
  refine ⟨_, rfl, ?_⟩
  refine LE.p (v := (Value.int .i64 r7)) (Wn.no rfl) rfl (R.assign rfl) ?_
  refine LE.nil ?_
  refine WE.seq ?_
  refine WE.seq ?_
  refine WE.reg ?_
  refine LE.p (v := (Value.int .i64 r7)) (Wn.no rfl) rfl (R.move rfl) ?_
  refine LE.p (v := (Value.bool (decide (r7 < (0 : Int))))) (Wn.no rfl) rfl (R.lss rfl rfl) ?_
  refine LE.nil ?_
  refine WE.condT rfl (b := (decide (r7 < (0 : Int)))) rfl ?_ ?_
  · intro hb9
    replace h := M.ite_t h hb9
    refine WE.seq ?_
    refine WE.reg ?_
    refine LE.p (v := (Value.bool false)) (Wn.no rfl) rfl (R.assign rfl) ?_
    refine LE.nil ?_
    refine WE.ret ?_
    exact ⟨_, (Res.tmp rfl Res.nil), _, rfl, h⟩
  · intro hb9
    replace h := M.ite_f h hb9
    refine WE.skip ?_
    refine WE.seq ?_
    refine WE.draw mix ?_
    obtain ⟨w10, hww10, h⟩ := M.drew_use h
    rw [← hww10]
    clear hww10
    refine DE.t 0 (v := (Value.pointer p0)) rfl (by kernel_rfl) (Wn.no rfl) rfl (R.move rfl) ?_
    refine DE.t 2 (v := (Value.pointer p0)) rfl (by kernel_rfl) (Wn.no rfl) rfl (R.move rfl) ?_
    obtain ⟨a11, h12, h⟩ := h
    refine DE.t 3 (v := (Value.pointer (some a11))) rfl (by kernel_rfl) (Wn.no rfl) rfl (R.nilC (congrArg Value.pointer h12)) ?_
    refine DE.t 4 (v := (Value.pointer (some a11))) rfl (by kernel_rfl) (Wn.no rfl) rfl (R.fld (off := 0) fa55_0 rfl) ?_
    refine DE.t 6 (v := (Value.int .i64 r7)) rfl (by kernel_rfl) (Wn.no rfl) rfl (R.move rfl) ?_
    refine DE.t 9 (v := (Value.pointer p0)) rfl (by kernel_rfl) (Wn.no rfl) rfl (R.move rfl) ?_
    obtain ⟨a13, h14, h⟩ := h
    refine DE.t 10 (v := (Value.pointer (some a13))) rfl (by kernel_rfl) (Wn.no rfl) rfl (R.nilC (congrArg Value.pointer h14)) ?_
    refine DE.t 11 (v := (Value.pointer (some a13))) rfl (by kernel_rfl) (Wn.no rfl) rfl (R.fld (off := 0) fa55_0 rfl) ?_
    refine DE.t 13 (v := (Value.int .i64 r7)) rfl (by kernel_rfl) (Wn.no rfl) rfl (R.move rfl) ?_
    refine DE.t 14 (v := (Value.int .i64 (IntKind.i64.wrap (r7 + (1 : Int))))) rfl (by kernel_rfl) (Wn.no rfl) rfl (R.add rfl rfl) ?_
    obtain ⟨t15, h16, h⟩ := h
    refine DE.hold 5 (fun w => w.cell? a11 = some (SV.v t15)) (v := (SV.v t15)) rfl (by kernel_rfl) (Wn.no rfl) rfl h16 (fun w hs => R.ld sc33 rfl hs) ?_
    obtain ⟨h17, h18, h19, h⟩ := h
    refine DE.t 7 (v := (SV.v (SV.sub t15 (Int.toNat (0 : Int)) (Int.toNat r7) 2))) rfl (by kernel_rfl) (Wn.no rfl) rfl (R.slc (s := t15) (lo := (0 : Int)) (hi := r7) _ _ sl33 rfl rfl rfl h17 h18 h19) ?_
    obtain ⟨t21, h22, h⟩ := h
    refine DE.hold 12 (fun w => w.cell? a13 = some (SV.v t21)) (v := (SV.v t21)) rfl (by kernel_rfl) (Wn.no rfl) rfl h22 (fun w hs => R.ld sc33 rfl hs) ?_
    obtain ⟨h23, h24, h25, h⟩ := h
    refine DE.t 15 (v := (SV.v (SV.sub t21 (Int.toNat (IntKind.i64.wrap (r7 + (1 : Int)))) (Int.toNat (t21.len : Int)) 2))) rfl (by kernel_rfl) (Wn.no rfl) rfl (R.slc (s := t21) (lo := (IntKind.i64.wrap (r7 + (1 : Int)))) (hi := (t21.len : Int)) _ _ sl33 rfl rfl rfl h23 h24 h25) ?_
    obtain ⟨b29, hpb29, w27, hww27, h⟩ := M.new_use h
    obtain ⟨k30, h⟩ := h
    obtain ⟨k31, h⟩ := h
    refine DE.main 1 (by kernel_rfl) ?_
    refine One.r 1 (v := (SV.v (SV.mk (some b29) 0 0))) rfl (Wn.no rfl) rfl (R.bsl (by exact Ls.nil) (fun w => bs33_0  w) hpb29 hww27) (.inr ⟨fun _ => k30, fun _ => k31, trivial⟩) ?_
    obtain ⟨s32, w33, h34, h⟩ := h
    obtain ⟨k35, h⟩ := h
    refine DE.main 8 (by kernel_rfl) ?_
    refine One.r 8 (v := (SV.v s32)) rfl (Wn.no rfl) rfl (R.app (s := (SV.mk (some b29) 0 0)) (r := s32) rfl rfl h34) (.inr ⟨fun _ => k35, aftT (by kernel_rfl), trivial⟩) ?_
    obtain ⟨s36, w37, h38, h⟩ := h
    refine DE.main 16 (by kernel_rfl) ?_
    refine One.r 16 (v := (SV.v s36)) rfl (Wn.no rfl) rfl (R.app (s := s32) (r := s36) rfl rfl h38) (.inr ⟨aftT (by kernel_rfl), aftT (by kernel_rfl), trivial⟩) ?_
    obtain ⟨a39, h40, h⟩ := h
    refine DE.t 17 (v := (Value.pointer (some a39))) rfl (by kernel_rfl) (Wn.no rfl) rfl (R.nilC (congrArg Value.pointer h40)) ?_
    refine DE.t 18 (v := (Value.pointer (some a39))) rfl (by kernel_rfl) (Wn.no rfl) rfl (R.fld (off := 0) fa55_0 rfl) ?_
    obtain ⟨w41, hww41, h42, h43, h⟩ := M.st_use h
    refine DE.main 19 (by kernel_rfl) ?_
    refine One.s 19 rfl (Wn.no rfl) rfl (R.st (a := a39) (v := (SV.v s36)) sz33 rfl rfl rfl rfl h42 h43 hww41) ⟨aftT (by kernel_rfl), aftT (by kernel_rfl), trivial⟩ ?_
    refine DE.done (by kernel_rfl) ?_
    refine WE.seq ?_
    refine WE.draw mix ?_
    obtain ⟨w44, hww44, h⟩ := M.drew_use h
    rw [← hww44]
    clear hww44
    refine DE.t 0 (v := (Value.pointer p0)) rfl (by kernel_rfl) (Wn.no rfl) rfl (R.move rfl) ?_
    refine DE.t 2 (v := (Value.pointer p0)) rfl (by kernel_rfl) (Wn.no rfl) rfl (R.move rfl) ?_
    obtain ⟨a45, h46, h⟩ := h
    refine DE.t 3 (v := (Value.pointer (some a45))) rfl (by kernel_rfl) (Wn.no rfl) rfl (R.nilC (congrArg Value.pointer h46)) ?_
    refine DE.t 4 (v := (Value.pointer (some (a45.add 1)))) rfl (by kernel_rfl) (Wn.no rfl) rfl (R.fld (off := 1) fa55_1 rfl) ?_
    refine DE.t 6 (v := (Value.int .i64 r7)) rfl (by kernel_rfl) (Wn.no rfl) rfl (R.move rfl) ?_
    refine DE.t 9 (v := (Value.pointer p0)) rfl (by kernel_rfl) (Wn.no rfl) rfl (R.move rfl) ?_
    obtain ⟨a47, h48, h⟩ := h
    refine DE.t 10 (v := (Value.pointer (some a47))) rfl (by kernel_rfl) (Wn.no rfl) rfl (R.nilC (congrArg Value.pointer h48)) ?_
    refine DE.t 11 (v := (Value.pointer (some (a47.add 1)))) rfl (by kernel_rfl) (Wn.no rfl) rfl (R.fld (off := 1) fa55_1 rfl) ?_
    refine DE.t 13 (v := (Value.int .i64 r7)) rfl (by kernel_rfl) (Wn.no rfl) rfl (R.move rfl) ?_
    refine DE.t 14 (v := (Value.int .i64 (IntKind.i64.wrap (r7 + (1 : Int))))) rfl (by kernel_rfl) (Wn.no rfl) rfl (R.add rfl rfl) ?_
    obtain ⟨t49, h50, h⟩ := h
    refine DE.hold 5 (fun w => w.cell? (a45.add 1) = some (SV.v t49)) (v := (SV.v t49)) rfl (by kernel_rfl) (Wn.no rfl) rfl h50 (fun w hs => R.ld sc53 rfl hs) ?_
    obtain ⟨h51, h52, h53, h⟩ := h
    refine DE.t 7 (v := (SV.v (SV.sub t49 (Int.toNat (0 : Int)) (Int.toNat r7) 1))) rfl (by kernel_rfl) (Wn.no rfl) rfl (R.slc (s := t49) (lo := (0 : Int)) (hi := r7) _ _ sl53 rfl rfl rfl h51 h52 h53) ?_
    obtain ⟨t55, h56, h⟩ := h
    refine DE.hold 12 (fun w => w.cell? (a47.add 1) = some (SV.v t55)) (v := (SV.v t55)) rfl (by kernel_rfl) (Wn.no rfl) rfl h56 (fun w hs => R.ld sc53 rfl hs) ?_
    obtain ⟨h57, h58, h59, h⟩ := h
    refine DE.t 15 (v := (SV.v (SV.sub t55 (Int.toNat (IntKind.i64.wrap (r7 + (1 : Int)))) (Int.toNat (t55.len : Int)) 1))) rfl (by kernel_rfl) (Wn.no rfl) rfl (R.slc (s := t55) (lo := (IntKind.i64.wrap (r7 + (1 : Int)))) (hi := (t55.len : Int)) _ _ sl53 rfl rfl rfl h57 h58 h59) ?_
    obtain ⟨b63, hpb63, w61, hww61, h⟩ := M.new_use h
    obtain ⟨k64, h⟩ := h
    obtain ⟨k65, h⟩ := h
    refine DE.main 1 (by kernel_rfl) ?_
    refine One.r 1 (v := (SV.v (SV.mk (some b63) 0 0))) rfl (Wn.no rfl) rfl (R.bsl (by exact Ls.nil) (fun w => bs53_0  w) hpb63 hww61) (.inr ⟨fun _ => k64, fun _ => k65, trivial⟩) ?_
    obtain ⟨s66, w67, h68, h⟩ := h
    obtain ⟨k69, h⟩ := h
    refine DE.main 8 (by kernel_rfl) ?_
    refine One.r 8 (v := (SV.v s66)) rfl (Wn.no rfl) rfl (R.app (s := (SV.mk (some b63) 0 0)) (r := s66) rfl rfl h68) (.inr ⟨fun _ => k69, aftT (by kernel_rfl), trivial⟩) ?_
    obtain ⟨s70, w71, h72, h⟩ := h
    refine DE.main 16 (by kernel_rfl) ?_
    refine One.r 16 (v := (SV.v s70)) rfl (Wn.no rfl) rfl (R.app (s := s66) (r := s70) rfl rfl h72) (.inr ⟨aftT (by kernel_rfl), aftT (by kernel_rfl), trivial⟩) ?_
    obtain ⟨a73, h74, h⟩ := h
    refine DE.t 17 (v := (Value.pointer (some a73))) rfl (by kernel_rfl) (Wn.no rfl) rfl (R.nilC (congrArg Value.pointer h74)) ?_
    refine DE.t 18 (v := (Value.pointer (some (a73.add 1)))) rfl (by kernel_rfl) (Wn.no rfl) rfl (R.fld (off := 1) fa55_1 rfl) ?_
    obtain ⟨w75, hww75, h76, h77, h⟩ := M.st_use h
    refine DE.main 19 (by kernel_rfl) ?_
    refine One.s 19 rfl (Wn.no rfl) rfl (R.st (a := (a73.add 1)) (v := (SV.v s70)) sz53 rfl rfl rfl rfl h76 h77 hww75) ⟨aftT (by kernel_rfl), aftT (by kernel_rfl), trivial⟩ ?_
    refine DE.done (by kernel_rfl) ?_
    refine WE.seq ?_
    refine WE.reg ?_
    refine LE.p (v := (Value.bool true)) (Wn.no rfl) rfl (R.assign rfl) ?_
    refine LE.nil ?_
    refine WE.ret ?_
    exact ⟨_, (Res.tmp rfl Res.nil), _, rfl, h⟩
/-- The formula of (*signpost.signpostref3.Trie).Get. -/
def F40 (p0 : Option Addr) (p1_0 : Int) (p1_1 : Int) (K : Int → Bool → World → Prop) (w0 : World) : Prop :=
M.new (.cells #[(Value.int .u32 p1_0), (Value.int .i64 p1_1)] 27) w0 fun b2 w1 =>
M.ld (Value.int .u32) b2 w1 fun t3 =>
M.ld (Value.int .i64) (b2.add 1) w1 fun t5 =>
Calls Try.prog 47 #[(Value.pointer p0), (Value.agg #[(Value.int .u32 t3), (Value.int .i64 t5)])] w1 (R47 fun r7 w8 =>
M.ite (decide (r7 < (0 : Int))) (
K (0 : Int) false w8) (
M.nil p0 fun a10 =>
M.ld SV.v (a10.add 1) w8 fun t12 =>
M.idx t12 r7 1 fun a14 =>
M.ld (Value.int .i64) (a14.add (r7.toNat * 1)) w8 fun t18 =>
K t18 true w8))
theorem F40_ok {w0 : World} {p0 : Option Addr} {p1_0 : Int} {p1_1 : Int} {K : Int → Bool → World → Prop} (h : F40 p0 p1_0 p1_1 K w0) : Calls Try.prog 40 #[(Value.pointer p0), (Value.agg #[(Value.int .u32 p1_0), (Value.int .i64 p1_1)])] w0 (R40 K) := by
  refine calls_of_WE (args := [(Value.pointer p0), (Value.agg #[(Value.int .u32 p1_0), (Value.int .i64 p1_1)])]) (rs := [.tmp 4, .tmp 5]) Try.func40 rfl (N := 19) rfl rfl rfl rfl ?_
  refine WE.seq ?_
  refine WE.reg ?_
  obtain ⟨b2, hpb2, w1, hww1, h⟩ := M.new_use h
  refine LE.r (v := (Value.pointer (some b2))) (Wn.no rfl) rfl (R.box (cs := #[(Value.int .u32 p1_0), (Value.int .i64 p1_1)]) rfl rfl hpb2 hww1) ?_
  refine LE.p (v := (Value.int .i64 (0 : Int))) (Wn.no rfl) rfl (R.assign rfl) ?_
  refine LE.p (v := (Value.bool false)) (Wn.no rfl) rfl (R.assign rfl) ?_
  refine LE.nil ?_
  refine WE.seq ?_
  refine WE.reg ?_
  refine LE.p (v := (Value.pointer p0)) (Wn.no rfl) rfl (R.move rfl) ?_
  obtain ⟨t3, h4, h⟩ := h
  obtain ⟨t5, h6, h⟩ := h
  refine LE.r (v := (Value.agg #[(Value.int .u32 t3), (Value.int .i64 t5)])) (Wn.no rfl) rfl (R.ldA ag27 sz27 rfl rfl (Cs.cons h4 (Cs.cons h6 Cs.nil))) ?_
  refine LE.c (Wn.no rfl) rfl (R.call bd47 (Ls.cons rfl (Ls.cons rfl Ls.nil)) rfl) (Calls.mono h ?_)
  rintro _ w8 ⟨r7, rfl, h⟩
  refine ⟨_, rfl, ?_⟩
  refine LE.p (v := (Value.int .i64 r7)) (Wn.no rfl) rfl (R.assign rfl) ?_
  refine LE.nil ?_
  refine WE.seq ?_
  refine WE.seq ?_
  refine WE.reg ?_
  refine LE.p (v := (Value.int .i64 r7)) (Wn.no rfl) rfl (R.move rfl) ?_
  refine LE.p (v := (Value.bool (decide (r7 < (0 : Int))))) (Wn.no rfl) rfl (R.lss rfl rfl) ?_
  refine LE.nil ?_
  refine WE.condT rfl (b := (decide (r7 < (0 : Int)))) rfl ?_ ?_
  · intro hb9
    replace h := M.ite_t h hb9
    refine WE.seq ?_
    refine WE.reg ?_
    refine LE.p (v := (Value.int .i64 (0 : Int))) (Wn.no rfl) rfl (R.assign rfl) ?_
    refine LE.p (v := (Value.bool false)) (Wn.no rfl) rfl (R.assign rfl) ?_
    refine LE.nil ?_
    refine WE.ret ?_
    exact ⟨_, (Res.tmp rfl (Res.tmp rfl Res.nil)), _, _, rfl, h⟩
  · intro hb9
    replace h := M.ite_f h hb9
    refine WE.skip ?_
    refine WE.seq ?_
    refine WE.reg ?_
    refine LE.p (v := (Value.pointer p0)) (Wn.no rfl) rfl (R.move rfl) ?_
    obtain ⟨a10, h11, h⟩ := h
    refine LE.p (v := (Value.pointer (some a10))) (Wn.no rfl) rfl (R.nilC (congrArg Value.pointer h11)) ?_
    refine LE.p (v := (Value.pointer (some (a10.add 1)))) (Wn.no rfl) rfl (R.fld (off := 1) fa55_1 rfl) ?_
    obtain ⟨t12, h13, h⟩ := h
    refine LE.r (v := (SV.v t12)) (Wn.no rfl) rfl (R.ld sc53 rfl h13) ?_
    refine LE.p (v := (Value.int .i64 r7)) (Wn.no rfl) rfl (R.move rfl) ?_
    obtain ⟨a14, h15, h16, h17, h⟩ := h
    refine LE.p (v := (Value.pointer (some (a14.add (r7.toNat * 1))))) (Wn.no rfl) rfl (R.idx (s := t12) sl53 rfl rfl h15 h16 h17) ?_
    obtain ⟨t18, h19, h⟩ := h
    refine LE.r (v := (Value.int .i64 t18)) (Wn.no rfl) rfl (R.ld sc3 rfl h19) ?_
    refine LE.p (v := (Value.int .i64 t18)) (Wn.no rfl) rfl (R.assign rfl) ?_
    refine LE.p (v := (Value.bool true)) (Wn.no rfl) rfl (R.assign rfl) ?_
    refine LE.nil ?_
    refine WE.ret ?_
    exact ⟨_, (Res.tmp rfl (Res.tmp rfl Res.nil)), _, _, rfl, h⟩
/-- The formula of (*signpost.signpostref3.Trie).Match. -/
def F41 (p0 : Option Addr) (p1 : Int) (K : Int → Int → Int → Bool → World → Prop) (w0 : World) : Prop :=
M.new (.cells #[(Value.int .u32 (0 : Int)), (Value.int .i64 (0 : Int))] 27) w0 fun b2 w1 =>
M.loop2 (fun (J5 : Int → Int → World → Prop) (x3 : Int) (x4 : Int) (w6 : World) => 
M.nil p0 fun a18 =>
M.ld SV.v a18 w6 fun t20 =>
M.ite (decide (x4 < (t20.len : Int))) (
M.join (fun (x24 : Int) (w74 : World) => 
J5 x24 (IntKind.i64.wrap (x4 + (1 : Int))) w74) fun J23 => 
M.join (fun (x26 : Bool) (w65 : World) => 
M.ite x26 (
J23 x4 w65) (
J23 x3 w65)) fun J25 => 
M.drew w6 fun w27 => 
M.nil p0 fun a28 =>
M.ld SV.v a28 w27 fun t30 =>
M.idx t30 x4 2 fun a32 =>
M.ld (Value.int .u32) (a32.add (x4.toNat * 2)) w27 fun t36 =>
M.ld (Value.int .i64) ((a32.add (x4.toNat * 2)).add 1) w27 fun t38 =>
Calls Try.prog 21 #[(Value.agg #[(Value.int .u32 t36), (Value.int .i64 t38)]), (Value.int .u32 p1)] w27 (R21 fun r40 w41 =>
M.ite r40 (
M.ite (decide (x3 < (0 : Int))) (
J25 true w41) (
M.nil p0 fun a44 =>
M.nil p0 fun a46 =>
M.ld SV.v a44 w41 fun t48 =>
M.idx t48 x4 2 fun a50 =>
M.ld (Value.int .i64) ((a50.add (x4.toNat * 2)).add 1) w41 fun t54 =>
M.ld SV.v a46 w41 fun t56 =>
M.idx t56 x3 2 fun a58 =>
M.ld (Value.int .i64) ((a58.add (x3.toNat * 2)).add 1) w41 fun t62 =>
J25 (decide (t62 < t54)) w41)) (
J25 false w41))) (
M.ite (decide (x3 < (0 : Int))) (
M.stA b2 [(Value.int .u32 (0 : Int)), (Value.int .i64 (0 : Int))] w6 fun w81 =>
M.ld (Value.int .u32) b2 w81 fun t83 =>
M.ld (Value.int .i64) (b2.add 1) w81 fun t85 =>
K t83 t85 (0 : Int) false w81) (
M.drew w6 fun w87 => 
M.nil p0 fun a88 =>
M.nil p0 fun a90 =>
M.ld SV.v a88 w87 fun t92 =>
M.idx t92 x3 2 fun a94 =>
M.ld (Value.int .u32) (a94.add (x3.toNat * 2)) w87 fun t98 =>
M.ld (Value.int .i64) ((a94.add (x3.toNat * 2)).add 1) w87 fun t100 =>
M.ld SV.v (a90.add 1) w87 fun t102 =>
M.idx t102 x3 1 fun a104 =>
M.ld (Value.int .i64) (a104.add (x3.toNat * 1)) w87 fun t108 =>
M.stA b2 [(Value.int .u32 t98), (Value.int .i64 t100)] w87 fun w110 =>
M.keep (w110.cell? (a104.add (x3.toNat * 1)) = some (Value.int .i64 t108)) <|
M.keep (w110.cell? (a90.add 1) = some (SV.v t102)) <|
M.ld (Value.int .u32) b2 w110 fun t114 =>
M.ld (Value.int .i64) (b2.add 1) w110 fun t116 =>
K t114 t116 t108 true w110))) (-1 : Int) (0 : Int) w1
theorem F41_ok {w0 : World} {p0 : Option Addr} {p1 : Int} {K : Int → Int → Int → Bool → World → Prop} (h : F41 p0 p1 K w0) : Calls Try.prog 41 #[(Value.pointer p0), (Value.int .u32 p1)] w0 (R41 K) := by
  refine calls_of_WE (args := [(Value.pointer p0), (Value.int .u32 p1)]) (rs := [.cell 4 27, .tmp 5, .tmp 6]) Try.func41 rfl (N := 68) rfl rfl rfl rfl ?_
  refine WE.seq ?_
  refine WE.reg ?_
  obtain ⟨b2, hpb2, w1, hww1, h⟩ := M.new_use h
  refine LE.r (v := (Value.pointer (some b2))) (Wn.no rfl) rfl (R.alloc (cs := #[(Value.int .u32 (0 : Int)), (Value.int .i64 (0 : Int))]) ze27 rfl hpb2 hww1) ?_
  refine LE.p (v := (Value.int .i64 (0 : Int))) (Wn.no rfl) rfl (R.assign rfl) ?_
  refine LE.p (v := (Value.bool false)) (Wn.no rfl) rfl (R.assign rfl) ?_
  refine LE.nil ?_
  refine WE.seq ?_
  refine WE.reg ?_
  refine LE.p (v := (Value.int .i64 (-1 : Int))) (Wn.no rfl) rfl (R.assign rfl) ?_
  refine LE.nil ?_
  refine WE.seq ?_
  refine WE.seq ?_
  refine WE.reg ?_
  refine LE.p (v := (Value.int .i64 (0 : Int))) (Wn.no rfl) rfl (R.assign rfl) ?_
  refine LE.nil ?_
  refine WE.block ?_
  obtain ⟨I9, ⟨n8, h⟩, hr10⟩ := h
  refine WE.loop (fun n e w => ∃ (x3 : Int) (x4 : Int), I9 n x3 x4 w ∧ e 0 = (Value.pointer p0) ∧ e 1 = (Value.int .u32 p1) ∧ e 4 = (Value.pointer (some b2)) ∧ e 7 = (Value.int .i64 x3) ∧ e 8 = (Value.int .i64 x4)) n8 ⟨_, _, h, rfl, rfl, rfl, rfl, rfl⟩ ?_
  clear h
  rintro n8 e7 w6 ⟨x3, x4, h, f13, f14, f15, f16, f17⟩
  replace h := hr10 n8 x3 x4 w6 h
  refine WE.seq ?_
  refine WE.seq ?_
  refine WE.reg ?_
  refine LE.p (v := (Value.int .i64 x4)) (Wn.no rfl) rfl (R.move f17) ?_
  refine LE.p (v := (Value.pointer p0)) (Wn.no rfl) rfl (R.move f13) ?_
  obtain ⟨a18, h19, h⟩ := h
  refine LE.p (v := (Value.pointer (some a18))) (Wn.no rfl) rfl (R.nilC (congrArg Value.pointer h19)) ?_
  refine LE.p (v := (Value.pointer (some a18))) (Wn.no rfl) rfl (R.fld (off := 0) fa55_0 rfl) ?_
  obtain ⟨t20, h21, h⟩ := h
  refine LE.r (v := (SV.v t20)) (Wn.no rfl) rfl (R.ld sc33 rfl h21) ?_
  refine LE.p (v := (Value.int .i64 (t20.len : Int))) (Wn.no rfl) rfl (R.len sl33 rfl) ?_
  refine LE.p (v := (Value.bool (decide (x4 < (t20.len : Int))))) (Wn.no rfl) rfl (R.lss rfl rfl) ?_
  refine LE.nil ?_
  refine WE.condT rfl (b := (decide (x4 < (t20.len : Int)))) rfl ?_ ?_
  · intro hb22
    replace h := M.ite_t h hb22
    refine WE.skip ?_
    refine WE.seq ?_
    obtain ⟨J23, hJ23, h⟩ := M.join_use h
    refine WE.blkJ (fun e w => ∃ (x24 : Int), J23 x24 w ∧ e 0 = (Value.pointer p0) ∧ e 1 = (Value.int .u32 p1) ∧ e 4 = (Value.pointer (some b2)) ∧ e 7 = (Value.int .i64 x24) ∧ e 8 = (Value.int .i64 x4)) ?_ ?_
    · clear hJ23
      refine WE.seq ?_
      obtain ⟨J25, hJ25, h⟩ := M.join_use h
      refine WE.drawJ (fun e w => ∃ (x26 : Bool), J25 x26 w ∧ e 0 = (Value.pointer p0) ∧ e 1 = (Value.int .u32 p1) ∧ e 4 = (Value.pointer (some b2)) ∧ e 7 = (Value.int .i64 x3) ∧ e 8 = (Value.int .i64 x4) ∧ e 49 = (Value.bool x26)) mix ?_ ?_
      · clear hJ25
        obtain ⟨w27, hww27, h⟩ := M.drew_use h
        rw [← hww27]
        clear hww27
        refine DE.t 0 (v := (Value.pointer p0)) rfl (by kernel_rfl) (Wn.no rfl) rfl (R.move f13) ?_
        obtain ⟨a28, h29, h⟩ := h
        refine DE.t 1 (v := (Value.pointer (some a28))) rfl (by kernel_rfl) (Wn.no rfl) rfl (R.nilC (congrArg Value.pointer h29)) ?_
        refine DE.t 2 (v := (Value.pointer (some a28))) rfl (by kernel_rfl) (Wn.no rfl) rfl (R.fld (off := 0) fa55_0 rfl) ?_
        refine DE.t 4 (v := (Value.int .i64 x4)) rfl (by kernel_rfl) (Wn.no rfl) rfl (R.move f17) ?_
        refine DE.t 7 (v := (Value.int .u32 p1)) rfl (by kernel_rfl) (Wn.no rfl) rfl (R.move f14) ?_
        obtain ⟨t30, h31, h⟩ := h
        refine DE.main 3 (by kernel_rfl) ?_
        refine One.r 3 (v := (SV.v t30)) rfl (Wn.no rfl) rfl (R.ld sc33 rfl h31) (.inl rfl) ?_
        obtain ⟨a32, h33, h34, h35, h⟩ := h
        refine DE.t 5 (v := (Value.pointer (some (a32.add (x4.toNat * 2))))) rfl (by kernel_rfl) (Wn.no rfl) rfl (R.idx (s := t30) sl33 rfl rfl h33 h34 h35) ?_
        obtain ⟨t36, h37, h⟩ := h
        obtain ⟨t38, h39, h⟩ := h
        refine DE.main 6 (by kernel_rfl) ?_
        refine One.r 6 (v := (Value.agg #[(Value.int .u32 t36), (Value.int .i64 t38)])) rfl (Wn.no rfl) rfl (R.ldA ag27 sz27 rfl rfl (Cs.cons h37 (Cs.cons h39 Cs.nil))) (.inl rfl) ?_
        refine DE.main 8 (by kernel_rfl) ?_
        refine One.c 8 rfl (Wn.no rfl) rfl (R.call bd21 (Ls.cons rfl (Ls.cons rfl Ls.nil)) rfl) (Calls.mono h ?_)
        rintro _ w41 ⟨r40, rfl, h⟩
        refine ⟨_, rfl, trivial, ?_⟩
        refine DE.t 9 (v := (Value.bool r40)) rfl (by kernel_rfl) (Wn.no rfl) rfl (R.move rfl) ?_
        rcases M.ite_use h with ⟨hb42, h⟩ | ⟨hb42, h⟩
        · refine DE.t 10 (v := (Value.int .i64 x3)) rfl (by kernel_rfl) (Wn.yes 9 27 true rfl rfl rfl (congrArg Value.bool hb42)) rfl (R.move f16) ?_
          refine DE.t 11 (v := (Value.bool (decide (x3 < (0 : Int))))) rfl (by kernel_rfl) (Wn.yes 9 27 true rfl rfl rfl (congrArg Value.bool hb42)) rfl (R.lss rfl rfl) ?_
          refine DE.t 12 (v := (Value.bool (decide (x3 < (0 : Int))))) rfl (by kernel_rfl) (Wn.yes 9 27 true rfl rfl rfl (congrArg Value.bool hb42)) rfl (R.move rfl) ?_
          rcases M.ite_use h with ⟨hb43, h⟩ | ⟨hb43, h⟩
          · refine DE.u 13 rfl (by kernel_rfl) (Un.no 12 30 false rfl rfl rfl (congrArg Value.bool hb43)) ?_
            refine DE.u 14 rfl (by kernel_rfl) (Un.no 12 30 false rfl rfl rfl (congrArg Value.bool hb43)) ?_
            refine DE.u 15 rfl (by kernel_rfl) (Un.no 12 30 false rfl rfl rfl (congrArg Value.bool hb43)) ?_
            refine DE.u 16 rfl (by kernel_rfl) (Un.no 12 30 false rfl rfl rfl (congrArg Value.bool hb43)) ?_
            refine DE.u 17 rfl (by kernel_rfl) (Un.no 12 30 false rfl rfl rfl (congrArg Value.bool hb43)) ?_
            refine DE.u 18 rfl (by kernel_rfl) (Un.no 12 30 false rfl rfl rfl (congrArg Value.bool hb43)) ?_
            refine DE.u 19 rfl (by kernel_rfl) (Un.no 12 30 false rfl rfl rfl (congrArg Value.bool hb43)) ?_
            refine DE.u 20 rfl (by kernel_rfl) (Un.no 12 30 false rfl rfl rfl (congrArg Value.bool hb43)) ?_
            refine DE.u 21 rfl (by kernel_rfl) (Un.no 12 30 false rfl rfl rfl (congrArg Value.bool hb43)) ?_
            refine DE.u 22 rfl (by kernel_rfl) (Un.no 12 30 false rfl rfl rfl (congrArg Value.bool hb43)) ?_
            refine DE.u 23 rfl (by kernel_rfl) (Un.no 12 30 false rfl rfl rfl (congrArg Value.bool hb43)) ?_
            refine DE.u 24 rfl (by kernel_rfl) (Un.no 12 30 false rfl rfl rfl (congrArg Value.bool hb43)) ?_
            refine DE.u 25 rfl (by kernel_rfl) (Un.no 12 30 false rfl rfl rfl (congrArg Value.bool hb43)) ?_
            refine DE.u 26 rfl (by kernel_rfl) (Un.no 12 30 false rfl rfl rfl (congrArg Value.bool hb43)) ?_
            refine DE.u 27 rfl (by kernel_rfl) (Un.no 12 30 false rfl rfl rfl (congrArg Value.bool hb43)) ?_
            refine DE.u 28 rfl (by kernel_rfl) (Un.no 12 30 false rfl rfl rfl (congrArg Value.bool hb43)) ?_
            refine DE.u 29 rfl (by kernel_rfl) (Un.no 12 30 false rfl rfl rfl (congrArg Value.bool hb43)) ?_
            refine DE.t 30 (v := (Value.bool true)) rfl (by kernel_rfl) (Wn.yes 9 27 true rfl rfl rfl (congrArg Value.bool hb42)) rfl (R.pickT (congrArg Value.bool hb43) rfl) ?_
            refine DE.t 31 (v := (Value.bool true)) rfl (by kernel_rfl) (Wn.no rfl) rfl (R.pickT (congrArg Value.bool hb42) rfl) ?_
            refine DE.done (by kernel_rfl) ?_
            exact ⟨_, h, f13, f14, f15, f16, f17, rfl⟩
          · refine DE.t 13 (v := (Value.pointer p0)) rfl (by kernel_rfl) (Wn.yes 12 30 false rfl rfl rfl (congrArg Value.bool hb43)) rfl (R.move f13) ?_
            obtain ⟨a44, h45, h⟩ := h
            refine DE.t 14 (v := (Value.pointer (some a44))) rfl (by kernel_rfl) (Wn.yes 12 30 false rfl rfl rfl (congrArg Value.bool hb43)) rfl (R.nilC (congrArg Value.pointer h45)) ?_
            refine DE.t 15 (v := (Value.pointer (some a44))) rfl (by kernel_rfl) (Wn.yes 12 30 false rfl rfl rfl (congrArg Value.bool hb43)) rfl (R.fld (off := 0) fa55_0 rfl) ?_
            refine DE.t 17 (v := (Value.int .i64 x4)) rfl (by kernel_rfl) (Wn.yes 12 30 false rfl rfl rfl (congrArg Value.bool hb43)) rfl (R.move f17) ?_
            refine DE.t 21 (v := (Value.pointer p0)) rfl (by kernel_rfl) (Wn.yes 12 30 false rfl rfl rfl (congrArg Value.bool hb43)) rfl (R.move f13) ?_
            obtain ⟨a46, h47, h⟩ := h
            refine DE.t 22 (v := (Value.pointer (some a46))) rfl (by kernel_rfl) (Wn.yes 12 30 false rfl rfl rfl (congrArg Value.bool hb43)) rfl (R.nilC (congrArg Value.pointer h47)) ?_
            refine DE.t 23 (v := (Value.pointer (some a46))) rfl (by kernel_rfl) (Wn.yes 12 30 false rfl rfl rfl (congrArg Value.bool hb43)) rfl (R.fld (off := 0) fa55_0 rfl) ?_
            refine DE.t 25 (v := (Value.int .i64 x3)) rfl (by kernel_rfl) (Wn.yes 12 30 false rfl rfl rfl (congrArg Value.bool hb43)) rfl (R.move f16) ?_
            obtain ⟨t48, h49, h⟩ := h
            refine DE.hold 16 (fun w => w.cell? a44 = some (SV.v t48)) (v := (SV.v t48)) rfl (by kernel_rfl) (Wn.yes 12 30 false rfl rfl rfl (congrArg Value.bool hb43)) rfl h49 (fun w hs => R.ld sc33 rfl hs) ?_
            obtain ⟨a50, h51, h52, h53, h⟩ := h
            refine DE.t 18 (v := (Value.pointer (some (a50.add (x4.toNat * 2))))) rfl (by kernel_rfl) (Wn.yes 12 30 false rfl rfl rfl (congrArg Value.bool hb43)) rfl (R.idx (s := t48) sl33 rfl rfl h51 h52 h53) ?_
            refine DE.t 19 (v := (Value.pointer (some ((a50.add (x4.toNat * 2)).add 1)))) rfl (by kernel_rfl) (Wn.yes 12 30 false rfl rfl rfl (congrArg Value.bool hb43)) rfl (R.fld (off := 1) fa27_1 rfl) ?_
            obtain ⟨t54, h55, h⟩ := h
            refine DE.hold 20 (fun w => w.cell? ((a50.add (x4.toNat * 2)).add 1) = some (Value.int .i64 t54)) (v := (Value.int .i64 t54)) rfl (by kernel_rfl) (Wn.yes 12 30 false rfl rfl rfl (congrArg Value.bool hb43)) rfl h55 (fun w hs => R.ld sc3 rfl hs) ?_
            obtain ⟨t56, h57, h⟩ := h
            refine DE.main 24 (by kernel_rfl) ?_
            refine One.r 24 (v := (SV.v t56)) rfl (Wn.yes 12 30 false rfl rfl rfl (congrArg Value.bool hb43)) rfl (R.ld sc33 rfl h57) (.inl rfl) ?_
            obtain ⟨a58, h59, h60, h61, h⟩ := h
            refine DE.t 26 (v := (Value.pointer (some (a58.add (x3.toNat * 2))))) rfl (by kernel_rfl) (Wn.yes 12 30 false rfl rfl rfl (congrArg Value.bool hb43)) rfl (R.idx (s := t56) sl33 rfl rfl h59 h60 h61) ?_
            refine DE.t 27 (v := (Value.pointer (some ((a58.add (x3.toNat * 2)).add 1)))) rfl (by kernel_rfl) (Wn.yes 12 30 false rfl rfl rfl (congrArg Value.bool hb43)) rfl (R.fld (off := 1) fa27_1 rfl) ?_
            obtain ⟨t62, h63, h⟩ := h
            refine DE.main 28 (by kernel_rfl) ?_
            refine One.r 28 (v := (Value.int .i64 t62)) rfl (Wn.yes 12 30 false rfl rfl rfl (congrArg Value.bool hb43)) rfl (R.ld sc3 rfl h63) (.inl rfl) ?_
            refine DE.t 29 (v := (Value.bool (decide (t62 < t54)))) rfl (by kernel_rfl) (Wn.yes 12 30 false rfl rfl rfl (congrArg Value.bool hb43)) rfl (R.gtr rfl rfl) ?_
            refine DE.t 30 (v := (Value.bool (decide (t62 < t54)))) rfl (by kernel_rfl) (Wn.yes 9 27 true rfl rfl rfl (congrArg Value.bool hb42)) rfl (R.pickF (congrArg Value.bool hb43) rfl) ?_
            refine DE.t 31 (v := (Value.bool (decide (t62 < t54)))) rfl (by kernel_rfl) (Wn.no rfl) rfl (R.pickT (congrArg Value.bool hb42) rfl) ?_
            refine DE.done (by kernel_rfl) ?_
            exact ⟨_, h, f13, f14, f15, f16, f17, rfl⟩
        · refine DE.u 10 rfl (by kernel_rfl) (Un.no 9 27 true rfl rfl rfl (congrArg Value.bool hb42)) ?_
          refine DE.u 11 rfl (by kernel_rfl) (Un.no 9 27 true rfl rfl rfl (congrArg Value.bool hb42)) ?_
          refine DE.u 12 rfl (by kernel_rfl) (Un.no 9 27 true rfl rfl rfl (congrArg Value.bool hb42)) ?_
          refine DE.u 13 rfl (by kernel_rfl) (Un.un 12 30 false rfl rfl rfl rfl) ?_
          refine DE.u 14 rfl (by kernel_rfl) (Un.un 12 30 false rfl rfl rfl rfl) ?_
          refine DE.u 15 rfl (by kernel_rfl) (Un.un 12 30 false rfl rfl rfl rfl) ?_
          refine DE.u 16 rfl (by kernel_rfl) (Un.un 12 30 false rfl rfl rfl rfl) ?_
          refine DE.u 17 rfl (by kernel_rfl) (Un.un 12 30 false rfl rfl rfl rfl) ?_
          refine DE.u 18 rfl (by kernel_rfl) (Un.un 12 30 false rfl rfl rfl rfl) ?_
          refine DE.u 19 rfl (by kernel_rfl) (Un.un 12 30 false rfl rfl rfl rfl) ?_
          refine DE.u 20 rfl (by kernel_rfl) (Un.un 12 30 false rfl rfl rfl rfl) ?_
          refine DE.u 21 rfl (by kernel_rfl) (Un.un 12 30 false rfl rfl rfl rfl) ?_
          refine DE.u 22 rfl (by kernel_rfl) (Un.un 12 30 false rfl rfl rfl rfl) ?_
          refine DE.u 23 rfl (by kernel_rfl) (Un.un 12 30 false rfl rfl rfl rfl) ?_
          refine DE.u 24 rfl (by kernel_rfl) (Un.un 12 30 false rfl rfl rfl rfl) ?_
          refine DE.u 25 rfl (by kernel_rfl) (Un.un 12 30 false rfl rfl rfl rfl) ?_
          refine DE.u 26 rfl (by kernel_rfl) (Un.un 12 30 false rfl rfl rfl rfl) ?_
          refine DE.u 27 rfl (by kernel_rfl) (Un.un 12 30 false rfl rfl rfl rfl) ?_
          refine DE.u 28 rfl (by kernel_rfl) (Un.un 12 30 false rfl rfl rfl rfl) ?_
          refine DE.u 29 rfl (by kernel_rfl) (Un.un 12 30 false rfl rfl rfl rfl) ?_
          refine DE.u 30 rfl (by kernel_rfl) (Un.no 9 27 true rfl rfl rfl (congrArg Value.bool hb42)) ?_
          refine DE.t 31 (v := (Value.bool false)) rfl (by kernel_rfl) (Wn.no rfl) rfl (R.pickF (congrArg Value.bool hb42) rfl) ?_
          refine DE.done (by kernel_rfl) ?_
          exact ⟨_, h, f13, f14, f15, f16, f17, rfl⟩
      · rintro e64 w65 ⟨x26, h, f66, f67, f68, f69, f70, f71⟩
        subst hJ25
        refine WE.condT rfl (b := x26) f71 ?_ ?_
        · intro hb72
          replace h := M.ite_t h hb72
          refine WE.reg ?_
          refine LE.p (v := (Value.int .i64 x4)) (Wn.no rfl) rfl (R.move f70) ?_
          refine LE.p (v := (Value.int .i64 x4)) (Wn.no rfl) rfl (R.assign rfl) ?_
          refine LE.nil ?_
          exact ⟨_, h, f66, f67, f68, rfl, f70⟩
        · intro hb72
          replace h := M.ite_f h hb72
          refine WE.skip ?_
          exact ⟨_, h, f66, f67, f68, f69, f70⟩
    · rintro e73 w74 ⟨x24, h, f75, f76, f77, f78, f79⟩
      subst hJ23
      refine WE.reg ?_
      refine LE.p (v := (Value.int .i64 x4)) (Wn.no rfl) rfl (R.move f79) ?_
      refine LE.p (v := (Value.int .i64 (IntKind.i64.wrap (x4 + (1 : Int))))) (Wn.no rfl) rfl (R.add rfl rfl) ?_
      refine LE.p (v := (Value.int .i64 (IntKind.i64.wrap (x4 + (1 : Int))))) (Wn.no rfl) rfl (R.assign rfl) ?_
      refine LE.nil ?_
      obtain ⟨m11, hm12, h⟩ := h
      exact ⟨m11, hm12, _, _, h, f75, f76, f77, f78, rfl⟩
  · intro hb22
    replace h := M.ite_f h hb22
    refine WE.exit ?_
    refine WE.seq ?_
    refine WE.seq ?_
    refine WE.reg ?_
    refine LE.p (v := (Value.int .i64 x3)) (Wn.no rfl) rfl (R.move f16) ?_
    refine LE.p (v := (Value.bool (decide (x3 < (0 : Int))))) (Wn.no rfl) rfl (R.lss rfl rfl) ?_
    refine LE.nil ?_
    refine WE.condT rfl (b := (decide (x3 < (0 : Int)))) rfl ?_ ?_
    · intro hb80
      replace h := M.ite_t h hb80
      refine WE.seq ?_
      refine WE.reg ?_
      refine LE.p (v := (Value.agg #[(Value.int .u32 (0 : Int)), (Value.int .i64 (0 : Int))])) (Wn.no rfl) rfl (R.bld (by exact Ls.nil) (fun w => bu27_  w)) ?_
      obtain ⟨w81, hww81, h82, h⟩ := M.stA_use h
      refine LE.s (Wn.no rfl) rfl (R.stA (a := b2) [(Value.int .u32 (0 : Int)), (Value.int .i64 (0 : Int))] sz27 f15 rfl rfl (by simp [Value.oneCell']) h82 hww81) ?_
      refine LE.p (v := (Value.int .i64 (0 : Int))) (Wn.no rfl) rfl (R.assign rfl) ?_
      refine LE.p (v := (Value.bool false)) (Wn.no rfl) rfl (R.assign rfl) ?_
      refine LE.nil ?_
      refine WE.ret ?_
      obtain ⟨t83, h84, h⟩ := h
      obtain ⟨t85, h86, h⟩ := h
      exact ⟨_, (Res.cell f15 (R.ldCellA ag27 sz27 rfl (Cs.cons h84 (Cs.cons h86 Cs.nil))) (Res.tmp rfl (Res.tmp rfl Res.nil))), _, _, _, _, rfl, h⟩
    · intro hb80
      replace h := M.ite_f h hb80
      refine WE.skip ?_
      refine WE.seq ?_
      refine WE.draw mix ?_
      obtain ⟨w87, hww87, h⟩ := M.drew_use h
      rw [← hww87]
      clear hww87
      refine DE.t 0 (v := (Value.pointer p0)) rfl (by kernel_rfl) (Wn.no rfl) rfl (R.move f13) ?_
      obtain ⟨a88, h89, h⟩ := h
      refine DE.t 1 (v := (Value.pointer (some a88))) rfl (by kernel_rfl) (Wn.no rfl) rfl (R.nilC (congrArg Value.pointer h89)) ?_
      refine DE.t 2 (v := (Value.pointer (some a88))) rfl (by kernel_rfl) (Wn.no rfl) rfl (R.fld (off := 0) fa55_0 rfl) ?_
      refine DE.t 4 (v := (Value.int .i64 x3)) rfl (by kernel_rfl) (Wn.no rfl) rfl (R.move f16) ?_
      refine DE.t 7 (v := (Value.pointer p0)) rfl (by kernel_rfl) (Wn.no rfl) rfl (R.move f13) ?_
      obtain ⟨a90, h91, h⟩ := h
      refine DE.t 8 (v := (Value.pointer (some a90))) rfl (by kernel_rfl) (Wn.no rfl) rfl (R.nilC (congrArg Value.pointer h91)) ?_
      refine DE.t 9 (v := (Value.pointer (some (a90.add 1)))) rfl (by kernel_rfl) (Wn.no rfl) rfl (R.fld (off := 1) fa55_1 rfl) ?_
      refine DE.t 11 (v := (Value.int .i64 x3)) rfl (by kernel_rfl) (Wn.no rfl) rfl (R.move f16) ?_
      obtain ⟨t92, h93, h⟩ := h
      refine DE.hold 3 (fun w => w.cell? a88 = some (SV.v t92)) (v := (SV.v t92)) rfl (by kernel_rfl) (Wn.no rfl) rfl h93 (fun w hs => R.ld sc33 rfl hs) ?_
      obtain ⟨a94, h95, h96, h97, h⟩ := h
      refine DE.t 5 (v := (Value.pointer (some (a94.add (x3.toNat * 2))))) rfl (by kernel_rfl) (Wn.no rfl) rfl (R.idx (s := t92) sl33 rfl rfl h95 h96 h97) ?_
      obtain ⟨t98, h99, h⟩ := h
      obtain ⟨t100, h101, h⟩ := h
      refine DE.hold 6 (fun w => w.cell? (a94.add (x3.toNat * 2)) = some (Value.int .u32 t98) ∧ w.cell? ((a94.add (x3.toNat * 2)).add 1) = some (Value.int .i64 t100)) (v := (Value.agg #[(Value.int .u32 t98), (Value.int .i64 t100)])) rfl (by kernel_rfl) (Wn.no rfl) rfl ⟨h99, h101⟩ (fun w hs => R.ldA ag27 sz27 rfl rfl (Cs.cons hs.1 (Cs.cons hs.2 Cs.nil))) ?_
      obtain ⟨t102, h103, h⟩ := h
      refine DE.hold 10 (fun w => w.cell? (a90.add 1) = some (SV.v t102)) (v := (SV.v t102)) rfl (by kernel_rfl) (Wn.no rfl) rfl h103 (fun w hs => R.ld sc53 rfl hs) ?_
      obtain ⟨a104, h105, h106, h107, h⟩ := h
      refine DE.t 12 (v := (Value.pointer (some (a104.add (x3.toNat * 1))))) rfl (by kernel_rfl) (Wn.no rfl) rfl (R.idx (s := t102) sl53 rfl rfl h105 h106 h107) ?_
      obtain ⟨t108, h109, h⟩ := h
      refine DE.hold 13 (fun w => w.cell? (a104.add (x3.toNat * 1)) = some (Value.int .i64 t108)) (v := (Value.int .i64 t108)) rfl (by kernel_rfl) (Wn.no rfl) rfl h109 (fun w hs => R.ld sc3 rfl hs) ?_
      obtain ⟨w110, hww110, h111, h⟩ := M.stA_use h
      obtain ⟨k112, h⟩ := h
      obtain ⟨k113, h⟩ := h
      refine DE.main 14 (by kernel_rfl) ?_
      refine One.s 14 rfl (Wn.no rfl) rfl (R.stA (a := b2) [(Value.int .u32 t98), (Value.int .i64 t100)] sz27 f15 rfl rfl (by simp [Value.oneCell']) h111 hww110) ⟨fun _ => k112, fun _ => k113, aftT (by kernel_rfl), aftT (by kernel_rfl), trivial⟩ ?_
      refine DE.t 15 (v := (Value.int .i64 t108)) rfl (by kernel_rfl) (Wn.no rfl) rfl (R.assign rfl) ?_
      refine DE.t 16 (v := (Value.bool true)) rfl (by kernel_rfl) (Wn.no rfl) rfl (R.assign rfl) ?_
      refine DE.done (by kernel_rfl) ?_
      refine WE.ret ?_
      obtain ⟨t114, h115, h⟩ := h
      obtain ⟨t116, h117, h⟩ := h
      exact ⟨_, (Res.cell f15 (R.ldCellA ag27 sz27 rfl (Cs.cons h115 (Cs.cons h117 Cs.nil))) (Res.tmp rfl (Res.tmp rfl Res.nil))), _, _, _, _, rfl, h⟩
/-- The formula of (*signpost.signpostref3.Trie).Above. -/
def F42 (p0 : Option Addr) (p1_0 : Int) (p1_1 : Int) (K : SV → World → Prop) (w0 : World) : Prop :=
M.new (.cells #[(Value.int .u32 p1_0), (Value.int .i64 p1_1)] 27) w0 fun b2 w1 =>
M.loop2 (fun (J5 : SV → Int → World → Prop) (x3 : SV) (x4 : Int) (w6 : World) => 
M.ite (decide (x4 ≤ (32 : Int))) (
M.loop2 (fun (J20 : SV → Int → World → Prop) (x18 : SV) (x19 : Int) (w21 : World) => 
M.nil p0 fun a33 =>
M.ld SV.v a33 w21 fun t35 =>
M.ite (decide (x19 < (t35.len : Int))) (
M.join (fun (x39 : SV) (w100 : World) => 
J20 x39 (IntKind.i64.wrap (x19 + (1 : Int))) w100) fun J38 => 
M.join (fun (x41 : Bool) (w73 : World) => 
M.ite x41 (
M.nil p0 fun a81 =>
M.ld SV.v a81 w73 fun t83 =>
M.idx t83 x19 2 fun a85 =>
M.ld (Value.int .u32) (a85.add (x19.toNat * 2)) w73 fun t89 =>
M.ld (Value.int .i64) ((a85.add (x19.toNat * 2)).add 1) w73 fun t91 =>
M.new (.cells #[(Value.int .u32 t89), (Value.int .i64 t91)] 27) w73 fun b95 w93 =>
M.app Try.prog 33 33 33 x18 (SV.v (SV.mk (some b95) 1 1)) w93 fun s96 w97 =>
J38 s96 w97) (
J38 x18 w73)) fun J40 => 
M.drew w21 fun w42 => 
M.nil p0 fun a43 =>
M.ld SV.v a43 w42 fun t45 =>
M.idx t45 x19 2 fun a47 =>
M.ld (Value.int .i64) ((a47.add (x19.toNat * 2)).add 1) w42 fun t51 =>
M.ite (t51 == x4) (
M.nil p0 fun a54 =>
M.ld SV.v a54 w42 fun t56 =>
M.idx t56 x19 2 fun a58 =>
M.ld (Value.int .u32) (a58.add (x19.toNat * 2)) w42 fun t62 =>
M.ld (Value.int .i64) ((a58.add (x19.toNat * 2)).add 1) w42 fun t64 =>
M.ld (Value.int .u32) b2 w42 fun t66 =>
M.ld (Value.int .i64) (b2.add 1) w42 fun t68 =>
Calls Try.prog 48 #[(Value.agg #[(Value.int .u32 t62), (Value.int .i64 t64)]), (Value.agg #[(Value.int .u32 t66), (Value.int .i64 t68)])] w42 (R48 fun r70 w71 =>
J40 r70 w71)) (
J40 false w42)) (
J5 x18 (IntKind.i64.wrap (x4 + (1 : Int))) w21)) x3 (0 : Int) w6) (
K x3 w6)) SV.nil (0 : Int) w1
theorem F42_ok {w0 : World} {p0 : Option Addr} {p1_0 : Int} {p1_1 : Int} {K : SV → World → Prop} (h : F42 p0 p1_0 p1_1 K w0) : Calls Try.prog 42 #[(Value.pointer p0), (Value.agg #[(Value.int .u32 p1_0), (Value.int .i64 p1_1)])] w0 (R42 K) := by
  refine calls_of_WE (args := [(Value.pointer p0), (Value.agg #[(Value.int .u32 p1_0), (Value.int .i64 p1_1)])]) (rs := [.tmp 4]) Try.func42 rfl (N := 53) rfl rfl rfl rfl ?_
  refine WE.seq ?_
  refine WE.reg ?_
  obtain ⟨b2, hpb2, w1, hww1, h⟩ := M.new_use h
  refine LE.r (v := (Value.pointer (some b2))) (Wn.no rfl) rfl (R.box (cs := #[(Value.int .u32 p1_0), (Value.int .i64 p1_1)]) rfl rfl hpb2 hww1) ?_
  refine LE.p (v := (SV.v SV.nil)) (Wn.no rfl) rfl (R.assign rfl) ?_
  refine LE.nil ?_
  refine WE.seq ?_
  refine WE.reg ?_
  refine LE.p (v := (SV.v SV.nil)) (Wn.no rfl) rfl (R.assign rfl) ?_
  refine LE.nil ?_
  refine WE.seq ?_
  refine WE.seq ?_
  refine WE.reg ?_
  refine LE.p (v := (Value.int .i64 (0 : Int))) (Wn.no rfl) rfl (R.assign rfl) ?_
  refine LE.nil ?_
  refine WE.block ?_
  obtain ⟨I9, ⟨n8, h⟩, hr10⟩ := h
  refine WE.loop (fun n e w => ∃ (x3 : SV) (x4 : Int), I9 n x3 x4 w ∧ e 0 = (Value.pointer p0) ∧ e 3 = (Value.pointer (some b2)) ∧ e 5 = (SV.v x3) ∧ e 6 = (Value.int .i64 x4)) n8 ⟨_, _, h, rfl, rfl, rfl, rfl⟩ ?_
  clear h
  rintro n8 e7 w6 ⟨x3, x4, h, f13, f14, f15, f16⟩
  replace h := hr10 n8 x3 x4 w6 h
  refine WE.seq ?_
  refine WE.seq ?_
  refine WE.reg ?_
  refine LE.p (v := (Value.int .i64 x4)) (Wn.no rfl) rfl (R.move f16) ?_
  refine LE.p (v := (Value.bool (decide (x4 ≤ (32 : Int))))) (Wn.no rfl) rfl (R.leq rfl rfl) ?_
  refine LE.nil ?_
  refine WE.condT rfl (b := (decide (x4 ≤ (32 : Int)))) rfl ?_ ?_
  · intro hb17
    replace h := M.ite_t h hb17
    refine WE.skip ?_
    refine WE.seq ?_
    refine WE.block ?_
    refine WE.seq ?_
    refine WE.reg ?_
    refine LE.p (v := (Value.int .i64 (0 : Int))) (Wn.no rfl) rfl (R.assign rfl) ?_
    refine LE.nil ?_
    refine WE.block ?_
    obtain ⟨I24, ⟨n23, h⟩, hr25⟩ := h
    refine WE.loop (fun n e w => ∃ (x18 : SV) (x19 : Int), I24 n x18 x19 w ∧ e 0 = (Value.pointer p0) ∧ e 3 = (Value.pointer (some b2)) ∧ e 5 = (SV.v x18) ∧ e 6 = (Value.int .i64 x4) ∧ e 7 = (Value.int .i64 x19)) n23 ⟨_, _, h, f13, f14, f15, f16, rfl⟩ ?_
    clear h
    rintro n23 e22 w21 ⟨x18, x19, h, f28, f29, f30, f31, f32⟩
    replace h := hr25 n23 x18 x19 w21 h
    refine WE.seq ?_
    refine WE.seq ?_
    refine WE.reg ?_
    refine LE.p (v := (Value.int .i64 x19)) (Wn.no rfl) rfl (R.move f32) ?_
    refine LE.p (v := (Value.pointer p0)) (Wn.no rfl) rfl (R.move f28) ?_
    obtain ⟨a33, h34, h⟩ := h
    refine LE.p (v := (Value.pointer (some a33))) (Wn.no rfl) rfl (R.nilC (congrArg Value.pointer h34)) ?_
    refine LE.p (v := (Value.pointer (some a33))) (Wn.no rfl) rfl (R.fld (off := 0) fa55_0 rfl) ?_
    obtain ⟨t35, h36, h⟩ := h
    refine LE.r (v := (SV.v t35)) (Wn.no rfl) rfl (R.ld sc33 rfl h36) ?_
    refine LE.p (v := (Value.int .i64 (t35.len : Int))) (Wn.no rfl) rfl (R.len sl33 rfl) ?_
    refine LE.p (v := (Value.bool (decide (x19 < (t35.len : Int))))) (Wn.no rfl) rfl (R.lss rfl rfl) ?_
    refine LE.nil ?_
    refine WE.condT rfl (b := (decide (x19 < (t35.len : Int)))) rfl ?_ ?_
    · intro hb37
      replace h := M.ite_t h hb37
      refine WE.skip ?_
      refine WE.seq ?_
      obtain ⟨J38, hJ38, h⟩ := M.join_use h
      refine WE.blkJ (fun e w => ∃ (x39 : SV), J38 x39 w ∧ e 0 = (Value.pointer p0) ∧ e 3 = (Value.pointer (some b2)) ∧ e 5 = (SV.v x39) ∧ e 6 = (Value.int .i64 x4) ∧ e 7 = (Value.int .i64 x19)) ?_ ?_
      · clear hJ38
        refine WE.seq ?_
        obtain ⟨J40, hJ40, h⟩ := M.join_use h
        refine WE.drawJ (fun e w => ∃ (x41 : Bool), J40 x41 w ∧ e 0 = (Value.pointer p0) ∧ e 3 = (Value.pointer (some b2)) ∧ e 5 = (SV.v x18) ∧ e 6 = (Value.int .i64 x4) ∧ e 7 = (Value.int .i64 x19) ∧ e 41 = (Value.bool x41)) mix ?_ ?_
        · clear hJ40
          obtain ⟨w42, hww42, h⟩ := M.drew_use h
          rw [← hww42]
          clear hww42
          refine DE.t 0 (v := (Value.pointer p0)) rfl (by kernel_rfl) (Wn.no rfl) rfl (R.move f28) ?_
          obtain ⟨a43, h44, h⟩ := h
          refine DE.t 1 (v := (Value.pointer (some a43))) rfl (by kernel_rfl) (Wn.no rfl) rfl (R.nilC (congrArg Value.pointer h44)) ?_
          refine DE.t 2 (v := (Value.pointer (some a43))) rfl (by kernel_rfl) (Wn.no rfl) rfl (R.fld (off := 0) fa55_0 rfl) ?_
          refine DE.t 4 (v := (Value.int .i64 x19)) rfl (by kernel_rfl) (Wn.no rfl) rfl (R.move f32) ?_
          refine DE.t 8 (v := (Value.int .i64 x4)) rfl (by kernel_rfl) (Wn.no rfl) rfl (R.move f31) ?_
          obtain ⟨t45, h46, h⟩ := h
          refine DE.main 3 (by kernel_rfl) ?_
          refine One.r 3 (v := (SV.v t45)) rfl (Wn.no rfl) rfl (R.ld sc33 rfl h46) (.inl rfl) ?_
          obtain ⟨a47, h48, h49, h50, h⟩ := h
          refine DE.t 5 (v := (Value.pointer (some (a47.add (x19.toNat * 2))))) rfl (by kernel_rfl) (Wn.no rfl) rfl (R.idx (s := t45) sl33 rfl rfl h48 h49 h50) ?_
          refine DE.t 6 (v := (Value.pointer (some ((a47.add (x19.toNat * 2)).add 1)))) rfl (by kernel_rfl) (Wn.no rfl) rfl (R.fld (off := 1) fa27_1 rfl) ?_
          obtain ⟨t51, h52, h⟩ := h
          refine DE.main 7 (by kernel_rfl) ?_
          refine One.r 7 (v := (Value.int .i64 t51)) rfl (Wn.no rfl) rfl (R.ld sc3 rfl h52) (.inl rfl) ?_
          refine DE.t 9 (v := (Value.bool (t51 == x4))) rfl (by kernel_rfl) (Wn.no rfl) rfl (R.eql rfl rfl) ?_
          refine DE.t 10 (v := (Value.bool (t51 == x4))) rfl (by kernel_rfl) (Wn.no rfl) rfl (R.move rfl) ?_
          rcases M.ite_use h with ⟨hb53, h⟩ | ⟨hb53, h⟩
          · refine DE.t 11 (v := (Value.pointer p0)) rfl (by kernel_rfl) (Wn.yes 10 31 true rfl rfl rfl (congrArg Value.bool hb53)) rfl (R.move f28) ?_
            obtain ⟨a54, h55, h⟩ := h
            refine DE.t 12 (v := (Value.pointer (some a54))) rfl (by kernel_rfl) (Wn.yes 10 31 true rfl rfl rfl (congrArg Value.bool hb53)) rfl (R.nilC (congrArg Value.pointer h55)) ?_
            refine DE.t 13 (v := (Value.pointer (some a54))) rfl (by kernel_rfl) (Wn.yes 10 31 true rfl rfl rfl (congrArg Value.bool hb53)) rfl (R.fld (off := 0) fa55_0 rfl) ?_
            refine DE.t 15 (v := (Value.int .i64 x19)) rfl (by kernel_rfl) (Wn.yes 10 31 true rfl rfl rfl (congrArg Value.bool hb53)) rfl (R.move f32) ?_
            obtain ⟨t56, h57, h⟩ := h
            refine DE.hold 14 (fun w => w.cell? a54 = some (SV.v t56)) (v := (SV.v t56)) rfl (by kernel_rfl) (Wn.yes 10 31 true rfl rfl rfl (congrArg Value.bool hb53)) rfl h57 (fun w hs => R.ld sc33 rfl hs) ?_
            obtain ⟨a58, h59, h60, h61, h⟩ := h
            refine DE.t 16 (v := (Value.pointer (some (a58.add (x19.toNat * 2))))) rfl (by kernel_rfl) (Wn.yes 10 31 true rfl rfl rfl (congrArg Value.bool hb53)) rfl (R.idx (s := t56) sl33 rfl rfl h59 h60 h61) ?_
            obtain ⟨t62, h63, h⟩ := h
            obtain ⟨t64, h65, h⟩ := h
            refine DE.hold 17 (fun w => w.cell? (a58.add (x19.toNat * 2)) = some (Value.int .u32 t62) ∧ w.cell? ((a58.add (x19.toNat * 2)).add 1) = some (Value.int .i64 t64)) (v := (Value.agg #[(Value.int .u32 t62), (Value.int .i64 t64)])) rfl (by kernel_rfl) (Wn.yes 10 31 true rfl rfl rfl (congrArg Value.bool hb53)) rfl ⟨h63, h65⟩ (fun w hs => R.ldA ag27 sz27 rfl rfl (Cs.cons hs.1 (Cs.cons hs.2 Cs.nil))) ?_
            obtain ⟨t66, h67, h⟩ := h
            obtain ⟨t68, h69, h⟩ := h
            refine DE.main 18 (by kernel_rfl) ?_
            refine One.r 18 (v := (Value.agg #[(Value.int .u32 t66), (Value.int .i64 t68)])) rfl (Wn.yes 10 31 true rfl rfl rfl (congrArg Value.bool hb53)) rfl (R.ldA ag27 sz27 f29 rfl (Cs.cons h67 (Cs.cons h69 Cs.nil))) (.inl rfl) ?_
            refine DE.main 19 (by kernel_rfl) ?_
            refine One.c 19 rfl (Wn.yes 10 31 true rfl rfl rfl (congrArg Value.bool hb53)) rfl (R.call bd48 (Ls.cons rfl (Ls.cons rfl Ls.nil)) rfl) (Calls.mono h ?_)
            rintro _ w71 ⟨r70, rfl, h⟩
            refine ⟨_, rfl, ⟨aftT (by kernel_rfl), aftT (by kernel_rfl), trivial⟩, ?_⟩
            refine DE.t 20 (v := (Value.bool r70)) rfl (by kernel_rfl) (Wn.no rfl) rfl (R.pickT (congrArg Value.bool hb53) rfl) ?_
            refine DE.done (by kernel_rfl) ?_
            exact ⟨_, h, f28, f29, f30, f31, f32, rfl⟩
          · refine DE.u 11 rfl (by kernel_rfl) (Un.no 10 31 true rfl rfl rfl (congrArg Value.bool hb53)) ?_
            refine DE.u 12 rfl (by kernel_rfl) (Un.no 10 31 true rfl rfl rfl (congrArg Value.bool hb53)) ?_
            refine DE.u 13 rfl (by kernel_rfl) (Un.no 10 31 true rfl rfl rfl (congrArg Value.bool hb53)) ?_
            refine DE.u 14 rfl (by kernel_rfl) (Un.no 10 31 true rfl rfl rfl (congrArg Value.bool hb53)) ?_
            refine DE.u 15 rfl (by kernel_rfl) (Un.no 10 31 true rfl rfl rfl (congrArg Value.bool hb53)) ?_
            refine DE.u 16 rfl (by kernel_rfl) (Un.no 10 31 true rfl rfl rfl (congrArg Value.bool hb53)) ?_
            refine DE.u 17 rfl (by kernel_rfl) (Un.no 10 31 true rfl rfl rfl (congrArg Value.bool hb53)) ?_
            refine DE.u 18 rfl (by kernel_rfl) (Un.no 10 31 true rfl rfl rfl (congrArg Value.bool hb53)) ?_
            refine DE.u 19 rfl (by kernel_rfl) (Un.no 10 31 true rfl rfl rfl (congrArg Value.bool hb53)) ?_
            refine DE.t 20 (v := (Value.bool false)) rfl (by kernel_rfl) (Wn.no rfl) rfl (R.pickF (congrArg Value.bool hb53) rfl) ?_
            refine DE.done (by kernel_rfl) ?_
            exact ⟨_, h, f28, f29, f30, f31, f32, rfl⟩
        · rintro e72 w73 ⟨x41, h, f74, f75, f76, f77, f78, f79⟩
          subst hJ40
          refine WE.condT rfl (b := x41) f79 ?_ ?_
          · intro hb80
            replace h := M.ite_t h hb80
            refine WE.reg ?_
            refine LE.p (v := (SV.v x18)) (Wn.no rfl) rfl (R.move f76) ?_
            refine LE.p (v := (Value.pointer p0)) (Wn.no rfl) rfl (R.move f74) ?_
            obtain ⟨a81, h82, h⟩ := h
            refine LE.p (v := (Value.pointer (some a81))) (Wn.no rfl) rfl (R.nilC (congrArg Value.pointer h82)) ?_
            refine LE.p (v := (Value.pointer (some a81))) (Wn.no rfl) rfl (R.fld (off := 0) fa55_0 rfl) ?_
            obtain ⟨t83, h84, h⟩ := h
            refine LE.r (v := (SV.v t83)) (Wn.no rfl) rfl (R.ld sc33 rfl h84) ?_
            refine LE.p (v := (Value.int .i64 x19)) (Wn.no rfl) rfl (R.move f78) ?_
            obtain ⟨a85, h86, h87, h88, h⟩ := h
            refine LE.p (v := (Value.pointer (some (a85.add (x19.toNat * 2))))) (Wn.no rfl) rfl (R.idx (s := t83) sl33 rfl rfl h86 h87 h88) ?_
            obtain ⟨t89, h90, h⟩ := h
            obtain ⟨t91, h92, h⟩ := h
            refine LE.r (v := (Value.agg #[(Value.int .u32 t89), (Value.int .i64 t91)])) (Wn.no rfl) rfl (R.ldA ag27 sz27 rfl rfl (Cs.cons h90 (Cs.cons h92 Cs.nil))) ?_
            obtain ⟨b95, hpb95, w93, hww93, h⟩ := M.new_use h
            refine LE.r (v := (SV.v (SV.mk (some b95) 1 1))) (Wn.no rfl) rfl (R.bsl (by exact (Ls.cons (R.Pr rfl) Ls.nil)) (fun w => bs33_1 t89 t91 w) hpb95 hww93) ?_
            obtain ⟨s96, w97, h98, h⟩ := h
            refine LE.r (v := (SV.v s96)) (Wn.no rfl) rfl (R.app (s := x18) (r := s96) rfl rfl h98) ?_
            refine LE.p (v := (SV.v s96)) (Wn.no rfl) rfl (R.assign rfl) ?_
            refine LE.nil ?_
            exact ⟨_, h, f74, f75, rfl, f77, f78⟩
          · intro hb80
            replace h := M.ite_f h hb80
            refine WE.skip ?_
            exact ⟨_, h, f74, f75, f76, f77, f78⟩
      · rintro e99 w100 ⟨x39, h, f101, f102, f103, f104, f105⟩
        subst hJ38
        refine WE.reg ?_
        refine LE.p (v := (Value.int .i64 x19)) (Wn.no rfl) rfl (R.move f105) ?_
        refine LE.p (v := (Value.int .i64 (IntKind.i64.wrap (x19 + (1 : Int))))) (Wn.no rfl) rfl (R.add rfl rfl) ?_
        refine LE.p (v := (Value.int .i64 (IntKind.i64.wrap (x19 + (1 : Int))))) (Wn.no rfl) rfl (R.assign rfl) ?_
        refine LE.nil ?_
        obtain ⟨m26, hm27, h⟩ := h
        exact ⟨m26, hm27, _, _, h, f101, f102, f103, f104, rfl⟩
    · intro hb37
      replace h := M.ite_f h hb37
      refine WE.exit ?_
      refine WE.reg ?_
      refine LE.p (v := (Value.int .i64 x4)) (Wn.no rfl) rfl (R.move f31) ?_
      refine LE.p (v := (Value.int .i64 (IntKind.i64.wrap (x4 + (1 : Int))))) (Wn.no rfl) rfl (R.add rfl rfl) ?_
      refine LE.p (v := (Value.int .i64 (IntKind.i64.wrap (x4 + (1 : Int))))) (Wn.no rfl) rfl (R.assign rfl) ?_
      refine LE.nil ?_
      obtain ⟨m11, hm12, h⟩ := h
      exact ⟨m11, hm12, _, _, h, f28, f29, f30, rfl⟩
  · intro hb17
    replace h := M.ite_f h hb17
    refine WE.exit ?_
    refine WE.seq ?_
    refine WE.reg ?_
    refine LE.p (v := (SV.v x3)) (Wn.no rfl) rfl (R.move f15) ?_
    refine LE.p (v := (SV.v x3)) (Wn.no rfl) rfl (R.assign rfl) ?_
    refine LE.nil ?_
    refine WE.ret ?_
    exact ⟨_, (Res.tmp rfl Res.nil), _, rfl, h⟩
/-- The formula of (*signpost.signpostref3.Trie).Below. -/
def F43 (p0 : Option Addr) (p1_0 : Int) (p1_1 : Int) (K : SV → World → Prop) (w0 : World) : Prop :=
M.new (.cells #[(Value.int .u32 p1_0), (Value.int .i64 p1_1)] 27) w0 fun b2 w1 =>
M.loop2 (fun (J5 : SV → Int → World → Prop) (x3 : SV) (x4 : Int) (w6 : World) => 
M.nil p0 fun a17 =>
M.ld SV.v a17 w6 fun t19 =>
M.ite (decide (x4 < (t19.len : Int))) (
M.join (fun (x23 : SV) (w63 : World) => 
J5 x23 (IntKind.i64.wrap (x4 + (1 : Int))) w63) fun J22 => 
M.drew w6 fun w24 => 
M.nil p0 fun a25 =>
M.ld (Value.int .u32) b2 w24 fun t27 =>
M.ld (Value.int .i64) (b2.add 1) w24 fun t29 =>
M.ld SV.v a25 w24 fun t31 =>
M.idx t31 x4 2 fun a33 =>
M.ld (Value.int .u32) (a33.add (x4.toNat * 2)) w24 fun t37 =>
M.ld (Value.int .i64) ((a33.add (x4.toNat * 2)).add 1) w24 fun t39 =>
Calls Try.prog 48 #[(Value.agg #[(Value.int .u32 t27), (Value.int .i64 t29)]), (Value.agg #[(Value.int .u32 t37), (Value.int .i64 t39)])] w24 (R48 fun r41 w42 =>
M.ite r41 (
M.nil p0 fun a44 =>
M.ld SV.v a44 w42 fun t46 =>
M.idx t46 x4 2 fun a48 =>
M.ld (Value.int .u32) (a48.add (x4.toNat * 2)) w42 fun t52 =>
M.ld (Value.int .i64) ((a48.add (x4.toNat * 2)).add 1) w42 fun t54 =>
M.new (.cells #[(Value.int .u32 t52), (Value.int .i64 t54)] 27) w42 fun b58 w56 =>
M.app Try.prog 33 33 33 x3 (SV.v (SV.mk (some b58) 1 1)) w56 fun s59 w60 =>
J22 s59 w60) (
J22 x3 w42))) (
K x3 w6)) SV.nil (0 : Int) w1
theorem F43_ok {w0 : World} {p0 : Option Addr} {p1_0 : Int} {p1_1 : Int} {K : SV → World → Prop} (h : F43 p0 p1_0 p1_1 K w0) : Calls Try.prog 43 #[(Value.pointer p0), (Value.agg #[(Value.int .u32 p1_0), (Value.int .i64 p1_1)])] w0 (R43 K) := by
  refine calls_of_WE (args := [(Value.pointer p0), (Value.agg #[(Value.int .u32 p1_0), (Value.int .i64 p1_1)])]) (rs := [.tmp 4]) Try.func43 rfl (N := 36) rfl rfl rfl rfl ?_
  refine WE.seq ?_
  refine WE.reg ?_
  obtain ⟨b2, hpb2, w1, hww1, h⟩ := M.new_use h
  refine LE.r (v := (Value.pointer (some b2))) (Wn.no rfl) rfl (R.box (cs := #[(Value.int .u32 p1_0), (Value.int .i64 p1_1)]) rfl rfl hpb2 hww1) ?_
  refine LE.p (v := (SV.v SV.nil)) (Wn.no rfl) rfl (R.assign rfl) ?_
  refine LE.nil ?_
  refine WE.seq ?_
  refine WE.reg ?_
  refine LE.p (v := (SV.v SV.nil)) (Wn.no rfl) rfl (R.assign rfl) ?_
  refine LE.nil ?_
  refine WE.seq ?_
  refine WE.seq ?_
  refine WE.reg ?_
  refine LE.p (v := (Value.int .i64 (0 : Int))) (Wn.no rfl) rfl (R.assign rfl) ?_
  refine LE.nil ?_
  refine WE.block ?_
  obtain ⟨I9, ⟨n8, h⟩, hr10⟩ := h
  refine WE.loop (fun n e w => ∃ (x3 : SV) (x4 : Int), I9 n x3 x4 w ∧ e 0 = (Value.pointer p0) ∧ e 3 = (Value.pointer (some b2)) ∧ e 5 = (SV.v x3) ∧ e 6 = (Value.int .i64 x4)) n8 ⟨_, _, h, rfl, rfl, rfl, rfl⟩ ?_
  clear h
  rintro n8 e7 w6 ⟨x3, x4, h, f13, f14, f15, f16⟩
  replace h := hr10 n8 x3 x4 w6 h
  refine WE.seq ?_
  refine WE.seq ?_
  refine WE.reg ?_
  refine LE.p (v := (Value.int .i64 x4)) (Wn.no rfl) rfl (R.move f16) ?_
  refine LE.p (v := (Value.pointer p0)) (Wn.no rfl) rfl (R.move f13) ?_
  obtain ⟨a17, h18, h⟩ := h
  refine LE.p (v := (Value.pointer (some a17))) (Wn.no rfl) rfl (R.nilC (congrArg Value.pointer h18)) ?_
  refine LE.p (v := (Value.pointer (some a17))) (Wn.no rfl) rfl (R.fld (off := 0) fa55_0 rfl) ?_
  obtain ⟨t19, h20, h⟩ := h
  refine LE.r (v := (SV.v t19)) (Wn.no rfl) rfl (R.ld sc33 rfl h20) ?_
  refine LE.p (v := (Value.int .i64 (t19.len : Int))) (Wn.no rfl) rfl (R.len sl33 rfl) ?_
  refine LE.p (v := (Value.bool (decide (x4 < (t19.len : Int))))) (Wn.no rfl) rfl (R.lss rfl rfl) ?_
  refine LE.nil ?_
  refine WE.condT rfl (b := (decide (x4 < (t19.len : Int)))) rfl ?_ ?_
  · intro hb21
    replace h := M.ite_t h hb21
    refine WE.skip ?_
    refine WE.seq ?_
    obtain ⟨J22, hJ22, h⟩ := M.join_use h
    refine WE.blkJ (fun e w => ∃ (x23 : SV), J22 x23 w ∧ e 0 = (Value.pointer p0) ∧ e 3 = (Value.pointer (some b2)) ∧ e 5 = (SV.v x23) ∧ e 6 = (Value.int .i64 x4)) ?_ ?_
    · clear hJ22
      refine WE.seq ?_
      refine WE.draw mix ?_
      obtain ⟨w24, hww24, h⟩ := M.drew_use h
      rw [← hww24]
      clear hww24
      refine DE.t 1 (v := (Value.pointer p0)) rfl (by kernel_rfl) (Wn.no rfl) rfl (R.move f13) ?_
      obtain ⟨a25, h26, h⟩ := h
      refine DE.t 2 (v := (Value.pointer (some a25))) rfl (by kernel_rfl) (Wn.no rfl) rfl (R.nilC (congrArg Value.pointer h26)) ?_
      refine DE.t 3 (v := (Value.pointer (some a25))) rfl (by kernel_rfl) (Wn.no rfl) rfl (R.fld (off := 0) fa55_0 rfl) ?_
      refine DE.t 5 (v := (Value.int .i64 x4)) rfl (by kernel_rfl) (Wn.no rfl) rfl (R.move f16) ?_
      obtain ⟨t27, h28, h⟩ := h
      obtain ⟨t29, h30, h⟩ := h
      refine DE.hold 0 (fun w => w.cell? b2 = some (Value.int .u32 t27) ∧ w.cell? (b2.add 1) = some (Value.int .i64 t29)) (v := (Value.agg #[(Value.int .u32 t27), (Value.int .i64 t29)])) rfl (by kernel_rfl) (Wn.no rfl) rfl ⟨h28, h30⟩ (fun w hs => R.ldA ag27 sz27 f14 rfl (Cs.cons hs.1 (Cs.cons hs.2 Cs.nil))) ?_
      obtain ⟨t31, h32, h⟩ := h
      refine DE.main 4 (by kernel_rfl) ?_
      refine One.r 4 (v := (SV.v t31)) rfl (Wn.no rfl) rfl (R.ld sc33 rfl h32) (.inl rfl) ?_
      obtain ⟨a33, h34, h35, h36, h⟩ := h
      refine DE.t 6 (v := (Value.pointer (some (a33.add (x4.toNat * 2))))) rfl (by kernel_rfl) (Wn.no rfl) rfl (R.idx (s := t31) sl33 rfl rfl h34 h35 h36) ?_
      obtain ⟨t37, h38, h⟩ := h
      obtain ⟨t39, h40, h⟩ := h
      refine DE.main 7 (by kernel_rfl) ?_
      refine One.r 7 (v := (Value.agg #[(Value.int .u32 t37), (Value.int .i64 t39)])) rfl (Wn.no rfl) rfl (R.ldA ag27 sz27 rfl rfl (Cs.cons h38 (Cs.cons h40 Cs.nil))) (.inl rfl) ?_
      refine DE.main 8 (by kernel_rfl) ?_
      refine One.c 8 rfl (Wn.no rfl) rfl (R.call bd48 (Ls.cons rfl (Ls.cons rfl Ls.nil)) rfl) (Calls.mono h ?_)
      rintro _ w42 ⟨r41, rfl, h⟩
      refine ⟨_, rfl, ⟨aftT (by kernel_rfl), trivial⟩, ?_⟩
      refine DE.done (by kernel_rfl) ?_
      refine WE.condT rfl (b := r41) rfl ?_ ?_
      · intro hb43
        replace h := M.ite_t h hb43
        refine WE.reg ?_
        refine LE.p (v := (SV.v x3)) (Wn.no rfl) rfl (R.move f15) ?_
        refine LE.p (v := (Value.pointer p0)) (Wn.no rfl) rfl (R.move f13) ?_
        obtain ⟨a44, h45, h⟩ := h
        refine LE.p (v := (Value.pointer (some a44))) (Wn.no rfl) rfl (R.nilC (congrArg Value.pointer h45)) ?_
        refine LE.p (v := (Value.pointer (some a44))) (Wn.no rfl) rfl (R.fld (off := 0) fa55_0 rfl) ?_
        obtain ⟨t46, h47, h⟩ := h
        refine LE.r (v := (SV.v t46)) (Wn.no rfl) rfl (R.ld sc33 rfl h47) ?_
        refine LE.p (v := (Value.int .i64 x4)) (Wn.no rfl) rfl (R.move f16) ?_
        obtain ⟨a48, h49, h50, h51, h⟩ := h
        refine LE.p (v := (Value.pointer (some (a48.add (x4.toNat * 2))))) (Wn.no rfl) rfl (R.idx (s := t46) sl33 rfl rfl h49 h50 h51) ?_
        obtain ⟨t52, h53, h⟩ := h
        obtain ⟨t54, h55, h⟩ := h
        refine LE.r (v := (Value.agg #[(Value.int .u32 t52), (Value.int .i64 t54)])) (Wn.no rfl) rfl (R.ldA ag27 sz27 rfl rfl (Cs.cons h53 (Cs.cons h55 Cs.nil))) ?_
        obtain ⟨b58, hpb58, w56, hww56, h⟩ := M.new_use h
        refine LE.r (v := (SV.v (SV.mk (some b58) 1 1))) (Wn.no rfl) rfl (R.bsl (by exact (Ls.cons (R.Pr rfl) Ls.nil)) (fun w => bs33_1 t52 t54 w) hpb58 hww56) ?_
        obtain ⟨s59, w60, h61, h⟩ := h
        refine LE.r (v := (SV.v s59)) (Wn.no rfl) rfl (R.app (s := x3) (r := s59) rfl rfl h61) ?_
        refine LE.p (v := (SV.v s59)) (Wn.no rfl) rfl (R.assign rfl) ?_
        refine LE.nil ?_
        exact ⟨_, h, f13, f14, rfl, f16⟩
      · intro hb43
        replace h := M.ite_f h hb43
        refine WE.skip ?_
        exact ⟨_, h, f13, f14, f15, f16⟩
    · rintro e62 w63 ⟨x23, h, f64, f65, f66, f67⟩
      subst hJ22
      refine WE.reg ?_
      refine LE.p (v := (Value.int .i64 x4)) (Wn.no rfl) rfl (R.move f67) ?_
      refine LE.p (v := (Value.int .i64 (IntKind.i64.wrap (x4 + (1 : Int))))) (Wn.no rfl) rfl (R.add rfl rfl) ?_
      refine LE.p (v := (Value.int .i64 (IntKind.i64.wrap (x4 + (1 : Int))))) (Wn.no rfl) rfl (R.assign rfl) ?_
      refine LE.nil ?_
      obtain ⟨m11, hm12, h⟩ := h
      exact ⟨m11, hm12, _, _, h, f64, f65, f66, rfl⟩
  · intro hb21
    replace h := M.ite_f h hb21
    refine WE.exit ?_
    refine WE.seq ?_
    refine WE.reg ?_
    refine LE.p (v := (SV.v x3)) (Wn.no rfl) rfl (R.move f15) ?_
    refine LE.p (v := (SV.v x3)) (Wn.no rfl) rfl (R.assign rfl) ?_
    refine LE.nil ?_
    refine WE.ret ?_
    exact ⟨_, (Res.tmp rfl Res.nil), _, rfl, h⟩
/-- The formula of signpost.addr.Mask. -/
def F44 (p0 : Int) (K : Int → World → Prop) (w0 : World) : Prop :=
M.ite (decide (p0 < (1 : Int))) (
K (0 : Int) w0) (
M.sh (IntKind.i64.wrap ((32 : Int) - (min p0 (32 : Int)))) <|
K (bShl .u32 (4294967295 : Int) (IntKind.i64.wrap ((32 : Int) - (min p0 (32 : Int))))) w0)
theorem F44_ok {w0 : World} {p0 : Int} {K : Int → World → Prop} (h : F44 p0 K w0) : Calls Try.prog 44 #[(Value.int .i64 p0)] w0 (R44 K) := by
  refine calls_of_WE (args := [(Value.int .i64 p0)]) (rs := [.tmp 2]) Try.func44 rfl (N := 9) rfl rfl rfl rfl ?_
  refine WE.seq ?_
  refine WE.reg ?_
  refine LE.p (v := (Value.int .u32 (0 : Int))) (Wn.no rfl) rfl (R.assign rfl) ?_
  refine LE.nil ?_
  refine WE.seq ?_
  refine WE.seq ?_
  refine WE.reg ?_
  refine LE.p (v := (Value.int .i64 p0)) (Wn.no rfl) rfl (R.move rfl) ?_
  refine LE.p (v := (Value.bool (decide (p0 < (1 : Int))))) (Wn.no rfl) rfl (R.lss rfl rfl) ?_
  refine LE.nil ?_
  refine WE.condT rfl (b := (decide (p0 < (1 : Int)))) rfl ?_ ?_
  · intro hb1
    replace h := M.ite_t h hb1
    refine WE.seq ?_
    refine WE.reg ?_
    refine LE.p (v := (Value.int .u32 (0 : Int))) (Wn.no rfl) rfl (R.assign rfl) ?_
    refine LE.nil ?_
    refine WE.ret ?_
    exact ⟨_, (Res.tmp rfl Res.nil), _, rfl, h⟩
  · intro hb1
    replace h := M.ite_f h hb1
    refine WE.skip ?_
    refine WE.seq ?_
    refine WE.reg ?_
    refine LE.p (v := (Value.int .i64 p0)) (Wn.no rfl) rfl (R.move rfl) ?_
    refine LE.p (v := (Value.int .i64 (min p0 (32 : Int)))) (Wn.no rfl) rfl (R.min2 rfl rfl) ?_
    refine LE.p (v := (Value.int .i64 (IntKind.i64.wrap ((32 : Int) - (min p0 (32 : Int)))))) (Wn.no rfl) rfl (R.sub rfl rfl) ?_
    obtain ⟨h2, h⟩ := h
    refine LE.p (v := (Value.int .u32 (bShl .u32 (4294967295 : Int) (IntKind.i64.wrap ((32 : Int) - (min p0 (32 : Int))))))) (Wn.no rfl) rfl (R.shl rfl rfl h2) ?_
    refine LE.p (v := (Value.int .u32 (bShl .u32 (4294967295 : Int) (IntKind.i64.wrap ((32 : Int) - (min p0 (32 : Int))))))) (Wn.no rfl) rfl (R.assign rfl) ?_
    refine LE.nil ?_
    refine WE.ret ?_
    exact ⟨_, (Res.tmp rfl Res.nil), _, rfl, h⟩
/-- The formula of signpost.addr.Of. -/
def F45 (p0 : Int) (p1 : Int) (K : Int → Int → World → Prop) (w0 : World) : Prop :=
M.new (.cells #[(Value.int .u32 (0 : Int)), (Value.int .i64 (0 : Int))] 27) w0 fun b2 w1 =>
Calls Try.prog 44 #[(Value.int .i64 p1)] w1 (R44 fun r3 w4 =>
M.stA b2 [(Value.int .u32 (bAnd .u32 p0 r3)), (Value.int .i64 (min (max p1 (0 : Int)) (32 : Int)))] w4 fun w5 =>
M.ld (Value.int .u32) b2 w5 fun t7 =>
M.ld (Value.int .i64) (b2.add 1) w5 fun t9 =>
K t7 t9 w5)
theorem F45_ok {w0 : World} {p0 : Int} {p1 : Int} {K : Int → Int → World → Prop} (h : F45 p0 p1 K w0) : Calls Try.prog 45 #[(Value.int .u32 p0), (Value.int .i64 p1)] w0 (R45 K) := by
  refine calls_of_WE (args := [(Value.int .u32 p0), (Value.int .i64 p1)]) (rs := [.cell 4 27]) Try.func45 rfl (N := 13) rfl rfl rfl rfl ?_
  refine WE.seq ?_
  refine WE.reg ?_
  obtain ⟨b2, hpb2, w1, hww1, h⟩ := M.new_use h
  refine LE.r (v := (Value.pointer (some b2))) (Wn.no rfl) rfl (R.alloc (cs := #[(Value.int .u32 (0 : Int)), (Value.int .i64 (0 : Int))]) ze27 rfl hpb2 hww1) ?_
  refine LE.nil ?_
  refine WE.seq ?_
  refine WE.reg ?_
  refine LE.p (v := (Value.int .u32 p0)) (Wn.no rfl) rfl (R.move rfl) ?_
  refine LE.p (v := (Value.int .i64 p1)) (Wn.no rfl) rfl (R.move rfl) ?_
  refine LE.c (Wn.no rfl) rfl (R.call bd44 (Ls.cons rfl Ls.nil) rfl) (Calls.mono h ?_)
  rintro _ w4 ⟨r3, rfl, h⟩
  refine ⟨_, rfl, ?_⟩
  refine LE.p (v := (Value.int .u32 (bAnd .u32 p0 r3))) (Wn.no rfl) rfl (R.and rfl rfl) ?_
  refine LE.p (v := (Value.int .i64 p1)) (Wn.no rfl) rfl (R.move rfl) ?_
  refine LE.p (v := (Value.int .i64 (max p1 (0 : Int)))) (Wn.no rfl) rfl (R.max2 rfl rfl) ?_
  refine LE.p (v := (Value.int .i64 (min (max p1 (0 : Int)) (32 : Int)))) (Wn.no rfl) rfl (R.min2 rfl rfl) ?_
  refine LE.p (v := (Value.agg #[(Value.int .u32 (bAnd .u32 p0 r3)), (Value.int .i64 (min (max p1 (0 : Int)) (32 : Int)))])) (Wn.no rfl) rfl (R.bld (by exact (Ls.cons (R.Pr rfl) (Ls.cons (R.Pr rfl) Ls.nil))) (fun w => bu27_0_1 (bAnd .u32 p0 r3) (min (max p1 (0 : Int)) (32 : Int)) w)) ?_
  obtain ⟨w5, hww5, h6, h⟩ := M.stA_use h
  refine LE.s (Wn.no rfl) rfl (R.stA (a := b2) [(Value.int .u32 (bAnd .u32 p0 r3)), (Value.int .i64 (min (max p1 (0 : Int)) (32 : Int)))] sz27 rfl rfl rfl (by simp [Value.oneCell']) h6 hww5) ?_
  refine LE.nil ?_
  refine WE.ret ?_
  obtain ⟨t7, h8, h⟩ := h
  obtain ⟨t9, h10, h⟩ := h
  exact ⟨_, (Res.cell rfl (R.ldCellA ag27 sz27 rfl (Cs.cons h8 (Cs.cons h10 Cs.nil))) Res.nil), _, _, rfl, h⟩
/-- The formula of signpost.addr.Half. -/
def F46 (p0_0 : Int) (p0_1 : Int) (p1 : Bool) (K : Int → Int → Bool → World → Prop) (w0 : World) : Prop :=
M.new (.cells #[(Value.int .u32 p0_0), (Value.int .i64 p0_1)] 27) w0 fun b2 w1 =>
M.new (.cells #[(Value.int .u32 (0 : Int)), (Value.int .i64 (0 : Int))] 27) w1 fun b4 w3 =>
M.join (fun (x6 : Bool) (w17 : World) => 
M.ite x6 (
M.stA b4 [(Value.int .u32 (0 : Int)), (Value.int .i64 (0 : Int))] w17 fun w23 =>
M.ld (Value.int .u32) b4 w23 fun t25 =>
M.ld (Value.int .i64) (b4.add 1) w23 fun t27 =>
K t25 t27 false w23) (
M.ld (Value.int .u32) b2 w17 fun t29 =>
M.join (fun (x32 : Int) (w38 : World) => 
M.ld (Value.int .i64) (b2.add 1) w38 fun t42 =>
M.stA b4 [(Value.int .u32 x32), (Value.int .i64 (IntKind.i64.wrap (t42 + (1 : Int))))] w38 fun w44 =>
M.ld (Value.int .u32) b4 w44 fun t46 =>
M.ld (Value.int .i64) (b4.add 1) w44 fun t48 =>
K t46 t48 true w44) fun J31 => 
M.ite p1 (
M.ld (Value.int .i64) (b2.add 1) w17 fun t34 =>
M.sh (IntKind.i64.wrap ((31 : Int) - t34)) <|
J31 (bOr .u32 t29 (bShl .u32 (1 : Int) (IntKind.i64.wrap ((31 : Int) - t34)))) w17) (
J31 t29 w17))) fun J5 => 
M.ld (Value.int .u32) b2 w3 fun t7 =>
M.ld (Value.int .i64) (b2.add 1) w3 fun t9 =>
Calls Try.prog 29 #[(Value.agg #[(Value.int .u32 t7), (Value.int .i64 t9)])] w3 (R29 fun r11 w12 =>
M.ite (!r11) (
J5 true w12) (
M.ld (Value.int .i64) (b2.add 1) w12 fun t14 =>
J5 (t14 == (32 : Int)) w12))
theorem F46_ok {w0 : World} {p0_0 : Int} {p0_1 : Int} {p1 : Bool} {K : Int → Int → Bool → World → Prop} (h : F46 p0_0 p0_1 p1 K w0) : Calls Try.prog 46 #[(Value.agg #[(Value.int .u32 p0_0), (Value.int .i64 p0_1)]), (Value.bool p1)] w0 (R46 K) := by
  refine calls_of_WE (args := [(Value.agg #[(Value.int .u32 p0_0), (Value.int .i64 p0_1)]), (Value.bool p1)]) (rs := [.cell 4 27, .tmp 5]) Try.func46 rfl (N := 30) rfl rfl rfl rfl ?_
  refine WE.seq ?_
  refine WE.reg ?_
  obtain ⟨b2, hpb2, w1, hww1, h⟩ := M.new_use h
  refine LE.r (v := (Value.pointer (some b2))) (Wn.no rfl) rfl (R.box (cs := #[(Value.int .u32 p0_0), (Value.int .i64 p0_1)]) rfl rfl hpb2 hww1) ?_
  obtain ⟨b4, hpb4, w3, hww3, h⟩ := M.new_use h
  refine LE.r (v := (Value.pointer (some b4))) (Wn.no rfl) rfl (R.alloc (cs := #[(Value.int .u32 (0 : Int)), (Value.int .i64 (0 : Int))]) ze27 rfl hpb4 hww3) ?_
  refine LE.p (v := (Value.bool false)) (Wn.no rfl) rfl (R.assign rfl) ?_
  refine LE.nil ?_
  refine WE.seq ?_
  refine WE.seq ?_
  obtain ⟨J5, hJ5, h⟩ := M.join_use h
  refine WE.regJ (fun e w => ∃ (x6 : Bool), J5 x6 w ∧ e 1 = (Value.bool p1) ∧ e 2 = (Value.pointer (some b2)) ∧ e 4 = (Value.pointer (some b4)) ∧ e 14 = (Value.bool x6)) ?_ ?_
  · clear hJ5
    obtain ⟨t7, h8, h⟩ := h
    obtain ⟨t9, h10, h⟩ := h
    refine LE.r (v := (Value.agg #[(Value.int .u32 t7), (Value.int .i64 t9)])) (Wn.no rfl) rfl (R.ldA ag27 sz27 rfl rfl (Cs.cons h8 (Cs.cons h10 Cs.nil))) ?_
    refine LE.c (Wn.no rfl) rfl (R.call bd29 (Ls.cons rfl Ls.nil) rfl) (Calls.mono h ?_)
    rintro _ w12 ⟨r11, rfl, h⟩
    refine ⟨_, rfl, ?_⟩
    refine LE.p (v := (Value.bool (!r11))) (Wn.no rfl) rfl (R.not rfl) ?_
    refine LE.p (v := (Value.bool (!r11))) (Wn.no rfl) rfl (R.move rfl) ?_
    rcases M.ite_use h with ⟨hb13, h⟩ | ⟨hb13, h⟩
    · refine LE.u (Un.no 3 10 false rfl rfl rfl (congrArg Value.bool hb13)) ?_
      refine LE.u (Un.no 3 10 false rfl rfl rfl (congrArg Value.bool hb13)) ?_
      refine LE.u (Un.no 3 10 false rfl rfl rfl (congrArg Value.bool hb13)) ?_
      refine LE.p (v := (Value.bool true)) (Wn.no rfl) rfl (R.pickT (congrArg Value.bool hb13) rfl) ?_
      refine LE.nil ?_
      exact ⟨_, h, rfl, rfl, rfl, rfl⟩
    · refine LE.p (v := (Value.pointer (some (b2.add 1)))) (Wn.yes 3 10 false rfl rfl rfl (congrArg Value.bool hb13)) rfl (R.fld (off := 1) fa27_1 rfl) ?_
      obtain ⟨t14, h15, h⟩ := h
      refine LE.r (v := (Value.int .i64 t14)) (Wn.yes 3 10 false rfl rfl rfl (congrArg Value.bool hb13)) rfl (R.ld sc3 rfl h15) ?_
      refine LE.p (v := (Value.bool (t14 == (32 : Int)))) (Wn.yes 3 10 false rfl rfl rfl (congrArg Value.bool hb13)) rfl (R.eql rfl rfl) ?_
      refine LE.p (v := (Value.bool (t14 == (32 : Int)))) (Wn.no rfl) rfl (R.pickF (congrArg Value.bool hb13) rfl) ?_
      refine LE.nil ?_
      exact ⟨_, h, rfl, rfl, rfl, rfl⟩
  · rintro e16 w17 ⟨x6, h, f18, f19, f20, f21⟩
    subst hJ5
    refine WE.condT rfl (b := x6) f21 ?_ ?_
    · intro hb22
      replace h := M.ite_t h hb22
      refine WE.seq ?_
      refine WE.reg ?_
      refine LE.p (v := (Value.agg #[(Value.int .u32 (0 : Int)), (Value.int .i64 (0 : Int))])) (Wn.no rfl) rfl (R.bld (by exact Ls.nil) (fun w => bu27_  w)) ?_
      obtain ⟨w23, hww23, h24, h⟩ := M.stA_use h
      refine LE.s (Wn.no rfl) rfl (R.stA (a := b4) [(Value.int .u32 (0 : Int)), (Value.int .i64 (0 : Int))] sz27 f20 rfl rfl (by simp [Value.oneCell']) h24 hww23) ?_
      refine LE.p (v := (Value.bool false)) (Wn.no rfl) rfl (R.assign rfl) ?_
      refine LE.nil ?_
      refine WE.ret ?_
      obtain ⟨t25, h26, h⟩ := h
      obtain ⟨t27, h28, h⟩ := h
      exact ⟨_, (Res.cell f20 (R.ldCellA ag27 sz27 rfl (Cs.cons h26 (Cs.cons h28 Cs.nil))) (Res.tmp rfl Res.nil)), _, _, _, rfl, h⟩
    · intro hb22
      replace h := M.ite_f h hb22
      refine WE.skip ?_
      refine WE.seq ?_
      refine WE.reg ?_
      refine LE.p (v := (Value.pointer (some b2))) (Wn.no rfl) rfl (R.fld (off := 0) fa27_0 f19) ?_
      obtain ⟨t29, h30, h⟩ := h
      refine LE.r (v := (Value.int .u32 t29)) (Wn.no rfl) rfl (R.ld sc25 rfl h30) ?_
      refine LE.p (v := (Value.int .u32 t29)) (Wn.no rfl) rfl (R.assign rfl) ?_
      refine LE.nil ?_
      obtain ⟨J31, hJ31, h⟩ := M.join_use h
      refine WE.join (fun e w => ∃ (x32 : Int), J31 x32 w ∧ e 2 = (Value.pointer (some b2)) ∧ e 4 = (Value.pointer (some b4)) ∧ e 6 = (Value.int .u32 x32)) ?_ ?_
      · clear hJ31
        refine WE.seq ?_
        refine WE.reg ?_
        refine LE.p (v := (Value.bool p1)) (Wn.no rfl) rfl (R.move f18) ?_
        refine LE.nil ?_
        refine WE.condT rfl (b := p1) rfl ?_ ?_
        · intro hb33
          replace h := M.ite_t h hb33
          refine WE.reg ?_
          refine LE.p (v := (Value.int .u32 t29)) (Wn.no rfl) rfl (R.move rfl) ?_
          refine LE.p (v := (Value.pointer (some (b2.add 1)))) (Wn.no rfl) rfl (R.fld (off := 1) fa27_1 f19) ?_
          obtain ⟨t34, h35, h⟩ := h
          refine LE.r (v := (Value.int .i64 t34)) (Wn.no rfl) rfl (R.ld sc3 rfl h35) ?_
          refine LE.p (v := (Value.int .i64 (IntKind.i64.wrap ((31 : Int) - t34)))) (Wn.no rfl) rfl (R.sub rfl rfl) ?_
          obtain ⟨h36, h⟩ := h
          refine LE.p (v := (Value.int .u32 (bShl .u32 (1 : Int) (IntKind.i64.wrap ((31 : Int) - t34))))) (Wn.no rfl) rfl (R.shl rfl rfl h36) ?_
          refine LE.p (v := (Value.int .u32 (bOr .u32 t29 (bShl .u32 (1 : Int) (IntKind.i64.wrap ((31 : Int) - t34)))))) (Wn.no rfl) rfl (R.or rfl rfl) ?_
          refine LE.p (v := (Value.int .u32 (bOr .u32 t29 (bShl .u32 (1 : Int) (IntKind.i64.wrap ((31 : Int) - t34)))))) (Wn.no rfl) rfl (R.assign rfl) ?_
          refine LE.nil ?_
          exact ⟨_, h, f19, f20, rfl⟩
        · intro hb33
          replace h := M.ite_f h hb33
          refine WE.skip ?_
          exact ⟨_, h, f19, f20, rfl⟩
      · rintro e37 w38 ⟨x32, h, f39, f40, f41⟩
        subst hJ31
        refine WE.seq ?_
        refine WE.reg ?_
        refine LE.p (v := (Value.int .u32 x32)) (Wn.no rfl) rfl (R.move f41) ?_
        refine LE.p (v := (Value.pointer (some (b2.add 1)))) (Wn.no rfl) rfl (R.fld (off := 1) fa27_1 f39) ?_
        obtain ⟨t42, h43, h⟩ := h
        refine LE.r (v := (Value.int .i64 t42)) (Wn.no rfl) rfl (R.ld sc3 rfl h43) ?_
        refine LE.p (v := (Value.int .i64 (IntKind.i64.wrap (t42 + (1 : Int))))) (Wn.no rfl) rfl (R.add rfl rfl) ?_
        refine LE.p (v := (Value.agg #[(Value.int .u32 x32), (Value.int .i64 (IntKind.i64.wrap (t42 + (1 : Int))))])) (Wn.no rfl) rfl (R.bld (by exact (Ls.cons (R.Pr rfl) (Ls.cons (R.Pr rfl) Ls.nil))) (fun w => bu27_0_1 x32 (IntKind.i64.wrap (t42 + (1 : Int))) w)) ?_
        obtain ⟨w44, hww44, h45, h⟩ := M.stA_use h
        refine LE.s (Wn.no rfl) rfl (R.stA (a := b4) [(Value.int .u32 x32), (Value.int .i64 (IntKind.i64.wrap (t42 + (1 : Int))))] sz27 f40 rfl rfl (by simp [Value.oneCell']) h45 hww44) ?_
        refine LE.p (v := (Value.bool true)) (Wn.no rfl) rfl (R.assign rfl) ?_
        refine LE.nil ?_
        refine WE.ret ?_
        obtain ⟨t46, h47, h⟩ := h
        obtain ⟨t48, h49, h⟩ := h
        exact ⟨_, (Res.cell f40 (R.ldCellA ag27 sz27 rfl (Cs.cons h47 (Cs.cons h49 Cs.nil))) (Res.tmp rfl Res.nil)), _, _, _, rfl, h⟩
/-- The formula of (*signpost.signpostref3.Trie).at. -/
def F47 (p0 : Option Addr) (p1_0 : Int) (p1_1 : Int) (K : Int → World → Prop) (w0 : World) : Prop :=
M.new (.cells #[(Value.int .u32 p1_0), (Value.int .i64 p1_1)] 27) w0 fun b2 w1 =>
M.loop1 (fun (J4 : Int → World → Prop) (x3 : Int) (w5 : World) => 
M.nil p0 fun a15 =>
M.ld SV.v a15 w5 fun t17 =>
M.ite (decide (x3 < (t17.len : Int))) (
M.drew w5 fun w20 => 
M.nil p0 fun a21 =>
M.ld SV.v a21 w20 fun t23 =>
M.idx t23 x3 2 fun a25 =>
M.ld (Value.int .u32) (a25.add (x3.toNat * 2)) w20 fun t29 =>
M.ld (Value.int .i64) ((a25.add (x3.toNat * 2)).add 1) w20 fun t31 =>
M.ld (Value.int .u32) b2 w20 fun t33 =>
M.ld (Value.int .i64) (b2.add 1) w20 fun t35 =>
M.ite ((t29 == t33) && (t31 == t35)) (
K x3 w20) (
J4 (IntKind.i64.wrap (x3 + (1 : Int))) w20)) (
K (-1 : Int) w5)) (0 : Int) w1
theorem F47_ok {w0 : World} {p0 : Option Addr} {p1_0 : Int} {p1_1 : Int} {K : Int → World → Prop} (h : F47 p0 p1_0 p1_1 K w0) : Calls Try.prog 47 #[(Value.pointer p0), (Value.agg #[(Value.int .u32 p1_0), (Value.int .i64 p1_1)])] w0 (R47 K) := by
  refine calls_of_WE (args := [(Value.pointer p0), (Value.agg #[(Value.int .u32 p1_0), (Value.int .i64 p1_1)])]) (rs := [.tmp 4]) Try.func47 rfl (N := 25) rfl rfl rfl rfl ?_
  refine WE.seq ?_
  refine WE.reg ?_
  obtain ⟨b2, hpb2, w1, hww1, h⟩ := M.new_use h
  refine LE.r (v := (Value.pointer (some b2))) (Wn.no rfl) rfl (R.box (cs := #[(Value.int .u32 p1_0), (Value.int .i64 p1_1)]) rfl rfl hpb2 hww1) ?_
  refine LE.p (v := (Value.int .i64 (0 : Int))) (Wn.no rfl) rfl (R.assign rfl) ?_
  refine LE.nil ?_
  refine WE.seq ?_
  refine WE.seq ?_
  refine WE.reg ?_
  refine LE.p (v := (Value.int .i64 (0 : Int))) (Wn.no rfl) rfl (R.assign rfl) ?_
  refine LE.nil ?_
  refine WE.block ?_
  obtain ⟨I8, ⟨n7, h⟩, hr9⟩ := h
  refine WE.loop (fun n e w => ∃ (x3 : Int), I8 n x3 w ∧ e 0 = (Value.pointer p0) ∧ e 3 = (Value.pointer (some b2)) ∧ e 5 = (Value.int .i64 x3)) n7 ⟨_, h, rfl, rfl, rfl⟩ ?_
  clear h
  rintro n7 e6 w5 ⟨x3, h, f12, f13, f14⟩
  replace h := hr9 n7 x3 w5 h
  refine WE.seq ?_
  refine WE.seq ?_
  refine WE.reg ?_
  refine LE.p (v := (Value.int .i64 x3)) (Wn.no rfl) rfl (R.move f14) ?_
  refine LE.p (v := (Value.pointer p0)) (Wn.no rfl) rfl (R.move f12) ?_
  obtain ⟨a15, h16, h⟩ := h
  refine LE.p (v := (Value.pointer (some a15))) (Wn.no rfl) rfl (R.nilC (congrArg Value.pointer h16)) ?_
  refine LE.p (v := (Value.pointer (some a15))) (Wn.no rfl) rfl (R.fld (off := 0) fa55_0 rfl) ?_
  obtain ⟨t17, h18, h⟩ := h
  refine LE.r (v := (SV.v t17)) (Wn.no rfl) rfl (R.ld sc33 rfl h18) ?_
  refine LE.p (v := (Value.int .i64 (t17.len : Int))) (Wn.no rfl) rfl (R.len sl33 rfl) ?_
  refine LE.p (v := (Value.bool (decide (x3 < (t17.len : Int))))) (Wn.no rfl) rfl (R.lss rfl rfl) ?_
  refine LE.nil ?_
  refine WE.condT rfl (b := (decide (x3 < (t17.len : Int)))) rfl ?_ ?_
  · intro hb19
    replace h := M.ite_t h hb19
    refine WE.skip ?_
    refine WE.seq ?_
    refine WE.block ?_
    refine WE.seq ?_
    refine WE.draw mix ?_
    obtain ⟨w20, hww20, h⟩ := M.drew_use h
    rw [← hww20]
    clear hww20
    refine DE.t 0 (v := (Value.pointer p0)) rfl (by kernel_rfl) (Wn.no rfl) rfl (R.move f12) ?_
    obtain ⟨a21, h22, h⟩ := h
    refine DE.t 1 (v := (Value.pointer (some a21))) rfl (by kernel_rfl) (Wn.no rfl) rfl (R.nilC (congrArg Value.pointer h22)) ?_
    refine DE.t 2 (v := (Value.pointer (some a21))) rfl (by kernel_rfl) (Wn.no rfl) rfl (R.fld (off := 0) fa55_0 rfl) ?_
    refine DE.t 4 (v := (Value.int .i64 x3)) rfl (by kernel_rfl) (Wn.no rfl) rfl (R.move f14) ?_
    obtain ⟨t23, h24, h⟩ := h
    refine DE.hold 3 (fun w => w.cell? a21 = some (SV.v t23)) (v := (SV.v t23)) rfl (by kernel_rfl) (Wn.no rfl) rfl h24 (fun w hs => R.ld sc33 rfl hs) ?_
    obtain ⟨a25, h26, h27, h28, h⟩ := h
    refine DE.t 5 (v := (Value.pointer (some (a25.add (x3.toNat * 2))))) rfl (by kernel_rfl) (Wn.no rfl) rfl (R.idx (s := t23) sl33 rfl rfl h26 h27 h28) ?_
    obtain ⟨t29, h30, h⟩ := h
    obtain ⟨t31, h32, h⟩ := h
    refine DE.hold 6 (fun w => w.cell? (a25.add (x3.toNat * 2)) = some (Value.int .u32 t29) ∧ w.cell? ((a25.add (x3.toNat * 2)).add 1) = some (Value.int .i64 t31)) (v := (Value.agg #[(Value.int .u32 t29), (Value.int .i64 t31)])) rfl (by kernel_rfl) (Wn.no rfl) rfl ⟨h30, h32⟩ (fun w hs => R.ldA ag27 sz27 rfl rfl (Cs.cons hs.1 (Cs.cons hs.2 Cs.nil))) ?_
    obtain ⟨t33, h34, h⟩ := h
    obtain ⟨t35, h36, h⟩ := h
    refine DE.main 7 (by kernel_rfl) ?_
    refine One.r 7 (v := (Value.agg #[(Value.int .u32 t33), (Value.int .i64 t35)])) rfl (Wn.no rfl) rfl (R.ldA ag27 sz27 f13 rfl (Cs.cons h34 (Cs.cons h36 Cs.nil))) (.inl rfl) ?_
    refine DE.t 8 (v := (Value.bool ((t29 == t33) && (t31 == t35)))) rfl (by kernel_rfl) (Wn.no rfl) rfl (R.eqS (fun w => eq27 t29 t33 t31 t35 w) sg27 rfl rfl) ?_
    refine DE.done (by kernel_rfl) ?_
    refine WE.condT rfl (b := ((t29 == t33) && (t31 == t35))) rfl ?_ ?_
    · intro hb37
      replace h := M.ite_t h hb37
      refine WE.seq ?_
      refine WE.reg ?_
      refine LE.p (v := (Value.int .i64 x3)) (Wn.no rfl) rfl (R.move f14) ?_
      refine LE.p (v := (Value.int .i64 x3)) (Wn.no rfl) rfl (R.assign rfl) ?_
      refine LE.nil ?_
      refine WE.ret ?_
      exact ⟨_, (Res.tmp rfl Res.nil), _, rfl, h⟩
    · intro hb37
      replace h := M.ite_f h hb37
      refine WE.skip ?_
      refine WE.reg ?_
      refine LE.p (v := (Value.int .i64 x3)) (Wn.no rfl) rfl (R.move f14) ?_
      refine LE.p (v := (Value.int .i64 (IntKind.i64.wrap (x3 + (1 : Int))))) (Wn.no rfl) rfl (R.add rfl rfl) ?_
      refine LE.p (v := (Value.int .i64 (IntKind.i64.wrap (x3 + (1 : Int))))) (Wn.no rfl) rfl (R.assign rfl) ?_
      refine LE.nil ?_
      obtain ⟨m10, hm11, h⟩ := h
      exact ⟨m10, hm11, _, h, f12, f13, rfl⟩
  · intro hb19
    replace h := M.ite_f h hb19
    refine WE.exit ?_
    refine WE.seq ?_
    refine WE.reg ?_
    refine LE.p (v := (Value.int .i64 (-1 : Int))) (Wn.no rfl) rfl (R.assign rfl) ?_
    refine LE.nil ?_
    refine WE.ret ?_
    exact ⟨_, (Res.tmp rfl Res.nil), _, rfl, h⟩
/-- The formula of signpost.signpostref1.Covers. -/
def F48 (p0_0 : Int) (p0_1 : Int) (p1_0 : Int) (p1_1 : Int) (K : Bool → World → Prop) (w0 : World) : Prop :=
M.new (.cells #[(Value.int .u32 p0_0), (Value.int .i64 p0_1)] 27) w0 fun b2 w1 =>
M.new (.cells #[(Value.int .u32 p1_0), (Value.int .i64 p1_1)] 27) w1 fun b4 w3 =>
M.join (fun (x6 : Bool) (w28 : World) => 
K x6 w28) fun J5 => 
M.ld (Value.int .u32) b4 w3 fun t7 =>
M.ld (Value.int .i64) (b4.add 1) w3 fun t9 =>
Calls Try.prog 32 #[(Value.agg #[(Value.int .u32 t7), (Value.int .i64 t9)])] w3 (R32 fun r11 w12 =>
M.ite r11 (
M.ld (Value.int .i64) (b2.add 1) w12 fun t14 =>
M.ld (Value.int .i64) (b4.add 1) w12 fun t16 =>
M.ite (decide (t14 ≤ t16)) (
M.ld (Value.int .u32) b2 w12 fun t19 =>
M.ld (Value.int .i64) (b2.add 1) w12 fun t21 =>
M.ld (Value.int .u32) b4 w12 fun t23 =>
Calls Try.prog 21 #[(Value.agg #[(Value.int .u32 t19), (Value.int .i64 t21)]), (Value.int .u32 t23)] w12 (R21 fun r25 w26 =>
J5 r25 w26)) (
J5 false w12)) (
J5 false w12))
theorem F48_ok {w0 : World} {p0_0 : Int} {p0_1 : Int} {p1_0 : Int} {p1_1 : Int} {K : Bool → World → Prop} (h : F48 p0_0 p0_1 p1_0 p1_1 K w0) : Calls Try.prog 48 #[(Value.agg #[(Value.int .u32 p0_0), (Value.int .i64 p0_1)]), (Value.agg #[(Value.int .u32 p1_0), (Value.int .i64 p1_1)])] w0 (R48 K) := by
  refine calls_of_WE (args := [(Value.agg #[(Value.int .u32 p0_0), (Value.int .i64 p0_1)]), (Value.agg #[(Value.int .u32 p1_0), (Value.int .i64 p1_1)])]) (rs := [.tmp 4]) Try.func48 rfl (N := 20) rfl rfl rfl rfl ?_
  refine WE.seq ?_
  refine WE.reg ?_
  obtain ⟨b2, hpb2, w1, hww1, h⟩ := M.new_use h
  refine LE.r (v := (Value.pointer (some b2))) (Wn.no rfl) rfl (R.box (cs := #[(Value.int .u32 p0_0), (Value.int .i64 p0_1)]) rfl rfl hpb2 hww1) ?_
  obtain ⟨b4, hpb4, w3, hww3, h⟩ := M.new_use h
  refine LE.r (v := (Value.pointer (some b4))) (Wn.no rfl) rfl (R.box (cs := #[(Value.int .u32 p1_0), (Value.int .i64 p1_1)]) rfl rfl hpb4 hww3) ?_
  refine LE.p (v := (Value.bool false)) (Wn.no rfl) rfl (R.assign rfl) ?_
  refine LE.nil ?_
  refine WE.seq ?_
  obtain ⟨J5, hJ5, h⟩ := M.join_use h
  refine WE.regJ (fun e w => ∃ (x6 : Bool), J5 x6 w ∧ e 4 = (Value.bool x6)) ?_ ?_
  · clear hJ5
    obtain ⟨t7, h8, h⟩ := h
    obtain ⟨t9, h10, h⟩ := h
    refine LE.r (v := (Value.agg #[(Value.int .u32 t7), (Value.int .i64 t9)])) (Wn.no rfl) rfl (R.ldA ag27 sz27 rfl rfl (Cs.cons h8 (Cs.cons h10 Cs.nil))) ?_
    refine LE.c (Wn.no rfl) rfl (R.call bd32 (Ls.cons rfl Ls.nil) rfl) (Calls.mono h ?_)
    rintro _ w12 ⟨r11, rfl, h⟩
    refine ⟨_, rfl, ?_⟩
    refine LE.p (v := (Value.bool r11)) (Wn.no rfl) rfl (R.move rfl) ?_
    rcases M.ite_use h with ⟨hb13, h⟩ | ⟨hb13, h⟩
    · refine LE.p (v := (Value.pointer (some (b2.add 1)))) (Wn.yes 2 7 true rfl rfl rfl (congrArg Value.bool hb13)) rfl (R.fld (off := 1) fa27_1 rfl) ?_
      obtain ⟨t14, h15, h⟩ := h
      refine LE.r (v := (Value.int .i64 t14)) (Wn.yes 2 7 true rfl rfl rfl (congrArg Value.bool hb13)) rfl (R.ld sc3 rfl h15) ?_
      refine LE.p (v := (Value.pointer (some (b4.add 1)))) (Wn.yes 2 7 true rfl rfl rfl (congrArg Value.bool hb13)) rfl (R.fld (off := 1) fa27_1 rfl) ?_
      obtain ⟨t16, h17, h⟩ := h
      refine LE.r (v := (Value.int .i64 t16)) (Wn.yes 2 7 true rfl rfl rfl (congrArg Value.bool hb13)) rfl (R.ld sc3 rfl h17) ?_
      refine LE.p (v := (Value.bool (decide (t14 ≤ t16)))) (Wn.yes 2 7 true rfl rfl rfl (congrArg Value.bool hb13)) rfl (R.leq rfl rfl) ?_
      refine LE.p (v := (Value.bool (decide (t14 ≤ t16)))) (Wn.no rfl) rfl (R.pickT (congrArg Value.bool hb13) rfl) ?_
      refine LE.p (v := (Value.bool (decide (t14 ≤ t16)))) (Wn.no rfl) rfl (R.move rfl) ?_
      rcases M.ite_use h with ⟨hb18, h⟩ | ⟨hb18, h⟩
      · obtain ⟨t19, h20, h⟩ := h
        obtain ⟨t21, h22, h⟩ := h
        refine LE.r (v := (Value.agg #[(Value.int .u32 t19), (Value.int .i64 t21)])) (Wn.yes 9 14 true rfl rfl rfl (congrArg Value.bool hb18)) rfl (R.ldA ag27 sz27 rfl rfl (Cs.cons h20 (Cs.cons h22 Cs.nil))) ?_
        refine LE.p (v := (Value.pointer (some b4))) (Wn.yes 9 14 true rfl rfl rfl (congrArg Value.bool hb18)) rfl (R.fld (off := 0) fa27_0 rfl) ?_
        obtain ⟨t23, h24, h⟩ := h
        refine LE.r (v := (Value.int .u32 t23)) (Wn.yes 9 14 true rfl rfl rfl (congrArg Value.bool hb18)) rfl (R.ld sc25 rfl h24) ?_
        refine LE.c (Wn.yes 9 14 true rfl rfl rfl (congrArg Value.bool hb18)) rfl (R.call bd21 (Ls.cons rfl (Ls.cons rfl Ls.nil)) rfl) (Calls.mono h ?_)
        rintro _ w26 ⟨r25, rfl, h⟩
        refine ⟨_, rfl, ?_⟩
        refine LE.p (v := (Value.bool r25)) (Wn.no rfl) rfl (R.pickT (congrArg Value.bool hb18) rfl) ?_
        refine LE.p (v := (Value.bool r25)) (Wn.no rfl) rfl (R.assign rfl) ?_
        refine LE.nil ?_
        exact ⟨_, h, rfl⟩
      · refine LE.u (Un.no 9 14 true rfl rfl rfl (congrArg Value.bool hb18)) ?_
        refine LE.u (Un.no 9 14 true rfl rfl rfl (congrArg Value.bool hb18)) ?_
        refine LE.u (Un.no 9 14 true rfl rfl rfl (congrArg Value.bool hb18)) ?_
        refine LE.u (Un.no 9 14 true rfl rfl rfl (congrArg Value.bool hb18)) ?_
        refine LE.p (v := (Value.bool false)) (Wn.no rfl) rfl (R.pickF (congrArg Value.bool hb18) rfl) ?_
        refine LE.p (v := (Value.bool false)) (Wn.no rfl) rfl (R.assign rfl) ?_
        refine LE.nil ?_
        exact ⟨_, h, rfl⟩
    · refine LE.u (Un.no 2 7 true rfl rfl rfl (congrArg Value.bool hb13)) ?_
      refine LE.u (Un.no 2 7 true rfl rfl rfl (congrArg Value.bool hb13)) ?_
      refine LE.u (Un.no 2 7 true rfl rfl rfl (congrArg Value.bool hb13)) ?_
      refine LE.u (Un.no 2 7 true rfl rfl rfl (congrArg Value.bool hb13)) ?_
      refine LE.u (Un.no 2 7 true rfl rfl rfl (congrArg Value.bool hb13)) ?_
      refine LE.p (v := (Value.bool false)) (Wn.no rfl) rfl (R.pickF (congrArg Value.bool hb13) rfl) ?_
      refine LE.p (v := (Value.bool false)) (Wn.no rfl) rfl (R.move rfl) ?_
      refine LE.u (Un.no 9 14 true rfl rfl rfl rfl) ?_
      refine LE.u (Un.no 9 14 true rfl rfl rfl rfl) ?_
      refine LE.u (Un.no 9 14 true rfl rfl rfl rfl) ?_
      refine LE.u (Un.no 9 14 true rfl rfl rfl rfl) ?_
      refine LE.p (v := (Value.bool false)) (Wn.no rfl) rfl (R.pickF rfl rfl) ?_
      refine LE.p (v := (Value.bool false)) (Wn.no rfl) rfl (R.assign rfl) ?_
      refine LE.nil ?_
      exact ⟨_, h, rfl⟩
  · rintro e27 w28 ⟨x6, h, f29⟩
    subst hJ5
    refine WE.ret ?_
    exact ⟨_, (Res.tmp f29 Res.nil), _, rfl, h⟩
end Go.Proofs.Ytjjjomeemfmihaa
