/-
  Printed by gen.py: the formula of each function, and that it holds of the function.
-/
import Derived.Test.YtflffabmfoldeaaTy
namespace Go.Proofs.Ytflffabmfoldeaa
set_option linter.unusedVariables false
set_option linter.unusedSimpArgs false
open Go.Sp
set_option linter.unusedVariables false
/-- The formula of signpost.signpostref6.Copy. -/
def F60 (p0 : SV) (K : SV → World → Prop) (w0 : World) : Prop :=
M.loop2 (fun (J3 : SV → Int → World → Prop) (x1 : SV) (x2 : Int) (w4 : World) => 
M.ite (decide (x2 < (p0.len : Int))) (
M.drew w4 fun w15 => 
M.idx p0 x2 2 fun a16 =>
M.idx p0 x2 2 fun a20 =>
M.ld (Value.int .i64) (a16.add (x2.toNat * 2)) w15 fun t24 =>
M.ld SV.v ((a20.add (x2.toNat * 2)).add 1) w15 fun t26 =>
M.new (.cells #[] 23) w15 fun b30 w28 =>
M.keep (w28.cell? ((a20.add (x2.toNat * 2)).add 1) = some (SV.v t26)) <|
M.keep (w28.cell? (a16.add (x2.toNat * 2)) = some (Value.int .i64 t24)) <|
M.app Try.prog 25 25 25 (SV.mk (some b30) 0 0) (SV.v t26) w28 fun s33 w34 =>
M.keep (w34.cell? (a16.add (x2.toNat * 2)) = some (Value.int .i64 t24)) <|
M.new (.cells #[(Value.int .i64 t24), (SV.v s33)] 27) w34 fun b39 w37 =>
M.app Try.prog 24 24 24 x1 (SV.v (SV.mk (some b39) 1 1)) w37 fun s40 w41 =>
J3 s40 (IntKind.i64.wrap (x2 + (1 : Int))) w41) (
K x1 w4)) SV.nil (0 : Int) w0
theorem F60_ok {w0 : World} {p0 : SV} {K : SV → World → Prop} (h : F60 p0 K w0) : Calls Try.prog 60 #[(SV.v p0)] w0 (R60 K) := by
  refine calls_of_WE (args := [(SV.v p0)]) (rs := [.tmp 2]) Try.func60 rfl (N := 28) rfl rfl rfl rfl ?_
  refine WE.seq ?_
  refine WE.reg ?_
  refine LE.p (v := (SV.v SV.nil)) (Wn.no rfl) rfl (R.assign rfl) ?_
  refine LE.nil ?_
  refine WE.seq ?_
  refine WE.reg ?_
  refine LE.p (v := (SV.v SV.nil)) (Wn.no rfl) rfl (R.assign rfl) ?_
  refine LE.nil ?_
  refine WE.seq ?_
  refine WE.seq ?_
  refine WE.reg ?_
  refine LE.p (v := (Value.int .i64 (0 : Int))) (Wn.no rfl) rfl (R.assign rfl) ?_
  refine LE.nil ?_
  refine WE.block ?_
  obtain ⟨I7, ⟨n6, h⟩, hr8⟩ := h
  refine WE.loop (fun n e w => ∃ (x1 : SV) (x2 : Int), I7 n x1 x2 w ∧ e 0 = (SV.v p0) ∧ e 3 = (SV.v x1) ∧ e 4 = (Value.int .i64 x2)) n6 ⟨_, _, h, rfl, rfl, rfl⟩ ?_
  clear h
  rintro n6 e5 w4 ⟨x1, x2, h, f11, f12, f13⟩
  replace h := hr8 n6 x1 x2 w4 h
  refine WE.seq ?_
  refine WE.seq ?_
  refine WE.reg ?_
  refine LE.p (v := (Value.int .i64 x2)) (Wn.no rfl) rfl (R.move f13) ?_
  refine LE.p (v := (SV.v p0)) (Wn.no rfl) rfl (R.move f11) ?_
  refine LE.p (v := (Value.int .i64 (p0.len : Int))) (Wn.no rfl) rfl (R.len sl24 rfl) ?_
  refine LE.p (v := (Value.bool (decide (x2 < (p0.len : Int))))) (Wn.no rfl) rfl (R.lss rfl rfl) ?_
  refine LE.nil ?_
  refine WE.condT rfl (b := (decide (x2 < (p0.len : Int)))) rfl ?_ ?_
  · intro hb14
    replace h := M.ite_t h hb14
    refine WE.skip ?_
    refine WE.seq ?_
    refine WE.block ?_
    refine WE.draw mix ?_
    obtain ⟨w15, hww15, h⟩ := M.drew_use h
    rw [← hww15]
    clear hww15
    refine DE.t 0 (v := (SV.v x1)) rfl (by kernel_rfl) (Wn.no rfl) rfl (R.move f12) ?_
    refine DE.t 1 (v := (SV.v p0)) rfl (by kernel_rfl) (Wn.no rfl) rfl (R.move f11) ?_
    refine DE.t 2 (v := (Value.int .i64 x2)) rfl (by kernel_rfl) (Wn.no rfl) rfl (R.move f13) ?_
    obtain ⟨a16, h17, h18, h19, h⟩ := h
    refine DE.t 3 (v := (Value.pointer (some (a16.add (x2.toNat * 2))))) rfl (by kernel_rfl) (Wn.no rfl) rfl (R.idx (s := p0) sl24 rfl rfl h17 h18 h19) ?_
    refine DE.t 4 (v := (Value.pointer (some (a16.add (x2.toNat * 2))))) rfl (by kernel_rfl) (Wn.no rfl) rfl (R.fld (off := 0) fa27_0 rfl) ?_
    refine DE.t 7 (v := (SV.v p0)) rfl (by kernel_rfl) (Wn.no rfl) rfl (R.move f11) ?_
    refine DE.t 8 (v := (Value.int .i64 x2)) rfl (by kernel_rfl) (Wn.no rfl) rfl (R.move f13) ?_
    obtain ⟨a20, h21, h22, h23, h⟩ := h
    refine DE.t 9 (v := (Value.pointer (some (a20.add (x2.toNat * 2))))) rfl (by kernel_rfl) (Wn.no rfl) rfl (R.idx (s := p0) sl24 rfl rfl h21 h22 h23) ?_
    refine DE.t 10 (v := (Value.pointer (some ((a20.add (x2.toNat * 2)).add 1)))) rfl (by kernel_rfl) (Wn.no rfl) rfl (R.fld (off := 1) fa27_1 rfl) ?_
    obtain ⟨t24, h25, h⟩ := h
    refine DE.hold 5 (fun w => w.cell? (a16.add (x2.toNat * 2)) = some (Value.int .i64 t24)) (v := (Value.int .i64 t24)) rfl (by kernel_rfl) (Wn.no rfl) rfl h25 (fun w hs => R.ld sc3 rfl hs) ?_
    obtain ⟨t26, h27, h⟩ := h
    refine DE.hold 11 (fun w => w.cell? ((a20.add (x2.toNat * 2)).add 1) = some (SV.v t26)) (v := (SV.v t26)) rfl (by kernel_rfl) (Wn.no rfl) rfl h27 (fun w hs => R.ld sc25 rfl hs) ?_
    obtain ⟨b30, hpb30, w28, hww28, h⟩ := M.new_use h
    obtain ⟨k31, h⟩ := h
    obtain ⟨k32, h⟩ := h
    refine DE.main 6 (by kernel_rfl) ?_
    refine One.r 6 (v := (SV.v (SV.mk (some b30) 0 0))) rfl (Wn.no rfl) rfl (R.bsl (by exact Ls.nil) (fun w => bs25_0  w) hpb30 hww28) (.inr ⟨fun _ => k31, fun _ => k32, trivial⟩) ?_
    obtain ⟨s33, w34, h35, h⟩ := h
    obtain ⟨k36, h⟩ := h
    refine DE.main 12 (by kernel_rfl) ?_
    refine One.r 12 (v := (SV.v s33)) rfl (Wn.no rfl) rfl (R.app (s := (SV.mk (some b30) 0 0)) (r := s33) rfl rfl h35) (.inr ⟨aftT (by kernel_rfl), fun _ => k36, trivial⟩) ?_
    refine DE.t 13 (v := (Value.agg #[(Value.int .i64 t24), (SV.v s33)])) rfl (by kernel_rfl) (Wn.no rfl) rfl (R.bld (by exact (Ls.cons (R.Pr rfl) (Ls.cons (R.Pr rfl) Ls.nil))) (fun w => bu27_0_1 t24 s33 w)) ?_
    obtain ⟨b39, hpb39, w37, hww37, h⟩ := M.new_use h
    refine DE.main 14 (by kernel_rfl) ?_
    refine One.r 14 (v := (SV.v (SV.mk (some b39) 1 1))) rfl (Wn.no rfl) rfl (R.bsl (by exact (Ls.cons (R.Pr rfl) Ls.nil)) (fun w => bs24_1 t24 s33 w) hpb39 hww37) (.inr ⟨aftT (by kernel_rfl), aftT (by kernel_rfl), trivial⟩) ?_
    obtain ⟨s40, w41, h42, h⟩ := h
    refine DE.main 15 (by kernel_rfl) ?_
    refine One.r 15 (v := (SV.v s40)) rfl (Wn.no rfl) rfl (R.app (s := x1) (r := s40) rfl rfl h42) (.inr ⟨aftT (by kernel_rfl), aftT (by kernel_rfl), trivial⟩) ?_
    refine DE.t 16 (v := (SV.v s40)) rfl (by kernel_rfl) (Wn.no rfl) rfl (R.assign rfl) ?_
    refine DE.done (by kernel_rfl) ?_
    refine WE.reg ?_
    refine LE.p (v := (Value.int .i64 x2)) (Wn.no rfl) rfl (R.move f13) ?_
    refine LE.p (v := (Value.int .i64 (IntKind.i64.wrap (x2 + (1 : Int))))) (Wn.no rfl) rfl (R.add rfl rfl) ?_
    refine LE.p (v := (Value.int .i64 (IntKind.i64.wrap (x2 + (1 : Int))))) (Wn.no rfl) rfl (R.assign rfl) ?_
    refine LE.nil ?_
    obtain ⟨m9, hm10, h⟩ := h
    exact ⟨m9, hm10, _, _, h, f11, rfl, rfl⟩
  · intro hb14
    replace h := M.ite_f h hb14
    refine WE.exit ?_
    refine WE.seq ?_
    refine WE.reg ?_
    refine LE.p (v := (SV.v x1)) (Wn.no rfl) rfl (R.move f12) ?_
    refine LE.p (v := (SV.v x1)) (Wn.no rfl) rfl (R.assign rfl) ?_
    refine LE.nil ?_
    refine WE.ret ?_
    exact ⟨_, (Res.tmp rfl Res.nil), _, rfl, h⟩
/-- The formula of (*signpost.signpostref4.Reader).Left. -/
def F61 (p0 : Option Addr) (K : Int → World → Prop) (w0 : World) : Prop :=
M.nil p0 fun a1 =>
M.ld Value.bool (a1.add 2) w0 fun t3 =>
M.ite t3 (
K (0 : Int) w0) (
M.drew w0 fun w6 => 
M.nil p0 fun a7 =>
M.nil p0 fun a9 =>
M.ld SV.v a7 w6 fun t11 =>
M.ld (Value.int .i64) (a9.add 1) w6 fun t13 =>
K (IntKind.i64.wrap ((t11.len : Int) - t13)) w6)
theorem F61_ok {w0 : World} {p0 : Option Addr} {K : Int → World → Prop} (h : F61 p0 K w0) : Calls Try.prog 61 #[(Value.pointer p0)] w0 (R61 K) := by
  refine calls_of_WE (args := [(Value.pointer p0)]) (rs := [.tmp 2]) Try.func61 rfl (N := 17) rfl rfl rfl rfl ?_
  refine WE.seq ?_
  refine WE.reg ?_
  refine LE.p (v := (Value.int .i64 (0 : Int))) (Wn.no rfl) rfl (R.assign rfl) ?_
  refine LE.nil ?_
  refine WE.seq ?_
  refine WE.seq ?_
  refine WE.reg ?_
  refine LE.p (v := (Value.pointer p0)) (Wn.no rfl) rfl (R.move rfl) ?_
  obtain ⟨a1, h2, h⟩ := h
  refine LE.p (v := (Value.pointer (some a1))) (Wn.no rfl) rfl (R.nilC (congrArg Value.pointer h2)) ?_
  refine LE.p (v := (Value.pointer (some (a1.add 2)))) (Wn.no rfl) rfl (R.fld (off := 2) fa85_2 rfl) ?_
  obtain ⟨t3, h4, h⟩ := h
  refine LE.r (v := (Value.bool t3)) (Wn.no rfl) rfl (R.ld sc4 rfl h4) ?_
  refine LE.nil ?_
  refine WE.condT rfl (b := t3) rfl ?_ ?_
  · intro hb5
    replace h := M.ite_t h hb5
    refine WE.seq ?_
    refine WE.reg ?_
    refine LE.p (v := (Value.int .i64 (0 : Int))) (Wn.no rfl) rfl (R.assign rfl) ?_
    refine LE.nil ?_
    refine WE.ret ?_
    exact ⟨_, (Res.tmp rfl Res.nil), _, rfl, h⟩
  · intro hb5
    replace h := M.ite_f h hb5
    refine WE.skip ?_
    refine WE.seq ?_
    refine WE.draw mix ?_
    obtain ⟨w6, hww6, h⟩ := M.drew_use h
    rw [← hww6]
    clear hww6
    refine DE.t 0 (v := (Value.pointer p0)) rfl (by kernel_rfl) (Wn.no rfl) rfl (R.move rfl) ?_
    obtain ⟨a7, h8, h⟩ := h
    refine DE.t 1 (v := (Value.pointer (some a7))) rfl (by kernel_rfl) (Wn.no rfl) rfl (R.nilC (congrArg Value.pointer h8)) ?_
    refine DE.t 2 (v := (Value.pointer (some a7))) rfl (by kernel_rfl) (Wn.no rfl) rfl (R.fld (off := 0) fa85_0 rfl) ?_
    refine DE.t 5 (v := (Value.pointer p0)) rfl (by kernel_rfl) (Wn.no rfl) rfl (R.move rfl) ?_
    obtain ⟨a9, h10, h⟩ := h
    refine DE.t 6 (v := (Value.pointer (some a9))) rfl (by kernel_rfl) (Wn.no rfl) rfl (R.nilC (congrArg Value.pointer h10)) ?_
    refine DE.t 7 (v := (Value.pointer (some (a9.add 1)))) rfl (by kernel_rfl) (Wn.no rfl) rfl (R.fld (off := 1) fa85_1 rfl) ?_
    obtain ⟨t11, h12, h⟩ := h
    refine DE.hold 3 (fun w => w.cell? a7 = some (SV.v t11)) (v := (SV.v t11)) rfl (by kernel_rfl) (Wn.no rfl) rfl h12 (fun w hs => R.ld sc40 rfl hs) ?_
    refine DE.t 4 (v := (Value.int .i64 (t11.len : Int))) rfl (by kernel_rfl) (Wn.no rfl) rfl (R.len sl40 rfl) ?_
    obtain ⟨t13, h14, h⟩ := h
    refine DE.main 8 (by kernel_rfl) ?_
    refine One.r 8 (v := (Value.int .i64 t13)) rfl (Wn.no rfl) rfl (R.ld sc3 rfl h14) (.inl rfl) ?_
    refine DE.t 9 (v := (Value.int .i64 (IntKind.i64.wrap ((t11.len : Int) - t13)))) rfl (by kernel_rfl) (Wn.no rfl) rfl (R.sub rfl rfl) ?_
    refine DE.t 10 (v := (Value.int .i64 (IntKind.i64.wrap ((t11.len : Int) - t13)))) rfl (by kernel_rfl) (Wn.no rfl) rfl (R.assign rfl) ?_
    refine DE.done (by kernel_rfl) ?_
    refine WE.ret ?_
    exact ⟨_, (Res.tmp rfl Res.nil), _, rfl, h⟩
/-- The formula of (*signpost.signpostref4.Reader).U8. -/
def F62 (p0 : Option Addr) (K : Int → World → Prop) (w0 : World) : Prop :=
Calls Try.prog 70 #[(Value.pointer p0), (Value.int .i64 (1 : Int))] w0 (R70 fun r1 w2 =>
K (IntKind.i64.wrap r1) w2)
theorem F62_ok {w0 : World} {p0 : Option Addr} {K : Int → World → Prop} (h : F62 p0 K w0) : Calls Try.prog 62 #[(Value.pointer p0)] w0 (R62 K) := by
  refine calls_of_WE (args := [(Value.pointer p0)]) (rs := [.tmp 2]) Try.func62 rfl (N := 6) rfl rfl rfl rfl ?_
  refine WE.seq ?_
  refine WE.reg ?_
  refine LE.p (v := (Value.int .i64 (0 : Int))) (Wn.no rfl) rfl (R.assign rfl) ?_
  refine LE.nil ?_
  refine WE.seq ?_
  refine WE.reg ?_
  refine LE.p (v := (Value.pointer p0)) (Wn.no rfl) rfl (R.move rfl) ?_
  refine LE.c (Wn.no rfl) rfl (R.call bd70 (Ls.cons rfl (Ls.cons rfl Ls.nil)) rfl) (Calls.mono h ?_)
  rintro _ w2 ⟨r1, rfl, h⟩
  refine ⟨_, rfl, ?_⟩
  refine LE.p (v := (Value.int .i64 (IntKind.i64.wrap r1))) (Wn.no rfl) rfl (R.conv in3 in23 rfl) ?_
  refine LE.p (v := (Value.int .i64 (IntKind.i64.wrap r1))) (Wn.no rfl) rfl (R.assign rfl) ?_
  refine LE.nil ?_
  refine WE.ret ?_
  exact ⟨_, (Res.tmp rfl Res.nil), _, rfl, h⟩
/-- The formula of (*signpost.signpostref4.Reader).U32. -/
def F63 (p0 : Option Addr) (K : Int → World → Prop) (w0 : World) : Prop :=
Calls Try.prog 70 #[(Value.pointer p0), (Value.int .i64 (4 : Int))] w0 (R70 fun r1 w2 =>
K r1 w2)
theorem F63_ok {w0 : World} {p0 : Option Addr} {K : Int → World → Prop} (h : F63 p0 K w0) : Calls Try.prog 63 #[(Value.pointer p0)] w0 (R63 K) := by
  refine calls_of_WE (args := [(Value.pointer p0)]) (rs := [.tmp 2]) Try.func63 rfl (N := 5) rfl rfl rfl rfl ?_
  refine WE.seq ?_
  refine WE.reg ?_
  refine LE.p (v := (Value.int .u32 (0 : Int))) (Wn.no rfl) rfl (R.assign rfl) ?_
  refine LE.nil ?_
  refine WE.seq ?_
  refine WE.reg ?_
  refine LE.p (v := (Value.pointer p0)) (Wn.no rfl) rfl (R.move rfl) ?_
  refine LE.c (Wn.no rfl) rfl (R.call bd70 (Ls.cons rfl (Ls.cons rfl Ls.nil)) rfl) (Calls.mono h ?_)
  rintro _ w2 ⟨r1, rfl, h⟩
  refine ⟨_, rfl, ?_⟩
  refine LE.p (v := (Value.int .u32 r1)) (Wn.no rfl) rfl (R.assign rfl) ?_
  refine LE.nil ?_
  refine WE.ret ?_
  exact ⟨_, (Res.tmp rfl Res.nil), _, rfl, h⟩
/-- The formula of slices.rotateLeft[uint32]. -/
def F64 (p0 : SV) (p1 : Int) (K : World → Prop) (w0 : World) : Prop :=
M.bnd (0 : Int) p1 p0 <|
Calls Try.prog 71 #[(SV.v (SV.sub p0 (Int.toNat (0 : Int)) (Int.toNat p1) 1))] w0 (R71 fun w5 =>
M.bnd p1 (p0.len : Int) p0 <|
Calls Try.prog 71 #[(SV.v (SV.sub p0 (Int.toNat p1) (Int.toNat (p0.len : Int)) 1))] w5 (R71 fun w10 =>
Calls Try.prog 71 #[(SV.v p0)] w10 (R71 fun w11 =>
K w11)))
theorem F64_ok {w0 : World} {p0 : SV} {p1 : Int} {K : World → Prop} (h : F64 p0 p1 K w0) : Calls Try.prog 64 #[(SV.v p0), (Value.int .i64 p1)] w0 (R64 K) := by
  refine calls_of_WE (args := [(SV.v p0), (Value.int .i64 p1)]) (rs := []) Try.func64 rfl (N := 14) rfl rfl rfl rfl ?_
  refine WE.seq ?_
  refine WE.reg ?_
  refine LE.p (v := (SV.v p0)) (Wn.no rfl) rfl (R.move rfl) ?_
  refine LE.p (v := (Value.int .i64 p1)) (Wn.no rfl) rfl (R.move rfl) ?_
  obtain ⟨h1, h2, h3, h⟩ := h
  refine LE.p (v := (SV.v (SV.sub p0 (Int.toNat (0 : Int)) (Int.toNat p1) 1))) (Wn.no rfl) rfl (R.slc (s := p0) (lo := (0 : Int)) (hi := p1) _ _ sl25 rfl rfl rfl h1 h2 h3) ?_
  refine LE.c (Wn.no rfl) rfl (R.call bd71 (Ls.cons rfl Ls.nil) rfl) (Calls.mono h ?_)
  rintro _ w5 ⟨rfl, h⟩
  refine ⟨_, rfl, ?_⟩
  refine LE.nil ?_
  refine WE.seq ?_
  refine WE.reg ?_
  refine LE.p (v := (SV.v p0)) (Wn.no rfl) rfl (R.move rfl) ?_
  refine LE.p (v := (Value.int .i64 p1)) (Wn.no rfl) rfl (R.move rfl) ?_
  obtain ⟨h6, h7, h8, h⟩ := h
  refine LE.p (v := (SV.v (SV.sub p0 (Int.toNat p1) (Int.toNat (p0.len : Int)) 1))) (Wn.no rfl) rfl (R.slc (s := p0) (lo := p1) (hi := (p0.len : Int)) _ _ sl25 rfl rfl rfl h6 h7 h8) ?_
  refine LE.c (Wn.no rfl) rfl (R.call bd71 (Ls.cons rfl Ls.nil) rfl) (Calls.mono h ?_)
  rintro _ w10 ⟨rfl, h⟩
  refine ⟨_, rfl, ?_⟩
  refine LE.nil ?_
  refine WE.reg ?_
  refine LE.p (v := (SV.v p0)) (Wn.no rfl) rfl (R.move rfl) ?_
  refine LE.c (Wn.no rfl) rfl (R.call bd71 (Ls.cons rfl Ls.nil) rfl) (Calls.mono h ?_)
  rintro _ w11 ⟨rfl, h⟩
  refine ⟨_, rfl, ?_⟩
  refine LE.nil ?_
  exact ⟨_,  Res.nil, rfl, h⟩
/-- The formula of slices.rotateLeft[signpost.api.Seg]. -/
def F65 (p0 : SV) (p1 : Int) (K : World → Prop) (w0 : World) : Prop :=
M.bnd (0 : Int) p1 p0 <|
Calls Try.prog 72 #[(SV.v (SV.sub p0 (Int.toNat (0 : Int)) (Int.toNat p1) 2))] w0 (R72 fun w5 =>
M.bnd p1 (p0.len : Int) p0 <|
Calls Try.prog 72 #[(SV.v (SV.sub p0 (Int.toNat p1) (Int.toNat (p0.len : Int)) 2))] w5 (R72 fun w10 =>
Calls Try.prog 72 #[(SV.v p0)] w10 (R72 fun w11 =>
K w11)))
theorem F65_ok {w0 : World} {p0 : SV} {p1 : Int} {K : World → Prop} (h : F65 p0 p1 K w0) : Calls Try.prog 65 #[(SV.v p0), (Value.int .i64 p1)] w0 (R65 K) := by
  refine calls_of_WE (args := [(SV.v p0), (Value.int .i64 p1)]) (rs := []) Try.func65 rfl (N := 14) rfl rfl rfl rfl ?_
  refine WE.seq ?_
  refine WE.reg ?_
  refine LE.p (v := (SV.v p0)) (Wn.no rfl) rfl (R.move rfl) ?_
  refine LE.p (v := (Value.int .i64 p1)) (Wn.no rfl) rfl (R.move rfl) ?_
  obtain ⟨h1, h2, h3, h⟩ := h
  refine LE.p (v := (SV.v (SV.sub p0 (Int.toNat (0 : Int)) (Int.toNat p1) 2))) (Wn.no rfl) rfl (R.slc (s := p0) (lo := (0 : Int)) (hi := p1) _ _ sl24 rfl rfl rfl h1 h2 h3) ?_
  refine LE.c (Wn.no rfl) rfl (R.call bd72 (Ls.cons rfl Ls.nil) rfl) (Calls.mono h ?_)
  rintro _ w5 ⟨rfl, h⟩
  refine ⟨_, rfl, ?_⟩
  refine LE.nil ?_
  refine WE.seq ?_
  refine WE.reg ?_
  refine LE.p (v := (SV.v p0)) (Wn.no rfl) rfl (R.move rfl) ?_
  refine LE.p (v := (Value.int .i64 p1)) (Wn.no rfl) rfl (R.move rfl) ?_
  obtain ⟨h6, h7, h8, h⟩ := h
  refine LE.p (v := (SV.v (SV.sub p0 (Int.toNat p1) (Int.toNat (p0.len : Int)) 2))) (Wn.no rfl) rfl (R.slc (s := p0) (lo := p1) (hi := (p0.len : Int)) _ _ sl24 rfl rfl rfl h6 h7 h8) ?_
  refine LE.c (Wn.no rfl) rfl (R.call bd72 (Ls.cons rfl Ls.nil) rfl) (Calls.mono h ?_)
  rintro _ w10 ⟨rfl, h⟩
  refine ⟨_, rfl, ?_⟩
  refine LE.nil ?_
  refine WE.reg ?_
  refine LE.p (v := (SV.v p0)) (Wn.no rfl) rfl (R.move rfl) ?_
  refine LE.c (Wn.no rfl) rfl (R.call bd72 (Ls.cons rfl Ls.nil) rfl) (Calls.mono h ?_)
  rintro _ w11 ⟨rfl, h⟩
  refine ⟨_, rfl, ?_⟩
  refine LE.nil ?_
  exact ⟨_,  Res.nil, rfl, h⟩
/-- The formula of cmp.Or[int]. -/
def F66 (p0 : SV) (K : Int → World → Prop) (w0 : World) : Prop :=
M.loop1 (fun (J2 : Int → World → Prop) (x1 : Int) (w3 : World) => 
M.ite (decide (x1 < (p0.len : Int))) (
M.idx p0 x1 1 fun a15 =>
M.ld (Value.int .i64) (a15.add (x1.toNat * 1)) w3 fun t19 =>
M.ite (t19 != (0 : Int)) (
K t19 w3) (
J2 (IntKind.i64.wrap (x1 + (1 : Int))) w3)) (
K (0 : Int) w3)) (0 : Int) w0
theorem F66_ok {w0 : World} {p0 : SV} {K : Int → World → Prop} (h : F66 p0 K w0) : Calls Try.prog 66 #[(SV.v p0)] w0 (R66 K) := by
  refine calls_of_WE (args := [(SV.v p0)]) (rs := [.tmp 2]) Try.func66 rfl (N := 18) rfl rfl rfl rfl ?_
  refine WE.seq ?_
  refine WE.reg ?_
  refine LE.p (v := (Value.int .i64 (0 : Int))) (Wn.no rfl) rfl (R.assign rfl) ?_
  refine LE.nil ?_
  refine WE.seq ?_
  refine WE.reg ?_
  refine LE.p (v := (Value.int .i64 (0 : Int))) (Wn.no rfl) rfl (R.assign rfl) ?_
  refine LE.nil ?_
  refine WE.seq ?_
  refine WE.seq ?_
  refine WE.reg ?_
  refine LE.p (v := (SV.v p0)) (Wn.no rfl) rfl (R.move rfl) ?_
  refine LE.p (v := (Value.int .i64 (p0.len : Int))) (Wn.no rfl) rfl (R.len sl22 rfl) ?_
  refine LE.p (v := (Value.int .i64 (0 : Int))) (Wn.no rfl) rfl (R.move rfl) ?_
  refine LE.nil ?_
  refine WE.block ?_
  obtain ⟨I6, ⟨n5, h⟩, hr7⟩ := h
  refine WE.loop (fun n e w => ∃ (x1 : Int), I6 n x1 w ∧ e 3 = (Value.int .i64 (0 : Int)) ∧ e 6 = (SV.v p0) ∧ e 7 = (Value.int .i64 (p0.len : Int)) ∧ e 8 = (Value.int .i64 x1)) n5 ⟨_, h, rfl, rfl, rfl, rfl⟩ ?_
  clear h
  rintro n5 e4 w3 ⟨x1, h, f10, f11, f12, f13⟩
  replace h := hr7 n5 x1 w3 h
  refine WE.seq ?_
  refine WE.reg ?_
  refine LE.p (v := (Value.bool (decide (x1 < (p0.len : Int))))) (Wn.no rfl) rfl (R.lss f13 f12) ?_
  refine LE.nil ?_
  refine WE.seq ?_
  refine WE.condT rfl (b := (decide (x1 < (p0.len : Int)))) rfl ?_ ?_
  · intro hb14
    replace h := M.ite_t h hb14
    refine WE.skip ?_
    refine WE.seq ?_
    refine WE.block ?_
    refine WE.seq ?_
    refine WE.reg ?_
    obtain ⟨a15, h16, h17, h18, h⟩ := h
    refine LE.p (v := (Value.pointer (some (a15.add (x1.toNat * 1))))) (Wn.no rfl) rfl (R.idx (s := p0) sl22 f11 f13 h16 h17 h18) ?_
    obtain ⟨t19, h20, h⟩ := h
    refine LE.r (v := (Value.int .i64 t19)) (Wn.no rfl) rfl (R.ld sc3 rfl h20) ?_
    refine LE.p (v := (Value.int .i64 t19)) (Wn.no rfl) rfl (R.assign rfl) ?_
    refine LE.nil ?_
    refine WE.seq ?_
    refine WE.reg ?_
    refine LE.p (v := (Value.int .i64 t19)) (Wn.no rfl) rfl (R.move rfl) ?_
    refine LE.p (v := (Value.int .i64 (0 : Int))) (Wn.no rfl) rfl (R.move f10) ?_
    refine LE.p (v := (Value.bool (t19 != (0 : Int)))) (Wn.no rfl) rfl (R.neq rfl rfl) ?_
    refine LE.nil ?_
    refine WE.condT rfl (b := (t19 != (0 : Int))) rfl ?_ ?_
    · intro hb21
      replace h := M.ite_t h hb21
      refine WE.seq ?_
      refine WE.reg ?_
      refine LE.p (v := (Value.int .i64 t19)) (Wn.no rfl) rfl (R.move rfl) ?_
      refine LE.p (v := (Value.int .i64 t19)) (Wn.no rfl) rfl (R.assign rfl) ?_
      refine LE.nil ?_
      refine WE.ret ?_
      exact ⟨_, (Res.tmp rfl Res.nil), _, rfl, h⟩
    · intro hb21
      replace h := M.ite_f h hb21
      refine WE.skip ?_
      refine WE.reg ?_
      refine LE.p (v := (Value.int .i64 (IntKind.i64.wrap (x1 + (1 : Int))))) (Wn.no rfl) rfl (R.add f13 rfl) ?_
      refine LE.p (v := (Value.int .i64 (IntKind.i64.wrap (x1 + (1 : Int))))) (Wn.no rfl) rfl (R.move rfl) ?_
      refine LE.nil ?_
      obtain ⟨m8, hm9, h⟩ := h
      exact ⟨m8, hm9, _, h, f10, f11, f12, rfl⟩
  · intro hb14
    replace h := M.ite_f h hb14
    refine WE.exit ?_
    refine WE.seq ?_
    refine WE.reg ?_
    refine LE.p (v := (Value.int .i64 (0 : Int))) (Wn.no rfl) rfl (R.move f10) ?_
    refine LE.p (v := (Value.int .i64 (0 : Int))) (Wn.no rfl) rfl (R.assign rfl) ?_
    refine LE.nil ?_
    refine WE.ret ?_
    exact ⟨_, (Res.tmp rfl Res.nil), _, rfl, h⟩
/-- The formula of cmp.Compare[int]. -/
def F67 (p0 : Int) (p1 : Int) (K : Int → World → Prop) (w0 : World) : Prop :=
Calls Try.prog 73 #[(Value.int .i64 p0)] w0 (R73 fun r1 w2 =>
Calls Try.prog 73 #[(Value.int .i64 p1)] w2 (R73 fun r3 w4 =>
M.ite r1 (
M.ite r3 (
K (0 : Int) w4) (
K (-1 : Int) w4)) (
M.ite r3 (
K (1 : Int) w4) (
M.ite (decide (p0 < p1)) (
K (-1 : Int) w4) (
M.ite (decide (p1 < p0)) (
K (1 : Int) w4) (
K (0 : Int) w4))))))
theorem F67_ok {w0 : World} {p0 : Int} {p1 : Int} {K : Int → World → Prop} (h : F67 p0 p1 K w0) : Calls Try.prog 67 #[(Value.int .i64 p0), (Value.int .i64 p1)] w0 (R67 K) := by
  refine calls_of_WE (args := [(Value.int .i64 p0), (Value.int .i64 p1)]) (rs := [.tmp 4]) Try.func67 rfl (N := 20) rfl rfl rfl rfl ?_
  refine WE.seq ?_
  refine WE.reg ?_
  refine LE.p (v := (Value.int .i64 (0 : Int))) (Wn.no rfl) rfl (R.assign rfl) ?_
  refine LE.nil ?_
  refine WE.seq ?_
  refine WE.reg ?_
  refine LE.p (v := (Value.int .i64 p0)) (Wn.no rfl) rfl (R.move rfl) ?_
  refine LE.c (Wn.no rfl) rfl (R.call bd73 (Ls.cons rfl Ls.nil) rfl) (Calls.mono h ?_)
  rintro _ w2 ⟨r1, rfl, h⟩
  refine ⟨_, rfl, ?_⟩
  refine LE.p (v := (Value.bool r1)) (Wn.no rfl) rfl (R.assign rfl) ?_
  refine LE.nil ?_
  refine WE.seq ?_
  refine WE.reg ?_
  refine LE.p (v := (Value.int .i64 p1)) (Wn.no rfl) rfl (R.move rfl) ?_
  refine LE.c (Wn.no rfl) rfl (R.call bd73 (Ls.cons rfl Ls.nil) rfl) (Calls.mono h ?_)
  rintro _ w4 ⟨r3, rfl, h⟩
  refine ⟨_, rfl, ?_⟩
  refine LE.p (v := (Value.bool r3)) (Wn.no rfl) rfl (R.assign rfl) ?_
  refine LE.nil ?_
  refine WE.seq ?_
  refine WE.seq ?_
  refine WE.reg ?_
  refine LE.p (v := (Value.bool r1)) (Wn.no rfl) rfl (R.move rfl) ?_
  refine LE.nil ?_
  refine WE.condT rfl (b := r1) rfl ?_ ?_
  · intro hb5
    replace h := M.ite_t h hb5
    refine WE.seq ?_
    refine WE.seq ?_
    refine WE.reg ?_
    refine LE.p (v := (Value.bool r3)) (Wn.no rfl) rfl (R.move rfl) ?_
    refine LE.nil ?_
    refine WE.condT rfl (b := r3) rfl ?_ ?_
    · intro hb6
      replace h := M.ite_t h hb6
      refine WE.seq ?_
      refine WE.reg ?_
      refine LE.p (v := (Value.int .i64 (0 : Int))) (Wn.no rfl) rfl (R.assign rfl) ?_
      refine LE.nil ?_
      refine WE.ret ?_
      exact ⟨_, (Res.tmp rfl Res.nil), _, rfl, h⟩
    · intro hb6
      replace h := M.ite_f h hb6
      refine WE.skip ?_
      refine WE.seq ?_
      refine WE.reg ?_
      refine LE.p (v := (Value.int .i64 (-1 : Int))) (Wn.no rfl) rfl (R.assign rfl) ?_
      refine LE.nil ?_
      refine WE.ret ?_
      exact ⟨_, (Res.tmp rfl Res.nil), _, rfl, h⟩
  · intro hb5
    replace h := M.ite_f h hb5
    refine WE.skip ?_
    refine WE.seq ?_
    refine WE.seq ?_
    refine WE.reg ?_
    refine LE.p (v := (Value.bool r3)) (Wn.no rfl) rfl (R.move rfl) ?_
    refine LE.nil ?_
    refine WE.condT rfl (b := r3) rfl ?_ ?_
    · intro hb7
      replace h := M.ite_t h hb7
      refine WE.seq ?_
      refine WE.reg ?_
      refine LE.p (v := (Value.int .i64 (1 : Int))) (Wn.no rfl) rfl (R.assign rfl) ?_
      refine LE.nil ?_
      refine WE.ret ?_
      exact ⟨_, (Res.tmp rfl Res.nil), _, rfl, h⟩
    · intro hb7
      replace h := M.ite_f h hb7
      refine WE.skip ?_
      refine WE.seq ?_
      refine WE.seq ?_
      refine WE.reg ?_
      refine LE.p (v := (Value.int .i64 p0)) (Wn.no rfl) rfl (R.move rfl) ?_
      refine LE.p (v := (Value.int .i64 p1)) (Wn.no rfl) rfl (R.move rfl) ?_
      refine LE.p (v := (Value.bool (decide (p0 < p1)))) (Wn.no rfl) rfl (R.lss rfl rfl) ?_
      refine LE.nil ?_
      refine WE.condT rfl (b := (decide (p0 < p1))) rfl ?_ ?_
      · intro hb8
        replace h := M.ite_t h hb8
        refine WE.seq ?_
        refine WE.reg ?_
        refine LE.p (v := (Value.int .i64 (-1 : Int))) (Wn.no rfl) rfl (R.assign rfl) ?_
        refine LE.nil ?_
        refine WE.ret ?_
        exact ⟨_, (Res.tmp rfl Res.nil), _, rfl, h⟩
      · intro hb8
        replace h := M.ite_f h hb8
        refine WE.skip ?_
        refine WE.seq ?_
        refine WE.seq ?_
        refine WE.reg ?_
        refine LE.p (v := (Value.int .i64 p0)) (Wn.no rfl) rfl (R.move rfl) ?_
        refine LE.p (v := (Value.int .i64 p1)) (Wn.no rfl) rfl (R.move rfl) ?_
        refine LE.p (v := (Value.bool (decide (p1 < p0)))) (Wn.no rfl) rfl (R.gtr rfl rfl) ?_
        refine LE.nil ?_
        refine WE.condT rfl (b := (decide (p1 < p0))) rfl ?_ ?_
        · intro hb9
          replace h := M.ite_t h hb9
          refine WE.seq ?_
          refine WE.reg ?_
          refine LE.p (v := (Value.int .i64 (1 : Int))) (Wn.no rfl) rfl (R.assign rfl) ?_
          refine LE.nil ?_
          refine WE.ret ?_
          exact ⟨_, (Res.tmp rfl Res.nil), _, rfl, h⟩
        · intro hb9
          replace h := M.ite_f h hb9
          refine WE.skip ?_
          refine WE.seq ?_
          refine WE.reg ?_
          refine LE.p (v := (Value.int .i64 (0 : Int))) (Wn.no rfl) rfl (R.assign rfl) ?_
          refine LE.nil ?_
          refine WE.ret ?_
          exact ⟨_, (Res.tmp rfl Res.nil), _, rfl, h⟩
/-- The formula of slices.Compare[[]uint32,uint32]. -/
def F68 (p0 : SV) (p1 : SV) (K : Int → World → Prop) (w0 : World) : Prop :=
M.loop1 (fun (J2 : Int → World → Prop) (x1 : Int) (w3 : World) => 
M.ite (decide (x1 < (p0.len : Int))) (
M.idx p0 x1 1 fun a16 =>
M.ld (Value.int .u32) (a16.add (x1.toNat * 1)) w3 fun t20 =>
M.ite (decide ((p1.len : Int) ≤ x1)) (
K (1 : Int) w3) (
M.idx p1 x1 1 fun a23 =>
M.ld (Value.int .u32) (a23.add (x1.toNat * 1)) w3 fun t27 =>
Calls Try.prog 74 #[(Value.int .u32 t20), (Value.int .u32 t27)] w3 (R74 fun r29 w30 =>
M.ite (r29 != (0 : Int)) (
K r29 w30) (
J2 (IntKind.i64.wrap (x1 + (1 : Int))) w30)))) (
M.ite (decide ((p0.len : Int) < (p1.len : Int))) (
K (-1 : Int) w3) (
K (0 : Int) w3))) (0 : Int) w0
theorem F68_ok {w0 : World} {p0 : SV} {p1 : SV} {K : Int → World → Prop} (h : F68 p0 p1 K w0) : Calls Try.prog 68 #[(SV.v p0), (SV.v p1)] w0 (R68 K) := by
  refine calls_of_WE (args := [(SV.v p0), (SV.v p1)]) (rs := [.tmp 4]) Try.func68 rfl (N := 36) rfl rfl rfl rfl ?_
  refine WE.seq ?_
  refine WE.reg ?_
  refine LE.p (v := (Value.int .i64 (0 : Int))) (Wn.no rfl) rfl (R.assign rfl) ?_
  refine LE.nil ?_
  refine WE.seq ?_
  refine WE.seq ?_
  refine WE.reg ?_
  refine LE.p (v := (SV.v p0)) (Wn.no rfl) rfl (R.move rfl) ?_
  refine LE.p (v := (Value.int .i64 (p0.len : Int))) (Wn.no rfl) rfl (R.len sl25 rfl) ?_
  refine LE.p (v := (Value.int .i64 (0 : Int))) (Wn.no rfl) rfl (R.move rfl) ?_
  refine LE.nil ?_
  refine WE.block ?_
  obtain ⟨I6, ⟨n5, h⟩, hr7⟩ := h
  refine WE.loop (fun n e w => ∃ (x1 : Int), I6 n x1 w ∧ e 0 = (SV.v p0) ∧ e 1 = (SV.v p1) ∧ e 9 = (SV.v p0) ∧ e 10 = (Value.int .i64 (p0.len : Int)) ∧ e 11 = (Value.int .i64 x1)) n5 ⟨_, h, rfl, rfl, rfl, rfl, rfl⟩ ?_
  clear h
  rintro n5 e4 w3 ⟨x1, h, f10, f11, f12, f13, f14⟩
  replace h := hr7 n5 x1 w3 h
  refine WE.seq ?_
  refine WE.reg ?_
  refine LE.p (v := (Value.bool (decide (x1 < (p0.len : Int))))) (Wn.no rfl) rfl (R.lss f14 f13) ?_
  refine LE.nil ?_
  refine WE.seq ?_
  refine WE.condT rfl (b := (decide (x1 < (p0.len : Int)))) rfl ?_ ?_
  · intro hb15
    replace h := M.ite_t h hb15
    refine WE.skip ?_
    refine WE.seq ?_
    refine WE.block ?_
    refine WE.seq ?_
    refine WE.reg ?_
    refine LE.p (v := (Value.int .i64 x1)) (Wn.no rfl) rfl (R.move f14) ?_
    obtain ⟨a16, h17, h18, h19, h⟩ := h
    refine LE.p (v := (Value.pointer (some (a16.add (x1.toNat * 1))))) (Wn.no rfl) rfl (R.idx (s := p0) sl25 f12 f14 h17 h18 h19) ?_
    obtain ⟨t20, h21, h⟩ := h
    refine LE.r (v := (Value.int .u32 t20)) (Wn.no rfl) rfl (R.ld sc23 rfl h21) ?_
    refine LE.p (v := (Value.int .i64 x1)) (Wn.no rfl) rfl (R.assign rfl) ?_
    refine LE.p (v := (Value.int .u32 t20)) (Wn.no rfl) rfl (R.assign rfl) ?_
    refine LE.nil ?_
    refine WE.seq ?_
    refine WE.seq ?_
    refine WE.reg ?_
    refine LE.p (v := (Value.int .i64 x1)) (Wn.no rfl) rfl (R.move rfl) ?_
    refine LE.p (v := (SV.v p1)) (Wn.no rfl) rfl (R.move f11) ?_
    refine LE.p (v := (Value.int .i64 (p1.len : Int))) (Wn.no rfl) rfl (R.len sl25 rfl) ?_
    refine LE.p (v := (Value.bool (decide ((p1.len : Int) ≤ x1)))) (Wn.no rfl) rfl (R.geq rfl rfl) ?_
    refine LE.nil ?_
    refine WE.condT rfl (b := (decide ((p1.len : Int) ≤ x1))) rfl ?_ ?_
    · intro hb22
      replace h := M.ite_t h hb22
      refine WE.seq ?_
      refine WE.reg ?_
      refine LE.p (v := (Value.int .i64 (1 : Int))) (Wn.no rfl) rfl (R.assign rfl) ?_
      refine LE.nil ?_
      refine WE.ret ?_
      exact ⟨_, (Res.tmp rfl Res.nil), _, rfl, h⟩
    · intro hb22
      replace h := M.ite_f h hb22
      refine WE.skip ?_
      refine WE.seq ?_
      refine WE.reg ?_
      refine LE.p (v := (SV.v p1)) (Wn.no rfl) rfl (R.move f11) ?_
      refine LE.p (v := (Value.int .i64 x1)) (Wn.no rfl) rfl (R.move rfl) ?_
      obtain ⟨a23, h24, h25, h26, h⟩ := h
      refine LE.p (v := (Value.pointer (some (a23.add (x1.toNat * 1))))) (Wn.no rfl) rfl (R.idx (s := p1) sl25 rfl rfl h24 h25 h26) ?_
      obtain ⟨t27, h28, h⟩ := h
      refine LE.r (v := (Value.int .u32 t27)) (Wn.no rfl) rfl (R.ld sc23 rfl h28) ?_
      refine LE.p (v := (Value.int .u32 t27)) (Wn.no rfl) rfl (R.assign rfl) ?_
      refine LE.nil ?_
      refine WE.seq ?_
      refine WE.reg ?_
      refine LE.p (v := (Value.int .u32 t20)) (Wn.no rfl) rfl (R.move rfl) ?_
      refine LE.p (v := (Value.int .u32 t27)) (Wn.no rfl) rfl (R.move rfl) ?_
      refine LE.c (Wn.no rfl) rfl (R.call bd74 (Ls.cons rfl (Ls.cons rfl Ls.nil)) rfl) (Calls.mono h ?_)
      rintro _ w30 ⟨r29, rfl, h⟩
      refine ⟨_, rfl, ?_⟩
      refine LE.p (v := (Value.int .i64 r29)) (Wn.no rfl) rfl (R.assign rfl) ?_
      refine LE.nil ?_
      refine WE.seq ?_
      refine WE.reg ?_
      refine LE.p (v := (Value.int .i64 r29)) (Wn.no rfl) rfl (R.move rfl) ?_
      refine LE.p (v := (Value.bool (r29 != (0 : Int)))) (Wn.no rfl) rfl (R.neq rfl rfl) ?_
      refine LE.nil ?_
      refine WE.condT rfl (b := (r29 != (0 : Int))) rfl ?_ ?_
      · intro hb31
        replace h := M.ite_t h hb31
        refine WE.seq ?_
        refine WE.reg ?_
        refine LE.p (v := (Value.int .i64 r29)) (Wn.no rfl) rfl (R.move rfl) ?_
        refine LE.p (v := (Value.int .i64 r29)) (Wn.no rfl) rfl (R.assign rfl) ?_
        refine LE.nil ?_
        refine WE.ret ?_
        exact ⟨_, (Res.tmp rfl Res.nil), _, rfl, h⟩
      · intro hb31
        replace h := M.ite_f h hb31
        refine WE.skip ?_
        refine WE.reg ?_
        refine LE.p (v := (Value.int .i64 (IntKind.i64.wrap (x1 + (1 : Int))))) (Wn.no rfl) rfl (R.add f14 rfl) ?_
        refine LE.p (v := (Value.int .i64 (IntKind.i64.wrap (x1 + (1 : Int))))) (Wn.no rfl) rfl (R.move rfl) ?_
        refine LE.nil ?_
        obtain ⟨m8, hm9, h⟩ := h
        exact ⟨m8, hm9, _, h, f10, f11, f12, f13, rfl⟩
  · intro hb15
    replace h := M.ite_f h hb15
    refine WE.exit ?_
    refine WE.seq ?_
    refine WE.seq ?_
    refine WE.reg ?_
    refine LE.p (v := (SV.v p0)) (Wn.no rfl) rfl (R.move f10) ?_
    refine LE.p (v := (Value.int .i64 (p0.len : Int))) (Wn.no rfl) rfl (R.len sl25 rfl) ?_
    refine LE.p (v := (SV.v p1)) (Wn.no rfl) rfl (R.move f11) ?_
    refine LE.p (v := (Value.int .i64 (p1.len : Int))) (Wn.no rfl) rfl (R.len sl25 rfl) ?_
    refine LE.p (v := (Value.bool (decide ((p0.len : Int) < (p1.len : Int))))) (Wn.no rfl) rfl (R.lss rfl rfl) ?_
    refine LE.nil ?_
    refine WE.condT rfl (b := (decide ((p0.len : Int) < (p1.len : Int)))) rfl ?_ ?_
    · intro hb32
      replace h := M.ite_t h hb32
      refine WE.seq ?_
      refine WE.reg ?_
      refine LE.p (v := (Value.int .i64 (-1 : Int))) (Wn.no rfl) rfl (R.assign rfl) ?_
      refine LE.nil ?_
      refine WE.ret ?_
      exact ⟨_, (Res.tmp rfl Res.nil), _, rfl, h⟩
    · intro hb32
      replace h := M.ite_f h hb32
      refine WE.skip ?_
      refine WE.seq ?_
      refine WE.reg ?_
      refine LE.p (v := (Value.int .i64 (0 : Int))) (Wn.no rfl) rfl (R.assign rfl) ?_
      refine LE.nil ?_
      refine WE.ret ?_
      exact ⟨_, (Res.tmp rfl Res.nil), _, rfl, h⟩
/-- The formula of (*signpost.wire.Reader).Raw. -/
def F69 (p0 : Option Addr) (p1 : Int) (K : SV → World → Prop) (w0 : World) : Prop :=
M.join (fun (w22 : World) => 
M.join (fun (x26 : Bool) (w33 : World) => 
M.ite x26 (
K SV.nil w33) (
M.nil p0 fun a38 =>
M.ld SV.v a38 w33 fun t40 =>
M.bnd (0 : Int) p1 t40 <|
Calls Try.prog 57 #[(SV.v (SV.sub t40 (Int.toNat (0 : Int)) (Int.toNat p1) 1))] w33 (R57 fun r46 w47 =>
M.nil p0 fun a48 =>
M.ld SV.v a48 w47 fun t50 =>
M.bnd p1 (t50.len : Int) t50 <|
M.nil p0 fun a56 =>
M.st a56 (SV.v (SV.sub t50 (Int.toNat p1) (Int.toNat (t50.len : Int)) 1)) w47 fun w58 =>
K r46 w58))) fun J25 => 
M.nil p0 fun a27 =>
M.ld Value.bool (a27.add 1) w22 fun t29 =>
M.ite t29 (
J25 true w22) (
J25 (decide (p1 < (1 : Int))) w22)) fun J1 => 
M.nil p0 fun a2 =>
M.ld Value.bool (a2.add 1) w0 fun t4 =>
M.ite t4 (
M.nil p0 fun a7 =>
M.st (a7.add 1) (Value.bool true) w0 fun w9 =>
J1 w9) (
M.nil p0 fun a12 =>
M.ld SV.v a12 w0 fun t14 =>
M.nil p0 fun a16 =>
M.st (a16.add 1) (Value.bool (decide ((t14.len : Int) < p1))) w0 fun w18 =>
J1 w18)
theorem F69_ok {w0 : World} {p0 : Option Addr} {p1 : Int} {K : SV → World → Prop} (h : F69 p0 p1 K w0) : Calls Try.prog 69 #[(Value.pointer p0), (Value.int .i64 p1)] w0 (R69 K) := by
  refine calls_of_WE (args := [(Value.pointer p0), (Value.int .i64 p1)]) (rs := [.tmp 4]) Try.func69 rfl (N := 47) rfl rfl rfl rfl ?_
  refine WE.seq ?_
  refine WE.reg ?_
  refine LE.p (v := (SV.v SV.nil)) (Wn.no rfl) rfl (R.assign rfl) ?_
  refine LE.nil ?_
  refine WE.seq ?_
  obtain ⟨J1, hJ1, h⟩ := M.join_use h
  refine WE.regJ (fun e w => J1 w ∧ e 0 = (Value.pointer p0) ∧ e 1 = (Value.int .i64 p1)) ?_ ?_
  · clear hJ1
    refine LE.p (v := (Value.pointer p0)) (Wn.no rfl) rfl (R.move rfl) ?_
    refine LE.p (v := (Value.pointer p0)) (Wn.no rfl) rfl (R.move rfl) ?_
    obtain ⟨a2, h3, h⟩ := h
    refine LE.p (v := (Value.pointer (some a2))) (Wn.no rfl) rfl (R.nilC (congrArg Value.pointer h3)) ?_
    refine LE.p (v := (Value.pointer (some (a2.add 1)))) (Wn.no rfl) rfl (R.fld (off := 1) fa79_1 rfl) ?_
    obtain ⟨t4, h5, h⟩ := h
    refine LE.r (v := (Value.bool t4)) (Wn.no rfl) rfl (R.ld sc4 rfl h5) ?_
    refine LE.p (v := (Value.bool t4)) (Wn.no rfl) rfl (R.move rfl) ?_
    rcases M.ite_use h with ⟨hb6, h⟩ | ⟨hb6, h⟩
    · refine LE.u (Un.no 5 11 false rfl rfl rfl (congrArg Value.bool hb6)) ?_
      refine LE.u (Un.no 5 11 false rfl rfl rfl (congrArg Value.bool hb6)) ?_
      refine LE.u (Un.no 5 11 false rfl rfl rfl (congrArg Value.bool hb6)) ?_
      refine LE.u (Un.no 5 11 false rfl rfl rfl (congrArg Value.bool hb6)) ?_
      refine LE.u (Un.no 5 11 false rfl rfl rfl (congrArg Value.bool hb6)) ?_
      refine LE.u (Un.no 5 11 false rfl rfl rfl (congrArg Value.bool hb6)) ?_
      refine LE.u (Un.no 5 11 false rfl rfl rfl (congrArg Value.bool hb6)) ?_
      refine LE.p (v := (Value.bool true)) (Wn.no rfl) rfl (R.pickT (congrArg Value.bool hb6) rfl) ?_
      obtain ⟨a7, h8, h⟩ := h
      refine LE.p (v := (Value.pointer (some a7))) (Wn.no rfl) rfl (R.nilC (congrArg Value.pointer h8)) ?_
      refine LE.p (v := (Value.pointer (some (a7.add 1)))) (Wn.no rfl) rfl (R.fld (off := 1) fa79_1 rfl) ?_
      obtain ⟨w9, hww9, h10, h11, h⟩ := M.st_use h
      refine LE.s (Wn.no rfl) rfl (R.st (a := (a7.add 1)) (v := (Value.bool true)) sz4 rfl rfl rfl rfl h10 h11 hww9) ?_
      refine LE.nil ?_
      exact ⟨h, rfl, rfl⟩
    · refine LE.p (v := (Value.int .i64 p1)) (Wn.yes 5 11 false rfl rfl rfl (congrArg Value.bool hb6)) rfl (R.move rfl) ?_
      refine LE.p (v := (Value.pointer p0)) (Wn.yes 5 11 false rfl rfl rfl (congrArg Value.bool hb6)) rfl (R.move rfl) ?_
      obtain ⟨a12, h13, h⟩ := h
      refine LE.p (v := (Value.pointer (some a12))) (Wn.yes 5 11 false rfl rfl rfl (congrArg Value.bool hb6)) rfl (R.nilC (congrArg Value.pointer h13)) ?_
      refine LE.p (v := (Value.pointer (some a12))) (Wn.yes 5 11 false rfl rfl rfl (congrArg Value.bool hb6)) rfl (R.fld (off := 0) fa79_0 rfl) ?_
      obtain ⟨t14, h15, h⟩ := h
      refine LE.r (v := (SV.v t14)) (Wn.yes 5 11 false rfl rfl rfl (congrArg Value.bool hb6)) rfl (R.ld sc40 rfl h15) ?_
      refine LE.p (v := (Value.int .i64 (t14.len : Int))) (Wn.yes 5 11 false rfl rfl rfl (congrArg Value.bool hb6)) rfl (R.len sl40 rfl) ?_
      refine LE.p (v := (Value.bool (decide ((t14.len : Int) < p1)))) (Wn.yes 5 11 false rfl rfl rfl (congrArg Value.bool hb6)) rfl (R.gtr rfl rfl) ?_
      refine LE.p (v := (Value.bool (decide ((t14.len : Int) < p1)))) (Wn.no rfl) rfl (R.pickF (congrArg Value.bool hb6) rfl) ?_
      obtain ⟨a16, h17, h⟩ := h
      refine LE.p (v := (Value.pointer (some a16))) (Wn.no rfl) rfl (R.nilC (congrArg Value.pointer h17)) ?_
      refine LE.p (v := (Value.pointer (some (a16.add 1)))) (Wn.no rfl) rfl (R.fld (off := 1) fa79_1 rfl) ?_
      obtain ⟨w18, hww18, h19, h20, h⟩ := M.st_use h
      refine LE.s (Wn.no rfl) rfl (R.st (a := (a16.add 1)) (v := (Value.bool (decide ((t14.len : Int) < p1)))) sz4 rfl rfl rfl rfl h19 h20 hww18) ?_
      refine LE.nil ?_
      exact ⟨h, rfl, rfl⟩
  · rintro e21 w22 ⟨h, f23, f24⟩
    subst hJ1
    refine WE.seq ?_
    refine WE.seq ?_
    obtain ⟨J25, hJ25, h⟩ := M.join_use h
    refine WE.regJ (fun e w => ∃ (x26 : Bool), J25 x26 w ∧ e 0 = (Value.pointer p0) ∧ e 1 = (Value.int .i64 p1) ∧ e 29 = (Value.bool x26)) ?_ ?_
    · clear hJ25
      refine LE.p (v := (Value.pointer p0)) (Wn.no rfl) rfl (R.move f23) ?_
      obtain ⟨a27, h28, h⟩ := h
      refine LE.p (v := (Value.pointer (some a27))) (Wn.no rfl) rfl (R.nilC (congrArg Value.pointer h28)) ?_
      refine LE.p (v := (Value.pointer (some (a27.add 1)))) (Wn.no rfl) rfl (R.fld (off := 1) fa79_1 rfl) ?_
      obtain ⟨t29, h30, h⟩ := h
      refine LE.r (v := (Value.bool t29)) (Wn.no rfl) rfl (R.ld sc4 rfl h30) ?_
      refine LE.p (v := (Value.bool t29)) (Wn.no rfl) rfl (R.move rfl) ?_
      rcases M.ite_use h with ⟨hb31, h⟩ | ⟨hb31, h⟩
      · refine LE.u (Un.no 4 26 false rfl rfl rfl (congrArg Value.bool hb31)) ?_
        refine LE.u (Un.no 4 26 false rfl rfl rfl (congrArg Value.bool hb31)) ?_
        refine LE.p (v := (Value.bool true)) (Wn.no rfl) rfl (R.pickT (congrArg Value.bool hb31) rfl) ?_
        refine LE.nil ?_
        exact ⟨_, h, f23, f24, rfl⟩
      · refine LE.p (v := (Value.int .i64 p1)) (Wn.yes 4 26 false rfl rfl rfl (congrArg Value.bool hb31)) rfl (R.move f24) ?_
        refine LE.p (v := (Value.bool (decide (p1 < (1 : Int))))) (Wn.yes 4 26 false rfl rfl rfl (congrArg Value.bool hb31)) rfl (R.lss rfl rfl) ?_
        refine LE.p (v := (Value.bool (decide (p1 < (1 : Int))))) (Wn.no rfl) rfl (R.pickF (congrArg Value.bool hb31) rfl) ?_
        refine LE.nil ?_
        exact ⟨_, h, f23, f24, rfl⟩
    · rintro e32 w33 ⟨x26, h, f34, f35, f36⟩
      subst hJ25
      refine WE.condT rfl (b := x26) f36 ?_ ?_
      · intro hb37
        replace h := M.ite_t h hb37
        refine WE.seq ?_
        refine WE.reg ?_
        refine LE.p (v := (SV.v SV.nil)) (Wn.no rfl) rfl (R.assign rfl) ?_
        refine LE.nil ?_
        refine WE.ret ?_
        exact ⟨_, (Res.tmp rfl Res.nil), _, rfl, h⟩
      · intro hb37
        replace h := M.ite_f h hb37
        refine WE.skip ?_
        refine WE.seq ?_
        refine WE.reg ?_
        refine LE.p (v := (Value.pointer p0)) (Wn.no rfl) rfl (R.move f34) ?_
        obtain ⟨a38, h39, h⟩ := h
        refine LE.p (v := (Value.pointer (some a38))) (Wn.no rfl) rfl (R.nilC (congrArg Value.pointer h39)) ?_
        refine LE.p (v := (Value.pointer (some a38))) (Wn.no rfl) rfl (R.fld (off := 0) fa79_0 rfl) ?_
        obtain ⟨t40, h41, h⟩ := h
        refine LE.r (v := (SV.v t40)) (Wn.no rfl) rfl (R.ld sc40 rfl h41) ?_
        refine LE.p (v := (Value.int .i64 p1)) (Wn.no rfl) rfl (R.move f35) ?_
        obtain ⟨h42, h43, h44, h⟩ := h
        refine LE.p (v := (SV.v (SV.sub t40 (Int.toNat (0 : Int)) (Int.toNat p1) 1))) (Wn.no rfl) rfl (R.slc (s := t40) (lo := (0 : Int)) (hi := p1) _ _ sl40 rfl rfl rfl h42 h43 h44) ?_
        refine LE.c (Wn.no rfl) rfl (R.call bd57 (Ls.cons rfl Ls.nil) rfl) (Calls.mono h ?_)
        rintro _ w47 ⟨r46, rfl, h⟩
        refine ⟨_, rfl, ?_⟩
        refine LE.p (v := (SV.v r46)) (Wn.no rfl) rfl (R.assign rfl) ?_
        refine LE.nil ?_
        refine WE.seq ?_
        refine WE.reg ?_
        refine LE.p (v := (Value.pointer p0)) (Wn.no rfl) rfl (R.move f34) ?_
        refine LE.p (v := (Value.pointer p0)) (Wn.no rfl) rfl (R.move f34) ?_
        obtain ⟨a48, h49, h⟩ := h
        refine LE.p (v := (Value.pointer (some a48))) (Wn.no rfl) rfl (R.nilC (congrArg Value.pointer h49)) ?_
        refine LE.p (v := (Value.pointer (some a48))) (Wn.no rfl) rfl (R.fld (off := 0) fa79_0 rfl) ?_
        obtain ⟨t50, h51, h⟩ := h
        refine LE.r (v := (SV.v t50)) (Wn.no rfl) rfl (R.ld sc40 rfl h51) ?_
        refine LE.p (v := (Value.int .i64 p1)) (Wn.no rfl) rfl (R.move f35) ?_
        obtain ⟨h52, h53, h54, h⟩ := h
        refine LE.p (v := (SV.v (SV.sub t50 (Int.toNat p1) (Int.toNat (t50.len : Int)) 1))) (Wn.no rfl) rfl (R.slc (s := t50) (lo := p1) (hi := (t50.len : Int)) _ _ sl40 rfl rfl rfl h52 h53 h54) ?_
        obtain ⟨a56, h57, h⟩ := h
        refine LE.p (v := (Value.pointer (some a56))) (Wn.no rfl) rfl (R.nilC (congrArg Value.pointer h57)) ?_
        refine LE.p (v := (Value.pointer (some a56))) (Wn.no rfl) rfl (R.fld (off := 0) fa79_0 rfl) ?_
        obtain ⟨w58, hww58, h59, h60, h⟩ := M.st_use h
        refine LE.s (Wn.no rfl) rfl (R.st (a := a56) (v := (SV.v (SV.sub t50 (Int.toNat p1) (Int.toNat (t50.len : Int)) 1))) sz40 rfl rfl rfl rfl h59 h60 hww58) ?_
        refine LE.nil ?_
        refine WE.seq ?_
        refine WE.reg ?_
        refine LE.p (v := (SV.v r46)) (Wn.no rfl) rfl (R.move rfl) ?_
        refine LE.p (v := (SV.v r46)) (Wn.no rfl) rfl (R.assign rfl) ?_
        refine LE.nil ?_
        refine WE.ret ?_
        exact ⟨_, (Res.tmp rfl Res.nil), _, rfl, h⟩
/-- The formula of (*signpost.signpostref4.Reader).number. -/
def F70 (p0 : Option Addr) (p1 : Int) (K : Int → World → Prop) (w0 : World) : Prop :=
Calls Try.prog 75 #[(Value.pointer p0), (Value.int .i64 p1)] w0 (R75 fun r1 w2 =>
M.loop2 (fun (J5 : Int → Int → World → Prop) (x3 : Int) (x4 : Int) (w6 : World) => 
M.ite (decide (x4 < (r1.len : Int))) (
M.idx r1 x4 1 fun a17 =>
M.ld (Value.int .u8) (a17.add (x4.toNat * 1)) w6 fun t21 =>
J5 (bOr .u32 (bShl .u32 x3 (8 : Int)) (IntKind.u32.wrap t21)) (IntKind.i64.wrap (x4 + (1 : Int))) w6) (
K x3 w6)) (0 : Int) (0 : Int) w2)
theorem F70_ok {w0 : World} {p0 : Option Addr} {p1 : Int} {K : Int → World → Prop} (h : F70 p0 p1 K w0) : Calls Try.prog 70 #[(Value.pointer p0), (Value.int .i64 p1)] w0 (R70 K) := by
  refine calls_of_WE (args := [(Value.pointer p0), (Value.int .i64 p1)]) (rs := [.tmp 4]) Try.func70 rfl (N := 26) rfl rfl rfl rfl ?_
  refine WE.seq ?_
  refine WE.reg ?_
  refine LE.p (v := (Value.int .u32 (0 : Int))) (Wn.no rfl) rfl (R.assign rfl) ?_
  refine LE.nil ?_
  refine WE.seq ?_
  refine WE.reg ?_
  refine LE.p (v := (Value.pointer p0)) (Wn.no rfl) rfl (R.move rfl) ?_
  refine LE.p (v := (Value.int .i64 p1)) (Wn.no rfl) rfl (R.move rfl) ?_
  refine LE.c (Wn.no rfl) rfl (R.call bd75 (Ls.cons rfl (Ls.cons rfl Ls.nil)) rfl) (Calls.mono h ?_)
  rintro _ w2 ⟨r1, rfl, h⟩
  refine ⟨_, rfl, ?_⟩
  refine LE.p (v := (SV.v r1)) (Wn.no rfl) rfl (R.assign rfl) ?_
  refine LE.nil ?_
  refine WE.seq ?_
  refine WE.reg ?_
  refine LE.p (v := (Value.int .u32 (0 : Int))) (Wn.no rfl) rfl (R.assign rfl) ?_
  refine LE.nil ?_
  refine WE.seq ?_
  refine WE.seq ?_
  refine WE.reg ?_
  refine LE.p (v := (Value.int .i64 (0 : Int))) (Wn.no rfl) rfl (R.assign rfl) ?_
  refine LE.nil ?_
  refine WE.block ?_
  obtain ⟨I9, ⟨n8, h⟩, hr10⟩ := h
  refine WE.loop (fun n e w => ∃ (x3 : Int) (x4 : Int), I9 n x3 x4 w ∧ e 5 = (SV.v r1) ∧ e 6 = (Value.int .u32 x3) ∧ e 7 = (Value.int .i64 x4)) n8 ⟨_, _, h, rfl, rfl, rfl⟩ ?_
  clear h
  rintro n8 e7 w6 ⟨x3, x4, h, f13, f14, f15⟩
  replace h := hr10 n8 x3 x4 w6 h
  refine WE.seq ?_
  refine WE.seq ?_
  refine WE.reg ?_
  refine LE.p (v := (Value.int .i64 x4)) (Wn.no rfl) rfl (R.move f15) ?_
  refine LE.p (v := (SV.v r1)) (Wn.no rfl) rfl (R.move f13) ?_
  refine LE.p (v := (Value.int .i64 (r1.len : Int))) (Wn.no rfl) rfl (R.len sl40 rfl) ?_
  refine LE.p (v := (Value.bool (decide (x4 < (r1.len : Int))))) (Wn.no rfl) rfl (R.lss rfl rfl) ?_
  refine LE.nil ?_
  refine WE.condT rfl (b := (decide (x4 < (r1.len : Int)))) rfl ?_ ?_
  · intro hb16
    replace h := M.ite_t h hb16
    refine WE.skip ?_
    refine WE.seq ?_
    refine WE.block ?_
    refine WE.reg ?_
    refine LE.p (v := (Value.int .u32 x3)) (Wn.no rfl) rfl (R.move f14) ?_
    refine LE.p (v := (Value.int .u32 (bShl .u32 x3 (8 : Int)))) (Wn.no rfl) rfl (R.shl rfl rfl (by decide)) ?_
    refine LE.p (v := (SV.v r1)) (Wn.no rfl) rfl (R.move f13) ?_
    refine LE.p (v := (Value.int .i64 x4)) (Wn.no rfl) rfl (R.move f15) ?_
    obtain ⟨a17, h18, h19, h20, h⟩ := h
    refine LE.p (v := (Value.pointer (some (a17.add (x4.toNat * 1))))) (Wn.no rfl) rfl (R.idx (s := r1) sl40 rfl rfl h18 h19 h20) ?_
    obtain ⟨t21, h22, h⟩ := h
    refine LE.r (v := (Value.int .u8 t21)) (Wn.no rfl) rfl (R.ld sc5 rfl h22) ?_
    refine LE.p (v := (Value.int .u32 (IntKind.u32.wrap t21))) (Wn.no rfl) rfl (R.conv in23 in5 rfl) ?_
    refine LE.p (v := (Value.int .u32 (bOr .u32 (bShl .u32 x3 (8 : Int)) (IntKind.u32.wrap t21)))) (Wn.no rfl) rfl (R.or rfl rfl) ?_
    refine LE.p (v := (Value.int .u32 (bOr .u32 (bShl .u32 x3 (8 : Int)) (IntKind.u32.wrap t21)))) (Wn.no rfl) rfl (R.assign rfl) ?_
    refine LE.nil ?_
    refine WE.reg ?_
    refine LE.p (v := (Value.int .i64 x4)) (Wn.no rfl) rfl (R.move f15) ?_
    refine LE.p (v := (Value.int .i64 (IntKind.i64.wrap (x4 + (1 : Int))))) (Wn.no rfl) rfl (R.add rfl rfl) ?_
    refine LE.p (v := (Value.int .i64 (IntKind.i64.wrap (x4 + (1 : Int))))) (Wn.no rfl) rfl (R.assign rfl) ?_
    refine LE.nil ?_
    obtain ⟨m11, hm12, h⟩ := h
    exact ⟨m11, hm12, _, _, h, f13, rfl, rfl⟩
  · intro hb16
    replace h := M.ite_f h hb16
    refine WE.exit ?_
    refine WE.seq ?_
    refine WE.reg ?_
    refine LE.p (v := (Value.int .u32 x3)) (Wn.no rfl) rfl (R.move f14) ?_
    refine LE.p (v := (Value.int .u32 x3)) (Wn.no rfl) rfl (R.assign rfl) ?_
    refine LE.nil ?_
    refine WE.ret ?_
    exact ⟨_, (Res.tmp rfl Res.nil), _, rfl, h⟩
/-- The formula of slices.Reverse[[]uint32,uint32]. -/
def F71 (p0 : SV) (K : World → Prop) (w0 : World) : Prop :=
M.loop2 (fun (J3 : Int → Int → World → Prop) (x1 : Int) (x2 : Int) (w4 : World) => 
M.ite (decide (x1 < x2)) (
M.drew w4 fun w15 => 
M.idx p0 x2 1 fun a16 =>
M.idx p0 x1 1 fun a20 =>
M.ld (Value.int .u32) (a16.add (x2.toNat * 1)) w15 fun t24 =>
M.ld (Value.int .u32) (a20.add (x1.toNat * 1)) w15 fun t26 =>
M.idx p0 x1 1 fun a28 =>
M.st (a28.add (x1.toNat * 1)) (Value.int .u32 t24) w15 fun w32 =>
M.idx p0 x2 1 fun a35 =>
M.st (a35.add (x2.toNat * 1)) (Value.int .u32 t26) w32 fun w39 =>
J3 (IntKind.i64.wrap (x1 + (1 : Int))) (IntKind.i64.wrap (x2 - (1 : Int))) w39) (
K w4)) (0 : Int) (IntKind.i64.wrap ((p0.len : Int) - (1 : Int))) w0
theorem F71_ok {w0 : World} {p0 : SV} {K : World → Prop} (h : F71 p0 K w0) : Calls Try.prog 71 #[(SV.v p0)] w0 (R71 K) := by
  refine calls_of_WE (args := [(SV.v p0)]) (rs := []) Try.func71 rfl (N := 28) rfl rfl rfl rfl ?_
  refine WE.seq ?_
  refine WE.reg ?_
  refine LE.p (v := (SV.v p0)) (Wn.no rfl) rfl (R.move rfl) ?_
  refine LE.p (v := (Value.int .i64 (p0.len : Int))) (Wn.no rfl) rfl (R.len sl25 rfl) ?_
  refine LE.p (v := (Value.int .i64 (IntKind.i64.wrap ((p0.len : Int) - (1 : Int))))) (Wn.no rfl) rfl (R.sub rfl rfl) ?_
  refine LE.p (v := (Value.int .i64 (0 : Int))) (Wn.no rfl) rfl (R.assign rfl) ?_
  refine LE.p (v := (Value.int .i64 (IntKind.i64.wrap ((p0.len : Int) - (1 : Int))))) (Wn.no rfl) rfl (R.assign rfl) ?_
  refine LE.nil ?_
  refine WE.block ?_
  obtain ⟨I7, ⟨n6, h⟩, hr8⟩ := h
  refine WE.loop (fun n e w => ∃ (x1 : Int) (x2 : Int), I7 n x1 x2 w ∧ e 0 = (SV.v p0) ∧ e 2 = (Value.int .i64 x1) ∧ e 3 = (Value.int .i64 x2)) n6 ⟨_, _, h, rfl, rfl, rfl⟩ ?_
  clear h
  rintro n6 e5 w4 ⟨x1, x2, h, f11, f12, f13⟩
  replace h := hr8 n6 x1 x2 w4 h
  refine WE.seq ?_
  refine WE.seq ?_
  refine WE.reg ?_
  refine LE.p (v := (Value.int .i64 x1)) (Wn.no rfl) rfl (R.move f12) ?_
  refine LE.p (v := (Value.int .i64 x2)) (Wn.no rfl) rfl (R.move f13) ?_
  refine LE.p (v := (Value.bool (decide (x1 < x2)))) (Wn.no rfl) rfl (R.lss rfl rfl) ?_
  refine LE.nil ?_
  refine WE.condT rfl (b := (decide (x1 < x2))) rfl ?_ ?_
  · intro hb14
    replace h := M.ite_t h hb14
    refine WE.skip ?_
    refine WE.seq ?_
    refine WE.block ?_
    refine WE.draw mix ?_
    obtain ⟨w15, hww15, h⟩ := M.drew_use h
    rw [← hww15]
    clear hww15
    refine DE.t 0 (v := (SV.v p0)) rfl (by kernel_rfl) (Wn.no rfl) rfl (R.move f11) ?_
    refine DE.t 1 (v := (Value.int .i64 x1)) rfl (by kernel_rfl) (Wn.no rfl) rfl (R.move f12) ?_
    refine DE.t 2 (v := (SV.v p0)) rfl (by kernel_rfl) (Wn.no rfl) rfl (R.move f11) ?_
    refine DE.t 3 (v := (Value.int .i64 x2)) rfl (by kernel_rfl) (Wn.no rfl) rfl (R.move f13) ?_
    refine DE.t 4 (v := (SV.v p0)) rfl (by kernel_rfl) (Wn.no rfl) rfl (R.move f11) ?_
    refine DE.t 5 (v := (Value.int .i64 x2)) rfl (by kernel_rfl) (Wn.no rfl) rfl (R.move f13) ?_
    obtain ⟨a16, h17, h18, h19, h⟩ := h
    refine DE.t 6 (v := (Value.pointer (some (a16.add (x2.toNat * 1))))) rfl (by kernel_rfl) (Wn.no rfl) rfl (R.idx (s := p0) sl25 rfl rfl h17 h18 h19) ?_
    refine DE.t 8 (v := (SV.v p0)) rfl (by kernel_rfl) (Wn.no rfl) rfl (R.move f11) ?_
    refine DE.t 9 (v := (Value.int .i64 x1)) rfl (by kernel_rfl) (Wn.no rfl) rfl (R.move f12) ?_
    obtain ⟨a20, h21, h22, h23, h⟩ := h
    refine DE.t 10 (v := (Value.pointer (some (a20.add (x1.toNat * 1))))) rfl (by kernel_rfl) (Wn.no rfl) rfl (R.idx (s := p0) sl25 rfl rfl h21 h22 h23) ?_
    obtain ⟨t24, h25, h⟩ := h
    refine DE.hold 7 (fun w => w.cell? (a16.add (x2.toNat * 1)) = some (Value.int .u32 t24)) (v := (Value.int .u32 t24)) rfl (by kernel_rfl) (Wn.no rfl) rfl h25 (fun w hs => R.ld sc23 rfl hs) ?_
    obtain ⟨t26, h27, h⟩ := h
    refine DE.main 11 (by kernel_rfl) ?_
    refine One.r 11 (v := (Value.int .u32 t26)) rfl (Wn.no rfl) rfl (R.ld sc23 rfl h27) (.inl rfl) ?_
    obtain ⟨a28, h29, h30, h31, h⟩ := h
    refine DE.t 12 (v := (Value.pointer (some (a28.add (x1.toNat * 1))))) rfl (by kernel_rfl) (Wn.no rfl) rfl (R.idx (s := p0) sl25 rfl rfl h29 h30 h31) ?_
    obtain ⟨w32, hww32, h33, h34, h⟩ := M.st_use h
    refine DE.main 13 (by kernel_rfl) ?_
    refine One.s 13 rfl (Wn.no rfl) rfl (R.st (a := (a28.add (x1.toNat * 1))) (v := (Value.int .u32 t24)) sz23 rfl rfl rfl rfl h33 h34 hww32) ⟨aftT (by kernel_rfl), trivial⟩ ?_
    obtain ⟨a35, h36, h37, h38, h⟩ := h
    refine DE.t 14 (v := (Value.pointer (some (a35.add (x2.toNat * 1))))) rfl (by kernel_rfl) (Wn.no rfl) rfl (R.idx (s := p0) sl25 rfl rfl h36 h37 h38) ?_
    obtain ⟨w39, hww39, h40, h41, h⟩ := M.st_use h
    refine DE.main 15 (by kernel_rfl) ?_
    refine One.s 15 rfl (Wn.no rfl) rfl (R.st (a := (a35.add (x2.toNat * 1))) (v := (Value.int .u32 t26)) sz23 rfl rfl rfl rfl h40 h41 hww39) ⟨aftT (by kernel_rfl), trivial⟩ ?_
    refine DE.done (by kernel_rfl) ?_
    refine WE.reg ?_
    refine LE.p (v := (Value.int .i64 x1)) (Wn.no rfl) rfl (R.move f12) ?_
    refine LE.p (v := (Value.int .i64 (IntKind.i64.wrap (x1 + (1 : Int))))) (Wn.no rfl) rfl (R.add rfl rfl) ?_
    refine LE.p (v := (Value.int .i64 x2)) (Wn.no rfl) rfl (R.move f13) ?_
    refine LE.p (v := (Value.int .i64 (IntKind.i64.wrap (x2 - (1 : Int))))) (Wn.no rfl) rfl (R.sub rfl rfl) ?_
    refine LE.p (v := (Value.int .i64 (IntKind.i64.wrap (x1 + (1 : Int))))) (Wn.no rfl) rfl (R.assign rfl) ?_
    refine LE.p (v := (Value.int .i64 (IntKind.i64.wrap (x2 - (1 : Int))))) (Wn.no rfl) rfl (R.assign rfl) ?_
    refine LE.nil ?_
    obtain ⟨m9, hm10, h⟩ := h
    exact ⟨m9, hm10, _, _, h, f11, rfl, rfl⟩
  · intro hb14
    replace h := M.ite_f h hb14
    refine WE.exit ?_
    exact ⟨_,  Res.nil, rfl, h⟩
/-- The formula of slices.Reverse[[]signpost.api.Seg,signpost.api.Seg]. -/
def F72 (p0 : SV) (K : World → Prop) (w0 : World) : Prop :=
M.loop2 (fun (J3 : Int → Int → World → Prop) (x1 : Int) (x2 : Int) (w4 : World) => 
M.ite (decide (x1 < x2)) (
M.drew w4 fun w15 => 
M.idx p0 x2 2 fun a16 =>
M.idx p0 x1 2 fun a20 =>
M.ld (Value.int .i64) (a16.add (x2.toNat * 2)) w15 fun t24 =>
M.ld SV.v ((a16.add (x2.toNat * 2)).add 1) w15 fun t26 =>
M.ld (Value.int .i64) (a20.add (x1.toNat * 2)) w15 fun t28 =>
M.ld SV.v ((a20.add (x1.toNat * 2)).add 1) w15 fun t30 =>
M.idx p0 x1 2 fun a32 =>
M.stA (a32.add (x1.toNat * 2)) [(Value.int .i64 t24), (SV.v t26)] w15 fun w36 =>
M.idx p0 x2 2 fun a38 =>
M.stA (a38.add (x2.toNat * 2)) [(Value.int .i64 t28), (SV.v t30)] w36 fun w42 =>
J3 (IntKind.i64.wrap (x1 + (1 : Int))) (IntKind.i64.wrap (x2 - (1 : Int))) w42) (
K w4)) (0 : Int) (IntKind.i64.wrap ((p0.len : Int) - (1 : Int))) w0
theorem F72_ok {w0 : World} {p0 : SV} {K : World → Prop} (h : F72 p0 K w0) : Calls Try.prog 72 #[(SV.v p0)] w0 (R72 K) := by
  refine calls_of_WE (args := [(SV.v p0)]) (rs := []) Try.func72 rfl (N := 28) rfl rfl rfl rfl ?_
  refine WE.seq ?_
  refine WE.reg ?_
  refine LE.p (v := (SV.v p0)) (Wn.no rfl) rfl (R.move rfl) ?_
  refine LE.p (v := (Value.int .i64 (p0.len : Int))) (Wn.no rfl) rfl (R.len sl24 rfl) ?_
  refine LE.p (v := (Value.int .i64 (IntKind.i64.wrap ((p0.len : Int) - (1 : Int))))) (Wn.no rfl) rfl (R.sub rfl rfl) ?_
  refine LE.p (v := (Value.int .i64 (0 : Int))) (Wn.no rfl) rfl (R.assign rfl) ?_
  refine LE.p (v := (Value.int .i64 (IntKind.i64.wrap ((p0.len : Int) - (1 : Int))))) (Wn.no rfl) rfl (R.assign rfl) ?_
  refine LE.nil ?_
  refine WE.block ?_
  obtain ⟨I7, ⟨n6, h⟩, hr8⟩ := h
  refine WE.loop (fun n e w => ∃ (x1 : Int) (x2 : Int), I7 n x1 x2 w ∧ e 0 = (SV.v p0) ∧ e 2 = (Value.int .i64 x1) ∧ e 3 = (Value.int .i64 x2)) n6 ⟨_, _, h, rfl, rfl, rfl⟩ ?_
  clear h
  rintro n6 e5 w4 ⟨x1, x2, h, f11, f12, f13⟩
  replace h := hr8 n6 x1 x2 w4 h
  refine WE.seq ?_
  refine WE.seq ?_
  refine WE.reg ?_
  refine LE.p (v := (Value.int .i64 x1)) (Wn.no rfl) rfl (R.move f12) ?_
  refine LE.p (v := (Value.int .i64 x2)) (Wn.no rfl) rfl (R.move f13) ?_
  refine LE.p (v := (Value.bool (decide (x1 < x2)))) (Wn.no rfl) rfl (R.lss rfl rfl) ?_
  refine LE.nil ?_
  refine WE.condT rfl (b := (decide (x1 < x2))) rfl ?_ ?_
  · intro hb14
    replace h := M.ite_t h hb14
    refine WE.skip ?_
    refine WE.seq ?_
    refine WE.block ?_
    refine WE.draw mix ?_
    obtain ⟨w15, hww15, h⟩ := M.drew_use h
    rw [← hww15]
    clear hww15
    refine DE.t 0 (v := (SV.v p0)) rfl (by kernel_rfl) (Wn.no rfl) rfl (R.move f11) ?_
    refine DE.t 1 (v := (Value.int .i64 x1)) rfl (by kernel_rfl) (Wn.no rfl) rfl (R.move f12) ?_
    refine DE.t 2 (v := (SV.v p0)) rfl (by kernel_rfl) (Wn.no rfl) rfl (R.move f11) ?_
    refine DE.t 3 (v := (Value.int .i64 x2)) rfl (by kernel_rfl) (Wn.no rfl) rfl (R.move f13) ?_
    refine DE.t 4 (v := (SV.v p0)) rfl (by kernel_rfl) (Wn.no rfl) rfl (R.move f11) ?_
    refine DE.t 5 (v := (Value.int .i64 x2)) rfl (by kernel_rfl) (Wn.no rfl) rfl (R.move f13) ?_
    obtain ⟨a16, h17, h18, h19, h⟩ := h
    refine DE.t 6 (v := (Value.pointer (some (a16.add (x2.toNat * 2))))) rfl (by kernel_rfl) (Wn.no rfl) rfl (R.idx (s := p0) sl24 rfl rfl h17 h18 h19) ?_
    refine DE.t 8 (v := (SV.v p0)) rfl (by kernel_rfl) (Wn.no rfl) rfl (R.move f11) ?_
    refine DE.t 9 (v := (Value.int .i64 x1)) rfl (by kernel_rfl) (Wn.no rfl) rfl (R.move f12) ?_
    obtain ⟨a20, h21, h22, h23, h⟩ := h
    refine DE.t 10 (v := (Value.pointer (some (a20.add (x1.toNat * 2))))) rfl (by kernel_rfl) (Wn.no rfl) rfl (R.idx (s := p0) sl24 rfl rfl h21 h22 h23) ?_
    obtain ⟨t24, h25, h⟩ := h
    obtain ⟨t26, h27, h⟩ := h
    refine DE.hold 7 (fun w => w.cell? (a16.add (x2.toNat * 2)) = some (Value.int .i64 t24) ∧ w.cell? ((a16.add (x2.toNat * 2)).add 1) = some (SV.v t26)) (v := (Value.agg #[(Value.int .i64 t24), (SV.v t26)])) rfl (by kernel_rfl) (Wn.no rfl) rfl ⟨h25, h27⟩ (fun w hs => R.ldA ag27 sz27 rfl rfl (Cs.cons hs.1 (Cs.cons hs.2 Cs.nil))) ?_
    obtain ⟨t28, h29, h⟩ := h
    obtain ⟨t30, h31, h⟩ := h
    refine DE.main 11 (by kernel_rfl) ?_
    refine One.r 11 (v := (Value.agg #[(Value.int .i64 t28), (SV.v t30)])) rfl (Wn.no rfl) rfl (R.ldA ag27 sz27 rfl rfl (Cs.cons h29 (Cs.cons h31 Cs.nil))) (.inl rfl) ?_
    obtain ⟨a32, h33, h34, h35, h⟩ := h
    refine DE.t 12 (v := (Value.pointer (some (a32.add (x1.toNat * 2))))) rfl (by kernel_rfl) (Wn.no rfl) rfl (R.idx (s := p0) sl24 rfl rfl h33 h34 h35) ?_
    obtain ⟨w36, hww36, h37, h⟩ := M.stA_use h
    refine DE.main 13 (by kernel_rfl) ?_
    refine One.s 13 rfl (Wn.no rfl) rfl (R.stA (a := (a32.add (x1.toNat * 2))) [(Value.int .i64 t24), (SV.v t26)] sz27 rfl rfl rfl (by simp [Value.oneCell']) h37 hww36) ⟨aftT (by kernel_rfl), trivial⟩ ?_
    obtain ⟨a38, h39, h40, h41, h⟩ := h
    refine DE.t 14 (v := (Value.pointer (some (a38.add (x2.toNat * 2))))) rfl (by kernel_rfl) (Wn.no rfl) rfl (R.idx (s := p0) sl24 rfl rfl h39 h40 h41) ?_
    obtain ⟨w42, hww42, h43, h⟩ := M.stA_use h
    refine DE.main 15 (by kernel_rfl) ?_
    refine One.s 15 rfl (Wn.no rfl) rfl (R.stA (a := (a38.add (x2.toNat * 2))) [(Value.int .i64 t28), (SV.v t30)] sz27 rfl rfl rfl (by simp [Value.oneCell']) h43 hww42) ⟨aftT (by kernel_rfl), trivial⟩ ?_
    refine DE.done (by kernel_rfl) ?_
    refine WE.reg ?_
    refine LE.p (v := (Value.int .i64 x1)) (Wn.no rfl) rfl (R.move f12) ?_
    refine LE.p (v := (Value.int .i64 (IntKind.i64.wrap (x1 + (1 : Int))))) (Wn.no rfl) rfl (R.add rfl rfl) ?_
    refine LE.p (v := (Value.int .i64 x2)) (Wn.no rfl) rfl (R.move f13) ?_
    refine LE.p (v := (Value.int .i64 (IntKind.i64.wrap (x2 - (1 : Int))))) (Wn.no rfl) rfl (R.sub rfl rfl) ?_
    refine LE.p (v := (Value.int .i64 (IntKind.i64.wrap (x1 + (1 : Int))))) (Wn.no rfl) rfl (R.assign rfl) ?_
    refine LE.p (v := (Value.int .i64 (IntKind.i64.wrap (x2 - (1 : Int))))) (Wn.no rfl) rfl (R.assign rfl) ?_
    refine LE.nil ?_
    obtain ⟨m9, hm10, h⟩ := h
    exact ⟨m9, hm10, _, _, h, f11, rfl, rfl⟩
  · intro hb14
    replace h := M.ite_f h hb14
    refine WE.exit ?_
    exact ⟨_,  Res.nil, rfl, h⟩
/-- The formula of cmp.isNaN[int]. -/
def F73 (p0 : Int) (K : Bool → World → Prop) (w0 : World) : Prop :=
K (p0 != p0) w0
theorem F73_ok {w0 : World} {p0 : Int} {K : Bool → World → Prop} (h : F73 p0 K w0) : Calls Try.prog 73 #[(Value.int .i64 p0)] w0 (R73 K) := by
  refine calls_of_WE (args := [(Value.int .i64 p0)]) (rs := [.tmp 2]) Try.func73 rfl (N := 6) rfl rfl rfl rfl ?_
  refine WE.seq ?_
  refine WE.reg ?_
  refine LE.p (v := (Value.bool false)) (Wn.no rfl) rfl (R.assign rfl) ?_
  refine LE.nil ?_
  refine WE.seq ?_
  refine WE.reg ?_
  refine LE.p (v := (Value.int .i64 p0)) (Wn.no rfl) rfl (R.move rfl) ?_
  refine LE.p (v := (Value.int .i64 p0)) (Wn.no rfl) rfl (R.move rfl) ?_
  refine LE.p (v := (Value.bool (p0 != p0))) (Wn.no rfl) rfl (R.neq rfl rfl) ?_
  refine LE.p (v := (Value.bool (p0 != p0))) (Wn.no rfl) rfl (R.assign rfl) ?_
  refine LE.nil ?_
  refine WE.ret ?_
  exact ⟨_, (Res.tmp rfl Res.nil), _, rfl, h⟩
/-- The formula of cmp.Compare[uint32]. -/
def F74 (p0 : Int) (p1 : Int) (K : Int → World → Prop) (w0 : World) : Prop :=
Calls Try.prog 76 #[(Value.int .u32 p0)] w0 (R76 fun r1 w2 =>
Calls Try.prog 76 #[(Value.int .u32 p1)] w2 (R76 fun r3 w4 =>
M.ite r1 (
M.ite r3 (
K (0 : Int) w4) (
K (-1 : Int) w4)) (
M.ite r3 (
K (1 : Int) w4) (
M.ite (decide (p0 < p1)) (
K (-1 : Int) w4) (
M.ite (decide (p1 < p0)) (
K (1 : Int) w4) (
K (0 : Int) w4))))))
theorem F74_ok {w0 : World} {p0 : Int} {p1 : Int} {K : Int → World → Prop} (h : F74 p0 p1 K w0) : Calls Try.prog 74 #[(Value.int .u32 p0), (Value.int .u32 p1)] w0 (R74 K) := by
  refine calls_of_WE (args := [(Value.int .u32 p0), (Value.int .u32 p1)]) (rs := [.tmp 4]) Try.func74 rfl (N := 20) rfl rfl rfl rfl ?_
  refine WE.seq ?_
  refine WE.reg ?_
  refine LE.p (v := (Value.int .i64 (0 : Int))) (Wn.no rfl) rfl (R.assign rfl) ?_
  refine LE.nil ?_
  refine WE.seq ?_
  refine WE.reg ?_
  refine LE.p (v := (Value.int .u32 p0)) (Wn.no rfl) rfl (R.move rfl) ?_
  refine LE.c (Wn.no rfl) rfl (R.call bd76 (Ls.cons rfl Ls.nil) rfl) (Calls.mono h ?_)
  rintro _ w2 ⟨r1, rfl, h⟩
  refine ⟨_, rfl, ?_⟩
  refine LE.p (v := (Value.bool r1)) (Wn.no rfl) rfl (R.assign rfl) ?_
  refine LE.nil ?_
  refine WE.seq ?_
  refine WE.reg ?_
  refine LE.p (v := (Value.int .u32 p1)) (Wn.no rfl) rfl (R.move rfl) ?_
  refine LE.c (Wn.no rfl) rfl (R.call bd76 (Ls.cons rfl Ls.nil) rfl) (Calls.mono h ?_)
  rintro _ w4 ⟨r3, rfl, h⟩
  refine ⟨_, rfl, ?_⟩
  refine LE.p (v := (Value.bool r3)) (Wn.no rfl) rfl (R.assign rfl) ?_
  refine LE.nil ?_
  refine WE.seq ?_
  refine WE.seq ?_
  refine WE.reg ?_
  refine LE.p (v := (Value.bool r1)) (Wn.no rfl) rfl (R.move rfl) ?_
  refine LE.nil ?_
  refine WE.condT rfl (b := r1) rfl ?_ ?_
  · intro hb5
    replace h := M.ite_t h hb5
    refine WE.seq ?_
    refine WE.seq ?_
    refine WE.reg ?_
    refine LE.p (v := (Value.bool r3)) (Wn.no rfl) rfl (R.move rfl) ?_
    refine LE.nil ?_
    refine WE.condT rfl (b := r3) rfl ?_ ?_
    · intro hb6
      replace h := M.ite_t h hb6
      refine WE.seq ?_
      refine WE.reg ?_
      refine LE.p (v := (Value.int .i64 (0 : Int))) (Wn.no rfl) rfl (R.assign rfl) ?_
      refine LE.nil ?_
      refine WE.ret ?_
      exact ⟨_, (Res.tmp rfl Res.nil), _, rfl, h⟩
    · intro hb6
      replace h := M.ite_f h hb6
      refine WE.skip ?_
      refine WE.seq ?_
      refine WE.reg ?_
      refine LE.p (v := (Value.int .i64 (-1 : Int))) (Wn.no rfl) rfl (R.assign rfl) ?_
      refine LE.nil ?_
      refine WE.ret ?_
      exact ⟨_, (Res.tmp rfl Res.nil), _, rfl, h⟩
  · intro hb5
    replace h := M.ite_f h hb5
    refine WE.skip ?_
    refine WE.seq ?_
    refine WE.seq ?_
    refine WE.reg ?_
    refine LE.p (v := (Value.bool r3)) (Wn.no rfl) rfl (R.move rfl) ?_
    refine LE.nil ?_
    refine WE.condT rfl (b := r3) rfl ?_ ?_
    · intro hb7
      replace h := M.ite_t h hb7
      refine WE.seq ?_
      refine WE.reg ?_
      refine LE.p (v := (Value.int .i64 (1 : Int))) (Wn.no rfl) rfl (R.assign rfl) ?_
      refine LE.nil ?_
      refine WE.ret ?_
      exact ⟨_, (Res.tmp rfl Res.nil), _, rfl, h⟩
    · intro hb7
      replace h := M.ite_f h hb7
      refine WE.skip ?_
      refine WE.seq ?_
      refine WE.seq ?_
      refine WE.reg ?_
      refine LE.p (v := (Value.int .u32 p0)) (Wn.no rfl) rfl (R.move rfl) ?_
      refine LE.p (v := (Value.int .u32 p1)) (Wn.no rfl) rfl (R.move rfl) ?_
      refine LE.p (v := (Value.bool (decide (p0 < p1)))) (Wn.no rfl) rfl (R.lss rfl rfl) ?_
      refine LE.nil ?_
      refine WE.condT rfl (b := (decide (p0 < p1))) rfl ?_ ?_
      · intro hb8
        replace h := M.ite_t h hb8
        refine WE.seq ?_
        refine WE.reg ?_
        refine LE.p (v := (Value.int .i64 (-1 : Int))) (Wn.no rfl) rfl (R.assign rfl) ?_
        refine LE.nil ?_
        refine WE.ret ?_
        exact ⟨_, (Res.tmp rfl Res.nil), _, rfl, h⟩
      · intro hb8
        replace h := M.ite_f h hb8
        refine WE.skip ?_
        refine WE.seq ?_
        refine WE.seq ?_
        refine WE.reg ?_
        refine LE.p (v := (Value.int .u32 p0)) (Wn.no rfl) rfl (R.move rfl) ?_
        refine LE.p (v := (Value.int .u32 p1)) (Wn.no rfl) rfl (R.move rfl) ?_
        refine LE.p (v := (Value.bool (decide (p1 < p0)))) (Wn.no rfl) rfl (R.gtr rfl rfl) ?_
        refine LE.nil ?_
        refine WE.condT rfl (b := (decide (p1 < p0))) rfl ?_ ?_
        · intro hb9
          replace h := M.ite_t h hb9
          refine WE.seq ?_
          refine WE.reg ?_
          refine LE.p (v := (Value.int .i64 (1 : Int))) (Wn.no rfl) rfl (R.assign rfl) ?_
          refine LE.nil ?_
          refine WE.ret ?_
          exact ⟨_, (Res.tmp rfl Res.nil), _, rfl, h⟩
        · intro hb9
          replace h := M.ite_f h hb9
          refine WE.skip ?_
          refine WE.seq ?_
          refine WE.reg ?_
          refine LE.p (v := (Value.int .i64 (0 : Int))) (Wn.no rfl) rfl (R.assign rfl) ?_
          refine LE.nil ?_
          refine WE.ret ?_
          exact ⟨_, (Res.tmp rfl Res.nil), _, rfl, h⟩
/-- The formula of (*signpost.signpostref4.Reader).Raw. -/
def F75 (p0 : Option Addr) (p1 : Int) (K : SV → World → Prop) (w0 : World) : Prop :=
M.join (fun (x2 : Bool) (w9 : World) => 
M.ite x2 (
K SV.nil w9) (
M.drew w9 fun w14 => 
M.nil p0 fun a15 =>
M.nil p0 fun a17 =>
M.ld SV.v a15 w14 fun t19 =>
M.ld (Value.int .i64) (a17.add 1) w14 fun t21 =>
M.ite (decide ((IntKind.i64.wrap ((t19.len : Int) - t21)) < p1)) (
M.nil p0 fun a24 =>
M.st (a24.add 2) (Value.bool true) w14 fun w26 =>
K SV.nil w26) (
M.drew w14 fun w29 => 
M.nil p0 fun a30 =>
M.nil p0 fun a32 =>
M.nil p0 fun a34 =>
M.ld SV.v a30 w29 fun t36 =>
M.ld (Value.int .i64) (a32.add 1) w29 fun t38 =>
M.ld (Value.int .i64) (a34.add 1) w29 fun t40 =>
M.bnd t38 (IntKind.i64.wrap (t40 + p1)) t36 <|
M.new (.cells #[] 5) w29 fun b48 w46 =>
M.keep (w46.cell? (a34.add 1) = some (Value.int .i64 t40)) <|
M.keep (w46.cell? (a32.add 1) = some (Value.int .i64 t38)) <|
M.keep (w46.cell? a30 = some (SV.v t36)) <|
M.app Try.prog 40 40 40 (SV.mk (some b48) 0 0) (SV.v (SV.sub t36 (Int.toNat t38) (Int.toNat (IntKind.i64.wrap (t40 + p1))) 1)) w46 fun s52 w53 =>
M.nil p0 fun a55 =>
M.ld (Value.int .i64) (a55.add 1) w53 fun t57 =>
M.nil p0 fun a59 =>
M.st (a59.add 1) (Value.int .i64 (IntKind.i64.wrap (t57 + p1))) w53 fun w61 =>
K s52 w61))) fun J1 => 
M.nil p0 fun a3 =>
M.ld Value.bool (a3.add 2) w0 fun t5 =>
M.ite t5 (
J1 true w0) (
J1 (decide (p1 < (1 : Int))) w0)
theorem F75_ok {w0 : World} {p0 : Option Addr} {p1 : Int} {K : SV → World → Prop} (h : F75 p0 p1 K w0) : Calls Try.prog 75 #[(Value.pointer p0), (Value.int .i64 p1)] w0 (R75 K) := by
  refine calls_of_WE (args := [(Value.pointer p0), (Value.int .i64 p1)]) (rs := [.tmp 4]) Try.func75 rfl (N := 56) rfl rfl rfl rfl ?_
  refine WE.seq ?_
  refine WE.reg ?_
  refine LE.p (v := (SV.v SV.nil)) (Wn.no rfl) rfl (R.assign rfl) ?_
  refine LE.nil ?_
  refine WE.seq ?_
  refine WE.seq ?_
  obtain ⟨J1, hJ1, h⟩ := M.join_use h
  refine WE.regJ (fun e w => ∃ (x2 : Bool), J1 x2 w ∧ e 0 = (Value.pointer p0) ∧ e 1 = (Value.int .i64 p1) ∧ e 13 = (Value.bool x2)) ?_ ?_
  · clear hJ1
    refine LE.p (v := (Value.pointer p0)) (Wn.no rfl) rfl (R.move rfl) ?_
    obtain ⟨a3, h4, h⟩ := h
    refine LE.p (v := (Value.pointer (some a3))) (Wn.no rfl) rfl (R.nilC (congrArg Value.pointer h4)) ?_
    refine LE.p (v := (Value.pointer (some (a3.add 2)))) (Wn.no rfl) rfl (R.fld (off := 2) fa85_2 rfl) ?_
    obtain ⟨t5, h6, h⟩ := h
    refine LE.r (v := (Value.bool t5)) (Wn.no rfl) rfl (R.ld sc4 rfl h6) ?_
    refine LE.p (v := (Value.bool t5)) (Wn.no rfl) rfl (R.move rfl) ?_
    rcases M.ite_use h with ⟨hb7, h⟩ | ⟨hb7, h⟩
    · refine LE.u (Un.no 4 10 false rfl rfl rfl (congrArg Value.bool hb7)) ?_
      refine LE.u (Un.no 4 10 false rfl rfl rfl (congrArg Value.bool hb7)) ?_
      refine LE.p (v := (Value.bool true)) (Wn.no rfl) rfl (R.pickT (congrArg Value.bool hb7) rfl) ?_
      refine LE.nil ?_
      exact ⟨_, h, rfl, rfl, rfl⟩
    · refine LE.p (v := (Value.int .i64 p1)) (Wn.yes 4 10 false rfl rfl rfl (congrArg Value.bool hb7)) rfl (R.move rfl) ?_
      refine LE.p (v := (Value.bool (decide (p1 < (1 : Int))))) (Wn.yes 4 10 false rfl rfl rfl (congrArg Value.bool hb7)) rfl (R.lss rfl rfl) ?_
      refine LE.p (v := (Value.bool (decide (p1 < (1 : Int))))) (Wn.no rfl) rfl (R.pickF (congrArg Value.bool hb7) rfl) ?_
      refine LE.nil ?_
      exact ⟨_, h, rfl, rfl, rfl⟩
  · rintro e8 w9 ⟨x2, h, f10, f11, f12⟩
    subst hJ1
    refine WE.condT rfl (b := x2) f12 ?_ ?_
    · intro hb13
      replace h := M.ite_t h hb13
      refine WE.seq ?_
      refine WE.reg ?_
      refine LE.p (v := (SV.v SV.nil)) (Wn.no rfl) rfl (R.assign rfl) ?_
      refine LE.nil ?_
      refine WE.ret ?_
      exact ⟨_, (Res.tmp rfl Res.nil), _, rfl, h⟩
    · intro hb13
      replace h := M.ite_f h hb13
      refine WE.skip ?_
      refine WE.seq ?_
      refine WE.seq ?_
      refine WE.draw mix ?_
      obtain ⟨w14, hww14, h⟩ := M.drew_use h
      rw [← hww14]
      clear hww14
      refine DE.t 0 (v := (Value.pointer p0)) rfl (by kernel_rfl) (Wn.no rfl) rfl (R.move f10) ?_
      obtain ⟨a15, h16, h⟩ := h
      refine DE.t 1 (v := (Value.pointer (some a15))) rfl (by kernel_rfl) (Wn.no rfl) rfl (R.nilC (congrArg Value.pointer h16)) ?_
      refine DE.t 2 (v := (Value.pointer (some a15))) rfl (by kernel_rfl) (Wn.no rfl) rfl (R.fld (off := 0) fa85_0 rfl) ?_
      refine DE.t 5 (v := (Value.pointer p0)) rfl (by kernel_rfl) (Wn.no rfl) rfl (R.move f10) ?_
      obtain ⟨a17, h18, h⟩ := h
      refine DE.t 6 (v := (Value.pointer (some a17))) rfl (by kernel_rfl) (Wn.no rfl) rfl (R.nilC (congrArg Value.pointer h18)) ?_
      refine DE.t 7 (v := (Value.pointer (some (a17.add 1)))) rfl (by kernel_rfl) (Wn.no rfl) rfl (R.fld (off := 1) fa85_1 rfl) ?_
      refine DE.t 10 (v := (Value.int .i64 p1)) rfl (by kernel_rfl) (Wn.no rfl) rfl (R.move f11) ?_
      obtain ⟨t19, h20, h⟩ := h
      refine DE.hold 3 (fun w => w.cell? a15 = some (SV.v t19)) (v := (SV.v t19)) rfl (by kernel_rfl) (Wn.no rfl) rfl h20 (fun w hs => R.ld sc40 rfl hs) ?_
      refine DE.t 4 (v := (Value.int .i64 (t19.len : Int))) rfl (by kernel_rfl) (Wn.no rfl) rfl (R.len sl40 rfl) ?_
      obtain ⟨t21, h22, h⟩ := h
      refine DE.main 8 (by kernel_rfl) ?_
      refine One.r 8 (v := (Value.int .i64 t21)) rfl (Wn.no rfl) rfl (R.ld sc3 rfl h22) (.inl rfl) ?_
      refine DE.t 9 (v := (Value.int .i64 (IntKind.i64.wrap ((t19.len : Int) - t21)))) rfl (by kernel_rfl) (Wn.no rfl) rfl (R.sub rfl rfl) ?_
      refine DE.t 11 (v := (Value.bool (decide ((IntKind.i64.wrap ((t19.len : Int) - t21)) < p1)))) rfl (by kernel_rfl) (Wn.no rfl) rfl (R.lss rfl rfl) ?_
      refine DE.done (by kernel_rfl) ?_
      refine WE.condT rfl (b := (decide ((IntKind.i64.wrap ((t19.len : Int) - t21)) < p1))) rfl ?_ ?_
      · intro hb23
        replace h := M.ite_t h hb23
        refine WE.seq ?_
        refine WE.reg ?_
        refine LE.p (v := (Value.pointer p0)) (Wn.no rfl) rfl (R.move f10) ?_
        obtain ⟨a24, h25, h⟩ := h
        refine LE.p (v := (Value.pointer (some a24))) (Wn.no rfl) rfl (R.nilC (congrArg Value.pointer h25)) ?_
        refine LE.p (v := (Value.pointer (some (a24.add 2)))) (Wn.no rfl) rfl (R.fld (off := 2) fa85_2 rfl) ?_
        obtain ⟨w26, hww26, h27, h28, h⟩ := M.st_use h
        refine LE.s (Wn.no rfl) rfl (R.st (a := (a24.add 2)) (v := (Value.bool true)) sz4 rfl rfl rfl rfl h27 h28 hww26) ?_
        refine LE.nil ?_
        refine WE.seq ?_
        refine WE.reg ?_
        refine LE.p (v := (SV.v SV.nil)) (Wn.no rfl) rfl (R.assign rfl) ?_
        refine LE.nil ?_
        refine WE.ret ?_
        exact ⟨_, (Res.tmp rfl Res.nil), _, rfl, h⟩
      · intro hb23
        replace h := M.ite_f h hb23
        refine WE.skip ?_
        refine WE.seq ?_
        refine WE.draw mix ?_
        obtain ⟨w29, hww29, h⟩ := M.drew_use h
        rw [← hww29]
        clear hww29
        refine DE.t 1 (v := (Value.pointer p0)) rfl (by kernel_rfl) (Wn.no rfl) rfl (R.move f10) ?_
        obtain ⟨a30, h31, h⟩ := h
        refine DE.t 2 (v := (Value.pointer (some a30))) rfl (by kernel_rfl) (Wn.no rfl) rfl (R.nilC (congrArg Value.pointer h31)) ?_
        refine DE.t 3 (v := (Value.pointer (some a30))) rfl (by kernel_rfl) (Wn.no rfl) rfl (R.fld (off := 0) fa85_0 rfl) ?_
        refine DE.t 5 (v := (Value.pointer p0)) rfl (by kernel_rfl) (Wn.no rfl) rfl (R.move f10) ?_
        obtain ⟨a32, h33, h⟩ := h
        refine DE.t 6 (v := (Value.pointer (some a32))) rfl (by kernel_rfl) (Wn.no rfl) rfl (R.nilC (congrArg Value.pointer h33)) ?_
        refine DE.t 7 (v := (Value.pointer (some (a32.add 1)))) rfl (by kernel_rfl) (Wn.no rfl) rfl (R.fld (off := 1) fa85_1 rfl) ?_
        refine DE.t 9 (v := (Value.pointer p0)) rfl (by kernel_rfl) (Wn.no rfl) rfl (R.move f10) ?_
        obtain ⟨a34, h35, h⟩ := h
        refine DE.t 10 (v := (Value.pointer (some a34))) rfl (by kernel_rfl) (Wn.no rfl) rfl (R.nilC (congrArg Value.pointer h35)) ?_
        refine DE.t 11 (v := (Value.pointer (some (a34.add 1)))) rfl (by kernel_rfl) (Wn.no rfl) rfl (R.fld (off := 1) fa85_1 rfl) ?_
        refine DE.t 13 (v := (Value.int .i64 p1)) rfl (by kernel_rfl) (Wn.no rfl) rfl (R.move f11) ?_
        obtain ⟨t36, h37, h⟩ := h
        refine DE.hold 4 (fun w => w.cell? a30 = some (SV.v t36)) (v := (SV.v t36)) rfl (by kernel_rfl) (Wn.no rfl) rfl h37 (fun w hs => R.ld sc40 rfl hs) ?_
        obtain ⟨t38, h39, h⟩ := h
        refine DE.hold 8 (fun w => w.cell? (a32.add 1) = some (Value.int .i64 t38)) (v := (Value.int .i64 t38)) rfl (by kernel_rfl) (Wn.no rfl) rfl h39 (fun w hs => R.ld sc3 rfl hs) ?_
        obtain ⟨t40, h41, h⟩ := h
        refine DE.hold 12 (fun w => w.cell? (a34.add 1) = some (Value.int .i64 t40)) (v := (Value.int .i64 t40)) rfl (by kernel_rfl) (Wn.no rfl) rfl h41 (fun w hs => R.ld sc3 rfl hs) ?_
        refine DE.t 14 (v := (Value.int .i64 (IntKind.i64.wrap (t40 + p1)))) rfl (by kernel_rfl) (Wn.no rfl) rfl (R.add rfl rfl) ?_
        obtain ⟨h42, h43, h44, h⟩ := h
        refine DE.t 15 (v := (SV.v (SV.sub t36 (Int.toNat t38) (Int.toNat (IntKind.i64.wrap (t40 + p1))) 1))) rfl (by kernel_rfl) (Wn.no rfl) rfl (R.slc (s := t36) (lo := t38) (hi := (IntKind.i64.wrap (t40 + p1))) _ _ sl40 rfl rfl rfl h42 h43 h44) ?_
        obtain ⟨b48, hpb48, w46, hww46, h⟩ := M.new_use h
        obtain ⟨k49, h⟩ := h
        obtain ⟨k50, h⟩ := h
        obtain ⟨k51, h⟩ := h
        refine DE.main 0 (by kernel_rfl) ?_
        refine One.r 0 (v := (SV.v (SV.mk (some b48) 0 0))) rfl (Wn.no rfl) rfl (R.bsl (by exact Ls.nil) (fun w => bs40_0  w) hpb48 hww46) (.inr ⟨fun _ => k49, fun _ => k50, fun _ => k51, trivial⟩) ?_
        obtain ⟨s52, w53, h54, h⟩ := h
        refine DE.main 16 (by kernel_rfl) ?_
        refine One.r 16 (v := (SV.v s52)) rfl (Wn.no rfl) rfl (R.app (s := (SV.mk (some b48) 0 0)) (r := s52) rfl rfl h54) (.inr ⟨aftT (by kernel_rfl), aftT (by kernel_rfl), aftT (by kernel_rfl), trivial⟩) ?_
        refine DE.t 17 (v := (SV.v s52)) rfl (by kernel_rfl) (Wn.no rfl) rfl (R.assign rfl) ?_
        refine DE.done (by kernel_rfl) ?_
        refine WE.seq ?_
        refine WE.reg ?_
        refine LE.p (v := (Value.pointer p0)) (Wn.no rfl) rfl (R.move f10) ?_
        refine LE.p (v := (Value.pointer p0)) (Wn.no rfl) rfl (R.move f10) ?_
        obtain ⟨a55, h56, h⟩ := h
        refine LE.p (v := (Value.pointer (some a55))) (Wn.no rfl) rfl (R.nilC (congrArg Value.pointer h56)) ?_
        refine LE.p (v := (Value.pointer (some (a55.add 1)))) (Wn.no rfl) rfl (R.fld (off := 1) fa85_1 rfl) ?_
        obtain ⟨t57, h58, h⟩ := h
        refine LE.r (v := (Value.int .i64 t57)) (Wn.no rfl) rfl (R.ld sc3 rfl h58) ?_
        refine LE.p (v := (Value.int .i64 p1)) (Wn.no rfl) rfl (R.move f11) ?_
        refine LE.p (v := (Value.int .i64 (IntKind.i64.wrap (t57 + p1)))) (Wn.no rfl) rfl (R.add rfl rfl) ?_
        obtain ⟨a59, h60, h⟩ := h
        refine LE.p (v := (Value.pointer (some a59))) (Wn.no rfl) rfl (R.nilC (congrArg Value.pointer h60)) ?_
        refine LE.p (v := (Value.pointer (some (a59.add 1)))) (Wn.no rfl) rfl (R.fld (off := 1) fa85_1 rfl) ?_
        obtain ⟨w61, hww61, h62, h63, h⟩ := M.st_use h
        refine LE.s (Wn.no rfl) rfl (R.st (a := (a59.add 1)) (v := (Value.int .i64 (IntKind.i64.wrap (t57 + p1)))) sz3 rfl rfl rfl rfl h62 h63 hww61) ?_
        refine LE.nil ?_
        refine WE.seq ?_
        refine WE.reg ?_
        refine LE.p (v := (SV.v s52)) (Wn.no rfl) rfl (R.move rfl) ?_
        refine LE.p (v := (SV.v s52)) (Wn.no rfl) rfl (R.assign rfl) ?_
        refine LE.nil ?_
        refine WE.ret ?_
        exact ⟨_, (Res.tmp rfl Res.nil), _, rfl, h⟩
/-- The formula of cmp.isNaN[uint32]. -/
def F76 (p0 : Int) (K : Bool → World → Prop) (w0 : World) : Prop :=
K (p0 != p0) w0
theorem F76_ok {w0 : World} {p0 : Int} {K : Bool → World → Prop} (h : F76 p0 K w0) : Calls Try.prog 76 #[(Value.int .u32 p0)] w0 (R76 K) := by
  refine calls_of_WE (args := [(Value.int .u32 p0)]) (rs := [.tmp 2]) Try.func76 rfl (N := 6) rfl rfl rfl rfl ?_
  refine WE.seq ?_
  refine WE.reg ?_
  refine LE.p (v := (Value.bool false)) (Wn.no rfl) rfl (R.assign rfl) ?_
  refine LE.nil ?_
  refine WE.seq ?_
  refine WE.reg ?_
  refine LE.p (v := (Value.int .u32 p0)) (Wn.no rfl) rfl (R.move rfl) ?_
  refine LE.p (v := (Value.int .u32 p0)) (Wn.no rfl) rfl (R.move rfl) ?_
  refine LE.p (v := (Value.bool (p0 != p0))) (Wn.no rfl) rfl (R.neq rfl rfl) ?_
  refine LE.p (v := (Value.bool (p0 != p0))) (Wn.no rfl) rfl (R.assign rfl) ?_
  refine LE.nil ?_
  refine WE.ret ?_
  exact ⟨_, (Res.tmp rfl Res.nil), _, rfl, h⟩
end Go.Proofs.Ytflffabmfoldeaa
