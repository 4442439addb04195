/-
  Printed by gen.py: the formula of each function, and that it holds of the function.
-/
import Derived.Test.YtfcgkkgdnagmcaaTy
namespace Go.Proofs.Ytfcgkkgdnagmcaa
set_option linter.unusedVariables false
set_option linter.unusedSimpArgs false
open Go.Sp
set_option linter.unusedVariables false
/-- The formula of signpost.signpostbook.Same[signpost.api.Prefix]. -/
def F19 (p0 : SV) (p1 : SV) (K : Bool → World → Prop) (w0 : World) : Prop :=
M.ite ((p0.len : Int) != (p1.len : Int)) (
K false w0) (
M.loop1 (fun (J3 : Int → World → Prop) (x2 : Int) (w4 : World) => 
M.ite (decide (x2 < (p0.len : Int))) (
M.drew w4 fun w15 => 
M.idx p0 x2 2 fun a16 =>
M.idx p1 x2 2 fun a20 =>
M.ld (Value.int .u32) (a16.add (x2.toNat * 2)) w15 fun t24 =>
M.ld (Value.int .i64) ((a16.add (x2.toNat * 2)).add 1) w15 fun t26 =>
M.ld (Value.int .u32) (a20.add (x2.toNat * 2)) w15 fun t28 =>
M.ld (Value.int .i64) ((a20.add (x2.toNat * 2)).add 1) w15 fun t30 =>
M.ite (!((t24 == t28) && (t26 == t30))) (
K false w15) (
J3 (IntKind.i64.wrap (x2 + (1 : Int))) w15)) (
K true w4)) (0 : Int) w0)
theorem F19_ok {w0 : World} {p0 : SV} {p1 : SV} {K : Bool → World → Prop} (h : F19 p0 p1 K w0) : Calls Try.prog 19 #[(SV.v p0), (SV.v p1)] w0 (R19 K) := by
  refine calls_of_WE (args := [(SV.v p0), (SV.v p1)]) (rs := [.tmp 4]) Try.func19 rfl (N := 26) rfl rfl rfl rfl ?_
  refine WE.seq ?_
  refine WE.reg ?_
  refine LE.p (v := (Value.bool false)) (Wn.no rfl) rfl (R.assign rfl) ?_
  refine LE.nil ?_
  refine WE.seq ?_
  refine WE.seq ?_
  refine WE.reg ?_
  refine LE.p (v := (SV.v p0)) (Wn.no rfl) rfl (R.move rfl) ?_
  refine LE.p (v := (Value.int .i64 (p0.len : Int))) (Wn.no rfl) rfl (R.len sl27 rfl) ?_
  refine LE.p (v := (SV.v p1)) (Wn.no rfl) rfl (R.move rfl) ?_
  refine LE.p (v := (Value.int .i64 (p1.len : Int))) (Wn.no rfl) rfl (R.len sl27 rfl) ?_
  refine LE.p (v := (Value.bool ((p0.len : Int) != (p1.len : Int)))) (Wn.no rfl) rfl (R.neq rfl rfl) ?_
  refine LE.nil ?_
  refine WE.condT rfl (b := ((p0.len : Int) != (p1.len : Int))) rfl ?_ ?_
  · intro hb1
    replace h := M.ite_t h hb1
    refine WE.seq ?_
    refine WE.reg ?_
    refine LE.p (v := (Value.bool false)) (Wn.no rfl) rfl (R.assign rfl) ?_
    refine LE.nil ?_
    refine WE.ret ?_
    exact ⟨_, (Res.tmp rfl Res.nil), _, rfl, h⟩
  · intro hb1
    replace h := M.ite_f h hb1
    refine WE.skip ?_
    refine WE.seq ?_
    refine WE.seq ?_
    refine WE.reg ?_
    refine LE.p (v := (Value.int .i64 (0 : Int))) (Wn.no rfl) rfl (R.assign rfl) ?_
    refine LE.nil ?_
    refine WE.block ?_
    obtain ⟨I7, ⟨n6, h⟩, hr8⟩ := h
    refine WE.loop (fun n e w => ∃ (x2 : Int), I7 n x2 w ∧ e 0 = (SV.v p0) ∧ e 1 = (SV.v p1) ∧ e 5 = (Value.int .i64 x2)) n6 ⟨_, h, rfl, rfl, rfl⟩ ?_
    clear h
    rintro n6 e5 w4 ⟨x2, h, f11, f12, f13⟩
    replace h := hr8 n6 x2 w4 h
    refine WE.seq ?_
    refine WE.seq ?_
    refine WE.reg ?_
    refine LE.p (v := (Value.int .i64 x2)) (Wn.no rfl) rfl (R.move f13) ?_
    refine LE.p (v := (SV.v p0)) (Wn.no rfl) rfl (R.move f11) ?_
    refine LE.p (v := (Value.int .i64 (p0.len : Int))) (Wn.no rfl) rfl (R.len sl27 rfl) ?_
    refine LE.p (v := (Value.bool (decide (x2 < (p0.len : Int))))) (Wn.no rfl) rfl (R.lss rfl rfl) ?_
    refine LE.nil ?_
    refine WE.condT rfl (b := (decide (x2 < (p0.len : Int)))) rfl ?_ ?_
    · intro hb14
      replace h := M.ite_t h hb14
      refine WE.skip ?_
      refine WE.seq ?_
      refine WE.block ?_
      refine WE.seq ?_
      refine WE.draw mix ?_
      obtain ⟨w15, hww15, h⟩ := M.drew_use h
      rw [← hww15]
      clear hww15
      refine DE.t 0 (v := (SV.v p0)) rfl (by kernel_rfl) (Wn.no rfl) rfl (R.move f11) ?_
      refine DE.t 1 (v := (Value.int .i64 x2)) rfl (by kernel_rfl) (Wn.no rfl) rfl (R.move f13) ?_
      obtain ⟨a16, h17, h18, h19, h⟩ := h
      refine DE.t 2 (v := (Value.pointer (some (a16.add (x2.toNat * 2))))) rfl (by kernel_rfl) (Wn.no rfl) rfl (R.idx (s := p0) sl27 rfl rfl h17 h18 h19) ?_
      refine DE.t 4 (v := (SV.v p1)) rfl (by kernel_rfl) (Wn.no rfl) rfl (R.move f12) ?_
      refine DE.t 5 (v := (Value.int .i64 x2)) rfl (by kernel_rfl) (Wn.no rfl) rfl (R.move f13) ?_
      obtain ⟨a20, h21, h22, h23, h⟩ := h
      refine DE.t 6 (v := (Value.pointer (some (a20.add (x2.toNat * 2))))) rfl (by kernel_rfl) (Wn.no rfl) rfl (R.idx (s := p1) sl27 rfl rfl h21 h22 h23) ?_
      obtain ⟨t24, h25, h⟩ := h
      obtain ⟨t26, h27, h⟩ := h
      refine DE.hold 3 (fun w => w.cell? (a16.add (x2.toNat * 2)) = some (Value.int .u32 t24) ∧ w.cell? ((a16.add (x2.toNat * 2)).add 1) = some (Value.int .i64 t26)) (v := (Value.agg #[(Value.int .u32 t24), (Value.int .i64 t26)])) rfl (by kernel_rfl) (Wn.no rfl) rfl ⟨h25, h27⟩ (fun w hs => R.ldA ag24 sz24 rfl rfl (Cs.cons hs.1 (Cs.cons hs.2 Cs.nil))) ?_
      obtain ⟨t28, h29, h⟩ := h
      obtain ⟨t30, h31, h⟩ := h
      refine DE.main 7 (by kernel_rfl) ?_
      refine One.r 7 (v := (Value.agg #[(Value.int .u32 t28), (Value.int .i64 t30)])) rfl (Wn.no rfl) rfl (R.ldA ag24 sz24 rfl rfl (Cs.cons h29 (Cs.cons h31 Cs.nil))) (.inl rfl) ?_
      refine DE.t 8 (v := (Value.bool (!((t24 == t28) && (t26 == t30))))) rfl (by kernel_rfl) (Wn.no rfl) rfl (R.neS (fun w => eq24 t24 t28 t26 t30 w) sg24 rfl rfl) ?_
      refine DE.done (by kernel_rfl) ?_
      refine WE.condT rfl (b := (!((t24 == t28) && (t26 == t30)))) rfl ?_ ?_
      · intro hb32
        replace h := M.ite_t h hb32
        refine WE.seq ?_
        refine WE.reg ?_
        refine LE.p (v := (Value.bool false)) (Wn.no rfl) rfl (R.assign rfl) ?_
        refine LE.nil ?_
        refine WE.ret ?_
        exact ⟨_, (Res.tmp rfl Res.nil), _, rfl, h⟩
      · intro hb32
        replace h := M.ite_f h hb32
        refine WE.skip ?_
        refine WE.reg ?_
        refine LE.p (v := (Value.int .i64 x2)) (Wn.no rfl) rfl (R.move f13) ?_
        refine LE.p (v := (Value.int .i64 (IntKind.i64.wrap (x2 + (1 : Int))))) (Wn.no rfl) rfl (R.add rfl rfl) ?_
        refine LE.p (v := (Value.int .i64 (IntKind.i64.wrap (x2 + (1 : Int))))) (Wn.no rfl) rfl (R.assign rfl) ?_
        refine LE.nil ?_
        obtain ⟨m9, hm10, h⟩ := h
        exact ⟨m9, hm10, _, h, f11, f12, rfl⟩
    · intro hb14
      replace h := M.ite_f h hb14
      refine WE.exit ?_
      refine WE.seq ?_
      refine WE.reg ?_
      refine LE.p (v := (Value.bool true)) (Wn.no rfl) rfl (R.assign rfl) ?_
      refine LE.nil ?_
      refine WE.ret ?_
      exact ⟨_, (Res.tmp rfl Res.nil), _, rfl, h⟩
/-- The formula of signpost.signpostkeep.Any. -/
def F20 (p0 : Int) (p1 : Int) (K : Int → Int → World → Prop) (w0 : World) : Prop :=
M.new (.cells #[(Value.int .u32 (0 : Int)), (Value.int .i64 (0 : Int))] 24) w0 fun b2 w1 =>
Calls Try.prog 15 #[(Value.int .i64 p1), (Value.int .i64 (0 : Int)), (Value.int .i64 (32 : Int))] w1 (R15 fun r3 w4 =>
Calls Try.prog 7 #[(Value.int .u32 p0), (Value.int .i64 r3)] w4 (R7 fun r5 r6 w7 =>
M.stA b2 [(Value.int .u32 r5), (Value.int .i64 r6)] w7 fun w8 =>
M.ld (Value.int .u32) b2 w8 fun t10 =>
M.ld (Value.int .i64) (b2.add 1) w8 fun t12 =>
K t10 t12 w8))
theorem F20_ok {w0 : World} {p0 : Int} {p1 : Int} {K : Int → Int → World → Prop} (h : F20 p0 p1 K w0) : Calls Try.prog 20 #[(Value.int .u32 p0), (Value.int .i64 p1)] w0 (R20 K) := by
  refine calls_of_WE (args := [(Value.int .u32 p0), (Value.int .i64 p1)]) (rs := [.cell 4 24]) Try.func20 rfl (N := 9) rfl rfl rfl rfl ?_
  refine WE.seq ?_
  refine WE.reg ?_
  obtain ⟨b2, hpb2, w1, hww1, h⟩ := M.new_use h
  refine LE.r (v := (Value.pointer (some b2))) (Wn.no rfl) rfl (R.alloc (cs := #[(Value.int .u32 (0 : Int)), (Value.int .i64 (0 : Int))]) ze24 rfl hpb2 hww1) ?_
  refine LE.nil ?_
  refine WE.seq ?_
  refine WE.reg ?_
  refine LE.p (v := (Value.int .u32 p0)) (Wn.no rfl) rfl (R.move rfl) ?_
  refine LE.p (v := (Value.int .i64 p1)) (Wn.no rfl) rfl (R.move rfl) ?_
  refine LE.c (Wn.no rfl) rfl (R.call bd15 (Ls.cons rfl (Ls.cons rfl (Ls.cons rfl Ls.nil))) rfl) (Calls.mono h ?_)
  rintro _ w4 ⟨r3, rfl, h⟩
  refine ⟨_, rfl, ?_⟩
  refine LE.c (Wn.no rfl) rfl (R.call bd7 (Ls.cons rfl (Ls.cons rfl Ls.nil)) rfl) (Calls.mono h ?_)
  rintro _ w7 ⟨r5, r6, rfl, h⟩
  refine ⟨_, rfl, ?_⟩
  obtain ⟨w8, hww8, h9, h⟩ := M.stA_use h
  refine LE.s (Wn.no rfl) rfl (R.stA (a := b2) [(Value.int .u32 r5), (Value.int .i64 r6)] sz24 rfl rfl rfl (by simp [Value.oneCell']) h9 hww8) ?_
  refine LE.nil ?_
  refine WE.ret ?_
  obtain ⟨t10, h11, h⟩ := h
  obtain ⟨t12, h13, h⟩ := h
  exact ⟨_, (Res.cell rfl (R.ldCellA ag24 sz24 rfl (Cs.cons h11 (Cs.cons h13 Cs.nil))) Res.nil), _, _, rfl, h⟩
/-- The formula of signpost.signpostref1.Mask. -/
def F21 (p0 : Int) (K : Int → World → Prop) (w0 : World) : Prop :=
M.loop2 (fun (J3 : Int → Int → World → Prop) (x1 : Int) (x2 : Int) (w4 : World) => 
M.join (fun (x15 : Bool) (w18 : World) => 
M.ite x15 (
M.sh (IntKind.u64.wrap (IntKind.i64.wrap ((31 : Int) - x2))) <|
J3 (bOr .u32 x1 (bShl .u32 (1 : Int) (IntKind.u64.wrap (IntKind.i64.wrap ((31 : Int) - x2))))) (IntKind.i64.wrap (x2 + (1 : Int))) w18) (
K x1 w18)) fun J14 => 
M.ite (decide (x2 < p0)) (
J14 (decide (x2 < (32 : Int))) w4) (
J14 false w4)) (0 : Int) (0 : Int) w0
theorem F21_ok {w0 : World} {p0 : Int} {K : Int → World → Prop} (h : F21 p0 K w0) : Calls Try.prog 21 #[(Value.int .i64 p0)] w0 (R21 K) := by
  refine calls_of_WE (args := [(Value.int .i64 p0)]) (rs := [.tmp 2]) Try.func21 rfl (N := 21) rfl rfl rfl rfl ?_
  refine WE.seq ?_
  refine WE.reg ?_
  refine LE.p (v := (Value.int .u32 (0 : Int))) (Wn.no rfl) rfl (R.assign rfl) ?_
  refine LE.nil ?_
  refine WE.seq ?_
  refine WE.reg ?_
  refine LE.p (v := (Value.int .u32 (0 : Int))) (Wn.no rfl) rfl (R.assign rfl) ?_
  refine LE.nil ?_
  refine WE.seq ?_
  refine WE.seq ?_
  refine WE.reg ?_
  refine LE.p (v := (Value.int .i64 (0 : Int))) (Wn.no rfl) rfl (R.assign rfl) ?_
  refine LE.nil ?_
  refine WE.block ?_
  obtain ⟨I7, ⟨n6, h⟩, hr8⟩ := h
  refine WE.loop (fun n e w => ∃ (x1 : Int) (x2 : Int), I7 n x1 x2 w ∧ e 0 = (Value.int .i64 p0) ∧ e 3 = (Value.int .u32 x1) ∧ e 4 = (Value.int .i64 x2)) n6 ⟨_, _, h, rfl, rfl, rfl⟩ ?_
  clear h
  rintro n6 e5 w4 ⟨x1, x2, h, f11, f12, f13⟩
  replace h := hr8 n6 x1 x2 w4 h
  refine WE.seq ?_
  refine WE.seq ?_
  obtain ⟨J14, hJ14, h⟩ := M.join_use h
  refine WE.regJ (fun e w => ∃ (x15 : Bool), J14 x15 w ∧ e 0 = (Value.int .i64 p0) ∧ e 3 = (Value.int .u32 x1) ∧ e 4 = (Value.int .i64 x2) ∧ e 11 = (Value.bool x15)) ?_ ?_
  · clear hJ14
    refine LE.p (v := (Value.int .i64 x2)) (Wn.no rfl) rfl (R.move f13) ?_
    refine LE.p (v := (Value.int .i64 p0)) (Wn.no rfl) rfl (R.move f11) ?_
    refine LE.p (v := (Value.bool (decide (x2 < p0)))) (Wn.no rfl) rfl (R.lss rfl rfl) ?_
    refine LE.p (v := (Value.bool (decide (x2 < p0)))) (Wn.no rfl) rfl (R.move rfl) ?_
    rcases M.ite_use h with ⟨hb16, h⟩ | ⟨hb16, h⟩
    · refine LE.p (v := (Value.int .i64 x2)) (Wn.yes 3 8 true rfl rfl rfl (congrArg Value.bool hb16)) rfl (R.move f13) ?_
      refine LE.p (v := (Value.bool (decide (x2 < (32 : Int))))) (Wn.yes 3 8 true rfl rfl rfl (congrArg Value.bool hb16)) rfl (R.lss rfl rfl) ?_
      refine LE.p (v := (Value.bool (decide (x2 < (32 : Int))))) (Wn.no rfl) rfl (R.pickT (congrArg Value.bool hb16) rfl) ?_
      refine LE.nil ?_
      exact ⟨_, h, f11, f12, f13, rfl⟩
    · refine LE.u (Un.no 3 8 true rfl rfl rfl (congrArg Value.bool hb16)) ?_
      refine LE.u (Un.no 3 8 true rfl rfl rfl (congrArg Value.bool hb16)) ?_
      refine LE.p (v := (Value.bool false)) (Wn.no rfl) rfl (R.pickF (congrArg Value.bool hb16) rfl) ?_
      refine LE.nil ?_
      exact ⟨_, h, f11, f12, f13, rfl⟩
  · rintro e17 w18 ⟨x15, h, f19, f20, f21, f22⟩
    subst hJ14
    refine WE.condT rfl (b := x15) f22 ?_ ?_
    · intro hb23
      replace h := M.ite_t h hb23
      refine WE.skip ?_
      refine WE.seq ?_
      refine WE.block ?_
      refine WE.reg ?_
      refine LE.p (v := (Value.int .u32 x1)) (Wn.no rfl) rfl (R.move f20) ?_
      refine LE.p (v := (Value.int .i64 x2)) (Wn.no rfl) rfl (R.move f21) ?_
      refine LE.p (v := (Value.int .i64 (IntKind.i64.wrap ((31 : Int) - x2)))) (Wn.no rfl) rfl (R.sub rfl rfl) ?_
      refine LE.p (v := (Value.int .u64 (IntKind.u64.wrap (IntKind.i64.wrap ((31 : Int) - x2))))) (Wn.no rfl) rfl (R.conv in48 in3 rfl) ?_
      obtain ⟨h24, h⟩ := h
      refine LE.p (v := (Value.int .u32 (bShl .u32 (1 : Int) (IntKind.u64.wrap (IntKind.i64.wrap ((31 : Int) - x2)))))) (Wn.no rfl) rfl (R.shl rfl rfl h24) ?_
      refine LE.p (v := (Value.int .u32 (bOr .u32 x1 (bShl .u32 (1 : Int) (IntKind.u64.wrap (IntKind.i64.wrap ((31 : Int) - x2))))))) (Wn.no rfl) rfl (R.or rfl rfl) ?_
      refine LE.p (v := (Value.int .u32 (bOr .u32 x1 (bShl .u32 (1 : Int) (IntKind.u64.wrap (IntKind.i64.wrap ((31 : Int) - x2))))))) (Wn.no rfl) rfl (R.assign rfl) ?_
      refine LE.nil ?_
      refine WE.reg ?_
      refine LE.p (v := (Value.int .i64 x2)) (Wn.no rfl) rfl (R.move f21) ?_
      refine LE.p (v := (Value.int .i64 (IntKind.i64.wrap (x2 + (1 : Int))))) (Wn.no rfl) rfl (R.add rfl rfl) ?_
      refine LE.p (v := (Value.int .i64 (IntKind.i64.wrap (x2 + (1 : Int))))) (Wn.no rfl) rfl (R.assign rfl) ?_
      refine LE.nil ?_
      obtain ⟨m9, hm10, h⟩ := h
      exact ⟨m9, hm10, _, _, h, f19, rfl, rfl⟩
    · intro hb23
      replace h := M.ite_f h hb23
      refine WE.exit ?_
      refine WE.seq ?_
      refine WE.reg ?_
      refine LE.p (v := (Value.int .u32 x1)) (Wn.no rfl) rfl (R.move f20) ?_
      refine LE.p (v := (Value.int .u32 x1)) (Wn.no rfl) rfl (R.assign rfl) ?_
      refine LE.nil ?_
      refine WE.ret ?_
      exact ⟨_, (Res.tmp rfl Res.nil), _, rfl, h⟩
/-- The formula of signpost.signpostref8.Size. -/
def F22 (p0_0 : Int) (p0_1 : Int) (K : Int → World → Prop) (w0 : World) : Prop :=
M.new (.cells #[(Value.int .u32 p0_0), (Value.int .i64 p0_1)] 24) w0 fun b2 w1 =>
M.ld (Value.int .u32) b2 w1 fun t3 =>
M.ld (Value.int .i64) (b2.add 1) w1 fun t5 =>
Calls Try.prog 24 #[(Value.agg #[(Value.int .u32 t3), (Value.int .i64 t5)])] w1 (R24 fun r7 w8 =>
M.ite (!r7) (
K (0 : Int) w8) (
M.ld (Value.int .i64) (b2.add 1) w8 fun t10 =>
K (IntKind.i64.wrap ((1 : Int) + (IntKind.i64.wrap (Int.tdiv (IntKind.i64.wrap (t10 + (7 : Int))) (8 : Int))))) w8))
theorem F22_ok {w0 : World} {p0_0 : Int} {p0_1 : Int} {K : Int → World → Prop} (h : F22 p0_0 p0_1 K w0) : Calls Try.prog 22 #[(Value.agg #[(Value.int .u32 p0_0), (Value.int .i64 p0_1)])] w0 (R22 K) := by
  refine calls_of_WE (args := [(Value.agg #[(Value.int .u32 p0_0), (Value.int .i64 p0_1)])]) (rs := [.tmp 2]) Try.func22 rfl (N := 11) rfl rfl rfl rfl ?_
  refine WE.seq ?_
  refine WE.reg ?_
  obtain ⟨b2, hpb2, w1, hww1, h⟩ := M.new_use h
  refine LE.r (v := (Value.pointer (some b2))) (Wn.no rfl) rfl (R.box (cs := #[(Value.int .u32 p0_0), (Value.int .i64 p0_1)]) rfl rfl hpb2 hww1) ?_
  refine LE.p (v := (Value.int .i64 (0 : Int))) (Wn.no rfl) rfl (R.assign rfl) ?_
  refine LE.nil ?_
  refine WE.seq ?_
  refine WE.seq ?_
  refine WE.reg ?_
  obtain ⟨t3, h4, h⟩ := h
  obtain ⟨t5, h6, h⟩ := h
  refine LE.r (v := (Value.agg #[(Value.int .u32 t3), (Value.int .i64 t5)])) (Wn.no rfl) rfl (R.ldA ag24 sz24 rfl rfl (Cs.cons h4 (Cs.cons h6 Cs.nil))) ?_
  refine LE.c (Wn.no rfl) rfl (R.call bd24 (Ls.cons rfl Ls.nil) rfl) (Calls.mono h ?_)
  rintro _ w8 ⟨r7, rfl, h⟩
  refine ⟨_, rfl, ?_⟩
  refine LE.p (v := (Value.bool (!r7))) (Wn.no rfl) rfl (R.not rfl) ?_
  refine LE.nil ?_
  refine WE.condT rfl (b := (!r7)) rfl ?_ ?_
  · intro hb9
    replace h := M.ite_t h hb9
    refine WE.seq ?_
    refine WE.reg ?_
    refine LE.p (v := (Value.int .i64 (0 : Int))) (Wn.no rfl) rfl (R.assign rfl) ?_
    refine LE.nil ?_
    refine WE.ret ?_
    exact ⟨_, (Res.tmp rfl Res.nil), _, rfl, h⟩
  · intro hb9
    replace h := M.ite_f h hb9
    refine WE.skip ?_
    refine WE.seq ?_
    refine WE.reg ?_
    refine LE.p (v := (Value.pointer (some (b2.add 1)))) (Wn.no rfl) rfl (R.fld (off := 1) fa24_1 rfl) ?_
    obtain ⟨t10, h11, h⟩ := h
    refine LE.r (v := (Value.int .i64 t10)) (Wn.no rfl) rfl (R.ld sc3 rfl h11) ?_
    refine LE.p (v := (Value.int .i64 (IntKind.i64.wrap (t10 + (7 : Int))))) (Wn.no rfl) rfl (R.add rfl rfl) ?_
    refine LE.p (v := (Value.int .i64 (IntKind.i64.wrap (Int.tdiv (IntKind.i64.wrap (t10 + (7 : Int))) (8 : Int))))) (Wn.no rfl) rfl (R.quo rfl rfl (by decide)) ?_
    refine LE.p (v := (Value.int .i64 (IntKind.i64.wrap ((1 : Int) + (IntKind.i64.wrap (Int.tdiv (IntKind.i64.wrap (t10 + (7 : Int))) (8 : Int))))))) (Wn.no rfl) rfl (R.add rfl rfl) ?_
    refine LE.p (v := (Value.int .i64 (IntKind.i64.wrap ((1 : Int) + (IntKind.i64.wrap (Int.tdiv (IntKind.i64.wrap (t10 + (7 : Int))) (8 : Int))))))) (Wn.no rfl) rfl (R.assign rfl) ?_
    refine LE.nil ?_
    refine WE.ret ?_
    exact ⟨_, (Res.tmp rfl Res.nil), _, rfl, h⟩
/-- The formula of signpost.signpostref8.Decode. -/
def F23 (p0 : SV) (K : SV → Bool → World → Prop) (w0 : World) : Prop :=
M.new (.cells #[(SV.v p0), (Value.int .i64 (0 : Int)), (Value.bool false)] 63) w0 fun b2 w1 =>
M.loop1 (fun (J4 : SV → World → Prop) (x3 : SV) (w5 : World) => 
Calls Try.prog 36 #[(Value.pointer (some b2))] w5 (R36 fun r14 w15 =>
M.ite (decide ((0 : Int) < r14)) (
Calls Try.prog 37 #[(Value.pointer (some b2))] w15 (R37 fun r17 w18 =>
M.ite (decide ((32 : Int) < r17)) (
K SV.nil false w18) (
Calls Try.prog 38 #[(Value.pointer (some b2)), (Value.int .i64 (IntKind.i64.wrap (Int.tdiv (IntKind.i64.wrap (r17 + (7 : Int))) (8 : Int))))] w18 (R38 fun r20 w21 =>
M.ld Value.bool (b2.add 2) w21 fun t22 =>
M.ite t22 (
K SV.nil false w21) (
M.new (.cells #[(Value.int .u8 (0 : Int)), (Value.int .u8 (0 : Int)), (Value.int .u8 (0 : Int)), (Value.int .u8 (0 : Int))] 5) w21 fun b27 w25 =>
M.app Try.prog 28 28 28 r20 (SV.v (SV.mk (some b27) 4 4)) w25 fun s28 w29 =>
M.new (.cells #[(SV.v s28), (Value.int .i64 (0 : Int)), (Value.bool false)] 63) w29 fun b32 w31 =>
Calls Try.prog 39 #[(Value.pointer (some b32))] w31 (R39 fun r33 w34 =>
Calls Try.prog 7 #[(Value.int .u32 r33), (Value.int .i64 r17)] w34 (R7 fun r35 r36 w37 =>
M.new (.cells #[(Value.int .u32 r35), (Value.int .i64 r36)] 24) w37 fun b40 w38 =>
M.app Try.prog 27 27 27 x3 (SV.v (SV.mk (some b40) 1 1)) w38 fun s41 w42 =>
J4 s41 w42))))))) (
K x3 true w15))) SV.nil w1
theorem F23_ok {w0 : World} {p0 : SV} {K : SV → Bool → World → Prop} (h : F23 p0 K w0) : Calls Try.prog 23 #[(SV.v p0)] w0 (R23 K) := by
  refine calls_of_WE (args := [(SV.v p0)]) (rs := [.tmp 2, .tmp 3]) Try.func23 rfl (N := 41) rfl rfl rfl rfl ?_
  refine WE.seq ?_
  refine WE.reg ?_
  refine LE.p (v := (SV.v SV.nil)) (Wn.no rfl) rfl (R.assign rfl) ?_
  refine LE.p (v := (Value.bool false)) (Wn.no rfl) rfl (R.assign rfl) ?_
  refine LE.nil ?_
  refine WE.seq ?_
  refine WE.reg ?_
  refine LE.p (v := (SV.v p0)) (Wn.no rfl) rfl (R.move rfl) ?_
  refine LE.p (v := (Value.agg #[(SV.v p0), (Value.int .i64 (0 : Int)), (Value.bool false)])) (Wn.no rfl) rfl (R.bld (by exact (Ls.cons (R.Pr rfl) Ls.nil)) (fun w => bu63_0 p0 w)) ?_
  obtain ⟨b2, hpb2, w1, hww1, h⟩ := M.new_use h
  refine LE.r (v := (Value.pointer (some b2))) (Wn.no rfl) rfl (R.box (cs := #[(SV.v p0), (Value.int .i64 (0 : Int)), (Value.bool false)]) rfl rfl hpb2 hww1) ?_
  refine LE.p (v := (Value.pointer (some b2))) (Wn.no rfl) rfl (R.assign rfl) ?_
  refine LE.nil ?_
  refine WE.seq ?_
  refine WE.reg ?_
  refine LE.p (v := (SV.v SV.nil)) (Wn.no rfl) rfl (R.assign rfl) ?_
  refine LE.nil ?_
  refine WE.seq ?_
  refine WE.block ?_
  obtain ⟨I8, ⟨n7, h⟩, hr9⟩ := h
  refine WE.loop (fun n e w => ∃ (x3 : SV), I8 n x3 w ∧ e 4 = (Value.pointer (some b2)) ∧ e 5 = (SV.v x3)) n7 ⟨_, h, rfl, rfl⟩ ?_
  clear h
  rintro n7 e6 w5 ⟨x3, h, f12, f13⟩
  replace h := hr9 n7 x3 w5 h
  refine WE.seq ?_
  refine WE.seq ?_
  refine WE.reg ?_
  refine LE.p (v := (Value.pointer (some b2))) (Wn.no rfl) rfl (R.move f12) ?_
  refine LE.c (Wn.no rfl) rfl (R.call bd36 (Ls.cons rfl Ls.nil) rfl) (Calls.mono h ?_)
  rintro _ w15 ⟨r14, rfl, h⟩
  refine ⟨_, rfl, ?_⟩
  refine LE.p (v := (Value.bool (decide ((0 : Int) < r14)))) (Wn.no rfl) rfl (R.gtr rfl rfl) ?_
  refine LE.nil ?_
  refine WE.condT rfl (b := (decide ((0 : Int) < r14))) rfl ?_ ?_
  · intro hb16
    replace h := M.ite_t h hb16
    refine WE.skip ?_
    refine WE.block ?_
    refine WE.seq ?_
    refine WE.reg ?_
    refine LE.p (v := (Value.pointer (some b2))) (Wn.no rfl) rfl (R.move f12) ?_
    refine LE.c (Wn.no rfl) rfl (R.call bd37 (Ls.cons rfl Ls.nil) rfl) (Calls.mono h ?_)
    rintro _ w18 ⟨r17, rfl, h⟩
    refine ⟨_, rfl, ?_⟩
    refine LE.p (v := (Value.int .i64 r17)) (Wn.no rfl) rfl (R.assign rfl) ?_
    refine LE.nil ?_
    refine WE.seq ?_
    refine WE.seq ?_
    refine WE.reg ?_
    refine LE.p (v := (Value.int .i64 r17)) (Wn.no rfl) rfl (R.move rfl) ?_
    refine LE.p (v := (Value.bool (decide ((32 : Int) < r17)))) (Wn.no rfl) rfl (R.gtr rfl rfl) ?_
    refine LE.nil ?_
    refine WE.condT rfl (b := (decide ((32 : Int) < r17))) rfl ?_ ?_
    · intro hb19
      replace h := M.ite_t h hb19
      refine WE.seq ?_
      refine WE.reg ?_
      refine LE.p (v := (SV.v SV.nil)) (Wn.no rfl) rfl (R.assign rfl) ?_
      refine LE.p (v := (Value.bool false)) (Wn.no rfl) rfl (R.assign rfl) ?_
      refine LE.nil ?_
      refine WE.ret ?_
      exact ⟨_, (Res.tmp rfl (Res.tmp rfl Res.nil)), _, _, rfl, h⟩
    · intro hb19
      replace h := M.ite_f h hb19
      refine WE.skip ?_
      refine WE.seq ?_
      refine WE.reg ?_
      refine LE.p (v := (Value.pointer (some b2))) (Wn.no rfl) rfl (R.move f12) ?_
      refine LE.p (v := (Value.int .i64 r17)) (Wn.no rfl) rfl (R.move rfl) ?_
      refine LE.p (v := (Value.int .i64 (IntKind.i64.wrap (r17 + (7 : Int))))) (Wn.no rfl) rfl (R.add rfl rfl) ?_
      refine LE.p (v := (Value.int .i64 (IntKind.i64.wrap (Int.tdiv (IntKind.i64.wrap (r17 + (7 : Int))) (8 : Int))))) (Wn.no rfl) rfl (R.quo rfl rfl (by decide)) ?_
      refine LE.c (Wn.no rfl) rfl (R.call bd38 (Ls.cons rfl (Ls.cons rfl Ls.nil)) rfl) (Calls.mono h ?_)
      rintro _ w21 ⟨r20, rfl, h⟩
      refine ⟨_, rfl, ?_⟩
      refine LE.p (v := (SV.v r20)) (Wn.no rfl) rfl (R.assign rfl) ?_
      refine LE.nil ?_
      refine WE.seq ?_
      refine WE.seq ?_
      refine WE.reg ?_
      refine LE.p (v := (Value.pointer (some b2))) (Wn.no rfl) rfl (R.move f12) ?_
      refine LE.p (v := (Value.pointer (some b2))) (Wn.no rfl) rfl (R.nilC rfl) ?_
      refine LE.p (v := (Value.pointer (some (b2.add 2)))) (Wn.no rfl) rfl (R.fld (off := 2) fa63_2 rfl) ?_
      obtain ⟨t22, h23, h⟩ := h
      refine LE.r (v := (Value.bool t22)) (Wn.no rfl) rfl (R.ld sc4 rfl h23) ?_
      refine LE.nil ?_
      refine WE.condT rfl (b := t22) rfl ?_ ?_
      · intro hb24
        replace h := M.ite_t h hb24
        refine WE.seq ?_
        refine WE.reg ?_
        refine LE.p (v := (SV.v SV.nil)) (Wn.no rfl) rfl (R.assign rfl) ?_
        refine LE.p (v := (Value.bool false)) (Wn.no rfl) rfl (R.assign rfl) ?_
        refine LE.nil ?_
        refine WE.ret ?_
        exact ⟨_, (Res.tmp rfl (Res.tmp rfl Res.nil)), _, _, rfl, h⟩
      · intro hb24
        replace h := M.ite_f h hb24
        refine WE.skip ?_
        refine WE.seq ?_
        refine WE.reg ?_
        refine LE.p (v := (SV.v r20)) (Wn.no rfl) rfl (R.move rfl) ?_
        obtain ⟨b27, hpb27, w25, hww25, h⟩ := M.new_use h
        refine LE.r (v := (SV.v (SV.mk (some b27) 4 4))) (Wn.no rfl) rfl (R.bsl (by exact (Ls.cons (R.Pr rfl) (Ls.cons (R.Pr rfl) (Ls.cons (R.Pr rfl) (Ls.cons (R.Pr rfl) Ls.nil))))) (fun w => bs28_4 (0 : Int) (0 : Int) (0 : Int) (0 : Int) w) hpb27 hww25) ?_
        obtain ⟨s28, w29, h30, h⟩ := h
        refine LE.r (v := (SV.v s28)) (Wn.no rfl) rfl (R.app (s := r20) (r := s28) rfl rfl h30) ?_
        refine LE.p (v := (Value.agg #[(SV.v s28), (Value.int .i64 (0 : Int)), (Value.bool false)])) (Wn.no rfl) rfl (R.bld (by exact (Ls.cons (R.Pr rfl) Ls.nil)) (fun w => bu63_0 s28 w)) ?_
        obtain ⟨b32, hpb32, w31, hww31, h⟩ := M.new_use h
        refine LE.r (v := (Value.pointer (some b32))) (Wn.no rfl) rfl (R.box (cs := #[(SV.v s28), (Value.int .i64 (0 : Int)), (Value.bool false)]) rfl rfl hpb32 hww31) ?_
        refine LE.p (v := (Value.pointer (some b32))) (Wn.no rfl) rfl (R.assign rfl) ?_
        refine LE.nil ?_
        refine WE.reg ?_
        refine LE.p (v := (SV.v x3)) (Wn.no rfl) rfl (R.move f13) ?_
        refine LE.p (v := (Value.pointer (some b32))) (Wn.no rfl) rfl (R.move rfl) ?_
        refine LE.c (Wn.no rfl) rfl (R.call bd39 (Ls.cons rfl Ls.nil) rfl) (Calls.mono h ?_)
        rintro _ w34 ⟨r33, rfl, h⟩
        refine ⟨_, rfl, ?_⟩
        refine LE.p (v := (Value.int .i64 r17)) (Wn.no rfl) rfl (R.move rfl) ?_
        refine LE.c (Wn.no rfl) rfl (R.call bd7 (Ls.cons rfl (Ls.cons rfl Ls.nil)) rfl) (Calls.mono h ?_)
        rintro _ w37 ⟨r35, r36, rfl, h⟩
        refine ⟨_, rfl, ?_⟩
        obtain ⟨b40, hpb40, w38, hww38, h⟩ := M.new_use h
        refine LE.r (v := (SV.v (SV.mk (some b40) 1 1))) (Wn.no rfl) rfl (R.bsl (by exact (Ls.cons (R.Pr rfl) Ls.nil)) (fun w => bs27_1 r35 r36 w) hpb40 hww38) ?_
        obtain ⟨s41, w42, h43, h⟩ := h
        refine LE.r (v := (SV.v s41)) (Wn.no rfl) rfl (R.app (s := x3) (r := s41) rfl rfl h43) ?_
        refine LE.p (v := (SV.v s41)) (Wn.no rfl) rfl (R.assign rfl) ?_
        refine LE.nil ?_
        obtain ⟨m10, hm11, h⟩ := h
        exact ⟨m10, hm11, _, h, f12, rfl⟩
  · intro hb16
    replace h := M.ite_f h hb16
    refine WE.exit ?_
    refine WE.seq ?_
    refine WE.reg ?_
    refine LE.p (v := (SV.v x3)) (Wn.no rfl) rfl (R.move f13) ?_
    refine LE.p (v := (SV.v x3)) (Wn.no rfl) rfl (R.assign rfl) ?_
    refine LE.p (v := (Value.bool true)) (Wn.no rfl) rfl (R.assign rfl) ?_
    refine LE.nil ?_
    refine WE.ret ?_
    exact ⟨_, (Res.tmp rfl (Res.tmp rfl Res.nil)), _, _, rfl, h⟩
/-- The formula of signpost.signpostref1.Right. -/
def F24 (p0_0 : Int) (p0_1 : Int) (K : Bool → World → Prop) (w0 : World) : Prop :=
M.new (.cells #[(Value.int .u32 p0_0), (Value.int .i64 p0_1)] 24) w0 fun b2 w1 =>
M.join (fun (x4 : Bool) (w20 : World) => 
K x4 w20) fun J3 => 
M.drew w1 fun w5 => 
M.ld (Value.int .i64) (b2.add 1) w5 fun t6 =>
M.ite (decide ((0 : Int) ≤ t6)) (
M.ld (Value.int .i64) (b2.add 1) w5 fun t9 =>
M.ite (decide (t9 ≤ (32 : Int))) (
M.ld (Value.int .u32) b2 w5 fun t12 =>
M.ld (Value.int .i64) (b2.add 1) w5 fun t14 =>
Calls Try.prog 21 #[(Value.int .i64 t14)] w5 (R21 fun r16 w17 =>
M.keep (w17.cell? b2 = some (Value.int .u32 t12)) <|
J3 ((bAndNot .u32 t12 r16) == (0 : Int)) w17)) (
J3 false w5)) (
J3 false w5)
theorem F24_ok {w0 : World} {p0_0 : Int} {p0_1 : Int} {K : Bool → World → Prop} (h : F24 p0_0 p0_1 K w0) : Calls Try.prog 24 #[(Value.agg #[(Value.int .u32 p0_0), (Value.int .i64 p0_1)])] w0 (R24 K) := by
  refine calls_of_WE (args := [(Value.agg #[(Value.int .u32 p0_0), (Value.int .i64 p0_1)])]) (rs := [.tmp 2]) Try.func24 rfl (N := 20) rfl rfl rfl rfl ?_
  refine WE.seq ?_
  refine WE.reg ?_
  obtain ⟨b2, hpb2, w1, hww1, h⟩ := M.new_use h
  refine LE.r (v := (Value.pointer (some b2))) (Wn.no rfl) rfl (R.box (cs := #[(Value.int .u32 p0_0), (Value.int .i64 p0_1)]) rfl rfl hpb2 hww1) ?_
  refine LE.p (v := (Value.bool false)) (Wn.no rfl) rfl (R.assign rfl) ?_
  refine LE.nil ?_
  refine WE.seq ?_
  obtain ⟨J3, hJ3, h⟩ := M.join_use h
  refine WE.drawJ (fun e w => ∃ (x4 : Bool), J3 x4 w ∧ e 2 = (Value.bool x4)) mix ?_ ?_
  · clear hJ3
    obtain ⟨w5, hww5, h⟩ := M.drew_use h
    rw [← hww5]
    clear hww5
    refine DE.t 0 (v := (Value.pointer (some (b2.add 1)))) rfl (by kernel_rfl) (Wn.no rfl) rfl (R.fld (off := 1) fa24_1 rfl) ?_
    obtain ⟨t6, h7, h⟩ := h
    refine DE.main 1 (by kernel_rfl) ?_
    refine One.r 1 (v := (Value.int .i64 t6)) rfl (Wn.no rfl) rfl (R.ld sc3 rfl h7) (.inl rfl) ?_
    refine DE.t 2 (v := (Value.bool (decide ((0 : Int) ≤ t6)))) rfl (by kernel_rfl) (Wn.no rfl) rfl (R.geq rfl rfl) ?_
    refine DE.t 3 (v := (Value.bool (decide ((0 : Int) ≤ t6)))) rfl (by kernel_rfl) (Wn.no rfl) rfl (R.move rfl) ?_
    rcases M.ite_use h with ⟨hb8, h⟩ | ⟨hb8, h⟩
    · refine DE.t 4 (v := (Value.pointer (some (b2.add 1)))) rfl (by kernel_rfl) (Wn.yes 3 6 true rfl rfl rfl (congrArg Value.bool hb8)) rfl (R.fld (off := 1) fa24_1 rfl) ?_
      obtain ⟨t9, h10, h⟩ := h
      refine DE.main 5 (by kernel_rfl) ?_
      refine One.r 5 (v := (Value.int .i64 t9)) rfl (Wn.yes 3 6 true rfl rfl rfl (congrArg Value.bool hb8)) rfl (R.ld sc3 rfl h10) (.inl rfl) ?_
      refine DE.t 6 (v := (Value.bool (decide (t9 ≤ (32 : Int))))) rfl (by kernel_rfl) (Wn.yes 3 6 true rfl rfl rfl (congrArg Value.bool hb8)) rfl (R.leq rfl rfl) ?_
      refine DE.t 7 (v := (Value.bool (decide (t9 ≤ (32 : Int))))) rfl (by kernel_rfl) (Wn.no rfl) rfl (R.pickT (congrArg Value.bool hb8) rfl) ?_
      refine DE.t 8 (v := (Value.bool (decide (t9 ≤ (32 : Int))))) rfl (by kernel_rfl) (Wn.no rfl) rfl (R.move rfl) ?_
      rcases M.ite_use h with ⟨hb11, h⟩ | ⟨hb11, h⟩
      · refine DE.t 9 (v := (Value.pointer (some b2))) rfl (by kernel_rfl) (Wn.yes 8 11 true rfl rfl rfl (congrArg Value.bool hb11)) rfl (R.fld (off := 0) fa24_0 rfl) ?_
        refine DE.t 11 (v := (Value.pointer (some (b2.add 1)))) rfl (by kernel_rfl) (Wn.yes 8 11 true rfl rfl rfl (congrArg Value.bool hb11)) rfl (R.fld (off := 1) fa24_1 rfl) ?_
        obtain ⟨t12, h13, h⟩ := h
        refine DE.hold 10 (fun w => w.cell? b2 = some (Value.int .u32 t12)) (v := (Value.int .u32 t12)) rfl (by kernel_rfl) (Wn.yes 8 11 true rfl rfl rfl (congrArg Value.bool hb11)) rfl h13 (fun w hs => R.ld sc22 rfl hs) ?_
        obtain ⟨t14, h15, h⟩ := h
        refine DE.main 12 (by kernel_rfl) ?_
        refine One.r 12 (v := (Value.int .i64 t14)) rfl (Wn.yes 8 11 true rfl rfl rfl (congrArg Value.bool hb11)) rfl (R.ld sc3 rfl h15) (.inl rfl) ?_
        refine DE.main 13 (by kernel_rfl) ?_
        refine One.c 13 rfl (Wn.yes 8 11 true rfl rfl rfl (congrArg Value.bool hb11)) rfl (R.call bd21 (Ls.cons rfl Ls.nil) rfl) (Calls.mono h ?_)
        rintro _ w17 ⟨r16, rfl, h⟩
        obtain ⟨k18, h⟩ := h
        refine ⟨_, rfl, ⟨fun _ => k18, trivial⟩, ?_⟩
        refine DE.t 14 (v := (Value.int .u32 (bAndNot .u32 t12 r16))) rfl (by kernel_rfl) (Wn.yes 8 11 true rfl rfl rfl (congrArg Value.bool hb11)) rfl (R.andNot rfl rfl) ?_
        refine DE.t 15 (v := (Value.bool ((bAndNot .u32 t12 r16) == (0 : Int)))) rfl (by kernel_rfl) (Wn.yes 8 11 true rfl rfl rfl (congrArg Value.bool hb11)) rfl (R.eql rfl rfl) ?_
        refine DE.t 16 (v := (Value.bool ((bAndNot .u32 t12 r16) == (0 : Int)))) rfl (by kernel_rfl) (Wn.no rfl) rfl (R.pickT (congrArg Value.bool hb11) rfl) ?_
        refine DE.t 17 (v := (Value.bool ((bAndNot .u32 t12 r16) == (0 : Int)))) rfl (by kernel_rfl) (Wn.no rfl) rfl (R.assign rfl) ?_
        refine DE.done (by kernel_rfl) ?_
        exact ⟨_, h, rfl⟩
      · refine DE.u 9 rfl (by kernel_rfl) (Un.no 8 11 true rfl rfl rfl (congrArg Value.bool hb11)) ?_
        refine DE.u 10 rfl (by kernel_rfl) (Un.no 8 11 true rfl rfl rfl (congrArg Value.bool hb11)) ?_
        refine DE.u 11 rfl (by kernel_rfl) (Un.no 8 11 true rfl rfl rfl (congrArg Value.bool hb11)) ?_
        refine DE.u 12 rfl (by kernel_rfl) (Un.no 8 11 true rfl rfl rfl (congrArg Value.bool hb11)) ?_
        refine DE.u 13 rfl (by kernel_rfl) (Un.no 8 11 true rfl rfl rfl (congrArg Value.bool hb11)) ?_
        refine DE.u 14 rfl (by kernel_rfl) (Un.no 8 11 true rfl rfl rfl (congrArg Value.bool hb11)) ?_
        refine DE.u 15 rfl (by kernel_rfl) (Un.no 8 11 true rfl rfl rfl (congrArg Value.bool hb11)) ?_
        refine DE.t 16 (v := (Value.bool false)) rfl (by kernel_rfl) (Wn.no rfl) rfl (R.pickF (congrArg Value.bool hb11) rfl) ?_
        refine DE.t 17 (v := (Value.bool false)) rfl (by kernel_rfl) (Wn.no rfl) rfl (R.assign rfl) ?_
        refine DE.done (by kernel_rfl) ?_
        exact ⟨_, h, rfl⟩
    · refine DE.u 4 rfl (by kernel_rfl) (Un.no 3 6 true rfl rfl rfl (congrArg Value.bool hb8)) ?_
      refine DE.u 5 rfl (by kernel_rfl) (Un.no 3 6 true rfl rfl rfl (congrArg Value.bool hb8)) ?_
      refine DE.u 6 rfl (by kernel_rfl) (Un.no 3 6 true rfl rfl rfl (congrArg Value.bool hb8)) ?_
      refine DE.t 7 (v := (Value.bool false)) rfl (by kernel_rfl) (Wn.no rfl) rfl (R.pickF (congrArg Value.bool hb8) rfl) ?_
      refine DE.t 8 (v := (Value.bool false)) rfl (by kernel_rfl) (Wn.no rfl) rfl (R.move rfl) ?_
      refine DE.u 9 rfl (by kernel_rfl) (Un.no 8 11 true rfl rfl rfl rfl) ?_
      refine DE.u 10 rfl (by kernel_rfl) (Un.no 8 11 true rfl rfl rfl rfl) ?_
      refine DE.u 11 rfl (by kernel_rfl) (Un.no 8 11 true rfl rfl rfl rfl) ?_
      refine DE.u 12 rfl (by kernel_rfl) (Un.no 8 11 true rfl rfl rfl rfl) ?_
      refine DE.u 13 rfl (by kernel_rfl) (Un.no 8 11 true rfl rfl rfl rfl) ?_
      refine DE.u 14 rfl (by kernel_rfl) (Un.no 8 11 true rfl rfl rfl rfl) ?_
      refine DE.u 15 rfl (by kernel_rfl) (Un.no 8 11 true rfl rfl rfl rfl) ?_
      refine DE.t 16 (v := (Value.bool false)) rfl (by kernel_rfl) (Wn.no rfl) rfl (R.pickF rfl rfl) ?_
      refine DE.t 17 (v := (Value.bool false)) rfl (by kernel_rfl) (Wn.no rfl) rfl (R.assign rfl) ?_
      refine DE.done (by kernel_rfl) ?_
      exact ⟨_, h, rfl⟩
  · rintro e19 w20 ⟨x4, h, f21⟩
    subst hJ3
    refine WE.ret ?_
    exact ⟨_, (Res.tmp f21 Res.nil), _, rfl, h⟩
/-- The formula of signpost.signpostref4.U32. -/
def F25 (p0 : SV) (p1 : Int) (K : SV → World → Prop) (w0 : World) : Prop :=
M.new (.cells #[] 5) w0 fun b3 w1 =>
M.app Try.prog 28 28 28 (SV.mk (some b3) 0 0) (SV.v p0) w1 fun s4 w5 =>
M.new (.cells #[(Value.int .u8 (IntKind.u8.wrap (bShr .u32 p1 (24 : Int)))), (Value.int .u8 (IntKind.u8.wrap (bShr .u32 p1 (16 : Int)))), (Value.int .u8 (IntKind.u8.wrap (bShr .u32 p1 (8 : Int)))), (Value.int .u8 (IntKind.u8.wrap p1))] 5) w5 fun b9 w7 =>
M.app Try.prog 28 28 28 s4 (SV.v (SV.mk (some b9) 4 4)) w7 fun s10 w11 =>
K s10 w11
theorem F25_ok {w0 : World} {p0 : SV} {p1 : Int} {K : SV → World → Prop} (h : F25 p0 p1 K w0) : Calls Try.prog 25 #[(SV.v p0), (Value.int .u32 p1)] w0 (R25 K) := by
  refine calls_of_WE (args := [(SV.v p0), (Value.int .u32 p1)]) (rs := [.tmp 4]) Try.func25 rfl (N := 21) rfl rfl rfl rfl ?_
  refine WE.seq ?_
  refine WE.reg ?_
  refine LE.p (v := (SV.v SV.nil)) (Wn.no rfl) rfl (R.assign rfl) ?_
  refine LE.nil ?_
  refine WE.seq ?_
  refine WE.reg ?_
  obtain ⟨b3, hpb3, w1, hww1, h⟩ := M.new_use h
  refine LE.r (v := (SV.v (SV.mk (some b3) 0 0))) (Wn.no rfl) rfl (R.bsl (by exact Ls.nil) (fun w => bs28_0  w) hpb3 hww1) ?_
  refine LE.p (v := (SV.v p0)) (Wn.no rfl) rfl (R.move rfl) ?_
  obtain ⟨s4, w5, h6, h⟩ := h
  refine LE.r (v := (SV.v s4)) (Wn.no rfl) rfl (R.app (s := (SV.mk (some b3) 0 0)) (r := s4) rfl rfl h6) ?_
  refine LE.p (v := (Value.int .u32 p1)) (Wn.no rfl) rfl (R.move rfl) ?_
  refine LE.p (v := (Value.int .u32 (bShr .u32 p1 (24 : Int)))) (Wn.no rfl) rfl (R.shr rfl rfl (by decide)) ?_
  refine LE.p (v := (Value.int .u8 (IntKind.u8.wrap (bShr .u32 p1 (24 : Int))))) (Wn.no rfl) rfl (R.conv in5 in22 rfl) ?_
  refine LE.p (v := (Value.int .u32 p1)) (Wn.no rfl) rfl (R.move rfl) ?_
  refine LE.p (v := (Value.int .u32 (bShr .u32 p1 (16 : Int)))) (Wn.no rfl) rfl (R.shr rfl rfl (by decide)) ?_
  refine LE.p (v := (Value.int .u8 (IntKind.u8.wrap (bShr .u32 p1 (16 : Int))))) (Wn.no rfl) rfl (R.conv in5 in22 rfl) ?_
  refine LE.p (v := (Value.int .u32 p1)) (Wn.no rfl) rfl (R.move rfl) ?_
  refine LE.p (v := (Value.int .u32 (bShr .u32 p1 (8 : Int)))) (Wn.no rfl) rfl (R.shr rfl rfl (by decide)) ?_
  refine LE.p (v := (Value.int .u8 (IntKind.u8.wrap (bShr .u32 p1 (8 : Int))))) (Wn.no rfl) rfl (R.conv in5 in22 rfl) ?_
  refine LE.p (v := (Value.int .u32 p1)) (Wn.no rfl) rfl (R.move rfl) ?_
  refine LE.p (v := (Value.int .u8 (IntKind.u8.wrap p1))) (Wn.no rfl) rfl (R.conv in5 in22 rfl) ?_
  obtain ⟨b9, hpb9, w7, hww7, h⟩ := M.new_use h
  refine LE.r (v := (SV.v (SV.mk (some b9) 4 4))) (Wn.no rfl) rfl (R.bsl (by exact (Ls.cons (R.Pr rfl) (Ls.cons (R.Pr rfl) (Ls.cons (R.Pr rfl) (Ls.cons (R.Pr rfl) Ls.nil))))) (fun w => bs28_4 (IntKind.u8.wrap (bShr .u32 p1 (24 : Int))) (IntKind.u8.wrap (bShr .u32 p1 (16 : Int))) (IntKind.u8.wrap (bShr .u32 p1 (8 : Int))) (IntKind.u8.wrap p1) w) hpb9 hww7) ?_
  obtain ⟨s10, w11, h12, h⟩ := h
  refine LE.r (v := (SV.v s10)) (Wn.no rfl) rfl (R.app (s := s4) (r := s10) rfl rfl h12) ?_
  refine LE.p (v := (SV.v s10)) (Wn.no rfl) rfl (R.assign rfl) ?_
  refine LE.nil ?_
  refine WE.ret ?_
  exact ⟨_, (Res.tmp rfl Res.nil), _, rfl, h⟩
/-- The formula of signpost.wire.NewWriter. -/
def F26  (K : Option Addr → World → Prop) (w0 : World) : Prop :=
M.new (.cells #[(SV.v SV.nil)] 66) w0 fun b2 w1 =>
K (some b2) w1
theorem F26_ok {w0 : World}  {K : Option Addr → World → Prop} (h : F26 K w0) : Calls Try.prog 26 #[] w0 (R26 K) := by
  refine calls_of_WE (args := []) (rs := [.tmp 0]) Try.func26 rfl (N := 3) rfl rfl rfl rfl ?_
  refine WE.seq ?_
  refine WE.reg ?_
  refine LE.p (v := (Value.pointer (none : Option Addr))) (Wn.no rfl) rfl (R.assign rfl) ?_
  refine LE.nil ?_
  refine WE.seq ?_
  refine WE.reg ?_
  refine LE.p (v := (Value.agg #[(SV.v SV.nil)])) (Wn.no rfl) rfl (R.bld (by exact Ls.nil) (fun w => bu66_  w)) ?_
  obtain ⟨b2, hpb2, w1, hww1, h⟩ := M.new_use h
  refine LE.r (v := (Value.pointer (some b2))) (Wn.no rfl) rfl (R.box (cs := #[(SV.v SV.nil)]) rfl rfl hpb2 hww1) ?_
  refine LE.p (v := (Value.pointer (some b2))) (Wn.no rfl) rfl (R.assign rfl) ?_
  refine LE.nil ?_
  refine WE.ret ?_
  exact ⟨_, (Res.tmp rfl Res.nil), _, rfl, h⟩
/-- The formula of signpost.addr.Right. -/
def F27 (p0_0 : Int) (p0_1 : Int) (K : Bool → World → Prop) (w0 : World) : Prop :=
M.new (.cells #[(Value.int .u32 p0_0), (Value.int .i64 p0_1)] 24) w0 fun b2 w1 =>
M.join (fun (x4 : Bool) (w20 : World) => 
K x4 w20) fun J3 => 
M.drew w1 fun w5 => 
M.ld (Value.int .i64) (b2.add 1) w5 fun t6 =>
M.ite (decide ((0 : Int) ≤ t6)) (
M.ld (Value.int .i64) (b2.add 1) w5 fun t9 =>
M.ite (decide (t9 ≤ (32 : Int))) (
M.ld (Value.int .u32) b2 w5 fun t12 =>
M.ld (Value.int .i64) (b2.add 1) w5 fun t14 =>
Calls Try.prog 40 #[(Value.int .i64 t14)] w5 (R40 fun r16 w17 =>
M.keep (w17.cell? b2 = some (Value.int .u32 t12)) <|
J3 ((bAndNot .u32 t12 r16) == (0 : Int)) w17)) (
J3 false w5)) (
J3 false w5)
theorem F27_ok {w0 : World} {p0_0 : Int} {p0_1 : Int} {K : Bool → World → Prop} (h : F27 p0_0 p0_1 K w0) : Calls Try.prog 27 #[(Value.agg #[(Value.int .u32 p0_0), (Value.int .i64 p0_1)])] w0 (R27 K) := by
  refine calls_of_WE (args := [(Value.agg #[(Value.int .u32 p0_0), (Value.int .i64 p0_1)])]) (rs := [.tmp 2]) Try.func27 rfl (N := 20) rfl rfl rfl rfl ?_
  refine WE.seq ?_
  refine WE.reg ?_
  obtain ⟨b2, hpb2, w1, hww1, h⟩ := M.new_use h
  refine LE.r (v := (Value.pointer (some b2))) (Wn.no rfl) rfl (R.box (cs := #[(Value.int .u32 p0_0), (Value.int .i64 p0_1)]) rfl rfl hpb2 hww1) ?_
  refine LE.p (v := (Value.bool false)) (Wn.no rfl) rfl (R.assign rfl) ?_
  refine LE.nil ?_
  refine WE.seq ?_
  obtain ⟨J3, hJ3, h⟩ := M.join_use h
  refine WE.drawJ (fun e w => ∃ (x4 : Bool), J3 x4 w ∧ e 2 = (Value.bool x4)) mix ?_ ?_
  · clear hJ3
    obtain ⟨w5, hww5, h⟩ := M.drew_use h
    rw [← hww5]
    clear hww5
    refine DE.t 0 (v := (Value.pointer (some (b2.add 1)))) rfl (by kernel_rfl) (Wn.no rfl) rfl (R.fld (off := 1) fa24_1 rfl) ?_
    obtain ⟨t6, h7, h⟩ := h
    refine DE.main 1 (by kernel_rfl) ?_
    refine One.r 1 (v := (Value.int .i64 t6)) rfl (Wn.no rfl) rfl (R.ld sc3 rfl h7) (.inl rfl) ?_
    refine DE.t 2 (v := (Value.bool (decide ((0 : Int) ≤ t6)))) rfl (by kernel_rfl) (Wn.no rfl) rfl (R.geq rfl rfl) ?_
    refine DE.t 3 (v := (Value.bool (decide ((0 : Int) ≤ t6)))) rfl (by kernel_rfl) (Wn.no rfl) rfl (R.move rfl) ?_
    rcases M.ite_use h with ⟨hb8, h⟩ | ⟨hb8, h⟩
    · refine DE.t 4 (v := (Value.pointer (some (b2.add 1)))) rfl (by kernel_rfl) (Wn.yes 3 6 true rfl rfl rfl (congrArg Value.bool hb8)) rfl (R.fld (off := 1) fa24_1 rfl) ?_
      obtain ⟨t9, h10, h⟩ := h
      refine DE.main 5 (by kernel_rfl) ?_
      refine One.r 5 (v := (Value.int .i64 t9)) rfl (Wn.yes 3 6 true rfl rfl rfl (congrArg Value.bool hb8)) rfl (R.ld sc3 rfl h10) (.inl rfl) ?_
      refine DE.t 6 (v := (Value.bool (decide (t9 ≤ (32 : Int))))) rfl (by kernel_rfl) (Wn.yes 3 6 true rfl rfl rfl (congrArg Value.bool hb8)) rfl (R.leq rfl rfl) ?_
      refine DE.t 7 (v := (Value.bool (decide (t9 ≤ (32 : Int))))) rfl (by kernel_rfl) (Wn.no rfl) rfl (R.pickT (congrArg Value.bool hb8) rfl) ?_
      refine DE.t 8 (v := (Value.bool (decide (t9 ≤ (32 : Int))))) rfl (by kernel_rfl) (Wn.no rfl) rfl (R.move rfl) ?_
      rcases M.ite_use h with ⟨hb11, h⟩ | ⟨hb11, h⟩
      · refine DE.t 9 (v := (Value.pointer (some b2))) rfl (by kernel_rfl) (Wn.yes 8 11 true rfl rfl rfl (congrArg Value.bool hb11)) rfl (R.fld (off := 0) fa24_0 rfl) ?_
        refine DE.t 11 (v := (Value.pointer (some (b2.add 1)))) rfl (by kernel_rfl) (Wn.yes 8 11 true rfl rfl rfl (congrArg Value.bool hb11)) rfl (R.fld (off := 1) fa24_1 rfl) ?_
        obtain ⟨t12, h13, h⟩ := h
        refine DE.hold 10 (fun w => w.cell? b2 = some (Value.int .u32 t12)) (v := (Value.int .u32 t12)) rfl (by kernel_rfl) (Wn.yes 8 11 true rfl rfl rfl (congrArg Value.bool hb11)) rfl h13 (fun w hs => R.ld sc22 rfl hs) ?_
        obtain ⟨t14, h15, h⟩ := h
        refine DE.main 12 (by kernel_rfl) ?_
        refine One.r 12 (v := (Value.int .i64 t14)) rfl (Wn.yes 8 11 true rfl rfl rfl (congrArg Value.bool hb11)) rfl (R.ld sc3 rfl h15) (.inl rfl) ?_
        refine DE.main 13 (by kernel_rfl) ?_
        refine One.c 13 rfl (Wn.yes 8 11 true rfl rfl rfl (congrArg Value.bool hb11)) rfl (R.call bd40 (Ls.cons rfl Ls.nil) rfl) (Calls.mono h ?_)
        rintro _ w17 ⟨r16, rfl, h⟩
        obtain ⟨k18, h⟩ := h
        refine ⟨_, rfl, ⟨fun _ => k18, trivial⟩, ?_⟩
        refine DE.t 14 (v := (Value.int .u32 (bAndNot .u32 t12 r16))) rfl (by kernel_rfl) (Wn.yes 8 11 true rfl rfl rfl (congrArg Value.bool hb11)) rfl (R.andNot rfl rfl) ?_
        refine DE.t 15 (v := (Value.bool ((bAndNot .u32 t12 r16) == (0 : Int)))) rfl (by kernel_rfl) (Wn.yes 8 11 true rfl rfl rfl (congrArg Value.bool hb11)) rfl (R.eql rfl rfl) ?_
        refine DE.t 16 (v := (Value.bool ((bAndNot .u32 t12 r16) == (0 : Int)))) rfl (by kernel_rfl) (Wn.no rfl) rfl (R.pickT (congrArg Value.bool hb11) rfl) ?_
        refine DE.t 17 (v := (Value.bool ((bAndNot .u32 t12 r16) == (0 : Int)))) rfl (by kernel_rfl) (Wn.no rfl) rfl (R.assign rfl) ?_
        refine DE.done (by kernel_rfl) ?_
        exact ⟨_, h, rfl⟩
      · refine DE.u 9 rfl (by kernel_rfl) (Un.no 8 11 true rfl rfl rfl (congrArg Value.bool hb11)) ?_
        refine DE.u 10 rfl (by kernel_rfl) (Un.no 8 11 true rfl rfl rfl (congrArg Value.bool hb11)) ?_
        refine DE.u 11 rfl (by kernel_rfl) (Un.no 8 11 true rfl rfl rfl (congrArg Value.bool hb11)) ?_
        refine DE.u 12 rfl (by kernel_rfl) (Un.no 8 11 true rfl rfl rfl (congrArg Value.bool hb11)) ?_
        refine DE.u 13 rfl (by kernel_rfl) (Un.no 8 11 true rfl rfl rfl (congrArg Value.bool hb11)) ?_
        refine DE.u 14 rfl (by kernel_rfl) (Un.no 8 11 true rfl rfl rfl (congrArg Value.bool hb11)) ?_
        refine DE.u 15 rfl (by kernel_rfl) (Un.no 8 11 true rfl rfl rfl (congrArg Value.bool hb11)) ?_
        refine DE.t 16 (v := (Value.bool false)) rfl (by kernel_rfl) (Wn.no rfl) rfl (R.pickF (congrArg Value.bool hb11) rfl) ?_
        refine DE.t 17 (v := (Value.bool false)) rfl (by kernel_rfl) (Wn.no rfl) rfl (R.assign rfl) ?_
        refine DE.done (by kernel_rfl) ?_
        exact ⟨_, h, rfl⟩
    · refine DE.u 4 rfl (by kernel_rfl) (Un.no 3 6 true rfl rfl rfl (congrArg Value.bool hb8)) ?_
      refine DE.u 5 rfl (by kernel_rfl) (Un.no 3 6 true rfl rfl rfl (congrArg Value.bool hb8)) ?_
      refine DE.u 6 rfl (by kernel_rfl) (Un.no 3 6 true rfl rfl rfl (congrArg Value.bool hb8)) ?_
      refine DE.t 7 (v := (Value.bool false)) rfl (by kernel_rfl) (Wn.no rfl) rfl (R.pickF (congrArg Value.bool hb8) rfl) ?_
      refine DE.t 8 (v := (Value.bool false)) rfl (by kernel_rfl) (Wn.no rfl) rfl (R.move rfl) ?_
      refine DE.u 9 rfl (by kernel_rfl) (Un.no 8 11 true rfl rfl rfl rfl) ?_
      refine DE.u 10 rfl (by kernel_rfl) (Un.no 8 11 true rfl rfl rfl rfl) ?_
      refine DE.u 11 rfl (by kernel_rfl) (Un.no 8 11 true rfl rfl rfl rfl) ?_
      refine DE.u 12 rfl (by kernel_rfl) (Un.no 8 11 true rfl rfl rfl rfl) ?_
      refine DE.u 13 rfl (by kernel_rfl) (Un.no 8 11 true rfl rfl rfl rfl) ?_
      refine DE.u 14 rfl (by kernel_rfl) (Un.no 8 11 true rfl rfl rfl rfl) ?_
      refine DE.u 15 rfl (by kernel_rfl) (Un.no 8 11 true rfl rfl rfl rfl) ?_
      refine DE.t 16 (v := (Value.bool false)) rfl (by kernel_rfl) (Wn.no rfl) rfl (R.pickF rfl rfl) ?_
      refine DE.t 17 (v := (Value.bool false)) rfl (by kernel_rfl) (Wn.no rfl) rfl (R.assign rfl) ?_
      refine DE.done (by kernel_rfl) ?_
      exact ⟨_, h, rfl⟩
  · rintro e19 w20 ⟨x4, h, f21⟩
    subst hJ3
    refine WE.ret ?_
    exact ⟨_, (Res.tmp f21 Res.nil), _, rfl, h⟩
/-- The formula of (*signpost.wire.Writer).U8. -/
def F28 (p0 : Option Addr) (p1 : Int) (K : World → Prop) (w0 : World) : Prop :=
Calls Try.prog 41 #[(Value.pointer p0), (Value.int .u64 (IntKind.u64.wrap p1)), (Value.int .i64 (1 : Int))] w0 (R41 fun w1 =>
K w1)
theorem F28_ok {w0 : World} {p0 : Option Addr} {p1 : Int} {K : World → Prop} (h : F28 p0 p1 K w0) : Calls Try.prog 28 #[(Value.pointer p0), (Value.int .i64 p1)] w0 (R28 K) := by
  refine calls_of_WE (args := [(Value.pointer p0), (Value.int .i64 p1)]) (rs := []) Try.func28 rfl (N := 8) rfl rfl rfl rfl ?_
  refine WE.reg ?_
  refine LE.p (v := (Value.pointer p0)) (Wn.no rfl) rfl (R.move rfl) ?_
  refine LE.p (v := (Value.int .i64 p1)) (Wn.no rfl) rfl (R.move rfl) ?_
  refine LE.p (v := (Value.int .u64 (IntKind.u64.wrap p1))) (Wn.no rfl) rfl (R.conv in68 in3 rfl) ?_
  refine LE.c (Wn.no rfl) rfl (R.call bd41 (Ls.cons rfl (Ls.cons rfl (Ls.cons rfl Ls.nil))) rfl) (Calls.mono h ?_)
  rintro _ w1 ⟨rfl, h⟩
  refine ⟨_, rfl, ?_⟩
  refine LE.nil ?_
  exact ⟨_,  Res.nil, rfl, h⟩
/-- The formula of (*signpost.wire.Writer).Done. -/
def F29 (p0 : Option Addr) (K : SV → World → Prop) (w0 : World) : Prop :=
M.nil p0 fun a1 =>
M.ld SV.v a1 w0 fun t3 =>
Calls Try.prog 42 #[(SV.v t3)] w0 (R42 fun r5 w6 =>
K r5 w6)
theorem F29_ok {w0 : World} {p0 : Option Addr} {K : SV → World → Prop} (h : F29 p0 K w0) : Calls Try.prog 29 #[(Value.pointer p0)] w0 (R29 K) := by
  refine calls_of_WE (args := [(Value.pointer p0)]) (rs := [.tmp 2]) Try.func29 rfl (N := 8) rfl rfl rfl rfl ?_
  refine WE.seq ?_
  refine WE.reg ?_
  refine LE.p (v := (SV.v SV.nil)) (Wn.no rfl) rfl (R.assign rfl) ?_
  refine LE.nil ?_
  refine WE.seq ?_
  refine WE.reg ?_
  refine LE.p (v := (Value.pointer p0)) (Wn.no rfl) rfl (R.move rfl) ?_
  obtain ⟨a1, h2, h⟩ := h
  refine LE.p (v := (Value.pointer (some a1))) (Wn.no rfl) rfl (R.nilC (congrArg Value.pointer h2)) ?_
  refine LE.p (v := (Value.pointer (some a1))) (Wn.no rfl) rfl (R.fld (off := 0) fa66_0 rfl) ?_
  obtain ⟨t3, h4, h⟩ := h
  refine LE.r (v := (SV.v t3)) (Wn.no rfl) rfl (R.ld sc28 rfl h4) ?_
  refine LE.c (Wn.no rfl) rfl (R.call bd42 (Ls.cons rfl Ls.nil) rfl) (Calls.mono h ?_)
  rintro _ w6 ⟨r5, rfl, h⟩
  refine ⟨_, rfl, ?_⟩
  refine LE.p (v := (SV.v r5)) (Wn.no rfl) rfl (R.assign rfl) ?_
  refine LE.nil ?_
  refine WE.ret ?_
  exact ⟨_, (Res.tmp rfl Res.nil), _, rfl, h⟩
/-- The formula of signpost.wire.NewReader. -/
def F30 (p0 : SV) (K : Option Addr → World → Prop) (w0 : World) : Prop :=
Calls Try.prog 42 #[(SV.v p0)] w0 (R42 fun r1 w2 =>
M.new (.cells #[(SV.v r1), (Value.bool false)] 71) w2 fun b4 w3 =>
K (some b4) w3)
theorem F30_ok {w0 : World} {p0 : SV} {K : Option Addr → World → Prop} (h : F30 p0 K w0) : Calls Try.prog 30 #[(SV.v p0)] w0 (R30 K) := by
  refine calls_of_WE (args := [(SV.v p0)]) (rs := [.tmp 2]) Try.func30 rfl (N := 7) rfl rfl rfl rfl ?_
  refine WE.seq ?_
  refine WE.reg ?_
  refine LE.p (v := (Value.pointer (none : Option Addr))) (Wn.no rfl) rfl (R.assign rfl) ?_
  refine LE.nil ?_
  refine WE.seq ?_
  refine WE.reg ?_
  refine LE.p (v := (SV.v p0)) (Wn.no rfl) rfl (R.move rfl) ?_
  refine LE.c (Wn.no rfl) rfl (R.call bd42 (Ls.cons rfl Ls.nil) rfl) (Calls.mono h ?_)
  rintro _ w2 ⟨r1, rfl, h⟩
  refine ⟨_, rfl, ?_⟩
  refine LE.p (v := (Value.agg #[(SV.v r1), (Value.bool false)])) (Wn.no rfl) rfl (R.bld (by exact (Ls.cons (R.Pr rfl) Ls.nil)) (fun w => bu71_0 r1 w)) ?_
  obtain ⟨b4, hpb4, w3, hww3, h⟩ := M.new_use h
  refine LE.r (v := (Value.pointer (some b4))) (Wn.no rfl) rfl (R.box (cs := #[(SV.v r1), (Value.bool false)]) rfl rfl hpb4 hww3) ?_
  refine LE.p (v := (Value.pointer (some b4))) (Wn.no rfl) rfl (R.assign rfl) ?_
  refine LE.nil ?_
  refine WE.ret ?_
  exact ⟨_, (Res.tmp rfl Res.nil), _, rfl, h⟩
/-- The formula of (*signpost.wire.Reader).Left. -/
def F31 (p0 : Option Addr) (K : Int → World → Prop) (w0 : World) : Prop :=
M.nil p0 fun a1 =>
M.ld Value.bool (a1.add 1) w0 fun t3 =>
M.ite t3 (
K (0 : Int) w0) (
M.nil p0 fun a6 =>
M.ld SV.v a6 w0 fun t8 =>
K (t8.len : Int) w0)
theorem F31_ok {w0 : World} {p0 : Option Addr} {K : Int → World → Prop} (h : F31 p0 K w0) : Calls Try.prog 31 #[(Value.pointer p0)] w0 (R31 K) := by
  refine calls_of_WE (args := [(Value.pointer p0)]) (rs := [.tmp 2]) Try.func31 rfl (N := 12) rfl rfl rfl rfl ?_
  refine WE.seq ?_
  refine WE.reg ?_
  refine LE.p (v := (Value.int .i64 (0 : Int))) (Wn.no rfl) rfl (R.assign rfl) ?_
  refine LE.nil ?_
  refine WE.seq ?_
  refine WE.seq ?_
  refine WE.reg ?_
  refine LE.p (v := (Value.pointer p0)) (Wn.no rfl) rfl (R.move rfl) ?_
  obtain ⟨a1, h2, h⟩ := h
  refine LE.p (v := (Value.pointer (some a1))) (Wn.no rfl) rfl (R.nilC (congrArg Value.pointer h2)) ?_
  refine LE.p (v := (Value.pointer (some (a1.add 1)))) (Wn.no rfl) rfl (R.fld (off := 1) fa71_1 rfl) ?_
  obtain ⟨t3, h4, h⟩ := h
  refine LE.r (v := (Value.bool t3)) (Wn.no rfl) rfl (R.ld sc4 rfl h4) ?_
  refine LE.nil ?_
  refine WE.condT rfl (b := t3) rfl ?_ ?_
  · intro hb5
    replace h := M.ite_t h hb5
    refine WE.seq ?_
    refine WE.reg ?_
    refine LE.p (v := (Value.int .i64 (0 : Int))) (Wn.no rfl) rfl (R.assign rfl) ?_
    refine LE.nil ?_
    refine WE.ret ?_
    exact ⟨_, (Res.tmp rfl Res.nil), _, rfl, h⟩
  · intro hb5
    replace h := M.ite_f h hb5
    refine WE.skip ?_
    refine WE.seq ?_
    refine WE.reg ?_
    refine LE.p (v := (Value.pointer p0)) (Wn.no rfl) rfl (R.move rfl) ?_
    obtain ⟨a6, h7, h⟩ := h
    refine LE.p (v := (Value.pointer (some a6))) (Wn.no rfl) rfl (R.nilC (congrArg Value.pointer h7)) ?_
    refine LE.p (v := (Value.pointer (some a6))) (Wn.no rfl) rfl (R.fld (off := 0) fa71_0 rfl) ?_
    obtain ⟨t8, h9, h⟩ := h
    refine LE.r (v := (SV.v t8)) (Wn.no rfl) rfl (R.ld sc28 rfl h9) ?_
    refine LE.p (v := (Value.int .i64 (t8.len : Int))) (Wn.no rfl) rfl (R.len sl28 rfl) ?_
    refine LE.p (v := (Value.int .i64 (t8.len : Int))) (Wn.no rfl) rfl (R.assign rfl) ?_
    refine LE.nil ?_
    refine WE.ret ?_
    exact ⟨_, (Res.tmp rfl Res.nil), _, rfl, h⟩
/-- The formula of (*signpost.wire.Reader).U8. -/
def F32 (p0 : Option Addr) (K : Int → World → Prop) (w0 : World) : Prop :=
Calls Try.prog 43 #[(Value.pointer p0), (Value.int .i64 (1 : Int))] w0 (R43 fun r1 w2 =>
K (IntKind.i64.wrap r1) w2)
theorem F32_ok {w0 : World} {p0 : Option Addr} {K : Int → World → Prop} (h : F32 p0 K w0) : Calls Try.prog 32 #[(Value.pointer p0)] w0 (R32 K) := by
  refine calls_of_WE (args := [(Value.pointer p0)]) (rs := [.tmp 2]) Try.func32 rfl (N := 6) rfl rfl rfl rfl ?_
  refine WE.seq ?_
  refine WE.reg ?_
  refine LE.p (v := (Value.int .i64 (0 : Int))) (Wn.no rfl) rfl (R.assign rfl) ?_
  refine LE.nil ?_
  refine WE.seq ?_
  refine WE.reg ?_
  refine LE.p (v := (Value.pointer p0)) (Wn.no rfl) rfl (R.move rfl) ?_
  refine LE.c (Wn.no rfl) rfl (R.call bd43 (Ls.cons rfl (Ls.cons rfl Ls.nil)) rfl) (Calls.mono h ?_)
  rintro _ w2 ⟨r1, rfl, h⟩
  refine ⟨_, rfl, ?_⟩
  refine LE.p (v := (Value.int .i64 (IntKind.i64.wrap r1))) (Wn.no rfl) rfl (R.conv in3 in68 rfl) ?_
  refine LE.p (v := (Value.int .i64 (IntKind.i64.wrap r1))) (Wn.no rfl) rfl (R.assign rfl) ?_
  refine LE.nil ?_
  refine WE.ret ?_
  exact ⟨_, (Res.tmp rfl Res.nil), _, rfl, h⟩
/-- The formula of (*signpost.wire.Reader).Raw. -/
def F33 (p0 : Option Addr) (p1 : Int) (K : SV → World → Prop) (w0 : World) : Prop :=
M.join (fun (w22 : World) => 
M.join (fun (x26 : Bool) (w33 : World) => 
M.ite x26 (
K SV.nil w33) (
M.nil p0 fun a38 =>
M.ld SV.v a38 w33 fun t40 =>
M.bnd (0 : Int) p1 t40 <|
Calls Try.prog 42 #[(SV.v (SV.sub t40 (Int.toNat (0 : Int)) (Int.toNat p1) 1))] w33 (R42 fun r46 w47 =>
M.nil p0 fun a48 =>
M.ld SV.v a48 w47 fun t50 =>
M.bnd p1 (t50.len : Int) t50 <|
M.nil p0 fun a56 =>
M.st a56 (SV.v (SV.sub t50 (Int.toNat p1) (Int.toNat (t50.len : Int)) 1)) w47 fun w58 =>
K r46 w58))) fun J25 => 
M.nil p0 fun a27 =>
M.ld Value.bool (a27.add 1) w22 fun t29 =>
M.ite t29 (
J25 true w22) (
J25 (decide (p1 < (1 : Int))) w22)) fun J1 => 
M.nil p0 fun a2 =>
M.ld Value.bool (a2.add 1) w0 fun t4 =>
M.ite t4 (
M.nil p0 fun a7 =>
M.st (a7.add 1) (Value.bool true) w0 fun w9 =>
J1 w9) (
M.nil p0 fun a12 =>
M.ld SV.v a12 w0 fun t14 =>
M.nil p0 fun a16 =>
M.st (a16.add 1) (Value.bool (decide ((t14.len : Int) < p1))) w0 fun w18 =>
J1 w18)
theorem F33_ok {w0 : World} {p0 : Option Addr} {p1 : Int} {K : SV → World → Prop} (h : F33 p0 p1 K w0) : Calls Try.prog 33 #[(Value.pointer p0), (Value.int .i64 p1)] w0 (R33 K) := by
  refine calls_of_WE (args := [(Value.pointer p0), (Value.int .i64 p1)]) (rs := [.tmp 4]) Try.func33 rfl (N := 47) rfl rfl rfl rfl ?_
  refine WE.seq ?_
  refine WE.reg ?_
  refine LE.p (v := (SV.v SV.nil)) (Wn.no rfl) rfl (R.assign rfl) ?_
  refine LE.nil ?_
  refine WE.seq ?_
  obtain ⟨J1, hJ1, h⟩ := M.join_use h
  refine WE.regJ (fun e w => J1 w ∧ e 0 = (Value.pointer p0) ∧ e 1 = (Value.int .i64 p1)) ?_ ?_
  · clear hJ1
    refine LE.p (v := (Value.pointer p0)) (Wn.no rfl) rfl (R.move rfl) ?_
    refine LE.p (v := (Value.pointer p0)) (Wn.no rfl) rfl (R.move rfl) ?_
    obtain ⟨a2, h3, h⟩ := h
    refine LE.p (v := (Value.pointer (some a2))) (Wn.no rfl) rfl (R.nilC (congrArg Value.pointer h3)) ?_
    refine LE.p (v := (Value.pointer (some (a2.add 1)))) (Wn.no rfl) rfl (R.fld (off := 1) fa71_1 rfl) ?_
    obtain ⟨t4, h5, h⟩ := h
    refine LE.r (v := (Value.bool t4)) (Wn.no rfl) rfl (R.ld sc4 rfl h5) ?_
    refine LE.p (v := (Value.bool t4)) (Wn.no rfl) rfl (R.move rfl) ?_
    rcases M.ite_use h with ⟨hb6, h⟩ | ⟨hb6, h⟩
    · refine LE.u (Un.no 5 11 false rfl rfl rfl (congrArg Value.bool hb6)) ?_
      refine LE.u (Un.no 5 11 false rfl rfl rfl (congrArg Value.bool hb6)) ?_
      refine LE.u (Un.no 5 11 false rfl rfl rfl (congrArg Value.bool hb6)) ?_
      refine LE.u (Un.no 5 11 false rfl rfl rfl (congrArg Value.bool hb6)) ?_
      refine LE.u (Un.no 5 11 false rfl rfl rfl (congrArg Value.bool hb6)) ?_
      refine LE.u (Un.no 5 11 false rfl rfl rfl (congrArg Value.bool hb6)) ?_
      refine LE.u (Un.no 5 11 false rfl rfl rfl (congrArg Value.bool hb6)) ?_
      refine LE.p (v := (Value.bool true)) (Wn.no rfl) rfl (R.pickT (congrArg Value.bool hb6) rfl) ?_
      obtain ⟨a7, h8, h⟩ := h
      refine LE.p (v := (Value.pointer (some a7))) (Wn.no rfl) rfl (R.nilC (congrArg Value.pointer h8)) ?_
      refine LE.p (v := (Value.pointer (some (a7.add 1)))) (Wn.no rfl) rfl (R.fld (off := 1) fa71_1 rfl) ?_
      obtain ⟨w9, hww9, h10, h11, h⟩ := M.st_use h
      refine LE.s (Wn.no rfl) rfl (R.st (a := (a7.add 1)) (v := (Value.bool true)) sz4 rfl rfl rfl rfl h10 h11 hww9) ?_
      refine LE.nil ?_
      exact ⟨h, rfl, rfl⟩
    · refine LE.p (v := (Value.int .i64 p1)) (Wn.yes 5 11 false rfl rfl rfl (congrArg Value.bool hb6)) rfl (R.move rfl) ?_
      refine LE.p (v := (Value.pointer p0)) (Wn.yes 5 11 false rfl rfl rfl (congrArg Value.bool hb6)) rfl (R.move rfl) ?_
      obtain ⟨a12, h13, h⟩ := h
      refine LE.p (v := (Value.pointer (some a12))) (Wn.yes 5 11 false rfl rfl rfl (congrArg Value.bool hb6)) rfl (R.nilC (congrArg Value.pointer h13)) ?_
      refine LE.p (v := (Value.pointer (some a12))) (Wn.yes 5 11 false rfl rfl rfl (congrArg Value.bool hb6)) rfl (R.fld (off := 0) fa71_0 rfl) ?_
      obtain ⟨t14, h15, h⟩ := h
      refine LE.r (v := (SV.v t14)) (Wn.yes 5 11 false rfl rfl rfl (congrArg Value.bool hb6)) rfl (R.ld sc28 rfl h15) ?_
      refine LE.p (v := (Value.int .i64 (t14.len : Int))) (Wn.yes 5 11 false rfl rfl rfl (congrArg Value.bool hb6)) rfl (R.len sl28 rfl) ?_
      refine LE.p (v := (Value.bool (decide ((t14.len : Int) < p1)))) (Wn.yes 5 11 false rfl rfl rfl (congrArg Value.bool hb6)) rfl (R.gtr rfl rfl) ?_
      refine LE.p (v := (Value.bool (decide ((t14.len : Int) < p1)))) (Wn.no rfl) rfl (R.pickF (congrArg Value.bool hb6) rfl) ?_
      obtain ⟨a16, h17, h⟩ := h
      refine LE.p (v := (Value.pointer (some a16))) (Wn.no rfl) rfl (R.nilC (congrArg Value.pointer h17)) ?_
      refine LE.p (v := (Value.pointer (some (a16.add 1)))) (Wn.no rfl) rfl (R.fld (off := 1) fa71_1 rfl) ?_
      obtain ⟨w18, hww18, h19, h20, h⟩ := M.st_use h
      refine LE.s (Wn.no rfl) rfl (R.st (a := (a16.add 1)) (v := (Value.bool (decide ((t14.len : Int) < p1)))) sz4 rfl rfl rfl rfl h19 h20 hww18) ?_
      refine LE.nil ?_
      exact ⟨h, rfl, rfl⟩
  · rintro e21 w22 ⟨h, f23, f24⟩
    subst hJ1
    refine WE.seq ?_
    refine WE.seq ?_
    obtain ⟨J25, hJ25, h⟩ := M.join_use h
    refine WE.regJ (fun e w => ∃ (x26 : Bool), J25 x26 w ∧ e 0 = (Value.pointer p0) ∧ e 1 = (Value.int .i64 p1) ∧ e 29 = (Value.bool x26)) ?_ ?_
    · clear hJ25
      refine LE.p (v := (Value.pointer p0)) (Wn.no rfl) rfl (R.move f23) ?_
      obtain ⟨a27, h28, h⟩ := h
      refine LE.p (v := (Value.pointer (some a27))) (Wn.no rfl) rfl (R.nilC (congrArg Value.pointer h28)) ?_
      refine LE.p (v := (Value.pointer (some (a27.add 1)))) (Wn.no rfl) rfl (R.fld (off := 1) fa71_1 rfl) ?_
      obtain ⟨t29, h30, h⟩ := h
      refine LE.r (v := (Value.bool t29)) (Wn.no rfl) rfl (R.ld sc4 rfl h30) ?_
      refine LE.p (v := (Value.bool t29)) (Wn.no rfl) rfl (R.move rfl) ?_
      rcases M.ite_use h with ⟨hb31, h⟩ | ⟨hb31, h⟩
      · refine LE.u (Un.no 4 26 false rfl rfl rfl (congrArg Value.bool hb31)) ?_
        refine LE.u (Un.no 4 26 false rfl rfl rfl (congrArg Value.bool hb31)) ?_
        refine LE.p (v := (Value.bool true)) (Wn.no rfl) rfl (R.pickT (congrArg Value.bool hb31) rfl) ?_
        refine LE.nil ?_
        exact ⟨_, h, f23, f24, rfl⟩
      · refine LE.p (v := (Value.int .i64 p1)) (Wn.yes 4 26 false rfl rfl rfl (congrArg Value.bool hb31)) rfl (R.move f24) ?_
        refine LE.p (v := (Value.bool (decide (p1 < (1 : Int))))) (Wn.yes 4 26 false rfl rfl rfl (congrArg Value.bool hb31)) rfl (R.lss rfl rfl) ?_
        refine LE.p (v := (Value.bool (decide (p1 < (1 : Int))))) (Wn.no rfl) rfl (R.pickF (congrArg Value.bool hb31) rfl) ?_
        refine LE.nil ?_
        exact ⟨_, h, f23, f24, rfl⟩
    · rintro e32 w33 ⟨x26, h, f34, f35, f36⟩
      subst hJ25
      refine WE.condT rfl (b := x26) f36 ?_ ?_
      · intro hb37
        replace h := M.ite_t h hb37
        refine WE.seq ?_
        refine WE.reg ?_
        refine LE.p (v := (SV.v SV.nil)) (Wn.no rfl) rfl (R.assign rfl) ?_
        refine LE.nil ?_
        refine WE.ret ?_
        exact ⟨_, (Res.tmp rfl Res.nil), _, rfl, h⟩
      · intro hb37
        replace h := M.ite_f h hb37
        refine WE.skip ?_
        refine WE.seq ?_
        refine WE.reg ?_
        refine LE.p (v := (Value.pointer p0)) (Wn.no rfl) rfl (R.move f34) ?_
        obtain ⟨a38, h39, h⟩ := h
        refine LE.p (v := (Value.pointer (some a38))) (Wn.no rfl) rfl (R.nilC (congrArg Value.pointer h39)) ?_
        refine LE.p (v := (Value.pointer (some a38))) (Wn.no rfl) rfl (R.fld (off := 0) fa71_0 rfl) ?_
        obtain ⟨t40, h41, h⟩ := h
        refine LE.r (v := (SV.v t40)) (Wn.no rfl) rfl (R.ld sc28 rfl h41) ?_
        refine LE.p (v := (Value.int .i64 p1)) (Wn.no rfl) rfl (R.move f35) ?_
        obtain ⟨h42, h43, h44, h⟩ := h
        refine LE.p (v := (SV.v (SV.sub t40 (Int.toNat (0 : Int)) (Int.toNat p1) 1))) (Wn.no rfl) rfl (R.slc (s := t40) (lo := (0 : Int)) (hi := p1) _ _ sl28 rfl rfl rfl h42 h43 h44) ?_
        refine LE.c (Wn.no rfl) rfl (R.call bd42 (Ls.cons rfl Ls.nil) rfl) (Calls.mono h ?_)
        rintro _ w47 ⟨r46, rfl, h⟩
        refine ⟨_, rfl, ?_⟩
        refine LE.p (v := (SV.v r46)) (Wn.no rfl) rfl (R.assign rfl) ?_
        refine LE.nil ?_
        refine WE.seq ?_
        refine WE.reg ?_
        refine LE.p (v := (Value.pointer p0)) (Wn.no rfl) rfl (R.move f34) ?_
        refine LE.p (v := (Value.pointer p0)) (Wn.no rfl) rfl (R.move f34) ?_
        obtain ⟨a48, h49, h⟩ := h
        refine LE.p (v := (Value.pointer (some a48))) (Wn.no rfl) rfl (R.nilC (congrArg Value.pointer h49)) ?_
        refine LE.p (v := (Value.pointer (some a48))) (Wn.no rfl) rfl (R.fld (off := 0) fa71_0 rfl) ?_
        obtain ⟨t50, h51, h⟩ := h
        refine LE.r (v := (SV.v t50)) (Wn.no rfl) rfl (R.ld sc28 rfl h51) ?_
        refine LE.p (v := (Value.int .i64 p1)) (Wn.no rfl) rfl (R.move f35) ?_
        obtain ⟨h52, h53, h54, h⟩ := h
        refine LE.p (v := (SV.v (SV.sub t50 (Int.toNat p1) (Int.toNat (t50.len : Int)) 1))) (Wn.no rfl) rfl (R.slc (s := t50) (lo := p1) (hi := (t50.len : Int)) _ _ sl28 rfl rfl rfl h52 h53 h54) ?_
        obtain ⟨a56, h57, h⟩ := h
        refine LE.p (v := (Value.pointer (some a56))) (Wn.no rfl) rfl (R.nilC (congrArg Value.pointer h57)) ?_
        refine LE.p (v := (Value.pointer (some a56))) (Wn.no rfl) rfl (R.fld (off := 0) fa71_0 rfl) ?_
        obtain ⟨w58, hww58, h59, h60, h⟩ := M.st_use h
        refine LE.s (Wn.no rfl) rfl (R.st (a := a56) (v := (SV.v (SV.sub t50 (Int.toNat p1) (Int.toNat (t50.len : Int)) 1))) sz28 rfl rfl rfl rfl h59 h60 hww58) ?_
        refine LE.nil ?_
        refine WE.seq ?_
        refine WE.reg ?_
        refine LE.p (v := (SV.v r46)) (Wn.no rfl) rfl (R.move rfl) ?_
        refine LE.p (v := (SV.v r46)) (Wn.no rfl) rfl (R.assign rfl) ?_
        refine LE.nil ?_
        refine WE.ret ?_
        exact ⟨_, (Res.tmp rfl Res.nil), _, rfl, h⟩
/-- The formula of signpost.addr.Of. -/
def F34 (p0 : Int) (p1 : Int) (K : Int → Int → World → Prop) (w0 : World) : Prop :=
M.new (.cells #[(Value.int .u32 (0 : Int)), (Value.int .i64 (0 : Int))] 24) w0 fun b2 w1 =>
Calls Try.prog 40 #[(Value.int .i64 p1)] w1 (R40 fun r3 w4 =>
M.stA b2 [(Value.int .u32 (bAnd .u32 p0 r3)), (Value.int .i64 (min (max p1 (0 : Int)) (32 : Int)))] w4 fun w5 =>
M.ld (Value.int .u32) b2 w5 fun t7 =>
M.ld (Value.int .i64) (b2.add 1) w5 fun t9 =>
K t7 t9 w5)
theorem F34_ok {w0 : World} {p0 : Int} {p1 : Int} {K : Int → Int → World → Prop} (h : F34 p0 p1 K w0) : Calls Try.prog 34 #[(Value.int .u32 p0), (Value.int .i64 p1)] w0 (R34 K) := by
  refine calls_of_WE (args := [(Value.int .u32 p0), (Value.int .i64 p1)]) (rs := [.cell 4 24]) Try.func34 rfl (N := 13) rfl rfl rfl rfl ?_
  refine WE.seq ?_
  refine WE.reg ?_
  obtain ⟨b2, hpb2, w1, hww1, h⟩ := M.new_use h
  refine LE.r (v := (Value.pointer (some b2))) (Wn.no rfl) rfl (R.alloc (cs := #[(Value.int .u32 (0 : Int)), (Value.int .i64 (0 : Int))]) ze24 rfl hpb2 hww1) ?_
  refine LE.nil ?_
  refine WE.seq ?_
  refine WE.reg ?_
  refine LE.p (v := (Value.int .u32 p0)) (Wn.no rfl) rfl (R.move rfl) ?_
  refine LE.p (v := (Value.int .i64 p1)) (Wn.no rfl) rfl (R.move rfl) ?_
  refine LE.c (Wn.no rfl) rfl (R.call bd40 (Ls.cons rfl Ls.nil) rfl) (Calls.mono h ?_)
  rintro _ w4 ⟨r3, rfl, h⟩
  refine ⟨_, rfl, ?_⟩
  refine LE.p (v := (Value.int .u32 (bAnd .u32 p0 r3))) (Wn.no rfl) rfl (R.and rfl rfl) ?_
  refine LE.p (v := (Value.int .i64 p1)) (Wn.no rfl) rfl (R.move rfl) ?_
  refine LE.p (v := (Value.int .i64 (max p1 (0 : Int)))) (Wn.no rfl) rfl (R.max2 rfl rfl) ?_
  refine LE.p (v := (Value.int .i64 (min (max p1 (0 : Int)) (32 : Int)))) (Wn.no rfl) rfl (R.min2 rfl rfl) ?_
  refine LE.p (v := (Value.agg #[(Value.int .u32 (bAnd .u32 p0 r3)), (Value.int .i64 (min (max p1 (0 : Int)) (32 : Int)))])) (Wn.no rfl) rfl (R.bld (by exact (Ls.cons (R.Pr rfl) (Ls.cons (R.Pr rfl) Ls.nil))) (fun w => bu24_0_1 (bAnd .u32 p0 r3) (min (max p1 (0 : Int)) (32 : Int)) w)) ?_
  obtain ⟨w5, hww5, h6, h⟩ := M.stA_use h
  refine LE.s (Wn.no rfl) rfl (R.stA (a := b2) [(Value.int .u32 (bAnd .u32 p0 r3)), (Value.int .i64 (min (max p1 (0 : Int)) (32 : Int)))] sz24 rfl rfl rfl (by simp [Value.oneCell']) h6 hww5) ?_
  refine LE.nil ?_
  refine WE.ret ?_
  obtain ⟨t7, h8, h⟩ := h
  obtain ⟨t9, h10, h⟩ := h
  exact ⟨_, (Res.cell rfl (R.ldCellA ag24 sz24 rfl (Cs.cons h8 (Cs.cons h10 Cs.nil))) Res.nil), _, _, rfl, h⟩
/-- The formula of (*signpost.wire.Reader).Fine. -/
def F35 (p0 : Option Addr) (K : Bool → World → Prop) (w0 : World) : Prop :=
M.nil p0 fun a1 =>
M.ld Value.bool (a1.add 1) w0 fun t3 =>
K (!t3) w0
theorem F35_ok {w0 : World} {p0 : Option Addr} {K : Bool → World → Prop} (h : F35 p0 K w0) : Calls Try.prog 35 #[(Value.pointer p0)] w0 (R35 K) := by
  refine calls_of_WE (args := [(Value.pointer p0)]) (rs := [.tmp 2]) Try.func35 rfl (N := 8) rfl rfl rfl rfl ?_
  refine WE.seq ?_
  refine WE.reg ?_
  refine LE.p (v := (Value.bool false)) (Wn.no rfl) rfl (R.assign rfl) ?_
  refine LE.nil ?_
  refine WE.seq ?_
  refine WE.reg ?_
  refine LE.p (v := (Value.pointer p0)) (Wn.no rfl) rfl (R.move rfl) ?_
  obtain ⟨a1, h2, h⟩ := h
  refine LE.p (v := (Value.pointer (some a1))) (Wn.no rfl) rfl (R.nilC (congrArg Value.pointer h2)) ?_
  refine LE.p (v := (Value.pointer (some (a1.add 1)))) (Wn.no rfl) rfl (R.fld (off := 1) fa71_1 rfl) ?_
  obtain ⟨t3, h4, h⟩ := h
  refine LE.r (v := (Value.bool t3)) (Wn.no rfl) rfl (R.ld sc4 rfl h4) ?_
  refine LE.p (v := (Value.bool (!t3))) (Wn.no rfl) rfl (R.not rfl) ?_
  refine LE.p (v := (Value.bool (!t3))) (Wn.no rfl) rfl (R.assign rfl) ?_
  refine LE.nil ?_
  refine WE.ret ?_
  exact ⟨_, (Res.tmp rfl Res.nil), _, rfl, h⟩
/-- The formula of (*signpost.signpostref4.Reader).Left. -/
def F36 (p0 : Option Addr) (K : Int → World → Prop) (w0 : World) : Prop :=
M.nil p0 fun a1 =>
M.ld Value.bool (a1.add 2) w0 fun t3 =>
M.ite t3 (
K (0 : Int) w0) (
M.drew w0 fun w6 => 
M.nil p0 fun a7 =>
M.nil p0 fun a9 =>
M.ld SV.v a7 w6 fun t11 =>
M.ld (Value.int .i64) (a9.add 1) w6 fun t13 =>
K (IntKind.i64.wrap ((t11.len : Int) - t13)) w6)
theorem F36_ok {w0 : World} {p0 : Option Addr} {K : Int → World → Prop} (h : F36 p0 K w0) : Calls Try.prog 36 #[(Value.pointer p0)] w0 (R36 K) := by
  refine calls_of_WE (args := [(Value.pointer p0)]) (rs := [.tmp 2]) Try.func36 rfl (N := 17) rfl rfl rfl rfl ?_
  refine WE.seq ?_
  refine WE.reg ?_
  refine LE.p (v := (Value.int .i64 (0 : Int))) (Wn.no rfl) rfl (R.assign rfl) ?_
  refine LE.nil ?_
  refine WE.seq ?_
  refine WE.seq ?_
  refine WE.reg ?_
  refine LE.p (v := (Value.pointer p0)) (Wn.no rfl) rfl (R.move rfl) ?_
  obtain ⟨a1, h2, h⟩ := h
  refine LE.p (v := (Value.pointer (some a1))) (Wn.no rfl) rfl (R.nilC (congrArg Value.pointer h2)) ?_
  refine LE.p (v := (Value.pointer (some (a1.add 2)))) (Wn.no rfl) rfl (R.fld (off := 2) fa63_2 rfl) ?_
  obtain ⟨t3, h4, h⟩ := h
  refine LE.r (v := (Value.bool t3)) (Wn.no rfl) rfl (R.ld sc4 rfl h4) ?_
  refine LE.nil ?_
  refine WE.condT rfl (b := t3) rfl ?_ ?_
  · intro hb5
    replace h := M.ite_t h hb5
    refine WE.seq ?_
    refine WE.reg ?_
    refine LE.p (v := (Value.int .i64 (0 : Int))) (Wn.no rfl) rfl (R.assign rfl) ?_
    refine LE.nil ?_
    refine WE.ret ?_
    exact ⟨_, (Res.tmp rfl Res.nil), _, rfl, h⟩
  · intro hb5
    replace h := M.ite_f h hb5
    refine WE.skip ?_
    refine WE.seq ?_
    refine WE.draw mix ?_
    obtain ⟨w6, hww6, h⟩ := M.drew_use h
    rw [← hww6]
    clear hww6
    refine DE.t 0 (v := (Value.pointer p0)) rfl (by kernel_rfl) (Wn.no rfl) rfl (R.move rfl) ?_
    obtain ⟨a7, h8, h⟩ := h
    refine DE.t 1 (v := (Value.pointer (some a7))) rfl (by kernel_rfl) (Wn.no rfl) rfl (R.nilC (congrArg Value.pointer h8)) ?_
    refine DE.t 2 (v := (Value.pointer (some a7))) rfl (by kernel_rfl) (Wn.no rfl) rfl (R.fld (off := 0) fa63_0 rfl) ?_
    refine DE.t 5 (v := (Value.pointer p0)) rfl (by kernel_rfl) (Wn.no rfl) rfl (R.move rfl) ?_
    obtain ⟨a9, h10, h⟩ := h
    refine DE.t 6 (v := (Value.pointer (some a9))) rfl (by kernel_rfl) (Wn.no rfl) rfl (R.nilC (congrArg Value.pointer h10)) ?_
    refine DE.t 7 (v := (Value.pointer (some (a9.add 1)))) rfl (by kernel_rfl) (Wn.no rfl) rfl (R.fld (off := 1) fa63_1 rfl) ?_
    obtain ⟨t11, h12, h⟩ := h
    refine DE.hold 3 (fun w => w.cell? a7 = some (SV.v t11)) (v := (SV.v t11)) rfl (by kernel_rfl) (Wn.no rfl) rfl h12 (fun w hs => R.ld sc28 rfl hs) ?_
    refine DE.t 4 (v := (Value.int .i64 (t11.len : Int))) rfl (by kernel_rfl) (Wn.no rfl) rfl (R.len sl28 rfl) ?_
    obtain ⟨t13, h14, h⟩ := h
    refine DE.main 8 (by kernel_rfl) ?_
    refine One.r 8 (v := (Value.int .i64 t13)) rfl (Wn.no rfl) rfl (R.ld sc3 rfl h14) (.inl rfl) ?_
    refine DE.t 9 (v := (Value.int .i64 (IntKind.i64.wrap ((t11.len : Int) - t13)))) rfl (by kernel_rfl) (Wn.no rfl) rfl (R.sub rfl rfl) ?_
    refine DE.t 10 (v := (Value.int .i64 (IntKind.i64.wrap ((t11.len : Int) - t13)))) rfl (by kernel_rfl) (Wn.no rfl) rfl (R.assign rfl) ?_
    refine DE.done (by kernel_rfl) ?_
    refine WE.ret ?_
    exact ⟨_, (Res.tmp rfl Res.nil), _, rfl, h⟩
/-- The formula of (*signpost.signpostref4.Reader).U8. -/
def F37 (p0 : Option Addr) (K : Int → World → Prop) (w0 : World) : Prop :=
Calls Try.prog 44 #[(Value.pointer p0), (Value.int .i64 (1 : Int))] w0 (R44 fun r1 w2 =>
K (IntKind.i64.wrap r1) w2)
theorem F37_ok {w0 : World} {p0 : Option Addr} {K : Int → World → Prop} (h : F37 p0 K w0) : Calls Try.prog 37 #[(Value.pointer p0)] w0 (R37 K) := by
  refine calls_of_WE (args := [(Value.pointer p0)]) (rs := [.tmp 2]) Try.func37 rfl (N := 6) rfl rfl rfl rfl ?_
  refine WE.seq ?_
  refine WE.reg ?_
  refine LE.p (v := (Value.int .i64 (0 : Int))) (Wn.no rfl) rfl (R.assign rfl) ?_
  refine LE.nil ?_
  refine WE.seq ?_
  refine WE.reg ?_
  refine LE.p (v := (Value.pointer p0)) (Wn.no rfl) rfl (R.move rfl) ?_
  refine LE.c (Wn.no rfl) rfl (R.call bd44 (Ls.cons rfl (Ls.cons rfl Ls.nil)) rfl) (Calls.mono h ?_)
  rintro _ w2 ⟨r1, rfl, h⟩
  refine ⟨_, rfl, ?_⟩
  refine LE.p (v := (Value.int .i64 (IntKind.i64.wrap r1))) (Wn.no rfl) rfl (R.conv in3 in22 rfl) ?_
  refine LE.p (v := (Value.int .i64 (IntKind.i64.wrap r1))) (Wn.no rfl) rfl (R.assign rfl) ?_
  refine LE.nil ?_
  refine WE.ret ?_
  exact ⟨_, (Res.tmp rfl Res.nil), _, rfl, h⟩
/-- The formula of (*signpost.signpostref4.Reader).Raw. -/
def F38 (p0 : Option Addr) (p1 : Int) (K : SV → World → Prop) (w0 : World) : Prop :=
M.join (fun (x2 : Bool) (w9 : World) => 
M.ite x2 (
K SV.nil w9) (
M.drew w9 fun w14 => 
M.nil p0 fun a15 =>
M.nil p0 fun a17 =>
M.ld SV.v a15 w14 fun t19 =>
M.ld (Value.int .i64) (a17.add 1) w14 fun t21 =>
M.ite (decide ((IntKind.i64.wrap ((t19.len : Int) - t21)) < p1)) (
M.nil p0 fun a24 =>
M.st (a24.add 2) (Value.bool true) w14 fun w26 =>
K SV.nil w26) (
M.drew w14 fun w29 => 
M.nil p0 fun a30 =>
M.nil p0 fun a32 =>
M.nil p0 fun a34 =>
M.ld SV.v a30 w29 fun t36 =>
M.ld (Value.int .i64) (a32.add 1) w29 fun t38 =>
M.ld (Value.int .i64) (a34.add 1) w29 fun t40 =>
M.bnd t38 (IntKind.i64.wrap (t40 + p1)) t36 <|
M.new (.cells #[] 5) w29 fun b48 w46 =>
M.keep (w46.cell? (a34.add 1) = some (Value.int .i64 t40)) <|
M.keep (w46.cell? (a32.add 1) = some (Value.int .i64 t38)) <|
M.keep (w46.cell? a30 = some (SV.v t36)) <|
M.app Try.prog 28 28 28 (SV.mk (some b48) 0 0) (SV.v (SV.sub t36 (Int.toNat t38) (Int.toNat (IntKind.i64.wrap (t40 + p1))) 1)) w46 fun s52 w53 =>
M.nil p0 fun a55 =>
M.ld (Value.int .i64) (a55.add 1) w53 fun t57 =>
M.nil p0 fun a59 =>
M.st (a59.add 1) (Value.int .i64 (IntKind.i64.wrap (t57 + p1))) w53 fun w61 =>
K s52 w61))) fun J1 => 
M.nil p0 fun a3 =>
M.ld Value.bool (a3.add 2) w0 fun t5 =>
M.ite t5 (
J1 true w0) (
J1 (decide (p1 < (1 : Int))) w0)
theorem F38_ok {w0 : World} {p0 : Option Addr} {p1 : Int} {K : SV → World → Prop} (h : F38 p0 p1 K w0) : Calls Try.prog 38 #[(Value.pointer p0), (Value.int .i64 p1)] w0 (R38 K) := by
  refine calls_of_WE (args := [(Value.pointer p0), (Value.int .i64 p1)]) (rs := [.tmp 4]) Try.func38 rfl (N := 56) rfl rfl rfl rfl ?_
  refine WE.seq ?_
  refine WE.reg ?_
  refine LE.p (v := (SV.v SV.nil)) (Wn.no rfl) rfl (R.assign rfl) ?_
  refine LE.nil ?_
  refine WE.seq ?_
  refine WE.seq ?_
  obtain ⟨J1, hJ1, h⟩ := M.join_use h
  refine WE.regJ (fun e w => ∃ (x2 : Bool), J1 x2 w ∧ e 0 = (Value.pointer p0) ∧ e 1 = (Value.int .i64 p1) ∧ e 13 = (Value.bool x2)) ?_ ?_
  · clear hJ1
    refine LE.p (v := (Value.pointer p0)) (Wn.no rfl) rfl (R.move rfl) ?_
    obtain ⟨a3, h4, h⟩ := h
    refine LE.p (v := (Value.pointer (some a3))) (Wn.no rfl) rfl (R.nilC (congrArg Value.pointer h4)) ?_
    refine LE.p (v := (Value.pointer (some (a3.add 2)))) (Wn.no rfl) rfl (R.fld (off := 2) fa63_2 rfl) ?_
    obtain ⟨t5, h6, h⟩ := h
    refine LE.r (v := (Value.bool t5)) (Wn.no rfl) rfl (R.ld sc4 rfl h6) ?_
    refine LE.p (v := (Value.bool t5)) (Wn.no rfl) rfl (R.move rfl) ?_
    rcases M.ite_use h with ⟨hb7, h⟩ | ⟨hb7, h⟩
    · refine LE.u (Un.no 4 10 false rfl rfl rfl (congrArg Value.bool hb7)) ?_
      refine LE.u (Un.no 4 10 false rfl rfl rfl (congrArg Value.bool hb7)) ?_
      refine LE.p (v := (Value.bool true)) (Wn.no rfl) rfl (R.pickT (congrArg Value.bool hb7) rfl) ?_
      refine LE.nil ?_
      exact ⟨_, h, rfl, rfl, rfl⟩
    · refine LE.p (v := (Value.int .i64 p1)) (Wn.yes 4 10 false rfl rfl rfl (congrArg Value.bool hb7)) rfl (R.move rfl) ?_
      refine LE.p (v := (Value.bool (decide (p1 < (1 : Int))))) (Wn.yes 4 10 false rfl rfl rfl (congrArg Value.bool hb7)) rfl (R.lss rfl rfl) ?_
      refine LE.p (v := (Value.bool (decide (p1 < (1 : Int))))) (Wn.no rfl) rfl (R.pickF (congrArg Value.bool hb7) rfl) ?_
      refine LE.nil ?_
      exact ⟨_, h, rfl, rfl, rfl⟩
  · rintro e8 w9 ⟨x2, h, f10, f11, f12⟩
    subst hJ1
    refine WE.condT rfl (b := x2) f12 ?_ ?_
    · intro hb13
      replace h := M.ite_t h hb13
      refine WE.seq ?_
      refine WE.reg ?_
      refine LE.p (v := (SV.v SV.nil)) (Wn.no rfl) rfl (R.assign rfl) ?_
      refine LE.nil ?_
      refine WE.ret ?_
      exact ⟨_, (Res.tmp rfl Res.nil), _, rfl, h⟩
    · intro hb13
      replace h := M.ite_f h hb13
      refine WE.skip ?_
      refine WE.seq ?_
      refine WE.seq ?_
      refine WE.draw mix ?_
      obtain ⟨w14, hww14, h⟩ := M.drew_use h
      rw [← hww14]
      clear hww14
      refine DE.t 0 (v := (Value.pointer p0)) rfl (by kernel_rfl) (Wn.no rfl) rfl (R.move f10) ?_
      obtain ⟨a15, h16, h⟩ := h
      refine DE.t 1 (v := (Value.pointer (some a15))) rfl (by kernel_rfl) (Wn.no rfl) rfl (R.nilC (congrArg Value.pointer h16)) ?_
      refine DE.t 2 (v := (Value.pointer (some a15))) rfl (by kernel_rfl) (Wn.no rfl) rfl (R.fld (off := 0) fa63_0 rfl) ?_
      refine DE.t 5 (v := (Value.pointer p0)) rfl (by kernel_rfl) (Wn.no rfl) rfl (R.move f10) ?_
      obtain ⟨a17, h18, h⟩ := h
      refine DE.t 6 (v := (Value.pointer (some a17))) rfl (by kernel_rfl) (Wn.no rfl) rfl (R.nilC (congrArg Value.pointer h18)) ?_
      refine DE.t 7 (v := (Value.pointer (some (a17.add 1)))) rfl (by kernel_rfl) (Wn.no rfl) rfl (R.fld (off := 1) fa63_1 rfl) ?_
      refine DE.t 10 (v := (Value.int .i64 p1)) rfl (by kernel_rfl) (Wn.no rfl) rfl (R.move f11) ?_
      obtain ⟨t19, h20, h⟩ := h
      refine DE.hold 3 (fun w => w.cell? a15 = some (SV.v t19)) (v := (SV.v t19)) rfl (by kernel_rfl) (Wn.no rfl) rfl h20 (fun w hs => R.ld sc28 rfl hs) ?_
      refine DE.t 4 (v := (Value.int .i64 (t19.len : Int))) rfl (by kernel_rfl) (Wn.no rfl) rfl (R.len sl28 rfl) ?_
      obtain ⟨t21, h22, h⟩ := h
      refine DE.main 8 (by kernel_rfl) ?_
      refine One.r 8 (v := (Value.int .i64 t21)) rfl (Wn.no rfl) rfl (R.ld sc3 rfl h22) (.inl rfl) ?_
      refine DE.t 9 (v := (Value.int .i64 (IntKind.i64.wrap ((t19.len : Int) - t21)))) rfl (by kernel_rfl) (Wn.no rfl) rfl (R.sub rfl rfl) ?_
      refine DE.t 11 (v := (Value.bool (decide ((IntKind.i64.wrap ((t19.len : Int) - t21)) < p1)))) rfl (by kernel_rfl) (Wn.no rfl) rfl (R.lss rfl rfl) ?_
      refine DE.done (by kernel_rfl) ?_
      refine WE.condT rfl (b := (decide ((IntKind.i64.wrap ((t19.len : Int) - t21)) < p1))) rfl ?_ ?_
      · intro hb23
        replace h := M.ite_t h hb23
        refine WE.seq ?_
        refine WE.reg ?_
        refine LE.p (v := (Value.pointer p0)) (Wn.no rfl) rfl (R.move f10) ?_
        obtain ⟨a24, h25, h⟩ := h
        refine LE.p (v := (Value.pointer (some a24))) (Wn.no rfl) rfl (R.nilC (congrArg Value.pointer h25)) ?_
        refine LE.p (v := (Value.pointer (some (a24.add 2)))) (Wn.no rfl) rfl (R.fld (off := 2) fa63_2 rfl) ?_
        obtain ⟨w26, hww26, h27, h28, h⟩ := M.st_use h
        refine LE.s (Wn.no rfl) rfl (R.st (a := (a24.add 2)) (v := (Value.bool true)) sz4 rfl rfl rfl rfl h27 h28 hww26) ?_
        refine LE.nil ?_
        refine WE.seq ?_
        refine WE.reg ?_
        refine LE.p (v := (SV.v SV.nil)) (Wn.no rfl) rfl (R.assign rfl) ?_
        refine LE.nil ?_
        refine WE.ret ?_
        exact ⟨_, (Res.tmp rfl Res.nil), _, rfl, h⟩
      · intro hb23
        replace h := M.ite_f h hb23
        refine WE.skip ?_
        refine WE.seq ?_
        refine WE.draw mix ?_
        obtain ⟨w29, hww29, h⟩ := M.drew_use h
        rw [← hww29]
        clear hww29
        refine DE.t 1 (v := (Value.pointer p0)) rfl (by kernel_rfl) (Wn.no rfl) rfl (R.move f10) ?_
        obtain ⟨a30, h31, h⟩ := h
        refine DE.t 2 (v := (Value.pointer (some a30))) rfl (by kernel_rfl) (Wn.no rfl) rfl (R.nilC (congrArg Value.pointer h31)) ?_
        refine DE.t 3 (v := (Value.pointer (some a30))) rfl (by kernel_rfl) (Wn.no rfl) rfl (R.fld (off := 0) fa63_0 rfl) ?_
        refine DE.t 5 (v := (Value.pointer p0)) rfl (by kernel_rfl) (Wn.no rfl) rfl (R.move f10) ?_
        obtain ⟨a32, h33, h⟩ := h
        refine DE.t 6 (v := (Value.pointer (some a32))) rfl (by kernel_rfl) (Wn.no rfl) rfl (R.nilC (congrArg Value.pointer h33)) ?_
        refine DE.t 7 (v := (Value.pointer (some (a32.add 1)))) rfl (by kernel_rfl) (Wn.no rfl) rfl (R.fld (off := 1) fa63_1 rfl) ?_
        refine DE.t 9 (v := (Value.pointer p0)) rfl (by kernel_rfl) (Wn.no rfl) rfl (R.move f10) ?_
        obtain ⟨a34, h35, h⟩ := h
        refine DE.t 10 (v := (Value.pointer (some a34))) rfl (by kernel_rfl) (Wn.no rfl) rfl (R.nilC (congrArg Value.pointer h35)) ?_
        refine DE.t 11 (v := (Value.pointer (some (a34.add 1)))) rfl (by kernel_rfl) (Wn.no rfl) rfl (R.fld (off := 1) fa63_1 rfl) ?_
        refine DE.t 13 (v := (Value.int .i64 p1)) rfl (by kernel_rfl) (Wn.no rfl) rfl (R.move f11) ?_
        obtain ⟨t36, h37, h⟩ := h
        refine DE.hold 4 (fun w => w.cell? a30 = some (SV.v t36)) (v := (SV.v t36)) rfl (by kernel_rfl) (Wn.no rfl) rfl h37 (fun w hs => R.ld sc28 rfl hs) ?_
        obtain ⟨t38, h39, h⟩ := h
        refine DE.hold 8 (fun w => w.cell? (a32.add 1) = some (Value.int .i64 t38)) (v := (Value.int .i64 t38)) rfl (by kernel_rfl) (Wn.no rfl) rfl h39 (fun w hs => R.ld sc3 rfl hs) ?_
        obtain ⟨t40, h41, h⟩ := h
        refine DE.hold 12 (fun w => w.cell? (a34.add 1) = some (Value.int .i64 t40)) (v := (Value.int .i64 t40)) rfl (by kernel_rfl) (Wn.no rfl) rfl h41 (fun w hs => R.ld sc3 rfl hs) ?_
        refine DE.t 14 (v := (Value.int .i64 (IntKind.i64.wrap (t40 + p1)))) rfl (by kernel_rfl) (Wn.no rfl) rfl (R.add rfl rfl) ?_
        obtain ⟨h42, h43, h44, h⟩ := h
        refine DE.t 15 (v := (SV.v (SV.sub t36 (Int.toNat t38) (Int.toNat (IntKind.i64.wrap (t40 + p1))) 1))) rfl (by kernel_rfl) (Wn.no rfl) rfl (R.slc (s := t36) (lo := t38) (hi := (IntKind.i64.wrap (t40 + p1))) _ _ sl28 rfl rfl rfl h42 h43 h44) ?_
        obtain ⟨b48, hpb48, w46, hww46, h⟩ := M.new_use h
        obtain ⟨k49, h⟩ := h
        obtain ⟨k50, h⟩ := h
        obtain ⟨k51, h⟩ := h
        refine DE.main 0 (by kernel_rfl) ?_
        refine One.r 0 (v := (SV.v (SV.mk (some b48) 0 0))) rfl (Wn.no rfl) rfl (R.bsl (by exact Ls.nil) (fun w => bs28_0  w) hpb48 hww46) (.inr ⟨fun _ => k49, fun _ => k50, fun _ => k51, trivial⟩) ?_
        obtain ⟨s52, w53, h54, h⟩ := h
        refine DE.main 16 (by kernel_rfl) ?_
        refine One.r 16 (v := (SV.v s52)) rfl (Wn.no rfl) rfl (R.app (s := (SV.mk (some b48) 0 0)) (r := s52) rfl rfl h54) (.inr ⟨aftT (by kernel_rfl), aftT (by kernel_rfl), aftT (by kernel_rfl), trivial⟩) ?_
        refine DE.t 17 (v := (SV.v s52)) rfl (by kernel_rfl) (Wn.no rfl) rfl (R.assign rfl) ?_
        refine DE.done (by kernel_rfl) ?_
        refine WE.seq ?_
        refine WE.reg ?_
        refine LE.p (v := (Value.pointer p0)) (Wn.no rfl) rfl (R.move f10) ?_
        refine LE.p (v := (Value.pointer p0)) (Wn.no rfl) rfl (R.move f10) ?_
        obtain ⟨a55, h56, h⟩ := h
        refine LE.p (v := (Value.pointer (some a55))) (Wn.no rfl) rfl (R.nilC (congrArg Value.pointer h56)) ?_
        refine LE.p (v := (Value.pointer (some (a55.add 1)))) (Wn.no rfl) rfl (R.fld (off := 1) fa63_1 rfl) ?_
        obtain ⟨t57, h58, h⟩ := h
        refine LE.r (v := (Value.int .i64 t57)) (Wn.no rfl) rfl (R.ld sc3 rfl h58) ?_
        refine LE.p (v := (Value.int .i64 p1)) (Wn.no rfl) rfl (R.move f11) ?_
        refine LE.p (v := (Value.int .i64 (IntKind.i64.wrap (t57 + p1)))) (Wn.no rfl) rfl (R.add rfl rfl) ?_
        obtain ⟨a59, h60, h⟩ := h
        refine LE.p (v := (Value.pointer (some a59))) (Wn.no rfl) rfl (R.nilC (congrArg Value.pointer h60)) ?_
        refine LE.p (v := (Value.pointer (some (a59.add 1)))) (Wn.no rfl) rfl (R.fld (off := 1) fa63_1 rfl) ?_
        obtain ⟨w61, hww61, h62, h63, h⟩ := M.st_use h
        refine LE.s (Wn.no rfl) rfl (R.st (a := (a59.add 1)) (v := (Value.int .i64 (IntKind.i64.wrap (t57 + p1)))) sz3 rfl rfl rfl rfl h62 h63 hww61) ?_
        refine LE.nil ?_
        refine WE.seq ?_
        refine WE.reg ?_
        refine LE.p (v := (SV.v s52)) (Wn.no rfl) rfl (R.move rfl) ?_
        refine LE.p (v := (SV.v s52)) (Wn.no rfl) rfl (R.assign rfl) ?_
        refine LE.nil ?_
        refine WE.ret ?_
        exact ⟨_, (Res.tmp rfl Res.nil), _, rfl, h⟩
/-- The formula of (*signpost.signpostref4.Reader).U32. -/
def F39 (p0 : Option Addr) (K : Int → World → Prop) (w0 : World) : Prop :=
Calls Try.prog 44 #[(Value.pointer p0), (Value.int .i64 (4 : Int))] w0 (R44 fun r1 w2 =>
K r1 w2)
theorem F39_ok {w0 : World} {p0 : Option Addr} {K : Int → World → Prop} (h : F39 p0 K w0) : Calls Try.prog 39 #[(Value.pointer p0)] w0 (R39 K) := by
  refine calls_of_WE (args := [(Value.pointer p0)]) (rs := [.tmp 2]) Try.func39 rfl (N := 5) rfl rfl rfl rfl ?_
  refine WE.seq ?_
  refine WE.reg ?_
  refine LE.p (v := (Value.int .u32 (0 : Int))) (Wn.no rfl) rfl (R.assign rfl) ?_
  refine LE.nil ?_
  refine WE.seq ?_
  refine WE.reg ?_
  refine LE.p (v := (Value.pointer p0)) (Wn.no rfl) rfl (R.move rfl) ?_
  refine LE.c (Wn.no rfl) rfl (R.call bd44 (Ls.cons rfl (Ls.cons rfl Ls.nil)) rfl) (Calls.mono h ?_)
  rintro _ w2 ⟨r1, rfl, h⟩
  refine ⟨_, rfl, ?_⟩
  refine LE.p (v := (Value.int .u32 r1)) (Wn.no rfl) rfl (R.assign rfl) ?_
  refine LE.nil ?_
  refine WE.ret ?_
  exact ⟨_, (Res.tmp rfl Res.nil), _, rfl, h⟩
/-- The formula of signpost.addr.Mask. -/
def F40 (p0 : Int) (K : Int → World → Prop) (w0 : World) : Prop :=
M.ite (decide (p0 < (1 : Int))) (
K (0 : Int) w0) (
M.sh (IntKind.i64.wrap ((32 : Int) - (min p0 (32 : Int)))) <|
K (bShl .u32 (4294967295 : Int) (IntKind.i64.wrap ((32 : Int) - (min p0 (32 : Int))))) w0)
theorem F40_ok {w0 : World} {p0 : Int} {K : Int → World → Prop} (h : F40 p0 K w0) : Calls Try.prog 40 #[(Value.int .i64 p0)] w0 (R40 K) := by
  refine calls_of_WE (args := [(Value.int .i64 p0)]) (rs := [.tmp 2]) Try.func40 rfl (N := 9) rfl rfl rfl rfl ?_
  refine WE.seq ?_
  refine WE.reg ?_
  refine LE.p (v := (Value.int .u32 (0 : Int))) (Wn.no rfl) rfl (R.assign rfl) ?_
  refine LE.nil ?_
  refine WE.seq ?_
  refine WE.seq ?_
  refine WE.reg ?_
  refine LE.p (v := (Value.int .i64 p0)) (Wn.no rfl) rfl (R.move rfl) ?_
  refine LE.p (v := (Value.bool (decide (p0 < (1 : Int))))) (Wn.no rfl) rfl (R.lss rfl rfl) ?_
  refine LE.nil ?_
  refine WE.condT rfl (b := (decide (p0 < (1 : Int)))) rfl ?_ ?_
  · intro hb1
    replace h := M.ite_t h hb1
    refine WE.seq ?_
    refine WE.reg ?_
    refine LE.p (v := (Value.int .u32 (0 : Int))) (Wn.no rfl) rfl (R.assign rfl) ?_
    refine LE.nil ?_
    refine WE.ret ?_
    exact ⟨_, (Res.tmp rfl Res.nil), _, rfl, h⟩
  · intro hb1
    replace h := M.ite_f h hb1
    refine WE.skip ?_
    refine WE.seq ?_
    refine WE.reg ?_
    refine LE.p (v := (Value.int .i64 p0)) (Wn.no rfl) rfl (R.move rfl) ?_
    refine LE.p (v := (Value.int .i64 (min p0 (32 : Int)))) (Wn.no rfl) rfl (R.min2 rfl rfl) ?_
    refine LE.p (v := (Value.int .i64 (IntKind.i64.wrap ((32 : Int) - (min p0 (32 : Int)))))) (Wn.no rfl) rfl (R.sub rfl rfl) ?_
    obtain ⟨h2, h⟩ := h
    refine LE.p (v := (Value.int .u32 (bShl .u32 (4294967295 : Int) (IntKind.i64.wrap ((32 : Int) - (min p0 (32 : Int))))))) (Wn.no rfl) rfl (R.shl rfl rfl h2) ?_
    refine LE.p (v := (Value.int .u32 (bShl .u32 (4294967295 : Int) (IntKind.i64.wrap ((32 : Int) - (min p0 (32 : Int))))))) (Wn.no rfl) rfl (R.assign rfl) ?_
    refine LE.nil ?_
    refine WE.ret ?_
    exact ⟨_, (Res.tmp rfl Res.nil), _, rfl, h⟩
/-- The formula of (*signpost.wire.Writer).put. -/
def F41 (p0 : Option Addr) (p1 : Int) (p2 : Int) (K : World → Prop) (w0 : World) : Prop :=
M.loop1 (fun (J2 : Int → World → Prop) (x1 : Int) (w3 : World) => 
M.ite (decide ((0 : Int) ≤ x1)) (
M.drew w3 fun w14 => 
M.nil p0 fun a15 =>
M.sh (IntKind.i64.wrap ((8 : Int) * x1)) <|
M.ld SV.v a15 w14 fun t18 =>
M.new (.cells #[(Value.int .u8 (IntKind.u8.wrap (bShr .u64 p1 (IntKind.i64.wrap ((8 : Int) * x1)))))] 5) w14 fun b22 w20 =>
M.keep (w20.cell? a15 = some (SV.v t18)) <|
M.app Try.prog 28 28 28 t18 (SV.v (SV.mk (some b22) 1 1)) w20 fun s24 w25 =>
M.nil p0 fun a27 =>
M.st a27 (SV.v s24) w25 fun w29 =>
J2 (IntKind.i64.wrap (x1 - (1 : Int))) w29) (
K w3)) (IntKind.i64.wrap (p2 - (1 : Int))) w0
theorem F41_ok {w0 : World} {p0 : Option Addr} {p1 : Int} {p2 : Int} {K : World → Prop} (h : F41 p0 p1 p2 K w0) : Calls Try.prog 41 #[(Value.pointer p0), (Value.int .u64 p1), (Value.int .i64 p2)] w0 (R41 K) := by
  refine calls_of_WE (args := [(Value.pointer p0), (Value.int .u64 p1), (Value.int .i64 p2)]) (rs := []) Try.func41 rfl (N := 27) rfl rfl rfl rfl ?_
  refine WE.seq ?_
  refine WE.reg ?_
  refine LE.p (v := (Value.int .i64 p2)) (Wn.no rfl) rfl (R.move rfl) ?_
  refine LE.p (v := (Value.int .i64 (IntKind.i64.wrap (p2 - (1 : Int))))) (Wn.no rfl) rfl (R.sub rfl rfl) ?_
  refine LE.p (v := (Value.int .i64 (IntKind.i64.wrap (p2 - (1 : Int))))) (Wn.no rfl) rfl (R.assign rfl) ?_
  refine LE.nil ?_
  refine WE.block ?_
  obtain ⟨I6, ⟨n5, h⟩, hr7⟩ := h
  refine WE.loop (fun n e w => ∃ (x1 : Int), I6 n x1 w ∧ e 0 = (Value.pointer p0) ∧ e 1 = (Value.int .u64 p1) ∧ e 6 = (Value.int .i64 x1)) n5 ⟨_, h, rfl, rfl, rfl⟩ ?_
  clear h
  rintro n5 e4 w3 ⟨x1, h, f10, f11, f12⟩
  replace h := hr7 n5 x1 w3 h
  refine WE.seq ?_
  refine WE.seq ?_
  refine WE.reg ?_
  refine LE.p (v := (Value.int .i64 x1)) (Wn.no rfl) rfl (R.move f12) ?_
  refine LE.p (v := (Value.bool (decide ((0 : Int) ≤ x1)))) (Wn.no rfl) rfl (R.geq rfl rfl) ?_
  refine LE.nil ?_
  refine WE.condT rfl (b := (decide ((0 : Int) ≤ x1))) rfl ?_ ?_
  · intro hb13
    replace h := M.ite_t h hb13
    refine WE.skip ?_
    refine WE.seq ?_
    refine WE.block ?_
    refine WE.draw mix ?_
    obtain ⟨w14, hww14, h⟩ := M.drew_use h
    rw [← hww14]
    clear hww14
    refine DE.t 0 (v := (Value.pointer p0)) rfl (by kernel_rfl) (Wn.no rfl) rfl (R.move f10) ?_
    refine DE.t 1 (v := (Value.pointer p0)) rfl (by kernel_rfl) (Wn.no rfl) rfl (R.move f10) ?_
    obtain ⟨a15, h16, h⟩ := h
    refine DE.t 2 (v := (Value.pointer (some a15))) rfl (by kernel_rfl) (Wn.no rfl) rfl (R.nilC (congrArg Value.pointer h16)) ?_
    refine DE.t 3 (v := (Value.pointer (some a15))) rfl (by kernel_rfl) (Wn.no rfl) rfl (R.fld (off := 0) fa66_0 rfl) ?_
    refine DE.t 5 (v := (Value.int .u64 p1)) rfl (by kernel_rfl) (Wn.no rfl) rfl (R.move f11) ?_
    refine DE.t 6 (v := (Value.int .i64 x1)) rfl (by kernel_rfl) (Wn.no rfl) rfl (R.move f12) ?_
    refine DE.t 7 (v := (Value.int .i64 (IntKind.i64.wrap ((8 : Int) * x1)))) rfl (by kernel_rfl) (Wn.no rfl) rfl (R.mul rfl rfl) ?_
    obtain ⟨h17, h⟩ := h
    refine DE.t 8 (v := (Value.int .u64 (bShr .u64 p1 (IntKind.i64.wrap ((8 : Int) * x1))))) rfl (by kernel_rfl) (Wn.no rfl) rfl (R.shr rfl rfl h17) ?_
    refine DE.t 9 (v := (Value.int .u8 (IntKind.u8.wrap (bShr .u64 p1 (IntKind.i64.wrap ((8 : Int) * x1)))))) rfl (by kernel_rfl) (Wn.no rfl) rfl (R.conv in5 in68 rfl) ?_
    obtain ⟨t18, h19, h⟩ := h
    refine DE.hold 4 (fun w => w.cell? a15 = some (SV.v t18)) (v := (SV.v t18)) rfl (by kernel_rfl) (Wn.no rfl) rfl h19 (fun w hs => R.ld sc28 rfl hs) ?_
    obtain ⟨b22, hpb22, w20, hww20, h⟩ := M.new_use h
    obtain ⟨k23, h⟩ := h
    refine DE.main 10 (by kernel_rfl) ?_
    refine One.r 10 (v := (SV.v (SV.mk (some b22) 1 1))) rfl (Wn.no rfl) rfl (R.bsl (by exact (Ls.cons (R.Pr rfl) Ls.nil)) (fun w => bs28_1 (IntKind.u8.wrap (bShr .u64 p1 (IntKind.i64.wrap ((8 : Int) * x1)))) w) hpb22 hww20) (.inr ⟨fun _ => k23, trivial⟩) ?_
    obtain ⟨s24, w25, h26, h⟩ := h
    refine DE.main 11 (by kernel_rfl) ?_
    refine One.r 11 (v := (SV.v s24)) rfl (Wn.no rfl) rfl (R.app (s := t18) (r := s24) rfl rfl h26) (.inr ⟨aftT (by kernel_rfl), trivial⟩) ?_
    obtain ⟨a27, h28, h⟩ := h
    refine DE.t 12 (v := (Value.pointer (some a27))) rfl (by kernel_rfl) (Wn.no rfl) rfl (R.nilC (congrArg Value.pointer h28)) ?_
    refine DE.t 13 (v := (Value.pointer (some a27))) rfl (by kernel_rfl) (Wn.no rfl) rfl (R.fld (off := 0) fa66_0 rfl) ?_
    obtain ⟨w29, hww29, h30, h31, h⟩ := M.st_use h
    refine DE.main 14 (by kernel_rfl) ?_
    refine One.s 14 rfl (Wn.no rfl) rfl (R.st (a := a27) (v := (SV.v s24)) sz28 rfl rfl rfl rfl h30 h31 hww29) ⟨aftT (by kernel_rfl), trivial⟩ ?_
    refine DE.done (by kernel_rfl) ?_
    refine WE.reg ?_
    refine LE.p (v := (Value.int .i64 x1)) (Wn.no rfl) rfl (R.move f12) ?_
    refine LE.p (v := (Value.int .i64 (IntKind.i64.wrap (x1 - (1 : Int))))) (Wn.no rfl) rfl (R.sub rfl rfl) ?_
    refine LE.p (v := (Value.int .i64 (IntKind.i64.wrap (x1 - (1 : Int))))) (Wn.no rfl) rfl (R.assign rfl) ?_
    refine LE.nil ?_
    obtain ⟨m8, hm9, h⟩ := h
    exact ⟨m8, hm9, _, h, f10, f11, rfl⟩
  · intro hb13
    replace h := M.ite_f h hb13
    refine WE.exit ?_
    exact ⟨_,  Res.nil, rfl, h⟩
/-- The formula of slices.Clone[[]byte,byte]. -/
def F42 (p0 : SV) (K : SV → World → Prop) (w0 : World) : Prop :=
M.ite (Option.isNone (SV.a p0)) (
K SV.nil w0) (
M.new (.cells #[] 5) w0 fun b4 w2 =>
M.app Try.prog 28 28 28 (SV.mk (some b4) 0 0) (SV.v p0) w2 fun s5 w6 =>
K s5 w6)
theorem F42_ok {w0 : World} {p0 : SV} {K : SV → World → Prop} (h : F42 p0 K w0) : Calls Try.prog 42 #[(SV.v p0)] w0 (R42 K) := by
  refine calls_of_WE (args := [(SV.v p0)]) (rs := [.tmp 2]) Try.func42 rfl (N := 8) rfl rfl rfl rfl ?_
  refine WE.seq ?_
  refine WE.reg ?_
  refine LE.p (v := (SV.v SV.nil)) (Wn.no rfl) rfl (R.assign rfl) ?_
  refine LE.nil ?_
  refine WE.seq ?_
  refine WE.seq ?_
  refine WE.reg ?_
  refine LE.p (v := (SV.v p0)) (Wn.no rfl) rfl (R.move rfl) ?_
  refine LE.p (v := (Value.bool (Option.isNone (SV.a p0)))) (Wn.no rfl) rfl (R.sleqNil sl28 rfl rfl) ?_
  refine LE.nil ?_
  refine WE.condT rfl (b := (Option.isNone (SV.a p0))) rfl ?_ ?_
  · intro hb1
    replace h := M.ite_t h hb1
    refine WE.seq ?_
    refine WE.reg ?_
    refine LE.p (v := (SV.v SV.nil)) (Wn.no rfl) rfl (R.assign rfl) ?_
    refine LE.nil ?_
    refine WE.ret ?_
    exact ⟨_, (Res.tmp rfl Res.nil), _, rfl, h⟩
  · intro hb1
    replace h := M.ite_f h hb1
    refine WE.skip ?_
    refine WE.seq ?_
    refine WE.reg ?_
    obtain ⟨b4, hpb4, w2, hww2, h⟩ := M.new_use h
    refine LE.r (v := (SV.v (SV.mk (some b4) 0 0))) (Wn.no rfl) rfl (R.bsl (by exact Ls.nil) (fun w => bs28_0  w) hpb4 hww2) ?_
    refine LE.p (v := (SV.v p0)) (Wn.no rfl) rfl (R.move rfl) ?_
    obtain ⟨s5, w6, h7, h⟩ := h
    refine LE.r (v := (SV.v s5)) (Wn.no rfl) rfl (R.app (s := (SV.mk (some b4) 0 0)) (r := s5) rfl rfl h7) ?_
    refine LE.p (v := (SV.v s5)) (Wn.no rfl) rfl (R.assign rfl) ?_
    refine LE.nil ?_
    refine WE.ret ?_
    exact ⟨_, (Res.tmp rfl Res.nil), _, rfl, h⟩
/-- The formula of (*signpost.wire.Reader).get. -/
def F43 (p0 : Option Addr) (p1 : Int) (K : Int → World → Prop) (w0 : World) : Prop :=
Calls Try.prog 33 #[(Value.pointer p0), (Value.int .i64 p1)] w0 (R33 fun r1 w2 =>
M.loop2 (fun (J5 : Int → Int → World → Prop) (x3 : Int) (x4 : Int) (w6 : World) => 
M.ite (decide (x4 < (r1.len : Int))) (
M.idx r1 x4 1 fun a18 =>
M.ld (Value.int .u8) (a18.add (x4.toNat * 1)) w6 fun t22 =>
J5 (bOr .u64 (bShl .u64 x3 (8 : Int)) (IntKind.u64.wrap t22)) (IntKind.i64.wrap (x4 + (1 : Int))) w6) (
K x3 w6)) (0 : Int) (0 : Int) w2)
theorem F43_ok {w0 : World} {p0 : Option Addr} {p1 : Int} {K : Int → World → Prop} (h : F43 p0 p1 K w0) : Calls Try.prog 43 #[(Value.pointer p0), (Value.int .i64 p1)] w0 (R43 K) := by
  refine calls_of_WE (args := [(Value.pointer p0), (Value.int .i64 p1)]) (rs := [.tmp 4]) Try.func43 rfl (N := 23) rfl rfl rfl rfl ?_
  refine WE.seq ?_
  refine WE.reg ?_
  refine LE.p (v := (Value.int .u64 (0 : Int))) (Wn.no rfl) rfl (R.assign rfl) ?_
  refine LE.nil ?_
  refine WE.seq ?_
  refine WE.reg ?_
  refine LE.p (v := (Value.int .u64 (0 : Int))) (Wn.no rfl) rfl (R.assign rfl) ?_
  refine LE.nil ?_
  refine WE.seq ?_
  refine WE.seq ?_
  refine WE.reg ?_
  refine LE.p (v := (Value.pointer p0)) (Wn.no rfl) rfl (R.move rfl) ?_
  refine LE.p (v := (Value.int .i64 p1)) (Wn.no rfl) rfl (R.move rfl) ?_
  refine LE.c (Wn.no rfl) rfl (R.call bd33 (Ls.cons rfl (Ls.cons rfl Ls.nil)) rfl) (Calls.mono h ?_)
  rintro _ w2 ⟨r1, rfl, h⟩
  refine ⟨_, rfl, ?_⟩
  refine LE.p (v := (Value.int .i64 (r1.len : Int))) (Wn.no rfl) rfl (R.len sl28 rfl) ?_
  refine LE.p (v := (Value.int .i64 (0 : Int))) (Wn.no rfl) rfl (R.move rfl) ?_
  refine LE.nil ?_
  refine WE.block ?_
  obtain ⟨I9, ⟨n8, h⟩, hr10⟩ := h
  refine WE.loop (fun n e w => ∃ (x3 : Int) (x4 : Int), I9 n x3 x4 w ∧ e 5 = (Value.int .u64 x3) ∧ e 10 = (SV.v r1) ∧ e 11 = (Value.int .i64 (r1.len : Int)) ∧ e 12 = (Value.int .i64 x4)) n8 ⟨_, _, h, rfl, rfl, rfl, rfl⟩ ?_
  clear h
  rintro n8 e7 w6 ⟨x3, x4, h, f13, f14, f15, f16⟩
  replace h := hr10 n8 x3 x4 w6 h
  refine WE.seq ?_
  refine WE.reg ?_
  refine LE.p (v := (Value.bool (decide (x4 < (r1.len : Int))))) (Wn.no rfl) rfl (R.lss f16 f15) ?_
  refine LE.nil ?_
  refine WE.seq ?_
  refine WE.condT rfl (b := (decide (x4 < (r1.len : Int)))) rfl ?_ ?_
  · intro hb17
    replace h := M.ite_t h hb17
    refine WE.skip ?_
    refine WE.seq ?_
    refine WE.block ?_
    refine WE.seq ?_
    refine WE.reg ?_
    obtain ⟨a18, h19, h20, h21, h⟩ := h
    refine LE.p (v := (Value.pointer (some (a18.add (x4.toNat * 1))))) (Wn.no rfl) rfl (R.idx (s := r1) sl28 f14 f16 h19 h20 h21) ?_
    obtain ⟨t22, h23, h⟩ := h
    refine LE.r (v := (Value.int .u8 t22)) (Wn.no rfl) rfl (R.ld sc5 rfl h23) ?_
    refine LE.p (v := (Value.int .u8 t22)) (Wn.no rfl) rfl (R.assign rfl) ?_
    refine LE.nil ?_
    refine WE.reg ?_
    refine LE.p (v := (Value.int .u64 x3)) (Wn.no rfl) rfl (R.move f13) ?_
    refine LE.p (v := (Value.int .u64 (bShl .u64 x3 (8 : Int)))) (Wn.no rfl) rfl (R.shl rfl rfl (by decide)) ?_
    refine LE.p (v := (Value.int .u8 t22)) (Wn.no rfl) rfl (R.move rfl) ?_
    refine LE.p (v := (Value.int .u64 (IntKind.u64.wrap t22))) (Wn.no rfl) rfl (R.conv in68 in5 rfl) ?_
    refine LE.p (v := (Value.int .u64 (bOr .u64 (bShl .u64 x3 (8 : Int)) (IntKind.u64.wrap t22)))) (Wn.no rfl) rfl (R.or rfl rfl) ?_
    refine LE.p (v := (Value.int .u64 (bOr .u64 (bShl .u64 x3 (8 : Int)) (IntKind.u64.wrap t22)))) (Wn.no rfl) rfl (R.assign rfl) ?_
    refine LE.nil ?_
    refine WE.reg ?_
    refine LE.p (v := (Value.int .i64 (IntKind.i64.wrap (x4 + (1 : Int))))) (Wn.no rfl) rfl (R.add f16 rfl) ?_
    refine LE.p (v := (Value.int .i64 (IntKind.i64.wrap (x4 + (1 : Int))))) (Wn.no rfl) rfl (R.move rfl) ?_
    refine LE.nil ?_
    obtain ⟨m11, hm12, h⟩ := h
    exact ⟨m11, hm12, _, _, h, rfl, f14, f15, rfl⟩
  · intro hb17
    replace h := M.ite_f h hb17
    refine WE.exit ?_
    refine WE.seq ?_
    refine WE.reg ?_
    refine LE.p (v := (Value.int .u64 x3)) (Wn.no rfl) rfl (R.move f13) ?_
    refine LE.p (v := (Value.int .u64 x3)) (Wn.no rfl) rfl (R.assign rfl) ?_
    refine LE.nil ?_
    refine WE.ret ?_
    exact ⟨_, (Res.tmp rfl Res.nil), _, rfl, h⟩
/-- The formula of (*signpost.signpostref4.Reader).number. -/
def F44 (p0 : Option Addr) (p1 : Int) (K : Int → World → Prop) (w0 : World) : Prop :=
Calls Try.prog 38 #[(Value.pointer p0), (Value.int .i64 p1)] w0 (R38 fun r1 w2 =>
M.loop2 (fun (J5 : Int → Int → World → Prop) (x3 : Int) (x4 : Int) (w6 : World) => 
M.ite (decide (x4 < (r1.len : Int))) (
M.idx r1 x4 1 fun a17 =>
M.ld (Value.int .u8) (a17.add (x4.toNat * 1)) w6 fun t21 =>
J5 (bOr .u32 (bShl .u32 x3 (8 : Int)) (IntKind.u32.wrap t21)) (IntKind.i64.wrap (x4 + (1 : Int))) w6) (
K x3 w6)) (0 : Int) (0 : Int) w2)
theorem F44_ok {w0 : World} {p0 : Option Addr} {p1 : Int} {K : Int → World → Prop} (h : F44 p0 p1 K w0) : Calls Try.prog 44 #[(Value.pointer p0), (Value.int .i64 p1)] w0 (R44 K) := by
  refine calls_of_WE (args := [(Value.pointer p0), (Value.int .i64 p1)]) (rs := [.tmp 4]) Try.func44 rfl (N := 26) rfl rfl rfl rfl ?_
  refine WE.seq ?_
  refine WE.reg ?_
  refine LE.p (v := (Value.int .u32 (0 : Int))) (Wn.no rfl) rfl (R.assign rfl) ?_
  refine LE.nil ?_
  refine WE.seq ?_
  refine WE.reg ?_
  refine LE.p (v := (Value.pointer p0)) (Wn.no rfl) rfl (R.move rfl) ?_
  refine LE.p (v := (Value.int .i64 p1)) (Wn.no rfl) rfl (R.move rfl) ?_
  refine LE.c (Wn.no rfl) rfl (R.call bd38 (Ls.cons rfl (Ls.cons rfl Ls.nil)) rfl) (Calls.mono h ?_)
  rintro _ w2 ⟨r1, rfl, h⟩
  refine ⟨_, rfl, ?_⟩
  refine LE.p (v := (SV.v r1)) (Wn.no rfl) rfl (R.assign rfl) ?_
  refine LE.nil ?_
  refine WE.seq ?_
  refine WE.reg ?_
  refine LE.p (v := (Value.int .u32 (0 : Int))) (Wn.no rfl) rfl (R.assign rfl) ?_
  refine LE.nil ?_
  refine WE.seq ?_
  refine WE.seq ?_
  refine WE.reg ?_
  refine LE.p (v := (Value.int .i64 (0 : Int))) (Wn.no rfl) rfl (R.assign rfl) ?_
  refine LE.nil ?_
  refine WE.block ?_
  obtain ⟨I9, ⟨n8, h⟩, hr10⟩ := h
  refine WE.loop (fun n e w => ∃ (x3 : Int) (x4 : Int), I9 n x3 x4 w ∧ e 5 = (SV.v r1) ∧ e 6 = (Value.int .u32 x3) ∧ e 7 = (Value.int .i64 x4)) n8 ⟨_, _, h, rfl, rfl, rfl⟩ ?_
  clear h
  rintro n8 e7 w6 ⟨x3, x4, h, f13, f14, f15⟩
  replace h := hr10 n8 x3 x4 w6 h
  refine WE.seq ?_
  refine WE.seq ?_
  refine WE.reg ?_
  refine LE.p (v := (Value.int .i64 x4)) (Wn.no rfl) rfl (R.move f15) ?_
  refine LE.p (v := (SV.v r1)) (Wn.no rfl) rfl (R.move f13) ?_
  refine LE.p (v := (Value.int .i64 (r1.len : Int))) (Wn.no rfl) rfl (R.len sl28 rfl) ?_
  refine LE.p (v := (Value.bool (decide (x4 < (r1.len : Int))))) (Wn.no rfl) rfl (R.lss rfl rfl) ?_
  refine LE.nil ?_
  refine WE.condT rfl (b := (decide (x4 < (r1.len : Int)))) rfl ?_ ?_
  · intro hb16
    replace h := M.ite_t h hb16
    refine WE.skip ?_
    refine WE.seq ?_
    refine WE.block ?_
    refine WE.reg ?_
    refine LE.p (v := (Value.int .u32 x3)) (Wn.no rfl) rfl (R.move f14) ?_
    refine LE.p (v := (Value.int .u32 (bShl .u32 x3 (8 : Int)))) (Wn.no rfl) rfl (R.shl rfl rfl (by decide)) ?_
    refine LE.p (v := (SV.v r1)) (Wn.no rfl) rfl (R.move f13) ?_
    refine LE.p (v := (Value.int .i64 x4)) (Wn.no rfl) rfl (R.move f15) ?_
    obtain ⟨a17, h18, h19, h20, h⟩ := h
    refine LE.p (v := (Value.pointer (some (a17.add (x4.toNat * 1))))) (Wn.no rfl) rfl (R.idx (s := r1) sl28 rfl rfl h18 h19 h20) ?_
    obtain ⟨t21, h22, h⟩ := h
    refine LE.r (v := (Value.int .u8 t21)) (Wn.no rfl) rfl (R.ld sc5 rfl h22) ?_
    refine LE.p (v := (Value.int .u32 (IntKind.u32.wrap t21))) (Wn.no rfl) rfl (R.conv in22 in5 rfl) ?_
    refine LE.p (v := (Value.int .u32 (bOr .u32 (bShl .u32 x3 (8 : Int)) (IntKind.u32.wrap t21)))) (Wn.no rfl) rfl (R.or rfl rfl) ?_
    refine LE.p (v := (Value.int .u32 (bOr .u32 (bShl .u32 x3 (8 : Int)) (IntKind.u32.wrap t21)))) (Wn.no rfl) rfl (R.assign rfl) ?_
    refine LE.nil ?_
    refine WE.reg ?_
    refine LE.p (v := (Value.int .i64 x4)) (Wn.no rfl) rfl (R.move f15) ?_
    refine LE.p (v := (Value.int .i64 (IntKind.i64.wrap (x4 + (1 : Int))))) (Wn.no rfl) rfl (R.add rfl rfl) ?_
    refine LE.p (v := (Value.int .i64 (IntKind.i64.wrap (x4 + (1 : Int))))) (Wn.no rfl) rfl (R.assign rfl) ?_
    refine LE.nil ?_
    obtain ⟨m11, hm12, h⟩ := h
    exact ⟨m11, hm12, _, _, h, f13, rfl, rfl⟩
  · intro hb16
    replace h := M.ite_f h hb16
    refine WE.exit ?_
    refine WE.seq ?_
    refine WE.reg ?_
    refine LE.p (v := (Value.int .u32 x3)) (Wn.no rfl) rfl (R.move f14) ?_
    refine LE.p (v := (Value.int .u32 x3)) (Wn.no rfl) rfl (R.assign rfl) ?_
    refine LE.nil ?_
    refine WE.ret ?_
    exact ⟨_, (Res.tmp rfl Res.nil), _, rfl, h⟩
end Go.Proofs.Ytfcgkkgdnagmcaa
