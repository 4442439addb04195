/-
  Printed by gen.py: the formula of each function, and that it holds of the function.
-/
import Derived.Test.YtmgigplbclkpaaaTy
namespace Go.Proofs.Ytmgigplbclkpaaa
set_option linter.unusedVariables false
set_option linter.unusedSimpArgs false
open Go.Sp
set_option linter.unusedVariables false
/-- The formula of signpost.signpostlaw17.in. -/
def F21 (p0 : SV) (K : SV → World → Prop) (w0 : World) : Prop :=
M.loop2 (fun (J3 : SV → Int → World → Prop) (x1 : SV) (x2 : Int) (w4 : World) => 
M.ite (decide (x2 < (p0.len : Int))) (
M.drew w4 fun w15 => 
M.idx p0 x2 14 fun a16 =>
M.idx p0 x2 14 fun a20 =>
∃ (t24 : Int) (t25 : Int) (t26 : Int) (t27 : Bool) (t28 : Int) (t29 : SV) (t30 : Int) (t31 : Bool) (t32 : Int) (t33 : Bool) (t34 : Int) (t35 : Bool) (t36 : SV), Cs w15 (a16.add (x2.toNat * 14)) 0 [(Value.int .i64 t24), (Value.int .u32 t25), (Value.int .u32 t26), (Value.bool t27), (Value.int .i64 t28), (SV.v t29), (Value.int .u32 t30), (Value.bool t31), (Value.int .u32 t32), (Value.bool t33), (Value.int .u32 t34), (Value.bool t35), (SV.v t36)] ∧
M.ld (Value.float .f64) ((a20.add (x2.toNat * 14)).add 13) w15 fun t38 =>
M.new (.cells #[(Value.int .i64 t24), (Value.int .u32 t25), (Value.int .u32 t26), (Value.bool t27), (Value.int .i64 t28), (SV.v t29), (Value.int .u32 t30), (Value.bool t31), (Value.int .u32 t32), (Value.bool t33), (Value.int .u32 t34), (Value.bool t35), (SV.v t36), (Value.float .f64 t38)] 59) w15 fun b42 w40 =>
M.app Try.prog 54 54 54 x1 (SV.v (SV.mk (some b42) 1 1)) w40 fun s43 w44 =>
J3 s43 (IntKind.i64.wrap (x2 + (1 : Int))) w44) (
K x1 w4)) SV.nil (0 : Int) w0
theorem F21_ok {w0 : World} {p0 : SV} {K : SV → World → Prop} (h : F21 p0 K w0) : Calls Try.prog 21 #[(SV.v p0)] w0 (R21 K) := by
  refine calls_of_WE (args := [(SV.v p0)]) (rs := [.tmp 2]) Try.func21 rfl (N := 26) rfl rfl rfl rfl ?_
  refine WE.seq ?_
  refine WE.reg ?_
  refine LE.p (v := (SV.v SV.nil)) (Wn.no rfl) rfl (R.assign rfl) ?_
  refine LE.nil ?_
  refine WE.seq ?_
  refine WE.reg ?_
  refine LE.p (v := (SV.v SV.nil)) (Wn.no rfl) rfl (R.assign rfl) ?_
  refine LE.nil ?_
  refine WE.seq ?_
  refine WE.seq ?_
  refine WE.reg ?_
  refine LE.p (v := (Value.int .i64 (0 : Int))) (Wn.no rfl) rfl (R.assign rfl) ?_
  refine LE.nil ?_
  refine WE.block ?_
  obtain ⟨I7, ⟨n6, h⟩, hr8⟩ := h
  refine WE.loop (fun n e w => ∃ (x1 : SV) (x2 : Int), I7 n x1 x2 w ∧ e 0 = (SV.v p0) ∧ e 3 = (SV.v x1) ∧ e 4 = (Value.int .i64 x2)) n6 ⟨_, _, h, rfl, rfl, rfl⟩ ?_
  clear h
  rintro n6 e5 w4 ⟨x1, x2, h, f11, f12, f13⟩
  replace h := hr8 n6 x1 x2 w4 h
  refine WE.seq ?_
  refine WE.seq ?_
  refine WE.reg ?_
  refine LE.p (v := (Value.int .i64 x2)) (Wn.no rfl) rfl (R.move f13) ?_
  refine LE.p (v := (SV.v p0)) (Wn.no rfl) rfl (R.move f11) ?_
  refine LE.p (v := (Value.int .i64 (p0.len : Int))) (Wn.no rfl) rfl (R.len sl24 rfl) ?_
  refine LE.p (v := (Value.bool (decide (x2 < (p0.len : Int))))) (Wn.no rfl) rfl (R.lss rfl rfl) ?_
  refine LE.nil ?_
  refine WE.condT rfl (b := (decide (x2 < (p0.len : Int)))) rfl ?_ ?_
  · intro hb14
    replace h := M.ite_t h hb14
    refine WE.skip ?_
    refine WE.seq ?_
    refine WE.block ?_
    refine WE.draw mix ?_
    obtain ⟨w15, hww15, h⟩ := M.drew_use h
    rw [← hww15]
    clear hww15
    refine DE.t 0 (v := (SV.v x1)) rfl (by kernel_rfl) (Wn.no rfl) rfl (R.move f12) ?_
    refine DE.t 1 (v := (SV.v p0)) rfl (by kernel_rfl) (Wn.no rfl) rfl (R.move f11) ?_
    refine DE.t 2 (v := (Value.int .i64 x2)) rfl (by kernel_rfl) (Wn.no rfl) rfl (R.move f13) ?_
    obtain ⟨a16, h17, h18, h19, h⟩ := h
    refine DE.t 3 (v := (Value.pointer (some (a16.add (x2.toNat * 14))))) rfl (by kernel_rfl) (Wn.no rfl) rfl (R.idx (s := p0) sl24 rfl rfl h17 h18 h19) ?_
    refine DE.t 4 (v := (Value.pointer (some (a16.add (x2.toNat * 14))))) rfl (by kernel_rfl) (Wn.no rfl) rfl (R.fld (off := 0) fa37_0 rfl) ?_
    refine DE.t 6 (v := (SV.v p0)) rfl (by kernel_rfl) (Wn.no rfl) rfl (R.move f11) ?_
    refine DE.t 7 (v := (Value.int .i64 x2)) rfl (by kernel_rfl) (Wn.no rfl) rfl (R.move f13) ?_
    obtain ⟨a20, h21, h22, h23, h⟩ := h
    refine DE.t 8 (v := (Value.pointer (some (a20.add (x2.toNat * 14))))) rfl (by kernel_rfl) (Wn.no rfl) rfl (R.idx (s := p0) sl24 rfl rfl h21 h22 h23) ?_
    refine DE.t 9 (v := (Value.pointer (some ((a20.add (x2.toNat * 14)).add 13)))) rfl (by kernel_rfl) (Wn.no rfl) rfl (R.fld (off := 13) fa37_1 rfl) ?_
    obtain ⟨t24, t25, t26, t27, t28, t29, t30, t31, t32, t33, t34, t35, t36, h37, h⟩ := h
    refine DE.hold 5 (fun w => Cs w (a16.add (x2.toNat * 14)) 0 [(Value.int .i64 t24), (Value.int .u32 t25), (Value.int .u32 t26), (Value.bool t27), (Value.int .i64 t28), (SV.v t29), (Value.int .u32 t30), (Value.bool t31), (Value.int .u32 t32), (Value.bool t33), (Value.int .u32 t34), (Value.bool t35), (SV.v t36)]) (v := (Value.agg #[(Value.int .i64 t24), (Value.int .u32 t25), (Value.int .u32 t26), (Value.bool t27), (Value.int .i64 t28), (SV.v t29), (Value.int .u32 t30), (Value.bool t31), (Value.int .u32 t32), (Value.bool t33), (Value.int .u32 t34), (Value.bool t35), (SV.v t36)])) rfl (by kernel_rfl) (Wn.no rfl) rfl h37 (fun w hs => R.ldA ag34 sz34 rfl rfl hs) ?_
    obtain ⟨t38, h39, h⟩ := h
    refine DE.main 10 (by kernel_rfl) ?_
    refine One.r 10 (v := (Value.float .f64 t38)) rfl (Wn.no rfl) rfl (R.ld sc35 rfl h39) (.inl rfl) ?_
    refine DE.t 11 (v := (Value.agg #[(Value.int .i64 t24), (Value.int .u32 t25), (Value.int .u32 t26), (Value.bool t27), (Value.int .i64 t28), (SV.v t29), (Value.int .u32 t30), (Value.bool t31), (Value.int .u32 t32), (Value.bool t33), (Value.int .u32 t34), (Value.bool t35), (SV.v t36), (Value.float .f64 t38)])) rfl (by kernel_rfl) (Wn.no rfl) rfl (R.bld (by exact (Ls.cons (R.Pr rfl) (Ls.cons (R.Pr rfl) Ls.nil))) (fun w => bu59_0_1 t24 t25 t26 t27 t28 t29 t30 t31 t32 t33 t34 t35 t36 t38 w)) ?_
    obtain ⟨b42, hpb42, w40, hww40, h⟩ := M.new_use h
    refine DE.main 12 (by kernel_rfl) ?_
    refine One.r 12 (v := (SV.v (SV.mk (some b42) 1 1))) rfl (Wn.no rfl) rfl (R.bsl (by exact (Ls.cons (R.Pr rfl) Ls.nil)) (fun w => bs54_1 t24 t25 t26 t27 t28 t29 t30 t31 t32 t33 t34 t35 t36 t38 w) hpb42 hww40) (.inr ⟨aftT (by kernel_rfl), trivial⟩) ?_
    obtain ⟨s43, w44, h45, h⟩ := h
    refine DE.main 13 (by kernel_rfl) ?_
    refine One.r 13 (v := (SV.v s43)) rfl (Wn.no rfl) rfl (R.app (s := x1) (r := s43) rfl rfl h45) (.inr ⟨aftT (by kernel_rfl), trivial⟩) ?_
    refine DE.t 14 (v := (SV.v s43)) rfl (by kernel_rfl) (Wn.no rfl) rfl (R.assign rfl) ?_
    refine DE.done (by kernel_rfl) ?_
    refine WE.reg ?_
    refine LE.p (v := (Value.int .i64 x2)) (Wn.no rfl) rfl (R.move f13) ?_
    refine LE.p (v := (Value.int .i64 (IntKind.i64.wrap (x2 + (1 : Int))))) (Wn.no rfl) rfl (R.add rfl rfl) ?_
    refine LE.p (v := (Value.int .i64 (IntKind.i64.wrap (x2 + (1 : Int))))) (Wn.no rfl) rfl (R.assign rfl) ?_
    refine LE.nil ?_
    obtain ⟨m9, hm10, h⟩ := h
    exact ⟨m9, hm10, _, _, h, f11, rfl, rfl⟩
  · intro hb14
    replace h := M.ite_f h hb14
    refine WE.exit ?_
    refine WE.seq ?_
    refine WE.reg ?_
    refine LE.p (v := (SV.v x1)) (Wn.no rfl) rfl (R.move f12) ?_
    refine LE.p (v := (SV.v x1)) (Wn.no rfl) rfl (R.assign rfl) ?_
    refine LE.nil ?_
    refine WE.ret ?_
    exact ⟨_, (Res.tmp rfl Res.nil), _, rfl, h⟩
/-- The formula of signpost.signpostbook.Same[int]. -/
def F22 (p0 : SV) (p1 : SV) (K : Bool → World → Prop) (w0 : World) : Prop :=
M.ite ((p0.len : Int) != (p1.len : Int)) (
K false w0) (
M.loop1 (fun (J3 : Int → World → Prop) (x2 : Int) (w4 : World) => 
M.ite (decide (x2 < (p0.len : Int))) (
M.drew w4 fun w15 => 
M.idx p0 x2 1 fun a16 =>
M.idx p1 x2 1 fun a20 =>
M.ld (Value.int .i64) (a16.add (x2.toNat * 1)) w15 fun t24 =>
M.ld (Value.int .i64) (a20.add (x2.toNat * 1)) w15 fun t26 =>
M.ite (t24 != t26) (
K false w15) (
J3 (IntKind.i64.wrap (x2 + (1 : Int))) w15)) (
K true w4)) (0 : Int) w0)
theorem F22_ok {w0 : World} {p0 : SV} {p1 : SV} {K : Bool → World → Prop} (h : F22 p0 p1 K w0) : Calls Try.prog 22 #[(SV.v p0), (SV.v p1)] w0 (R22 K) := by
  refine calls_of_WE (args := [(SV.v p0), (SV.v p1)]) (rs := [.tmp 4]) Try.func22 rfl (N := 26) rfl rfl rfl rfl ?_
  refine WE.seq ?_
  refine WE.reg ?_
  refine LE.p (v := (Value.bool false)) (Wn.no rfl) rfl (R.assign rfl) ?_
  refine LE.nil ?_
  refine WE.seq ?_
  refine WE.seq ?_
  refine WE.reg ?_
  refine LE.p (v := (SV.v p0)) (Wn.no rfl) rfl (R.move rfl) ?_
  refine LE.p (v := (Value.int .i64 (p0.len : Int))) (Wn.no rfl) rfl (R.len sl38 rfl) ?_
  refine LE.p (v := (SV.v p1)) (Wn.no rfl) rfl (R.move rfl) ?_
  refine LE.p (v := (Value.int .i64 (p1.len : Int))) (Wn.no rfl) rfl (R.len sl38 rfl) ?_
  refine LE.p (v := (Value.bool ((p0.len : Int) != (p1.len : Int)))) (Wn.no rfl) rfl (R.neq rfl rfl) ?_
  refine LE.nil ?_
  refine WE.condT rfl (b := ((p0.len : Int) != (p1.len : Int))) rfl ?_ ?_
  · intro hb1
    replace h := M.ite_t h hb1
    refine WE.seq ?_
    refine WE.reg ?_
    refine LE.p (v := (Value.bool false)) (Wn.no rfl) rfl (R.assign rfl) ?_
    refine LE.nil ?_
    refine WE.ret ?_
    exact ⟨_, (Res.tmp rfl Res.nil), _, rfl, h⟩
  · intro hb1
    replace h := M.ite_f h hb1
    refine WE.skip ?_
    refine WE.seq ?_
    refine WE.seq ?_
    refine WE.reg ?_
    refine LE.p (v := (Value.int .i64 (0 : Int))) (Wn.no rfl) rfl (R.assign rfl) ?_
    refine LE.nil ?_
    refine WE.block ?_
    obtain ⟨I7, ⟨n6, h⟩, hr8⟩ := h
    refine WE.loop (fun n e w => ∃ (x2 : Int), I7 n x2 w ∧ e 0 = (SV.v p0) ∧ e 1 = (SV.v p1) ∧ e 5 = (Value.int .i64 x2)) n6 ⟨_, h, rfl, rfl, rfl⟩ ?_
    clear h
    rintro n6 e5 w4 ⟨x2, h, f11, f12, f13⟩
    replace h := hr8 n6 x2 w4 h
    refine WE.seq ?_
    refine WE.seq ?_
    refine WE.reg ?_
    refine LE.p (v := (Value.int .i64 x2)) (Wn.no rfl) rfl (R.move f13) ?_
    refine LE.p (v := (SV.v p0)) (Wn.no rfl) rfl (R.move f11) ?_
    refine LE.p (v := (Value.int .i64 (p0.len : Int))) (Wn.no rfl) rfl (R.len sl38 rfl) ?_
    refine LE.p (v := (Value.bool (decide (x2 < (p0.len : Int))))) (Wn.no rfl) rfl (R.lss rfl rfl) ?_
    refine LE.nil ?_
    refine WE.condT rfl (b := (decide (x2 < (p0.len : Int)))) rfl ?_ ?_
    · intro hb14
      replace h := M.ite_t h hb14
      refine WE.skip ?_
      refine WE.seq ?_
      refine WE.block ?_
      refine WE.seq ?_
      refine WE.draw mix ?_
      obtain ⟨w15, hww15, h⟩ := M.drew_use h
      rw [← hww15]
      clear hww15
      refine DE.t 0 (v := (SV.v p0)) rfl (by kernel_rfl) (Wn.no rfl) rfl (R.move f11) ?_
      refine DE.t 1 (v := (Value.int .i64 x2)) rfl (by kernel_rfl) (Wn.no rfl) rfl (R.move f13) ?_
      obtain ⟨a16, h17, h18, h19, h⟩ := h
      refine DE.t 2 (v := (Value.pointer (some (a16.add (x2.toNat * 1))))) rfl (by kernel_rfl) (Wn.no rfl) rfl (R.idx (s := p0) sl38 rfl rfl h17 h18 h19) ?_
      refine DE.t 4 (v := (SV.v p1)) rfl (by kernel_rfl) (Wn.no rfl) rfl (R.move f12) ?_
      refine DE.t 5 (v := (Value.int .i64 x2)) rfl (by kernel_rfl) (Wn.no rfl) rfl (R.move f13) ?_
      obtain ⟨a20, h21, h22, h23, h⟩ := h
      refine DE.t 6 (v := (Value.pointer (some (a20.add (x2.toNat * 1))))) rfl (by kernel_rfl) (Wn.no rfl) rfl (R.idx (s := p1) sl38 rfl rfl h21 h22 h23) ?_
      obtain ⟨t24, h25, h⟩ := h
      refine DE.hold 3 (fun w => w.cell? (a16.add (x2.toNat * 1)) = some (Value.int .i64 t24)) (v := (Value.int .i64 t24)) rfl (by kernel_rfl) (Wn.no rfl) rfl h25 (fun w hs => R.ld sc3 rfl hs) ?_
      obtain ⟨t26, h27, h⟩ := h
      refine DE.main 7 (by kernel_rfl) ?_
      refine One.r 7 (v := (Value.int .i64 t26)) rfl (Wn.no rfl) rfl (R.ld sc3 rfl h27) (.inl rfl) ?_
      refine DE.t 8 (v := (Value.bool (t24 != t26))) rfl (by kernel_rfl) (Wn.no rfl) rfl (R.neq rfl rfl) ?_
      refine DE.done (by kernel_rfl) ?_
      refine WE.condT rfl (b := (t24 != t26)) rfl ?_ ?_
      · intro hb28
        replace h := M.ite_t h hb28
        refine WE.seq ?_
        refine WE.reg ?_
        refine LE.p (v := (Value.bool false)) (Wn.no rfl) rfl (R.assign rfl) ?_
        refine LE.nil ?_
        refine WE.ret ?_
        exact ⟨_, (Res.tmp rfl Res.nil), _, rfl, h⟩
      · intro hb28
        replace h := M.ite_f h hb28
        refine WE.skip ?_
        refine WE.reg ?_
        refine LE.p (v := (Value.int .i64 x2)) (Wn.no rfl) rfl (R.move f13) ?_
        refine LE.p (v := (Value.int .i64 (IntKind.i64.wrap (x2 + (1 : Int))))) (Wn.no rfl) rfl (R.add rfl rfl) ?_
        refine LE.p (v := (Value.int .i64 (IntKind.i64.wrap (x2 + (1 : Int))))) (Wn.no rfl) rfl (R.assign rfl) ?_
        refine LE.nil ?_
        obtain ⟨m9, hm10, h⟩ := h
        exact ⟨m9, hm10, _, h, f11, f12, rfl⟩
    · intro hb14
      replace h := M.ite_f h hb14
      refine WE.exit ?_
      refine WE.seq ?_
      refine WE.reg ?_
      refine LE.p (v := (Value.bool true)) (Wn.no rfl) rfl (R.assign rfl) ?_
      refine LE.nil ?_
      refine WE.ret ?_
      exact ⟨_, (Res.tmp rfl Res.nil), _, rfl, h⟩
/-- The formula of signpost.signpostref17.Left. -/
def F23 (p0 : SV) (p1 : Int) (K : SV → World → Prop) (w0 : World) : Prop :=
M.loop2 (fun (J3 : SV → Int → World → Prop) (x1 : SV) (x2 : Int) (w4 : World) => 
M.ite (decide (x2 < (p0.len : Int))) (
M.new (.cells #[(Value.int .i64 x2)] 3) w4 fun b18 w16 =>
M.app Try.prog 38 38 38 x1 (SV.v (SV.mk (some b18) 1 1)) w16 fun s19 w20 =>
J3 s19 (IntKind.i64.wrap (x2 + (1 : Int))) w20) (
M.loop2 (fun (J24 : SV → Int → World → Prop) (x22 : SV) (x23 : Int) (w25 : World) => 
M.join (fun (x37 : Bool) (w40 : World) => 
M.ite x37 (
M.loop2 (fun (J49 : SV → Int → World → Prop) (x47 : SV) (x48 : Int) (w50 : World) => 
M.ite (decide (x48 < (x22.len : Int))) (
M.join (fun (x65 : SV) (w165 : World) => 
J49 x65 (IntKind.i64.wrap (x48 + (1 : Int))) w165) fun J64 => 
M.loop2 (fun (J68 : Bool → Int → World → Prop) (x66 : Bool) (x67 : Int) (w69 : World) => 
M.ite (decide (x67 < (x22.len : Int))) (
M.join (fun (x86 : Bool) (w142 : World) => 
J68 x86 (IntKind.i64.wrap (x67 + (1 : Int))) w142) fun J85 => 
M.drew w69 fun w87 => 
M.ite x66 (
J85 true w87) (
M.idx x22 x48 1 fun a89 =>
M.idx x22 x67 1 fun a93 =>
M.ld (Value.int .i64) (a89.add (x48.toNat * 1)) w87 fun t97 =>
M.idx p0 t97 14 fun a99 =>
∃ (t103 : Int) (t104 : Int) (t105 : Int) (t106 : Bool) (t107 : Int) (t108 : SV) (t109 : Int) (t110 : Bool) (t111 : Int) (t112 : Bool) (t113 : Int) (t114 : Bool) (t115 : SV) (t116 : Nat), Cs w87 (a99.add (t97.toNat * 14)) 0 [(Value.int .i64 t103), (Value.int .u32 t104), (Value.int .u32 t105), (Value.bool t106), (Value.int .i64 t107), (SV.v t108), (Value.int .u32 t109), (Value.bool t110), (Value.int .u32 t111), (Value.bool t112), (Value.int .u32 t113), (Value.bool t114), (SV.v t115), (Value.float .f64 t116)] ∧
M.ld (Value.int .i64) (a93.add (x67.toNat * 1)) w87 fun t118 =>
M.idx p0 t118 14 fun a120 =>
∃ (t124 : Int) (t125 : Int) (t126 : Int) (t127 : Bool) (t128 : Int) (t129 : SV) (t130 : Int) (t131 : Bool) (t132 : Int) (t133 : Bool) (t134 : Int) (t135 : Bool) (t136 : SV) (t137 : Nat), Cs w87 (a120.add (t118.toNat * 14)) 0 [(Value.int .i64 t124), (Value.int .u32 t125), (Value.int .u32 t126), (Value.bool t127), (Value.int .i64 t128), (SV.v t129), (Value.int .u32 t130), (Value.bool t131), (Value.int .u32 t132), (Value.bool t133), (Value.int .u32 t134), (Value.bool t135), (SV.v t136), (Value.float .f64 t137)] ∧
Calls Try.prog 31 #[(Value.agg #[(Value.int .i64 t103), (Value.int .u32 t104), (Value.int .u32 t105), (Value.bool t106), (Value.int .i64 t107), (SV.v t108), (Value.int .u32 t109), (Value.bool t110), (Value.int .u32 t111), (Value.bool t112), (Value.int .u32 t113), (Value.bool t114), (SV.v t115), (Value.float .f64 t116)]), (Value.agg #[(Value.int .i64 t124), (Value.int .u32 t125), (Value.int .u32 t126), (Value.bool t127), (Value.int .i64 t128), (SV.v t129), (Value.int .u32 t130), (Value.bool t131), (Value.int .u32 t132), (Value.bool t133), (Value.int .u32 t134), (Value.bool t135), (SV.v t136), (Value.float .f64 t137)]), (Value.int .i64 x23)] w87 (R31 fun r139 w140 =>
J85 r139 w140))) (
M.ite (!x66) (
M.idx x22 x48 1 fun a152 =>
M.ld (Value.int .i64) (a152.add (x48.toNat * 1)) w69 fun t156 =>
M.new (.cells #[(Value.int .i64 t156)] 3) w69 fun b160 w158 =>
M.app Try.prog 38 38 38 x47 (SV.v (SV.mk (some b160) 1 1)) w158 fun s161 w162 =>
J64 s161 w162) (
J64 x47 w69))) false (0 : Int) w50) (
J24 x47 (IntKind.i64.wrap (x23 + (1 : Int))) w50)) SV.nil (0 : Int) w40) (
M.join (fun (x173 : SV) (w187 : World) => 
K x173 w187) fun J172 => 
M.join (fun (x175 : Bool) (w178 : World) => 
M.ite x175 (
M.bnd (0 : Int) (1 : Int) x22 <|
J172 (SV.sub x22 (Int.toNat (0 : Int)) (Int.toNat (1 : Int)) 1) w178) (
J172 x22 w178)) fun J174 => 
M.ite (decide ((7 : Int) ≤ p1)) (
J174 (decide ((1 : Int) < (x22.len : Int))) w40) (
J174 false w40))) fun J36 => 
M.ite (decide (x23 ≤ p1)) (
J36 (decide (x23 ≤ (7 : Int))) w25) (
J36 false w25)) x1 (1 : Int) w4)) SV.nil (0 : Int) w0
theorem F23_ok {w0 : World} {p0 : SV} {p1 : Int} {K : SV → World → Prop} (h : F23 p0 p1 K w0) : Calls Try.prog 23 #[(SV.v p0), (Value.int .i64 p1)] w0 (R23 K) := by
  refine calls_of_WE (args := [(SV.v p0), (Value.int .i64 p1)]) (rs := [.tmp 4]) Try.func23 rfl (N := 82) rfl rfl rfl rfl ?_
  refine WE.seq ?_
  refine WE.reg ?_
  refine LE.p (v := (SV.v SV.nil)) (Wn.no rfl) rfl (R.assign rfl) ?_
  refine LE.nil ?_
  refine WE.seq ?_
  refine WE.reg ?_
  refine LE.p (v := (SV.v SV.nil)) (Wn.no rfl) rfl (R.assign rfl) ?_
  refine LE.nil ?_
  refine WE.seq ?_
  refine WE.seq ?_
  refine WE.reg ?_
  refine LE.p (v := (Value.int .i64 (0 : Int))) (Wn.no rfl) rfl (R.assign rfl) ?_
  refine LE.nil ?_
  refine WE.block ?_
  obtain ⟨I7, ⟨n6, h⟩, hr8⟩ := h
  refine WE.loop (fun n e w => ∃ (x1 : SV) (x2 : Int), I7 n x1 x2 w ∧ e 0 = (SV.v p0) ∧ e 1 = (Value.int .i64 p1) ∧ e 5 = (SV.v x1) ∧ e 6 = (Value.int .i64 x2)) n6 ⟨_, _, h, rfl, rfl, rfl, rfl⟩ ?_
  clear h
  rintro n6 e5 w4 ⟨x1, x2, h, f11, f12, f13, f14⟩
  replace h := hr8 n6 x1 x2 w4 h
  refine WE.seq ?_
  refine WE.seq ?_
  refine WE.reg ?_
  refine LE.p (v := (Value.int .i64 x2)) (Wn.no rfl) rfl (R.move f14) ?_
  refine LE.p (v := (SV.v p0)) (Wn.no rfl) rfl (R.move f11) ?_
  refine LE.p (v := (Value.int .i64 (p0.len : Int))) (Wn.no rfl) rfl (R.len sl54 rfl) ?_
  refine LE.p (v := (Value.bool (decide (x2 < (p0.len : Int))))) (Wn.no rfl) rfl (R.lss rfl rfl) ?_
  refine LE.nil ?_
  refine WE.condT rfl (b := (decide (x2 < (p0.len : Int)))) rfl ?_ ?_
  · intro hb15
    replace h := M.ite_t h hb15
    refine WE.skip ?_
    refine WE.seq ?_
    refine WE.block ?_
    refine WE.reg ?_
    refine LE.p (v := (SV.v x1)) (Wn.no rfl) rfl (R.move f13) ?_
    refine LE.p (v := (Value.int .i64 x2)) (Wn.no rfl) rfl (R.move f14) ?_
    obtain ⟨b18, hpb18, w16, hww16, h⟩ := M.new_use h
    refine LE.r (v := (SV.v (SV.mk (some b18) 1 1))) (Wn.no rfl) rfl (R.bsl (by exact (Ls.cons (R.Pr rfl) Ls.nil)) (fun w => bs38_1 x2 w) hpb18 hww16) ?_
    obtain ⟨s19, w20, h21, h⟩ := h
    refine LE.r (v := (SV.v s19)) (Wn.no rfl) rfl (R.app (s := x1) (r := s19) rfl rfl h21) ?_
    refine LE.p (v := (SV.v s19)) (Wn.no rfl) rfl (R.assign rfl) ?_
    refine LE.nil ?_
    refine WE.reg ?_
    refine LE.p (v := (Value.int .i64 x2)) (Wn.no rfl) rfl (R.move f14) ?_
    refine LE.p (v := (Value.int .i64 (IntKind.i64.wrap (x2 + (1 : Int))))) (Wn.no rfl) rfl (R.add rfl rfl) ?_
    refine LE.p (v := (Value.int .i64 (IntKind.i64.wrap (x2 + (1 : Int))))) (Wn.no rfl) rfl (R.assign rfl) ?_
    refine LE.nil ?_
    obtain ⟨m9, hm10, h⟩ := h
    exact ⟨m9, hm10, _, _, h, f11, f12, rfl, rfl⟩
  · intro hb15
    replace h := M.ite_f h hb15
    refine WE.exit ?_
    refine WE.seq ?_
    refine WE.seq ?_
    refine WE.reg ?_
    refine LE.p (v := (Value.int .i64 (1 : Int))) (Wn.no rfl) rfl (R.assign rfl) ?_
    refine LE.nil ?_
    refine WE.block ?_
    obtain ⟨I28, ⟨n27, h⟩, hr29⟩ := h
    refine WE.loop (fun n e w => ∃ (x22 : SV) (x23 : Int), I28 n x22 x23 w ∧ e 0 = (SV.v p0) ∧ e 1 = (Value.int .i64 p1) ∧ e 5 = (SV.v x22) ∧ e 7 = (Value.int .i64 x23)) n27 ⟨_, _, h, f11, f12, f13, rfl⟩ ?_
    clear h
    rintro n27 e26 w25 ⟨x22, x23, h, f32, f33, f34, f35⟩
    replace h := hr29 n27 x22 x23 w25 h
    refine WE.seq ?_
    refine WE.seq ?_
    obtain ⟨J36, hJ36, h⟩ := M.join_use h
    refine WE.regJ (fun e w => ∃ (x37 : Bool), J36 x37 w ∧ e 0 = (SV.v p0) ∧ e 1 = (Value.int .i64 p1) ∧ e 5 = (SV.v x22) ∧ e 7 = (Value.int .i64 x23) ∧ e 28 = (Value.bool x37)) ?_ ?_
    · clear hJ36
      refine LE.p (v := (Value.int .i64 x23)) (Wn.no rfl) rfl (R.move f35) ?_
      refine LE.p (v := (Value.int .i64 p1)) (Wn.no rfl) rfl (R.move f33) ?_
      refine LE.p (v := (Value.bool (decide (x23 ≤ p1)))) (Wn.no rfl) rfl (R.leq rfl rfl) ?_
      refine LE.p (v := (Value.bool (decide (x23 ≤ p1)))) (Wn.no rfl) rfl (R.move rfl) ?_
      rcases M.ite_use h with ⟨hb38, h⟩ | ⟨hb38, h⟩
      · refine LE.p (v := (Value.int .i64 x23)) (Wn.yes 3 25 true rfl rfl rfl (congrArg Value.bool hb38)) rfl (R.move f35) ?_
        refine LE.p (v := (Value.bool (decide (x23 ≤ (7 : Int))))) (Wn.yes 3 25 true rfl rfl rfl (congrArg Value.bool hb38)) rfl (R.leq rfl rfl) ?_
        refine LE.p (v := (Value.bool (decide (x23 ≤ (7 : Int))))) (Wn.no rfl) rfl (R.pickT (congrArg Value.bool hb38) rfl) ?_
        refine LE.nil ?_
        exact ⟨_, h, f32, f33, f34, f35, rfl⟩
      · refine LE.u (Un.no 3 25 true rfl rfl rfl (congrArg Value.bool hb38)) ?_
        refine LE.u (Un.no 3 25 true rfl rfl rfl (congrArg Value.bool hb38)) ?_
        refine LE.p (v := (Value.bool false)) (Wn.no rfl) rfl (R.pickF (congrArg Value.bool hb38) rfl) ?_
        refine LE.nil ?_
        exact ⟨_, h, f32, f33, f34, f35, rfl⟩
    · rintro e39 w40 ⟨x37, h, f41, f42, f43, f44, f45⟩
      subst hJ36
      refine WE.condT rfl (b := x37) f45 ?_ ?_
      · intro hb46
        replace h := M.ite_t h hb46
        refine WE.skip ?_
        refine WE.seq ?_
        refine WE.block ?_
        refine WE.seq ?_
        refine WE.reg ?_
        refine LE.p (v := (SV.v SV.nil)) (Wn.no rfl) rfl (R.assign rfl) ?_
        refine LE.nil ?_
        refine WE.seq ?_
        refine WE.seq ?_
        refine WE.reg ?_
        refine LE.p (v := (Value.int .i64 (0 : Int))) (Wn.no rfl) rfl (R.assign rfl) ?_
        refine LE.nil ?_
        refine WE.block ?_
        obtain ⟨I53, ⟨n52, h⟩, hr54⟩ := h
        refine WE.loop (fun n e w => ∃ (x47 : SV) (x48 : Int), I53 n x47 x48 w ∧ e 0 = (SV.v p0) ∧ e 1 = (Value.int .i64 p1) ∧ e 5 = (SV.v x22) ∧ e 7 = (Value.int .i64 x23) ∧ e 8 = (SV.v x47) ∧ e 9 = (Value.int .i64 x48)) n52 ⟨_, _, h, f41, f42, f43, f44, rfl, rfl⟩ ?_
        clear h
        rintro n52 e51 w50 ⟨x47, x48, h, f57, f58, f59, f60, f61, f62⟩
        replace h := hr54 n52 x47 x48 w50 h
        refine WE.seq ?_
        refine WE.seq ?_
        refine WE.reg ?_
        refine LE.p (v := (Value.int .i64 x48)) (Wn.no rfl) rfl (R.move f62) ?_
        refine LE.p (v := (SV.v x22)) (Wn.no rfl) rfl (R.move f59) ?_
        refine LE.p (v := (Value.int .i64 (x22.len : Int))) (Wn.no rfl) rfl (R.len sl38 rfl) ?_
        refine LE.p (v := (Value.bool (decide (x48 < (x22.len : Int))))) (Wn.no rfl) rfl (R.lss rfl rfl) ?_
        refine LE.nil ?_
        refine WE.condT rfl (b := (decide (x48 < (x22.len : Int)))) rfl ?_ ?_
        · intro hb63
          replace h := M.ite_t h hb63
          refine WE.skip ?_
          refine WE.seq ?_
          obtain ⟨J64, hJ64, h⟩ := M.join_use h
          refine WE.blkJ (fun e w => ∃ (x65 : SV), J64 x65 w ∧ e 0 = (SV.v p0) ∧ e 1 = (Value.int .i64 p1) ∧ e 5 = (SV.v x22) ∧ e 7 = (Value.int .i64 x23) ∧ e 8 = (SV.v x65) ∧ e 9 = (Value.int .i64 x48)) ?_ ?_
          · clear hJ64
            refine WE.seq ?_
            refine WE.reg ?_
            refine LE.p (v := (Value.bool false)) (Wn.no rfl) rfl (R.assign rfl) ?_
            refine LE.nil ?_
            refine WE.seq ?_
            refine WE.seq ?_
            refine WE.reg ?_
            refine LE.p (v := (Value.int .i64 (0 : Int))) (Wn.no rfl) rfl (R.assign rfl) ?_
            refine LE.nil ?_
            refine WE.block ?_
            obtain ⟨I72, ⟨n71, h⟩, hr73⟩ := h
            refine WE.loop (fun n e w => ∃ (x66 : Bool) (x67 : Int), I72 n x66 x67 w ∧ e 0 = (SV.v p0) ∧ e 1 = (Value.int .i64 p1) ∧ e 5 = (SV.v x22) ∧ e 7 = (Value.int .i64 x23) ∧ e 8 = (SV.v x47) ∧ e 9 = (Value.int .i64 x48) ∧ e 10 = (Value.bool x66) ∧ e 11 = (Value.int .i64 x67)) n71 ⟨_, _, h, f57, f58, f59, f60, f61, f62, rfl, rfl⟩ ?_
            clear h
            rintro n71 e70 w69 ⟨x66, x67, h, f76, f77, f78, f79, f80, f81, f82, f83⟩
            replace h := hr73 n71 x66 x67 w69 h
            refine WE.seq ?_
            refine WE.seq ?_
            refine WE.reg ?_
            refine LE.p (v := (Value.int .i64 x67)) (Wn.no rfl) rfl (R.move f83) ?_
            refine LE.p (v := (SV.v x22)) (Wn.no rfl) rfl (R.move f78) ?_
            refine LE.p (v := (Value.int .i64 (x22.len : Int))) (Wn.no rfl) rfl (R.len sl38 rfl) ?_
            refine LE.p (v := (Value.bool (decide (x67 < (x22.len : Int))))) (Wn.no rfl) rfl (R.lss rfl rfl) ?_
            refine LE.nil ?_
            refine WE.condT rfl (b := (decide (x67 < (x22.len : Int)))) rfl ?_ ?_
            · intro hb84
              replace h := M.ite_t h hb84
              refine WE.skip ?_
              refine WE.seq ?_
              refine WE.block ?_
              obtain ⟨J85, hJ85, h⟩ := M.join_use h
              refine WE.drawJ (fun e w => ∃ (x86 : Bool), J85 x86 w ∧ e 0 = (SV.v p0) ∧ e 1 = (Value.int .i64 p1) ∧ e 5 = (SV.v x22) ∧ e 7 = (Value.int .i64 x23) ∧ e 8 = (SV.v x47) ∧ e 9 = (Value.int .i64 x48) ∧ e 10 = (Value.bool x86) ∧ e 11 = (Value.int .i64 x67)) mix ?_ ?_
              · clear hJ85
                obtain ⟨w87, hww87, h⟩ := M.drew_use h
                rw [← hww87]
                clear hww87
                refine DE.t 0 (v := (Value.bool x66)) rfl (by kernel_rfl) (Wn.no rfl) rfl (R.move f82) ?_
                refine DE.t 1 (v := (Value.bool x66)) rfl (by kernel_rfl) (Wn.no rfl) rfl (R.move rfl) ?_
                rcases M.ite_use h with ⟨hb88, h⟩ | ⟨hb88, h⟩
                · refine DE.u 2 rfl (by kernel_rfl) (Un.no 1 44 false rfl rfl rfl (congrArg Value.bool hb88)) ?_
                  refine DE.u 3 rfl (by kernel_rfl) (Un.no 1 44 false rfl rfl rfl (congrArg Value.bool hb88)) ?_
                  refine DE.u 4 rfl (by kernel_rfl) (Un.no 1 44 false rfl rfl rfl (congrArg Value.bool hb88)) ?_
                  refine DE.u 5 rfl (by kernel_rfl) (Un.no 1 44 false rfl rfl rfl (congrArg Value.bool hb88)) ?_
                  refine DE.u 6 rfl (by kernel_rfl) (Un.no 1 44 false rfl rfl rfl (congrArg Value.bool hb88)) ?_
                  refine DE.u 7 rfl (by kernel_rfl) (Un.no 1 44 false rfl rfl rfl (congrArg Value.bool hb88)) ?_
                  refine DE.u 8 rfl (by kernel_rfl) (Un.no 1 44 false rfl rfl rfl (congrArg Value.bool hb88)) ?_
                  refine DE.u 9 rfl (by kernel_rfl) (Un.no 1 44 false rfl rfl rfl (congrArg Value.bool hb88)) ?_
                  refine DE.u 10 rfl (by kernel_rfl) (Un.no 1 44 false rfl rfl rfl (congrArg Value.bool hb88)) ?_
                  refine DE.u 11 rfl (by kernel_rfl) (Un.no 1 44 false rfl rfl rfl (congrArg Value.bool hb88)) ?_
                  refine DE.u 12 rfl (by kernel_rfl) (Un.no 1 44 false rfl rfl rfl (congrArg Value.bool hb88)) ?_
                  refine DE.u 13 rfl (by kernel_rfl) (Un.no 1 44 false rfl rfl rfl (congrArg Value.bool hb88)) ?_
                  refine DE.u 14 rfl (by kernel_rfl) (Un.no 1 44 false rfl rfl rfl (congrArg Value.bool hb88)) ?_
                  refine DE.u 15 rfl (by kernel_rfl) (Un.no 1 44 false rfl rfl rfl (congrArg Value.bool hb88)) ?_
                  refine DE.u 16 rfl (by kernel_rfl) (Un.no 1 44 false rfl rfl rfl (congrArg Value.bool hb88)) ?_
                  refine DE.u 17 rfl (by kernel_rfl) (Un.no 1 44 false rfl rfl rfl (congrArg Value.bool hb88)) ?_
                  refine DE.t 18 (v := (Value.bool true)) rfl (by kernel_rfl) (Wn.no rfl) rfl (R.pickT (congrArg Value.bool hb88) rfl) ?_
                  refine DE.t 19 (v := (Value.bool true)) rfl (by kernel_rfl) (Wn.no rfl) rfl (R.assign rfl) ?_
                  refine DE.done (by kernel_rfl) ?_
                  exact ⟨_, h, f76, f77, f78, f79, f80, f81, rfl, f83⟩
                · refine DE.t 2 (v := (SV.v p0)) rfl (by kernel_rfl) (Wn.yes 1 44 false rfl rfl rfl (congrArg Value.bool hb88)) rfl (R.move f76) ?_
                  refine DE.t 3 (v := (SV.v x22)) rfl (by kernel_rfl) (Wn.yes 1 44 false rfl rfl rfl (congrArg Value.bool hb88)) rfl (R.move f78) ?_
                  refine DE.t 4 (v := (Value.int .i64 x48)) rfl (by kernel_rfl) (Wn.yes 1 44 false rfl rfl rfl (congrArg Value.bool hb88)) rfl (R.move f81) ?_
                  obtain ⟨a89, h90, h91, h92, h⟩ := h
                  refine DE.t 5 (v := (Value.pointer (some (a89.add (x48.toNat * 1))))) rfl (by kernel_rfl) (Wn.yes 1 44 false rfl rfl rfl (congrArg Value.bool hb88)) rfl (R.idx (s := x22) sl38 rfl rfl h90 h91 h92) ?_
                  refine DE.t 9 (v := (SV.v p0)) rfl (by kernel_rfl) (Wn.yes 1 44 false rfl rfl rfl (congrArg Value.bool hb88)) rfl (R.move f76) ?_
                  refine DE.t 10 (v := (SV.v x22)) rfl (by kernel_rfl) (Wn.yes 1 44 false rfl rfl rfl (congrArg Value.bool hb88)) rfl (R.move f78) ?_
                  refine DE.t 11 (v := (Value.int .i64 x67)) rfl (by kernel_rfl) (Wn.yes 1 44 false rfl rfl rfl (congrArg Value.bool hb88)) rfl (R.move f83) ?_
                  obtain ⟨a93, h94, h95, h96, h⟩ := h
                  refine DE.t 12 (v := (Value.pointer (some (a93.add (x67.toNat * 1))))) rfl (by kernel_rfl) (Wn.yes 1 44 false rfl rfl rfl (congrArg Value.bool hb88)) rfl (R.idx (s := x22) sl38 rfl rfl h94 h95 h96) ?_
                  refine DE.t 16 (v := (Value.int .i64 x23)) rfl (by kernel_rfl) (Wn.yes 1 44 false rfl rfl rfl (congrArg Value.bool hb88)) rfl (R.move f79) ?_
                  obtain ⟨t97, h98, h⟩ := h
                  refine DE.hold 6 (fun w => w.cell? (a89.add (x48.toNat * 1)) = some (Value.int .i64 t97)) (v := (Value.int .i64 t97)) rfl (by kernel_rfl) (Wn.yes 1 44 false rfl rfl rfl (congrArg Value.bool hb88)) rfl h98 (fun w hs => R.ld sc3 rfl hs) ?_
                  obtain ⟨a99, h100, h101, h102, h⟩ := h
                  refine DE.t 7 (v := (Value.pointer (some (a99.add (t97.toNat * 14))))) rfl (by kernel_rfl) (Wn.yes 1 44 false rfl rfl rfl (congrArg Value.bool hb88)) rfl (R.idx (s := p0) sl54 rfl rfl h100 h101 h102) ?_
                  obtain ⟨t103, t104, t105, t106, t107, t108, t109, t110, t111, t112, t113, t114, t115, t116, h117, h⟩ := h
                  refine DE.hold 8 (fun w => Cs w (a99.add (t97.toNat * 14)) 0 [(Value.int .i64 t103), (Value.int .u32 t104), (Value.int .u32 t105), (Value.bool t106), (Value.int .i64 t107), (SV.v t108), (Value.int .u32 t109), (Value.bool t110), (Value.int .u32 t111), (Value.bool t112), (Value.int .u32 t113), (Value.bool t114), (SV.v t115), (Value.float .f64 t116)]) (v := (Value.agg #[(Value.int .i64 t103), (Value.int .u32 t104), (Value.int .u32 t105), (Value.bool t106), (Value.int .i64 t107), (SV.v t108), (Value.int .u32 t109), (Value.bool t110), (Value.int .u32 t111), (Value.bool t112), (Value.int .u32 t113), (Value.bool t114), (SV.v t115), (Value.float .f64 t116)])) rfl (by kernel_rfl) (Wn.yes 1 44 false rfl rfl rfl (congrArg Value.bool hb88)) rfl h117 (fun w hs => R.ldA ag59 sz59 rfl rfl hs) ?_
                  obtain ⟨t118, h119, h⟩ := h
                  refine DE.main 13 (by kernel_rfl) ?_
                  refine One.r 13 (v := (Value.int .i64 t118)) rfl (Wn.yes 1 44 false rfl rfl rfl (congrArg Value.bool hb88)) rfl (R.ld sc3 rfl h119) (.inl rfl) ?_
                  obtain ⟨a120, h121, h122, h123, h⟩ := h
                  refine DE.t 14 (v := (Value.pointer (some (a120.add (t118.toNat * 14))))) rfl (by kernel_rfl) (Wn.yes 1 44 false rfl rfl rfl (congrArg Value.bool hb88)) rfl (R.idx (s := p0) sl54 rfl rfl h121 h122 h123) ?_
                  obtain ⟨t124, t125, t126, t127, t128, t129, t130, t131, t132, t133, t134, t135, t136, t137, h138, h⟩ := h
                  refine DE.main 15 (by kernel_rfl) ?_
                  refine One.r 15 (v := (Value.agg #[(Value.int .i64 t124), (Value.int .u32 t125), (Value.int .u32 t126), (Value.bool t127), (Value.int .i64 t128), (SV.v t129), (Value.int .u32 t130), (Value.bool t131), (Value.int .u32 t132), (Value.bool t133), (Value.int .u32 t134), (Value.bool t135), (SV.v t136), (Value.float .f64 t137)])) rfl (Wn.yes 1 44 false rfl rfl rfl (congrArg Value.bool hb88)) rfl (R.ldA ag59 sz59 rfl rfl h138) (.inl rfl) ?_
                  refine DE.main 17 (by kernel_rfl) ?_
                  refine One.c 17 rfl (Wn.yes 1 44 false rfl rfl rfl (congrArg Value.bool hb88)) rfl (R.call bd31 (Ls.cons rfl (Ls.cons rfl (Ls.cons rfl Ls.nil))) rfl) (Calls.mono h ?_)
                  rintro _ w140 ⟨r139, rfl, h⟩
                  refine ⟨_, rfl, ⟨aftT (by kernel_rfl), aftT (by kernel_rfl), trivial⟩, ?_⟩
                  refine DE.t 18 (v := (Value.bool r139)) rfl (by kernel_rfl) (Wn.no rfl) rfl (R.pickF (congrArg Value.bool hb88) rfl) ?_
                  refine DE.t 19 (v := (Value.bool r139)) rfl (by kernel_rfl) (Wn.no rfl) rfl (R.assign rfl) ?_
                  refine DE.done (by kernel_rfl) ?_
                  exact ⟨_, h, f76, f77, f78, f79, f80, f81, rfl, f83⟩
              · rintro e141 w142 ⟨x86, h, f143, f144, f145, f146, f147, f148, f149, f150⟩
                subst hJ85
                refine WE.reg ?_
                refine LE.p (v := (Value.int .i64 x67)) (Wn.no rfl) rfl (R.move f150) ?_
                refine LE.p (v := (Value.int .i64 (IntKind.i64.wrap (x67 + (1 : Int))))) (Wn.no rfl) rfl (R.add rfl rfl) ?_
                refine LE.p (v := (Value.int .i64 (IntKind.i64.wrap (x67 + (1 : Int))))) (Wn.no rfl) rfl (R.assign rfl) ?_
                refine LE.nil ?_
                obtain ⟨m74, hm75, h⟩ := h
                exact ⟨m74, hm75, _, _, h, f143, f144, f145, f146, f147, f148, f149, rfl⟩
            · intro hb84
              replace h := M.ite_f h hb84
              refine WE.exit ?_
              refine WE.seq ?_
              refine WE.reg ?_
              refine LE.p (v := (Value.bool x66)) (Wn.no rfl) rfl (R.move f82) ?_
              refine LE.p (v := (Value.bool (!x66))) (Wn.no rfl) rfl (R.not rfl) ?_
              refine LE.nil ?_
              refine WE.condT rfl (b := (!x66)) rfl ?_ ?_
              · intro hb151
                replace h := M.ite_t h hb151
                refine WE.reg ?_
                refine LE.p (v := (SV.v x47)) (Wn.no rfl) rfl (R.move f80) ?_
                refine LE.p (v := (SV.v x22)) (Wn.no rfl) rfl (R.move f78) ?_
                refine LE.p (v := (Value.int .i64 x48)) (Wn.no rfl) rfl (R.move f81) ?_
                obtain ⟨a152, h153, h154, h155, h⟩ := h
                refine LE.p (v := (Value.pointer (some (a152.add (x48.toNat * 1))))) (Wn.no rfl) rfl (R.idx (s := x22) sl38 rfl rfl h153 h154 h155) ?_
                obtain ⟨t156, h157, h⟩ := h
                refine LE.r (v := (Value.int .i64 t156)) (Wn.no rfl) rfl (R.ld sc3 rfl h157) ?_
                obtain ⟨b160, hpb160, w158, hww158, h⟩ := M.new_use h
                refine LE.r (v := (SV.v (SV.mk (some b160) 1 1))) (Wn.no rfl) rfl (R.bsl (by exact (Ls.cons (R.Pr rfl) Ls.nil)) (fun w => bs38_1 t156 w) hpb160 hww158) ?_
                obtain ⟨s161, w162, h163, h⟩ := h
                refine LE.r (v := (SV.v s161)) (Wn.no rfl) rfl (R.app (s := x47) (r := s161) rfl rfl h163) ?_
                refine LE.p (v := (SV.v s161)) (Wn.no rfl) rfl (R.assign rfl) ?_
                refine LE.nil ?_
                exact ⟨_, h, f76, f77, f78, f79, rfl, f81⟩
              · intro hb151
                replace h := M.ite_f h hb151
                refine WE.skip ?_
                exact ⟨_, h, f76, f77, f78, f79, f80, f81⟩
          · rintro e164 w165 ⟨x65, h, f166, f167, f168, f169, f170, f171⟩
            subst hJ64
            refine WE.reg ?_
            refine LE.p (v := (Value.int .i64 x48)) (Wn.no rfl) rfl (R.move f171) ?_
            refine LE.p (v := (Value.int .i64 (IntKind.i64.wrap (x48 + (1 : Int))))) (Wn.no rfl) rfl (R.add rfl rfl) ?_
            refine LE.p (v := (Value.int .i64 (IntKind.i64.wrap (x48 + (1 : Int))))) (Wn.no rfl) rfl (R.assign rfl) ?_
            refine LE.nil ?_
            obtain ⟨m55, hm56, h⟩ := h
            exact ⟨m55, hm56, _, _, h, f166, f167, f168, f169, f170, rfl⟩
        · intro hb63
          replace h := M.ite_f h hb63
          refine WE.exit ?_
          refine WE.reg ?_
          refine LE.p (v := (SV.v x47)) (Wn.no rfl) rfl (R.move f61) ?_
          refine LE.p (v := (SV.v x47)) (Wn.no rfl) rfl (R.assign rfl) ?_
          refine LE.nil ?_
          refine WE.reg ?_
          refine LE.p (v := (Value.int .i64 x23)) (Wn.no rfl) rfl (R.move f60) ?_
          refine LE.p (v := (Value.int .i64 (IntKind.i64.wrap (x23 + (1 : Int))))) (Wn.no rfl) rfl (R.add rfl rfl) ?_
          refine LE.p (v := (Value.int .i64 (IntKind.i64.wrap (x23 + (1 : Int))))) (Wn.no rfl) rfl (R.assign rfl) ?_
          refine LE.nil ?_
          obtain ⟨m30, hm31, h⟩ := h
          exact ⟨m30, hm31, _, _, h, f57, f58, rfl, rfl⟩
      · intro hb46
        replace h := M.ite_f h hb46
        refine WE.exit ?_
        obtain ⟨J172, hJ172, h⟩ := M.join_use h
        refine WE.join (fun e w => ∃ (x173 : SV), J172 x173 w ∧ e 5 = (SV.v x173)) ?_ ?_
        · clear hJ172
          refine WE.seq ?_
          obtain ⟨J174, hJ174, h⟩ := M.join_use h
          refine WE.regJ (fun e w => ∃ (x175 : Bool), J174 x175 w ∧ e 5 = (SV.v x22) ∧ e 78 = (Value.bool x175)) ?_ ?_
          · clear hJ174
            refine LE.p (v := (Value.int .i64 p1)) (Wn.no rfl) rfl (R.move f42) ?_
            refine LE.p (v := (Value.bool (decide ((7 : Int) ≤ p1)))) (Wn.no rfl) rfl (R.geq rfl rfl) ?_
            refine LE.p (v := (Value.bool (decide ((7 : Int) ≤ p1)))) (Wn.no rfl) rfl (R.move rfl) ?_
            rcases M.ite_use h with ⟨hb176, h⟩ | ⟨hb176, h⟩
            · refine LE.p (v := (SV.v x22)) (Wn.yes 2 74 true rfl rfl rfl (congrArg Value.bool hb176)) rfl (R.move f43) ?_
              refine LE.p (v := (Value.int .i64 (x22.len : Int))) (Wn.yes 2 74 true rfl rfl rfl (congrArg Value.bool hb176)) rfl (R.len sl38 rfl) ?_
              refine LE.p (v := (Value.bool (decide ((1 : Int) < (x22.len : Int))))) (Wn.yes 2 74 true rfl rfl rfl (congrArg Value.bool hb176)) rfl (R.gtr rfl rfl) ?_
              refine LE.p (v := (Value.bool (decide ((1 : Int) < (x22.len : Int))))) (Wn.no rfl) rfl (R.pickT (congrArg Value.bool hb176) rfl) ?_
              refine LE.nil ?_
              exact ⟨_, h, f43, rfl⟩
            · refine LE.u (Un.no 2 74 true rfl rfl rfl (congrArg Value.bool hb176)) ?_
              refine LE.u (Un.no 2 74 true rfl rfl rfl (congrArg Value.bool hb176)) ?_
              refine LE.u (Un.no 2 74 true rfl rfl rfl (congrArg Value.bool hb176)) ?_
              refine LE.p (v := (Value.bool false)) (Wn.no rfl) rfl (R.pickF (congrArg Value.bool hb176) rfl) ?_
              refine LE.nil ?_
              exact ⟨_, h, f43, rfl⟩
          · rintro e177 w178 ⟨x175, h, f179, f180⟩
            subst hJ174
            refine WE.condT rfl (b := x175) f180 ?_ ?_
            · intro hb181
              replace h := M.ite_t h hb181
              refine WE.reg ?_
              refine LE.p (v := (SV.v x22)) (Wn.no rfl) rfl (R.move f179) ?_
              obtain ⟨h182, h183, h184, h⟩ := h
              refine LE.p (v := (SV.v (SV.sub x22 (Int.toNat (0 : Int)) (Int.toNat (1 : Int)) 1))) (Wn.no rfl) rfl (R.slc (s := x22) (lo := (0 : Int)) (hi := (1 : Int)) _ _ sl38 rfl rfl rfl h182 h183 h184) ?_
              refine LE.p (v := (SV.v (SV.sub x22 (Int.toNat (0 : Int)) (Int.toNat (1 : Int)) 1))) (Wn.no rfl) rfl (R.assign rfl) ?_
              refine LE.nil ?_
              exact ⟨_, h, rfl⟩
            · intro hb181
              replace h := M.ite_f h hb181
              refine WE.skip ?_
              exact ⟨_, h, f179⟩
        · rintro e186 w187 ⟨x173, h, f188⟩
          subst hJ172
          refine WE.seq ?_
          refine WE.reg ?_
          refine LE.p (v := (SV.v x173)) (Wn.no rfl) rfl (R.move f188) ?_
          refine LE.p (v := (SV.v x173)) (Wn.no rfl) rfl (R.assign rfl) ?_
          refine LE.nil ?_
          refine WE.ret ?_
          exact ⟨_, (Res.tmp rfl Res.nil), _, rfl, h⟩
/-- The formula of signpost.signpostref17.Better. -/
def F24 (p0_0 : Int) (p0_1 : Int) (p0_2 : Int) (p0_3 : Bool) (p0_4 : Int) (p0_5 : SV) (p0_6 : Int) (p0_7 : Bool) (p0_8 : Int) (p0_9 : Bool) (p0_10 : Int) (p0_11 : Bool) (p0_12 : SV) (p0_13 : Nat) (p1_0 : Int) (p1_1 : Int) (p1_2 : Int) (p1_3 : Bool) (p1_4 : Int) (p1_5 : SV) (p1_6 : Int) (p1_7 : Bool) (p1_8 : Int) (p1_9 : Bool) (p1_10 : Int) (p1_11 : Bool) (p1_12 : SV) (p1_13 : Nat) (p2 : Int) (K : Bool → World → Prop) (w0 : World) : Prop :=
M.new (.cells #[(Value.int .i64 p0_0), (Value.int .u32 p0_1), (Value.int .u32 p0_2), (Value.bool p0_3), (Value.int .i64 p0_4), (SV.v p0_5), (Value.int .u32 p0_6), (Value.bool p0_7), (Value.int .u32 p0_8), (Value.bool p0_9), (Value.int .u32 p0_10), (Value.bool p0_11), (SV.v p0_12), (Value.float .f64 p0_13)] 59) w0 fun b2 w1 =>
M.new (.cells #[(Value.int .i64 p1_0), (Value.int .u32 p1_1), (Value.int .u32 p1_2), (Value.bool p1_3), (Value.int .i64 p1_4), (SV.v p1_5), (Value.int .u32 p1_6), (Value.bool p1_7), (Value.int .u32 p1_8), (Value.bool p1_9), (Value.int .u32 p1_10), (Value.bool p1_11), (SV.v p1_12), (Value.float .f64 p1_13)] 59) w1 fun b4 w3 =>
∃ (t5 : Int) (t6 : Int) (t7 : Int) (t8 : Bool) (t9 : Int) (t10 : SV) (t11 : Int) (t12 : Bool) (t13 : Int) (t14 : Bool) (t15 : Int) (t16 : Bool) (t17 : SV) (t18 : Nat), Cs w3 b2 0 [(Value.int .i64 t5), (Value.int .u32 t6), (Value.int .u32 t7), (Value.bool t8), (Value.int .i64 t9), (SV.v t10), (Value.int .u32 t11), (Value.bool t12), (Value.int .u32 t13), (Value.bool t14), (Value.int .u32 t15), (Value.bool t16), (SV.v t17), (Value.float .f64 t18)] ∧
∃ (t20 : Int) (t21 : Int) (t22 : Int) (t23 : Bool) (t24 : Int) (t25 : SV) (t26 : Int) (t27 : Bool) (t28 : Int) (t29 : Bool) (t30 : Int) (t31 : Bool) (t32 : SV) (t33 : Nat), Cs w3 b4 0 [(Value.int .i64 t20), (Value.int .u32 t21), (Value.int .u32 t22), (Value.bool t23), (Value.int .i64 t24), (SV.v t25), (Value.int .u32 t26), (Value.bool t27), (Value.int .u32 t28), (Value.bool t29), (Value.int .u32 t30), (Value.bool t31), (SV.v t32), (Value.float .f64 t33)] ∧
M.new (.cells #[(Value.int .i64 t5), (Value.int .u32 t6), (Value.int .u32 t7), (Value.bool t8), (Value.int .i64 t9), (SV.v t10), (Value.int .u32 t11), (Value.bool t12), (Value.int .u32 t13), (Value.bool t14), (Value.int .u32 t15), (Value.bool t16), (SV.v t17), (Value.float .f64 t18), (Value.int .i64 t20), (Value.int .u32 t21), (Value.int .u32 t22), (Value.bool t23), (Value.int .i64 t24), (SV.v t25), (Value.int .u32 t26), (Value.bool t27), (Value.int .u32 t28), (Value.bool t29), (Value.int .u32 t30), (Value.bool t31), (SV.v t32), (Value.float .f64 t33)] 59) w3 fun b37 w35 =>
Calls Try.prog 23 #[(SV.v (SV.mk (some b37) 2 2)), (Value.int .i64 p2)] w35 (R23 fun r38 w39 =>
M.join (fun (x41 : Bool) (w50 : World) => 
K x41 w50) fun J40 => 
M.ite ((r38.len : Int) == (1 : Int)) (
M.idx r38 (0 : Int) 1 fun a43 =>
M.ld (Value.int .i64) (a43.add ((0 : Int).toNat * 1)) w39 fun t47 =>
J40 (t47 == (0 : Int)) w39) (
J40 false w39))
theorem F24_ok {w0 : World} {p0_0 : Int} {p0_1 : Int} {p0_2 : Int} {p0_3 : Bool} {p0_4 : Int} {p0_5 : SV} {p0_6 : Int} {p0_7 : Bool} {p0_8 : Int} {p0_9 : Bool} {p0_10 : Int} {p0_11 : Bool} {p0_12 : SV} {p0_13 : Nat} {p1_0 : Int} {p1_1 : Int} {p1_2 : Int} {p1_3 : Bool} {p1_4 : Int} {p1_5 : SV} {p1_6 : Int} {p1_7 : Bool} {p1_8 : Int} {p1_9 : Bool} {p1_10 : Int} {p1_11 : Bool} {p1_12 : SV} {p1_13 : Nat} {p2 : Int} {K : Bool → World → Prop} (h : F24 p0_0 p0_1 p0_2 p0_3 p0_4 p0_5 p0_6 p0_7 p0_8 p0_9 p0_10 p0_11 p0_12 p0_13 p1_0 p1_1 p1_2 p1_3 p1_4 p1_5 p1_6 p1_7 p1_8 p1_9 p1_10 p1_11 p1_12 p1_13 p2 K w0) : Calls Try.prog 24 #[(Value.agg #[(Value.int .i64 p0_0), (Value.int .u32 p0_1), (Value.int .u32 p0_2), (Value.bool p0_3), (Value.int .i64 p0_4), (SV.v p0_5), (Value.int .u32 p0_6), (Value.bool p0_7), (Value.int .u32 p0_8), (Value.bool p0_9), (Value.int .u32 p0_10), (Value.bool p0_11), (SV.v p0_12), (Value.float .f64 p0_13)]), (Value.agg #[(Value.int .i64 p1_0), (Value.int .u32 p1_1), (Value.int .u32 p1_2), (Value.bool p1_3), (Value.int .i64 p1_4), (SV.v p1_5), (Value.int .u32 p1_6), (Value.bool p1_7), (Value.int .u32 p1_8), (Value.bool p1_9), (Value.int .u32 p1_10), (Value.bool p1_11), (SV.v p1_12), (Value.float .f64 p1_13)]), (Value.int .i64 p2)] w0 (R24 K) := by
  refine calls_of_WE (args := [(Value.agg #[(Value.int .i64 p0_0), (Value.int .u32 p0_1), (Value.int .u32 p0_2), (Value.bool p0_3), (Value.int .i64 p0_4), (SV.v p0_5), (Value.int .u32 p0_6), (Value.bool p0_7), (Value.int .u32 p0_8), (Value.bool p0_9), (Value.int .u32 p0_10), (Value.bool p0_11), (SV.v p0_12), (Value.float .f64 p0_13)]), (Value.agg #[(Value.int .i64 p1_0), (Value.int .u32 p1_1), (Value.int .u32 p1_2), (Value.bool p1_3), (Value.int .i64 p1_4), (SV.v p1_5), (Value.int .u32 p1_6), (Value.bool p1_7), (Value.int .u32 p1_8), (Value.bool p1_9), (Value.int .u32 p1_10), (Value.bool p1_11), (SV.v p1_12), (Value.float .f64 p1_13)]), (Value.int .i64 p2)]) (rs := [.tmp 6]) Try.func24 rfl (N := 22) rfl rfl rfl rfl ?_
  refine WE.seq ?_
  refine WE.reg ?_
  obtain ⟨b2, hpb2, w1, hww1, h⟩ := M.new_use h
  refine LE.r (v := (Value.pointer (some b2))) (Wn.no rfl) rfl (R.box (cs := #[(Value.int .i64 p0_0), (Value.int .u32 p0_1), (Value.int .u32 p0_2), (Value.bool p0_3), (Value.int .i64 p0_4), (SV.v p0_5), (Value.int .u32 p0_6), (Value.bool p0_7), (Value.int .u32 p0_8), (Value.bool p0_9), (Value.int .u32 p0_10), (Value.bool p0_11), (SV.v p0_12), (Value.float .f64 p0_13)]) rfl rfl hpb2 hww1) ?_
  obtain ⟨b4, hpb4, w3, hww3, h⟩ := M.new_use h
  refine LE.r (v := (Value.pointer (some b4))) (Wn.no rfl) rfl (R.box (cs := #[(Value.int .i64 p1_0), (Value.int .u32 p1_1), (Value.int .u32 p1_2), (Value.bool p1_3), (Value.int .i64 p1_4), (SV.v p1_5), (Value.int .u32 p1_6), (Value.bool p1_7), (Value.int .u32 p1_8), (Value.bool p1_9), (Value.int .u32 p1_10), (Value.bool p1_11), (SV.v p1_12), (Value.float .f64 p1_13)]) rfl rfl hpb4 hww3) ?_
  refine LE.p (v := (Value.bool false)) (Wn.no rfl) rfl (R.assign rfl) ?_
  refine LE.nil ?_
  refine WE.seq ?_
  refine WE.reg ?_
  obtain ⟨t5, t6, t7, t8, t9, t10, t11, t12, t13, t14, t15, t16, t17, t18, h19, h⟩ := h
  refine LE.r (v := (Value.agg #[(Value.int .i64 t5), (Value.int .u32 t6), (Value.int .u32 t7), (Value.bool t8), (Value.int .i64 t9), (SV.v t10), (Value.int .u32 t11), (Value.bool t12), (Value.int .u32 t13), (Value.bool t14), (Value.int .u32 t15), (Value.bool t16), (SV.v t17), (Value.float .f64 t18)])) (Wn.no rfl) rfl (R.ldA ag59 sz59 rfl rfl h19) ?_
  obtain ⟨t20, t21, t22, t23, t24, t25, t26, t27, t28, t29, t30, t31, t32, t33, h34, h⟩ := h
  refine LE.r (v := (Value.agg #[(Value.int .i64 t20), (Value.int .u32 t21), (Value.int .u32 t22), (Value.bool t23), (Value.int .i64 t24), (SV.v t25), (Value.int .u32 t26), (Value.bool t27), (Value.int .u32 t28), (Value.bool t29), (Value.int .u32 t30), (Value.bool t31), (SV.v t32), (Value.float .f64 t33)])) (Wn.no rfl) rfl (R.ldA ag59 sz59 rfl rfl h34) ?_
  obtain ⟨b37, hpb37, w35, hww35, h⟩ := M.new_use h
  refine LE.r (v := (SV.v (SV.mk (some b37) 2 2))) (Wn.no rfl) rfl (R.bsl (by exact (Ls.cons (R.Pr rfl) (Ls.cons (R.Pr rfl) Ls.nil))) (fun w => bs54_2 t5 t6 t7 t8 t9 t10 t11 t12 t13 t14 t15 t16 t17 t18 t20 t21 t22 t23 t24 t25 t26 t27 t28 t29 t30 t31 t32 t33 w) hpb37 hww35) ?_
  refine LE.p (v := (Value.int .i64 p2)) (Wn.no rfl) rfl (R.move rfl) ?_
  refine LE.c (Wn.no rfl) rfl (R.call bd23 (Ls.cons rfl (Ls.cons rfl Ls.nil)) rfl) (Calls.mono h ?_)
  rintro _ w39 ⟨r38, rfl, h⟩
  refine ⟨_, rfl, ?_⟩
  refine LE.p (v := (SV.v r38)) (Wn.no rfl) rfl (R.assign rfl) ?_
  refine LE.nil ?_
  refine WE.seq ?_
  obtain ⟨J40, hJ40, h⟩ := M.join_use h
  refine WE.regJ (fun e w => ∃ (x41 : Bool), J40 x41 w ∧ e 6 = (Value.bool x41)) ?_ ?_
  · clear hJ40
    refine LE.p (v := (SV.v r38)) (Wn.no rfl) rfl (R.move rfl) ?_
    refine LE.p (v := (Value.int .i64 (r38.len : Int))) (Wn.no rfl) rfl (R.len sl38 rfl) ?_
    refine LE.p (v := (Value.bool ((r38.len : Int) == (1 : Int)))) (Wn.no rfl) rfl (R.eql rfl rfl) ?_
    refine LE.p (v := (Value.bool ((r38.len : Int) == (1 : Int)))) (Wn.no rfl) rfl (R.move rfl) ?_
    rcases M.ite_use h with ⟨hb42, h⟩ | ⟨hb42, h⟩
    · refine LE.p (v := (SV.v r38)) (Wn.yes 3 16 true rfl rfl rfl (congrArg Value.bool hb42)) rfl (R.move rfl) ?_
      obtain ⟨a43, h44, h45, h46, h⟩ := h
      refine LE.p (v := (Value.pointer (some (a43.add ((0 : Int).toNat * 1))))) (Wn.yes 3 16 true rfl rfl rfl (congrArg Value.bool hb42)) rfl (R.idx (s := r38) sl38 rfl rfl h44 h45 h46) ?_
      obtain ⟨t47, h48, h⟩ := h
      refine LE.r (v := (Value.int .i64 t47)) (Wn.yes 3 16 true rfl rfl rfl (congrArg Value.bool hb42)) rfl (R.ld sc3 rfl h48) ?_
      refine LE.p (v := (Value.bool (t47 == (0 : Int)))) (Wn.yes 3 16 true rfl rfl rfl (congrArg Value.bool hb42)) rfl (R.eql rfl rfl) ?_
      refine LE.p (v := (Value.bool (t47 == (0 : Int)))) (Wn.no rfl) rfl (R.pickT (congrArg Value.bool hb42) rfl) ?_
      refine LE.p (v := (Value.bool (t47 == (0 : Int)))) (Wn.no rfl) rfl (R.assign rfl) ?_
      refine LE.nil ?_
      exact ⟨_, h, rfl⟩
    · refine LE.u (Un.no 3 16 true rfl rfl rfl (congrArg Value.bool hb42)) ?_
      refine LE.u (Un.no 3 16 true rfl rfl rfl (congrArg Value.bool hb42)) ?_
      refine LE.u (Un.no 3 16 true rfl rfl rfl (congrArg Value.bool hb42)) ?_
      refine LE.u (Un.no 3 16 true rfl rfl rfl (congrArg Value.bool hb42)) ?_
      refine LE.p (v := (Value.bool false)) (Wn.no rfl) rfl (R.pickF (congrArg Value.bool hb42) rfl) ?_
      refine LE.p (v := (Value.bool false)) (Wn.no rfl) rfl (R.assign rfl) ?_
      refine LE.nil ?_
      exact ⟨_, h, rfl⟩
  · rintro e49 w50 ⟨x41, h, f51⟩
    subst hJ40
    refine WE.ret ?_
    exact ⟨_, (Res.tmp f51 Res.nil), _, rfl, h⟩
/-- The formula of signpost.signpostref17.Best. -/
def F25 (p0 : SV) (K : Int → Bool → World → Prop) (w0 : World) : Prop :=
Calls Try.prog 23 #[(SV.v p0), (Value.int .i64 (7 : Int))] w0 (R23 fun r1 w2 =>
M.ite ((r1.len : Int) == (0 : Int)) (
K (0 : Int) false w2) (
M.idx r1 (0 : Int) 1 fun a4 =>
M.ld (Value.int .i64) (a4.add ((0 : Int).toNat * 1)) w2 fun t8 =>
K t8 true w2))
theorem F25_ok {w0 : World} {p0 : SV} {K : Int → Bool → World → Prop} (h : F25 p0 K w0) : Calls Try.prog 25 #[(SV.v p0)] w0 (R25 K) := by
  refine calls_of_WE (args := [(SV.v p0)]) (rs := [.tmp 2, .tmp 3]) Try.func25 rfl (N := 13) rfl rfl rfl rfl ?_
  refine WE.seq ?_
  refine WE.reg ?_
  refine LE.p (v := (Value.int .i64 (0 : Int))) (Wn.no rfl) rfl (R.assign rfl) ?_
  refine LE.p (v := (Value.bool false)) (Wn.no rfl) rfl (R.assign rfl) ?_
  refine LE.nil ?_
  refine WE.seq ?_
  refine WE.reg ?_
  refine LE.p (v := (SV.v p0)) (Wn.no rfl) rfl (R.move rfl) ?_
  refine LE.c (Wn.no rfl) rfl (R.call bd23 (Ls.cons rfl (Ls.cons rfl Ls.nil)) rfl) (Calls.mono h ?_)
  rintro _ w2 ⟨r1, rfl, h⟩
  refine ⟨_, rfl, ?_⟩
  refine LE.p (v := (SV.v r1)) (Wn.no rfl) rfl (R.assign rfl) ?_
  refine LE.nil ?_
  refine WE.seq ?_
  refine WE.seq ?_
  refine WE.reg ?_
  refine LE.p (v := (SV.v r1)) (Wn.no rfl) rfl (R.move rfl) ?_
  refine LE.p (v := (Value.int .i64 (r1.len : Int))) (Wn.no rfl) rfl (R.len sl38 rfl) ?_
  refine LE.p (v := (Value.bool ((r1.len : Int) == (0 : Int)))) (Wn.no rfl) rfl (R.eql rfl rfl) ?_
  refine LE.nil ?_
  refine WE.condT rfl (b := ((r1.len : Int) == (0 : Int))) rfl ?_ ?_
  · intro hb3
    replace h := M.ite_t h hb3
    refine WE.seq ?_
    refine WE.reg ?_
    refine LE.p (v := (Value.int .i64 (0 : Int))) (Wn.no rfl) rfl (R.assign rfl) ?_
    refine LE.p (v := (Value.bool false)) (Wn.no rfl) rfl (R.assign rfl) ?_
    refine LE.nil ?_
    refine WE.ret ?_
    exact ⟨_, (Res.tmp rfl (Res.tmp rfl Res.nil)), _, _, rfl, h⟩
  · intro hb3
    replace h := M.ite_f h hb3
    refine WE.skip ?_
    refine WE.seq ?_
    refine WE.reg ?_
    refine LE.p (v := (SV.v r1)) (Wn.no rfl) rfl (R.move rfl) ?_
    obtain ⟨a4, h5, h6, h7, h⟩ := h
    refine LE.p (v := (Value.pointer (some (a4.add ((0 : Int).toNat * 1))))) (Wn.no rfl) rfl (R.idx (s := r1) sl38 rfl rfl h5 h6 h7) ?_
    obtain ⟨t8, h9, h⟩ := h
    refine LE.r (v := (Value.int .i64 t8)) (Wn.no rfl) rfl (R.ld sc3 rfl h9) ?_
    refine LE.p (v := (Value.int .i64 t8)) (Wn.no rfl) rfl (R.assign rfl) ?_
    refine LE.p (v := (Value.bool true)) (Wn.no rfl) rfl (R.assign rfl) ?_
    refine LE.nil ?_
    refine WE.ret ?_
    exact ⟨_, (Res.tmp rfl (Res.tmp rfl Res.nil)), _, _, rfl, h⟩
/-- The formula of signpost.signpostkeep.Short. -/
def F26 (p0_0 : Int) (p0_1 : SV) (p0_2 : Int) (p0_3 : Bool) (p0_4 : Int) (p0_5 : Bool) (p0_6 : Int) (p0_7 : Bool) (p0_8 : SV) (K : Int → SV → Int → Bool → Int → Bool → Int → Bool → SV → World → Prop) (w0 : World) : Prop :=
M.new (.cells #[(Value.int .i64 p0_0), (SV.v p0_1), (Value.int .u32 p0_2), (Value.bool p0_3), (Value.int .u32 p0_4), (Value.bool p0_5), (Value.int .u32 p0_6), (Value.bool p0_7), (SV.v p0_8)] 32) w0 fun b2 w1 =>
M.new (.cells #[(Value.int .i64 (0 : Int)), (SV.v SV.nil), (Value.int .u32 (0 : Int)), (Value.bool false), (Value.int .u32 (0 : Int)), (Value.bool false), (Value.int .u32 (0 : Int)), (Value.bool false), (SV.v SV.nil)] 32) w1 fun b4 w3 =>
M.join (fun (w19 : World) => 
M.loop2 (fun (J24 : SV → Int → World → Prop) (x22 : SV) (x23 : Int) (w25 : World) => 
M.ld SV.v (b2.add 1) w25 fun t36 =>
M.ite (decide (x23 < (t36.len : Int))) (
M.ld SV.v (b2.add 1) w25 fun t39 =>
M.idx t39 x23 2 fun a41 =>
M.ld (Value.int .i64) (a41.add (x23.toNat * 2)) w25 fun t45 =>
M.ld SV.v ((a41.add (x23.toNat * 2)).add 1) w25 fun t47 =>
M.new (.cells #[(Value.int .i64 (0 : Int)), (SV.v SV.nil)] 50) w25 fun b50 w49 =>
M.stA b50 [(Value.int .i64 t45), (SV.v t47)] w49 fun w51 =>
M.join (fun (w67 : World) => 
M.ld (Value.int .i64) b50 w67 fun t73 =>
M.ld SV.v (b50.add 1) w67 fun t75 =>
M.new (.cells #[(Value.int .i64 t73), (SV.v t75)] 50) w67 fun b79 w77 =>
M.app Try.prog 29 29 29 x22 (SV.v (SV.mk (some b79) 1 1)) w77 fun s80 w81 =>
J24 s80 (IntKind.i64.wrap (x23 + (1 : Int))) w81) fun J53 => 
M.ld SV.v (b50.add 1) w51 fun t54 =>
M.ite (decide ((6 : Int) < (t54.len : Int))) (
M.ld SV.v (b50.add 1) w51 fun t57 =>
M.bnd (0 : Int) (6 : Int) t57 <|
M.st (b50.add 1) (SV.v (SV.sub t57 (Int.toNat (0 : Int)) (Int.toNat (6 : Int)) 1)) w51 fun w63 =>
J53 w63) (
J53 w51)) (
M.st (b2.add 1) (SV.v x22) w25 fun w83 =>
M.join (fun (w100 : World) => 
∃ (t103 : Int) (t104 : SV) (t105 : Int) (t106 : Bool) (t107 : Int) (t108 : Bool) (t109 : Int) (t110 : Bool) (t111 : SV), Cs w100 b2 0 [(Value.int .i64 t103), (SV.v t104), (Value.int .u32 t105), (Value.bool t106), (Value.int .u32 t107), (Value.bool t108), (Value.int .u32 t109), (Value.bool t110), (SV.v t111)] ∧
M.stA b4 [(Value.int .i64 t103), (SV.v t104), (Value.int .u32 t105), (Value.bool t106), (Value.int .u32 t107), (Value.bool t108), (Value.int .u32 t109), (Value.bool t110), (SV.v t111)] w100 fun w113 =>
∃ (t115 : Int) (t116 : SV) (t117 : Int) (t118 : Bool) (t119 : Int) (t120 : Bool) (t121 : Int) (t122 : Bool) (t123 : SV), Cs w113 b4 0 [(Value.int .i64 t115), (SV.v t116), (Value.int .u32 t117), (Value.bool t118), (Value.int .u32 t119), (Value.bool t120), (Value.int .u32 t121), (Value.bool t122), (SV.v t123)] ∧
K t115 t116 t117 t118 t119 t120 t121 t122 t123 w113) fun J86 => 
M.ld SV.v (b2.add 8) w83 fun t87 =>
M.ite (decide ((34 : Int) < (t87.len : Int))) (
M.ld SV.v (b2.add 8) w83 fun t90 =>
M.bnd (0 : Int) (34 : Int) t90 <|
M.st (b2.add 8) (SV.v (SV.sub t90 (Int.toNat (0 : Int)) (Int.toNat (34 : Int)) 1)) w83 fun w96 =>
J86 w96) (
J86 w83))) SV.nil (0 : Int) w19) fun J5 => 
M.ld SV.v (b2.add 1) w3 fun t6 =>
M.ite (decide ((18 : Int) < (t6.len : Int))) (
M.ld SV.v (b2.add 1) w3 fun t9 =>
M.bnd (0 : Int) (18 : Int) t9 <|
M.st (b2.add 1) (SV.v (SV.sub t9 (Int.toNat (0 : Int)) (Int.toNat (18 : Int)) 2)) w3 fun w15 =>
J5 w15) (
J5 w3)
theorem F26_ok {w0 : World} {p0_0 : Int} {p0_1 : SV} {p0_2 : Int} {p0_3 : Bool} {p0_4 : Int} {p0_5 : Bool} {p0_6 : Int} {p0_7 : Bool} {p0_8 : SV} {K : Int → SV → Int → Bool → Int → Bool → Int → Bool → SV → World → Prop} (h : F26 p0_0 p0_1 p0_2 p0_3 p0_4 p0_5 p0_6 p0_7 p0_8 K w0) : Calls Try.prog 26 #[(Value.agg #[(Value.int .i64 p0_0), (SV.v p0_1), (Value.int .u32 p0_2), (Value.bool p0_3), (Value.int .u32 p0_4), (Value.bool p0_5), (Value.int .u32 p0_6), (Value.bool p0_7), (SV.v p0_8)])] w0 (R26 K) := by
  refine calls_of_WE (args := [(Value.agg #[(Value.int .i64 p0_0), (SV.v p0_1), (Value.int .u32 p0_2), (Value.bool p0_3), (Value.int .u32 p0_4), (Value.bool p0_5), (Value.int .u32 p0_6), (Value.bool p0_7), (SV.v p0_8)])]) (rs := [.cell 2 32]) Try.func26 rfl (N := 49) rfl rfl rfl rfl ?_
  refine WE.seq ?_
  refine WE.reg ?_
  obtain ⟨b2, hpb2, w1, hww1, h⟩ := M.new_use h
  refine LE.r (v := (Value.pointer (some b2))) (Wn.no rfl) rfl (R.box (cs := #[(Value.int .i64 p0_0), (SV.v p0_1), (Value.int .u32 p0_2), (Value.bool p0_3), (Value.int .u32 p0_4), (Value.bool p0_5), (Value.int .u32 p0_6), (Value.bool p0_7), (SV.v p0_8)]) rfl rfl hpb2 hww1) ?_
  obtain ⟨b4, hpb4, w3, hww3, h⟩ := M.new_use h
  refine LE.r (v := (Value.pointer (some b4))) (Wn.no rfl) rfl (R.alloc (cs := #[(Value.int .i64 (0 : Int)), (SV.v SV.nil), (Value.int .u32 (0 : Int)), (Value.bool false), (Value.int .u32 (0 : Int)), (Value.bool false), (Value.int .u32 (0 : Int)), (Value.bool false), (SV.v SV.nil)]) ze32 rfl hpb4 hww3) ?_
  refine LE.nil ?_
  obtain ⟨J5, hJ5, h⟩ := M.join_use h
  refine WE.join (fun e w => J5 w ∧ e 1 = (Value.pointer (some b2)) ∧ e 2 = (Value.pointer (some b4))) ?_ ?_
  · clear hJ5
    refine WE.seq ?_
    refine WE.reg ?_
    refine LE.p (v := (Value.pointer (some (b2.add 1)))) (Wn.no rfl) rfl (R.fld (off := 1) fa32_1 rfl) ?_
    obtain ⟨t6, h7, h⟩ := h
    refine LE.r (v := (SV.v t6)) (Wn.no rfl) rfl (R.ld sc29 rfl h7) ?_
    refine LE.p (v := (Value.int .i64 (t6.len : Int))) (Wn.no rfl) rfl (R.len sl29 rfl) ?_
    refine LE.p (v := (Value.bool (decide ((18 : Int) < (t6.len : Int))))) (Wn.no rfl) rfl (R.gtr rfl rfl) ?_
    refine LE.nil ?_
    refine WE.condT rfl (b := (decide ((18 : Int) < (t6.len : Int)))) rfl ?_ ?_
    · intro hb8
      replace h := M.ite_t h hb8
      refine WE.reg ?_
      refine LE.p (v := (Value.pointer (some (b2.add 1)))) (Wn.no rfl) rfl (R.fld (off := 1) fa32_1 rfl) ?_
      obtain ⟨t9, h10, h⟩ := h
      refine LE.r (v := (SV.v t9)) (Wn.no rfl) rfl (R.ld sc29 rfl h10) ?_
      obtain ⟨h11, h12, h13, h⟩ := h
      refine LE.p (v := (SV.v (SV.sub t9 (Int.toNat (0 : Int)) (Int.toNat (18 : Int)) 2))) (Wn.no rfl) rfl (R.slc (s := t9) (lo := (0 : Int)) (hi := (18 : Int)) _ _ sl29 rfl rfl rfl h11 h12 h13) ?_
      refine LE.p (v := (Value.pointer (some (b2.add 1)))) (Wn.no rfl) rfl (R.fld (off := 1) fa32_1 rfl) ?_
      obtain ⟨w15, hww15, h16, h17, h⟩ := M.st_use h
      refine LE.s (Wn.no rfl) rfl (R.st (a := (b2.add 1)) (v := (SV.v (SV.sub t9 (Int.toNat (0 : Int)) (Int.toNat (18 : Int)) 2))) sz29 rfl rfl rfl rfl h16 h17 hww15) ?_
      refine LE.nil ?_
      exact ⟨h, rfl, rfl⟩
    · intro hb8
      replace h := M.ite_f h hb8
      refine WE.skip ?_
      exact ⟨h, rfl, rfl⟩
  · rintro e18 w19 ⟨h, f20, f21⟩
    subst hJ5
    refine WE.seq ?_
    refine WE.reg ?_
    refine LE.p (v := (SV.v SV.nil)) (Wn.no rfl) rfl (R.assign rfl) ?_
    refine LE.nil ?_
    refine WE.seq ?_
    refine WE.seq ?_
    refine WE.reg ?_
    refine LE.p (v := (Value.int .i64 (0 : Int))) (Wn.no rfl) rfl (R.assign rfl) ?_
    refine LE.nil ?_
    refine WE.block ?_
    obtain ⟨I28, ⟨n27, h⟩, hr29⟩ := h
    refine WE.loop (fun n e w => ∃ (x22 : SV) (x23 : Int), I28 n x22 x23 w ∧ e 1 = (Value.pointer (some b2)) ∧ e 2 = (Value.pointer (some b4)) ∧ e 3 = (SV.v x22) ∧ e 4 = (Value.int .i64 x23)) n27 ⟨_, _, h, f20, f21, rfl, rfl⟩ ?_
    clear h
    rintro n27 e26 w25 ⟨x22, x23, h, f32, f33, f34, f35⟩
    replace h := hr29 n27 x22 x23 w25 h
    refine WE.seq ?_
    refine WE.seq ?_
    refine WE.reg ?_
    refine LE.p (v := (Value.int .i64 x23)) (Wn.no rfl) rfl (R.move f35) ?_
    refine LE.p (v := (Value.pointer (some (b2.add 1)))) (Wn.no rfl) rfl (R.fld (off := 1) fa32_1 f32) ?_
    obtain ⟨t36, h37, h⟩ := h
    refine LE.r (v := (SV.v t36)) (Wn.no rfl) rfl (R.ld sc29 rfl h37) ?_
    refine LE.p (v := (Value.int .i64 (t36.len : Int))) (Wn.no rfl) rfl (R.len sl29 rfl) ?_
    refine LE.p (v := (Value.bool (decide (x23 < (t36.len : Int))))) (Wn.no rfl) rfl (R.lss rfl rfl) ?_
    refine LE.nil ?_
    refine WE.condT rfl (b := (decide (x23 < (t36.len : Int)))) rfl ?_ ?_
    · intro hb38
      replace h := M.ite_t h hb38
      refine WE.skip ?_
      refine WE.seq ?_
      refine WE.block ?_
      refine WE.seq ?_
      refine WE.reg ?_
      refine LE.p (v := (Value.pointer (some (b2.add 1)))) (Wn.no rfl) rfl (R.fld (off := 1) fa32_1 f32) ?_
      obtain ⟨t39, h40, h⟩ := h
      refine LE.r (v := (SV.v t39)) (Wn.no rfl) rfl (R.ld sc29 rfl h40) ?_
      refine LE.p (v := (Value.int .i64 x23)) (Wn.no rfl) rfl (R.move f35) ?_
      obtain ⟨a41, h42, h43, h44, h⟩ := h
      refine LE.p (v := (Value.pointer (some (a41.add (x23.toNat * 2))))) (Wn.no rfl) rfl (R.idx (s := t39) sl29 rfl rfl h42 h43 h44) ?_
      obtain ⟨t45, h46, h⟩ := h
      obtain ⟨t47, h48, h⟩ := h
      refine LE.r (v := (Value.agg #[(Value.int .i64 t45), (SV.v t47)])) (Wn.no rfl) rfl (R.ldA ag50 sz50 rfl rfl (Cs.cons h46 (Cs.cons h48 Cs.nil))) ?_
      obtain ⟨b50, hpb50, w49, hww49, h⟩ := M.new_use h
      refine LE.r (v := (Value.pointer (some b50))) (Wn.no rfl) rfl (R.alloc (cs := #[(Value.int .i64 (0 : Int)), (SV.v SV.nil)]) ze50 rfl hpb50 hww49) ?_
      obtain ⟨w51, hww51, h52, h⟩ := M.stA_use h
      refine LE.s (Wn.no rfl) rfl (R.stA (a := b50) [(Value.int .i64 t45), (SV.v t47)] sz50 rfl rfl rfl (by simp [Value.oneCell']) h52 hww51) ?_
      refine LE.nil ?_
      obtain ⟨J53, hJ53, h⟩ := M.join_use h
      refine WE.join (fun e w => J53 w ∧ e 1 = (Value.pointer (some b2)) ∧ e 2 = (Value.pointer (some b4)) ∧ e 3 = (SV.v x22) ∧ e 4 = (Value.int .i64 x23) ∧ e 5 = (Value.pointer (some b50))) ?_ ?_
      · clear hJ53
        refine WE.seq ?_
        refine WE.reg ?_
        refine LE.p (v := (Value.pointer (some (b50.add 1)))) (Wn.no rfl) rfl (R.fld (off := 1) fa50_1 rfl) ?_
        obtain ⟨t54, h55, h⟩ := h
        refine LE.r (v := (SV.v t54)) (Wn.no rfl) rfl (R.ld sc30 rfl h55) ?_
        refine LE.p (v := (Value.int .i64 (t54.len : Int))) (Wn.no rfl) rfl (R.len sl30 rfl) ?_
        refine LE.p (v := (Value.bool (decide ((6 : Int) < (t54.len : Int))))) (Wn.no rfl) rfl (R.gtr rfl rfl) ?_
        refine LE.nil ?_
        refine WE.condT rfl (b := (decide ((6 : Int) < (t54.len : Int)))) rfl ?_ ?_
        · intro hb56
          replace h := M.ite_t h hb56
          refine WE.reg ?_
          refine LE.p (v := (Value.pointer (some (b50.add 1)))) (Wn.no rfl) rfl (R.fld (off := 1) fa50_1 rfl) ?_
          obtain ⟨t57, h58, h⟩ := h
          refine LE.r (v := (SV.v t57)) (Wn.no rfl) rfl (R.ld sc30 rfl h58) ?_
          obtain ⟨h59, h60, h61, h⟩ := h
          refine LE.p (v := (SV.v (SV.sub t57 (Int.toNat (0 : Int)) (Int.toNat (6 : Int)) 1))) (Wn.no rfl) rfl (R.slc (s := t57) (lo := (0 : Int)) (hi := (6 : Int)) _ _ sl30 rfl rfl rfl h59 h60 h61) ?_
          refine LE.p (v := (Value.pointer (some (b50.add 1)))) (Wn.no rfl) rfl (R.fld (off := 1) fa50_1 rfl) ?_
          obtain ⟨w63, hww63, h64, h65, h⟩ := M.st_use h
          refine LE.s (Wn.no rfl) rfl (R.st (a := (b50.add 1)) (v := (SV.v (SV.sub t57 (Int.toNat (0 : Int)) (Int.toNat (6 : Int)) 1))) sz30 rfl rfl rfl rfl h64 h65 hww63) ?_
          refine LE.nil ?_
          exact ⟨h, f32, f33, f34, f35, rfl⟩
        · intro hb56
          replace h := M.ite_f h hb56
          refine WE.skip ?_
          exact ⟨h, f32, f33, f34, f35, rfl⟩
      · rintro e66 w67 ⟨h, f68, f69, f70, f71, f72⟩
        subst hJ53
        refine WE.reg ?_
        refine LE.p (v := (SV.v x22)) (Wn.no rfl) rfl (R.move f70) ?_
        obtain ⟨t73, h74, h⟩ := h
        obtain ⟨t75, h76, h⟩ := h
        refine LE.r (v := (Value.agg #[(Value.int .i64 t73), (SV.v t75)])) (Wn.no rfl) rfl (R.ldA ag50 sz50 f72 rfl (Cs.cons h74 (Cs.cons h76 Cs.nil))) ?_
        obtain ⟨b79, hpb79, w77, hww77, h⟩ := M.new_use h
        refine LE.r (v := (SV.v (SV.mk (some b79) 1 1))) (Wn.no rfl) rfl (R.bsl (by exact (Ls.cons (R.Pr rfl) Ls.nil)) (fun w => bs29_1 t73 t75 w) hpb79 hww77) ?_
        obtain ⟨s80, w81, h82, h⟩ := h
        refine LE.r (v := (SV.v s80)) (Wn.no rfl) rfl (R.app (s := x22) (r := s80) rfl rfl h82) ?_
        refine LE.p (v := (SV.v s80)) (Wn.no rfl) rfl (R.assign rfl) ?_
        refine LE.nil ?_
        refine WE.reg ?_
        refine LE.p (v := (Value.int .i64 x23)) (Wn.no rfl) rfl (R.move f71) ?_
        refine LE.p (v := (Value.int .i64 (IntKind.i64.wrap (x23 + (1 : Int))))) (Wn.no rfl) rfl (R.add rfl rfl) ?_
        refine LE.p (v := (Value.int .i64 (IntKind.i64.wrap (x23 + (1 : Int))))) (Wn.no rfl) rfl (R.assign rfl) ?_
        refine LE.nil ?_
        obtain ⟨m30, hm31, h⟩ := h
        exact ⟨m30, hm31, _, _, h, f68, f69, rfl, rfl⟩
    · intro hb38
      replace h := M.ite_f h hb38
      refine WE.exit ?_
      refine WE.seq ?_
      refine WE.reg ?_
      refine LE.p (v := (SV.v x22)) (Wn.no rfl) rfl (R.move f34) ?_
      refine LE.p (v := (Value.pointer (some (b2.add 1)))) (Wn.no rfl) rfl (R.fld (off := 1) fa32_1 f32) ?_
      obtain ⟨w83, hww83, h84, h85, h⟩ := M.st_use h
      refine LE.s (Wn.no rfl) rfl (R.st (a := (b2.add 1)) (v := (SV.v x22)) sz29 rfl rfl rfl rfl h84 h85 hww83) ?_
      refine LE.nil ?_
      obtain ⟨J86, hJ86, h⟩ := M.join_use h
      refine WE.join (fun e w => J86 w ∧ e 1 = (Value.pointer (some b2)) ∧ e 2 = (Value.pointer (some b4))) ?_ ?_
      · clear hJ86
        refine WE.seq ?_
        refine WE.reg ?_
        refine LE.p (v := (Value.pointer (some (b2.add 8)))) (Wn.no rfl) rfl (R.fld (off := 8) fa32_8 f32) ?_
        obtain ⟨t87, h88, h⟩ := h
        refine LE.r (v := (SV.v t87)) (Wn.no rfl) rfl (R.ld sc30 rfl h88) ?_
        refine LE.p (v := (Value.int .i64 (t87.len : Int))) (Wn.no rfl) rfl (R.len sl30 rfl) ?_
        refine LE.p (v := (Value.bool (decide ((34 : Int) < (t87.len : Int))))) (Wn.no rfl) rfl (R.gtr rfl rfl) ?_
        refine LE.nil ?_
        refine WE.condT rfl (b := (decide ((34 : Int) < (t87.len : Int)))) rfl ?_ ?_
        · intro hb89
          replace h := M.ite_t h hb89
          refine WE.reg ?_
          refine LE.p (v := (Value.pointer (some (b2.add 8)))) (Wn.no rfl) rfl (R.fld (off := 8) fa32_8 f32) ?_
          obtain ⟨t90, h91, h⟩ := h
          refine LE.r (v := (SV.v t90)) (Wn.no rfl) rfl (R.ld sc30 rfl h91) ?_
          obtain ⟨h92, h93, h94, h⟩ := h
          refine LE.p (v := (SV.v (SV.sub t90 (Int.toNat (0 : Int)) (Int.toNat (34 : Int)) 1))) (Wn.no rfl) rfl (R.slc (s := t90) (lo := (0 : Int)) (hi := (34 : Int)) _ _ sl30 rfl rfl rfl h92 h93 h94) ?_
          refine LE.p (v := (Value.pointer (some (b2.add 8)))) (Wn.no rfl) rfl (R.fld (off := 8) fa32_8 f32) ?_
          obtain ⟨w96, hww96, h97, h98, h⟩ := M.st_use h
          refine LE.s (Wn.no rfl) rfl (R.st (a := (b2.add 8)) (v := (SV.v (SV.sub t90 (Int.toNat (0 : Int)) (Int.toNat (34 : Int)) 1))) sz30 rfl rfl rfl rfl h97 h98 hww96) ?_
          refine LE.nil ?_
          exact ⟨h, f32, f33⟩
        · intro hb89
          replace h := M.ite_f h hb89
          refine WE.skip ?_
          exact ⟨h, f32, f33⟩
      · rintro e99 w100 ⟨h, f101, f102⟩
        subst hJ86
        refine WE.seq ?_
        refine WE.reg ?_
        obtain ⟨t103, t104, t105, t106, t107, t108, t109, t110, t111, h112, h⟩ := h
        refine LE.r (v := (Value.agg #[(Value.int .i64 t103), (SV.v t104), (Value.int .u32 t105), (Value.bool t106), (Value.int .u32 t107), (Value.bool t108), (Value.int .u32 t109), (Value.bool t110), (SV.v t111)])) (Wn.no rfl) rfl (R.ldA ag32 sz32 f101 rfl h112) ?_
        obtain ⟨w113, hww113, h114, h⟩ := M.stA_use h
        refine LE.s (Wn.no rfl) rfl (R.stA (a := b4) [(Value.int .i64 t103), (SV.v t104), (Value.int .u32 t105), (Value.bool t106), (Value.int .u32 t107), (Value.bool t108), (Value.int .u32 t109), (Value.bool t110), (SV.v t111)] sz32 f102 rfl rfl (by simp [Value.oneCell']) h114 hww113) ?_
        refine LE.nil ?_
        refine WE.ret ?_
        obtain ⟨t115, t116, t117, t118, t119, t120, t121, t122, t123, h124, h⟩ := h
        exact ⟨_, (Res.cell f102 (R.ldCellA ag32 sz32 rfl h124) Res.nil), _, _, _, _, _, _, _, _, _, rfl, h⟩
/-- The formula of signpost.signpostkeep.Tame. -/
def F27 (p0_0 : Int) (p0_1 : SV) (p0_2 : Int) (p0_3 : Bool) (p0_4 : Int) (p0_5 : Bool) (p0_6 : Int) (p0_7 : Bool) (p0_8 : SV) (p1 : Int) (K : Int → SV → Int → Bool → Int → Bool → Int → Bool → SV → World → Prop) (w0 : World) : Prop :=
M.new (.cells #[(Value.int .i64 p0_0), (SV.v p0_1), (Value.int .u32 p0_2), (Value.bool p0_3), (Value.int .u32 p0_4), (Value.bool p0_5), (Value.int .u32 p0_6), (Value.bool p0_7), (SV.v p0_8)] 32) w0 fun b2 w1 =>
M.new (.cells #[(Value.int .i64 (0 : Int)), (SV.v SV.nil), (Value.int .u32 (0 : Int)), (Value.bool false), (Value.int .u32 (0 : Int)), (Value.bool false), (Value.int .u32 (0 : Int)), (Value.bool false), (SV.v SV.nil)] 32) w1 fun b4 w3 =>
M.join (fun (x6 : Addr) (w63 : World) => 
M.join (fun (w78 : World) => 
M.join (fun (w93 : World) => 
M.new (.cells #[(Value.int .u32 p1)] 28) w93 fun b100 w98 =>
M.new (.cells #[(Value.int .i64 (0 : Int)), (SV.v SV.nil)] 50) w98 fun b102 w101 =>
M.stA b102 [(Value.int .i64 (2 : Int)), (SV.v (SV.mk (some b100) 1 1))] w101 fun w103 =>
M.loop1 (fun (J106 : Int → World → Prop) (x105 : Int) (w107 : World) => 
M.join (fun (x120 : Bool) (w125 : World) => 
M.ite x120 (
M.drew w125 fun w133 => 
M.ld SV.v (b102.add 1) w133 fun t134 =>
M.ld SV.v (b2.add 1) w133 fun t136 =>
M.idx t136 x105 2 fun a138 =>
M.ld SV.v ((a138.add (x105.toNat * 2)).add 1) w133 fun t142 =>
M.new (.cells #[(Value.int .u32 (IntKind.u32.wrap ((64500 : Int) + (IntKind.u32.wrap (Int.tmod (t142.len : Int) (4 : Int))))))] 28) w133 fun b146 w144 =>
M.keep (w144.cell? (b102.add 1) = some (SV.v t134)) <|
M.app Try.prog 30 30 30 t134 (SV.v (SV.mk (some b146) 1 1)) w144 fun s148 w149 =>
M.st (b102.add 1) (SV.v s148) w149 fun w151 =>
J106 (IntKind.i64.wrap (x105 + (1 : Int))) w151) (
M.ld (Value.int .i64) b102 w125 fun t154 =>
M.ld SV.v (b102.add 1) w125 fun t156 =>
M.new (.cells #[(Value.int .i64 t154), (SV.v t156)] 50) w125 fun b160 w158 =>
M.st (x6.add 1) (SV.v (SV.mk (some b160) 1 1)) w158 fun w161 =>
M.loop1 (fun (J165 : Int → World → Prop) (x164 : Int) (w166 : World) => 
M.join (fun (x178 : Bool) (w183 : World) => 
M.ite x178 (
M.ld SV.v (b2.add 8) w183 fun t190 =>
M.idx t190 x164 1 fun a192 =>
M.ld (Value.int .u32) (a192.add (x164.toNat * 1)) w183 fun t196 =>
M.join (fun (x199 : Int) (w210 : World) => 
M.ld SV.v (x6.add 8) w210 fun t216 =>
Calls Try.prog 33 #[(SV.v t216), (Value.int .u32 (IntKind.u32.wrap (x199 + (1 : Int))))] w210 (R33 fun r218 w219 =>
M.st (x6.add 8) (SV.v r218) w219 fun w220 =>
J165 (IntKind.i64.wrap (x164 + (1 : Int))) w220)) fun J198 => 
M.ite ((Int.tmod t196 (5 : Int)) == (4 : Int)) (
M.ld SV.v (b2.add 8) w183 fun t201 =>
M.idx t201 x164 1 fun a203 =>
M.ld (Value.int .u32) (a203.add (x164.toNat * 1)) w183 fun t207 =>
J198 (IntKind.u32.wrap ((4294967040 : Int) + (Int.tmod t207 (3 : Int)))) w183) (
J198 (Int.tmod t196 (5 : Int)) w183)) (
∃ (t223 : Int) (t224 : SV) (t225 : Int) (t226 : Bool) (t227 : Int) (t228 : Bool) (t229 : Int) (t230 : Bool) (t231 : SV), Cs w183 x6 0 [(Value.int .i64 t223), (SV.v t224), (Value.int .u32 t225), (Value.bool t226), (Value.int .u32 t227), (Value.bool t228), (Value.int .u32 t229), (Value.bool t230), (SV.v t231)] ∧
M.stA b4 [(Value.int .i64 t223), (SV.v t224), (Value.int .u32 t225), (Value.bool t226), (Value.int .u32 t227), (Value.bool t228), (Value.int .u32 t229), (Value.bool t230), (SV.v t231)] w183 fun w233 =>
∃ (t235 : Int) (t236 : SV) (t237 : Int) (t238 : Bool) (t239 : Int) (t240 : Bool) (t241 : Int) (t242 : Bool) (t243 : SV), Cs w233 b4 0 [(Value.int .i64 t235), (SV.v t236), (Value.int .u32 t237), (Value.bool t238), (Value.int .u32 t239), (Value.bool t240), (Value.int .u32 t241), (Value.bool t242), (SV.v t243)] ∧
K t235 t236 t237 t238 t239 t240 t241 t242 t243 w233)) fun J177 => 
M.ld SV.v (b2.add 8) w166 fun t179 =>
M.ite (decide (x164 < (t179.len : Int))) (
J177 (decide (x164 < (2 : Int))) w166) (
J177 false w166)) (0 : Int) w161)) fun J119 => 
M.ld SV.v (b2.add 1) w107 fun t121 =>
M.ite (decide (x105 < (t121.len : Int))) (
J119 (decide (x105 < (2 : Int))) w107) (
J119 false w107)) (0 : Int) w103) fun J83 => 
M.ld Value.bool (b2.add 5) w78 fun t84 =>
M.ite t84 (
M.ld (Value.int .u32) (b2.add 6) w78 fun t87 =>
M.st (x6.add 6) (Value.int .u32 (IntKind.u32.wrap ((100 : Int) + (Int.tmod t87 (3 : Int))))) w78 fun w89 =>
J83 w89) (
J83 w78)) fun J68 => 
M.ld Value.bool (b2.add 3) w63 fun t69 =>
M.ite t69 (
M.ld (Value.int .u32) (b2.add 4) w63 fun t72 =>
M.st (x6.add 4) (Value.int .u32 (Int.tmod t72 (3 : Int))) w63 fun w74 =>
J68 w74) (
J68 w63)) fun J5 => 
M.drew w3 fun w7 => 
M.ld (Value.int .i64) b2 w7 fun t8 =>
M.ld (Value.int .u32) (b2.add 2) w7 fun t10 =>
M.ld Value.bool (b2.add 3) w7 fun t12 =>
M.ld Value.bool (b2.add 5) w7 fun t14 =>
M.both (
Calls Try.prog 14 #[(Value.int .i64 t8), (Value.int .i64 (0 : Int)), (Value.int .i64 (2 : Int))] w7 (R14 fun r16 w17 =>
M.keep (w17.cell? (b2.add 5) = some (Value.bool t14)) <|
M.keep (w17.cell? (b2.add 3) = some (Value.bool t12)) <|
M.keep (w17.cell? (b2.add 2) = some (Value.int .u32 t10)) <|
M.both (
Calls Try.prog 32 #[(Value.int .u32 t10)] w17 (R32 fun r21 w22 =>
M.keep (w22.cell? (b2.add 5) = some (Value.bool t14)) <|
M.keep (w22.cell? (b2.add 3) = some (Value.bool t12)) <|
M.new (.cells #[(Value.int .i64 (0 : Int)), (SV.v SV.nil), (Value.int .u32 (0 : Int)), (Value.bool false), (Value.int .u32 (0 : Int)), (Value.bool false), (Value.int .u32 (0 : Int)), (Value.bool false), (SV.v SV.nil)] 32) w22 fun b26 w25 =>
M.keep (w25.cell? (b2.add 5) = some (Value.bool t14)) <|
M.keep (w25.cell? (b2.add 3) = some (Value.bool t12)) <|
M.keep (w25.cell? (b2.add 2) = some (Value.int .u32 t10)) <|
M.keep (w25.cell? b2 = some (Value.int .i64 t8)) <|
M.stA b26 [(Value.int .i64 r16), (SV.v SV.nil), (Value.int .u32 r21), (Value.bool t12), (Value.int .u32 (0 : Int)), (Value.bool t14), (Value.int .u32 (0 : Int)), (Value.bool false), (SV.v SV.nil)] w25 fun w31 =>
J5 b26 w31)) (
M.new (.cells #[(Value.int .i64 (0 : Int)), (SV.v SV.nil), (Value.int .u32 (0 : Int)), (Value.bool false), (Value.int .u32 (0 : Int)), (Value.bool false), (Value.int .u32 (0 : Int)), (Value.bool false), (SV.v SV.nil)] 32) w17 fun b34 w33 =>
M.keep (w33.cell? (b2.add 5) = some (Value.bool t14)) <|
M.keep (w33.cell? (b2.add 3) = some (Value.bool t12)) <|
M.keep (w33.cell? (b2.add 2) = some (Value.int .u32 t10)) <|
M.keep (w33.cell? b2 = some (Value.int .i64 t8)) <|
Calls Try.prog 32 #[(Value.int .u32 t10)] w33 (R32 fun r39 w40 =>
M.keep (w40.cell? (b2.add 5) = some (Value.bool t14)) <|
M.keep (w40.cell? (b2.add 3) = some (Value.bool t12)) <|
M.stA b34 [(Value.int .i64 r16), (SV.v SV.nil), (Value.int .u32 r39), (Value.bool t12), (Value.int .u32 (0 : Int)), (Value.bool t14), (Value.int .u32 (0 : Int)), (Value.bool false), (SV.v SV.nil)] w40 fun w43 =>
J5 b34 w43)))) (
M.new (.cells #[(Value.int .i64 (0 : Int)), (SV.v SV.nil), (Value.int .u32 (0 : Int)), (Value.bool false), (Value.int .u32 (0 : Int)), (Value.bool false), (Value.int .u32 (0 : Int)), (Value.bool false), (SV.v SV.nil)] 32) w7 fun b46 w45 =>
M.keep (w45.cell? (b2.add 5) = some (Value.bool t14)) <|
M.keep (w45.cell? (b2.add 3) = some (Value.bool t12)) <|
M.keep (w45.cell? (b2.add 2) = some (Value.int .u32 t10)) <|
M.keep (w45.cell? b2 = some (Value.int .i64 t8)) <|
Calls Try.prog 14 #[(Value.int .i64 t8), (Value.int .i64 (0 : Int)), (Value.int .i64 (2 : Int))] w45 (R14 fun r51 w52 =>
M.keep (w52.cell? (b2.add 5) = some (Value.bool t14)) <|
M.keep (w52.cell? (b2.add 3) = some (Value.bool t12)) <|
M.keep (w52.cell? (b2.add 2) = some (Value.int .u32 t10)) <|
Calls Try.prog 32 #[(Value.int .u32 t10)] w52 (R32 fun r56 w57 =>
M.keep (w57.cell? (b2.add 5) = some (Value.bool t14)) <|
M.keep (w57.cell? (b2.add 3) = some (Value.bool t12)) <|
M.stA b46 [(Value.int .i64 r51), (SV.v SV.nil), (Value.int .u32 r56), (Value.bool t12), (Value.int .u32 (0 : Int)), (Value.bool t14), (Value.int .u32 (0 : Int)), (Value.bool false), (SV.v SV.nil)] w57 fun w60 =>
J5 b46 w60)))
theorem F27_ok {w0 : World} {p0_0 : Int} {p0_1 : SV} {p0_2 : Int} {p0_3 : Bool} {p0_4 : Int} {p0_5 : Bool} {p0_6 : Int} {p0_7 : Bool} {p0_8 : SV} {p1 : Int} {K : Int → SV → Int → Bool → Int → Bool → Int → Bool → SV → World → Prop} (h : F27 p0_0 p0_1 p0_2 p0_3 p0_4 p0_5 p0_6 p0_7 p0_8 p1 K w0) : Calls Try.prog 27 #[(Value.agg #[(Value.int .i64 p0_0), (SV.v p0_1), (Value.int .u32 p0_2), (Value.bool p0_3), (Value.int .u32 p0_4), (Value.bool p0_5), (Value.int .u32 p0_6), (Value.bool p0_7), (SV.v p0_8)]), (Value.int .u32 p1)] w0 (R27 K) := by
  refine calls_of_WE (args := [(Value.agg #[(Value.int .i64 p0_0), (SV.v p0_1), (Value.int .u32 p0_2), (Value.bool p0_3), (Value.int .u32 p0_4), (Value.bool p0_5), (Value.int .u32 p0_6), (Value.bool p0_7), (SV.v p0_8)]), (Value.int .u32 p1)]) (rs := [.cell 4 32]) Try.func27 rfl (N := 99) rfl rfl rfl rfl ?_
  refine WE.seq ?_
  refine WE.reg ?_
  obtain ⟨b2, hpb2, w1, hww1, h⟩ := M.new_use h
  refine LE.r (v := (Value.pointer (some b2))) (Wn.no rfl) rfl (R.box (cs := #[(Value.int .i64 p0_0), (SV.v p0_1), (Value.int .u32 p0_2), (Value.bool p0_3), (Value.int .u32 p0_4), (Value.bool p0_5), (Value.int .u32 p0_6), (Value.bool p0_7), (SV.v p0_8)]) rfl rfl hpb2 hww1) ?_
  obtain ⟨b4, hpb4, w3, hww3, h⟩ := M.new_use h
  refine LE.r (v := (Value.pointer (some b4))) (Wn.no rfl) rfl (R.alloc (cs := #[(Value.int .i64 (0 : Int)), (SV.v SV.nil), (Value.int .u32 (0 : Int)), (Value.bool false), (Value.int .u32 (0 : Int)), (Value.bool false), (Value.int .u32 (0 : Int)), (Value.bool false), (SV.v SV.nil)]) ze32 rfl hpb4 hww3) ?_
  refine LE.nil ?_
  refine WE.seq ?_
  obtain ⟨J5, hJ5, h⟩ := M.join_use h
  refine WE.drawJ (fun e w => ∃ (x6 : Addr), J5 x6 w ∧ e 1 = (Value.int .u32 p1) ∧ e 2 = (Value.pointer (some b2)) ∧ e 4 = (Value.pointer (some b4)) ∧ e 5 = (Value.pointer (some x6))) mix ?_ ?_
  · clear hJ5
    obtain ⟨w7, hww7, h⟩ := M.drew_use h
    rw [← hww7]
    clear hww7
    refine DE.t 0 (v := (Value.pointer (some b2))) rfl (by kernel_rfl) (Wn.no rfl) rfl (R.fld (off := 0) fa32_0 rfl) ?_
    refine DE.t 3 (v := (Value.pointer (some (b2.add 2)))) rfl (by kernel_rfl) (Wn.no rfl) rfl (R.fld (off := 2) fa32_2 rfl) ?_
    refine DE.t 6 (v := (Value.pointer (some (b2.add 3)))) rfl (by kernel_rfl) (Wn.no rfl) rfl (R.fld (off := 3) fa32_3 rfl) ?_
    refine DE.t 8 (v := (Value.pointer (some (b2.add 5)))) rfl (by kernel_rfl) (Wn.no rfl) rfl (R.fld (off := 5) fa32_5 rfl) ?_
    obtain ⟨t8, h9, h⟩ := h
    refine DE.hold 1 (fun w => w.cell? b2 = some (Value.int .i64 t8)) (v := (Value.int .i64 t8)) rfl (by kernel_rfl) (Wn.no rfl) rfl h9 (fun w hs => R.ld sc3 rfl hs) ?_
    obtain ⟨t10, h11, h⟩ := h
    refine DE.hold 4 (fun w => w.cell? (b2.add 2) = some (Value.int .u32 t10)) (v := (Value.int .u32 t10)) rfl (by kernel_rfl) (Wn.no rfl) rfl h11 (fun w hs => R.ld sc28 rfl hs) ?_
    obtain ⟨t12, h13, h⟩ := h
    refine DE.hold 7 (fun w => w.cell? (b2.add 3) = some (Value.bool t12)) (v := (Value.bool t12)) rfl (by kernel_rfl) (Wn.no rfl) rfl h13 (fun w hs => R.ld sc4 rfl hs) ?_
    obtain ⟨t14, h15, h⟩ := h
    refine DE.hold 9 (fun w => w.cell? (b2.add 5) = some (Value.bool t14)) (v := (Value.bool t14)) rfl (by kernel_rfl) (Wn.no rfl) rfl h15 (fun w hs => R.ld sc4 rfl hs) ?_
    refine DE.main2 2 11 (by kernel_rfl) ?_ ?_
    · replace h := h.1
      refine One.c 2 rfl (Wn.no rfl) rfl (R.call bd14 (Ls.cons rfl (Ls.cons rfl (Ls.cons rfl Ls.nil))) rfl) (Calls.mono h ?_)
      rintro _ w17 ⟨r16, rfl, h⟩
      obtain ⟨k18, h⟩ := h
      obtain ⟨k19, h⟩ := h
      obtain ⟨k20, h⟩ := h
      refine ⟨_, rfl, ⟨fun _ => k18, fun _ => k19, fun _ => k20, aftT (by kernel_rfl), trivial⟩, ?_⟩
      refine DE.main2 5 11 (by kernel_rfl) ?_ ?_
      · replace h := h.1
        refine One.c 5 rfl (Wn.no rfl) rfl (R.call bd32 (Ls.cons rfl Ls.nil) rfl) (Calls.mono h ?_)
        rintro _ w22 ⟨r21, rfl, h⟩
        obtain ⟨k23, h⟩ := h
        obtain ⟨k24, h⟩ := h
        refine ⟨_, rfl, ⟨fun _ => k23, fun _ => k24, aftT (by kernel_rfl), aftT (by kernel_rfl), trivial⟩, ?_⟩
        refine DE.t 10 (v := (Value.agg #[(Value.int .i64 r16), (SV.v SV.nil), (Value.int .u32 r21), (Value.bool t12), (Value.int .u32 (0 : Int)), (Value.bool t14), (Value.int .u32 (0 : Int)), (Value.bool false), (SV.v SV.nil)])) rfl (by kernel_rfl) (Wn.no rfl) rfl (R.bld (by exact (Ls.cons (R.Pr rfl) (Ls.cons (R.Pr rfl) (Ls.cons (R.Pr rfl) (Ls.cons (R.Pr rfl) Ls.nil))))) (fun w => bu32_0_2_3_5 r16 r21 t12 t14 w)) ?_
        obtain ⟨b26, hpb26, w25, hww25, h⟩ := M.new_use h
        obtain ⟨k27, h⟩ := h
        obtain ⟨k28, h⟩ := h
        obtain ⟨k29, h⟩ := h
        obtain ⟨k30, h⟩ := h
        refine DE.main 11 (by kernel_rfl) ?_
        refine One.r 11 (v := (Value.pointer (some b26))) rfl (Wn.no rfl) rfl (R.alloc (cs := #[(Value.int .i64 (0 : Int)), (SV.v SV.nil), (Value.int .u32 (0 : Int)), (Value.bool false), (Value.int .u32 (0 : Int)), (Value.bool false), (Value.int .u32 (0 : Int)), (Value.bool false), (SV.v SV.nil)]) ze32 rfl hpb26 hww25) (.inr ⟨fun _ => k27, fun _ => k28, fun _ => k29, fun _ => k30, trivial⟩) ?_
        obtain ⟨w31, hww31, h32, h⟩ := M.stA_use h
        refine DE.main 12 (by kernel_rfl) ?_
        refine One.s 12 rfl (Wn.no rfl) rfl (R.stA (a := b26) [(Value.int .i64 r16), (SV.v SV.nil), (Value.int .u32 r21), (Value.bool t12), (Value.int .u32 (0 : Int)), (Value.bool t14), (Value.int .u32 (0 : Int)), (Value.bool false), (SV.v SV.nil)] sz32 rfl rfl rfl (by simp [Value.oneCell']) h32 hww31) ⟨aftT (by kernel_rfl), aftT (by kernel_rfl), aftT (by kernel_rfl), aftT (by kernel_rfl), trivial⟩ ?_
        refine DE.done (by kernel_rfl) ?_
        exact ⟨_, h, rfl, rfl, rfl, rfl⟩
      · replace h := h.2
        obtain ⟨b34, hpb34, w33, hww33, h⟩ := M.new_use h
        obtain ⟨k35, h⟩ := h
        obtain ⟨k36, h⟩ := h
        obtain ⟨k37, h⟩ := h
        obtain ⟨k38, h⟩ := h
        refine One.r 11 (v := (Value.pointer (some b34))) rfl (Wn.no rfl) rfl (R.alloc (cs := #[(Value.int .i64 (0 : Int)), (SV.v SV.nil), (Value.int .u32 (0 : Int)), (Value.bool false), (Value.int .u32 (0 : Int)), (Value.bool false), (Value.int .u32 (0 : Int)), (Value.bool false), (SV.v SV.nil)]) ze32 rfl hpb34 hww33) (.inr ⟨fun _ => k35, fun _ => k36, fun _ => k37, fun _ => k38, trivial⟩) ?_
        refine DE.main 5 (by kernel_rfl) ?_
        refine One.c 5 rfl (Wn.no rfl) rfl (R.call bd32 (Ls.cons rfl Ls.nil) rfl) (Calls.mono h ?_)
        rintro _ w40 ⟨r39, rfl, h⟩
        obtain ⟨k41, h⟩ := h
        obtain ⟨k42, h⟩ := h
        refine ⟨_, rfl, ⟨fun _ => k41, fun _ => k42, aftT (by kernel_rfl), aftT (by kernel_rfl), trivial⟩, ?_⟩
        refine DE.t 10 (v := (Value.agg #[(Value.int .i64 r16), (SV.v SV.nil), (Value.int .u32 r39), (Value.bool t12), (Value.int .u32 (0 : Int)), (Value.bool t14), (Value.int .u32 (0 : Int)), (Value.bool false), (SV.v SV.nil)])) rfl (by kernel_rfl) (Wn.no rfl) rfl (R.bld (by exact (Ls.cons (R.Pr rfl) (Ls.cons (R.Pr rfl) (Ls.cons (R.Pr rfl) (Ls.cons (R.Pr rfl) Ls.nil))))) (fun w => bu32_0_2_3_5 r16 r39 t12 t14 w)) ?_
        obtain ⟨w43, hww43, h44, h⟩ := M.stA_use h
        refine DE.main 12 (by kernel_rfl) ?_
        refine One.s 12 rfl (Wn.no rfl) rfl (R.stA (a := b34) [(Value.int .i64 r16), (SV.v SV.nil), (Value.int .u32 r39), (Value.bool t12), (Value.int .u32 (0 : Int)), (Value.bool t14), (Value.int .u32 (0 : Int)), (Value.bool false), (SV.v SV.nil)] sz32 rfl rfl rfl (by simp [Value.oneCell']) h44 hww43) ⟨aftT (by kernel_rfl), aftT (by kernel_rfl), aftT (by kernel_rfl), aftT (by kernel_rfl), trivial⟩ ?_
        refine DE.done (by kernel_rfl) ?_
        exact ⟨_, h, rfl, rfl, rfl, rfl⟩
    · replace h := h.2
      obtain ⟨b46, hpb46, w45, hww45, h⟩ := M.new_use h
      obtain ⟨k47, h⟩ := h
      obtain ⟨k48, h⟩ := h
      obtain ⟨k49, h⟩ := h
      obtain ⟨k50, h⟩ := h
      refine One.r 11 (v := (Value.pointer (some b46))) rfl (Wn.no rfl) rfl (R.alloc (cs := #[(Value.int .i64 (0 : Int)), (SV.v SV.nil), (Value.int .u32 (0 : Int)), (Value.bool false), (Value.int .u32 (0 : Int)), (Value.bool false), (Value.int .u32 (0 : Int)), (Value.bool false), (SV.v SV.nil)]) ze32 rfl hpb46 hww45) (.inr ⟨fun _ => k47, fun _ => k48, fun _ => k49, fun _ => k50, trivial⟩) ?_
      refine DE.main 2 (by kernel_rfl) ?_
      refine One.c 2 rfl (Wn.no rfl) rfl (R.call bd14 (Ls.cons rfl (Ls.cons rfl (Ls.cons rfl Ls.nil))) rfl) (Calls.mono h ?_)
      rintro _ w52 ⟨r51, rfl, h⟩
      obtain ⟨k53, h⟩ := h
      obtain ⟨k54, h⟩ := h
      obtain ⟨k55, h⟩ := h
      refine ⟨_, rfl, ⟨fun _ => k53, fun _ => k54, fun _ => k55, aftT (by kernel_rfl), trivial⟩, ?_⟩
      refine DE.main 5 (by kernel_rfl) ?_
      refine One.c 5 rfl (Wn.no rfl) rfl (R.call bd32 (Ls.cons rfl Ls.nil) rfl) (Calls.mono h ?_)
      rintro _ w57 ⟨r56, rfl, h⟩
      obtain ⟨k58, h⟩ := h
      obtain ⟨k59, h⟩ := h
      refine ⟨_, rfl, ⟨fun _ => k58, fun _ => k59, aftT (by kernel_rfl), aftT (by kernel_rfl), trivial⟩, ?_⟩
      refine DE.t 10 (v := (Value.agg #[(Value.int .i64 r51), (SV.v SV.nil), (Value.int .u32 r56), (Value.bool t12), (Value.int .u32 (0 : Int)), (Value.bool t14), (Value.int .u32 (0 : Int)), (Value.bool false), (SV.v SV.nil)])) rfl (by kernel_rfl) (Wn.no rfl) rfl (R.bld (by exact (Ls.cons (R.Pr rfl) (Ls.cons (R.Pr rfl) (Ls.cons (R.Pr rfl) (Ls.cons (R.Pr rfl) Ls.nil))))) (fun w => bu32_0_2_3_5 r51 r56 t12 t14 w)) ?_
      obtain ⟨w60, hww60, h61, h⟩ := M.stA_use h
      refine DE.main 12 (by kernel_rfl) ?_
      refine One.s 12 rfl (Wn.no rfl) rfl (R.stA (a := b46) [(Value.int .i64 r51), (SV.v SV.nil), (Value.int .u32 r56), (Value.bool t12), (Value.int .u32 (0 : Int)), (Value.bool t14), (Value.int .u32 (0 : Int)), (Value.bool false), (SV.v SV.nil)] sz32 rfl rfl rfl (by simp [Value.oneCell']) h61 hww60) ⟨aftT (by kernel_rfl), aftT (by kernel_rfl), aftT (by kernel_rfl), aftT (by kernel_rfl), trivial⟩ ?_
      refine DE.done (by kernel_rfl) ?_
      exact ⟨_, h, rfl, rfl, rfl, rfl⟩
  · rintro e62 w63 ⟨x6, h, f64, f65, f66, f67⟩
    subst hJ5
    obtain ⟨J68, hJ68, h⟩ := M.join_use h
    refine WE.join (fun e w => J68 w ∧ e 1 = (Value.int .u32 p1) ∧ e 2 = (Value.pointer (some b2)) ∧ e 4 = (Value.pointer (some b4)) ∧ e 5 = (Value.pointer (some x6))) ?_ ?_
    · clear hJ68
      refine WE.seq ?_
      refine WE.reg ?_
      refine LE.p (v := (Value.pointer (some (b2.add 3)))) (Wn.no rfl) rfl (R.fld (off := 3) fa32_3 f65) ?_
      obtain ⟨t69, h70, h⟩ := h
      refine LE.r (v := (Value.bool t69)) (Wn.no rfl) rfl (R.ld sc4 rfl h70) ?_
      refine LE.nil ?_
      refine WE.condT rfl (b := t69) rfl ?_ ?_
      · intro hb71
        replace h := M.ite_t h hb71
        refine WE.reg ?_
        refine LE.p (v := (Value.pointer (some (b2.add 4)))) (Wn.no rfl) rfl (R.fld (off := 4) fa32_4 f65) ?_
        obtain ⟨t72, h73, h⟩ := h
        refine LE.r (v := (Value.int .u32 t72)) (Wn.no rfl) rfl (R.ld sc28 rfl h73) ?_
        refine LE.p (v := (Value.int .u32 (Int.tmod t72 (3 : Int)))) (Wn.no rfl) rfl (R.rem rfl rfl (by decide)) ?_
        refine LE.p (v := (Value.pointer (some (x6.add 4)))) (Wn.no rfl) rfl (R.fld (off := 4) fa32_4 f67) ?_
        obtain ⟨w74, hww74, h75, h76, h⟩ := M.st_use h
        refine LE.s (Wn.no rfl) rfl (R.st (a := (x6.add 4)) (v := (Value.int .u32 (Int.tmod t72 (3 : Int)))) sz28 rfl rfl rfl rfl h75 h76 hww74) ?_
        refine LE.nil ?_
        exact ⟨h, f64, f65, f66, f67⟩
      · intro hb71
        replace h := M.ite_f h hb71
        refine WE.skip ?_
        exact ⟨h, f64, f65, f66, f67⟩
    · rintro e77 w78 ⟨h, f79, f80, f81, f82⟩
      subst hJ68
      obtain ⟨J83, hJ83, h⟩ := M.join_use h
      refine WE.join (fun e w => J83 w ∧ e 1 = (Value.int .u32 p1) ∧ e 2 = (Value.pointer (some b2)) ∧ e 4 = (Value.pointer (some b4)) ∧ e 5 = (Value.pointer (some x6))) ?_ ?_
      · clear hJ83
        refine WE.seq ?_
        refine WE.reg ?_
        refine LE.p (v := (Value.pointer (some (b2.add 5)))) (Wn.no rfl) rfl (R.fld (off := 5) fa32_5 f80) ?_
        obtain ⟨t84, h85, h⟩ := h
        refine LE.r (v := (Value.bool t84)) (Wn.no rfl) rfl (R.ld sc4 rfl h85) ?_
        refine LE.nil ?_
        refine WE.condT rfl (b := t84) rfl ?_ ?_
        · intro hb86
          replace h := M.ite_t h hb86
          refine WE.reg ?_
          refine LE.p (v := (Value.pointer (some (b2.add 6)))) (Wn.no rfl) rfl (R.fld (off := 6) fa32_6 f80) ?_
          obtain ⟨t87, h88, h⟩ := h
          refine LE.r (v := (Value.int .u32 t87)) (Wn.no rfl) rfl (R.ld sc28 rfl h88) ?_
          refine LE.p (v := (Value.int .u32 (Int.tmod t87 (3 : Int)))) (Wn.no rfl) rfl (R.rem rfl rfl (by decide)) ?_
          refine LE.p (v := (Value.int .u32 (IntKind.u32.wrap ((100 : Int) + (Int.tmod t87 (3 : Int)))))) (Wn.no rfl) rfl (R.add rfl rfl) ?_
          refine LE.p (v := (Value.pointer (some (x6.add 6)))) (Wn.no rfl) rfl (R.fld (off := 6) fa32_6 f82) ?_
          obtain ⟨w89, hww89, h90, h91, h⟩ := M.st_use h
          refine LE.s (Wn.no rfl) rfl (R.st (a := (x6.add 6)) (v := (Value.int .u32 (IntKind.u32.wrap ((100 : Int) + (Int.tmod t87 (3 : Int)))))) sz28 rfl rfl rfl rfl h90 h91 hww89) ?_
          refine LE.nil ?_
          exact ⟨h, f79, f80, f81, f82⟩
        · intro hb86
          replace h := M.ite_f h hb86
          refine WE.skip ?_
          exact ⟨h, f79, f80, f81, f82⟩
      · rintro e92 w93 ⟨h, f94, f95, f96, f97⟩
        subst hJ83
        refine WE.seq ?_
        refine WE.reg ?_
        refine LE.p (v := (Value.int .u32 p1)) (Wn.no rfl) rfl (R.move f94) ?_
        obtain ⟨b100, hpb100, w98, hww98, h⟩ := M.new_use h
        refine LE.r (v := (SV.v (SV.mk (some b100) 1 1))) (Wn.no rfl) rfl (R.bsl (by exact (Ls.cons (R.Pr rfl) Ls.nil)) (fun w => bs30_1 p1 w) hpb100 hww98) ?_
        refine LE.p (v := (Value.agg #[(Value.int .i64 (2 : Int)), (SV.v (SV.mk (some b100) 1 1))])) (Wn.no rfl) rfl (R.bld (by exact (Ls.cons (R.Pr rfl) (Ls.cons (R.Pr rfl) Ls.nil))) (fun w => bu50_0_1 (2 : Int) (SV.mk (some b100) 1 1) w)) ?_
        obtain ⟨b102, hpb102, w101, hww101, h⟩ := M.new_use h
        refine LE.r (v := (Value.pointer (some b102))) (Wn.no rfl) rfl (R.alloc (cs := #[(Value.int .i64 (0 : Int)), (SV.v SV.nil)]) ze50 rfl hpb102 hww101) ?_
        obtain ⟨w103, hww103, h104, h⟩ := M.stA_use h
        refine LE.s (Wn.no rfl) rfl (R.stA (a := b102) [(Value.int .i64 (2 : Int)), (SV.v (SV.mk (some b100) 1 1))] sz50 rfl rfl rfl (by simp [Value.oneCell']) h104 hww103) ?_
        refine LE.nil ?_
        refine WE.seq ?_
        refine WE.seq ?_
        refine WE.reg ?_
        refine LE.p (v := (Value.int .i64 (0 : Int))) (Wn.no rfl) rfl (R.assign rfl) ?_
        refine LE.nil ?_
        refine WE.block ?_
        obtain ⟨I110, ⟨n109, h⟩, hr111⟩ := h
        refine WE.loop (fun n e w => ∃ (x105 : Int), I110 n x105 w ∧ e 2 = (Value.pointer (some b2)) ∧ e 4 = (Value.pointer (some b4)) ∧ e 5 = (Value.pointer (some x6)) ∧ e 6 = (Value.pointer (some b102)) ∧ e 7 = (Value.int .i64 x105)) n109 ⟨_, h, f95, f96, f97, rfl, rfl⟩ ?_
        clear h
        rintro n109 e108 w107 ⟨x105, h, f114, f115, f116, f117, f118⟩
        replace h := hr111 n109 x105 w107 h
        refine WE.seq ?_
        refine WE.seq ?_
        obtain ⟨J119, hJ119, h⟩ := M.join_use h
        refine WE.regJ (fun e w => ∃ (x120 : Bool), J119 x120 w ∧ e 2 = (Value.pointer (some b2)) ∧ e 4 = (Value.pointer (some b4)) ∧ e 5 = (Value.pointer (some x6)) ∧ e 6 = (Value.pointer (some b102)) ∧ e 7 = (Value.int .i64 x105) ∧ e 45 = (Value.bool x120)) ?_ ?_
        · clear hJ119
          refine LE.p (v := (Value.int .i64 x105)) (Wn.no rfl) rfl (R.move f118) ?_
          refine LE.p (v := (Value.pointer (some (b2.add 1)))) (Wn.no rfl) rfl (R.fld (off := 1) fa32_1 f114) ?_
          obtain ⟨t121, h122, h⟩ := h
          refine LE.r (v := (SV.v t121)) (Wn.no rfl) rfl (R.ld sc29 rfl h122) ?_
          refine LE.p (v := (Value.int .i64 (t121.len : Int))) (Wn.no rfl) rfl (R.len sl29 rfl) ?_
          refine LE.p (v := (Value.bool (decide (x105 < (t121.len : Int))))) (Wn.no rfl) rfl (R.lss rfl rfl) ?_
          refine LE.p (v := (Value.bool (decide (x105 < (t121.len : Int))))) (Wn.no rfl) rfl (R.move rfl) ?_
          rcases M.ite_use h with ⟨hb123, h⟩ | ⟨hb123, h⟩
          · refine LE.p (v := (Value.int .i64 x105)) (Wn.yes 5 42 true rfl rfl rfl (congrArg Value.bool hb123)) rfl (R.move f118) ?_
            refine LE.p (v := (Value.bool (decide (x105 < (2 : Int))))) (Wn.yes 5 42 true rfl rfl rfl (congrArg Value.bool hb123)) rfl (R.lss rfl rfl) ?_
            refine LE.p (v := (Value.bool (decide (x105 < (2 : Int))))) (Wn.no rfl) rfl (R.pickT (congrArg Value.bool hb123) rfl) ?_
            refine LE.nil ?_
            exact ⟨_, h, f114, f115, f116, f117, f118, rfl⟩
          · refine LE.u (Un.no 5 42 true rfl rfl rfl (congrArg Value.bool hb123)) ?_
            refine LE.u (Un.no 5 42 true rfl rfl rfl (congrArg Value.bool hb123)) ?_
            refine LE.p (v := (Value.bool false)) (Wn.no rfl) rfl (R.pickF (congrArg Value.bool hb123) rfl) ?_
            refine LE.nil ?_
            exact ⟨_, h, f114, f115, f116, f117, f118, rfl⟩
        · rintro e124 w125 ⟨x120, h, f126, f127, f128, f129, f130, f131⟩
          subst hJ119
          refine WE.condT rfl (b := x120) f131 ?_ ?_
          · intro hb132
            replace h := M.ite_t h hb132
            refine WE.skip ?_
            refine WE.seq ?_
            refine WE.block ?_
            refine WE.draw mix ?_
            obtain ⟨w133, hww133, h⟩ := M.drew_use h
            rw [← hww133]
            clear hww133
            refine DE.t 0 (v := (Value.pointer (some (b102.add 1)))) rfl (by kernel_rfl) (Wn.no rfl) rfl (R.fld (off := 1) fa50_1 f129) ?_
            refine DE.t 2 (v := (Value.pointer (some (b2.add 1)))) rfl (by kernel_rfl) (Wn.no rfl) rfl (R.fld (off := 1) fa32_1 f126) ?_
            refine DE.t 4 (v := (Value.int .i64 x105)) rfl (by kernel_rfl) (Wn.no rfl) rfl (R.move f130) ?_
            obtain ⟨t134, h135, h⟩ := h
            refine DE.hold 1 (fun w => w.cell? (b102.add 1) = some (SV.v t134)) (v := (SV.v t134)) rfl (by kernel_rfl) (Wn.no rfl) rfl h135 (fun w hs => R.ld sc30 rfl hs) ?_
            obtain ⟨t136, h137, h⟩ := h
            refine DE.main 3 (by kernel_rfl) ?_
            refine One.r 3 (v := (SV.v t136)) rfl (Wn.no rfl) rfl (R.ld sc29 rfl h137) (.inl rfl) ?_
            obtain ⟨a138, h139, h140, h141, h⟩ := h
            refine DE.t 5 (v := (Value.pointer (some (a138.add (x105.toNat * 2))))) rfl (by kernel_rfl) (Wn.no rfl) rfl (R.idx (s := t136) sl29 rfl rfl h139 h140 h141) ?_
            refine DE.t 6 (v := (Value.pointer (some ((a138.add (x105.toNat * 2)).add 1)))) rfl (by kernel_rfl) (Wn.no rfl) rfl (R.fld (off := 1) fa50_1 rfl) ?_
            obtain ⟨t142, h143, h⟩ := h
            refine DE.main 7 (by kernel_rfl) ?_
            refine One.r 7 (v := (SV.v t142)) rfl (Wn.no rfl) rfl (R.ld sc30 rfl h143) (.inl rfl) ?_
            refine DE.t 8 (v := (Value.int .i64 (t142.len : Int))) rfl (by kernel_rfl) (Wn.no rfl) rfl (R.len sl30 rfl) ?_
            refine DE.t 9 (v := (Value.int .i64 (Int.tmod (t142.len : Int) (4 : Int)))) rfl (by kernel_rfl) (Wn.no rfl) rfl (R.rem rfl rfl (by decide)) ?_
            refine DE.t 10 (v := (Value.int .u32 (IntKind.u32.wrap (Int.tmod (t142.len : Int) (4 : Int))))) rfl (by kernel_rfl) (Wn.no rfl) rfl (R.conv in28 in3 rfl) ?_
            refine DE.t 11 (v := (Value.int .u32 (IntKind.u32.wrap ((64500 : Int) + (IntKind.u32.wrap (Int.tmod (t142.len : Int) (4 : Int))))))) rfl (by kernel_rfl) (Wn.no rfl) rfl (R.add rfl rfl) ?_
            obtain ⟨b146, hpb146, w144, hww144, h⟩ := M.new_use h
            obtain ⟨k147, h⟩ := h
            refine DE.main 12 (by kernel_rfl) ?_
            refine One.r 12 (v := (SV.v (SV.mk (some b146) 1 1))) rfl (Wn.no rfl) rfl (R.bsl (by exact (Ls.cons (R.Pr rfl) Ls.nil)) (fun w => bs30_1 (IntKind.u32.wrap ((64500 : Int) + (IntKind.u32.wrap (Int.tmod (t142.len : Int) (4 : Int))))) w) hpb146 hww144) (.inr ⟨fun _ => k147, trivial⟩) ?_
            obtain ⟨s148, w149, h150, h⟩ := h
            refine DE.main 13 (by kernel_rfl) ?_
            refine One.r 13 (v := (SV.v s148)) rfl (Wn.no rfl) rfl (R.app (s := t134) (r := s148) rfl rfl h150) (.inr ⟨aftT (by kernel_rfl), trivial⟩) ?_
            refine DE.t 14 (v := (Value.pointer (some (b102.add 1)))) rfl (by kernel_rfl) (Wn.no rfl) rfl (R.fld (off := 1) fa50_1 f129) ?_
            obtain ⟨w151, hww151, h152, h153, h⟩ := M.st_use h
            refine DE.main 15 (by kernel_rfl) ?_
            refine One.s 15 rfl (Wn.no rfl) rfl (R.st (a := (b102.add 1)) (v := (SV.v s148)) sz30 rfl rfl rfl rfl h152 h153 hww151) ⟨aftT (by kernel_rfl), trivial⟩ ?_
            refine DE.done (by kernel_rfl) ?_
            refine WE.reg ?_
            refine LE.p (v := (Value.int .i64 x105)) (Wn.no rfl) rfl (R.move f130) ?_
            refine LE.p (v := (Value.int .i64 (IntKind.i64.wrap (x105 + (1 : Int))))) (Wn.no rfl) rfl (R.add rfl rfl) ?_
            refine LE.p (v := (Value.int .i64 (IntKind.i64.wrap (x105 + (1 : Int))))) (Wn.no rfl) rfl (R.assign rfl) ?_
            refine LE.nil ?_
            obtain ⟨m112, hm113, h⟩ := h
            exact ⟨m112, hm113, _, h, f126, f127, f128, f129, rfl⟩
          · intro hb132
            replace h := M.ite_f h hb132
            refine WE.exit ?_
            refine WE.seq ?_
            refine WE.reg ?_
            obtain ⟨t154, h155, h⟩ := h
            obtain ⟨t156, h157, h⟩ := h
            refine LE.r (v := (Value.agg #[(Value.int .i64 t154), (SV.v t156)])) (Wn.no rfl) rfl (R.ldA ag50 sz50 f129 rfl (Cs.cons h155 (Cs.cons h157 Cs.nil))) ?_
            obtain ⟨b160, hpb160, w158, hww158, h⟩ := M.new_use h
            refine LE.r (v := (SV.v (SV.mk (some b160) 1 1))) (Wn.no rfl) rfl (R.bsl (by exact (Ls.cons (R.Pr rfl) Ls.nil)) (fun w => bs29_1 t154 t156 w) hpb160 hww158) ?_
            refine LE.p (v := (Value.pointer (some (x6.add 1)))) (Wn.no rfl) rfl (R.fld (off := 1) fa32_1 f128) ?_
            obtain ⟨w161, hww161, h162, h163, h⟩ := M.st_use h
            refine LE.s (Wn.no rfl) rfl (R.st (a := (x6.add 1)) (v := (SV.v (SV.mk (some b160) 1 1))) sz29 rfl rfl rfl rfl h162 h163 hww161) ?_
            refine LE.nil ?_
            refine WE.seq ?_
            refine WE.seq ?_
            refine WE.reg ?_
            refine LE.p (v := (Value.int .i64 (0 : Int))) (Wn.no rfl) rfl (R.assign rfl) ?_
            refine LE.nil ?_
            refine WE.block ?_
            obtain ⟨I169, ⟨n168, h⟩, hr170⟩ := h
            refine WE.loop (fun n e w => ∃ (x164 : Int), I169 n x164 w ∧ e 2 = (Value.pointer (some b2)) ∧ e 4 = (Value.pointer (some b4)) ∧ e 5 = (Value.pointer (some x6)) ∧ e 8 = (Value.int .i64 x164)) n168 ⟨_, h, f126, f127, f128, rfl⟩ ?_
            clear h
            rintro n168 e167 w166 ⟨x164, h, f173, f174, f175, f176⟩
            replace h := hr170 n168 x164 w166 h
            refine WE.seq ?_
            refine WE.seq ?_
            obtain ⟨J177, hJ177, h⟩ := M.join_use h
            refine WE.regJ (fun e w => ∃ (x178 : Bool), J177 x178 w ∧ e 2 = (Value.pointer (some b2)) ∧ e 4 = (Value.pointer (some b4)) ∧ e 5 = (Value.pointer (some x6)) ∧ e 8 = (Value.int .i64 x164) ∧ e 74 = (Value.bool x178)) ?_ ?_
            · clear hJ177
              refine LE.p (v := (Value.int .i64 x164)) (Wn.no rfl) rfl (R.move f176) ?_
              refine LE.p (v := (Value.pointer (some (b2.add 8)))) (Wn.no rfl) rfl (R.fld (off := 8) fa32_8 f173) ?_
              obtain ⟨t179, h180, h⟩ := h
              refine LE.r (v := (SV.v t179)) (Wn.no rfl) rfl (R.ld sc30 rfl h180) ?_
              refine LE.p (v := (Value.int .i64 (t179.len : Int))) (Wn.no rfl) rfl (R.len sl30 rfl) ?_
              refine LE.p (v := (Value.bool (decide (x164 < (t179.len : Int))))) (Wn.no rfl) rfl (R.lss rfl rfl) ?_
              refine LE.p (v := (Value.bool (decide (x164 < (t179.len : Int))))) (Wn.no rfl) rfl (R.move rfl) ?_
              rcases M.ite_use h with ⟨hb181, h⟩ | ⟨hb181, h⟩
              · refine LE.p (v := (Value.int .i64 x164)) (Wn.yes 5 71 true rfl rfl rfl (congrArg Value.bool hb181)) rfl (R.move f176) ?_
                refine LE.p (v := (Value.bool (decide (x164 < (2 : Int))))) (Wn.yes 5 71 true rfl rfl rfl (congrArg Value.bool hb181)) rfl (R.lss rfl rfl) ?_
                refine LE.p (v := (Value.bool (decide (x164 < (2 : Int))))) (Wn.no rfl) rfl (R.pickT (congrArg Value.bool hb181) rfl) ?_
                refine LE.nil ?_
                exact ⟨_, h, f173, f174, f175, f176, rfl⟩
              · refine LE.u (Un.no 5 71 true rfl rfl rfl (congrArg Value.bool hb181)) ?_
                refine LE.u (Un.no 5 71 true rfl rfl rfl (congrArg Value.bool hb181)) ?_
                refine LE.p (v := (Value.bool false)) (Wn.no rfl) rfl (R.pickF (congrArg Value.bool hb181) rfl) ?_
                refine LE.nil ?_
                exact ⟨_, h, f173, f174, f175, f176, rfl⟩
            · rintro e182 w183 ⟨x178, h, f184, f185, f186, f187, f188⟩
              subst hJ177
              refine WE.condT rfl (b := x178) f188 ?_ ?_
              · intro hb189
                replace h := M.ite_t h hb189
                refine WE.skip ?_
                refine WE.seq ?_
                refine WE.block ?_
                refine WE.seq ?_
                refine WE.reg ?_
                refine LE.p (v := (Value.pointer (some (b2.add 8)))) (Wn.no rfl) rfl (R.fld (off := 8) fa32_8 f184) ?_
                obtain ⟨t190, h191, h⟩ := h
                refine LE.r (v := (SV.v t190)) (Wn.no rfl) rfl (R.ld sc30 rfl h191) ?_
                refine LE.p (v := (Value.int .i64 x164)) (Wn.no rfl) rfl (R.move f187) ?_
                obtain ⟨a192, h193, h194, h195, h⟩ := h
                refine LE.p (v := (Value.pointer (some (a192.add (x164.toNat * 1))))) (Wn.no rfl) rfl (R.idx (s := t190) sl30 rfl rfl h193 h194 h195) ?_
                obtain ⟨t196, h197, h⟩ := h
                refine LE.r (v := (Value.int .u32 t196)) (Wn.no rfl) rfl (R.ld sc28 rfl h197) ?_
                refine LE.p (v := (Value.int .u32 (Int.tmod t196 (5 : Int)))) (Wn.no rfl) rfl (R.rem rfl rfl (by decide)) ?_
                refine LE.p (v := (Value.int .u32 (Int.tmod t196 (5 : Int)))) (Wn.no rfl) rfl (R.assign rfl) ?_
                refine LE.nil ?_
                obtain ⟨J198, hJ198, h⟩ := M.join_use h
                refine WE.join (fun e w => ∃ (x199 : Int), J198 x199 w ∧ e 2 = (Value.pointer (some b2)) ∧ e 4 = (Value.pointer (some b4)) ∧ e 5 = (Value.pointer (some x6)) ∧ e 8 = (Value.int .i64 x164) ∧ e 9 = (Value.int .u32 x199)) ?_ ?_
                · clear hJ198
                  refine WE.seq ?_
                  refine WE.reg ?_
                  refine LE.p (v := (Value.int .u32 (Int.tmod t196 (5 : Int)))) (Wn.no rfl) rfl (R.move rfl) ?_
                  refine LE.p (v := (Value.bool ((Int.tmod t196 (5 : Int)) == (4 : Int)))) (Wn.no rfl) rfl (R.eql rfl rfl) ?_
                  refine LE.nil ?_
                  refine WE.condT rfl (b := ((Int.tmod t196 (5 : Int)) == (4 : Int))) rfl ?_ ?_
                  · intro hb200
                    replace h := M.ite_t h hb200
                    refine WE.reg ?_
                    refine LE.p (v := (Value.pointer (some (b2.add 8)))) (Wn.no rfl) rfl (R.fld (off := 8) fa32_8 f184) ?_
                    obtain ⟨t201, h202, h⟩ := h
                    refine LE.r (v := (SV.v t201)) (Wn.no rfl) rfl (R.ld sc30 rfl h202) ?_
                    refine LE.p (v := (Value.int .i64 x164)) (Wn.no rfl) rfl (R.move f187) ?_
                    obtain ⟨a203, h204, h205, h206, h⟩ := h
                    refine LE.p (v := (Value.pointer (some (a203.add (x164.toNat * 1))))) (Wn.no rfl) rfl (R.idx (s := t201) sl30 rfl rfl h204 h205 h206) ?_
                    obtain ⟨t207, h208, h⟩ := h
                    refine LE.r (v := (Value.int .u32 t207)) (Wn.no rfl) rfl (R.ld sc28 rfl h208) ?_
                    refine LE.p (v := (Value.int .u32 (Int.tmod t207 (3 : Int)))) (Wn.no rfl) rfl (R.rem rfl rfl (by decide)) ?_
                    refine LE.p (v := (Value.int .u32 (IntKind.u32.wrap ((4294967040 : Int) + (Int.tmod t207 (3 : Int)))))) (Wn.no rfl) rfl (R.add rfl rfl) ?_
                    refine LE.p (v := (Value.int .u32 (IntKind.u32.wrap ((4294967040 : Int) + (Int.tmod t207 (3 : Int)))))) (Wn.no rfl) rfl (R.assign rfl) ?_
                    refine LE.nil ?_
                    exact ⟨_, h, f184, f185, f186, f187, rfl⟩
                  · intro hb200
                    replace h := M.ite_f h hb200
                    refine WE.skip ?_
                    exact ⟨_, h, f184, f185, f186, f187, rfl⟩
                · rintro e209 w210 ⟨x199, h, f211, f212, f213, f214, f215⟩
                  subst hJ198
                  refine WE.reg ?_
                  refine LE.p (v := (Value.pointer (some (x6.add 8)))) (Wn.no rfl) rfl (R.fld (off := 8) fa32_8 f213) ?_
                  obtain ⟨t216, h217, h⟩ := h
                  refine LE.r (v := (SV.v t216)) (Wn.no rfl) rfl (R.ld sc30 rfl h217) ?_
                  refine LE.p (v := (Value.int .u32 x199)) (Wn.no rfl) rfl (R.move f215) ?_
                  refine LE.p (v := (Value.int .u32 (IntKind.u32.wrap (x199 + (1 : Int))))) (Wn.no rfl) rfl (R.add rfl rfl) ?_
                  refine LE.c (Wn.no rfl) rfl (R.call bd33 (Ls.cons rfl (Ls.cons rfl Ls.nil)) rfl) (Calls.mono h ?_)
                  rintro _ w219 ⟨r218, rfl, h⟩
                  refine ⟨_, rfl, ?_⟩
                  refine LE.p (v := (Value.pointer (some (x6.add 8)))) (Wn.no rfl) rfl (R.fld (off := 8) fa32_8 f213) ?_
                  obtain ⟨w220, hww220, h221, h222, h⟩ := M.st_use h
                  refine LE.s (Wn.no rfl) rfl (R.st (a := (x6.add 8)) (v := (SV.v r218)) sz30 rfl rfl rfl rfl h221 h222 hww220) ?_
                  refine LE.nil ?_
                  refine WE.reg ?_
                  refine LE.p (v := (Value.int .i64 x164)) (Wn.no rfl) rfl (R.move f214) ?_
                  refine LE.p (v := (Value.int .i64 (IntKind.i64.wrap (x164 + (1 : Int))))) (Wn.no rfl) rfl (R.add rfl rfl) ?_
                  refine LE.p (v := (Value.int .i64 (IntKind.i64.wrap (x164 + (1 : Int))))) (Wn.no rfl) rfl (R.assign rfl) ?_
                  refine LE.nil ?_
                  obtain ⟨m171, hm172, h⟩ := h
                  exact ⟨m171, hm172, _, h, f211, f212, f213, rfl⟩
              · intro hb189
                replace h := M.ite_f h hb189
                refine WE.exit ?_
                refine WE.seq ?_
                refine WE.reg ?_
                obtain ⟨t223, t224, t225, t226, t227, t228, t229, t230, t231, h232, h⟩ := h
                refine LE.r (v := (Value.agg #[(Value.int .i64 t223), (SV.v t224), (Value.int .u32 t225), (Value.bool t226), (Value.int .u32 t227), (Value.bool t228), (Value.int .u32 t229), (Value.bool t230), (SV.v t231)])) (Wn.no rfl) rfl (R.ldA ag32 sz32 f186 rfl h232) ?_
                obtain ⟨w233, hww233, h234, h⟩ := M.stA_use h
                refine LE.s (Wn.no rfl) rfl (R.stA (a := b4) [(Value.int .i64 t223), (SV.v t224), (Value.int .u32 t225), (Value.bool t226), (Value.int .u32 t227), (Value.bool t228), (Value.int .u32 t229), (Value.bool t230), (SV.v t231)] sz32 f185 rfl rfl (by simp [Value.oneCell']) h234 hww233) ?_
                refine LE.nil ?_
                refine WE.ret ?_
                obtain ⟨t235, t236, t237, t238, t239, t240, t241, t242, t243, h244, h⟩ := h
                exact ⟨_, (Res.cell f185 (R.ldCellA ag32 sz32 rfl h244) Res.nil), _, _, _, _, _, _, _, _, _, rfl, h⟩
/-- The formula of signpost.decide.sift. -/
def F28 (p0 : SV) (p1 : SV) (p2 : Int) (K : SV → World → Prop) (w0 : World) : Prop :=
M.loop2 (fun (J3 : SV → Int → World → Prop) (x1 : SV) (x2 : Int) (w4 : World) => 
M.ite (decide (x2 < (p1.len : Int))) (
M.join (fun (x20 : SV) (w103 : World) => 
J3 x20 (IntKind.i64.wrap (x2 + (1 : Int))) w103) fun J19 => 
M.idx p1 x2 1 fun a21 =>
M.ld (Value.int .i64) (a21.add (x2.toNat * 1)) w4 fun t25 =>
M.loop1 (fun (J28 : Int → World → Prop) (x27 : Int) (w29 : World) => 
M.ite (decide (x27 < (p1.len : Int))) (
M.idx p1 x27 1 fun a48 =>
M.ld (Value.int .i64) (a48.add (x27.toNat * 1)) w29 fun t52 =>
M.drew w29 fun w54 => 
M.idx p0 t25 14 fun a55 =>
M.idx p0 t52 14 fun a59 =>
∃ (t63 : Int) (t64 : Int) (t65 : Int) (t66 : Bool) (t67 : Int) (t68 : SV) (t69 : Int) (t70 : Bool) (t71 : Int) (t72 : Bool) (t73 : Int) (t74 : Bool) (t75 : SV) (t76 : Nat), Cs w54 (a55.add (t25.toNat * 14)) 0 [(Value.int .i64 t63), (Value.int .u32 t64), (Value.int .u32 t65), (Value.bool t66), (Value.int .i64 t67), (SV.v t68), (Value.int .u32 t69), (Value.bool t70), (Value.int .u32 t71), (Value.bool t72), (Value.int .u32 t73), (Value.bool t74), (SV.v t75), (Value.float .f64 t76)] ∧
∃ (t78 : Int) (t79 : Int) (t80 : Int) (t81 : Bool) (t82 : Int) (t83 : SV) (t84 : Int) (t85 : Bool) (t86 : Int) (t87 : Bool) (t88 : Int) (t89 : Bool) (t90 : SV) (t91 : Nat), Cs w54 (a59.add (t52.toNat * 14)) 0 [(Value.int .i64 t78), (Value.int .u32 t79), (Value.int .u32 t80), (Value.bool t81), (Value.int .i64 t82), (SV.v t83), (Value.int .u32 t84), (Value.bool t85), (Value.int .u32 t86), (Value.bool t87), (Value.int .u32 t88), (Value.bool t89), (SV.v t90), (Value.float .f64 t91)] ∧
Calls Try.prog 34 #[(Value.agg #[(Value.int .i64 t63), (Value.int .u32 t64), (Value.int .u32 t65), (Value.bool t66), (Value.int .i64 t67), (SV.v t68), (Value.int .u32 t69), (Value.bool t70), (Value.int .u32 t71), (Value.bool t72), (Value.int .u32 t73), (Value.bool t74), (SV.v t75), (Value.float .f64 t76)]), (Value.agg #[(Value.int .i64 t78), (Value.int .u32 t79), (Value.int .u32 t80), (Value.bool t81), (Value.int .i64 t82), (SV.v t83), (Value.int .u32 t84), (Value.bool t85), (Value.int .u32 t86), (Value.bool t87), (Value.int .u32 t88), (Value.bool t89), (SV.v t90), (Value.float .f64 t91)]), (Value.int .i64 p2)] w54 (R34 fun r93 w94 =>
M.ite r93 (
J19 x1 w94) (
J28 (IntKind.i64.wrap (x27 + (1 : Int))) w94))) (
M.new (.cells #[(Value.int .i64 t25)] 3) w29 fun b98 w96 =>
M.app Try.prog 38 38 38 x1 (SV.v (SV.mk (some b98) 1 1)) w96 fun s99 w100 =>
J19 s99 w100)) (0 : Int) w4) (
M.join (fun (x112 : SV) (w126 : World) => 
K x112 w126) fun J111 => 
M.join (fun (x114 : Bool) (w117 : World) => 
M.ite x114 (
M.bnd (0 : Int) (1 : Int) x1 <|
J111 (SV.sub x1 (Int.toNat (0 : Int)) (Int.toNat (1 : Int)) 1) w117) (
J111 x1 w117)) fun J113 => 
M.ite (p2 == (7 : Int)) (
J113 (decide ((1 : Int) < (x1.len : Int))) w4) (
J113 false w4))) SV.nil (0 : Int) w0
theorem F28_ok {w0 : World} {p0 : SV} {p1 : SV} {p2 : Int} {K : SV → World → Prop} (h : F28 p0 p1 p2 K w0) : Calls Try.prog 28 #[(SV.v p0), (SV.v p1), (Value.int .i64 p2)] w0 (R28 K) := by
  refine calls_of_WE (args := [(SV.v p0), (SV.v p1), (Value.int .i64 p2)]) (rs := [.tmp 6]) Try.func28 rfl (N := 50) rfl rfl rfl rfl ?_
  refine WE.seq ?_
  refine WE.reg ?_
  refine LE.p (v := (SV.v SV.nil)) (Wn.no rfl) rfl (R.assign rfl) ?_
  refine LE.nil ?_
  refine WE.scope ?_
  refine WE.seq ?_
  refine WE.reg ?_
  refine LE.p (v := (SV.v SV.nil)) (Wn.no rfl) rfl (R.assign rfl) ?_
  refine LE.nil ?_
  refine WE.seq ?_
  refine WE.label ?_
  refine WE.seq ?_
  refine WE.seq ?_
  refine WE.reg ?_
  refine LE.p (v := (SV.v p1)) (Wn.no rfl) rfl (R.move rfl) ?_
  refine LE.p (v := (Value.int .i64 (p1.len : Int))) (Wn.no rfl) rfl (R.len sl38 rfl) ?_
  refine LE.p (v := (Value.int .i64 (0 : Int))) (Wn.no rfl) rfl (R.move rfl) ?_
  refine LE.nil ?_
  refine WE.block ?_
  obtain ⟨I7, ⟨n6, h⟩, hr8⟩ := h
  refine WE.loop (fun n e w => ∃ (x1 : SV) (x2 : Int), I7 n x1 x2 w ∧ e 0 = (SV.v p0) ∧ e 1 = (SV.v p1) ∧ e 2 = (Value.int .i64 p2) ∧ e 7 = (SV.v x1) ∧ e 12 = (SV.v p1) ∧ e 13 = (Value.int .i64 (p1.len : Int)) ∧ e 14 = (Value.int .i64 x2)) n6 ⟨_, _, h, rfl, rfl, rfl, rfl, rfl, rfl, rfl⟩ ?_
  clear h
  rintro n6 e5 w4 ⟨x1, x2, h, f11, f12, f13, f14, f15, f16, f17⟩
  replace h := hr8 n6 x1 x2 w4 h
  refine WE.seq ?_
  refine WE.reg ?_
  refine LE.p (v := (Value.bool (decide (x2 < (p1.len : Int))))) (Wn.no rfl) rfl (R.lss f17 f16) ?_
  refine LE.nil ?_
  refine WE.seq ?_
  refine WE.condT rfl (b := (decide (x2 < (p1.len : Int)))) rfl ?_ ?_
  · intro hb18
    replace h := M.ite_t h hb18
    refine WE.skip ?_
    refine WE.seq ?_
    obtain ⟨J19, hJ19, h⟩ := M.join_use h
    refine WE.blkJ (fun e w => ∃ (x20 : SV), J19 x20 w ∧ e 0 = (SV.v p0) ∧ e 1 = (SV.v p1) ∧ e 2 = (Value.int .i64 p2) ∧ e 7 = (SV.v x20) ∧ e 12 = (SV.v p1) ∧ e 13 = (Value.int .i64 (p1.len : Int)) ∧ e 14 = (Value.int .i64 x2)) ?_ ?_
    · clear hJ19
      refine WE.seq ?_
      refine WE.reg ?_
      obtain ⟨a21, h22, h23, h24, h⟩ := h
      refine LE.p (v := (Value.pointer (some (a21.add (x2.toNat * 1))))) (Wn.no rfl) rfl (R.idx (s := p1) sl38 f15 f17 h22 h23 h24) ?_
      obtain ⟨t25, h26, h⟩ := h
      refine LE.r (v := (Value.int .i64 t25)) (Wn.no rfl) rfl (R.ld sc3 rfl h26) ?_
      refine LE.p (v := (Value.int .i64 t25)) (Wn.no rfl) rfl (R.assign rfl) ?_
      refine LE.nil ?_
      refine WE.seq ?_
      refine WE.seq ?_
      refine WE.reg ?_
      refine LE.p (v := (SV.v p1)) (Wn.no rfl) rfl (R.move f12) ?_
      refine LE.p (v := (Value.int .i64 (p1.len : Int))) (Wn.no rfl) rfl (R.len sl38 rfl) ?_
      refine LE.p (v := (Value.int .i64 (0 : Int))) (Wn.no rfl) rfl (R.move rfl) ?_
      refine LE.nil ?_
      refine WE.block ?_
      obtain ⟨I32, ⟨n31, h⟩, hr33⟩ := h
      refine WE.loop (fun n e w => ∃ (x27 : Int), I32 n x27 w ∧ e 0 = (SV.v p0) ∧ e 1 = (SV.v p1) ∧ e 2 = (Value.int .i64 p2) ∧ e 7 = (SV.v x1) ∧ e 9 = (Value.int .i64 t25) ∧ e 12 = (SV.v p1) ∧ e 13 = (Value.int .i64 (p1.len : Int)) ∧ e 14 = (Value.int .i64 x2) ∧ e 18 = (SV.v p1) ∧ e 19 = (Value.int .i64 (p1.len : Int)) ∧ e 20 = (Value.int .i64 x27)) n31 ⟨_, h, f11, f12, f13, f14, rfl, f15, f16, f17, rfl, rfl, rfl⟩ ?_
      clear h
      rintro n31 e30 w29 ⟨x27, h, f36, f37, f38, f39, f40, f41, f42, f43, f44, f45, f46⟩
      replace h := hr33 n31 x27 w29 h
      refine WE.seq ?_
      refine WE.reg ?_
      refine LE.p (v := (Value.bool (decide (x27 < (p1.len : Int))))) (Wn.no rfl) rfl (R.lss f46 f45) ?_
      refine LE.nil ?_
      refine WE.seq ?_
      refine WE.condT rfl (b := (decide (x27 < (p1.len : Int)))) rfl ?_ ?_
      · intro hb47
        replace h := M.ite_t h hb47
        refine WE.skip ?_
        refine WE.seq ?_
        refine WE.block ?_
        refine WE.seq ?_
        refine WE.reg ?_
        obtain ⟨a48, h49, h50, h51, h⟩ := h
        refine LE.p (v := (Value.pointer (some (a48.add (x27.toNat * 1))))) (Wn.no rfl) rfl (R.idx (s := p1) sl38 f44 f46 h49 h50 h51) ?_
        obtain ⟨t52, h53, h⟩ := h
        refine LE.r (v := (Value.int .i64 t52)) (Wn.no rfl) rfl (R.ld sc3 rfl h53) ?_
        refine LE.p (v := (Value.int .i64 t52)) (Wn.no rfl) rfl (R.assign rfl) ?_
        refine LE.nil ?_
        refine WE.seq ?_
        refine WE.draw mix ?_
        obtain ⟨w54, hww54, h⟩ := M.drew_use h
        rw [← hww54]
        clear hww54
        refine DE.t 0 (v := (SV.v p0)) rfl (by kernel_rfl) (Wn.no rfl) rfl (R.move f36) ?_
        refine DE.t 1 (v := (Value.int .i64 t25)) rfl (by kernel_rfl) (Wn.no rfl) rfl (R.move f40) ?_
        obtain ⟨a55, h56, h57, h58, h⟩ := h
        refine DE.t 2 (v := (Value.pointer (some (a55.add (t25.toNat * 14))))) rfl (by kernel_rfl) (Wn.no rfl) rfl (R.idx (s := p0) sl24 rfl rfl h56 h57 h58) ?_
        refine DE.t 4 (v := (SV.v p0)) rfl (by kernel_rfl) (Wn.no rfl) rfl (R.move f36) ?_
        refine DE.t 5 (v := (Value.int .i64 t52)) rfl (by kernel_rfl) (Wn.no rfl) rfl (R.move rfl) ?_
        obtain ⟨a59, h60, h61, h62, h⟩ := h
        refine DE.t 6 (v := (Value.pointer (some (a59.add (t52.toNat * 14))))) rfl (by kernel_rfl) (Wn.no rfl) rfl (R.idx (s := p0) sl24 rfl rfl h60 h61 h62) ?_
        refine DE.t 8 (v := (Value.int .i64 p2)) rfl (by kernel_rfl) (Wn.no rfl) rfl (R.move f38) ?_
        obtain ⟨t63, t64, t65, t66, t67, t68, t69, t70, t71, t72, t73, t74, t75, t76, h77, h⟩ := h
        refine DE.hold 3 (fun w => Cs w (a55.add (t25.toNat * 14)) 0 [(Value.int .i64 t63), (Value.int .u32 t64), (Value.int .u32 t65), (Value.bool t66), (Value.int .i64 t67), (SV.v t68), (Value.int .u32 t69), (Value.bool t70), (Value.int .u32 t71), (Value.bool t72), (Value.int .u32 t73), (Value.bool t74), (SV.v t75), (Value.float .f64 t76)]) (v := (Value.agg #[(Value.int .i64 t63), (Value.int .u32 t64), (Value.int .u32 t65), (Value.bool t66), (Value.int .i64 t67), (SV.v t68), (Value.int .u32 t69), (Value.bool t70), (Value.int .u32 t71), (Value.bool t72), (Value.int .u32 t73), (Value.bool t74), (SV.v t75), (Value.float .f64 t76)])) rfl (by kernel_rfl) (Wn.no rfl) rfl h77 (fun w hs => R.ldA ag37 sz37 rfl rfl hs) ?_
        obtain ⟨t78, t79, t80, t81, t82, t83, t84, t85, t86, t87, t88, t89, t90, t91, h92, h⟩ := h
        refine DE.main 7 (by kernel_rfl) ?_
        refine One.r 7 (v := (Value.agg #[(Value.int .i64 t78), (Value.int .u32 t79), (Value.int .u32 t80), (Value.bool t81), (Value.int .i64 t82), (SV.v t83), (Value.int .u32 t84), (Value.bool t85), (Value.int .u32 t86), (Value.bool t87), (Value.int .u32 t88), (Value.bool t89), (SV.v t90), (Value.float .f64 t91)])) rfl (Wn.no rfl) rfl (R.ldA ag37 sz37 rfl rfl h92) (.inl rfl) ?_
        refine DE.main 9 (by kernel_rfl) ?_
        refine One.c 9 rfl (Wn.no rfl) rfl (R.call bd34 (Ls.cons rfl (Ls.cons rfl (Ls.cons rfl Ls.nil))) rfl) (Calls.mono h ?_)
        rintro _ w94 ⟨r93, rfl, h⟩
        refine ⟨_, rfl, ⟨aftT (by kernel_rfl), trivial⟩, ?_⟩
        refine DE.done (by kernel_rfl) ?_
        refine WE.condT rfl (b := r93) rfl ?_ ?_
        · intro hb95
          replace h := M.ite_t h hb95
          refine WE.exit ?_
          exact ⟨_, h, f36, f37, f38, f39, f41, f42, f43⟩
        · intro hb95
          replace h := M.ite_f h hb95
          refine WE.skip ?_
          refine WE.reg ?_
          refine LE.p (v := (Value.int .i64 (IntKind.i64.wrap (x27 + (1 : Int))))) (Wn.no rfl) rfl (R.add f46 rfl) ?_
          refine LE.p (v := (Value.int .i64 (IntKind.i64.wrap (x27 + (1 : Int))))) (Wn.no rfl) rfl (R.move rfl) ?_
          refine LE.nil ?_
          obtain ⟨m34, hm35, h⟩ := h
          exact ⟨m34, hm35, _, h, f36, f37, f38, f39, f40, f41, f42, f43, f44, f45, rfl⟩
      · intro hb47
        replace h := M.ite_f h hb47
        refine WE.exit ?_
        refine WE.reg ?_
        refine LE.p (v := (SV.v x1)) (Wn.no rfl) rfl (R.move f39) ?_
        refine LE.p (v := (Value.int .i64 t25)) (Wn.no rfl) rfl (R.move f40) ?_
        obtain ⟨b98, hpb98, w96, hww96, h⟩ := M.new_use h
        refine LE.r (v := (SV.v (SV.mk (some b98) 1 1))) (Wn.no rfl) rfl (R.bsl (by exact (Ls.cons (R.Pr rfl) Ls.nil)) (fun w => bs38_1 t25 w) hpb98 hww96) ?_
        obtain ⟨s99, w100, h101, h⟩ := h
        refine LE.r (v := (SV.v s99)) (Wn.no rfl) rfl (R.app (s := x1) (r := s99) rfl rfl h101) ?_
        refine LE.p (v := (SV.v s99)) (Wn.no rfl) rfl (R.assign rfl) ?_
        refine LE.nil ?_
        exact ⟨_, h, f36, f37, f38, rfl, f41, f42, f43⟩
    · rintro e102 w103 ⟨x20, h, f104, f105, f106, f107, f108, f109, f110⟩
      subst hJ19
      refine WE.reg ?_
      refine LE.p (v := (Value.int .i64 (IntKind.i64.wrap (x2 + (1 : Int))))) (Wn.no rfl) rfl (R.add f110 rfl) ?_
      refine LE.p (v := (Value.int .i64 (IntKind.i64.wrap (x2 + (1 : Int))))) (Wn.no rfl) rfl (R.move rfl) ?_
      refine LE.nil ?_
      obtain ⟨m9, hm10, h⟩ := h
      exact ⟨m9, hm10, _, _, h, f104, f105, f106, f107, f108, f109, rfl⟩
  · intro hb18
    replace h := M.ite_f h hb18
    refine WE.exit ?_
    obtain ⟨J111, hJ111, h⟩ := M.join_use h
    refine WE.join (fun e w => ∃ (x112 : SV), J111 x112 w ∧ e 7 = (SV.v x112)) ?_ ?_
    · clear hJ111
      refine WE.seq ?_
      obtain ⟨J113, hJ113, h⟩ := M.join_use h
      refine WE.regJ (fun e w => ∃ (x114 : Bool), J113 x114 w ∧ e 7 = (SV.v x1) ∧ e 46 = (Value.bool x114)) ?_ ?_
      · clear hJ113
        refine LE.p (v := (Value.int .i64 p2)) (Wn.no rfl) rfl (R.move f13) ?_
        refine LE.p (v := (Value.bool (p2 == (7 : Int)))) (Wn.no rfl) rfl (R.eql rfl rfl) ?_
        refine LE.p (v := (Value.bool (p2 == (7 : Int)))) (Wn.no rfl) rfl (R.move rfl) ?_
        rcases M.ite_use h with ⟨hb115, h⟩ | ⟨hb115, h⟩
        · refine LE.p (v := (SV.v x1)) (Wn.yes 2 42 true rfl rfl rfl (congrArg Value.bool hb115)) rfl (R.move f14) ?_
          refine LE.p (v := (Value.int .i64 (x1.len : Int))) (Wn.yes 2 42 true rfl rfl rfl (congrArg Value.bool hb115)) rfl (R.len sl38 rfl) ?_
          refine LE.p (v := (Value.bool (decide ((1 : Int) < (x1.len : Int))))) (Wn.yes 2 42 true rfl rfl rfl (congrArg Value.bool hb115)) rfl (R.gtr rfl rfl) ?_
          refine LE.p (v := (Value.bool (decide ((1 : Int) < (x1.len : Int))))) (Wn.no rfl) rfl (R.pickT (congrArg Value.bool hb115) rfl) ?_
          refine LE.nil ?_
          exact ⟨_, h, f14, rfl⟩
        · refine LE.u (Un.no 2 42 true rfl rfl rfl (congrArg Value.bool hb115)) ?_
          refine LE.u (Un.no 2 42 true rfl rfl rfl (congrArg Value.bool hb115)) ?_
          refine LE.u (Un.no 2 42 true rfl rfl rfl (congrArg Value.bool hb115)) ?_
          refine LE.p (v := (Value.bool false)) (Wn.no rfl) rfl (R.pickF (congrArg Value.bool hb115) rfl) ?_
          refine LE.nil ?_
          exact ⟨_, h, f14, rfl⟩
      · rintro e116 w117 ⟨x114, h, f118, f119⟩
        subst hJ113
        refine WE.condT rfl (b := x114) f119 ?_ ?_
        · intro hb120
          replace h := M.ite_t h hb120
          refine WE.reg ?_
          refine LE.p (v := (SV.v x1)) (Wn.no rfl) rfl (R.move f118) ?_
          obtain ⟨h121, h122, h123, h⟩ := h
          refine LE.p (v := (SV.v (SV.sub x1 (Int.toNat (0 : Int)) (Int.toNat (1 : Int)) 1))) (Wn.no rfl) rfl (R.slc (s := x1) (lo := (0 : Int)) (hi := (1 : Int)) _ _ sl38 rfl rfl rfl h121 h122 h123) ?_
          refine LE.p (v := (SV.v (SV.sub x1 (Int.toNat (0 : Int)) (Int.toNat (1 : Int)) 1))) (Wn.no rfl) rfl (R.assign rfl) ?_
          refine LE.nil ?_
          exact ⟨_, h, rfl⟩
        · intro hb120
          replace h := M.ite_f h hb120
          refine WE.skip ?_
          exact ⟨_, h, f118⟩
    · rintro e125 w126 ⟨x112, h, f127⟩
      subst hJ111
      refine WE.seq ?_
      refine WE.reg ?_
      refine LE.p (v := (SV.v x112)) (Wn.no rfl) rfl (R.move f127) ?_
      refine LE.p (v := (SV.v x112)) (Wn.no rfl) rfl (R.assign rfl) ?_
      refine LE.nil ?_
      refine WE.ret ?_
      exact ⟨_, (Res.tmp rfl Res.nil), _, rfl, h⟩
/-- The formula of signpost.signpostref17.worse. -/
def F31 (p0_0 : Int) (p0_1 : Int) (p0_2 : Int) (p0_3 : Bool) (p0_4 : Int) (p0_5 : SV) (p0_6 : Int) (p0_7 : Bool) (p0_8 : Int) (p0_9 : Bool) (p0_10 : Int) (p0_11 : Bool) (p0_12 : SV) (p0_13 : Nat) (p1_0 : Int) (p1_1 : Int) (p1_2 : Int) (p1_3 : Bool) (p1_4 : Int) (p1_5 : SV) (p1_6 : Int) (p1_7 : Bool) (p1_8 : Int) (p1_9 : Bool) (p1_10 : Int) (p1_11 : Bool) (p1_12 : SV) (p1_13 : Nat) (p2 : Int) (K : Bool → World → Prop) (w0 : World) : Prop :=
M.new (.cells #[(Value.int .i64 p0_0), (Value.int .u32 p0_1), (Value.int .u32 p0_2), (Value.bool p0_3), (Value.int .i64 p0_4), (SV.v p0_5), (Value.int .u32 p0_6), (Value.bool p0_7), (Value.int .u32 p0_8), (Value.bool p0_9), (Value.int .u32 p0_10), (Value.bool p0_11), (SV.v p0_12), (Value.float .f64 p0_13)] 59) w0 fun b2 w1 =>
M.new (.cells #[(Value.int .i64 p1_0), (Value.int .u32 p1_1), (Value.int .u32 p1_2), (Value.bool p1_3), (Value.int .i64 p1_4), (SV.v p1_5), (Value.int .u32 p1_6), (Value.bool p1_7), (Value.int .u32 p1_8), (Value.bool p1_9), (Value.int .u32 p1_10), (Value.bool p1_11), (SV.v p1_12), (Value.float .f64 p1_13)] 59) w1 fun b4 w3 =>
M.ite (p2 == (1 : Int)) (
M.drew w3 fun w6 => 
∃ (t7 : Int) (t8 : SV) (t9 : Int) (t10 : Bool) (t11 : Int) (t12 : Bool) (t13 : Int) (t14 : Bool) (t15 : SV), Cs w6 (b2.add 4) 0 [(Value.int .i64 t7), (SV.v t8), (Value.int .u32 t9), (Value.bool t10), (Value.int .u32 t11), (Value.bool t12), (Value.int .u32 t13), (Value.bool t14), (SV.v t15)] ∧
∃ (t17 : Int) (t18 : SV) (t19 : Int) (t20 : Bool) (t21 : Int) (t22 : Bool) (t23 : Int) (t24 : Bool) (t25 : SV), Cs w6 (b4.add 4) 0 [(Value.int .i64 t17), (SV.v t18), (Value.int .u32 t19), (Value.bool t20), (Value.int .u32 t21), (Value.bool t22), (Value.int .u32 t23), (Value.bool t24), (SV.v t25)] ∧
Calls Try.prog 35 #[(Value.agg #[(Value.int .i64 t7), (SV.v t8), (Value.int .u32 t9), (Value.bool t10), (Value.int .u32 t11), (Value.bool t12), (Value.int .u32 t13), (Value.bool t14), (SV.v t15)])] w6 (R35 fun r27 w28 =>
M.keep (Cs w28 (b4.add 4) 0 [(Value.int .i64 t17), (SV.v t18), (Value.int .u32 t19), (Value.bool t20), (Value.int .u32 t21), (Value.bool t22), (Value.int .u32 t23), (Value.bool t24), (SV.v t25)]) <|
Calls Try.prog 35 #[(Value.agg #[(Value.int .i64 t17), (SV.v t18), (Value.int .u32 t19), (Value.bool t20), (Value.int .u32 t21), (Value.bool t22), (Value.int .u32 t23), (Value.bool t24), (SV.v t25)])] w28 (R35 fun r30 w31 =>
K (decide (r27 < r30)) w31))) (
M.ite (p2 == (2 : Int)) (
M.drew w3 fun w33 => 
M.ld SV.v ((b2.add 4).add 1) w33 fun t34 =>
M.ld SV.v ((b4.add 4).add 1) w33 fun t36 =>
Calls Try.prog 16 #[(SV.v t34)] w33 (R16 fun r38 w39 =>
M.keep (w39.cell? ((b4.add 4).add 1) = some (SV.v t36)) <|
Calls Try.prog 16 #[(SV.v t36)] w39 (R16 fun r41 w42 =>
K (decide (r41 < r38)) w42))) (
M.ite (p2 == (3 : Int)) (
M.ld (Value.int .i64) (b2.add 4) w3 fun t44 =>
M.ld (Value.int .i64) (b4.add 4) w3 fun t46 =>
K (decide (t46 < t44)) w3) (
M.ite (p2 == (4 : Int)) (
M.join (fun (x50 : Bool) (w101 : World) => 
K x50 w101) fun J49 => 
M.drew w3 fun w51 => 
∃ (t52 : Int) (t53 : SV) (t54 : Int) (t55 : Bool) (t56 : Int) (t57 : Bool) (t58 : Int) (t59 : Bool) (t60 : SV), Cs w51 (b2.add 4) 0 [(Value.int .i64 t52), (SV.v t53), (Value.int .u32 t54), (Value.bool t55), (Value.int .u32 t56), (Value.bool t57), (Value.int .u32 t58), (Value.bool t59), (SV.v t60)] ∧
∃ (t62 : Int) (t63 : SV) (t64 : Int) (t65 : Bool) (t66 : Int) (t67 : Bool) (t68 : Int) (t69 : Bool) (t70 : SV), Cs w51 (b4.add 4) 0 [(Value.int .i64 t62), (SV.v t63), (Value.int .u32 t64), (Value.bool t65), (Value.int .u32 t66), (Value.bool t67), (Value.int .u32 t68), (Value.bool t69), (SV.v t70)] ∧
Calls Try.prog 36 #[(Value.agg #[(Value.int .i64 t52), (SV.v t53), (Value.int .u32 t54), (Value.bool t55), (Value.int .u32 t56), (Value.bool t57), (Value.int .u32 t58), (Value.bool t59), (SV.v t60)]), (Value.agg #[(Value.int .i64 t62), (SV.v t63), (Value.int .u32 t64), (Value.bool t65), (Value.int .u32 t66), (Value.bool t67), (Value.int .u32 t68), (Value.bool t69), (SV.v t70)])] w51 (R36 fun r72 w73 =>
M.ite r72 (
∃ (t75 : Int) (t76 : SV) (t77 : Int) (t78 : Bool) (t79 : Int) (t80 : Bool) (t81 : Int) (t82 : Bool) (t83 : SV), Cs w73 (b2.add 4) 0 [(Value.int .i64 t75), (SV.v t76), (Value.int .u32 t77), (Value.bool t78), (Value.int .u32 t79), (Value.bool t80), (Value.int .u32 t81), (Value.bool t82), (SV.v t83)] ∧
∃ (t85 : Int) (t86 : SV) (t87 : Int) (t88 : Bool) (t89 : Int) (t90 : Bool) (t91 : Int) (t92 : Bool) (t93 : SV), Cs w73 (b4.add 4) 0 [(Value.int .i64 t85), (SV.v t86), (Value.int .u32 t87), (Value.bool t88), (Value.int .u32 t89), (Value.bool t90), (Value.int .u32 t91), (Value.bool t92), (SV.v t93)] ∧
Calls Try.prog 37 #[(Value.agg #[(Value.int .i64 t75), (SV.v t76), (Value.int .u32 t77), (Value.bool t78), (Value.int .u32 t79), (Value.bool t80), (Value.int .u32 t81), (Value.bool t82), (SV.v t83)])] w73 (R37 fun r95 w96 =>
M.keep (Cs w96 (b4.add 4) 0 [(Value.int .i64 t85), (SV.v t86), (Value.int .u32 t87), (Value.bool t88), (Value.int .u32 t89), (Value.bool t90), (Value.int .u32 t91), (Value.bool t92), (SV.v t93)]) <|
Calls Try.prog 37 #[(Value.agg #[(Value.int .i64 t85), (SV.v t86), (Value.int .u32 t87), (Value.bool t88), (Value.int .u32 t89), (Value.bool t90), (Value.int .u32 t91), (Value.bool t92), (SV.v t93)])] w96 (R37 fun r98 w99 =>
J49 (decide (r98 < r95)) w99))) (
J49 false w73))) (
M.ite (p2 == (5 : Int)) (
M.join (fun (x105 : Bool) (w112 : World) => 
K x105 w112) fun J104 => 
M.ld Value.bool (b2.add 3) w3 fun t106 =>
M.ite t106 (
M.ld Value.bool (b4.add 3) w3 fun t109 =>
J104 (!t109) w3) (
J104 false w3)) (
M.ite (p2 == (6 : Int)) (
M.ld (Value.float .f64) (b4.add 13) w3 fun t115 =>
M.ld (Value.float .f64) (b2.add 13) w3 fun t117 =>
Calls Try.prog 38 #[(Value.float .f64 t115), (Value.float .f64 t117)] w3 (R38 fun r119 w120 =>
K r119 w120)) (
M.join (fun (x122 : Bool) (w138 : World) => 
K x122 w138) fun J121 => 
M.ld (Value.int .u32) (b2.add 1) w3 fun t123 =>
M.ld (Value.int .u32) (b4.add 1) w3 fun t125 =>
M.ite (decide (t125 < t123)) (
J121 true w3) (
M.ld (Value.int .u32) (b2.add 1) w3 fun t128 =>
M.ld (Value.int .u32) (b4.add 1) w3 fun t130 =>
M.ite (t128 == t130) (
M.ld (Value.int .u32) (b2.add 2) w3 fun t133 =>
M.ld (Value.int .u32) (b4.add 2) w3 fun t135 =>
J121 (decide (t135 < t133)) w3) (
J121 false w3))))))))
theorem F31_ok {w0 : World} {p0_0 : Int} {p0_1 : Int} {p0_2 : Int} {p0_3 : Bool} {p0_4 : Int} {p0_5 : SV} {p0_6 : Int} {p0_7 : Bool} {p0_8 : Int} {p0_9 : Bool} {p0_10 : Int} {p0_11 : Bool} {p0_12 : SV} {p0_13 : Nat} {p1_0 : Int} {p1_1 : Int} {p1_2 : Int} {p1_3 : Bool} {p1_4 : Int} {p1_5 : SV} {p1_6 : Int} {p1_7 : Bool} {p1_8 : Int} {p1_9 : Bool} {p1_10 : Int} {p1_11 : Bool} {p1_12 : SV} {p1_13 : Nat} {p2 : Int} {K : Bool → World → Prop} (h : F31 p0_0 p0_1 p0_2 p0_3 p0_4 p0_5 p0_6 p0_7 p0_8 p0_9 p0_10 p0_11 p0_12 p0_13 p1_0 p1_1 p1_2 p1_3 p1_4 p1_5 p1_6 p1_7 p1_8 p1_9 p1_10 p1_11 p1_12 p1_13 p2 K w0) : Calls Try.prog 31 #[(Value.agg #[(Value.int .i64 p0_0), (Value.int .u32 p0_1), (Value.int .u32 p0_2), (Value.bool p0_3), (Value.int .i64 p0_4), (SV.v p0_5), (Value.int .u32 p0_6), (Value.bool p0_7), (Value.int .u32 p0_8), (Value.bool p0_9), (Value.int .u32 p0_10), (Value.bool p0_11), (SV.v p0_12), (Value.float .f64 p0_13)]), (Value.agg #[(Value.int .i64 p1_0), (Value.int .u32 p1_1), (Value.int .u32 p1_2), (Value.bool p1_3), (Value.int .i64 p1_4), (SV.v p1_5), (Value.int .u32 p1_6), (Value.bool p1_7), (Value.int .u32 p1_8), (Value.bool p1_9), (Value.int .u32 p1_10), (Value.bool p1_11), (SV.v p1_12), (Value.float .f64 p1_13)]), (Value.int .i64 p2)] w0 (R31 K) := by
  refine calls_of_WE (args := [(Value.agg #[(Value.int .i64 p0_0), (Value.int .u32 p0_1), (Value.int .u32 p0_2), (Value.bool p0_3), (Value.int .i64 p0_4), (SV.v p0_5), (Value.int .u32 p0_6), (Value.bool p0_7), (Value.int .u32 p0_8), (Value.bool p0_9), (Value.int .u32 p0_10), (Value.bool p0_11), (SV.v p0_12), (Value.float .f64 p0_13)]), (Value.agg #[(Value.int .i64 p1_0), (Value.int .u32 p1_1), (Value.int .u32 p1_2), (Value.bool p1_3), (Value.int .i64 p1_4), (SV.v p1_5), (Value.int .u32 p1_6), (Value.bool p1_7), (Value.int .u32 p1_8), (Value.bool p1_9), (Value.int .u32 p1_10), (Value.bool p1_11), (SV.v p1_12), (Value.float .f64 p1_13)]), (Value.int .i64 p2)]) (rs := [.tmp 6]) Try.func31 rfl (N := 106) rfl rfl rfl rfl ?_
  refine WE.seq ?_
  refine WE.reg ?_
  obtain ⟨b2, hpb2, w1, hww1, h⟩ := M.new_use h
  refine LE.r (v := (Value.pointer (some b2))) (Wn.no rfl) rfl (R.box (cs := #[(Value.int .i64 p0_0), (Value.int .u32 p0_1), (Value.int .u32 p0_2), (Value.bool p0_3), (Value.int .i64 p0_4), (SV.v p0_5), (Value.int .u32 p0_6), (Value.bool p0_7), (Value.int .u32 p0_8), (Value.bool p0_9), (Value.int .u32 p0_10), (Value.bool p0_11), (SV.v p0_12), (Value.float .f64 p0_13)]) rfl rfl hpb2 hww1) ?_
  obtain ⟨b4, hpb4, w3, hww3, h⟩ := M.new_use h
  refine LE.r (v := (Value.pointer (some b4))) (Wn.no rfl) rfl (R.box (cs := #[(Value.int .i64 p1_0), (Value.int .u32 p1_1), (Value.int .u32 p1_2), (Value.bool p1_3), (Value.int .i64 p1_4), (SV.v p1_5), (Value.int .u32 p1_6), (Value.bool p1_7), (Value.int .u32 p1_8), (Value.bool p1_9), (Value.int .u32 p1_10), (Value.bool p1_11), (SV.v p1_12), (Value.float .f64 p1_13)]) rfl rfl hpb4 hww3) ?_
  refine LE.p (v := (Value.bool false)) (Wn.no rfl) rfl (R.assign rfl) ?_
  refine LE.nil ?_
  refine WE.seq ?_
  refine WE.seq ?_
  refine WE.reg ?_
  refine LE.p (v := (Value.int .i64 p2)) (Wn.no rfl) rfl (R.move rfl) ?_
  refine LE.nil ?_
  refine WE.block ?_
  refine WE.seq ?_
  refine WE.reg ?_
  refine LE.p (v := (Value.bool (p2 == (1 : Int)))) (Wn.no rfl) rfl (R.eql rfl rfl) ?_
  refine LE.p (v := (Value.bool (p2 == (1 : Int)))) (Wn.no rfl) rfl (R.assign rfl) ?_
  refine LE.nil ?_
  refine WE.condT rfl (b := (p2 == (1 : Int))) rfl ?_ ?_
  · intro hb5
    replace h := M.ite_t h hb5
    refine WE.seq ?_
    refine WE.draw mix ?_
    obtain ⟨w6, hww6, h⟩ := M.drew_use h
    rw [← hww6]
    clear hww6
    refine DE.t 0 (v := (Value.pointer (some b2))) rfl (by kernel_rfl) (Wn.no rfl) rfl (R.fld (off := 0) fa59_0 rfl) ?_
    refine DE.t 1 (v := (Value.pointer (some (b2.add 4)))) rfl (by kernel_rfl) (Wn.no rfl) rfl (R.fld (off := 4) fa34_4 rfl) ?_
    refine DE.t 4 (v := (Value.pointer (some b4))) rfl (by kernel_rfl) (Wn.no rfl) rfl (R.fld (off := 0) fa59_0 rfl) ?_
    refine DE.t 5 (v := (Value.pointer (some (b4.add 4)))) rfl (by kernel_rfl) (Wn.no rfl) rfl (R.fld (off := 4) fa34_4 rfl) ?_
    obtain ⟨t7, t8, t9, t10, t11, t12, t13, t14, t15, h16, h⟩ := h
    refine DE.hold 2 (fun w => Cs w (b2.add 4) 0 [(Value.int .i64 t7), (SV.v t8), (Value.int .u32 t9), (Value.bool t10), (Value.int .u32 t11), (Value.bool t12), (Value.int .u32 t13), (Value.bool t14), (SV.v t15)]) (v := (Value.agg #[(Value.int .i64 t7), (SV.v t8), (Value.int .u32 t9), (Value.bool t10), (Value.int .u32 t11), (Value.bool t12), (Value.int .u32 t13), (Value.bool t14), (SV.v t15)])) rfl (by kernel_rfl) (Wn.no rfl) rfl h16 (fun w hs => R.ldA ag32 sz32 rfl rfl hs) ?_
    obtain ⟨t17, t18, t19, t20, t21, t22, t23, t24, t25, h26, h⟩ := h
    refine DE.hold 6 (fun w => Cs w (b4.add 4) 0 [(Value.int .i64 t17), (SV.v t18), (Value.int .u32 t19), (Value.bool t20), (Value.int .u32 t21), (Value.bool t22), (Value.int .u32 t23), (Value.bool t24), (SV.v t25)]) (v := (Value.agg #[(Value.int .i64 t17), (SV.v t18), (Value.int .u32 t19), (Value.bool t20), (Value.int .u32 t21), (Value.bool t22), (Value.int .u32 t23), (Value.bool t24), (SV.v t25)])) rfl (by kernel_rfl) (Wn.no rfl) rfl h26 (fun w hs => R.ldA ag32 sz32 rfl rfl hs) ?_
    refine DE.main 3 (by kernel_rfl) ?_
    refine One.c 3 rfl (Wn.no rfl) rfl (R.call bd35 (Ls.cons rfl Ls.nil) rfl) (Calls.mono h ?_)
    rintro _ w28 ⟨r27, rfl, h⟩
    obtain ⟨k29, h⟩ := h
    refine ⟨_, rfl, ⟨fun _ => k29, aftT (by kernel_rfl), trivial⟩, ?_⟩
    refine DE.main 7 (by kernel_rfl) ?_
    refine One.c 7 rfl (Wn.no rfl) rfl (R.call bd35 (Ls.cons rfl Ls.nil) rfl) (Calls.mono h ?_)
    rintro _ w31 ⟨r30, rfl, h⟩
    refine ⟨_, rfl, ⟨aftT (by kernel_rfl), aftT (by kernel_rfl), trivial⟩, ?_⟩
    refine DE.t 8 (v := (Value.bool (decide (r27 < r30)))) rfl (by kernel_rfl) (Wn.no rfl) rfl (R.lss rfl rfl) ?_
    refine DE.t 9 (v := (Value.bool (decide (r27 < r30)))) rfl (by kernel_rfl) (Wn.no rfl) rfl (R.assign rfl) ?_
    refine DE.done (by kernel_rfl) ?_
    refine WE.ret ?_
    exact ⟨_, (Res.tmp rfl Res.nil), _, rfl, h⟩
  · intro hb5
    replace h := M.ite_f h hb5
    refine WE.seq ?_
    refine WE.reg ?_
    refine LE.p (v := (Value.bool (p2 == (2 : Int)))) (Wn.no rfl) rfl (R.eql rfl rfl) ?_
    refine LE.p (v := (Value.bool (p2 == (2 : Int)))) (Wn.no rfl) rfl (R.assign rfl) ?_
    refine LE.nil ?_
    refine WE.condT rfl (b := (p2 == (2 : Int))) rfl ?_ ?_
    · intro hb32
      replace h := M.ite_t h hb32
      refine WE.seq ?_
      refine WE.draw mix ?_
      obtain ⟨w33, hww33, h⟩ := M.drew_use h
      rw [← hww33]
      clear hww33
      refine DE.t 0 (v := (Value.pointer (some b2))) rfl (by kernel_rfl) (Wn.no rfl) rfl (R.fld (off := 0) fa59_0 rfl) ?_
      refine DE.t 1 (v := (Value.pointer (some (b2.add 4)))) rfl (by kernel_rfl) (Wn.no rfl) rfl (R.fld (off := 4) fa34_4 rfl) ?_
      refine DE.t 2 (v := (Value.pointer (some ((b2.add 4).add 1)))) rfl (by kernel_rfl) (Wn.no rfl) rfl (R.fld (off := 1) fa32_1 rfl) ?_
      refine DE.t 5 (v := (Value.pointer (some b4))) rfl (by kernel_rfl) (Wn.no rfl) rfl (R.fld (off := 0) fa59_0 rfl) ?_
      refine DE.t 6 (v := (Value.pointer (some (b4.add 4)))) rfl (by kernel_rfl) (Wn.no rfl) rfl (R.fld (off := 4) fa34_4 rfl) ?_
      refine DE.t 7 (v := (Value.pointer (some ((b4.add 4).add 1)))) rfl (by kernel_rfl) (Wn.no rfl) rfl (R.fld (off := 1) fa32_1 rfl) ?_
      obtain ⟨t34, h35, h⟩ := h
      refine DE.hold 3 (fun w => w.cell? ((b2.add 4).add 1) = some (SV.v t34)) (v := (SV.v t34)) rfl (by kernel_rfl) (Wn.no rfl) rfl h35 (fun w hs => R.ld sc29 rfl hs) ?_
      obtain ⟨t36, h37, h⟩ := h
      refine DE.hold 8 (fun w => w.cell? ((b4.add 4).add 1) = some (SV.v t36)) (v := (SV.v t36)) rfl (by kernel_rfl) (Wn.no rfl) rfl h37 (fun w hs => R.ld sc29 rfl hs) ?_
      refine DE.main 4 (by kernel_rfl) ?_
      refine One.c 4 rfl (Wn.no rfl) rfl (R.call bd16 (Ls.cons rfl Ls.nil) rfl) (Calls.mono h ?_)
      rintro _ w39 ⟨r38, rfl, h⟩
      obtain ⟨k40, h⟩ := h
      refine ⟨_, rfl, ⟨fun _ => k40, aftT (by kernel_rfl), trivial⟩, ?_⟩
      refine DE.main 9 (by kernel_rfl) ?_
      refine One.c 9 rfl (Wn.no rfl) rfl (R.call bd16 (Ls.cons rfl Ls.nil) rfl) (Calls.mono h ?_)
      rintro _ w42 ⟨r41, rfl, h⟩
      refine ⟨_, rfl, ⟨aftT (by kernel_rfl), aftT (by kernel_rfl), trivial⟩, ?_⟩
      refine DE.t 10 (v := (Value.bool (decide (r41 < r38)))) rfl (by kernel_rfl) (Wn.no rfl) rfl (R.gtr rfl rfl) ?_
      refine DE.t 11 (v := (Value.bool (decide (r41 < r38)))) rfl (by kernel_rfl) (Wn.no rfl) rfl (R.assign rfl) ?_
      refine DE.done (by kernel_rfl) ?_
      refine WE.ret ?_
      exact ⟨_, (Res.tmp rfl Res.nil), _, rfl, h⟩
    · intro hb32
      replace h := M.ite_f h hb32
      refine WE.seq ?_
      refine WE.reg ?_
      refine LE.p (v := (Value.bool (p2 == (3 : Int)))) (Wn.no rfl) rfl (R.eql rfl rfl) ?_
      refine LE.p (v := (Value.bool (p2 == (3 : Int)))) (Wn.no rfl) rfl (R.assign rfl) ?_
      refine LE.nil ?_
      refine WE.condT rfl (b := (p2 == (3 : Int))) rfl ?_ ?_
      · intro hb43
        replace h := M.ite_t h hb43
        refine WE.seq ?_
        refine WE.reg ?_
        refine LE.p (v := (Value.pointer (some b2))) (Wn.no rfl) rfl (R.fld (off := 0) fa59_0 rfl) ?_
        refine LE.p (v := (Value.pointer (some (b2.add 4)))) (Wn.no rfl) rfl (R.fld (off := 4) fa34_4 rfl) ?_
        refine LE.p (v := (Value.pointer (some (b2.add 4)))) (Wn.no rfl) rfl (R.fld (off := 0) fa32_0 rfl) ?_
        obtain ⟨t44, h45, h⟩ := h
        refine LE.r (v := (Value.int .i64 t44)) (Wn.no rfl) rfl (R.ld sc3 rfl h45) ?_
        refine LE.p (v := (Value.pointer (some b4))) (Wn.no rfl) rfl (R.fld (off := 0) fa59_0 rfl) ?_
        refine LE.p (v := (Value.pointer (some (b4.add 4)))) (Wn.no rfl) rfl (R.fld (off := 4) fa34_4 rfl) ?_
        refine LE.p (v := (Value.pointer (some (b4.add 4)))) (Wn.no rfl) rfl (R.fld (off := 0) fa32_0 rfl) ?_
        obtain ⟨t46, h47, h⟩ := h
        refine LE.r (v := (Value.int .i64 t46)) (Wn.no rfl) rfl (R.ld sc3 rfl h47) ?_
        refine LE.p (v := (Value.bool (decide (t46 < t44)))) (Wn.no rfl) rfl (R.gtr rfl rfl) ?_
        refine LE.p (v := (Value.bool (decide (t46 < t44)))) (Wn.no rfl) rfl (R.assign rfl) ?_
        refine LE.nil ?_
        refine WE.ret ?_
        exact ⟨_, (Res.tmp rfl Res.nil), _, rfl, h⟩
      · intro hb43
        replace h := M.ite_f h hb43
        refine WE.seq ?_
        refine WE.reg ?_
        refine LE.p (v := (Value.bool (p2 == (4 : Int)))) (Wn.no rfl) rfl (R.eql rfl rfl) ?_
        refine LE.p (v := (Value.bool (p2 == (4 : Int)))) (Wn.no rfl) rfl (R.assign rfl) ?_
        refine LE.nil ?_
        refine WE.condT rfl (b := (p2 == (4 : Int))) rfl ?_ ?_
        · intro hb48
          replace h := M.ite_t h hb48
          refine WE.seq ?_
          obtain ⟨J49, hJ49, h⟩ := M.join_use h
          refine WE.drawJ (fun e w => ∃ (x50 : Bool), J49 x50 w ∧ e 6 = (Value.bool x50)) mix ?_ ?_
          · clear hJ49
            obtain ⟨w51, hww51, h⟩ := M.drew_use h
            rw [← hww51]
            clear hww51
            refine DE.t 0 (v := (Value.pointer (some b2))) rfl (by kernel_rfl) (Wn.no rfl) rfl (R.fld (off := 0) fa59_0 rfl) ?_
            refine DE.t 1 (v := (Value.pointer (some (b2.add 4)))) rfl (by kernel_rfl) (Wn.no rfl) rfl (R.fld (off := 4) fa34_4 rfl) ?_
            refine DE.t 3 (v := (Value.pointer (some b4))) rfl (by kernel_rfl) (Wn.no rfl) rfl (R.fld (off := 0) fa59_0 rfl) ?_
            refine DE.t 4 (v := (Value.pointer (some (b4.add 4)))) rfl (by kernel_rfl) (Wn.no rfl) rfl (R.fld (off := 4) fa34_4 rfl) ?_
            obtain ⟨t52, t53, t54, t55, t56, t57, t58, t59, t60, h61, h⟩ := h
            refine DE.hold 2 (fun w => Cs w (b2.add 4) 0 [(Value.int .i64 t52), (SV.v t53), (Value.int .u32 t54), (Value.bool t55), (Value.int .u32 t56), (Value.bool t57), (Value.int .u32 t58), (Value.bool t59), (SV.v t60)]) (v := (Value.agg #[(Value.int .i64 t52), (SV.v t53), (Value.int .u32 t54), (Value.bool t55), (Value.int .u32 t56), (Value.bool t57), (Value.int .u32 t58), (Value.bool t59), (SV.v t60)])) rfl (by kernel_rfl) (Wn.no rfl) rfl h61 (fun w hs => R.ldA ag32 sz32 rfl rfl hs) ?_
            obtain ⟨t62, t63, t64, t65, t66, t67, t68, t69, t70, h71, h⟩ := h
            refine DE.main 5 (by kernel_rfl) ?_
            refine One.r 5 (v := (Value.agg #[(Value.int .i64 t62), (SV.v t63), (Value.int .u32 t64), (Value.bool t65), (Value.int .u32 t66), (Value.bool t67), (Value.int .u32 t68), (Value.bool t69), (SV.v t70)])) rfl (Wn.no rfl) rfl (R.ldA ag32 sz32 rfl rfl h71) (.inl rfl) ?_
            refine DE.main 6 (by kernel_rfl) ?_
            refine One.c 6 rfl (Wn.no rfl) rfl (R.call bd36 (Ls.cons rfl (Ls.cons rfl Ls.nil)) rfl) (Calls.mono h ?_)
            rintro _ w73 ⟨r72, rfl, h⟩
            refine ⟨_, rfl, ⟨aftT (by kernel_rfl), trivial⟩, ?_⟩
            refine DE.t 7 (v := (Value.bool r72)) rfl (by kernel_rfl) (Wn.no rfl) rfl (R.move rfl) ?_
            rcases M.ite_use h with ⟨hb74, h⟩ | ⟨hb74, h⟩
            · refine DE.t 8 (v := (Value.pointer (some b2))) rfl (by kernel_rfl) (Wn.yes 7 52 true rfl rfl rfl (congrArg Value.bool hb74)) rfl (R.fld (off := 0) fa59_0 rfl) ?_
              refine DE.t 9 (v := (Value.pointer (some (b2.add 4)))) rfl (by kernel_rfl) (Wn.yes 7 52 true rfl rfl rfl (congrArg Value.bool hb74)) rfl (R.fld (off := 4) fa34_4 rfl) ?_
              refine DE.t 12 (v := (Value.pointer (some b4))) rfl (by kernel_rfl) (Wn.yes 7 52 true rfl rfl rfl (congrArg Value.bool hb74)) rfl (R.fld (off := 0) fa59_0 rfl) ?_
              refine DE.t 13 (v := (Value.pointer (some (b4.add 4)))) rfl (by kernel_rfl) (Wn.yes 7 52 true rfl rfl rfl (congrArg Value.bool hb74)) rfl (R.fld (off := 4) fa34_4 rfl) ?_
              obtain ⟨t75, t76, t77, t78, t79, t80, t81, t82, t83, h84, h⟩ := h
              refine DE.hold 10 (fun w => Cs w (b2.add 4) 0 [(Value.int .i64 t75), (SV.v t76), (Value.int .u32 t77), (Value.bool t78), (Value.int .u32 t79), (Value.bool t80), (Value.int .u32 t81), (Value.bool t82), (SV.v t83)]) (v := (Value.agg #[(Value.int .i64 t75), (SV.v t76), (Value.int .u32 t77), (Value.bool t78), (Value.int .u32 t79), (Value.bool t80), (Value.int .u32 t81), (Value.bool t82), (SV.v t83)])) rfl (by kernel_rfl) (Wn.yes 7 52 true rfl rfl rfl (congrArg Value.bool hb74)) rfl h84 (fun w hs => R.ldA ag32 sz32 rfl rfl hs) ?_
              obtain ⟨t85, t86, t87, t88, t89, t90, t91, t92, t93, h94, h⟩ := h
              refine DE.hold 14 (fun w => Cs w (b4.add 4) 0 [(Value.int .i64 t85), (SV.v t86), (Value.int .u32 t87), (Value.bool t88), (Value.int .u32 t89), (Value.bool t90), (Value.int .u32 t91), (Value.bool t92), (SV.v t93)]) (v := (Value.agg #[(Value.int .i64 t85), (SV.v t86), (Value.int .u32 t87), (Value.bool t88), (Value.int .u32 t89), (Value.bool t90), (Value.int .u32 t91), (Value.bool t92), (SV.v t93)])) rfl (by kernel_rfl) (Wn.yes 7 52 true rfl rfl rfl (congrArg Value.bool hb74)) rfl h94 (fun w hs => R.ldA ag32 sz32 rfl rfl hs) ?_
              refine DE.main 11 (by kernel_rfl) ?_
              refine One.c 11 rfl (Wn.yes 7 52 true rfl rfl rfl (congrArg Value.bool hb74)) rfl (R.call bd37 (Ls.cons rfl Ls.nil) rfl) (Calls.mono h ?_)
              rintro _ w96 ⟨r95, rfl, h⟩
              obtain ⟨k97, h⟩ := h
              refine ⟨_, rfl, ⟨fun _ => k97, aftT (by kernel_rfl), aftT (by kernel_rfl), trivial⟩, ?_⟩
              refine DE.main 15 (by kernel_rfl) ?_
              refine One.c 15 rfl (Wn.yes 7 52 true rfl rfl rfl (congrArg Value.bool hb74)) rfl (R.call bd37 (Ls.cons rfl Ls.nil) rfl) (Calls.mono h ?_)
              rintro _ w99 ⟨r98, rfl, h⟩
              refine ⟨_, rfl, ⟨aftT (by kernel_rfl), aftT (by kernel_rfl), aftT (by kernel_rfl), trivial⟩, ?_⟩
              refine DE.t 16 (v := (Value.bool (decide (r98 < r95)))) rfl (by kernel_rfl) (Wn.yes 7 52 true rfl rfl rfl (congrArg Value.bool hb74)) rfl (R.gtr rfl rfl) ?_
              refine DE.t 17 (v := (Value.bool (decide (r98 < r95)))) rfl (by kernel_rfl) (Wn.no rfl) rfl (R.pickT (congrArg Value.bool hb74) rfl) ?_
              refine DE.t 18 (v := (Value.bool (decide (r98 < r95)))) rfl (by kernel_rfl) (Wn.no rfl) rfl (R.assign rfl) ?_
              refine DE.done (by kernel_rfl) ?_
              exact ⟨_, h, rfl⟩
            · refine DE.u 8 rfl (by kernel_rfl) (Un.no 7 52 true rfl rfl rfl (congrArg Value.bool hb74)) ?_
              refine DE.u 9 rfl (by kernel_rfl) (Un.no 7 52 true rfl rfl rfl (congrArg Value.bool hb74)) ?_
              refine DE.u 10 rfl (by kernel_rfl) (Un.no 7 52 true rfl rfl rfl (congrArg Value.bool hb74)) ?_
              refine DE.u 11 rfl (by kernel_rfl) (Un.no 7 52 true rfl rfl rfl (congrArg Value.bool hb74)) ?_
              refine DE.u 12 rfl (by kernel_rfl) (Un.no 7 52 true rfl rfl rfl (congrArg Value.bool hb74)) ?_
              refine DE.u 13 rfl (by kernel_rfl) (Un.no 7 52 true rfl rfl rfl (congrArg Value.bool hb74)) ?_
              refine DE.u 14 rfl (by kernel_rfl) (Un.no 7 52 true rfl rfl rfl (congrArg Value.bool hb74)) ?_
              refine DE.u 15 rfl (by kernel_rfl) (Un.no 7 52 true rfl rfl rfl (congrArg Value.bool hb74)) ?_
              refine DE.u 16 rfl (by kernel_rfl) (Un.no 7 52 true rfl rfl rfl (congrArg Value.bool hb74)) ?_
              refine DE.t 17 (v := (Value.bool false)) rfl (by kernel_rfl) (Wn.no rfl) rfl (R.pickF (congrArg Value.bool hb74) rfl) ?_
              refine DE.t 18 (v := (Value.bool false)) rfl (by kernel_rfl) (Wn.no rfl) rfl (R.assign rfl) ?_
              refine DE.done (by kernel_rfl) ?_
              exact ⟨_, h, rfl⟩
          · rintro e100 w101 ⟨x50, h, f102⟩
            subst hJ49
            refine WE.ret ?_
            exact ⟨_, (Res.tmp f102 Res.nil), _, rfl, h⟩
        · intro hb48
          replace h := M.ite_f h hb48
          refine WE.seq ?_
          refine WE.reg ?_
          refine LE.p (v := (Value.bool (p2 == (5 : Int)))) (Wn.no rfl) rfl (R.eql rfl rfl) ?_
          refine LE.p (v := (Value.bool (p2 == (5 : Int)))) (Wn.no rfl) rfl (R.assign rfl) ?_
          refine LE.nil ?_
          refine WE.condT rfl (b := (p2 == (5 : Int))) rfl ?_ ?_
          · intro hb103
            replace h := M.ite_t h hb103
            refine WE.seq ?_
            obtain ⟨J104, hJ104, h⟩ := M.join_use h
            refine WE.regJ (fun e w => ∃ (x105 : Bool), J104 x105 w ∧ e 6 = (Value.bool x105)) ?_ ?_
            · clear hJ104
              refine LE.p (v := (Value.pointer (some b2))) (Wn.no rfl) rfl (R.fld (off := 0) fa59_0 rfl) ?_
              refine LE.p (v := (Value.pointer (some (b2.add 3)))) (Wn.no rfl) rfl (R.fld (off := 3) fa34_3 rfl) ?_
              obtain ⟨t106, h107, h⟩ := h
              refine LE.r (v := (Value.bool t106)) (Wn.no rfl) rfl (R.ld sc4 rfl h107) ?_
              refine LE.p (v := (Value.bool t106)) (Wn.no rfl) rfl (R.move rfl) ?_
              rcases M.ite_use h with ⟨hb108, h⟩ | ⟨hb108, h⟩
              · refine LE.p (v := (Value.pointer (some b4))) (Wn.yes 3 68 true rfl rfl rfl (congrArg Value.bool hb108)) rfl (R.fld (off := 0) fa59_0 rfl) ?_
                refine LE.p (v := (Value.pointer (some (b4.add 3)))) (Wn.yes 3 68 true rfl rfl rfl (congrArg Value.bool hb108)) rfl (R.fld (off := 3) fa34_3 rfl) ?_
                obtain ⟨t109, h110, h⟩ := h
                refine LE.r (v := (Value.bool t109)) (Wn.yes 3 68 true rfl rfl rfl (congrArg Value.bool hb108)) rfl (R.ld sc4 rfl h110) ?_
                refine LE.p (v := (Value.bool (!t109))) (Wn.yes 3 68 true rfl rfl rfl (congrArg Value.bool hb108)) rfl (R.not rfl) ?_
                refine LE.p (v := (Value.bool (!t109))) (Wn.no rfl) rfl (R.pickT (congrArg Value.bool hb108) rfl) ?_
                refine LE.p (v := (Value.bool (!t109))) (Wn.no rfl) rfl (R.assign rfl) ?_
                refine LE.nil ?_
                exact ⟨_, h, rfl⟩
              · refine LE.u (Un.no 3 68 true rfl rfl rfl (congrArg Value.bool hb108)) ?_
                refine LE.u (Un.no 3 68 true rfl rfl rfl (congrArg Value.bool hb108)) ?_
                refine LE.u (Un.no 3 68 true rfl rfl rfl (congrArg Value.bool hb108)) ?_
                refine LE.u (Un.no 3 68 true rfl rfl rfl (congrArg Value.bool hb108)) ?_
                refine LE.p (v := (Value.bool false)) (Wn.no rfl) rfl (R.pickF (congrArg Value.bool hb108) rfl) ?_
                refine LE.p (v := (Value.bool false)) (Wn.no rfl) rfl (R.assign rfl) ?_
                refine LE.nil ?_
                exact ⟨_, h, rfl⟩
            · rintro e111 w112 ⟨x105, h, f113⟩
              subst hJ104
              refine WE.ret ?_
              exact ⟨_, (Res.tmp f113 Res.nil), _, rfl, h⟩
          · intro hb103
            replace h := M.ite_f h hb103
            refine WE.seq ?_
            refine WE.reg ?_
            refine LE.p (v := (Value.bool (p2 == (6 : Int)))) (Wn.no rfl) rfl (R.eql rfl rfl) ?_
            refine LE.p (v := (Value.bool (p2 == (6 : Int)))) (Wn.no rfl) rfl (R.assign rfl) ?_
            refine LE.nil ?_
            refine WE.condT rfl (b := (p2 == (6 : Int))) rfl ?_ ?_
            · intro hb114
              replace h := M.ite_t h hb114
              refine WE.seq ?_
              refine WE.reg ?_
              refine LE.p (v := (Value.pointer (some (b4.add 13)))) (Wn.no rfl) rfl (R.fld (off := 13) fa59_1 rfl) ?_
              obtain ⟨t115, h116, h⟩ := h
              refine LE.r (v := (Value.float .f64 t115)) (Wn.no rfl) rfl (R.ld sc35 rfl h116) ?_
              refine LE.p (v := (Value.pointer (some (b2.add 13)))) (Wn.no rfl) rfl (R.fld (off := 13) fa59_1 rfl) ?_
              obtain ⟨t117, h118, h⟩ := h
              refine LE.r (v := (Value.float .f64 t117)) (Wn.no rfl) rfl (R.ld sc35 rfl h118) ?_
              refine LE.c (Wn.no rfl) rfl (R.call bd38 (Ls.cons rfl (Ls.cons rfl Ls.nil)) rfl) (Calls.mono h ?_)
              rintro _ w120 ⟨r119, rfl, h⟩
              refine ⟨_, rfl, ?_⟩
              refine LE.p (v := (Value.bool r119)) (Wn.no rfl) rfl (R.assign rfl) ?_
              refine LE.nil ?_
              refine WE.ret ?_
              exact ⟨_, (Res.tmp rfl Res.nil), _, rfl, h⟩
            · intro hb114
              replace h := M.ite_f h hb114
              refine WE.skip ?_
              refine WE.seq ?_
              obtain ⟨J121, hJ121, h⟩ := M.join_use h
              refine WE.regJ (fun e w => ∃ (x122 : Bool), J121 x122 w ∧ e 6 = (Value.bool x122)) ?_ ?_
              · clear hJ121
                refine LE.p (v := (Value.pointer (some b2))) (Wn.no rfl) rfl (R.fld (off := 0) fa59_0 rfl) ?_
                refine LE.p (v := (Value.pointer (some (b2.add 1)))) (Wn.no rfl) rfl (R.fld (off := 1) fa34_1 rfl) ?_
                obtain ⟨t123, h124, h⟩ := h
                refine LE.r (v := (Value.int .u32 t123)) (Wn.no rfl) rfl (R.ld sc28 rfl h124) ?_
                refine LE.p (v := (Value.pointer (some b4))) (Wn.no rfl) rfl (R.fld (off := 0) fa59_0 rfl) ?_
                refine LE.p (v := (Value.pointer (some (b4.add 1)))) (Wn.no rfl) rfl (R.fld (off := 1) fa34_1 rfl) ?_
                obtain ⟨t125, h126, h⟩ := h
                refine LE.r (v := (Value.int .u32 t125)) (Wn.no rfl) rfl (R.ld sc28 rfl h126) ?_
                refine LE.p (v := (Value.bool (decide (t125 < t123)))) (Wn.no rfl) rfl (R.gtr rfl rfl) ?_
                refine LE.p (v := (Value.bool (decide (t125 < t123)))) (Wn.no rfl) rfl (R.move rfl) ?_
                rcases M.ite_use h with ⟨hb127, h⟩ | ⟨hb127, h⟩
                · refine LE.u (Un.no 7 88 false rfl rfl rfl (congrArg Value.bool hb127)) ?_
                  refine LE.u (Un.no 7 88 false rfl rfl rfl (congrArg Value.bool hb127)) ?_
                  refine LE.u (Un.no 7 88 false rfl rfl rfl (congrArg Value.bool hb127)) ?_
                  refine LE.u (Un.no 7 88 false rfl rfl rfl (congrArg Value.bool hb127)) ?_
                  refine LE.u (Un.no 7 88 false rfl rfl rfl (congrArg Value.bool hb127)) ?_
                  refine LE.u (Un.no 7 88 false rfl rfl rfl (congrArg Value.bool hb127)) ?_
                  refine LE.u (Un.no 7 88 false rfl rfl rfl (congrArg Value.bool hb127)) ?_
                  refine LE.u (Un.no 7 88 false rfl rfl rfl (congrArg Value.bool hb127)) ?_
                  refine LE.u (Un.un 15 96 true rfl rfl rfl rfl) ?_
                  refine LE.u (Un.un 15 96 true rfl rfl rfl rfl) ?_
                  refine LE.u (Un.un 15 96 true rfl rfl rfl rfl) ?_
                  refine LE.u (Un.un 15 96 true rfl rfl rfl rfl) ?_
                  refine LE.u (Un.un 15 96 true rfl rfl rfl rfl) ?_
                  refine LE.u (Un.un 15 96 true rfl rfl rfl rfl) ?_
                  refine LE.u (Un.un 15 96 true rfl rfl rfl rfl) ?_
                  refine LE.u (Un.no 7 88 false rfl rfl rfl (congrArg Value.bool hb127)) ?_
                  refine LE.p (v := (Value.bool true)) (Wn.no rfl) rfl (R.pickT (congrArg Value.bool hb127) rfl) ?_
                  refine LE.p (v := (Value.bool true)) (Wn.no rfl) rfl (R.assign rfl) ?_
                  refine LE.nil ?_
                  exact ⟨_, h, rfl⟩
                · refine LE.p (v := (Value.pointer (some b2))) (Wn.yes 7 88 false rfl rfl rfl (congrArg Value.bool hb127)) rfl (R.fld (off := 0) fa59_0 rfl) ?_
                  refine LE.p (v := (Value.pointer (some (b2.add 1)))) (Wn.yes 7 88 false rfl rfl rfl (congrArg Value.bool hb127)) rfl (R.fld (off := 1) fa34_1 rfl) ?_
                  obtain ⟨t128, h129, h⟩ := h
                  refine LE.r (v := (Value.int .u32 t128)) (Wn.yes 7 88 false rfl rfl rfl (congrArg Value.bool hb127)) rfl (R.ld sc28 rfl h129) ?_
                  refine LE.p (v := (Value.pointer (some b4))) (Wn.yes 7 88 false rfl rfl rfl (congrArg Value.bool hb127)) rfl (R.fld (off := 0) fa59_0 rfl) ?_
                  refine LE.p (v := (Value.pointer (some (b4.add 1)))) (Wn.yes 7 88 false rfl rfl rfl (congrArg Value.bool hb127)) rfl (R.fld (off := 1) fa34_1 rfl) ?_
                  obtain ⟨t130, h131, h⟩ := h
                  refine LE.r (v := (Value.int .u32 t130)) (Wn.yes 7 88 false rfl rfl rfl (congrArg Value.bool hb127)) rfl (R.ld sc28 rfl h131) ?_
                  refine LE.p (v := (Value.bool (t128 == t130))) (Wn.yes 7 88 false rfl rfl rfl (congrArg Value.bool hb127)) rfl (R.eql rfl rfl) ?_
                  refine LE.p (v := (Value.bool (t128 == t130))) (Wn.yes 7 88 false rfl rfl rfl (congrArg Value.bool hb127)) rfl (R.move rfl) ?_
                  rcases M.ite_use h with ⟨hb132, h⟩ | ⟨hb132, h⟩
                  · refine LE.p (v := (Value.pointer (some b2))) (Wn.yes 15 96 true rfl rfl rfl (congrArg Value.bool hb132)) rfl (R.fld (off := 0) fa59_0 rfl) ?_
                    refine LE.p (v := (Value.pointer (some (b2.add 2)))) (Wn.yes 15 96 true rfl rfl rfl (congrArg Value.bool hb132)) rfl (R.fld (off := 2) fa34_2 rfl) ?_
                    obtain ⟨t133, h134, h⟩ := h
                    refine LE.r (v := (Value.int .u32 t133)) (Wn.yes 15 96 true rfl rfl rfl (congrArg Value.bool hb132)) rfl (R.ld sc28 rfl h134) ?_
                    refine LE.p (v := (Value.pointer (some b4))) (Wn.yes 15 96 true rfl rfl rfl (congrArg Value.bool hb132)) rfl (R.fld (off := 0) fa59_0 rfl) ?_
                    refine LE.p (v := (Value.pointer (some (b4.add 2)))) (Wn.yes 15 96 true rfl rfl rfl (congrArg Value.bool hb132)) rfl (R.fld (off := 2) fa34_2 rfl) ?_
                    obtain ⟨t135, h136, h⟩ := h
                    refine LE.r (v := (Value.int .u32 t135)) (Wn.yes 15 96 true rfl rfl rfl (congrArg Value.bool hb132)) rfl (R.ld sc28 rfl h136) ?_
                    refine LE.p (v := (Value.bool (decide (t135 < t133)))) (Wn.yes 15 96 true rfl rfl rfl (congrArg Value.bool hb132)) rfl (R.gtr rfl rfl) ?_
                    refine LE.p (v := (Value.bool (decide (t135 < t133)))) (Wn.yes 7 88 false rfl rfl rfl (congrArg Value.bool hb127)) rfl (R.pickT (congrArg Value.bool hb132) rfl) ?_
                    refine LE.p (v := (Value.bool (decide (t135 < t133)))) (Wn.no rfl) rfl (R.pickF (congrArg Value.bool hb127) rfl) ?_
                    refine LE.p (v := (Value.bool (decide (t135 < t133)))) (Wn.no rfl) rfl (R.assign rfl) ?_
                    refine LE.nil ?_
                    exact ⟨_, h, rfl⟩
                  · refine LE.u (Un.no 15 96 true rfl rfl rfl (congrArg Value.bool hb132)) ?_
                    refine LE.u (Un.no 15 96 true rfl rfl rfl (congrArg Value.bool hb132)) ?_
                    refine LE.u (Un.no 15 96 true rfl rfl rfl (congrArg Value.bool hb132)) ?_
                    refine LE.u (Un.no 15 96 true rfl rfl rfl (congrArg Value.bool hb132)) ?_
                    refine LE.u (Un.no 15 96 true rfl rfl rfl (congrArg Value.bool hb132)) ?_
                    refine LE.u (Un.no 15 96 true rfl rfl rfl (congrArg Value.bool hb132)) ?_
                    refine LE.u (Un.no 15 96 true rfl rfl rfl (congrArg Value.bool hb132)) ?_
                    refine LE.p (v := (Value.bool false)) (Wn.yes 7 88 false rfl rfl rfl (congrArg Value.bool hb127)) rfl (R.pickF (congrArg Value.bool hb132) rfl) ?_
                    refine LE.p (v := (Value.bool false)) (Wn.no rfl) rfl (R.pickF (congrArg Value.bool hb127) rfl) ?_
                    refine LE.p (v := (Value.bool false)) (Wn.no rfl) rfl (R.assign rfl) ?_
                    refine LE.nil ?_
                    exact ⟨_, h, rfl⟩
              · rintro e137 w138 ⟨x122, h, f139⟩
                subst hJ121
                refine WE.ret ?_
                exact ⟨_, (Res.tmp f139 Res.nil), _, rfl, h⟩
/-- The formula of signpost.signpostkeep.Next. -/
def F32 (p0 : Int) (K : Int → World → Prop) (w0 : World) : Prop :=
K (bOr .u32 (3221225984 : Int) (Int.tmod p0 (6 : Int))) w0
theorem F32_ok {w0 : World} {p0 : Int} {K : Int → World → Prop} (h : F32 p0 K w0) : Calls Try.prog 32 #[(Value.int .u32 p0)] w0 (R32 K) := by
  refine calls_of_WE (args := [(Value.int .u32 p0)]) (rs := [.tmp 2]) Try.func32 rfl (N := 6) rfl rfl rfl rfl ?_
  refine WE.seq ?_
  refine WE.reg ?_
  refine LE.p (v := (Value.int .u32 (0 : Int))) (Wn.no rfl) rfl (R.assign rfl) ?_
  refine LE.nil ?_
  refine WE.seq ?_
  refine WE.reg ?_
  refine LE.p (v := (Value.int .u32 p0)) (Wn.no rfl) rfl (R.move rfl) ?_
  refine LE.p (v := (Value.int .u32 (Int.tmod p0 (6 : Int)))) (Wn.no rfl) rfl (R.rem rfl rfl (by decide)) ?_
  refine LE.p (v := (Value.int .u32 (bOr .u32 (3221225984 : Int) (Int.tmod p0 (6 : Int))))) (Wn.no rfl) rfl (R.or rfl rfl) ?_
  refine LE.p (v := (Value.int .u32 (bOr .u32 (3221225984 : Int) (Int.tmod p0 (6 : Int))))) (Wn.no rfl) rfl (R.assign rfl) ?_
  refine LE.nil ?_
  refine WE.ret ?_
  exact ⟨_, (Res.tmp rfl Res.nil), _, rfl, h⟩
/-- The formula of signpost.signpostref7.Put. -/
def F33 (p0 : SV) (p1 : Int) (K : SV → World → Prop) (w0 : World) : Prop :=
M.loop1 (fun (J2 : Int → World → Prop) (x1 : Int) (w3 : World) => 
M.join (fun (x14 : Bool) (w23 : World) => 
M.ite x14 (
J2 (IntKind.i64.wrap (x1 + (1 : Int))) w23) (
M.join (fun (x30 : Bool) (w39 : World) => 
M.ite x30 (
K p0 w39) (
M.join (fun (x46 : SV) (w99 : World) => 
K x46 w99) fun J45 => 
M.drew w39 fun w47 => 
M.bnd (0 : Int) x1 p0 <|
M.bnd x1 (p0.len : Int) p0 <|
M.both (
M.new (.cells #[] 28) w47 fun b58 w56 =>
M.both (
M.app Try.prog 30 30 30 (SV.mk (some b58) 0 0) (SV.v (SV.sub p0 (Int.toNat (0 : Int)) (Int.toNat x1) 1)) w56 fun s59 w60 =>
M.new (.cells #[(Value.int .u32 p1)] 28) w60 fun b64 w62 =>
M.app Try.prog 30 30 30 s59 (SV.v (SV.mk (some b64) 1 1)) w62 fun s65 w66 =>
M.app Try.prog 30 30 30 s65 (SV.v (SV.sub p0 (Int.toNat x1) (Int.toNat (p0.len : Int)) 1)) w66 fun s68 w69 =>
J45 s68 w69) (
M.new (.cells #[(Value.int .u32 p1)] 28) w56 fun b73 w71 =>
M.app Try.prog 30 30 30 (SV.mk (some b58) 0 0) (SV.v (SV.sub p0 (Int.toNat (0 : Int)) (Int.toNat x1) 1)) w71 fun s74 w75 =>
M.app Try.prog 30 30 30 s74 (SV.v (SV.mk (some b73) 1 1)) w75 fun s77 w78 =>
M.app Try.prog 30 30 30 s77 (SV.v (SV.sub p0 (Int.toNat x1) (Int.toNat (p0.len : Int)) 1)) w78 fun s80 w81 =>
J45 s80 w81)) (
M.new (.cells #[(Value.int .u32 p1)] 28) w47 fun b85 w83 =>
M.new (.cells #[] 28) w83 fun b88 w86 =>
M.app Try.prog 30 30 30 (SV.mk (some b88) 0 0) (SV.v (SV.sub p0 (Int.toNat (0 : Int)) (Int.toNat x1) 1)) w86 fun s89 w90 =>
M.app Try.prog 30 30 30 s89 (SV.v (SV.mk (some b85) 1 1)) w90 fun s92 w93 =>
M.app Try.prog 30 30 30 s92 (SV.v (SV.sub p0 (Int.toNat x1) (Int.toNat (p0.len : Int)) 1)) w93 fun s95 w96 =>
J45 s95 w96))) fun J29 => 
M.ite (decide (x1 < (p0.len : Int))) (
M.idx p0 x1 1 fun a32 =>
M.ld (Value.int .u32) (a32.add (x1.toNat * 1)) w23 fun t36 =>
J29 (t36 == p1) w23) (
J29 false w23))) fun J13 => 
M.ite (decide (x1 < (p0.len : Int))) (
M.idx p0 x1 1 fun a16 =>
M.ld (Value.int .u32) (a16.add (x1.toNat * 1)) w3 fun t20 =>
J13 (decide (t20 < p1)) w3) (
J13 false w3)) (0 : Int) w0
theorem F33_ok {w0 : World} {p0 : SV} {p1 : Int} {K : SV → World → Prop} (h : F33 p0 p1 K w0) : Calls Try.prog 33 #[(SV.v p0), (Value.int .u32 p1)] w0 (R33 K) := by
  refine calls_of_WE (args := [(SV.v p0), (Value.int .u32 p1)]) (rs := [.tmp 4]) Try.func33 rfl (N := 45) rfl rfl rfl rfl ?_
  refine WE.seq ?_
  refine WE.reg ?_
  refine LE.p (v := (SV.v SV.nil)) (Wn.no rfl) rfl (R.assign rfl) ?_
  refine LE.nil ?_
  refine WE.seq ?_
  refine WE.reg ?_
  refine LE.p (v := (Value.int .i64 (0 : Int))) (Wn.no rfl) rfl (R.assign rfl) ?_
  refine LE.nil ?_
  refine WE.seq ?_
  refine WE.block ?_
  obtain ⟨I6, ⟨n5, h⟩, hr7⟩ := h
  refine WE.loop (fun n e w => ∃ (x1 : Int), I6 n x1 w ∧ e 0 = (SV.v p0) ∧ e 1 = (Value.int .u32 p1) ∧ e 5 = (Value.int .i64 x1)) n5 ⟨_, h, rfl, rfl, rfl⟩ ?_
  clear h
  rintro n5 e4 w3 ⟨x1, h, f10, f11, f12⟩
  replace h := hr7 n5 x1 w3 h
  refine WE.seq ?_
  refine WE.seq ?_
  obtain ⟨J13, hJ13, h⟩ := M.join_use h
  refine WE.regJ (fun e w => ∃ (x14 : Bool), J13 x14 w ∧ e 0 = (SV.v p0) ∧ e 1 = (Value.int .u32 p1) ∧ e 5 = (Value.int .i64 x1) ∧ e 17 = (Value.bool x14)) ?_ ?_
  · clear hJ13
    refine LE.p (v := (Value.int .i64 x1)) (Wn.no rfl) rfl (R.move f12) ?_
    refine LE.p (v := (SV.v p0)) (Wn.no rfl) rfl (R.move f10) ?_
    refine LE.p (v := (Value.int .i64 (p0.len : Int))) (Wn.no rfl) rfl (R.len sl30 rfl) ?_
    refine LE.p (v := (Value.bool (decide (x1 < (p0.len : Int))))) (Wn.no rfl) rfl (R.lss rfl rfl) ?_
    refine LE.p (v := (Value.bool (decide (x1 < (p0.len : Int))))) (Wn.no rfl) rfl (R.move rfl) ?_
    rcases M.ite_use h with ⟨hb15, h⟩ | ⟨hb15, h⟩
    · refine LE.p (v := (SV.v p0)) (Wn.yes 4 10 true rfl rfl rfl (congrArg Value.bool hb15)) rfl (R.move f10) ?_
      refine LE.p (v := (Value.int .i64 x1)) (Wn.yes 4 10 true rfl rfl rfl (congrArg Value.bool hb15)) rfl (R.move f12) ?_
      obtain ⟨a16, h17, h18, h19, h⟩ := h
      refine LE.p (v := (Value.pointer (some (a16.add (x1.toNat * 1))))) (Wn.yes 4 10 true rfl rfl rfl (congrArg Value.bool hb15)) rfl (R.idx (s := p0) sl30 rfl rfl h17 h18 h19) ?_
      obtain ⟨t20, h21, h⟩ := h
      refine LE.r (v := (Value.int .u32 t20)) (Wn.yes 4 10 true rfl rfl rfl (congrArg Value.bool hb15)) rfl (R.ld sc28 rfl h21) ?_
      refine LE.p (v := (Value.int .u32 p1)) (Wn.yes 4 10 true rfl rfl rfl (congrArg Value.bool hb15)) rfl (R.move f11) ?_
      refine LE.p (v := (Value.bool (decide (t20 < p1)))) (Wn.yes 4 10 true rfl rfl rfl (congrArg Value.bool hb15)) rfl (R.lss rfl rfl) ?_
      refine LE.p (v := (Value.bool (decide (t20 < p1)))) (Wn.no rfl) rfl (R.pickT (congrArg Value.bool hb15) rfl) ?_
      refine LE.nil ?_
      exact ⟨_, h, f10, f11, f12, rfl⟩
    · refine LE.u (Un.no 4 10 true rfl rfl rfl (congrArg Value.bool hb15)) ?_
      refine LE.u (Un.no 4 10 true rfl rfl rfl (congrArg Value.bool hb15)) ?_
      refine LE.u (Un.no 4 10 true rfl rfl rfl (congrArg Value.bool hb15)) ?_
      refine LE.u (Un.no 4 10 true rfl rfl rfl (congrArg Value.bool hb15)) ?_
      refine LE.u (Un.no 4 10 true rfl rfl rfl (congrArg Value.bool hb15)) ?_
      refine LE.u (Un.no 4 10 true rfl rfl rfl (congrArg Value.bool hb15)) ?_
      refine LE.p (v := (Value.bool false)) (Wn.no rfl) rfl (R.pickF (congrArg Value.bool hb15) rfl) ?_
      refine LE.nil ?_
      exact ⟨_, h, f10, f11, f12, rfl⟩
  · rintro e22 w23 ⟨x14, h, f24, f25, f26, f27⟩
    subst hJ13
    refine WE.condT rfl (b := x14) f27 ?_ ?_
    · intro hb28
      replace h := M.ite_t h hb28
      refine WE.skip ?_
      refine WE.block ?_
      refine WE.reg ?_
      refine LE.p (v := (Value.int .i64 x1)) (Wn.no rfl) rfl (R.move f26) ?_
      refine LE.p (v := (Value.int .i64 (IntKind.i64.wrap (x1 + (1 : Int))))) (Wn.no rfl) rfl (R.add rfl rfl) ?_
      refine LE.p (v := (Value.int .i64 (IntKind.i64.wrap (x1 + (1 : Int))))) (Wn.no rfl) rfl (R.assign rfl) ?_
      refine LE.nil ?_
      obtain ⟨m8, hm9, h⟩ := h
      exact ⟨m8, hm9, _, h, f24, f25, rfl⟩
    · intro hb28
      replace h := M.ite_f h hb28
      refine WE.exit ?_
      refine WE.seq ?_
      refine WE.seq ?_
      obtain ⟨J29, hJ29, h⟩ := M.join_use h
      refine WE.regJ (fun e w => ∃ (x30 : Bool), J29 x30 w ∧ e 0 = (SV.v p0) ∧ e 1 = (Value.int .u32 p1) ∧ e 5 = (Value.int .i64 x1) ∧ e 31 = (Value.bool x30)) ?_ ?_
      · clear hJ29
        refine LE.p (v := (Value.int .i64 x1)) (Wn.no rfl) rfl (R.move f26) ?_
        refine LE.p (v := (SV.v p0)) (Wn.no rfl) rfl (R.move f24) ?_
        refine LE.p (v := (Value.int .i64 (p0.len : Int))) (Wn.no rfl) rfl (R.len sl30 rfl) ?_
        refine LE.p (v := (Value.bool (decide (x1 < (p0.len : Int))))) (Wn.no rfl) rfl (R.lss rfl rfl) ?_
        refine LE.p (v := (Value.bool (decide (x1 < (p0.len : Int))))) (Wn.no rfl) rfl (R.move rfl) ?_
        rcases M.ite_use h with ⟨hb31, h⟩ | ⟨hb31, h⟩
        · refine LE.p (v := (SV.v p0)) (Wn.yes 4 24 true rfl rfl rfl (congrArg Value.bool hb31)) rfl (R.move f24) ?_
          refine LE.p (v := (Value.int .i64 x1)) (Wn.yes 4 24 true rfl rfl rfl (congrArg Value.bool hb31)) rfl (R.move f26) ?_
          obtain ⟨a32, h33, h34, h35, h⟩ := h
          refine LE.p (v := (Value.pointer (some (a32.add (x1.toNat * 1))))) (Wn.yes 4 24 true rfl rfl rfl (congrArg Value.bool hb31)) rfl (R.idx (s := p0) sl30 rfl rfl h33 h34 h35) ?_
          obtain ⟨t36, h37, h⟩ := h
          refine LE.r (v := (Value.int .u32 t36)) (Wn.yes 4 24 true rfl rfl rfl (congrArg Value.bool hb31)) rfl (R.ld sc28 rfl h37) ?_
          refine LE.p (v := (Value.int .u32 p1)) (Wn.yes 4 24 true rfl rfl rfl (congrArg Value.bool hb31)) rfl (R.move f25) ?_
          refine LE.p (v := (Value.bool (t36 == p1))) (Wn.yes 4 24 true rfl rfl rfl (congrArg Value.bool hb31)) rfl (R.eql rfl rfl) ?_
          refine LE.p (v := (Value.bool (t36 == p1))) (Wn.no rfl) rfl (R.pickT (congrArg Value.bool hb31) rfl) ?_
          refine LE.nil ?_
          exact ⟨_, h, f24, f25, f26, rfl⟩
        · refine LE.u (Un.no 4 24 true rfl rfl rfl (congrArg Value.bool hb31)) ?_
          refine LE.u (Un.no 4 24 true rfl rfl rfl (congrArg Value.bool hb31)) ?_
          refine LE.u (Un.no 4 24 true rfl rfl rfl (congrArg Value.bool hb31)) ?_
          refine LE.u (Un.no 4 24 true rfl rfl rfl (congrArg Value.bool hb31)) ?_
          refine LE.u (Un.no 4 24 true rfl rfl rfl (congrArg Value.bool hb31)) ?_
          refine LE.u (Un.no 4 24 true rfl rfl rfl (congrArg Value.bool hb31)) ?_
          refine LE.p (v := (Value.bool false)) (Wn.no rfl) rfl (R.pickF (congrArg Value.bool hb31) rfl) ?_
          refine LE.nil ?_
          exact ⟨_, h, f24, f25, f26, rfl⟩
      · rintro e38 w39 ⟨x30, h, f40, f41, f42, f43⟩
        subst hJ29
        refine WE.condT rfl (b := x30) f43 ?_ ?_
        · intro hb44
          replace h := M.ite_t h hb44
          refine WE.seq ?_
          refine WE.reg ?_
          refine LE.p (v := (SV.v p0)) (Wn.no rfl) rfl (R.move f40) ?_
          refine LE.p (v := (SV.v p0)) (Wn.no rfl) rfl (R.assign rfl) ?_
          refine LE.nil ?_
          refine WE.ret ?_
          exact ⟨_, (Res.tmp rfl Res.nil), _, rfl, h⟩
        · intro hb44
          replace h := M.ite_f h hb44
          refine WE.skip ?_
          refine WE.seq ?_
          obtain ⟨J45, hJ45, h⟩ := M.join_use h
          refine WE.drawJ (fun e w => ∃ (x46 : SV), J45 x46 w ∧ e 4 = (SV.v x46)) mix ?_ ?_
          · clear hJ45
            obtain ⟨w47, hww47, h⟩ := M.drew_use h
            rw [← hww47]
            clear hww47
            refine DE.t 1 (v := (SV.v p0)) rfl (by kernel_rfl) (Wn.no rfl) rfl (R.move f40) ?_
            refine DE.t 2 (v := (Value.int .i64 x1)) rfl (by kernel_rfl) (Wn.no rfl) rfl (R.move f42) ?_
            obtain ⟨h48, h49, h50, h⟩ := h
            refine DE.t 3 (v := (SV.v (SV.sub p0 (Int.toNat (0 : Int)) (Int.toNat x1) 1))) rfl (by kernel_rfl) (Wn.no rfl) rfl (R.slc (s := p0) (lo := (0 : Int)) (hi := x1) _ _ sl30 rfl rfl rfl h48 h49 h50) ?_
            refine DE.t 5 (v := (Value.int .u32 p1)) rfl (by kernel_rfl) (Wn.no rfl) rfl (R.move f41) ?_
            refine DE.t 8 (v := (SV.v p0)) rfl (by kernel_rfl) (Wn.no rfl) rfl (R.move f40) ?_
            refine DE.t 9 (v := (Value.int .i64 x1)) rfl (by kernel_rfl) (Wn.no rfl) rfl (R.move f42) ?_
            obtain ⟨h52, h53, h54, h⟩ := h
            refine DE.t 10 (v := (SV.v (SV.sub p0 (Int.toNat x1) (Int.toNat (p0.len : Int)) 1))) rfl (by kernel_rfl) (Wn.no rfl) rfl (R.slc (s := p0) (lo := x1) (hi := (p0.len : Int)) _ _ sl30 rfl rfl rfl h52 h53 h54) ?_
            refine DE.main2 0 6 (by kernel_rfl) ?_ ?_
            · replace h := h.1
              obtain ⟨b58, hpb58, w56, hww56, h⟩ := M.new_use h
              refine One.r 0 (v := (SV.v (SV.mk (some b58) 0 0))) rfl (Wn.no rfl) rfl (R.bsl (by exact Ls.nil) (fun w => bs30_0  w) hpb58 hww56) (.inr trivial) ?_
              refine DE.main2 4 6 (by kernel_rfl) ?_ ?_
              · replace h := h.1
                obtain ⟨s59, w60, h61, h⟩ := h
                refine One.r 4 (v := (SV.v s59)) rfl (Wn.no rfl) rfl (R.app (s := (SV.mk (some b58) 0 0)) (r := s59) rfl rfl h61) (.inr trivial) ?_
                obtain ⟨b64, hpb64, w62, hww62, h⟩ := M.new_use h
                refine DE.main 6 (by kernel_rfl) ?_
                refine One.r 6 (v := (SV.v (SV.mk (some b64) 1 1))) rfl (Wn.no rfl) rfl (R.bsl (by exact (Ls.cons (R.Pr rfl) Ls.nil)) (fun w => bs30_1 p1 w) hpb64 hww62) (.inr trivial) ?_
                obtain ⟨s65, w66, h67, h⟩ := h
                refine DE.main 7 (by kernel_rfl) ?_
                refine One.r 7 (v := (SV.v s65)) rfl (Wn.no rfl) rfl (R.app (s := s59) (r := s65) rfl rfl h67) (.inr trivial) ?_
                obtain ⟨s68, w69, h70, h⟩ := h
                refine DE.main 11 (by kernel_rfl) ?_
                refine One.r 11 (v := (SV.v s68)) rfl (Wn.no rfl) rfl (R.app (s := s65) (r := s68) rfl rfl h70) (.inr trivial) ?_
                refine DE.t 12 (v := (SV.v s68)) rfl (by kernel_rfl) (Wn.no rfl) rfl (R.assign rfl) ?_
                refine DE.done (by kernel_rfl) ?_
                exact ⟨_, h, rfl⟩
              · replace h := h.2
                obtain ⟨b73, hpb73, w71, hww71, h⟩ := M.new_use h
                refine One.r 6 (v := (SV.v (SV.mk (some b73) 1 1))) rfl (Wn.no rfl) rfl (R.bsl (by exact (Ls.cons (R.Pr rfl) Ls.nil)) (fun w => bs30_1 p1 w) hpb73 hww71) (.inr trivial) ?_
                obtain ⟨s74, w75, h76, h⟩ := h
                refine DE.main 4 (by kernel_rfl) ?_
                refine One.r 4 (v := (SV.v s74)) rfl (Wn.no rfl) rfl (R.app (s := (SV.mk (some b58) 0 0)) (r := s74) rfl rfl h76) (.inr trivial) ?_
                obtain ⟨s77, w78, h79, h⟩ := h
                refine DE.main 7 (by kernel_rfl) ?_
                refine One.r 7 (v := (SV.v s77)) rfl (Wn.no rfl) rfl (R.app (s := s74) (r := s77) rfl rfl h79) (.inr trivial) ?_
                obtain ⟨s80, w81, h82, h⟩ := h
                refine DE.main 11 (by kernel_rfl) ?_
                refine One.r 11 (v := (SV.v s80)) rfl (Wn.no rfl) rfl (R.app (s := s77) (r := s80) rfl rfl h82) (.inr trivial) ?_
                refine DE.t 12 (v := (SV.v s80)) rfl (by kernel_rfl) (Wn.no rfl) rfl (R.assign rfl) ?_
                refine DE.done (by kernel_rfl) ?_
                exact ⟨_, h, rfl⟩
            · replace h := h.2
              obtain ⟨b85, hpb85, w83, hww83, h⟩ := M.new_use h
              refine One.r 6 (v := (SV.v (SV.mk (some b85) 1 1))) rfl (Wn.no rfl) rfl (R.bsl (by exact (Ls.cons (R.Pr rfl) Ls.nil)) (fun w => bs30_1 p1 w) hpb85 hww83) (.inr trivial) ?_
              obtain ⟨b88, hpb88, w86, hww86, h⟩ := M.new_use h
              refine DE.main 0 (by kernel_rfl) ?_
              refine One.r 0 (v := (SV.v (SV.mk (some b88) 0 0))) rfl (Wn.no rfl) rfl (R.bsl (by exact Ls.nil) (fun w => bs30_0  w) hpb88 hww86) (.inr trivial) ?_
              obtain ⟨s89, w90, h91, h⟩ := h
              refine DE.main 4 (by kernel_rfl) ?_
              refine One.r 4 (v := (SV.v s89)) rfl (Wn.no rfl) rfl (R.app (s := (SV.mk (some b88) 0 0)) (r := s89) rfl rfl h91) (.inr trivial) ?_
              obtain ⟨s92, w93, h94, h⟩ := h
              refine DE.main 7 (by kernel_rfl) ?_
              refine One.r 7 (v := (SV.v s92)) rfl (Wn.no rfl) rfl (R.app (s := s89) (r := s92) rfl rfl h94) (.inr trivial) ?_
              obtain ⟨s95, w96, h97, h⟩ := h
              refine DE.main 11 (by kernel_rfl) ?_
              refine One.r 11 (v := (SV.v s95)) rfl (Wn.no rfl) rfl (R.app (s := s92) (r := s95) rfl rfl h97) (.inr trivial) ?_
              refine DE.t 12 (v := (SV.v s95)) rfl (by kernel_rfl) (Wn.no rfl) rfl (R.assign rfl) ?_
              refine DE.done (by kernel_rfl) ?_
              exact ⟨_, h, rfl⟩
          · rintro e98 w99 ⟨x46, h, f100⟩
            subst hJ45
            refine WE.ret ?_
            exact ⟨_, (Res.tmp f100 Res.nil), _, rfl, h⟩
end Go.Proofs.Ytmgigplbclkpaaa
