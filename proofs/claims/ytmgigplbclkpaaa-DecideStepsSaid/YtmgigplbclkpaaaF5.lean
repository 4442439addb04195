/-
  Printed by gen.py: the formula of each function, and that it holds of the function.
-/
import Derived.Test.YtmgigplbclkpaaaTy
namespace Go.Proofs.Ytmgigplbclkpaaa
set_option linter.unusedVariables false
set_option linter.unusedSimpArgs false
open Go.Sp
set_option linter.unusedVariables false
set_option maxHeartbeats 4000000
/-- The formula of signpost.signpostlaw17.DecideSteps. -/
def F7 (p0 : SV) (K : Bool → World → Prop) (w0 : World) : Prop :=
Calls Try.prog 10 #[(SV.v p0), (Value.bool true)] w0 (R10 fun r1 w2 =>
M.loop1 (fun (J4 : Int → World → Prop) (x3 : Int) (w5 : World) => 
M.ite (decide (x3 ≤ (6 : Int))) (
Calls Try.prog 12 #[(SV.v r1), (Value.int .i64 x3)] w5 (R12 fun r15 w16 =>
M.loop1 (fun (J18 : Int → World → Prop) (x17 : Int) (w19 : World) => 
M.ite (decide (x17 < (r15.len : Int))) (
M.loop1 (fun (J32 : Int → World → Prop) (x31 : Int) (w33 : World) => 
M.ite (decide (x31 < x17)) (
M.join (fun (x47 : Addr) (x48 : Addr) (w137 : World) => 
M.join (fun (x146 : Bool) (w262 : World) => 
M.ite x146 (
K false w262) (
J32 (IntKind.i64.wrap (x31 + (1 : Int))) w262)) fun J145 => 
M.drew w137 fun w147 => 
∃ (t148 : Int) (t149 : SV) (t150 : Int) (t151 : Bool) (t152 : Int) (t153 : Bool) (t154 : Int) (t155 : Bool) (t156 : SV), Cs w147 (x47.add 4) 0 [(Value.int .i64 t148), (SV.v t149), (Value.int .u32 t150), (Value.bool t151), (Value.int .u32 t152), (Value.bool t153), (Value.int .u32 t154), (Value.bool t155), (SV.v t156)] ∧
∃ (t158 : Int) (t159 : SV) (t160 : Int) (t161 : Bool) (t162 : Int) (t163 : Bool) (t164 : Int) (t165 : Bool) (t166 : SV), Cs w147 (x48.add 4) 0 [(Value.int .i64 t158), (SV.v t159), (Value.int .u32 t160), (Value.bool t161), (Value.int .u32 t162), (Value.bool t163), (Value.int .u32 t164), (Value.bool t165), (SV.v t166)] ∧
Calls Try.prog 15 #[(Value.agg #[(Value.int .i64 t148), (SV.v t149), (Value.int .u32 t150), (Value.bool t151), (Value.int .u32 t152), (Value.bool t153), (Value.int .u32 t154), (Value.bool t155), (SV.v t156)])] w147 (R15 fun r168 w169 =>
M.keep (Cs w169 (x48.add 4) 0 [(Value.int .i64 t158), (SV.v t159), (Value.int .u32 t160), (Value.bool t161), (Value.int .u32 t162), (Value.bool t163), (Value.int .u32 t164), (Value.bool t165), (SV.v t166)]) <|
Calls Try.prog 15 #[(Value.agg #[(Value.int .i64 t158), (SV.v t159), (Value.int .u32 t160), (Value.bool t161), (Value.int .u32 t162), (Value.bool t163), (Value.int .u32 t164), (Value.bool t165), (SV.v t166)])] w169 (R15 fun r171 w172 =>
M.ite (r168 != r171) (
J145 true w172) (
M.ite (decide ((2 : Int) ≤ x3)) (
M.ld SV.v ((x47.add 4).add 1) w172 fun t175 =>
M.ld SV.v ((x48.add 4).add 1) w172 fun t177 =>
Calls Try.prog 16 #[(SV.v t175)] w172 (R16 fun r179 w180 =>
M.keep (w180.cell? ((x48.add 4).add 1) = some (SV.v t177)) <|
Calls Try.prog 16 #[(SV.v t177)] w180 (R16 fun r182 w183 =>
M.ite (r179 != r182) (
J145 true w183) (
M.ite (decide ((3 : Int) ≤ x3)) (
M.ld (Value.int .i64) (x47.add 4) w183 fun t186 =>
M.ld (Value.int .i64) (x48.add 4) w183 fun t188 =>
M.ite (t186 != t188) (
J145 true w183) (
M.ite (decide ((5 : Int) ≤ x3)) (
M.ld Value.bool (x47.add 3) w183 fun t192 =>
M.ld Value.bool (x48.add 3) w183 fun t194 =>
M.ite (!(t192 == t194)) (
J145 true w183) (
M.ite (decide ((6 : Int) ≤ x3)) (
M.ld (Value.float .f64) (x47.add 13) w183 fun t198 =>
M.ld (Value.float .f64) (x48.add 13) w183 fun t200 =>
J145 (fNeq t198 t200) w183) (
J145 false w183))) (
M.ite (decide ((6 : Int) ≤ x3)) (
M.ld (Value.float .f64) (x47.add 13) w183 fun t203 =>
M.ld (Value.float .f64) (x48.add 13) w183 fun t205 =>
J145 (fNeq t203 t205) w183) (
J145 false w183)))) (
M.ite (decide ((5 : Int) ≤ x3)) (
M.ld Value.bool (x47.add 3) w183 fun t208 =>
M.ld Value.bool (x48.add 3) w183 fun t210 =>
M.ite (!(t208 == t210)) (
J145 true w183) (
M.ite (decide ((6 : Int) ≤ x3)) (
M.ld (Value.float .f64) (x47.add 13) w183 fun t214 =>
M.ld (Value.float .f64) (x48.add 13) w183 fun t216 =>
J145 (fNeq t214 t216) w183) (
J145 false w183))) (
M.ite (decide ((6 : Int) ≤ x3)) (
M.ld (Value.float .f64) (x47.add 13) w183 fun t219 =>
M.ld (Value.float .f64) (x48.add 13) w183 fun t221 =>
J145 (fNeq t219 t221) w183) (
J145 false w183))))))) (
M.ite (decide ((3 : Int) ≤ x3)) (
M.ld (Value.int .i64) (x47.add 4) w172 fun t224 =>
M.ld (Value.int .i64) (x48.add 4) w172 fun t226 =>
M.ite (t224 != t226) (
J145 true w172) (
M.ite (decide ((5 : Int) ≤ x3)) (
M.ld Value.bool (x47.add 3) w172 fun t230 =>
M.ld Value.bool (x48.add 3) w172 fun t232 =>
M.ite (!(t230 == t232)) (
J145 true w172) (
M.ite (decide ((6 : Int) ≤ x3)) (
M.ld (Value.float .f64) (x47.add 13) w172 fun t236 =>
M.ld (Value.float .f64) (x48.add 13) w172 fun t238 =>
J145 (fNeq t236 t238) w172) (
J145 false w172))) (
M.ite (decide ((6 : Int) ≤ x3)) (
M.ld (Value.float .f64) (x47.add 13) w172 fun t241 =>
M.ld (Value.float .f64) (x48.add 13) w172 fun t243 =>
J145 (fNeq t241 t243) w172) (
J145 false w172)))) (
M.ite (decide ((5 : Int) ≤ x3)) (
M.ld Value.bool (x47.add 3) w172 fun t246 =>
M.ld Value.bool (x48.add 3) w172 fun t248 =>
M.ite (!(t246 == t248)) (
J145 true w172) (
M.ite (decide ((6 : Int) ≤ x3)) (
M.ld (Value.float .f64) (x47.add 13) w172 fun t252 =>
M.ld (Value.float .f64) (x48.add 13) w172 fun t254 =>
J145 (fNeq t252 t254) w172) (
J145 false w172))) (
M.ite (decide ((6 : Int) ≤ x3)) (
M.ld (Value.float .f64) (x47.add 13) w172 fun t257 =>
M.ld (Value.float .f64) (x48.add 13) w172 fun t259 =>
J145 (fNeq t257 t259) w172) (
J145 false w172)))))))) fun J46 => 
M.drew w33 fun w49 => 
M.idx r15 x17 1 fun a50 =>
M.idx r15 x31 1 fun a54 =>
M.ld (Value.int .i64) (a50.add (x17.toNat * 1)) w49 fun t58 =>
M.idx r1 t58 14 fun a60 =>
∃ (t64 : Int) (t65 : Int) (t66 : Int) (t67 : Bool) (t68 : Int) (t69 : SV) (t70 : Int) (t71 : Bool) (t72 : Int) (t73 : Bool) (t74 : Int) (t75 : Bool) (t76 : SV) (t77 : Nat), Cs w49 (a60.add (t58.toNat * 14)) 0 [(Value.int .i64 t64), (Value.int .u32 t65), (Value.int .u32 t66), (Value.bool t67), (Value.int .i64 t68), (SV.v t69), (Value.int .u32 t70), (Value.bool t71), (Value.int .u32 t72), (Value.bool t73), (Value.int .u32 t74), (Value.bool t75), (SV.v t76), (Value.float .f64 t77)] ∧
M.ld (Value.int .i64) (a54.add (x31.toNat * 1)) w49 fun t79 =>
M.idx r1 t79 14 fun a81 =>
∃ (t85 : Int) (t86 : Int) (t87 : Int) (t88 : Bool) (t89 : Int) (t90 : SV) (t91 : Int) (t92 : Bool) (t93 : Int) (t94 : Bool) (t95 : Int) (t96 : Bool) (t97 : SV) (t98 : Nat), Cs w49 (a81.add (t79.toNat * 14)) 0 [(Value.int .i64 t85), (Value.int .u32 t86), (Value.int .u32 t87), (Value.bool t88), (Value.int .i64 t89), (SV.v t90), (Value.int .u32 t91), (Value.bool t92), (Value.int .u32 t93), (Value.bool t94), (Value.int .u32 t95), (Value.bool t96), (SV.v t97), (Value.float .f64 t98)] ∧
M.both (
M.new (.cells #[(Value.int .i64 (0 : Int)), (Value.int .u32 (0 : Int)), (Value.int .u32 (0 : Int)), (Value.bool false), (Value.int .i64 (0 : Int)), (SV.v SV.nil), (Value.int .u32 (0 : Int)), (Value.bool false), (Value.int .u32 (0 : Int)), (Value.bool false), (Value.int .u32 (0 : Int)), (Value.bool false), (SV.v SV.nil), (Value.float .f64 (0 : Nat))] 37) w49 fun b101 w100 =>
M.keep (Cs w100 (a81.add (t79.toNat * 14)) 0 [(Value.int .i64 t85), (Value.int .u32 t86), (Value.int .u32 t87), (Value.bool t88), (Value.int .i64 t89), (SV.v t90), (Value.int .u32 t91), (Value.bool t92), (Value.int .u32 t93), (Value.bool t94), (Value.int .u32 t95), (Value.bool t96), (SV.v t97), (Value.float .f64 t98)]) <|
M.keep (w100.cell? (a54.add (x31.toNat * 1)) = some (Value.int .i64 t79)) <|
M.keep (Cs w100 (a60.add (t58.toNat * 14)) 0 [(Value.int .i64 t64), (Value.int .u32 t65), (Value.int .u32 t66), (Value.bool t67), (Value.int .i64 t68), (SV.v t69), (Value.int .u32 t70), (Value.bool t71), (Value.int .u32 t72), (Value.bool t73), (Value.int .u32 t74), (Value.bool t75), (SV.v t76), (Value.float .f64 t77)]) <|
M.keep (w100.cell? (a50.add (x17.toNat * 1)) = some (Value.int .i64 t58)) <|
M.new (.cells #[(Value.int .i64 (0 : Int)), (Value.int .u32 (0 : Int)), (Value.int .u32 (0 : Int)), (Value.bool false), (Value.int .i64 (0 : Int)), (SV.v SV.nil), (Value.int .u32 (0 : Int)), (Value.bool false), (Value.int .u32 (0 : Int)), (Value.bool false), (Value.int .u32 (0 : Int)), (Value.bool false), (SV.v SV.nil), (Value.float .f64 (0 : Nat))] 37) w100 fun b107 w106 =>
M.keep (Cs w106 (a81.add (t79.toNat * 14)) 0 [(Value.int .i64 t85), (Value.int .u32 t86), (Value.int .u32 t87), (Value.bool t88), (Value.int .i64 t89), (SV.v t90), (Value.int .u32 t91), (Value.bool t92), (Value.int .u32 t93), (Value.bool t94), (Value.int .u32 t95), (Value.bool t96), (SV.v t97), (Value.float .f64 t98)]) <|
M.keep (w106.cell? (a54.add (x31.toNat * 1)) = some (Value.int .i64 t79)) <|
M.keep (Cs w106 (a60.add (t58.toNat * 14)) 0 [(Value.int .i64 t64), (Value.int .u32 t65), (Value.int .u32 t66), (Value.bool t67), (Value.int .i64 t68), (SV.v t69), (Value.int .u32 t70), (Value.bool t71), (Value.int .u32 t72), (Value.bool t73), (Value.int .u32 t74), (Value.bool t75), (SV.v t76), (Value.float .f64 t77)]) <|
M.keep (w106.cell? (a50.add (x17.toNat * 1)) = some (Value.int .i64 t58)) <|
M.stA b101 [(Value.int .i64 t64), (Value.int .u32 t65), (Value.int .u32 t66), (Value.bool t67), (Value.int .i64 t68), (SV.v t69), (Value.int .u32 t70), (Value.bool t71), (Value.int .u32 t72), (Value.bool t73), (Value.int .u32 t74), (Value.bool t75), (SV.v t76), (Value.float .f64 t77)] w106 fun w112 =>
M.keep (Cs w112 (a81.add (t79.toNat * 14)) 0 [(Value.int .i64 t85), (Value.int .u32 t86), (Value.int .u32 t87), (Value.bool t88), (Value.int .i64 t89), (SV.v t90), (Value.int .u32 t91), (Value.bool t92), (Value.int .u32 t93), (Value.bool t94), (Value.int .u32 t95), (Value.bool t96), (SV.v t97), (Value.float .f64 t98)]) <|
M.keep (w112.cell? (a54.add (x31.toNat * 1)) = some (Value.int .i64 t79)) <|
M.stA b107 [(Value.int .i64 t85), (Value.int .u32 t86), (Value.int .u32 t87), (Value.bool t88), (Value.int .i64 t89), (SV.v t90), (Value.int .u32 t91), (Value.bool t92), (Value.int .u32 t93), (Value.bool t94), (Value.int .u32 t95), (Value.bool t96), (SV.v t97), (Value.float .f64 t98)] w112 fun w116 =>
J46 b101 b107 w116) (
M.new (.cells #[(Value.int .i64 (0 : Int)), (Value.int .u32 (0 : Int)), (Value.int .u32 (0 : Int)), (Value.bool false), (Value.int .i64 (0 : Int)), (SV.v SV.nil), (Value.int .u32 (0 : Int)), (Value.bool false), (Value.int .u32 (0 : Int)), (Value.bool false), (Value.int .u32 (0 : Int)), (Value.bool false), (SV.v SV.nil), (Value.float .f64 (0 : Nat))] 37) w49 fun b119 w118 =>
M.keep (Cs w118 (a81.add (t79.toNat * 14)) 0 [(Value.int .i64 t85), (Value.int .u32 t86), (Value.int .u32 t87), (Value.bool t88), (Value.int .i64 t89), (SV.v t90), (Value.int .u32 t91), (Value.bool t92), (Value.int .u32 t93), (Value.bool t94), (Value.int .u32 t95), (Value.bool t96), (SV.v t97), (Value.float .f64 t98)]) <|
M.keep (w118.cell? (a54.add (x31.toNat * 1)) = some (Value.int .i64 t79)) <|
M.keep (Cs w118 (a60.add (t58.toNat * 14)) 0 [(Value.int .i64 t64), (Value.int .u32 t65), (Value.int .u32 t66), (Value.bool t67), (Value.int .i64 t68), (SV.v t69), (Value.int .u32 t70), (Value.bool t71), (Value.int .u32 t72), (Value.bool t73), (Value.int .u32 t74), (Value.bool t75), (SV.v t76), (Value.float .f64 t77)]) <|
M.keep (w118.cell? (a50.add (x17.toNat * 1)) = some (Value.int .i64 t58)) <|
M.new (.cells #[(Value.int .i64 (0 : Int)), (Value.int .u32 (0 : Int)), (Value.int .u32 (0 : Int)), (Value.bool false), (Value.int .i64 (0 : Int)), (SV.v SV.nil), (Value.int .u32 (0 : Int)), (Value.bool false), (Value.int .u32 (0 : Int)), (Value.bool false), (Value.int .u32 (0 : Int)), (Value.bool false), (SV.v SV.nil), (Value.float .f64 (0 : Nat))] 37) w118 fun b125 w124 =>
M.keep (Cs w124 (a81.add (t79.toNat * 14)) 0 [(Value.int .i64 t85), (Value.int .u32 t86), (Value.int .u32 t87), (Value.bool t88), (Value.int .i64 t89), (SV.v t90), (Value.int .u32 t91), (Value.bool t92), (Value.int .u32 t93), (Value.bool t94), (Value.int .u32 t95), (Value.bool t96), (SV.v t97), (Value.float .f64 t98)]) <|
M.keep (w124.cell? (a54.add (x31.toNat * 1)) = some (Value.int .i64 t79)) <|
M.keep (Cs w124 (a60.add (t58.toNat * 14)) 0 [(Value.int .i64 t64), (Value.int .u32 t65), (Value.int .u32 t66), (Value.bool t67), (Value.int .i64 t68), (SV.v t69), (Value.int .u32 t70), (Value.bool t71), (Value.int .u32 t72), (Value.bool t73), (Value.int .u32 t74), (Value.bool t75), (SV.v t76), (Value.float .f64 t77)]) <|
M.keep (w124.cell? (a50.add (x17.toNat * 1)) = some (Value.int .i64 t58)) <|
M.stA b125 [(Value.int .i64 t64), (Value.int .u32 t65), (Value.int .u32 t66), (Value.bool t67), (Value.int .i64 t68), (SV.v t69), (Value.int .u32 t70), (Value.bool t71), (Value.int .u32 t72), (Value.bool t73), (Value.int .u32 t74), (Value.bool t75), (SV.v t76), (Value.float .f64 t77)] w124 fun w130 =>
M.keep (Cs w130 (a81.add (t79.toNat * 14)) 0 [(Value.int .i64 t85), (Value.int .u32 t86), (Value.int .u32 t87), (Value.bool t88), (Value.int .i64 t89), (SV.v t90), (Value.int .u32 t91), (Value.bool t92), (Value.int .u32 t93), (Value.bool t94), (Value.int .u32 t95), (Value.bool t96), (SV.v t97), (Value.float .f64 t98)]) <|
M.keep (w130.cell? (a54.add (x31.toNat * 1)) = some (Value.int .i64 t79)) <|
M.stA b119 [(Value.int .i64 t85), (Value.int .u32 t86), (Value.int .u32 t87), (Value.bool t88), (Value.int .i64 t89), (SV.v t90), (Value.int .u32 t91), (Value.bool t92), (Value.int .u32 t93), (Value.bool t94), (Value.int .u32 t95), (Value.bool t96), (SV.v t97), (Value.float .f64 t98)] w130 fun w134 =>
J46 b125 b119 w134)) (
J18 (IntKind.i64.wrap (x17 + (1 : Int))) w33)) (0 : Int) w19) (
J4 (IntKind.i64.wrap (x3 + (1 : Int))) w19)) (0 : Int) w16)) (
Calls Try.prog 11 #[] w5 (R11 fun r270 w271 =>
K r270 w271))) (1 : Int) w2)
theorem F7_ok {w0 : World} {p0 : SV} {K : Bool → World → Prop} (h : F7 p0 K w0) : Calls Try.prog 7 #[(SV.v p0)] w0 (R7 K) := by
  refine calls_of_WE (args := [(SV.v p0)]) (rs := [.tmp 2]) Try.func7 rfl (N := 110) rfl rfl rfl rfl ?_
  refine WE.seq ?_
  refine WE.reg ?_
  refine LE.p (v := (Value.bool false)) (Wn.no rfl) rfl (R.assign rfl) ?_
  refine LE.nil ?_
  refine WE.seq ?_
  refine WE.reg ?_
  refine LE.p (v := (SV.v p0)) (Wn.no rfl) rfl (R.move rfl) ?_
  refine LE.c (Wn.no rfl) rfl (R.call bd10 (Ls.cons rfl (Ls.cons rfl Ls.nil)) rfl) (Calls.mono h ?_)
  rintro _ w2 ⟨r1, rfl, h⟩
  refine ⟨_, rfl, ?_⟩
  refine LE.p (v := (SV.v r1)) (Wn.no rfl) rfl (R.assign rfl) ?_
  refine LE.nil ?_
  refine WE.seq ?_
  refine WE.seq ?_
  refine WE.reg ?_
  refine LE.p (v := (Value.int .i64 (1 : Int))) (Wn.no rfl) rfl (R.assign rfl) ?_
  refine LE.nil ?_
  refine WE.block ?_
  obtain ⟨I8, ⟨n7, h⟩, hr9⟩ := h
  refine WE.loop (fun n e w => ∃ (x3 : Int), I8 n x3 w ∧ e 3 = (SV.v r1) ∧ e 4 = (Value.int .i64 x3)) n7 ⟨_, h, rfl, rfl⟩ ?_
  clear h
  rintro n7 e6 w5 ⟨x3, h, f12, f13⟩
  replace h := hr9 n7 x3 w5 h
  refine WE.seq ?_
  refine WE.seq ?_
  refine WE.reg ?_
  refine LE.p (v := (Value.int .i64 x3)) (Wn.no rfl) rfl (R.move f13) ?_
  refine LE.p (v := (Value.bool (decide (x3 ≤ (6 : Int))))) (Wn.no rfl) rfl (R.leq rfl rfl) ?_
  refine LE.nil ?_
  refine WE.condT rfl (b := (decide (x3 ≤ (6 : Int)))) rfl ?_ ?_
  · intro hb14
    replace h := M.ite_t h hb14
    refine WE.skip ?_
    refine WE.seq ?_
    refine WE.block ?_
    refine WE.seq ?_
    refine WE.reg ?_
    refine LE.p (v := (SV.v r1)) (Wn.no rfl) rfl (R.move f12) ?_
    refine LE.p (v := (Value.int .i64 x3)) (Wn.no rfl) rfl (R.move f13) ?_
    refine LE.c (Wn.no rfl) rfl (R.call bd12 (Ls.cons rfl (Ls.cons rfl Ls.nil)) rfl) (Calls.mono h ?_)
    rintro _ w16 ⟨r15, rfl, h⟩
    refine ⟨_, rfl, ?_⟩
    refine LE.p (v := (SV.v r15)) (Wn.no rfl) rfl (R.assign rfl) ?_
    refine LE.nil ?_
    refine WE.seq ?_
    refine WE.reg ?_
    refine LE.p (v := (Value.int .i64 (0 : Int))) (Wn.no rfl) rfl (R.assign rfl) ?_
    refine LE.nil ?_
    refine WE.block ?_
    obtain ⟨I22, ⟨n21, h⟩, hr23⟩ := h
    refine WE.loop (fun n e w => ∃ (x17 : Int), I22 n x17 w ∧ e 3 = (SV.v r1) ∧ e 4 = (Value.int .i64 x3) ∧ e 5 = (SV.v r15) ∧ e 6 = (Value.int .i64 x17)) n21 ⟨_, h, f12, f13, rfl, rfl⟩ ?_
    clear h
    rintro n21 e20 w19 ⟨x17, h, f26, f27, f28, f29⟩
    replace h := hr23 n21 x17 w19 h
    refine WE.seq ?_
    refine WE.seq ?_
    refine WE.reg ?_
    refine LE.p (v := (Value.int .i64 x17)) (Wn.no rfl) rfl (R.move f29) ?_
    refine LE.p (v := (SV.v r15)) (Wn.no rfl) rfl (R.move f28) ?_
    refine LE.p (v := (Value.int .i64 (r15.len : Int))) (Wn.no rfl) rfl (R.len sl38 rfl) ?_
    refine LE.p (v := (Value.bool (decide (x17 < (r15.len : Int))))) (Wn.no rfl) rfl (R.lss rfl rfl) ?_
    refine LE.nil ?_
    refine WE.condT rfl (b := (decide (x17 < (r15.len : Int)))) rfl ?_ ?_
    · intro hb30
      replace h := M.ite_t h hb30
      refine WE.skip ?_
      refine WE.seq ?_
      refine WE.block ?_
      refine WE.seq ?_
      refine WE.reg ?_
      refine LE.p (v := (Value.int .i64 (0 : Int))) (Wn.no rfl) rfl (R.assign rfl) ?_
      refine LE.nil ?_
      refine WE.block ?_
      obtain ⟨I36, ⟨n35, h⟩, hr37⟩ := h
      refine WE.loop (fun n e w => ∃ (x31 : Int), I36 n x31 w ∧ e 3 = (SV.v r1) ∧ e 4 = (Value.int .i64 x3) ∧ e 5 = (SV.v r15) ∧ e 6 = (Value.int .i64 x17) ∧ e 7 = (Value.int .i64 x31)) n35 ⟨_, h, f26, f27, f28, f29, rfl⟩ ?_
      clear h
      rintro n35 e34 w33 ⟨x31, h, f40, f41, f42, f43, f44⟩
      replace h := hr37 n35 x31 w33 h
      refine WE.seq ?_
      refine WE.seq ?_
      refine WE.reg ?_
      refine LE.p (v := (Value.int .i64 x31)) (Wn.no rfl) rfl (R.move f44) ?_
      refine LE.p (v := (Value.int .i64 x17)) (Wn.no rfl) rfl (R.move f43) ?_
      refine LE.p (v := (Value.bool (decide (x31 < x17)))) (Wn.no rfl) rfl (R.lss rfl rfl) ?_
      refine LE.nil ?_
      refine WE.condT rfl (b := (decide (x31 < x17))) rfl ?_ ?_
      · intro hb45
        replace h := M.ite_t h hb45
        refine WE.skip ?_
        refine WE.seq ?_
        refine WE.block ?_
        refine WE.seq ?_
        obtain ⟨J46, hJ46, h⟩ := M.join_use h
        refine WE.drawJ (fun e w => ∃ (x47 : Addr) (x48 : Addr), J46 x47 x48 w ∧ e 3 = (SV.v r1) ∧ e 4 = (Value.int .i64 x3) ∧ e 5 = (SV.v r15) ∧ e 6 = (Value.int .i64 x17) ∧ e 7 = (Value.int .i64 x31) ∧ e 8 = (Value.pointer (some x47)) ∧ e 9 = (Value.pointer (some x48))) mix ?_ ?_
        · clear hJ46
          obtain ⟨w49, hww49, h⟩ := M.drew_use h
          rw [← hww49]
          clear hww49
          refine DE.t 0 (v := (SV.v r1)) rfl (by decide +kernel) (Wn.no rfl) rfl (R.move f40) ?_
          refine DE.t 1 (v := (SV.v r15)) rfl (by decide +kernel) (Wn.no rfl) rfl (R.move f42) ?_
          refine DE.t 2 (v := (Value.int .i64 x17)) rfl (by decide +kernel) (Wn.no rfl) rfl (R.move f43) ?_
          obtain ⟨a50, h51, h52, h53, h⟩ := h
          refine DE.t 3 (v := (Value.pointer (some (a50.add (x17.toNat * 1))))) rfl (by decide +kernel) (Wn.no rfl) rfl (R.idx (s := r15) sl38 rfl rfl h51 h52 h53) ?_
          refine DE.t 7 (v := (SV.v r1)) rfl (by decide +kernel) (Wn.no rfl) rfl (R.move f40) ?_
          refine DE.t 8 (v := (SV.v r15)) rfl (by decide +kernel) (Wn.no rfl) rfl (R.move f42) ?_
          refine DE.t 9 (v := (Value.int .i64 x31)) rfl (by decide +kernel) (Wn.no rfl) rfl (R.move f44) ?_
          obtain ⟨a54, h55, h56, h57, h⟩ := h
          refine DE.t 10 (v := (Value.pointer (some (a54.add (x31.toNat * 1))))) rfl (by decide +kernel) (Wn.no rfl) rfl (R.idx (s := r15) sl38 rfl rfl h55 h56 h57) ?_
          obtain ⟨t58, h59, h⟩ := h
          refine DE.hold 4 (fun w => w.cell? (a50.add (x17.toNat * 1)) = some (Value.int .i64 t58)) (v := (Value.int .i64 t58)) rfl (by decide +kernel) (Wn.no rfl) rfl h59 (fun w hs => R.ld sc3 rfl hs) ?_
          obtain ⟨a60, h61, h62, h63, h⟩ := h
          refine DE.t 5 (v := (Value.pointer (some (a60.add (t58.toNat * 14))))) rfl (by decide +kernel) (Wn.no rfl) rfl (R.idx (s := r1) sl24 rfl rfl h61 h62 h63) ?_
          obtain ⟨t64, t65, t66, t67, t68, t69, t70, t71, t72, t73, t74, t75, t76, t77, h78, h⟩ := h
          refine DE.hold 6 (fun w => Cs w (a60.add (t58.toNat * 14)) 0 [(Value.int .i64 t64), (Value.int .u32 t65), (Value.int .u32 t66), (Value.bool t67), (Value.int .i64 t68), (SV.v t69), (Value.int .u32 t70), (Value.bool t71), (Value.int .u32 t72), (Value.bool t73), (Value.int .u32 t74), (Value.bool t75), (SV.v t76), (Value.float .f64 t77)]) (v := (Value.agg #[(Value.int .i64 t64), (Value.int .u32 t65), (Value.int .u32 t66), (Value.bool t67), (Value.int .i64 t68), (SV.v t69), (Value.int .u32 t70), (Value.bool t71), (Value.int .u32 t72), (Value.bool t73), (Value.int .u32 t74), (Value.bool t75), (SV.v t76), (Value.float .f64 t77)])) rfl (by decide +kernel) (Wn.no rfl) rfl h78 (fun w hs => R.ldA ag37 sz37 rfl rfl hs) ?_
          obtain ⟨t79, h80, h⟩ := h
          refine DE.hold 11 (fun w => w.cell? (a54.add (x31.toNat * 1)) = some (Value.int .i64 t79)) (v := (Value.int .i64 t79)) rfl (by decide +kernel) (Wn.no rfl) rfl h80 (fun w hs => R.ld sc3 rfl hs) ?_
          obtain ⟨a81, h82, h83, h84, h⟩ := h
          refine DE.t 12 (v := (Value.pointer (some (a81.add (t79.toNat * 14))))) rfl (by decide +kernel) (Wn.no rfl) rfl (R.idx (s := r1) sl24 rfl rfl h82 h83 h84) ?_
          obtain ⟨t85, t86, t87, t88, t89, t90, t91, t92, t93, t94, t95, t96, t97, t98, h99, h⟩ := h
          refine DE.hold 13 (fun w => Cs w (a81.add (t79.toNat * 14)) 0 [(Value.int .i64 t85), (Value.int .u32 t86), (Value.int .u32 t87), (Value.bool t88), (Value.int .i64 t89), (SV.v t90), (Value.int .u32 t91), (Value.bool t92), (Value.int .u32 t93), (Value.bool t94), (Value.int .u32 t95), (Value.bool t96), (SV.v t97), (Value.float .f64 t98)]) (v := (Value.agg #[(Value.int .i64 t85), (Value.int .u32 t86), (Value.int .u32 t87), (Value.bool t88), (Value.int .i64 t89), (SV.v t90), (Value.int .u32 t91), (Value.bool t92), (Value.int .u32 t93), (Value.bool t94), (Value.int .u32 t95), (Value.bool t96), (SV.v t97), (Value.float .f64 t98)])) rfl (by decide +kernel) (Wn.no rfl) rfl h99 (fun w hs => R.ldA ag37 sz37 rfl rfl hs) ?_
          refine DE.main2 14 15 (by decide +kernel) ?_ ?_
          · replace h := h.1
            obtain ⟨b101, hpb101, w100, hww100, h⟩ := M.new_use h
            obtain ⟨k102, h⟩ := h
            obtain ⟨k103, h⟩ := h
            obtain ⟨k104, h⟩ := h
            obtain ⟨k105, h⟩ := h
            refine One.r 14 (v := (Value.pointer (some b101))) rfl (Wn.no rfl) rfl (R.alloc (cs := #[(Value.int .i64 (0 : Int)), (Value.int .u32 (0 : Int)), (Value.int .u32 (0 : Int)), (Value.bool false), (Value.int .i64 (0 : Int)), (SV.v SV.nil), (Value.int .u32 (0 : Int)), (Value.bool false), (Value.int .u32 (0 : Int)), (Value.bool false), (Value.int .u32 (0 : Int)), (Value.bool false), (SV.v SV.nil), (Value.float .f64 (0 : Nat))]) ze37 rfl hpb101 hww100) (.inr ⟨fun _ => k102, fun _ => k103, fun _ => k104, fun _ => k105, trivial⟩) ?_
            obtain ⟨b107, hpb107, w106, hww106, h⟩ := M.new_use h
            obtain ⟨k108, h⟩ := h
            obtain ⟨k109, h⟩ := h
            obtain ⟨k110, h⟩ := h
            obtain ⟨k111, h⟩ := h
            refine DE.main 15 (by decide +kernel) ?_
            refine One.r 15 (v := (Value.pointer (some b107))) rfl (Wn.no rfl) rfl (R.alloc (cs := #[(Value.int .i64 (0 : Int)), (Value.int .u32 (0 : Int)), (Value.int .u32 (0 : Int)), (Value.bool false), (Value.int .i64 (0 : Int)), (SV.v SV.nil), (Value.int .u32 (0 : Int)), (Value.bool false), (Value.int .u32 (0 : Int)), (Value.bool false), (Value.int .u32 (0 : Int)), (Value.bool false), (SV.v SV.nil), (Value.float .f64 (0 : Nat))]) ze37 rfl hpb107 hww106) (.inr ⟨fun _ => k108, fun _ => k109, fun _ => k110, fun _ => k111, trivial⟩) ?_
            obtain ⟨w112, hww112, h113, h⟩ := M.stA_use h
            obtain ⟨k114, h⟩ := h
            obtain ⟨k115, h⟩ := h
            refine DE.main 16 (by decide +kernel) ?_
            refine One.s 16 rfl (Wn.no rfl) rfl (R.stA (a := b101) [(Value.int .i64 t64), (Value.int .u32 t65), (Value.int .u32 t66), (Value.bool t67), (Value.int .i64 t68), (SV.v t69), (Value.int .u32 t70), (Value.bool t71), (Value.int .u32 t72), (Value.bool t73), (Value.int .u32 t74), (Value.bool t75), (SV.v t76), (Value.float .f64 t77)] sz37 rfl rfl rfl (by simp [Value.oneCell']) h113 hww112) ⟨fun _ => k114, fun _ => k115, aftT (by decide +kernel), aftT (by decide +kernel), trivial⟩ ?_
            obtain ⟨w116, hww116, h117, h⟩ := M.stA_use h
            refine DE.main 17 (by decide +kernel) ?_
            refine One.s 17 rfl (Wn.no rfl) rfl (R.stA (a := b107) [(Value.int .i64 t85), (Value.int .u32 t86), (Value.int .u32 t87), (Value.bool t88), (Value.int .i64 t89), (SV.v t90), (Value.int .u32 t91), (Value.bool t92), (Value.int .u32 t93), (Value.bool t94), (Value.int .u32 t95), (Value.bool t96), (SV.v t97), (Value.float .f64 t98)] sz37 rfl rfl rfl (by simp [Value.oneCell']) h117 hww116) ⟨aftT (by decide +kernel), aftT (by decide +kernel), aftT (by decide +kernel), aftT (by decide +kernel), trivial⟩ ?_
            refine DE.done (by decide +kernel) ?_
            exact ⟨_, _, h, f40, f41, f42, f43, f44, rfl, rfl⟩
          · replace h := h.2
            obtain ⟨b119, hpb119, w118, hww118, h⟩ := M.new_use h
            obtain ⟨k120, h⟩ := h
            obtain ⟨k121, h⟩ := h
            obtain ⟨k122, h⟩ := h
            obtain ⟨k123, h⟩ := h
            refine One.r 15 (v := (Value.pointer (some b119))) rfl (Wn.no rfl) rfl (R.alloc (cs := #[(Value.int .i64 (0 : Int)), (Value.int .u32 (0 : Int)), (Value.int .u32 (0 : Int)), (Value.bool false), (Value.int .i64 (0 : Int)), (SV.v SV.nil), (Value.int .u32 (0 : Int)), (Value.bool false), (Value.int .u32 (0 : Int)), (Value.bool false), (Value.int .u32 (0 : Int)), (Value.bool false), (SV.v SV.nil), (Value.float .f64 (0 : Nat))]) ze37 rfl hpb119 hww118) (.inr ⟨fun _ => k120, fun _ => k121, fun _ => k122, fun _ => k123, trivial⟩) ?_
            obtain ⟨b125, hpb125, w124, hww124, h⟩ := M.new_use h
            obtain ⟨k126, h⟩ := h
            obtain ⟨k127, h⟩ := h
            obtain ⟨k128, h⟩ := h
            obtain ⟨k129, h⟩ := h
            refine DE.main 14 (by decide +kernel) ?_
            refine One.r 14 (v := (Value.pointer (some b125))) rfl (Wn.no rfl) rfl (R.alloc (cs := #[(Value.int .i64 (0 : Int)), (Value.int .u32 (0 : Int)), (Value.int .u32 (0 : Int)), (Value.bool false), (Value.int .i64 (0 : Int)), (SV.v SV.nil), (Value.int .u32 (0 : Int)), (Value.bool false), (Value.int .u32 (0 : Int)), (Value.bool false), (Value.int .u32 (0 : Int)), (Value.bool false), (SV.v SV.nil), (Value.float .f64 (0 : Nat))]) ze37 rfl hpb125 hww124) (.inr ⟨fun _ => k126, fun _ => k127, fun _ => k128, fun _ => k129, trivial⟩) ?_
            obtain ⟨w130, hww130, h131, h⟩ := M.stA_use h
            obtain ⟨k132, h⟩ := h
            obtain ⟨k133, h⟩ := h
            refine DE.main 16 (by decide +kernel) ?_
            refine One.s 16 rfl (Wn.no rfl) rfl (R.stA (a := b125) [(Value.int .i64 t64), (Value.int .u32 t65), (Value.int .u32 t66), (Value.bool t67), (Value.int .i64 t68), (SV.v t69), (Value.int .u32 t70), (Value.bool t71), (Value.int .u32 t72), (Value.bool t73), (Value.int .u32 t74), (Value.bool t75), (SV.v t76), (Value.float .f64 t77)] sz37 rfl rfl rfl (by simp [Value.oneCell']) h131 hww130) ⟨fun _ => k132, fun _ => k133, aftT (by decide +kernel), aftT (by decide +kernel), trivial⟩ ?_
            obtain ⟨w134, hww134, h135, h⟩ := M.stA_use h
            refine DE.main 17 (by decide +kernel) ?_
            refine One.s 17 rfl (Wn.no rfl) rfl (R.stA (a := b119) [(Value.int .i64 t85), (Value.int .u32 t86), (Value.int .u32 t87), (Value.bool t88), (Value.int .i64 t89), (SV.v t90), (Value.int .u32 t91), (Value.bool t92), (Value.int .u32 t93), (Value.bool t94), (Value.int .u32 t95), (Value.bool t96), (SV.v t97), (Value.float .f64 t98)] sz37 rfl rfl rfl (by simp [Value.oneCell']) h135 hww134) ⟨aftT (by decide +kernel), aftT (by decide +kernel), aftT (by decide +kernel), aftT (by decide +kernel), trivial⟩ ?_
            refine DE.done (by decide +kernel) ?_
            exact ⟨_, _, h, f40, f41, f42, f43, f44, rfl, rfl⟩
        · rintro e136 w137 ⟨x47, x48, h, f138, f139, f140, f141, f142, f143, f144⟩
          subst hJ46
          refine WE.seq ?_
          obtain ⟨J145, hJ145, h⟩ := M.join_use h
          refine WE.drawJ (fun e w => ∃ (x146 : Bool), J145 x146 w ∧ e 3 = (SV.v r1) ∧ e 4 = (Value.int .i64 x3) ∧ e 5 = (SV.v r15) ∧ e 6 = (Value.int .i64 x17) ∧ e 7 = (Value.int .i64 x31) ∧ e 108 = (Value.bool x146)) mix ?_ ?_
          · clear hJ145
            obtain ⟨w147, hww147, h⟩ := M.drew_use h
            rw [← hww147]
            clear hww147
            refine DE.t 0 (v := (Value.pointer (some x47))) rfl (by decide +kernel) (Wn.no rfl) rfl (R.fld (off := 0) fa37_0 f143) ?_
            refine DE.t 1 (v := (Value.pointer (some (x47.add 4)))) rfl (by decide +kernel) (Wn.no rfl) rfl (R.fld (off := 4) fa34_4 rfl) ?_
            refine DE.t 4 (v := (Value.pointer (some x48))) rfl (by decide +kernel) (Wn.no rfl) rfl (R.fld (off := 0) fa37_0 f144) ?_
            refine DE.t 5 (v := (Value.pointer (some (x48.add 4)))) rfl (by decide +kernel) (Wn.no rfl) rfl (R.fld (off := 4) fa34_4 rfl) ?_
            obtain ⟨t148, t149, t150, t151, t152, t153, t154, t155, t156, h157, h⟩ := h
            refine DE.hold 2 (fun w => Cs w (x47.add 4) 0 [(Value.int .i64 t148), (SV.v t149), (Value.int .u32 t150), (Value.bool t151), (Value.int .u32 t152), (Value.bool t153), (Value.int .u32 t154), (Value.bool t155), (SV.v t156)]) (v := (Value.agg #[(Value.int .i64 t148), (SV.v t149), (Value.int .u32 t150), (Value.bool t151), (Value.int .u32 t152), (Value.bool t153), (Value.int .u32 t154), (Value.bool t155), (SV.v t156)])) rfl (by decide +kernel) (Wn.no rfl) rfl h157 (fun w hs => R.ldA ag32 sz32 rfl rfl hs) ?_
            obtain ⟨t158, t159, t160, t161, t162, t163, t164, t165, t166, h167, h⟩ := h
            refine DE.hold 6 (fun w => Cs w (x48.add 4) 0 [(Value.int .i64 t158), (SV.v t159), (Value.int .u32 t160), (Value.bool t161), (Value.int .u32 t162), (Value.bool t163), (Value.int .u32 t164), (Value.bool t165), (SV.v t166)]) (v := (Value.agg #[(Value.int .i64 t158), (SV.v t159), (Value.int .u32 t160), (Value.bool t161), (Value.int .u32 t162), (Value.bool t163), (Value.int .u32 t164), (Value.bool t165), (SV.v t166)])) rfl (by decide +kernel) (Wn.no rfl) rfl h167 (fun w hs => R.ldA ag32 sz32 rfl rfl hs) ?_
            refine DE.main 3 (by decide +kernel) ?_
            refine One.c 3 rfl (Wn.no rfl) rfl (R.call bd15 (Ls.cons rfl Ls.nil) rfl) (Calls.mono h ?_)
            rintro _ w169 ⟨r168, rfl, h⟩
            obtain ⟨k170, h⟩ := h
            refine ⟨_, rfl, ⟨fun _ => k170, aftT (by decide +kernel), trivial⟩, ?_⟩
            refine DE.main 7 (by decide +kernel) ?_
            refine One.c 7 rfl (Wn.no rfl) rfl (R.call bd15 (Ls.cons rfl Ls.nil) rfl) (Calls.mono h ?_)
            rintro _ w172 ⟨r171, rfl, h⟩
            refine ⟨_, rfl, ⟨aftT (by decide +kernel), aftT (by decide +kernel), trivial⟩, ?_⟩
            refine DE.t 8 (v := (Value.bool (r168 != r171))) rfl (by decide +kernel) (Wn.no rfl) rfl (R.neq rfl rfl) ?_
            refine DE.t 9 (v := (Value.bool (r168 != r171))) rfl (by decide +kernel) (Wn.no rfl) rfl (R.move rfl) ?_
            rcases M.ite_use h with ⟨hb173, h⟩ | ⟨hb173, h⟩
            · refine DE.u 10 rfl (by decide +kernel) (Un.no 9 53 false rfl rfl rfl (congrArg Value.bool hb173)) ?_
              refine DE.u 11 rfl (by decide +kernel) (Un.no 9 53 false rfl rfl rfl (congrArg Value.bool hb173)) ?_
              refine DE.u 12 rfl (by decide +kernel) (Un.no 9 53 false rfl rfl rfl (congrArg Value.bool hb173)) ?_
              refine DE.u 13 rfl (by decide +kernel) (Un.un 12 56 true rfl rfl rfl rfl) ?_
              refine DE.u 14 rfl (by decide +kernel) (Un.un 12 56 true rfl rfl rfl rfl) ?_
              refine DE.u 15 rfl (by decide +kernel) (Un.un 12 56 true rfl rfl rfl rfl) ?_
              refine DE.u 16 rfl (by decide +kernel) (Un.un 12 56 true rfl rfl rfl rfl) ?_
              refine DE.u 17 rfl (by decide +kernel) (Un.un 12 56 true rfl rfl rfl rfl) ?_
              refine DE.u 18 rfl (by decide +kernel) (Un.un 12 56 true rfl rfl rfl rfl) ?_
              refine DE.u 19 rfl (by decide +kernel) (Un.un 12 56 true rfl rfl rfl rfl) ?_
              refine DE.u 20 rfl (by decide +kernel) (Un.un 12 56 true rfl rfl rfl rfl) ?_
              refine DE.u 21 rfl (by decide +kernel) (Un.un 12 56 true rfl rfl rfl rfl) ?_
              refine DE.u 22 rfl (by decide +kernel) (Un.un 12 56 true rfl rfl rfl rfl) ?_
              refine DE.u 23 rfl (by decide +kernel) (Un.un 12 56 true rfl rfl rfl rfl) ?_
              refine DE.u 24 rfl (by decide +kernel) (Un.no 9 53 false rfl rfl rfl (congrArg Value.bool hb173)) ?_
              refine DE.t 25 (v := (Value.bool true)) rfl (by decide +kernel) (Wn.no rfl) rfl (R.pickT (congrArg Value.bool hb173) rfl) ?_
              refine DE.t 26 (v := (Value.bool true)) rfl (by decide +kernel) (Wn.no rfl) rfl (R.move rfl) ?_
              refine DE.u 27 rfl (by decide +kernel) (Un.no 26 70 false rfl rfl rfl rfl) ?_
              refine DE.u 28 rfl (by decide +kernel) (Un.no 26 70 false rfl rfl rfl rfl) ?_
              refine DE.u 29 rfl (by decide +kernel) (Un.no 26 70 false rfl rfl rfl rfl) ?_
              refine DE.u 30 rfl (by decide +kernel) (Un.un 29 73 true rfl rfl rfl rfl) ?_
              refine DE.u 31 rfl (by decide +kernel) (Un.un 29 73 true rfl rfl rfl rfl) ?_
              refine DE.u 32 rfl (by decide +kernel) (Un.un 29 73 true rfl rfl rfl rfl) ?_
              refine DE.u 33 rfl (by decide +kernel) (Un.un 29 73 true rfl rfl rfl rfl) ?_
              refine DE.u 34 rfl (by decide +kernel) (Un.un 29 73 true rfl rfl rfl rfl) ?_
              refine DE.u 35 rfl (by decide +kernel) (Un.un 29 73 true rfl rfl rfl rfl) ?_
              refine DE.u 36 rfl (by decide +kernel) (Un.un 29 73 true rfl rfl rfl rfl) ?_
              refine DE.u 37 rfl (by decide +kernel) (Un.un 29 73 true rfl rfl rfl rfl) ?_
              refine DE.u 38 rfl (by decide +kernel) (Un.un 29 73 true rfl rfl rfl rfl) ?_
              refine DE.u 39 rfl (by decide +kernel) (Un.no 26 70 false rfl rfl rfl rfl) ?_
              refine DE.t 40 (v := (Value.bool true)) rfl (by decide +kernel) (Wn.no rfl) rfl (R.pickT rfl rfl) ?_
              refine DE.t 41 (v := (Value.bool true)) rfl (by decide +kernel) (Wn.no rfl) rfl (R.move rfl) ?_
              refine DE.u 42 rfl (by decide +kernel) (Un.no 41 85 false rfl rfl rfl rfl) ?_
              refine DE.u 43 rfl (by decide +kernel) (Un.no 41 85 false rfl rfl rfl rfl) ?_
              refine DE.u 44 rfl (by decide +kernel) (Un.no 41 85 false rfl rfl rfl rfl) ?_
              refine DE.u 45 rfl (by decide +kernel) (Un.un 44 88 true rfl rfl rfl rfl) ?_
              refine DE.u 46 rfl (by decide +kernel) (Un.un 44 88 true rfl rfl rfl rfl) ?_
              refine DE.u 47 rfl (by decide +kernel) (Un.un 44 88 true rfl rfl rfl rfl) ?_
              refine DE.u 48 rfl (by decide +kernel) (Un.un 44 88 true rfl rfl rfl rfl) ?_
              refine DE.u 49 rfl (by decide +kernel) (Un.un 44 88 true rfl rfl rfl rfl) ?_
              refine DE.u 50 rfl (by decide +kernel) (Un.un 44 88 true rfl rfl rfl rfl) ?_
              refine DE.u 51 rfl (by decide +kernel) (Un.un 44 88 true rfl rfl rfl rfl) ?_
              refine DE.u 52 rfl (by decide +kernel) (Un.no 41 85 false rfl rfl rfl rfl) ?_
              refine DE.t 53 (v := (Value.bool true)) rfl (by decide +kernel) (Wn.no rfl) rfl (R.pickT rfl rfl) ?_
              refine DE.t 54 (v := (Value.bool true)) rfl (by decide +kernel) (Wn.no rfl) rfl (R.move rfl) ?_
              refine DE.u 55 rfl (by decide +kernel) (Un.no 54 98 false rfl rfl rfl rfl) ?_
              refine DE.u 56 rfl (by decide +kernel) (Un.no 54 98 false rfl rfl rfl rfl) ?_
              refine DE.u 57 rfl (by decide +kernel) (Un.no 54 98 false rfl rfl rfl rfl) ?_
              refine DE.u 58 rfl (by decide +kernel) (Un.un 57 101 true rfl rfl rfl rfl) ?_
              refine DE.u 59 rfl (by decide +kernel) (Un.un 57 101 true rfl rfl rfl rfl) ?_
              refine DE.u 60 rfl (by decide +kernel) (Un.un 57 101 true rfl rfl rfl rfl) ?_
              refine DE.u 61 rfl (by decide +kernel) (Un.un 57 101 true rfl rfl rfl rfl) ?_
              refine DE.u 62 rfl (by decide +kernel) (Un.un 57 101 true rfl rfl rfl rfl) ?_
              refine DE.u 63 rfl (by decide +kernel) (Un.no 54 98 false rfl rfl rfl rfl) ?_
              refine DE.t 64 (v := (Value.bool true)) rfl (by decide +kernel) (Wn.no rfl) rfl (R.pickT rfl rfl) ?_
              refine DE.done (by decide +kernel) ?_
              exact ⟨_, h, f138, f139, f140, f141, f142, rfl⟩
            · refine DE.t 10 (v := (Value.int .i64 x3)) rfl (by decide +kernel) (Wn.yes 9 53 false rfl rfl rfl (congrArg Value.bool hb173)) rfl (R.move f139) ?_
              refine DE.t 11 (v := (Value.bool (decide ((2 : Int) ≤ x3)))) rfl (by decide +kernel) (Wn.yes 9 53 false rfl rfl rfl (congrArg Value.bool hb173)) rfl (R.geq rfl rfl) ?_
              refine DE.t 12 (v := (Value.bool (decide ((2 : Int) ≤ x3)))) rfl (by decide +kernel) (Wn.yes 9 53 false rfl rfl rfl (congrArg Value.bool hb173)) rfl (R.move rfl) ?_
              rcases M.ite_use h with ⟨hb174, h⟩ | ⟨hb174, h⟩
              · refine DE.t 13 (v := (Value.pointer (some x47))) rfl (by decide +kernel) (Wn.yes 12 56 true rfl rfl rfl (congrArg Value.bool hb174)) rfl (R.fld (off := 0) fa37_0 f143) ?_
                refine DE.t 14 (v := (Value.pointer (some (x47.add 4)))) rfl (by decide +kernel) (Wn.yes 12 56 true rfl rfl rfl (congrArg Value.bool hb174)) rfl (R.fld (off := 4) fa34_4 rfl) ?_
                refine DE.t 15 (v := (Value.pointer (some ((x47.add 4).add 1)))) rfl (by decide +kernel) (Wn.yes 12 56 true rfl rfl rfl (congrArg Value.bool hb174)) rfl (R.fld (off := 1) fa32_1 rfl) ?_
                refine DE.t 18 (v := (Value.pointer (some x48))) rfl (by decide +kernel) (Wn.yes 12 56 true rfl rfl rfl (congrArg Value.bool hb174)) rfl (R.fld (off := 0) fa37_0 f144) ?_
                refine DE.t 19 (v := (Value.pointer (some (x48.add 4)))) rfl (by decide +kernel) (Wn.yes 12 56 true rfl rfl rfl (congrArg Value.bool hb174)) rfl (R.fld (off := 4) fa34_4 rfl) ?_
                refine DE.t 20 (v := (Value.pointer (some ((x48.add 4).add 1)))) rfl (by decide +kernel) (Wn.yes 12 56 true rfl rfl rfl (congrArg Value.bool hb174)) rfl (R.fld (off := 1) fa32_1 rfl) ?_
                obtain ⟨t175, h176, h⟩ := h
                refine DE.hold 16 (fun w => w.cell? ((x47.add 4).add 1) = some (SV.v t175)) (v := (SV.v t175)) rfl (by decide +kernel) (Wn.yes 12 56 true rfl rfl rfl (congrArg Value.bool hb174)) rfl h176 (fun w hs => R.ld sc29 rfl hs) ?_
                obtain ⟨t177, h178, h⟩ := h
                refine DE.hold 21 (fun w => w.cell? ((x48.add 4).add 1) = some (SV.v t177)) (v := (SV.v t177)) rfl (by decide +kernel) (Wn.yes 12 56 true rfl rfl rfl (congrArg Value.bool hb174)) rfl h178 (fun w hs => R.ld sc29 rfl hs) ?_
                refine DE.main 17 (by decide +kernel) ?_
                refine One.c 17 rfl (Wn.yes 12 56 true rfl rfl rfl (congrArg Value.bool hb174)) rfl (R.call bd16 (Ls.cons rfl Ls.nil) rfl) (Calls.mono h ?_)
                rintro _ w180 ⟨r179, rfl, h⟩
                obtain ⟨k181, h⟩ := h
                refine ⟨_, rfl, ⟨fun _ => k181, aftT (by decide +kernel), aftT (by decide +kernel), aftT (by decide +kernel), trivial⟩, ?_⟩
                refine DE.main 22 (by decide +kernel) ?_
                refine One.c 22 rfl (Wn.yes 12 56 true rfl rfl rfl (congrArg Value.bool hb174)) rfl (R.call bd16 (Ls.cons rfl Ls.nil) rfl) (Calls.mono h ?_)
                rintro _ w183 ⟨r182, rfl, h⟩
                refine ⟨_, rfl, ⟨aftT (by decide +kernel), aftT (by decide +kernel), aftT (by decide +kernel), aftT (by decide +kernel), trivial⟩, ?_⟩
                refine DE.t 23 (v := (Value.bool (r179 != r182))) rfl (by decide +kernel) (Wn.yes 12 56 true rfl rfl rfl (congrArg Value.bool hb174)) rfl (R.neq rfl rfl) ?_
                refine DE.t 24 (v := (Value.bool (r179 != r182))) rfl (by decide +kernel) (Wn.yes 9 53 false rfl rfl rfl (congrArg Value.bool hb173)) rfl (R.pickT (congrArg Value.bool hb174) rfl) ?_
                refine DE.t 25 (v := (Value.bool (r179 != r182))) rfl (by decide +kernel) (Wn.no rfl) rfl (R.pickF (congrArg Value.bool hb173) rfl) ?_
                refine DE.t 26 (v := (Value.bool (r179 != r182))) rfl (by decide +kernel) (Wn.no rfl) rfl (R.move rfl) ?_
                rcases M.ite_use h with ⟨hb184, h⟩ | ⟨hb184, h⟩
                · refine DE.u 27 rfl (by decide +kernel) (Un.no 26 70 false rfl rfl rfl (congrArg Value.bool hb184)) ?_
                  refine DE.u 28 rfl (by decide +kernel) (Un.no 26 70 false rfl rfl rfl (congrArg Value.bool hb184)) ?_
                  refine DE.u 29 rfl (by decide +kernel) (Un.no 26 70 false rfl rfl rfl (congrArg Value.bool hb184)) ?_
                  refine DE.u 30 rfl (by decide +kernel) (Un.un 29 73 true rfl rfl rfl rfl) ?_
                  refine DE.u 31 rfl (by decide +kernel) (Un.un 29 73 true rfl rfl rfl rfl) ?_
                  refine DE.u 32 rfl (by decide +kernel) (Un.un 29 73 true rfl rfl rfl rfl) ?_
                  refine DE.u 33 rfl (by decide +kernel) (Un.un 29 73 true rfl rfl rfl rfl) ?_
                  refine DE.u 34 rfl (by decide +kernel) (Un.un 29 73 true rfl rfl rfl rfl) ?_
                  refine DE.u 35 rfl (by decide +kernel) (Un.un 29 73 true rfl rfl rfl rfl) ?_
                  refine DE.u 36 rfl (by decide +kernel) (Un.un 29 73 true rfl rfl rfl rfl) ?_
                  refine DE.u 37 rfl (by decide +kernel) (Un.un 29 73 true rfl rfl rfl rfl) ?_
                  refine DE.u 38 rfl (by decide +kernel) (Un.un 29 73 true rfl rfl rfl rfl) ?_
                  refine DE.u 39 rfl (by decide +kernel) (Un.no 26 70 false rfl rfl rfl (congrArg Value.bool hb184)) ?_
                  refine DE.t 40 (v := (Value.bool true)) rfl (by decide +kernel) (Wn.no rfl) rfl (R.pickT (congrArg Value.bool hb184) rfl) ?_
                  refine DE.t 41 (v := (Value.bool true)) rfl (by decide +kernel) (Wn.no rfl) rfl (R.move rfl) ?_
                  refine DE.u 42 rfl (by decide +kernel) (Un.no 41 85 false rfl rfl rfl rfl) ?_
                  refine DE.u 43 rfl (by decide +kernel) (Un.no 41 85 false rfl rfl rfl rfl) ?_
                  refine DE.u 44 rfl (by decide +kernel) (Un.no 41 85 false rfl rfl rfl rfl) ?_
                  refine DE.u 45 rfl (by decide +kernel) (Un.un 44 88 true rfl rfl rfl rfl) ?_
                  refine DE.u 46 rfl (by decide +kernel) (Un.un 44 88 true rfl rfl rfl rfl) ?_
                  refine DE.u 47 rfl (by decide +kernel) (Un.un 44 88 true rfl rfl rfl rfl) ?_
                  refine DE.u 48 rfl (by decide +kernel) (Un.un 44 88 true rfl rfl rfl rfl) ?_
                  refine DE.u 49 rfl (by decide +kernel) (Un.un 44 88 true rfl rfl rfl rfl) ?_
                  refine DE.u 50 rfl (by decide +kernel) (Un.un 44 88 true rfl rfl rfl rfl) ?_
                  refine DE.u 51 rfl (by decide +kernel) (Un.un 44 88 true rfl rfl rfl rfl) ?_
                  refine DE.u 52 rfl (by decide +kernel) (Un.no 41 85 false rfl rfl rfl rfl) ?_
                  refine DE.t 53 (v := (Value.bool true)) rfl (by decide +kernel) (Wn.no rfl) rfl (R.pickT rfl rfl) ?_
                  refine DE.t 54 (v := (Value.bool true)) rfl (by decide +kernel) (Wn.no rfl) rfl (R.move rfl) ?_
                  refine DE.u 55 rfl (by decide +kernel) (Un.no 54 98 false rfl rfl rfl rfl) ?_
                  refine DE.u 56 rfl (by decide +kernel) (Un.no 54 98 false rfl rfl rfl rfl) ?_
                  refine DE.u 57 rfl (by decide +kernel) (Un.no 54 98 false rfl rfl rfl rfl) ?_
                  refine DE.u 58 rfl (by decide +kernel) (Un.un 57 101 true rfl rfl rfl rfl) ?_
                  refine DE.u 59 rfl (by decide +kernel) (Un.un 57 101 true rfl rfl rfl rfl) ?_
                  refine DE.u 60 rfl (by decide +kernel) (Un.un 57 101 true rfl rfl rfl rfl) ?_
                  refine DE.u 61 rfl (by decide +kernel) (Un.un 57 101 true rfl rfl rfl rfl) ?_
                  refine DE.u 62 rfl (by decide +kernel) (Un.un 57 101 true rfl rfl rfl rfl) ?_
                  refine DE.u 63 rfl (by decide +kernel) (Un.no 54 98 false rfl rfl rfl rfl) ?_
                  refine DE.t 64 (v := (Value.bool true)) rfl (by decide +kernel) (Wn.no rfl) rfl (R.pickT rfl rfl) ?_
                  refine DE.done (by decide +kernel) ?_
                  exact ⟨_, h, f138, f139, f140, f141, f142, rfl⟩
                · refine DE.t 27 (v := (Value.int .i64 x3)) rfl (by decide +kernel) (Wn.yes 26 70 false rfl rfl rfl (congrArg Value.bool hb184)) rfl (R.move f139) ?_
                  refine DE.t 28 (v := (Value.bool (decide ((3 : Int) ≤ x3)))) rfl (by decide +kernel) (Wn.yes 26 70 false rfl rfl rfl (congrArg Value.bool hb184)) rfl (R.geq rfl rfl) ?_
                  refine DE.t 29 (v := (Value.bool (decide ((3 : Int) ≤ x3)))) rfl (by decide +kernel) (Wn.yes 26 70 false rfl rfl rfl (congrArg Value.bool hb184)) rfl (R.move rfl) ?_
                  rcases M.ite_use h with ⟨hb185, h⟩ | ⟨hb185, h⟩
                  · refine DE.t 30 (v := (Value.pointer (some x47))) rfl (by decide +kernel) (Wn.yes 29 73 true rfl rfl rfl (congrArg Value.bool hb185)) rfl (R.fld (off := 0) fa37_0 f143) ?_
                    refine DE.t 31 (v := (Value.pointer (some (x47.add 4)))) rfl (by decide +kernel) (Wn.yes 29 73 true rfl rfl rfl (congrArg Value.bool hb185)) rfl (R.fld (off := 4) fa34_4 rfl) ?_
                    refine DE.t 32 (v := (Value.pointer (some (x47.add 4)))) rfl (by decide +kernel) (Wn.yes 29 73 true rfl rfl rfl (congrArg Value.bool hb185)) rfl (R.fld (off := 0) fa32_0 rfl) ?_
                    refine DE.t 34 (v := (Value.pointer (some x48))) rfl (by decide +kernel) (Wn.yes 29 73 true rfl rfl rfl (congrArg Value.bool hb185)) rfl (R.fld (off := 0) fa37_0 f144) ?_
                    refine DE.t 35 (v := (Value.pointer (some (x48.add 4)))) rfl (by decide +kernel) (Wn.yes 29 73 true rfl rfl rfl (congrArg Value.bool hb185)) rfl (R.fld (off := 4) fa34_4 rfl) ?_
                    refine DE.t 36 (v := (Value.pointer (some (x48.add 4)))) rfl (by decide +kernel) (Wn.yes 29 73 true rfl rfl rfl (congrArg Value.bool hb185)) rfl (R.fld (off := 0) fa32_0 rfl) ?_
                    obtain ⟨t186, h187, h⟩ := h
                    refine DE.hold 33 (fun w => w.cell? (x47.add 4) = some (Value.int .i64 t186)) (v := (Value.int .i64 t186)) rfl (by decide +kernel) (Wn.yes 29 73 true rfl rfl rfl (congrArg Value.bool hb185)) rfl h187 (fun w hs => R.ld sc3 rfl hs) ?_
                    obtain ⟨t188, h189, h⟩ := h
                    refine DE.main 37 (by decide +kernel) ?_
                    refine One.r 37 (v := (Value.int .i64 t188)) rfl (Wn.yes 29 73 true rfl rfl rfl (congrArg Value.bool hb185)) rfl (R.ld sc3 rfl h189) (.inl rfl) ?_
                    refine DE.t 38 (v := (Value.bool (t186 != t188))) rfl (by decide +kernel) (Wn.yes 29 73 true rfl rfl rfl (congrArg Value.bool hb185)) rfl (R.neq rfl rfl) ?_
                    refine DE.t 39 (v := (Value.bool (t186 != t188))) rfl (by decide +kernel) (Wn.yes 26 70 false rfl rfl rfl (congrArg Value.bool hb184)) rfl (R.pickT (congrArg Value.bool hb185) rfl) ?_
                    refine DE.t 40 (v := (Value.bool (t186 != t188))) rfl (by decide +kernel) (Wn.no rfl) rfl (R.pickF (congrArg Value.bool hb184) rfl) ?_
                    refine DE.t 41 (v := (Value.bool (t186 != t188))) rfl (by decide +kernel) (Wn.no rfl) rfl (R.move rfl) ?_
                    rcases M.ite_use h with ⟨hb190, h⟩ | ⟨hb190, h⟩
                    · refine DE.u 42 rfl (by decide +kernel) (Un.no 41 85 false rfl rfl rfl (congrArg Value.bool hb190)) ?_
                      refine DE.u 43 rfl (by decide +kernel) (Un.no 41 85 false rfl rfl rfl (congrArg Value.bool hb190)) ?_
                      refine DE.u 44 rfl (by decide +kernel) (Un.no 41 85 false rfl rfl rfl (congrArg Value.bool hb190)) ?_
                      refine DE.u 45 rfl (by decide +kernel) (Un.un 44 88 true rfl rfl rfl rfl) ?_
                      refine DE.u 46 rfl (by decide +kernel) (Un.un 44 88 true rfl rfl rfl rfl) ?_
                      refine DE.u 47 rfl (by decide +kernel) (Un.un 44 88 true rfl rfl rfl rfl) ?_
                      refine DE.u 48 rfl (by decide +kernel) (Un.un 44 88 true rfl rfl rfl rfl) ?_
                      refine DE.u 49 rfl (by decide +kernel) (Un.un 44 88 true rfl rfl rfl rfl) ?_
                      refine DE.u 50 rfl (by decide +kernel) (Un.un 44 88 true rfl rfl rfl rfl) ?_
                      refine DE.u 51 rfl (by decide +kernel) (Un.un 44 88 true rfl rfl rfl rfl) ?_
                      refine DE.u 52 rfl (by decide +kernel) (Un.no 41 85 false rfl rfl rfl (congrArg Value.bool hb190)) ?_
                      refine DE.t 53 (v := (Value.bool true)) rfl (by decide +kernel) (Wn.no rfl) rfl (R.pickT (congrArg Value.bool hb190) rfl) ?_
                      refine DE.t 54 (v := (Value.bool true)) rfl (by decide +kernel) (Wn.no rfl) rfl (R.move rfl) ?_
                      refine DE.u 55 rfl (by decide +kernel) (Un.no 54 98 false rfl rfl rfl rfl) ?_
                      refine DE.u 56 rfl (by decide +kernel) (Un.no 54 98 false rfl rfl rfl rfl) ?_
                      refine DE.u 57 rfl (by decide +kernel) (Un.no 54 98 false rfl rfl rfl rfl) ?_
                      refine DE.u 58 rfl (by decide +kernel) (Un.un 57 101 true rfl rfl rfl rfl) ?_
                      refine DE.u 59 rfl (by decide +kernel) (Un.un 57 101 true rfl rfl rfl rfl) ?_
                      refine DE.u 60 rfl (by decide +kernel) (Un.un 57 101 true rfl rfl rfl rfl) ?_
                      refine DE.u 61 rfl (by decide +kernel) (Un.un 57 101 true rfl rfl rfl rfl) ?_
                      refine DE.u 62 rfl (by decide +kernel) (Un.un 57 101 true rfl rfl rfl rfl) ?_
                      refine DE.u 63 rfl (by decide +kernel) (Un.no 54 98 false rfl rfl rfl rfl) ?_
                      refine DE.t 64 (v := (Value.bool true)) rfl (by decide +kernel) (Wn.no rfl) rfl (R.pickT rfl rfl) ?_
                      refine DE.done (by decide +kernel) ?_
                      exact ⟨_, h, f138, f139, f140, f141, f142, rfl⟩
                    · refine DE.t 42 (v := (Value.int .i64 x3)) rfl (by decide +kernel) (Wn.yes 41 85 false rfl rfl rfl (congrArg Value.bool hb190)) rfl (R.move f139) ?_
                      refine DE.t 43 (v := (Value.bool (decide ((5 : Int) ≤ x3)))) rfl (by decide +kernel) (Wn.yes 41 85 false rfl rfl rfl (congrArg Value.bool hb190)) rfl (R.geq rfl rfl) ?_
                      refine DE.t 44 (v := (Value.bool (decide ((5 : Int) ≤ x3)))) rfl (by decide +kernel) (Wn.yes 41 85 false rfl rfl rfl (congrArg Value.bool hb190)) rfl (R.move rfl) ?_
                      rcases M.ite_use h with ⟨hb191, h⟩ | ⟨hb191, h⟩
                      · refine DE.t 45 (v := (Value.pointer (some x47))) rfl (by decide +kernel) (Wn.yes 44 88 true rfl rfl rfl (congrArg Value.bool hb191)) rfl (R.fld (off := 0) fa37_0 f143) ?_
                        refine DE.t 46 (v := (Value.pointer (some (x47.add 3)))) rfl (by decide +kernel) (Wn.yes 44 88 true rfl rfl rfl (congrArg Value.bool hb191)) rfl (R.fld (off := 3) fa34_3 rfl) ?_
                        refine DE.t 48 (v := (Value.pointer (some x48))) rfl (by decide +kernel) (Wn.yes 44 88 true rfl rfl rfl (congrArg Value.bool hb191)) rfl (R.fld (off := 0) fa37_0 f144) ?_
                        refine DE.t 49 (v := (Value.pointer (some (x48.add 3)))) rfl (by decide +kernel) (Wn.yes 44 88 true rfl rfl rfl (congrArg Value.bool hb191)) rfl (R.fld (off := 3) fa34_3 rfl) ?_
                        obtain ⟨t192, h193, h⟩ := h
                        refine DE.hold 47 (fun w => w.cell? (x47.add 3) = some (Value.bool t192)) (v := (Value.bool t192)) rfl (by decide +kernel) (Wn.yes 44 88 true rfl rfl rfl (congrArg Value.bool hb191)) rfl h193 (fun w hs => R.ld sc4 rfl hs) ?_
                        obtain ⟨t194, h195, h⟩ := h
                        refine DE.main 50 (by decide +kernel) ?_
                        refine One.r 50 (v := (Value.bool t194)) rfl (Wn.yes 44 88 true rfl rfl rfl (congrArg Value.bool hb191)) rfl (R.ld sc4 rfl h195) (.inl rfl) ?_
                        refine DE.t 51 (v := (Value.bool (!(t192 == t194)))) rfl (by decide +kernel) (Wn.yes 44 88 true rfl rfl rfl (congrArg Value.bool hb191)) rfl (R.bneq bo4 rfl rfl) ?_
                        refine DE.t 52 (v := (Value.bool (!(t192 == t194)))) rfl (by decide +kernel) (Wn.yes 41 85 false rfl rfl rfl (congrArg Value.bool hb190)) rfl (R.pickT (congrArg Value.bool hb191) rfl) ?_
                        refine DE.t 53 (v := (Value.bool (!(t192 == t194)))) rfl (by decide +kernel) (Wn.no rfl) rfl (R.pickF (congrArg Value.bool hb190) rfl) ?_
                        refine DE.t 54 (v := (Value.bool (!(t192 == t194)))) rfl (by decide +kernel) (Wn.no rfl) rfl (R.move rfl) ?_
                        rcases M.ite_use h with ⟨hb196, h⟩ | ⟨hb196, h⟩
                        · refine DE.u 55 rfl (by decide +kernel) (Un.no 54 98 false rfl rfl rfl (congrArg Value.bool hb196)) ?_
                          refine DE.u 56 rfl (by decide +kernel) (Un.no 54 98 false rfl rfl rfl (congrArg Value.bool hb196)) ?_
                          refine DE.u 57 rfl (by decide +kernel) (Un.no 54 98 false rfl rfl rfl (congrArg Value.bool hb196)) ?_
                          refine DE.u 58 rfl (by decide +kernel) (Un.un 57 101 true rfl rfl rfl rfl) ?_
                          refine DE.u 59 rfl (by decide +kernel) (Un.un 57 101 true rfl rfl rfl rfl) ?_
                          refine DE.u 60 rfl (by decide +kernel) (Un.un 57 101 true rfl rfl rfl rfl) ?_
                          refine DE.u 61 rfl (by decide +kernel) (Un.un 57 101 true rfl rfl rfl rfl) ?_
                          refine DE.u 62 rfl (by decide +kernel) (Un.un 57 101 true rfl rfl rfl rfl) ?_
                          refine DE.u 63 rfl (by decide +kernel) (Un.no 54 98 false rfl rfl rfl (congrArg Value.bool hb196)) ?_
                          refine DE.t 64 (v := (Value.bool true)) rfl (by decide +kernel) (Wn.no rfl) rfl (R.pickT (congrArg Value.bool hb196) rfl) ?_
                          refine DE.done (by decide +kernel) ?_
                          exact ⟨_, h, f138, f139, f140, f141, f142, rfl⟩
                        · refine DE.t 55 (v := (Value.int .i64 x3)) rfl (by decide +kernel) (Wn.yes 54 98 false rfl rfl rfl (congrArg Value.bool hb196)) rfl (R.move f139) ?_
                          refine DE.t 56 (v := (Value.bool (decide ((6 : Int) ≤ x3)))) rfl (by decide +kernel) (Wn.yes 54 98 false rfl rfl rfl (congrArg Value.bool hb196)) rfl (R.geq rfl rfl) ?_
                          refine DE.t 57 (v := (Value.bool (decide ((6 : Int) ≤ x3)))) rfl (by decide +kernel) (Wn.yes 54 98 false rfl rfl rfl (congrArg Value.bool hb196)) rfl (R.move rfl) ?_
                          rcases M.ite_use h with ⟨hb197, h⟩ | ⟨hb197, h⟩
                          · refine DE.t 58 (v := (Value.pointer (some (x47.add 13)))) rfl (by decide +kernel) (Wn.yes 57 101 true rfl rfl rfl (congrArg Value.bool hb197)) rfl (R.fld (off := 13) fa37_1 f143) ?_
                            refine DE.t 60 (v := (Value.pointer (some (x48.add 13)))) rfl (by decide +kernel) (Wn.yes 57 101 true rfl rfl rfl (congrArg Value.bool hb197)) rfl (R.fld (off := 13) fa37_1 f144) ?_
                            obtain ⟨t198, h199, h⟩ := h
                            refine DE.hold 59 (fun w => w.cell? (x47.add 13) = some (Value.float .f64 t198)) (v := (Value.float .f64 t198)) rfl (by decide +kernel) (Wn.yes 57 101 true rfl rfl rfl (congrArg Value.bool hb197)) rfl h199 (fun w hs => R.ld sc35 rfl hs) ?_
                            obtain ⟨t200, h201, h⟩ := h
                            refine DE.main 61 (by decide +kernel) ?_
                            refine One.r 61 (v := (Value.float .f64 t200)) rfl (Wn.yes 57 101 true rfl rfl rfl (congrArg Value.bool hb197)) rfl (R.ld sc35 rfl h201) (.inl rfl) ?_
                            refine DE.t 62 (v := (Value.bool (fNeq t198 t200))) rfl (by decide +kernel) (Wn.yes 57 101 true rfl rfl rfl (congrArg Value.bool hb197)) rfl (R.fneq rfl rfl) ?_
                            refine DE.t 63 (v := (Value.bool (fNeq t198 t200))) rfl (by decide +kernel) (Wn.yes 54 98 false rfl rfl rfl (congrArg Value.bool hb196)) rfl (R.pickT (congrArg Value.bool hb197) rfl) ?_
                            refine DE.t 64 (v := (Value.bool (fNeq t198 t200))) rfl (by decide +kernel) (Wn.no rfl) rfl (R.pickF (congrArg Value.bool hb196) rfl) ?_
                            refine DE.done (by decide +kernel) ?_
                            exact ⟨_, h, f138, f139, f140, f141, f142, rfl⟩
                          · refine DE.u 58 rfl (by decide +kernel) (Un.no 57 101 true rfl rfl rfl (congrArg Value.bool hb197)) ?_
                            refine DE.u 59 rfl (by decide +kernel) (Un.no 57 101 true rfl rfl rfl (congrArg Value.bool hb197)) ?_
                            refine DE.u 60 rfl (by decide +kernel) (Un.no 57 101 true rfl rfl rfl (congrArg Value.bool hb197)) ?_
                            refine DE.u 61 rfl (by decide +kernel) (Un.no 57 101 true rfl rfl rfl (congrArg Value.bool hb197)) ?_
                            refine DE.u 62 rfl (by decide +kernel) (Un.no 57 101 true rfl rfl rfl (congrArg Value.bool hb197)) ?_
                            refine DE.t 63 (v := (Value.bool false)) rfl (by decide +kernel) (Wn.yes 54 98 false rfl rfl rfl (congrArg Value.bool hb196)) rfl (R.pickF (congrArg Value.bool hb197) rfl) ?_
                            refine DE.t 64 (v := (Value.bool false)) rfl (by decide +kernel) (Wn.no rfl) rfl (R.pickF (congrArg Value.bool hb196) rfl) ?_
                            refine DE.done (by decide +kernel) ?_
                            exact ⟨_, h, f138, f139, f140, f141, f142, rfl⟩
                      · refine DE.u 45 rfl (by decide +kernel) (Un.no 44 88 true rfl rfl rfl (congrArg Value.bool hb191)) ?_
                        refine DE.u 46 rfl (by decide +kernel) (Un.no 44 88 true rfl rfl rfl (congrArg Value.bool hb191)) ?_
                        refine DE.u 47 rfl (by decide +kernel) (Un.no 44 88 true rfl rfl rfl (congrArg Value.bool hb191)) ?_
                        refine DE.u 48 rfl (by decide +kernel) (Un.no 44 88 true rfl rfl rfl (congrArg Value.bool hb191)) ?_
                        refine DE.u 49 rfl (by decide +kernel) (Un.no 44 88 true rfl rfl rfl (congrArg Value.bool hb191)) ?_
                        refine DE.u 50 rfl (by decide +kernel) (Un.no 44 88 true rfl rfl rfl (congrArg Value.bool hb191)) ?_
                        refine DE.u 51 rfl (by decide +kernel) (Un.no 44 88 true rfl rfl rfl (congrArg Value.bool hb191)) ?_
                        refine DE.t 52 (v := (Value.bool false)) rfl (by decide +kernel) (Wn.yes 41 85 false rfl rfl rfl (congrArg Value.bool hb190)) rfl (R.pickF (congrArg Value.bool hb191) rfl) ?_
                        refine DE.t 53 (v := (Value.bool false)) rfl (by decide +kernel) (Wn.no rfl) rfl (R.pickF (congrArg Value.bool hb190) rfl) ?_
                        refine DE.t 54 (v := (Value.bool false)) rfl (by decide +kernel) (Wn.no rfl) rfl (R.move rfl) ?_
                        refine DE.t 55 (v := (Value.int .i64 x3)) rfl (by decide +kernel) (Wn.yes 54 98 false rfl rfl rfl rfl) rfl (R.move f139) ?_
                        refine DE.t 56 (v := (Value.bool (decide ((6 : Int) ≤ x3)))) rfl (by decide +kernel) (Wn.yes 54 98 false rfl rfl rfl rfl) rfl (R.geq rfl rfl) ?_
                        refine DE.t 57 (v := (Value.bool (decide ((6 : Int) ≤ x3)))) rfl (by decide +kernel) (Wn.yes 54 98 false rfl rfl rfl rfl) rfl (R.move rfl) ?_
                        rcases M.ite_use h with ⟨hb202, h⟩ | ⟨hb202, h⟩
                        · refine DE.t 58 (v := (Value.pointer (some (x47.add 13)))) rfl (by decide +kernel) (Wn.yes 57 101 true rfl rfl rfl (congrArg Value.bool hb202)) rfl (R.fld (off := 13) fa37_1 f143) ?_
                          refine DE.t 60 (v := (Value.pointer (some (x48.add 13)))) rfl (by decide +kernel) (Wn.yes 57 101 true rfl rfl rfl (congrArg Value.bool hb202)) rfl (R.fld (off := 13) fa37_1 f144) ?_
                          obtain ⟨t203, h204, h⟩ := h
                          refine DE.hold 59 (fun w => w.cell? (x47.add 13) = some (Value.float .f64 t203)) (v := (Value.float .f64 t203)) rfl (by decide +kernel) (Wn.yes 57 101 true rfl rfl rfl (congrArg Value.bool hb202)) rfl h204 (fun w hs => R.ld sc35 rfl hs) ?_
                          obtain ⟨t205, h206, h⟩ := h
                          refine DE.main 61 (by decide +kernel) ?_
                          refine One.r 61 (v := (Value.float .f64 t205)) rfl (Wn.yes 57 101 true rfl rfl rfl (congrArg Value.bool hb202)) rfl (R.ld sc35 rfl h206) (.inl rfl) ?_
                          refine DE.t 62 (v := (Value.bool (fNeq t203 t205))) rfl (by decide +kernel) (Wn.yes 57 101 true rfl rfl rfl (congrArg Value.bool hb202)) rfl (R.fneq rfl rfl) ?_
                          refine DE.t 63 (v := (Value.bool (fNeq t203 t205))) rfl (by decide +kernel) (Wn.yes 54 98 false rfl rfl rfl rfl) rfl (R.pickT (congrArg Value.bool hb202) rfl) ?_
                          refine DE.t 64 (v := (Value.bool (fNeq t203 t205))) rfl (by decide +kernel) (Wn.no rfl) rfl (R.pickF rfl rfl) ?_
                          refine DE.done (by decide +kernel) ?_
                          exact ⟨_, h, f138, f139, f140, f141, f142, rfl⟩
                        · refine DE.u 58 rfl (by decide +kernel) (Un.no 57 101 true rfl rfl rfl (congrArg Value.bool hb202)) ?_
                          refine DE.u 59 rfl (by decide +kernel) (Un.no 57 101 true rfl rfl rfl (congrArg Value.bool hb202)) ?_
                          refine DE.u 60 rfl (by decide +kernel) (Un.no 57 101 true rfl rfl rfl (congrArg Value.bool hb202)) ?_
                          refine DE.u 61 rfl (by decide +kernel) (Un.no 57 101 true rfl rfl rfl (congrArg Value.bool hb202)) ?_
                          refine DE.u 62 rfl (by decide +kernel) (Un.no 57 101 true rfl rfl rfl (congrArg Value.bool hb202)) ?_
                          refine DE.t 63 (v := (Value.bool false)) rfl (by decide +kernel) (Wn.yes 54 98 false rfl rfl rfl rfl) rfl (R.pickF (congrArg Value.bool hb202) rfl) ?_
                          refine DE.t 64 (v := (Value.bool false)) rfl (by decide +kernel) (Wn.no rfl) rfl (R.pickF rfl rfl) ?_
                          refine DE.done (by decide +kernel) ?_
                          exact ⟨_, h, f138, f139, f140, f141, f142, rfl⟩
                  · refine DE.u 30 rfl (by decide +kernel) (Un.no 29 73 true rfl rfl rfl (congrArg Value.bool hb185)) ?_
                    refine DE.u 31 rfl (by decide +kernel) (Un.no 29 73 true rfl rfl rfl (congrArg Value.bool hb185)) ?_
                    refine DE.u 32 rfl (by decide +kernel) (Un.no 29 73 true rfl rfl rfl (congrArg Value.bool hb185)) ?_
                    refine DE.u 33 rfl (by decide +kernel) (Un.no 29 73 true rfl rfl rfl (congrArg Value.bool hb185)) ?_
                    refine DE.u 34 rfl (by decide +kernel) (Un.no 29 73 true rfl rfl rfl (congrArg Value.bool hb185)) ?_
                    refine DE.u 35 rfl (by decide +kernel) (Un.no 29 73 true rfl rfl rfl (congrArg Value.bool hb185)) ?_
                    refine DE.u 36 rfl (by decide +kernel) (Un.no 29 73 true rfl rfl rfl (congrArg Value.bool hb185)) ?_
                    refine DE.u 37 rfl (by decide +kernel) (Un.no 29 73 true rfl rfl rfl (congrArg Value.bool hb185)) ?_
                    refine DE.u 38 rfl (by decide +kernel) (Un.no 29 73 true rfl rfl rfl (congrArg Value.bool hb185)) ?_
                    refine DE.t 39 (v := (Value.bool false)) rfl (by decide +kernel) (Wn.yes 26 70 false rfl rfl rfl (congrArg Value.bool hb184)) rfl (R.pickF (congrArg Value.bool hb185) rfl) ?_
                    refine DE.t 40 (v := (Value.bool false)) rfl (by decide +kernel) (Wn.no rfl) rfl (R.pickF (congrArg Value.bool hb184) rfl) ?_
                    refine DE.t 41 (v := (Value.bool false)) rfl (by decide +kernel) (Wn.no rfl) rfl (R.move rfl) ?_
                    refine DE.t 42 (v := (Value.int .i64 x3)) rfl (by decide +kernel) (Wn.yes 41 85 false rfl rfl rfl rfl) rfl (R.move f139) ?_
                    refine DE.t 43 (v := (Value.bool (decide ((5 : Int) ≤ x3)))) rfl (by decide +kernel) (Wn.yes 41 85 false rfl rfl rfl rfl) rfl (R.geq rfl rfl) ?_
                    refine DE.t 44 (v := (Value.bool (decide ((5 : Int) ≤ x3)))) rfl (by decide +kernel) (Wn.yes 41 85 false rfl rfl rfl rfl) rfl (R.move rfl) ?_
                    rcases M.ite_use h with ⟨hb207, h⟩ | ⟨hb207, h⟩
                    · refine DE.t 45 (v := (Value.pointer (some x47))) rfl (by decide +kernel) (Wn.yes 44 88 true rfl rfl rfl (congrArg Value.bool hb207)) rfl (R.fld (off := 0) fa37_0 f143) ?_
                      refine DE.t 46 (v := (Value.pointer (some (x47.add 3)))) rfl (by decide +kernel) (Wn.yes 44 88 true rfl rfl rfl (congrArg Value.bool hb207)) rfl (R.fld (off := 3) fa34_3 rfl) ?_
                      refine DE.t 48 (v := (Value.pointer (some x48))) rfl (by decide +kernel) (Wn.yes 44 88 true rfl rfl rfl (congrArg Value.bool hb207)) rfl (R.fld (off := 0) fa37_0 f144) ?_
                      refine DE.t 49 (v := (Value.pointer (some (x48.add 3)))) rfl (by decide +kernel) (Wn.yes 44 88 true rfl rfl rfl (congrArg Value.bool hb207)) rfl (R.fld (off := 3) fa34_3 rfl) ?_
                      obtain ⟨t208, h209, h⟩ := h
                      refine DE.hold 47 (fun w => w.cell? (x47.add 3) = some (Value.bool t208)) (v := (Value.bool t208)) rfl (by decide +kernel) (Wn.yes 44 88 true rfl rfl rfl (congrArg Value.bool hb207)) rfl h209 (fun w hs => R.ld sc4 rfl hs) ?_
                      obtain ⟨t210, h211, h⟩ := h
                      refine DE.main 50 (by decide +kernel) ?_
                      refine One.r 50 (v := (Value.bool t210)) rfl (Wn.yes 44 88 true rfl rfl rfl (congrArg Value.bool hb207)) rfl (R.ld sc4 rfl h211) (.inl rfl) ?_
                      refine DE.t 51 (v := (Value.bool (!(t208 == t210)))) rfl (by decide +kernel) (Wn.yes 44 88 true rfl rfl rfl (congrArg Value.bool hb207)) rfl (R.bneq bo4 rfl rfl) ?_
                      refine DE.t 52 (v := (Value.bool (!(t208 == t210)))) rfl (by decide +kernel) (Wn.yes 41 85 false rfl rfl rfl rfl) rfl (R.pickT (congrArg Value.bool hb207) rfl) ?_
                      refine DE.t 53 (v := (Value.bool (!(t208 == t210)))) rfl (by decide +kernel) (Wn.no rfl) rfl (R.pickF rfl rfl) ?_
                      refine DE.t 54 (v := (Value.bool (!(t208 == t210)))) rfl (by decide +kernel) (Wn.no rfl) rfl (R.move rfl) ?_
                      rcases M.ite_use h with ⟨hb212, h⟩ | ⟨hb212, h⟩
                      · refine DE.u 55 rfl (by decide +kernel) (Un.no 54 98 false rfl rfl rfl (congrArg Value.bool hb212)) ?_
                        refine DE.u 56 rfl (by decide +kernel) (Un.no 54 98 false rfl rfl rfl (congrArg Value.bool hb212)) ?_
                        refine DE.u 57 rfl (by decide +kernel) (Un.no 54 98 false rfl rfl rfl (congrArg Value.bool hb212)) ?_
                        refine DE.u 58 rfl (by decide +kernel) (Un.un 57 101 true rfl rfl rfl rfl) ?_
                        refine DE.u 59 rfl (by decide +kernel) (Un.un 57 101 true rfl rfl rfl rfl) ?_
                        refine DE.u 60 rfl (by decide +kernel) (Un.un 57 101 true rfl rfl rfl rfl) ?_
                        refine DE.u 61 rfl (by decide +kernel) (Un.un 57 101 true rfl rfl rfl rfl) ?_
                        refine DE.u 62 rfl (by decide +kernel) (Un.un 57 101 true rfl rfl rfl rfl) ?_
                        refine DE.u 63 rfl (by decide +kernel) (Un.no 54 98 false rfl rfl rfl (congrArg Value.bool hb212)) ?_
                        refine DE.t 64 (v := (Value.bool true)) rfl (by decide +kernel) (Wn.no rfl) rfl (R.pickT (congrArg Value.bool hb212) rfl) ?_
                        refine DE.done (by decide +kernel) ?_
                        exact ⟨_, h, f138, f139, f140, f141, f142, rfl⟩
                      · refine DE.t 55 (v := (Value.int .i64 x3)) rfl (by decide +kernel) (Wn.yes 54 98 false rfl rfl rfl (congrArg Value.bool hb212)) rfl (R.move f139) ?_
                        refine DE.t 56 (v := (Value.bool (decide ((6 : Int) ≤ x3)))) rfl (by decide +kernel) (Wn.yes 54 98 false rfl rfl rfl (congrArg Value.bool hb212)) rfl (R.geq rfl rfl) ?_
                        refine DE.t 57 (v := (Value.bool (decide ((6 : Int) ≤ x3)))) rfl (by decide +kernel) (Wn.yes 54 98 false rfl rfl rfl (congrArg Value.bool hb212)) rfl (R.move rfl) ?_
                        rcases M.ite_use h with ⟨hb213, h⟩ | ⟨hb213, h⟩
                        · refine DE.t 58 (v := (Value.pointer (some (x47.add 13)))) rfl (by decide +kernel) (Wn.yes 57 101 true rfl rfl rfl (congrArg Value.bool hb213)) rfl (R.fld (off := 13) fa37_1 f143) ?_
                          refine DE.t 60 (v := (Value.pointer (some (x48.add 13)))) rfl (by decide +kernel) (Wn.yes 57 101 true rfl rfl rfl (congrArg Value.bool hb213)) rfl (R.fld (off := 13) fa37_1 f144) ?_
                          obtain ⟨t214, h215, h⟩ := h
                          refine DE.hold 59 (fun w => w.cell? (x47.add 13) = some (Value.float .f64 t214)) (v := (Value.float .f64 t214)) rfl (by decide +kernel) (Wn.yes 57 101 true rfl rfl rfl (congrArg Value.bool hb213)) rfl h215 (fun w hs => R.ld sc35 rfl hs) ?_
                          obtain ⟨t216, h217, h⟩ := h
                          refine DE.main 61 (by decide +kernel) ?_
                          refine One.r 61 (v := (Value.float .f64 t216)) rfl (Wn.yes 57 101 true rfl rfl rfl (congrArg Value.bool hb213)) rfl (R.ld sc35 rfl h217) (.inl rfl) ?_
                          refine DE.t 62 (v := (Value.bool (fNeq t214 t216))) rfl (by decide +kernel) (Wn.yes 57 101 true rfl rfl rfl (congrArg Value.bool hb213)) rfl (R.fneq rfl rfl) ?_
                          refine DE.t 63 (v := (Value.bool (fNeq t214 t216))) rfl (by decide +kernel) (Wn.yes 54 98 false rfl rfl rfl (congrArg Value.bool hb212)) rfl (R.pickT (congrArg Value.bool hb213) rfl) ?_
                          refine DE.t 64 (v := (Value.bool (fNeq t214 t216))) rfl (by decide +kernel) (Wn.no rfl) rfl (R.pickF (congrArg Value.bool hb212) rfl) ?_
                          refine DE.done (by decide +kernel) ?_
                          exact ⟨_, h, f138, f139, f140, f141, f142, rfl⟩
                        · refine DE.u 58 rfl (by decide +kernel) (Un.no 57 101 true rfl rfl rfl (congrArg Value.bool hb213)) ?_
                          refine DE.u 59 rfl (by decide +kernel) (Un.no 57 101 true rfl rfl rfl (congrArg Value.bool hb213)) ?_
                          refine DE.u 60 rfl (by decide +kernel) (Un.no 57 101 true rfl rfl rfl (congrArg Value.bool hb213)) ?_
                          refine DE.u 61 rfl (by decide +kernel) (Un.no 57 101 true rfl rfl rfl (congrArg Value.bool hb213)) ?_
                          refine DE.u 62 rfl (by decide +kernel) (Un.no 57 101 true rfl rfl rfl (congrArg Value.bool hb213)) ?_
                          refine DE.t 63 (v := (Value.bool false)) rfl (by decide +kernel) (Wn.yes 54 98 false rfl rfl rfl (congrArg Value.bool hb212)) rfl (R.pickF (congrArg Value.bool hb213) rfl) ?_
                          refine DE.t 64 (v := (Value.bool false)) rfl (by decide +kernel) (Wn.no rfl) rfl (R.pickF (congrArg Value.bool hb212) rfl) ?_
                          refine DE.done (by decide +kernel) ?_
                          exact ⟨_, h, f138, f139, f140, f141, f142, rfl⟩
                    · refine DE.u 45 rfl (by decide +kernel) (Un.no 44 88 true rfl rfl rfl (congrArg Value.bool hb207)) ?_
                      refine DE.u 46 rfl (by decide +kernel) (Un.no 44 88 true rfl rfl rfl (congrArg Value.bool hb207)) ?_
                      refine DE.u 47 rfl (by decide +kernel) (Un.no 44 88 true rfl rfl rfl (congrArg Value.bool hb207)) ?_
                      refine DE.u 48 rfl (by decide +kernel) (Un.no 44 88 true rfl rfl rfl (congrArg Value.bool hb207)) ?_
                      refine DE.u 49 rfl (by decide +kernel) (Un.no 44 88 true rfl rfl rfl (congrArg Value.bool hb207)) ?_
                      refine DE.u 50 rfl (by decide +kernel) (Un.no 44 88 true rfl rfl rfl (congrArg Value.bool hb207)) ?_
                      refine DE.u 51 rfl (by decide +kernel) (Un.no 44 88 true rfl rfl rfl (congrArg Value.bool hb207)) ?_
                      refine DE.t 52 (v := (Value.bool false)) rfl (by decide +kernel) (Wn.yes 41 85 false rfl rfl rfl rfl) rfl (R.pickF (congrArg Value.bool hb207) rfl) ?_
                      refine DE.t 53 (v := (Value.bool false)) rfl (by decide +kernel) (Wn.no rfl) rfl (R.pickF rfl rfl) ?_
                      refine DE.t 54 (v := (Value.bool false)) rfl (by decide +kernel) (Wn.no rfl) rfl (R.move rfl) ?_
                      refine DE.t 55 (v := (Value.int .i64 x3)) rfl (by decide +kernel) (Wn.yes 54 98 false rfl rfl rfl rfl) rfl (R.move f139) ?_
                      refine DE.t 56 (v := (Value.bool (decide ((6 : Int) ≤ x3)))) rfl (by decide +kernel) (Wn.yes 54 98 false rfl rfl rfl rfl) rfl (R.geq rfl rfl) ?_
                      refine DE.t 57 (v := (Value.bool (decide ((6 : Int) ≤ x3)))) rfl (by decide +kernel) (Wn.yes 54 98 false rfl rfl rfl rfl) rfl (R.move rfl) ?_
                      rcases M.ite_use h with ⟨hb218, h⟩ | ⟨hb218, h⟩
                      · refine DE.t 58 (v := (Value.pointer (some (x47.add 13)))) rfl (by decide +kernel) (Wn.yes 57 101 true rfl rfl rfl (congrArg Value.bool hb218)) rfl (R.fld (off := 13) fa37_1 f143) ?_
                        refine DE.t 60 (v := (Value.pointer (some (x48.add 13)))) rfl (by decide +kernel) (Wn.yes 57 101 true rfl rfl rfl (congrArg Value.bool hb218)) rfl (R.fld (off := 13) fa37_1 f144) ?_
                        obtain ⟨t219, h220, h⟩ := h
                        refine DE.hold 59 (fun w => w.cell? (x47.add 13) = some (Value.float .f64 t219)) (v := (Value.float .f64 t219)) rfl (by decide +kernel) (Wn.yes 57 101 true rfl rfl rfl (congrArg Value.bool hb218)) rfl h220 (fun w hs => R.ld sc35 rfl hs) ?_
                        obtain ⟨t221, h222, h⟩ := h
                        refine DE.main 61 (by decide +kernel) ?_
                        refine One.r 61 (v := (Value.float .f64 t221)) rfl (Wn.yes 57 101 true rfl rfl rfl (congrArg Value.bool hb218)) rfl (R.ld sc35 rfl h222) (.inl rfl) ?_
                        refine DE.t 62 (v := (Value.bool (fNeq t219 t221))) rfl (by decide +kernel) (Wn.yes 57 101 true rfl rfl rfl (congrArg Value.bool hb218)) rfl (R.fneq rfl rfl) ?_
                        refine DE.t 63 (v := (Value.bool (fNeq t219 t221))) rfl (by decide +kernel) (Wn.yes 54 98 false rfl rfl rfl rfl) rfl (R.pickT (congrArg Value.bool hb218) rfl) ?_
                        refine DE.t 64 (v := (Value.bool (fNeq t219 t221))) rfl (by decide +kernel) (Wn.no rfl) rfl (R.pickF rfl rfl) ?_
                        refine DE.done (by decide +kernel) ?_
                        exact ⟨_, h, f138, f139, f140, f141, f142, rfl⟩
                      · refine DE.u 58 rfl (by decide +kernel) (Un.no 57 101 true rfl rfl rfl (congrArg Value.bool hb218)) ?_
                        refine DE.u 59 rfl (by decide +kernel) (Un.no 57 101 true rfl rfl rfl (congrArg Value.bool hb218)) ?_
                        refine DE.u 60 rfl (by decide +kernel) (Un.no 57 101 true rfl rfl rfl (congrArg Value.bool hb218)) ?_
                        refine DE.u 61 rfl (by decide +kernel) (Un.no 57 101 true rfl rfl rfl (congrArg Value.bool hb218)) ?_
                        refine DE.u 62 rfl (by decide +kernel) (Un.no 57 101 true rfl rfl rfl (congrArg Value.bool hb218)) ?_
                        refine DE.t 63 (v := (Value.bool false)) rfl (by decide +kernel) (Wn.yes 54 98 false rfl rfl rfl rfl) rfl (R.pickF (congrArg Value.bool hb218) rfl) ?_
                        refine DE.t 64 (v := (Value.bool false)) rfl (by decide +kernel) (Wn.no rfl) rfl (R.pickF rfl rfl) ?_
                        refine DE.done (by decide +kernel) ?_
                        exact ⟨_, h, f138, f139, f140, f141, f142, rfl⟩
              · refine DE.u 13 rfl (by decide +kernel) (Un.no 12 56 true rfl rfl rfl (congrArg Value.bool hb174)) ?_
                refine DE.u 14 rfl (by decide +kernel) (Un.no 12 56 true rfl rfl rfl (congrArg Value.bool hb174)) ?_
                refine DE.u 15 rfl (by decide +kernel) (Un.no 12 56 true rfl rfl rfl (congrArg Value.bool hb174)) ?_
                refine DE.u 16 rfl (by decide +kernel) (Un.no 12 56 true rfl rfl rfl (congrArg Value.bool hb174)) ?_
                refine DE.u 17 rfl (by decide +kernel) (Un.no 12 56 true rfl rfl rfl (congrArg Value.bool hb174)) ?_
                refine DE.u 18 rfl (by decide +kernel) (Un.no 12 56 true rfl rfl rfl (congrArg Value.bool hb174)) ?_
                refine DE.u 19 rfl (by decide +kernel) (Un.no 12 56 true rfl rfl rfl (congrArg Value.bool hb174)) ?_
                refine DE.u 20 rfl (by decide +kernel) (Un.no 12 56 true rfl rfl rfl (congrArg Value.bool hb174)) ?_
                refine DE.u 21 rfl (by decide +kernel) (Un.no 12 56 true rfl rfl rfl (congrArg Value.bool hb174)) ?_
                refine DE.u 22 rfl (by decide +kernel) (Un.no 12 56 true rfl rfl rfl (congrArg Value.bool hb174)) ?_
                refine DE.u 23 rfl (by decide +kernel) (Un.no 12 56 true rfl rfl rfl (congrArg Value.bool hb174)) ?_
                refine DE.t 24 (v := (Value.bool false)) rfl (by decide +kernel) (Wn.yes 9 53 false rfl rfl rfl (congrArg Value.bool hb173)) rfl (R.pickF (congrArg Value.bool hb174) rfl) ?_
                refine DE.t 25 (v := (Value.bool false)) rfl (by decide +kernel) (Wn.no rfl) rfl (R.pickF (congrArg Value.bool hb173) rfl) ?_
                refine DE.t 26 (v := (Value.bool false)) rfl (by decide +kernel) (Wn.no rfl) rfl (R.move rfl) ?_
                refine DE.t 27 (v := (Value.int .i64 x3)) rfl (by decide +kernel) (Wn.yes 26 70 false rfl rfl rfl rfl) rfl (R.move f139) ?_
                refine DE.t 28 (v := (Value.bool (decide ((3 : Int) ≤ x3)))) rfl (by decide +kernel) (Wn.yes 26 70 false rfl rfl rfl rfl) rfl (R.geq rfl rfl) ?_
                refine DE.t 29 (v := (Value.bool (decide ((3 : Int) ≤ x3)))) rfl (by decide +kernel) (Wn.yes 26 70 false rfl rfl rfl rfl) rfl (R.move rfl) ?_
                rcases M.ite_use h with ⟨hb223, h⟩ | ⟨hb223, h⟩
                · refine DE.t 30 (v := (Value.pointer (some x47))) rfl (by decide +kernel) (Wn.yes 29 73 true rfl rfl rfl (congrArg Value.bool hb223)) rfl (R.fld (off := 0) fa37_0 f143) ?_
                  refine DE.t 31 (v := (Value.pointer (some (x47.add 4)))) rfl (by decide +kernel) (Wn.yes 29 73 true rfl rfl rfl (congrArg Value.bool hb223)) rfl (R.fld (off := 4) fa34_4 rfl) ?_
                  refine DE.t 32 (v := (Value.pointer (some (x47.add 4)))) rfl (by decide +kernel) (Wn.yes 29 73 true rfl rfl rfl (congrArg Value.bool hb223)) rfl (R.fld (off := 0) fa32_0 rfl) ?_
                  refine DE.t 34 (v := (Value.pointer (some x48))) rfl (by decide +kernel) (Wn.yes 29 73 true rfl rfl rfl (congrArg Value.bool hb223)) rfl (R.fld (off := 0) fa37_0 f144) ?_
                  refine DE.t 35 (v := (Value.pointer (some (x48.add 4)))) rfl (by decide +kernel) (Wn.yes 29 73 true rfl rfl rfl (congrArg Value.bool hb223)) rfl (R.fld (off := 4) fa34_4 rfl) ?_
                  refine DE.t 36 (v := (Value.pointer (some (x48.add 4)))) rfl (by decide +kernel) (Wn.yes 29 73 true rfl rfl rfl (congrArg Value.bool hb223)) rfl (R.fld (off := 0) fa32_0 rfl) ?_
                  obtain ⟨t224, h225, h⟩ := h
                  refine DE.hold 33 (fun w => w.cell? (x47.add 4) = some (Value.int .i64 t224)) (v := (Value.int .i64 t224)) rfl (by decide +kernel) (Wn.yes 29 73 true rfl rfl rfl (congrArg Value.bool hb223)) rfl h225 (fun w hs => R.ld sc3 rfl hs) ?_
                  obtain ⟨t226, h227, h⟩ := h
                  refine DE.main 37 (by decide +kernel) ?_
                  refine One.r 37 (v := (Value.int .i64 t226)) rfl (Wn.yes 29 73 true rfl rfl rfl (congrArg Value.bool hb223)) rfl (R.ld sc3 rfl h227) (.inl rfl) ?_
                  refine DE.t 38 (v := (Value.bool (t224 != t226))) rfl (by decide +kernel) (Wn.yes 29 73 true rfl rfl rfl (congrArg Value.bool hb223)) rfl (R.neq rfl rfl) ?_
                  refine DE.t 39 (v := (Value.bool (t224 != t226))) rfl (by decide +kernel) (Wn.yes 26 70 false rfl rfl rfl rfl) rfl (R.pickT (congrArg Value.bool hb223) rfl) ?_
                  refine DE.t 40 (v := (Value.bool (t224 != t226))) rfl (by decide +kernel) (Wn.no rfl) rfl (R.pickF rfl rfl) ?_
                  refine DE.t 41 (v := (Value.bool (t224 != t226))) rfl (by decide +kernel) (Wn.no rfl) rfl (R.move rfl) ?_
                  rcases M.ite_use h with ⟨hb228, h⟩ | ⟨hb228, h⟩
                  · refine DE.u 42 rfl (by decide +kernel) (Un.no 41 85 false rfl rfl rfl (congrArg Value.bool hb228)) ?_
                    refine DE.u 43 rfl (by decide +kernel) (Un.no 41 85 false rfl rfl rfl (congrArg Value.bool hb228)) ?_
                    refine DE.u 44 rfl (by decide +kernel) (Un.no 41 85 false rfl rfl rfl (congrArg Value.bool hb228)) ?_
                    refine DE.u 45 rfl (by decide +kernel) (Un.un 44 88 true rfl rfl rfl rfl) ?_
                    refine DE.u 46 rfl (by decide +kernel) (Un.un 44 88 true rfl rfl rfl rfl) ?_
                    refine DE.u 47 rfl (by decide +kernel) (Un.un 44 88 true rfl rfl rfl rfl) ?_
                    refine DE.u 48 rfl (by decide +kernel) (Un.un 44 88 true rfl rfl rfl rfl) ?_
                    refine DE.u 49 rfl (by decide +kernel) (Un.un 44 88 true rfl rfl rfl rfl) ?_
                    refine DE.u 50 rfl (by decide +kernel) (Un.un 44 88 true rfl rfl rfl rfl) ?_
                    refine DE.u 51 rfl (by decide +kernel) (Un.un 44 88 true rfl rfl rfl rfl) ?_
                    refine DE.u 52 rfl (by decide +kernel) (Un.no 41 85 false rfl rfl rfl (congrArg Value.bool hb228)) ?_
                    refine DE.t 53 (v := (Value.bool true)) rfl (by decide +kernel) (Wn.no rfl) rfl (R.pickT (congrArg Value.bool hb228) rfl) ?_
                    refine DE.t 54 (v := (Value.bool true)) rfl (by decide +kernel) (Wn.no rfl) rfl (R.move rfl) ?_
                    refine DE.u 55 rfl (by decide +kernel) (Un.no 54 98 false rfl rfl rfl rfl) ?_
                    refine DE.u 56 rfl (by decide +kernel) (Un.no 54 98 false rfl rfl rfl rfl) ?_
                    refine DE.u 57 rfl (by decide +kernel) (Un.no 54 98 false rfl rfl rfl rfl) ?_
                    refine DE.u 58 rfl (by decide +kernel) (Un.un 57 101 true rfl rfl rfl rfl) ?_
                    refine DE.u 59 rfl (by decide +kernel) (Un.un 57 101 true rfl rfl rfl rfl) ?_
                    refine DE.u 60 rfl (by decide +kernel) (Un.un 57 101 true rfl rfl rfl rfl) ?_
                    refine DE.u 61 rfl (by decide +kernel) (Un.un 57 101 true rfl rfl rfl rfl) ?_
                    refine DE.u 62 rfl (by decide +kernel) (Un.un 57 101 true rfl rfl rfl rfl) ?_
                    refine DE.u 63 rfl (by decide +kernel) (Un.no 54 98 false rfl rfl rfl rfl) ?_
                    refine DE.t 64 (v := (Value.bool true)) rfl (by decide +kernel) (Wn.no rfl) rfl (R.pickT rfl rfl) ?_
                    refine DE.done (by decide +kernel) ?_
                    exact ⟨_, h, f138, f139, f140, f141, f142, rfl⟩
                  · refine DE.t 42 (v := (Value.int .i64 x3)) rfl (by decide +kernel) (Wn.yes 41 85 false rfl rfl rfl (congrArg Value.bool hb228)) rfl (R.move f139) ?_
                    refine DE.t 43 (v := (Value.bool (decide ((5 : Int) ≤ x3)))) rfl (by decide +kernel) (Wn.yes 41 85 false rfl rfl rfl (congrArg Value.bool hb228)) rfl (R.geq rfl rfl) ?_
                    refine DE.t 44 (v := (Value.bool (decide ((5 : Int) ≤ x3)))) rfl (by decide +kernel) (Wn.yes 41 85 false rfl rfl rfl (congrArg Value.bool hb228)) rfl (R.move rfl) ?_
                    rcases M.ite_use h with ⟨hb229, h⟩ | ⟨hb229, h⟩
                    · refine DE.t 45 (v := (Value.pointer (some x47))) rfl (by decide +kernel) (Wn.yes 44 88 true rfl rfl rfl (congrArg Value.bool hb229)) rfl (R.fld (off := 0) fa37_0 f143) ?_
                      refine DE.t 46 (v := (Value.pointer (some (x47.add 3)))) rfl (by decide +kernel) (Wn.yes 44 88 true rfl rfl rfl (congrArg Value.bool hb229)) rfl (R.fld (off := 3) fa34_3 rfl) ?_
                      refine DE.t 48 (v := (Value.pointer (some x48))) rfl (by decide +kernel) (Wn.yes 44 88 true rfl rfl rfl (congrArg Value.bool hb229)) rfl (R.fld (off := 0) fa37_0 f144) ?_
                      refine DE.t 49 (v := (Value.pointer (some (x48.add 3)))) rfl (by decide +kernel) (Wn.yes 44 88 true rfl rfl rfl (congrArg Value.bool hb229)) rfl (R.fld (off := 3) fa34_3 rfl) ?_
                      obtain ⟨t230, h231, h⟩ := h
                      refine DE.hold 47 (fun w => w.cell? (x47.add 3) = some (Value.bool t230)) (v := (Value.bool t230)) rfl (by decide +kernel) (Wn.yes 44 88 true rfl rfl rfl (congrArg Value.bool hb229)) rfl h231 (fun w hs => R.ld sc4 rfl hs) ?_
                      obtain ⟨t232, h233, h⟩ := h
                      refine DE.main 50 (by decide +kernel) ?_
                      refine One.r 50 (v := (Value.bool t232)) rfl (Wn.yes 44 88 true rfl rfl rfl (congrArg Value.bool hb229)) rfl (R.ld sc4 rfl h233) (.inl rfl) ?_
                      refine DE.t 51 (v := (Value.bool (!(t230 == t232)))) rfl (by decide +kernel) (Wn.yes 44 88 true rfl rfl rfl (congrArg Value.bool hb229)) rfl (R.bneq bo4 rfl rfl) ?_
                      refine DE.t 52 (v := (Value.bool (!(t230 == t232)))) rfl (by decide +kernel) (Wn.yes 41 85 false rfl rfl rfl (congrArg Value.bool hb228)) rfl (R.pickT (congrArg Value.bool hb229) rfl) ?_
                      refine DE.t 53 (v := (Value.bool (!(t230 == t232)))) rfl (by decide +kernel) (Wn.no rfl) rfl (R.pickF (congrArg Value.bool hb228) rfl) ?_
                      refine DE.t 54 (v := (Value.bool (!(t230 == t232)))) rfl (by decide +kernel) (Wn.no rfl) rfl (R.move rfl) ?_
                      rcases M.ite_use h with ⟨hb234, h⟩ | ⟨hb234, h⟩
                      · refine DE.u 55 rfl (by decide +kernel) (Un.no 54 98 false rfl rfl rfl (congrArg Value.bool hb234)) ?_
                        refine DE.u 56 rfl (by decide +kernel) (Un.no 54 98 false rfl rfl rfl (congrArg Value.bool hb234)) ?_
                        refine DE.u 57 rfl (by decide +kernel) (Un.no 54 98 false rfl rfl rfl (congrArg Value.bool hb234)) ?_
                        refine DE.u 58 rfl (by decide +kernel) (Un.un 57 101 true rfl rfl rfl rfl) ?_
                        refine DE.u 59 rfl (by decide +kernel) (Un.un 57 101 true rfl rfl rfl rfl) ?_
                        refine DE.u 60 rfl (by decide +kernel) (Un.un 57 101 true rfl rfl rfl rfl) ?_
                        refine DE.u 61 rfl (by decide +kernel) (Un.un 57 101 true rfl rfl rfl rfl) ?_
                        refine DE.u 62 rfl (by decide +kernel) (Un.un 57 101 true rfl rfl rfl rfl) ?_
                        refine DE.u 63 rfl (by decide +kernel) (Un.no 54 98 false rfl rfl rfl (congrArg Value.bool hb234)) ?_
                        refine DE.t 64 (v := (Value.bool true)) rfl (by decide +kernel) (Wn.no rfl) rfl (R.pickT (congrArg Value.bool hb234) rfl) ?_
                        refine DE.done (by decide +kernel) ?_
                        exact ⟨_, h, f138, f139, f140, f141, f142, rfl⟩
                      · refine DE.t 55 (v := (Value.int .i64 x3)) rfl (by decide +kernel) (Wn.yes 54 98 false rfl rfl rfl (congrArg Value.bool hb234)) rfl (R.move f139) ?_
                        refine DE.t 56 (v := (Value.bool (decide ((6 : Int) ≤ x3)))) rfl (by decide +kernel) (Wn.yes 54 98 false rfl rfl rfl (congrArg Value.bool hb234)) rfl (R.geq rfl rfl) ?_
                        refine DE.t 57 (v := (Value.bool (decide ((6 : Int) ≤ x3)))) rfl (by decide +kernel) (Wn.yes 54 98 false rfl rfl rfl (congrArg Value.bool hb234)) rfl (R.move rfl) ?_
                        rcases M.ite_use h with ⟨hb235, h⟩ | ⟨hb235, h⟩
                        · refine DE.t 58 (v := (Value.pointer (some (x47.add 13)))) rfl (by decide +kernel) (Wn.yes 57 101 true rfl rfl rfl (congrArg Value.bool hb235)) rfl (R.fld (off := 13) fa37_1 f143) ?_
                          refine DE.t 60 (v := (Value.pointer (some (x48.add 13)))) rfl (by decide +kernel) (Wn.yes 57 101 true rfl rfl rfl (congrArg Value.bool hb235)) rfl (R.fld (off := 13) fa37_1 f144) ?_
                          obtain ⟨t236, h237, h⟩ := h
                          refine DE.hold 59 (fun w => w.cell? (x47.add 13) = some (Value.float .f64 t236)) (v := (Value.float .f64 t236)) rfl (by decide +kernel) (Wn.yes 57 101 true rfl rfl rfl (congrArg Value.bool hb235)) rfl h237 (fun w hs => R.ld sc35 rfl hs) ?_
                          obtain ⟨t238, h239, h⟩ := h
                          refine DE.main 61 (by decide +kernel) ?_
                          refine One.r 61 (v := (Value.float .f64 t238)) rfl (Wn.yes 57 101 true rfl rfl rfl (congrArg Value.bool hb235)) rfl (R.ld sc35 rfl h239) (.inl rfl) ?_
                          refine DE.t 62 (v := (Value.bool (fNeq t236 t238))) rfl (by decide +kernel) (Wn.yes 57 101 true rfl rfl rfl (congrArg Value.bool hb235)) rfl (R.fneq rfl rfl) ?_
                          refine DE.t 63 (v := (Value.bool (fNeq t236 t238))) rfl (by decide +kernel) (Wn.yes 54 98 false rfl rfl rfl (congrArg Value.bool hb234)) rfl (R.pickT (congrArg Value.bool hb235) rfl) ?_
                          refine DE.t 64 (v := (Value.bool (fNeq t236 t238))) rfl (by decide +kernel) (Wn.no rfl) rfl (R.pickF (congrArg Value.bool hb234) rfl) ?_
                          refine DE.done (by decide +kernel) ?_
                          exact ⟨_, h, f138, f139, f140, f141, f142, rfl⟩
                        · refine DE.u 58 rfl (by decide +kernel) (Un.no 57 101 true rfl rfl rfl (congrArg Value.bool hb235)) ?_
                          refine DE.u 59 rfl (by decide +kernel) (Un.no 57 101 true rfl rfl rfl (congrArg Value.bool hb235)) ?_
                          refine DE.u 60 rfl (by decide +kernel) (Un.no 57 101 true rfl rfl rfl (congrArg Value.bool hb235)) ?_
                          refine DE.u 61 rfl (by decide +kernel) (Un.no 57 101 true rfl rfl rfl (congrArg Value.bool hb235)) ?_
                          refine DE.u 62 rfl (by decide +kernel) (Un.no 57 101 true rfl rfl rfl (congrArg Value.bool hb235)) ?_
                          refine DE.t 63 (v := (Value.bool false)) rfl (by decide +kernel) (Wn.yes 54 98 false rfl rfl rfl (congrArg Value.bool hb234)) rfl (R.pickF (congrArg Value.bool hb235) rfl) ?_
                          refine DE.t 64 (v := (Value.bool false)) rfl (by decide +kernel) (Wn.no rfl) rfl (R.pickF (congrArg Value.bool hb234) rfl) ?_
                          refine DE.done (by decide +kernel) ?_
                          exact ⟨_, h, f138, f139, f140, f141, f142, rfl⟩
                    · refine DE.u 45 rfl (by decide +kernel) (Un.no 44 88 true rfl rfl rfl (congrArg Value.bool hb229)) ?_
                      refine DE.u 46 rfl (by decide +kernel) (Un.no 44 88 true rfl rfl rfl (congrArg Value.bool hb229)) ?_
                      refine DE.u 47 rfl (by decide +kernel) (Un.no 44 88 true rfl rfl rfl (congrArg Value.bool hb229)) ?_
                      refine DE.u 48 rfl (by decide +kernel) (Un.no 44 88 true rfl rfl rfl (congrArg Value.bool hb229)) ?_
                      refine DE.u 49 rfl (by decide +kernel) (Un.no 44 88 true rfl rfl rfl (congrArg Value.bool hb229)) ?_
                      refine DE.u 50 rfl (by decide +kernel) (Un.no 44 88 true rfl rfl rfl (congrArg Value.bool hb229)) ?_
                      refine DE.u 51 rfl (by decide +kernel) (Un.no 44 88 true rfl rfl rfl (congrArg Value.bool hb229)) ?_
                      refine DE.t 52 (v := (Value.bool false)) rfl (by decide +kernel) (Wn.yes 41 85 false rfl rfl rfl (congrArg Value.bool hb228)) rfl (R.pickF (congrArg Value.bool hb229) rfl) ?_
                      refine DE.t 53 (v := (Value.bool false)) rfl (by decide +kernel) (Wn.no rfl) rfl (R.pickF (congrArg Value.bool hb228) rfl) ?_
                      refine DE.t 54 (v := (Value.bool false)) rfl (by decide +kernel) (Wn.no rfl) rfl (R.move rfl) ?_
                      refine DE.t 55 (v := (Value.int .i64 x3)) rfl (by decide +kernel) (Wn.yes 54 98 false rfl rfl rfl rfl) rfl (R.move f139) ?_
                      refine DE.t 56 (v := (Value.bool (decide ((6 : Int) ≤ x3)))) rfl (by decide +kernel) (Wn.yes 54 98 false rfl rfl rfl rfl) rfl (R.geq rfl rfl) ?_
                      refine DE.t 57 (v := (Value.bool (decide ((6 : Int) ≤ x3)))) rfl (by decide +kernel) (Wn.yes 54 98 false rfl rfl rfl rfl) rfl (R.move rfl) ?_
                      rcases M.ite_use h with ⟨hb240, h⟩ | ⟨hb240, h⟩
                      · refine DE.t 58 (v := (Value.pointer (some (x47.add 13)))) rfl (by decide +kernel) (Wn.yes 57 101 true rfl rfl rfl (congrArg Value.bool hb240)) rfl (R.fld (off := 13) fa37_1 f143) ?_
                        refine DE.t 60 (v := (Value.pointer (some (x48.add 13)))) rfl (by decide +kernel) (Wn.yes 57 101 true rfl rfl rfl (congrArg Value.bool hb240)) rfl (R.fld (off := 13) fa37_1 f144) ?_
                        obtain ⟨t241, h242, h⟩ := h
                        refine DE.hold 59 (fun w => w.cell? (x47.add 13) = some (Value.float .f64 t241)) (v := (Value.float .f64 t241)) rfl (by decide +kernel) (Wn.yes 57 101 true rfl rfl rfl (congrArg Value.bool hb240)) rfl h242 (fun w hs => R.ld sc35 rfl hs) ?_
                        obtain ⟨t243, h244, h⟩ := h
                        refine DE.main 61 (by decide +kernel) ?_
                        refine One.r 61 (v := (Value.float .f64 t243)) rfl (Wn.yes 57 101 true rfl rfl rfl (congrArg Value.bool hb240)) rfl (R.ld sc35 rfl h244) (.inl rfl) ?_
                        refine DE.t 62 (v := (Value.bool (fNeq t241 t243))) rfl (by decide +kernel) (Wn.yes 57 101 true rfl rfl rfl (congrArg Value.bool hb240)) rfl (R.fneq rfl rfl) ?_
                        refine DE.t 63 (v := (Value.bool (fNeq t241 t243))) rfl (by decide +kernel) (Wn.yes 54 98 false rfl rfl rfl rfl) rfl (R.pickT (congrArg Value.bool hb240) rfl) ?_
                        refine DE.t 64 (v := (Value.bool (fNeq t241 t243))) rfl (by decide +kernel) (Wn.no rfl) rfl (R.pickF rfl rfl) ?_
                        refine DE.done (by decide +kernel) ?_
                        exact ⟨_, h, f138, f139, f140, f141, f142, rfl⟩
                      · refine DE.u 58 rfl (by decide +kernel) (Un.no 57 101 true rfl rfl rfl (congrArg Value.bool hb240)) ?_
                        refine DE.u 59 rfl (by decide +kernel) (Un.no 57 101 true rfl rfl rfl (congrArg Value.bool hb240)) ?_
                        refine DE.u 60 rfl (by decide +kernel) (Un.no 57 101 true rfl rfl rfl (congrArg Value.bool hb240)) ?_
                        refine DE.u 61 rfl (by decide +kernel) (Un.no 57 101 true rfl rfl rfl (congrArg Value.bool hb240)) ?_
                        refine DE.u 62 rfl (by decide +kernel) (Un.no 57 101 true rfl rfl rfl (congrArg Value.bool hb240)) ?_
                        refine DE.t 63 (v := (Value.bool false)) rfl (by decide +kernel) (Wn.yes 54 98 false rfl rfl rfl rfl) rfl (R.pickF (congrArg Value.bool hb240) rfl) ?_
                        refine DE.t 64 (v := (Value.bool false)) rfl (by decide +kernel) (Wn.no rfl) rfl (R.pickF rfl rfl) ?_
                        refine DE.done (by decide +kernel) ?_
                        exact ⟨_, h, f138, f139, f140, f141, f142, rfl⟩
                · refine DE.u 30 rfl (by decide +kernel) (Un.no 29 73 true rfl rfl rfl (congrArg Value.bool hb223)) ?_
                  refine DE.u 31 rfl (by decide +kernel) (Un.no 29 73 true rfl rfl rfl (congrArg Value.bool hb223)) ?_
                  refine DE.u 32 rfl (by decide +kernel) (Un.no 29 73 true rfl rfl rfl (congrArg Value.bool hb223)) ?_
                  refine DE.u 33 rfl (by decide +kernel) (Un.no 29 73 true rfl rfl rfl (congrArg Value.bool hb223)) ?_
                  refine DE.u 34 rfl (by decide +kernel) (Un.no 29 73 true rfl rfl rfl (congrArg Value.bool hb223)) ?_
                  refine DE.u 35 rfl (by decide +kernel) (Un.no 29 73 true rfl rfl rfl (congrArg Value.bool hb223)) ?_
                  refine DE.u 36 rfl (by decide +kernel) (Un.no 29 73 true rfl rfl rfl (congrArg Value.bool hb223)) ?_
                  refine DE.u 37 rfl (by decide +kernel) (Un.no 29 73 true rfl rfl rfl (congrArg Value.bool hb223)) ?_
                  refine DE.u 38 rfl (by decide +kernel) (Un.no 29 73 true rfl rfl rfl (congrArg Value.bool hb223)) ?_
                  refine DE.t 39 (v := (Value.bool false)) rfl (by decide +kernel) (Wn.yes 26 70 false rfl rfl rfl rfl) rfl (R.pickF (congrArg Value.bool hb223) rfl) ?_
                  refine DE.t 40 (v := (Value.bool false)) rfl (by decide +kernel) (Wn.no rfl) rfl (R.pickF rfl rfl) ?_
                  refine DE.t 41 (v := (Value.bool false)) rfl (by decide +kernel) (Wn.no rfl) rfl (R.move rfl) ?_
                  refine DE.t 42 (v := (Value.int .i64 x3)) rfl (by decide +kernel) (Wn.yes 41 85 false rfl rfl rfl rfl) rfl (R.move f139) ?_
                  refine DE.t 43 (v := (Value.bool (decide ((5 : Int) ≤ x3)))) rfl (by decide +kernel) (Wn.yes 41 85 false rfl rfl rfl rfl) rfl (R.geq rfl rfl) ?_
                  refine DE.t 44 (v := (Value.bool (decide ((5 : Int) ≤ x3)))) rfl (by decide +kernel) (Wn.yes 41 85 false rfl rfl rfl rfl) rfl (R.move rfl) ?_
                  rcases M.ite_use h with ⟨hb245, h⟩ | ⟨hb245, h⟩
                  · refine DE.t 45 (v := (Value.pointer (some x47))) rfl (by decide +kernel) (Wn.yes 44 88 true rfl rfl rfl (congrArg Value.bool hb245)) rfl (R.fld (off := 0) fa37_0 f143) ?_
                    refine DE.t 46 (v := (Value.pointer (some (x47.add 3)))) rfl (by decide +kernel) (Wn.yes 44 88 true rfl rfl rfl (congrArg Value.bool hb245)) rfl (R.fld (off := 3) fa34_3 rfl) ?_
                    refine DE.t 48 (v := (Value.pointer (some x48))) rfl (by decide +kernel) (Wn.yes 44 88 true rfl rfl rfl (congrArg Value.bool hb245)) rfl (R.fld (off := 0) fa37_0 f144) ?_
                    refine DE.t 49 (v := (Value.pointer (some (x48.add 3)))) rfl (by decide +kernel) (Wn.yes 44 88 true rfl rfl rfl (congrArg Value.bool hb245)) rfl (R.fld (off := 3) fa34_3 rfl) ?_
                    obtain ⟨t246, h247, h⟩ := h
                    refine DE.hold 47 (fun w => w.cell? (x47.add 3) = some (Value.bool t246)) (v := (Value.bool t246)) rfl (by decide +kernel) (Wn.yes 44 88 true rfl rfl rfl (congrArg Value.bool hb245)) rfl h247 (fun w hs => R.ld sc4 rfl hs) ?_
                    obtain ⟨t248, h249, h⟩ := h
                    refine DE.main 50 (by decide +kernel) ?_
                    refine One.r 50 (v := (Value.bool t248)) rfl (Wn.yes 44 88 true rfl rfl rfl (congrArg Value.bool hb245)) rfl (R.ld sc4 rfl h249) (.inl rfl) ?_
                    refine DE.t 51 (v := (Value.bool (!(t246 == t248)))) rfl (by decide +kernel) (Wn.yes 44 88 true rfl rfl rfl (congrArg Value.bool hb245)) rfl (R.bneq bo4 rfl rfl) ?_
                    refine DE.t 52 (v := (Value.bool (!(t246 == t248)))) rfl (by decide +kernel) (Wn.yes 41 85 false rfl rfl rfl rfl) rfl (R.pickT (congrArg Value.bool hb245) rfl) ?_
                    refine DE.t 53 (v := (Value.bool (!(t246 == t248)))) rfl (by decide +kernel) (Wn.no rfl) rfl (R.pickF rfl rfl) ?_
                    refine DE.t 54 (v := (Value.bool (!(t246 == t248)))) rfl (by decide +kernel) (Wn.no rfl) rfl (R.move rfl) ?_
                    rcases M.ite_use h with ⟨hb250, h⟩ | ⟨hb250, h⟩
                    · refine DE.u 55 rfl (by decide +kernel) (Un.no 54 98 false rfl rfl rfl (congrArg Value.bool hb250)) ?_
                      refine DE.u 56 rfl (by decide +kernel) (Un.no 54 98 false rfl rfl rfl (congrArg Value.bool hb250)) ?_
                      refine DE.u 57 rfl (by decide +kernel) (Un.no 54 98 false rfl rfl rfl (congrArg Value.bool hb250)) ?_
                      refine DE.u 58 rfl (by decide +kernel) (Un.un 57 101 true rfl rfl rfl rfl) ?_
                      refine DE.u 59 rfl (by decide +kernel) (Un.un 57 101 true rfl rfl rfl rfl) ?_
                      refine DE.u 60 rfl (by decide +kernel) (Un.un 57 101 true rfl rfl rfl rfl) ?_
                      refine DE.u 61 rfl (by decide +kernel) (Un.un 57 101 true rfl rfl rfl rfl) ?_
                      refine DE.u 62 rfl (by decide +kernel) (Un.un 57 101 true rfl rfl rfl rfl) ?_
                      refine DE.u 63 rfl (by decide +kernel) (Un.no 54 98 false rfl rfl rfl (congrArg Value.bool hb250)) ?_
                      refine DE.t 64 (v := (Value.bool true)) rfl (by decide +kernel) (Wn.no rfl) rfl (R.pickT (congrArg Value.bool hb250) rfl) ?_
                      refine DE.done (by decide +kernel) ?_
                      exact ⟨_, h, f138, f139, f140, f141, f142, rfl⟩
                    · refine DE.t 55 (v := (Value.int .i64 x3)) rfl (by decide +kernel) (Wn.yes 54 98 false rfl rfl rfl (congrArg Value.bool hb250)) rfl (R.move f139) ?_
                      refine DE.t 56 (v := (Value.bool (decide ((6 : Int) ≤ x3)))) rfl (by decide +kernel) (Wn.yes 54 98 false rfl rfl rfl (congrArg Value.bool hb250)) rfl (R.geq rfl rfl) ?_
                      refine DE.t 57 (v := (Value.bool (decide ((6 : Int) ≤ x3)))) rfl (by decide +kernel) (Wn.yes 54 98 false rfl rfl rfl (congrArg Value.bool hb250)) rfl (R.move rfl) ?_
                      rcases M.ite_use h with ⟨hb251, h⟩ | ⟨hb251, h⟩
                      · refine DE.t 58 (v := (Value.pointer (some (x47.add 13)))) rfl (by decide +kernel) (Wn.yes 57 101 true rfl rfl rfl (congrArg Value.bool hb251)) rfl (R.fld (off := 13) fa37_1 f143) ?_
                        refine DE.t 60 (v := (Value.pointer (some (x48.add 13)))) rfl (by decide +kernel) (Wn.yes 57 101 true rfl rfl rfl (congrArg Value.bool hb251)) rfl (R.fld (off := 13) fa37_1 f144) ?_
                        obtain ⟨t252, h253, h⟩ := h
                        refine DE.hold 59 (fun w => w.cell? (x47.add 13) = some (Value.float .f64 t252)) (v := (Value.float .f64 t252)) rfl (by decide +kernel) (Wn.yes 57 101 true rfl rfl rfl (congrArg Value.bool hb251)) rfl h253 (fun w hs => R.ld sc35 rfl hs) ?_
                        obtain ⟨t254, h255, h⟩ := h
                        refine DE.main 61 (by decide +kernel) ?_
                        refine One.r 61 (v := (Value.float .f64 t254)) rfl (Wn.yes 57 101 true rfl rfl rfl (congrArg Value.bool hb251)) rfl (R.ld sc35 rfl h255) (.inl rfl) ?_
                        refine DE.t 62 (v := (Value.bool (fNeq t252 t254))) rfl (by decide +kernel) (Wn.yes 57 101 true rfl rfl rfl (congrArg Value.bool hb251)) rfl (R.fneq rfl rfl) ?_
                        refine DE.t 63 (v := (Value.bool (fNeq t252 t254))) rfl (by decide +kernel) (Wn.yes 54 98 false rfl rfl rfl (congrArg Value.bool hb250)) rfl (R.pickT (congrArg Value.bool hb251) rfl) ?_
                        refine DE.t 64 (v := (Value.bool (fNeq t252 t254))) rfl (by decide +kernel) (Wn.no rfl) rfl (R.pickF (congrArg Value.bool hb250) rfl) ?_
                        refine DE.done (by decide +kernel) ?_
                        exact ⟨_, h, f138, f139, f140, f141, f142, rfl⟩
                      · refine DE.u 58 rfl (by decide +kernel) (Un.no 57 101 true rfl rfl rfl (congrArg Value.bool hb251)) ?_
                        refine DE.u 59 rfl (by decide +kernel) (Un.no 57 101 true rfl rfl rfl (congrArg Value.bool hb251)) ?_
                        refine DE.u 60 rfl (by decide +kernel) (Un.no 57 101 true rfl rfl rfl (congrArg Value.bool hb251)) ?_
                        refine DE.u 61 rfl (by decide +kernel) (Un.no 57 101 true rfl rfl rfl (congrArg Value.bool hb251)) ?_
                        refine DE.u 62 rfl (by decide +kernel) (Un.no 57 101 true rfl rfl rfl (congrArg Value.bool hb251)) ?_
                        refine DE.t 63 (v := (Value.bool false)) rfl (by decide +kernel) (Wn.yes 54 98 false rfl rfl rfl (congrArg Value.bool hb250)) rfl (R.pickF (congrArg Value.bool hb251) rfl) ?_
                        refine DE.t 64 (v := (Value.bool false)) rfl (by decide +kernel) (Wn.no rfl) rfl (R.pickF (congrArg Value.bool hb250) rfl) ?_
                        refine DE.done (by decide +kernel) ?_
                        exact ⟨_, h, f138, f139, f140, f141, f142, rfl⟩
                  · refine DE.u 45 rfl (by decide +kernel) (Un.no 44 88 true rfl rfl rfl (congrArg Value.bool hb245)) ?_
                    refine DE.u 46 rfl (by decide +kernel) (Un.no 44 88 true rfl rfl rfl (congrArg Value.bool hb245)) ?_
                    refine DE.u 47 rfl (by decide +kernel) (Un.no 44 88 true rfl rfl rfl (congrArg Value.bool hb245)) ?_
                    refine DE.u 48 rfl (by decide +kernel) (Un.no 44 88 true rfl rfl rfl (congrArg Value.bool hb245)) ?_
                    refine DE.u 49 rfl (by decide +kernel) (Un.no 44 88 true rfl rfl rfl (congrArg Value.bool hb245)) ?_
                    refine DE.u 50 rfl (by decide +kernel) (Un.no 44 88 true rfl rfl rfl (congrArg Value.bool hb245)) ?_
                    refine DE.u 51 rfl (by decide +kernel) (Un.no 44 88 true rfl rfl rfl (congrArg Value.bool hb245)) ?_
                    refine DE.t 52 (v := (Value.bool false)) rfl (by decide +kernel) (Wn.yes 41 85 false rfl rfl rfl rfl) rfl (R.pickF (congrArg Value.bool hb245) rfl) ?_
                    refine DE.t 53 (v := (Value.bool false)) rfl (by decide +kernel) (Wn.no rfl) rfl (R.pickF rfl rfl) ?_
                    refine DE.t 54 (v := (Value.bool false)) rfl (by decide +kernel) (Wn.no rfl) rfl (R.move rfl) ?_
                    refine DE.t 55 (v := (Value.int .i64 x3)) rfl (by decide +kernel) (Wn.yes 54 98 false rfl rfl rfl rfl) rfl (R.move f139) ?_
                    refine DE.t 56 (v := (Value.bool (decide ((6 : Int) ≤ x3)))) rfl (by decide +kernel) (Wn.yes 54 98 false rfl rfl rfl rfl) rfl (R.geq rfl rfl) ?_
                    refine DE.t 57 (v := (Value.bool (decide ((6 : Int) ≤ x3)))) rfl (by decide +kernel) (Wn.yes 54 98 false rfl rfl rfl rfl) rfl (R.move rfl) ?_
                    rcases M.ite_use h with ⟨hb256, h⟩ | ⟨hb256, h⟩
                    · refine DE.t 58 (v := (Value.pointer (some (x47.add 13)))) rfl (by decide +kernel) (Wn.yes 57 101 true rfl rfl rfl (congrArg Value.bool hb256)) rfl (R.fld (off := 13) fa37_1 f143) ?_
                      refine DE.t 60 (v := (Value.pointer (some (x48.add 13)))) rfl (by decide +kernel) (Wn.yes 57 101 true rfl rfl rfl (congrArg Value.bool hb256)) rfl (R.fld (off := 13) fa37_1 f144) ?_
                      obtain ⟨t257, h258, h⟩ := h
                      refine DE.hold 59 (fun w => w.cell? (x47.add 13) = some (Value.float .f64 t257)) (v := (Value.float .f64 t257)) rfl (by decide +kernel) (Wn.yes 57 101 true rfl rfl rfl (congrArg Value.bool hb256)) rfl h258 (fun w hs => R.ld sc35 rfl hs) ?_
                      obtain ⟨t259, h260, h⟩ := h
                      refine DE.main 61 (by decide +kernel) ?_
                      refine One.r 61 (v := (Value.float .f64 t259)) rfl (Wn.yes 57 101 true rfl rfl rfl (congrArg Value.bool hb256)) rfl (R.ld sc35 rfl h260) (.inl rfl) ?_
                      refine DE.t 62 (v := (Value.bool (fNeq t257 t259))) rfl (by decide +kernel) (Wn.yes 57 101 true rfl rfl rfl (congrArg Value.bool hb256)) rfl (R.fneq rfl rfl) ?_
                      refine DE.t 63 (v := (Value.bool (fNeq t257 t259))) rfl (by decide +kernel) (Wn.yes 54 98 false rfl rfl rfl rfl) rfl (R.pickT (congrArg Value.bool hb256) rfl) ?_
                      refine DE.t 64 (v := (Value.bool (fNeq t257 t259))) rfl (by decide +kernel) (Wn.no rfl) rfl (R.pickF rfl rfl) ?_
                      refine DE.done (by decide +kernel) ?_
                      exact ⟨_, h, f138, f139, f140, f141, f142, rfl⟩
                    · refine DE.u 58 rfl (by decide +kernel) (Un.no 57 101 true rfl rfl rfl (congrArg Value.bool hb256)) ?_
                      refine DE.u 59 rfl (by decide +kernel) (Un.no 57 101 true rfl rfl rfl (congrArg Value.bool hb256)) ?_
                      refine DE.u 60 rfl (by decide +kernel) (Un.no 57 101 true rfl rfl rfl (congrArg Value.bool hb256)) ?_
                      refine DE.u 61 rfl (by decide +kernel) (Un.no 57 101 true rfl rfl rfl (congrArg Value.bool hb256)) ?_
                      refine DE.u 62 rfl (by decide +kernel) (Un.no 57 101 true rfl rfl rfl (congrArg Value.bool hb256)) ?_
                      refine DE.t 63 (v := (Value.bool false)) rfl (by decide +kernel) (Wn.yes 54 98 false rfl rfl rfl rfl) rfl (R.pickF (congrArg Value.bool hb256) rfl) ?_
                      refine DE.t 64 (v := (Value.bool false)) rfl (by decide +kernel) (Wn.no rfl) rfl (R.pickF rfl rfl) ?_
                      refine DE.done (by decide +kernel) ?_
                      exact ⟨_, h, f138, f139, f140, f141, f142, rfl⟩
          · rintro e261 w262 ⟨x146, h, f263, f264, f265, f266, f267, f268⟩
            subst hJ145
            refine WE.condT rfl (b := x146) f268 ?_ ?_
            · intro hb269
              replace h := M.ite_t h hb269
              refine WE.seq ?_
              refine WE.reg ?_
              refine LE.p (v := (Value.bool false)) (Wn.no rfl) rfl (R.assign rfl) ?_
              refine LE.nil ?_
              refine WE.ret ?_
              exact ⟨_, (Res.tmp rfl Res.nil), _, rfl, h⟩
            · intro hb269
              replace h := M.ite_f h hb269
              refine WE.skip ?_
              refine WE.reg ?_
              refine LE.p (v := (Value.int .i64 x31)) (Wn.no rfl) rfl (R.move f267) ?_
              refine LE.p (v := (Value.int .i64 (IntKind.i64.wrap (x31 + (1 : Int))))) (Wn.no rfl) rfl (R.add rfl rfl) ?_
              refine LE.p (v := (Value.int .i64 (IntKind.i64.wrap (x31 + (1 : Int))))) (Wn.no rfl) rfl (R.assign rfl) ?_
              refine LE.nil ?_
              obtain ⟨m38, hm39, h⟩ := h
              exact ⟨m38, hm39, _, h, f263, f264, f265, f266, rfl⟩
      · intro hb45
        replace h := M.ite_f h hb45
        refine WE.exit ?_
        refine WE.reg ?_
        refine LE.p (v := (Value.int .i64 x17)) (Wn.no rfl) rfl (R.move f43) ?_
        refine LE.p (v := (Value.int .i64 (IntKind.i64.wrap (x17 + (1 : Int))))) (Wn.no rfl) rfl (R.add rfl rfl) ?_
        refine LE.p (v := (Value.int .i64 (IntKind.i64.wrap (x17 + (1 : Int))))) (Wn.no rfl) rfl (R.assign rfl) ?_
        refine LE.nil ?_
        obtain ⟨m24, hm25, h⟩ := h
        exact ⟨m24, hm25, _, h, f40, f41, f42, rfl⟩
    · intro hb30
      replace h := M.ite_f h hb30
      refine WE.exit ?_
      refine WE.reg ?_
      refine LE.p (v := (Value.int .i64 x3)) (Wn.no rfl) rfl (R.move f27) ?_
      refine LE.p (v := (Value.int .i64 (IntKind.i64.wrap (x3 + (1 : Int))))) (Wn.no rfl) rfl (R.add rfl rfl) ?_
      refine LE.p (v := (Value.int .i64 (IntKind.i64.wrap (x3 + (1 : Int))))) (Wn.no rfl) rfl (R.assign rfl) ?_
      refine LE.nil ?_
      obtain ⟨m10, hm11, h⟩ := h
      exact ⟨m10, hm11, _, h, f26, rfl⟩
  · intro hb14
    replace h := M.ite_f h hb14
    refine WE.exit ?_
    refine WE.seq ?_
    refine WE.reg ?_
    refine LE.c (Wn.no rfl) rfl (R.call bd11 Ls.nil rfl) (Calls.mono h ?_)
    rintro _ w271 ⟨r270, rfl, h⟩
    refine ⟨_, rfl, ?_⟩
    refine LE.p (v := (Value.bool r270)) (Wn.no rfl) rfl (R.assign rfl) ?_
    refine LE.nil ?_
    refine WE.ret ?_
    exact ⟨_, (Res.tmp rfl Res.nil), _, rfl, h⟩
end Go.Proofs.Ytmgigplbclkpaaa
