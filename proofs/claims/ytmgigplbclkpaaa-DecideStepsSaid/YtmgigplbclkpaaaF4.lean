/-
  Printed by gen.py: the formula of each function, and that it holds of the function.
-/
import Derived.Test.YtmgigplbclkpaaaTy
namespace Go.Proofs.Ytmgigplbclkpaaa
set_option linter.unusedVariables false
set_option linter.unusedSimpArgs false
open Go.Sp
set_option linter.unusedVariables false
/-- The formula of signpost.decide.beats. -/
def F34 (p0_0 : Int) (p0_1 : Int) (p0_2 : Int) (p0_3 : Bool) (p0_4 : Int) (p0_5 : SV) (p0_6 : Int) (p0_7 : Bool) (p0_8 : Int) (p0_9 : Bool) (p0_10 : Int) (p0_11 : Bool) (p0_12 : SV) (p0_13 : Nat) (p1_0 : Int) (p1_1 : Int) (p1_2 : Int) (p1_3 : Bool) (p1_4 : Int) (p1_5 : SV) (p1_6 : Int) (p1_7 : Bool) (p1_8 : Int) (p1_9 : Bool) (p1_10 : Int) (p1_11 : Bool) (p1_12 : SV) (p1_13 : Nat) (p2 : Int) (K : Bool → World → Prop) (w0 : World) : Prop :=
M.new (.cells #[(Value.int .i64 p0_0), (Value.int .u32 p0_1), (Value.int .u32 p0_2), (Value.bool p0_3), (Value.int .i64 p0_4), (SV.v p0_5), (Value.int .u32 p0_6), (Value.bool p0_7), (Value.int .u32 p0_8), (Value.bool p0_9), (Value.int .u32 p0_10), (Value.bool p0_11), (SV.v p0_12), (Value.float .f64 p0_13)] 37) w0 fun b2 w1 =>
M.new (.cells #[(Value.int .i64 p1_0), (Value.int .u32 p1_1), (Value.int .u32 p1_2), (Value.bool p1_3), (Value.int .i64 p1_4), (SV.v p1_5), (Value.int .u32 p1_6), (Value.bool p1_7), (Value.int .u32 p1_8), (Value.bool p1_9), (Value.int .u32 p1_10), (Value.bool p1_11), (SV.v p1_12), (Value.float .f64 p1_13)] 37) w1 fun b4 w3 =>
M.join (fun (x6 : Addr) (x7 : Addr) (w56 : World) => 
M.ite (p2 == (1 : Int)) (
M.drew w56 fun w63 => 
∃ (t64 : Int) (t65 : SV) (t66 : Int) (t67 : Bool) (t68 : Int) (t69 : Bool) (t70 : Int) (t71 : Bool) (t72 : SV), Cs w63 x6 0 [(Value.int .i64 t64), (SV.v t65), (Value.int .u32 t66), (Value.bool t67), (Value.int .u32 t68), (Value.bool t69), (Value.int .u32 t70), (Value.bool t71), (SV.v t72)] ∧
∃ (t74 : Int) (t75 : SV) (t76 : Int) (t77 : Bool) (t78 : Int) (t79 : Bool) (t80 : Int) (t81 : Bool) (t82 : SV), Cs w63 x7 0 [(Value.int .i64 t74), (SV.v t75), (Value.int .u32 t76), (Value.bool t77), (Value.int .u32 t78), (Value.bool t79), (Value.int .u32 t80), (Value.bool t81), (SV.v t82)] ∧
Calls Try.prog 15 #[(Value.agg #[(Value.int .i64 t64), (SV.v t65), (Value.int .u32 t66), (Value.bool t67), (Value.int .u32 t68), (Value.bool t69), (Value.int .u32 t70), (Value.bool t71), (SV.v t72)])] w63 (R15 fun r84 w85 =>
M.keep (Cs w85 x7 0 [(Value.int .i64 t74), (SV.v t75), (Value.int .u32 t76), (Value.bool t77), (Value.int .u32 t78), (Value.bool t79), (Value.int .u32 t80), (Value.bool t81), (SV.v t82)]) <|
Calls Try.prog 15 #[(Value.agg #[(Value.int .i64 t74), (SV.v t75), (Value.int .u32 t76), (Value.bool t77), (Value.int .u32 t78), (Value.bool t79), (Value.int .u32 t80), (Value.bool t81), (SV.v t82)])] w85 (R15 fun r87 w88 =>
K (decide (r84 < r87)) w88))) (
M.ite (p2 == (2 : Int)) (
M.drew w56 fun w90 => 
M.ld SV.v (x6.add 1) w90 fun t91 =>
M.ld SV.v (x7.add 1) w90 fun t93 =>
Calls Try.prog 39 #[(SV.v t91)] w90 (R39 fun r95 w96 =>
M.keep (w96.cell? (x7.add 1) = some (SV.v t93)) <|
Calls Try.prog 39 #[(SV.v t93)] w96 (R39 fun r98 w99 =>
K (decide (r98 < r95)) w99))) (
M.ite (p2 == (3 : Int)) (
M.ld (Value.int .i64) x6 w56 fun t101 =>
M.ld (Value.int .i64) x7 w56 fun t103 =>
K (decide (t103 < t101)) w56) (
M.ite (p2 == (4 : Int)) (
M.join (fun (x107 : Bool) (w158 : World) => 
K x107 w158) fun J106 => 
M.drew w56 fun w108 => 
∃ (t109 : Int) (t110 : SV) (t111 : Int) (t112 : Bool) (t113 : Int) (t114 : Bool) (t115 : Int) (t116 : Bool) (t117 : SV), Cs w108 x6 0 [(Value.int .i64 t109), (SV.v t110), (Value.int .u32 t111), (Value.bool t112), (Value.int .u32 t113), (Value.bool t114), (Value.int .u32 t115), (Value.bool t116), (SV.v t117)] ∧
∃ (t119 : Int) (t120 : SV) (t121 : Int) (t122 : Bool) (t123 : Int) (t124 : Bool) (t125 : Int) (t126 : Bool) (t127 : SV), Cs w108 x7 0 [(Value.int .i64 t119), (SV.v t120), (Value.int .u32 t121), (Value.bool t122), (Value.int .u32 t123), (Value.bool t124), (Value.int .u32 t125), (Value.bool t126), (SV.v t127)] ∧
Calls Try.prog 40 #[(Value.agg #[(Value.int .i64 t109), (SV.v t110), (Value.int .u32 t111), (Value.bool t112), (Value.int .u32 t113), (Value.bool t114), (Value.int .u32 t115), (Value.bool t116), (SV.v t117)]), (Value.agg #[(Value.int .i64 t119), (SV.v t120), (Value.int .u32 t121), (Value.bool t122), (Value.int .u32 t123), (Value.bool t124), (Value.int .u32 t125), (Value.bool t126), (SV.v t127)])] w108 (R40 fun r129 w130 =>
M.ite r129 (
∃ (t132 : Int) (t133 : SV) (t134 : Int) (t135 : Bool) (t136 : Int) (t137 : Bool) (t138 : Int) (t139 : Bool) (t140 : SV), Cs w130 x6 0 [(Value.int .i64 t132), (SV.v t133), (Value.int .u32 t134), (Value.bool t135), (Value.int .u32 t136), (Value.bool t137), (Value.int .u32 t138), (Value.bool t139), (SV.v t140)] ∧
∃ (t142 : Int) (t143 : SV) (t144 : Int) (t145 : Bool) (t146 : Int) (t147 : Bool) (t148 : Int) (t149 : Bool) (t150 : SV), Cs w130 x7 0 [(Value.int .i64 t142), (SV.v t143), (Value.int .u32 t144), (Value.bool t145), (Value.int .u32 t146), (Value.bool t147), (Value.int .u32 t148), (Value.bool t149), (SV.v t150)] ∧
Calls Try.prog 41 #[(Value.agg #[(Value.int .i64 t132), (SV.v t133), (Value.int .u32 t134), (Value.bool t135), (Value.int .u32 t136), (Value.bool t137), (Value.int .u32 t138), (Value.bool t139), (SV.v t140)])] w130 (R41 fun r152 w153 =>
M.keep (Cs w153 x7 0 [(Value.int .i64 t142), (SV.v t143), (Value.int .u32 t144), (Value.bool t145), (Value.int .u32 t146), (Value.bool t147), (Value.int .u32 t148), (Value.bool t149), (SV.v t150)]) <|
Calls Try.prog 41 #[(Value.agg #[(Value.int .i64 t142), (SV.v t143), (Value.int .u32 t144), (Value.bool t145), (Value.int .u32 t146), (Value.bool t147), (Value.int .u32 t148), (Value.bool t149), (SV.v t150)])] w153 (R41 fun r155 w156 =>
J106 (decide (r155 < r152)) w156))) (
J106 false w130))) (
M.ite (p2 == (5 : Int)) (
M.join (fun (x162 : Bool) (w169 : World) => 
K x162 w169) fun J161 => 
M.ld Value.bool (b2.add 3) w56 fun t163 =>
M.ite t163 (
M.ld Value.bool (b4.add 3) w56 fun t166 =>
J161 (!t166) w56) (
J161 false w56)) (
M.ite (p2 == (6 : Int)) (
M.ld (Value.float .f64) (b4.add 13) w56 fun t172 =>
M.ld (Value.float .f64) (b2.add 13) w56 fun t174 =>
Calls Try.prog 42 #[(Value.float .f64 t172), (Value.float .f64 t174)] w56 (R42 fun r176 w177 =>
K r176 w177)) (
∃ (t178 : Int) (t179 : Int) (t180 : Int) (t181 : Bool) (t182 : Int) (t183 : SV) (t184 : Int) (t185 : Bool) (t186 : Int) (t187 : Bool) (t188 : Int) (t189 : Bool) (t190 : SV) (t191 : Nat), Cs w56 b4 0 [(Value.int .i64 t178), (Value.int .u32 t179), (Value.int .u32 t180), (Value.bool t181), (Value.int .i64 t182), (SV.v t183), (Value.int .u32 t184), (Value.bool t185), (Value.int .u32 t186), (Value.bool t187), (Value.int .u32 t188), (Value.bool t189), (SV.v t190), (Value.float .f64 t191)] ∧
∃ (t193 : Int) (t194 : Int) (t195 : Int) (t196 : Bool) (t197 : Int) (t198 : SV) (t199 : Int) (t200 : Bool) (t201 : Int) (t202 : Bool) (t203 : Int) (t204 : Bool) (t205 : SV) (t206 : Nat), Cs w56 b2 0 [(Value.int .i64 t193), (Value.int .u32 t194), (Value.int .u32 t195), (Value.bool t196), (Value.int .i64 t197), (SV.v t198), (Value.int .u32 t199), (Value.bool t200), (Value.int .u32 t201), (Value.bool t202), (Value.int .u32 t203), (Value.bool t204), (SV.v t205), (Value.float .f64 t206)] ∧
Calls Try.prog 43 #[(Value.agg #[(Value.int .i64 t178), (Value.int .u32 t179), (Value.int .u32 t180), (Value.bool t181), (Value.int .i64 t182), (SV.v t183), (Value.int .u32 t184), (Value.bool t185), (Value.int .u32 t186), (Value.bool t187), (Value.int .u32 t188), (Value.bool t189), (SV.v t190), (Value.float .f64 t191)]), (Value.agg #[(Value.int .i64 t193), (Value.int .u32 t194), (Value.int .u32 t195), (Value.bool t196), (Value.int .i64 t197), (SV.v t198), (Value.int .u32 t199), (Value.bool t200), (Value.int .u32 t201), (Value.bool t202), (Value.int .u32 t203), (Value.bool t204), (SV.v t205), (Value.float .f64 t206)])] w56 (R43 fun r208 w209 =>
K r208 w209)))))))) fun J5 => 
M.drew w3 fun w8 => 
∃ (t9 : Int) (t10 : SV) (t11 : Int) (t12 : Bool) (t13 : Int) (t14 : Bool) (t15 : Int) (t16 : Bool) (t17 : SV), Cs w8 (b2.add 4) 0 [(Value.int .i64 t9), (SV.v t10), (Value.int .u32 t11), (Value.bool t12), (Value.int .u32 t13), (Value.bool t14), (Value.int .u32 t15), (Value.bool t16), (SV.v t17)] ∧
∃ (t19 : Int) (t20 : SV) (t21 : Int) (t22 : Bool) (t23 : Int) (t24 : Bool) (t25 : Int) (t26 : Bool) (t27 : SV), Cs w8 (b4.add 4) 0 [(Value.int .i64 t19), (SV.v t20), (Value.int .u32 t21), (Value.bool t22), (Value.int .u32 t23), (Value.bool t24), (Value.int .u32 t25), (Value.bool t26), (SV.v t27)] ∧
M.both (
M.new (.cells #[(Value.int .i64 (0 : Int)), (SV.v SV.nil), (Value.int .u32 (0 : Int)), (Value.bool false), (Value.int .u32 (0 : Int)), (Value.bool false), (Value.int .u32 (0 : Int)), (Value.bool false), (SV.v SV.nil)] 32) w8 fun b30 w29 =>
M.keep (Cs w29 (b4.add 4) 0 [(Value.int .i64 t19), (SV.v t20), (Value.int .u32 t21), (Value.bool t22), (Value.int .u32 t23), (Value.bool t24), (Value.int .u32 t25), (Value.bool t26), (SV.v t27)]) <|
M.keep (Cs w29 (b2.add 4) 0 [(Value.int .i64 t9), (SV.v t10), (Value.int .u32 t11), (Value.bool t12), (Value.int .u32 t13), (Value.bool t14), (Value.int .u32 t15), (Value.bool t16), (SV.v t17)]) <|
M.new (.cells #[(Value.int .i64 (0 : Int)), (SV.v SV.nil), (Value.int .u32 (0 : Int)), (Value.bool false), (Value.int .u32 (0 : Int)), (Value.bool false), (Value.int .u32 (0 : Int)), (Value.bool false), (SV.v SV.nil)] 32) w29 fun b34 w33 =>
M.keep (Cs w33 (b4.add 4) 0 [(Value.int .i64 t19), (SV.v t20), (Value.int .u32 t21), (Value.bool t22), (Value.int .u32 t23), (Value.bool t24), (Value.int .u32 t25), (Value.bool t26), (SV.v t27)]) <|
M.keep (Cs w33 (b2.add 4) 0 [(Value.int .i64 t9), (SV.v t10), (Value.int .u32 t11), (Value.bool t12), (Value.int .u32 t13), (Value.bool t14), (Value.int .u32 t15), (Value.bool t16), (SV.v t17)]) <|
M.stA b30 [(Value.int .i64 t9), (SV.v t10), (Value.int .u32 t11), (Value.bool t12), (Value.int .u32 t13), (Value.bool t14), (Value.int .u32 t15), (Value.bool t16), (SV.v t17)] w33 fun w37 =>
M.keep (Cs w37 (b4.add 4) 0 [(Value.int .i64 t19), (SV.v t20), (Value.int .u32 t21), (Value.bool t22), (Value.int .u32 t23), (Value.bool t24), (Value.int .u32 t25), (Value.bool t26), (SV.v t27)]) <|
M.stA b34 [(Value.int .i64 t19), (SV.v t20), (Value.int .u32 t21), (Value.bool t22), (Value.int .u32 t23), (Value.bool t24), (Value.int .u32 t25), (Value.bool t26), (SV.v t27)] w37 fun w40 =>
J5 b30 b34 w40) (
M.new (.cells #[(Value.int .i64 (0 : Int)), (SV.v SV.nil), (Value.int .u32 (0 : Int)), (Value.bool false), (Value.int .u32 (0 : Int)), (Value.bool false), (Value.int .u32 (0 : Int)), (Value.bool false), (SV.v SV.nil)] 32) w8 fun b43 w42 =>
M.keep (Cs w42 (b4.add 4) 0 [(Value.int .i64 t19), (SV.v t20), (Value.int .u32 t21), (Value.bool t22), (Value.int .u32 t23), (Value.bool t24), (Value.int .u32 t25), (Value.bool t26), (SV.v t27)]) <|
M.keep (Cs w42 (b2.add 4) 0 [(Value.int .i64 t9), (SV.v t10), (Value.int .u32 t11), (Value.bool t12), (Value.int .u32 t13), (Value.bool t14), (Value.int .u32 t15), (Value.bool t16), (SV.v t17)]) <|
M.new (.cells #[(Value.int .i64 (0 : Int)), (SV.v SV.nil), (Value.int .u32 (0 : Int)), (Value.bool false), (Value.int .u32 (0 : Int)), (Value.bool false), (Value.int .u32 (0 : Int)), (Value.bool false), (SV.v SV.nil)] 32) w42 fun b47 w46 =>
M.keep (Cs w46 (b4.add 4) 0 [(Value.int .i64 t19), (SV.v t20), (Value.int .u32 t21), (Value.bool t22), (Value.int .u32 t23), (Value.bool t24), (Value.int .u32 t25), (Value.bool t26), (SV.v t27)]) <|
M.keep (Cs w46 (b2.add 4) 0 [(Value.int .i64 t9), (SV.v t10), (Value.int .u32 t11), (Value.bool t12), (Value.int .u32 t13), (Value.bool t14), (Value.int .u32 t15), (Value.bool t16), (SV.v t17)]) <|
M.stA b47 [(Value.int .i64 t9), (SV.v t10), (Value.int .u32 t11), (Value.bool t12), (Value.int .u32 t13), (Value.bool t14), (Value.int .u32 t15), (Value.bool t16), (SV.v t17)] w46 fun w50 =>
M.keep (Cs w50 (b4.add 4) 0 [(Value.int .i64 t19), (SV.v t20), (Value.int .u32 t21), (Value.bool t22), (Value.int .u32 t23), (Value.bool t24), (Value.int .u32 t25), (Value.bool t26), (SV.v t27)]) <|
M.stA b43 [(Value.int .i64 t19), (SV.v t20), (Value.int .u32 t21), (Value.bool t22), (Value.int .u32 t23), (Value.bool t24), (Value.int .u32 t25), (Value.bool t26), (SV.v t27)] w50 fun w53 =>
J5 b47 b43 w53)
theorem F34_ok {w0 : World} {p0_0 : Int} {p0_1 : Int} {p0_2 : Int} {p0_3 : Bool} {p0_4 : Int} {p0_5 : SV} {p0_6 : Int} {p0_7 : Bool} {p0_8 : Int} {p0_9 : Bool} {p0_10 : Int} {p0_11 : Bool} {p0_12 : SV} {p0_13 : Nat} {p1_0 : Int} {p1_1 : Int} {p1_2 : Int} {p1_3 : Bool} {p1_4 : Int} {p1_5 : SV} {p1_6 : Int} {p1_7 : Bool} {p1_8 : Int} {p1_9 : Bool} {p1_10 : Int} {p1_11 : Bool} {p1_12 : SV} {p1_13 : Nat} {p2 : Int} {K : Bool → World → Prop} (h : F34 p0_0 p0_1 p0_2 p0_3 p0_4 p0_5 p0_6 p0_7 p0_8 p0_9 p0_10 p0_11 p0_12 p0_13 p1_0 p1_1 p1_2 p1_3 p1_4 p1_5 p1_6 p1_7 p1_8 p1_9 p1_10 p1_11 p1_12 p1_13 p2 K w0) : Calls Try.prog 34 #[(Value.agg #[(Value.int .i64 p0_0), (Value.int .u32 p0_1), (Value.int .u32 p0_2), (Value.bool p0_3), (Value.int .i64 p0_4), (SV.v p0_5), (Value.int .u32 p0_6), (Value.bool p0_7), (Value.int .u32 p0_8), (Value.bool p0_9), (Value.int .u32 p0_10), (Value.bool p0_11), (SV.v p0_12), (Value.float .f64 p0_13)]), (Value.agg #[(Value.int .i64 p1_0), (Value.int .u32 p1_1), (Value.int .u32 p1_2), (Value.bool p1_3), (Value.int .i64 p1_4), (SV.v p1_5), (Value.int .u32 p1_6), (Value.bool p1_7), (Value.int .u32 p1_8), (Value.bool p1_9), (Value.int .u32 p1_10), (Value.bool p1_11), (SV.v p1_12), (Value.float .f64 p1_13)]), (Value.int .i64 p2)] w0 (R34 K) := by
  refine calls_of_WE (args := [(Value.agg #[(Value.int .i64 p0_0), (Value.int .u32 p0_1), (Value.int .u32 p0_2), (Value.bool p0_3), (Value.int .i64 p0_4), (SV.v p0_5), (Value.int .u32 p0_6), (Value.bool p0_7), (Value.int .u32 p0_8), (Value.bool p0_9), (Value.int .u32 p0_10), (Value.bool p0_11), (SV.v p0_12), (Value.float .f64 p0_13)]), (Value.agg #[(Value.int .i64 p1_0), (Value.int .u32 p1_1), (Value.int .u32 p1_2), (Value.bool p1_3), (Value.int .i64 p1_4), (SV.v p1_5), (Value.int .u32 p1_6), (Value.bool p1_7), (Value.int .u32 p1_8), (Value.bool p1_9), (Value.int .u32 p1_10), (Value.bool p1_11), (SV.v p1_12), (Value.float .f64 p1_13)]), (Value.int .i64 p2)]) (rs := [.tmp 6]) Try.func34 rfl (N := 72) rfl rfl rfl rfl ?_
  refine WE.seq ?_
  refine WE.reg ?_
  obtain ⟨b2, hpb2, w1, hww1, h⟩ := M.new_use h
  refine LE.r (v := (Value.pointer (some b2))) (Wn.no rfl) rfl (R.box (cs := #[(Value.int .i64 p0_0), (Value.int .u32 p0_1), (Value.int .u32 p0_2), (Value.bool p0_3), (Value.int .i64 p0_4), (SV.v p0_5), (Value.int .u32 p0_6), (Value.bool p0_7), (Value.int .u32 p0_8), (Value.bool p0_9), (Value.int .u32 p0_10), (Value.bool p0_11), (SV.v p0_12), (Value.float .f64 p0_13)]) rfl rfl hpb2 hww1) ?_
  obtain ⟨b4, hpb4, w3, hww3, h⟩ := M.new_use h
  refine LE.r (v := (Value.pointer (some b4))) (Wn.no rfl) rfl (R.box (cs := #[(Value.int .i64 p1_0), (Value.int .u32 p1_1), (Value.int .u32 p1_2), (Value.bool p1_3), (Value.int .i64 p1_4), (SV.v p1_5), (Value.int .u32 p1_6), (Value.bool p1_7), (Value.int .u32 p1_8), (Value.bool p1_9), (Value.int .u32 p1_10), (Value.bool p1_11), (SV.v p1_12), (Value.float .f64 p1_13)]) rfl rfl hpb4 hww3) ?_
  refine LE.p (v := (Value.bool false)) (Wn.no rfl) rfl (R.assign rfl) ?_
  refine LE.nil ?_
  refine WE.seq ?_
  obtain ⟨J5, hJ5, h⟩ := M.join_use h
  refine WE.drawJ (fun e w => ∃ (x6 : Addr) (x7 : Addr), J5 x6 x7 w ∧ e 2 = (Value.int .i64 p2) ∧ e 3 = (Value.pointer (some b2)) ∧ e 4 = (Value.pointer (some b4)) ∧ e 7 = (Value.pointer (some x6)) ∧ e 8 = (Value.pointer (some x7))) mix ?_ ?_
  · clear hJ5
    obtain ⟨w8, hww8, h⟩ := M.drew_use h
    rw [← hww8]
    clear hww8
    refine DE.t 0 (v := (Value.pointer (some b2))) rfl (by kernel_rfl) (Wn.no rfl) rfl (R.fld (off := 0) fa37_0 rfl) ?_
    refine DE.t 1 (v := (Value.pointer (some (b2.add 4)))) rfl (by kernel_rfl) (Wn.no rfl) rfl (R.fld (off := 4) fa34_4 rfl) ?_
    refine DE.t 3 (v := (Value.pointer (some b4))) rfl (by kernel_rfl) (Wn.no rfl) rfl (R.fld (off := 0) fa37_0 rfl) ?_
    refine DE.t 4 (v := (Value.pointer (some (b4.add 4)))) rfl (by kernel_rfl) (Wn.no rfl) rfl (R.fld (off := 4) fa34_4 rfl) ?_
    obtain ⟨t9, t10, t11, t12, t13, t14, t15, t16, t17, h18, h⟩ := h
    refine DE.hold 2 (fun w => Cs w (b2.add 4) 0 [(Value.int .i64 t9), (SV.v t10), (Value.int .u32 t11), (Value.bool t12), (Value.int .u32 t13), (Value.bool t14), (Value.int .u32 t15), (Value.bool t16), (SV.v t17)]) (v := (Value.agg #[(Value.int .i64 t9), (SV.v t10), (Value.int .u32 t11), (Value.bool t12), (Value.int .u32 t13), (Value.bool t14), (Value.int .u32 t15), (Value.bool t16), (SV.v t17)])) rfl (by kernel_rfl) (Wn.no rfl) rfl h18 (fun w hs => R.ldA ag32 sz32 rfl rfl hs) ?_
    obtain ⟨t19, t20, t21, t22, t23, t24, t25, t26, t27, h28, h⟩ := h
    refine DE.hold 5 (fun w => Cs w (b4.add 4) 0 [(Value.int .i64 t19), (SV.v t20), (Value.int .u32 t21), (Value.bool t22), (Value.int .u32 t23), (Value.bool t24), (Value.int .u32 t25), (Value.bool t26), (SV.v t27)]) (v := (Value.agg #[(Value.int .i64 t19), (SV.v t20), (Value.int .u32 t21), (Value.bool t22), (Value.int .u32 t23), (Value.bool t24), (Value.int .u32 t25), (Value.bool t26), (SV.v t27)])) rfl (by kernel_rfl) (Wn.no rfl) rfl h28 (fun w hs => R.ldA ag32 sz32 rfl rfl hs) ?_
    refine DE.main2 6 7 (by kernel_rfl) ?_ ?_
    · replace h := h.1
      obtain ⟨b30, hpb30, w29, hww29, h⟩ := M.new_use h
      obtain ⟨k31, h⟩ := h
      obtain ⟨k32, h⟩ := h
      refine One.r 6 (v := (Value.pointer (some b30))) rfl (Wn.no rfl) rfl (R.alloc (cs := #[(Value.int .i64 (0 : Int)), (SV.v SV.nil), (Value.int .u32 (0 : Int)), (Value.bool false), (Value.int .u32 (0 : Int)), (Value.bool false), (Value.int .u32 (0 : Int)), (Value.bool false), (SV.v SV.nil)]) ze32 rfl hpb30 hww29) (.inr ⟨fun _ => k31, fun _ => k32, trivial⟩) ?_
      obtain ⟨b34, hpb34, w33, hww33, h⟩ := M.new_use h
      obtain ⟨k35, h⟩ := h
      obtain ⟨k36, h⟩ := h
      refine DE.main 7 (by kernel_rfl) ?_
      refine One.r 7 (v := (Value.pointer (some b34))) rfl (Wn.no rfl) rfl (R.alloc (cs := #[(Value.int .i64 (0 : Int)), (SV.v SV.nil), (Value.int .u32 (0 : Int)), (Value.bool false), (Value.int .u32 (0 : Int)), (Value.bool false), (Value.int .u32 (0 : Int)), (Value.bool false), (SV.v SV.nil)]) ze32 rfl hpb34 hww33) (.inr ⟨fun _ => k35, fun _ => k36, trivial⟩) ?_
      obtain ⟨w37, hww37, h38, h⟩ := M.stA_use h
      obtain ⟨k39, h⟩ := h
      refine DE.main 8 (by kernel_rfl) ?_
      refine One.s 8 rfl (Wn.no rfl) rfl (R.stA (a := b30) [(Value.int .i64 t9), (SV.v t10), (Value.int .u32 t11), (Value.bool t12), (Value.int .u32 t13), (Value.bool t14), (Value.int .u32 t15), (Value.bool t16), (SV.v t17)] sz32 rfl rfl rfl (by simp [Value.oneCell']) h38 hww37) ⟨fun _ => k39, aftT (by kernel_rfl), trivial⟩ ?_
      obtain ⟨w40, hww40, h41, h⟩ := M.stA_use h
      refine DE.main 9 (by kernel_rfl) ?_
      refine One.s 9 rfl (Wn.no rfl) rfl (R.stA (a := b34) [(Value.int .i64 t19), (SV.v t20), (Value.int .u32 t21), (Value.bool t22), (Value.int .u32 t23), (Value.bool t24), (Value.int .u32 t25), (Value.bool t26), (SV.v t27)] sz32 rfl rfl rfl (by simp [Value.oneCell']) h41 hww40) ⟨aftT (by kernel_rfl), aftT (by kernel_rfl), trivial⟩ ?_
      refine DE.done (by kernel_rfl) ?_
      exact ⟨_, _, h, rfl, rfl, rfl, rfl, rfl⟩
    · replace h := h.2
      obtain ⟨b43, hpb43, w42, hww42, h⟩ := M.new_use h
      obtain ⟨k44, h⟩ := h
      obtain ⟨k45, h⟩ := h
      refine One.r 7 (v := (Value.pointer (some b43))) rfl (Wn.no rfl) rfl (R.alloc (cs := #[(Value.int .i64 (0 : Int)), (SV.v SV.nil), (Value.int .u32 (0 : Int)), (Value.bool false), (Value.int .u32 (0 : Int)), (Value.bool false), (Value.int .u32 (0 : Int)), (Value.bool false), (SV.v SV.nil)]) ze32 rfl hpb43 hww42) (.inr ⟨fun _ => k44, fun _ => k45, trivial⟩) ?_
      obtain ⟨b47, hpb47, w46, hww46, h⟩ := M.new_use h
      obtain ⟨k48, h⟩ := h
      obtain ⟨k49, h⟩ := h
      refine DE.main 6 (by kernel_rfl) ?_
      refine One.r 6 (v := (Value.pointer (some b47))) rfl (Wn.no rfl) rfl (R.alloc (cs := #[(Value.int .i64 (0 : Int)), (SV.v SV.nil), (Value.int .u32 (0 : Int)), (Value.bool false), (Value.int .u32 (0 : Int)), (Value.bool false), (Value.int .u32 (0 : Int)), (Value.bool false), (SV.v SV.nil)]) ze32 rfl hpb47 hww46) (.inr ⟨fun _ => k48, fun _ => k49, trivial⟩) ?_
      obtain ⟨w50, hww50, h51, h⟩ := M.stA_use h
      obtain ⟨k52, h⟩ := h
      refine DE.main 8 (by kernel_rfl) ?_
      refine One.s 8 rfl (Wn.no rfl) rfl (R.stA (a := b47) [(Value.int .i64 t9), (SV.v t10), (Value.int .u32 t11), (Value.bool t12), (Value.int .u32 t13), (Value.bool t14), (Value.int .u32 t15), (Value.bool t16), (SV.v t17)] sz32 rfl rfl rfl (by simp [Value.oneCell']) h51 hww50) ⟨fun _ => k52, aftT (by kernel_rfl), trivial⟩ ?_
      obtain ⟨w53, hww53, h54, h⟩ := M.stA_use h
      refine DE.main 9 (by kernel_rfl) ?_
      refine One.s 9 rfl (Wn.no rfl) rfl (R.stA (a := b43) [(Value.int .i64 t19), (SV.v t20), (Value.int .u32 t21), (Value.bool t22), (Value.int .u32 t23), (Value.bool t24), (Value.int .u32 t25), (Value.bool t26), (SV.v t27)] sz32 rfl rfl rfl (by simp [Value.oneCell']) h54 hww53) ⟨aftT (by kernel_rfl), aftT (by kernel_rfl), trivial⟩ ?_
      refine DE.done (by kernel_rfl) ?_
      exact ⟨_, _, h, rfl, rfl, rfl, rfl, rfl⟩
  · rintro e55 w56 ⟨x6, x7, h, f57, f58, f59, f60, f61⟩
    subst hJ5
    refine WE.seq ?_
    refine WE.seq ?_
    refine WE.reg ?_
    refine LE.p (v := (Value.int .i64 p2)) (Wn.no rfl) rfl (R.move f57) ?_
    refine LE.nil ?_
    refine WE.block ?_
    refine WE.seq ?_
    refine WE.reg ?_
    refine LE.p (v := (Value.bool (p2 == (1 : Int)))) (Wn.no rfl) rfl (R.eql rfl rfl) ?_
    refine LE.p (v := (Value.bool (p2 == (1 : Int)))) (Wn.no rfl) rfl (R.assign rfl) ?_
    refine LE.nil ?_
    refine WE.condT rfl (b := (p2 == (1 : Int))) rfl ?_ ?_
    · intro hb62
      replace h := M.ite_t h hb62
      refine WE.seq ?_
      refine WE.draw mix ?_
      obtain ⟨w63, hww63, h⟩ := M.drew_use h
      rw [← hww63]
      clear hww63
      obtain ⟨t64, t65, t66, t67, t68, t69, t70, t71, t72, h73, h⟩ := h
      refine DE.hold 0 (fun w => Cs w x6 0 [(Value.int .i64 t64), (SV.v t65), (Value.int .u32 t66), (Value.bool t67), (Value.int .u32 t68), (Value.bool t69), (Value.int .u32 t70), (Value.bool t71), (SV.v t72)]) (v := (Value.agg #[(Value.int .i64 t64), (SV.v t65), (Value.int .u32 t66), (Value.bool t67), (Value.int .u32 t68), (Value.bool t69), (Value.int .u32 t70), (Value.bool t71), (SV.v t72)])) rfl (by kernel_rfl) (Wn.no rfl) rfl h73 (fun w hs => R.ldA ag32 sz32 f60 rfl hs) ?_
      obtain ⟨t74, t75, t76, t77, t78, t79, t80, t81, t82, h83, h⟩ := h
      refine DE.hold 2 (fun w => Cs w x7 0 [(Value.int .i64 t74), (SV.v t75), (Value.int .u32 t76), (Value.bool t77), (Value.int .u32 t78), (Value.bool t79), (Value.int .u32 t80), (Value.bool t81), (SV.v t82)]) (v := (Value.agg #[(Value.int .i64 t74), (SV.v t75), (Value.int .u32 t76), (Value.bool t77), (Value.int .u32 t78), (Value.bool t79), (Value.int .u32 t80), (Value.bool t81), (SV.v t82)])) rfl (by kernel_rfl) (Wn.no rfl) rfl h83 (fun w hs => R.ldA ag32 sz32 f61 rfl hs) ?_
      refine DE.main 1 (by kernel_rfl) ?_
      refine One.c 1 rfl (Wn.no rfl) rfl (R.call bd15 (Ls.cons rfl Ls.nil) rfl) (Calls.mono h ?_)
      rintro _ w85 ⟨r84, rfl, h⟩
      obtain ⟨k86, h⟩ := h
      refine ⟨_, rfl, ⟨fun _ => k86, aftT (by kernel_rfl), trivial⟩, ?_⟩
      refine DE.main 3 (by kernel_rfl) ?_
      refine One.c 3 rfl (Wn.no rfl) rfl (R.call bd15 (Ls.cons rfl Ls.nil) rfl) (Calls.mono h ?_)
      rintro _ w88 ⟨r87, rfl, h⟩
      refine ⟨_, rfl, ⟨aftT (by kernel_rfl), aftT (by kernel_rfl), trivial⟩, ?_⟩
      refine DE.t 4 (v := (Value.bool (decide (r84 < r87)))) rfl (by kernel_rfl) (Wn.no rfl) rfl (R.lss rfl rfl) ?_
      refine DE.t 5 (v := (Value.bool (decide (r84 < r87)))) rfl (by kernel_rfl) (Wn.no rfl) rfl (R.assign rfl) ?_
      refine DE.done (by kernel_rfl) ?_
      refine WE.ret ?_
      exact ⟨_, (Res.tmp rfl Res.nil), _, rfl, h⟩
    · intro hb62
      replace h := M.ite_f h hb62
      refine WE.seq ?_
      refine WE.reg ?_
      refine LE.p (v := (Value.bool (p2 == (2 : Int)))) (Wn.no rfl) rfl (R.eql rfl rfl) ?_
      refine LE.p (v := (Value.bool (p2 == (2 : Int)))) (Wn.no rfl) rfl (R.assign rfl) ?_
      refine LE.nil ?_
      refine WE.condT rfl (b := (p2 == (2 : Int))) rfl ?_ ?_
      · intro hb89
        replace h := M.ite_t h hb89
        refine WE.seq ?_
        refine WE.draw mix ?_
        obtain ⟨w90, hww90, h⟩ := M.drew_use h
        rw [← hww90]
        clear hww90
        refine DE.t 0 (v := (Value.pointer (some (x6.add 1)))) rfl (by kernel_rfl) (Wn.no rfl) rfl (R.fld (off := 1) fa32_1 f60) ?_
        refine DE.t 3 (v := (Value.pointer (some (x7.add 1)))) rfl (by kernel_rfl) (Wn.no rfl) rfl (R.fld (off := 1) fa32_1 f61) ?_
        obtain ⟨t91, h92, h⟩ := h
        refine DE.hold 1 (fun w => w.cell? (x6.add 1) = some (SV.v t91)) (v := (SV.v t91)) rfl (by kernel_rfl) (Wn.no rfl) rfl h92 (fun w hs => R.ld sc29 rfl hs) ?_
        obtain ⟨t93, h94, h⟩ := h
        refine DE.hold 4 (fun w => w.cell? (x7.add 1) = some (SV.v t93)) (v := (SV.v t93)) rfl (by kernel_rfl) (Wn.no rfl) rfl h94 (fun w hs => R.ld sc29 rfl hs) ?_
        refine DE.main 2 (by kernel_rfl) ?_
        refine One.c 2 rfl (Wn.no rfl) rfl (R.call bd39 (Ls.cons rfl Ls.nil) rfl) (Calls.mono h ?_)
        rintro _ w96 ⟨r95, rfl, h⟩
        obtain ⟨k97, h⟩ := h
        refine ⟨_, rfl, ⟨fun _ => k97, aftT (by kernel_rfl), trivial⟩, ?_⟩
        refine DE.main 5 (by kernel_rfl) ?_
        refine One.c 5 rfl (Wn.no rfl) rfl (R.call bd39 (Ls.cons rfl Ls.nil) rfl) (Calls.mono h ?_)
        rintro _ w99 ⟨r98, rfl, h⟩
        refine ⟨_, rfl, ⟨aftT (by kernel_rfl), aftT (by kernel_rfl), trivial⟩, ?_⟩
        refine DE.t 6 (v := (Value.bool (decide (r98 < r95)))) rfl (by kernel_rfl) (Wn.no rfl) rfl (R.gtr rfl rfl) ?_
        refine DE.t 7 (v := (Value.bool (decide (r98 < r95)))) rfl (by kernel_rfl) (Wn.no rfl) rfl (R.assign rfl) ?_
        refine DE.done (by kernel_rfl) ?_
        refine WE.ret ?_
        exact ⟨_, (Res.tmp rfl Res.nil), _, rfl, h⟩
      · intro hb89
        replace h := M.ite_f h hb89
        refine WE.seq ?_
        refine WE.reg ?_
        refine LE.p (v := (Value.bool (p2 == (3 : Int)))) (Wn.no rfl) rfl (R.eql rfl rfl) ?_
        refine LE.p (v := (Value.bool (p2 == (3 : Int)))) (Wn.no rfl) rfl (R.assign rfl) ?_
        refine LE.nil ?_
        refine WE.condT rfl (b := (p2 == (3 : Int))) rfl ?_ ?_
        · intro hb100
          replace h := M.ite_t h hb100
          refine WE.seq ?_
          refine WE.reg ?_
          refine LE.p (v := (Value.pointer (some x6))) (Wn.no rfl) rfl (R.fld (off := 0) fa32_0 f60) ?_
          obtain ⟨t101, h102, h⟩ := h
          refine LE.r (v := (Value.int .i64 t101)) (Wn.no rfl) rfl (R.ld sc3 rfl h102) ?_
          refine LE.p (v := (Value.pointer (some x7))) (Wn.no rfl) rfl (R.fld (off := 0) fa32_0 f61) ?_
          obtain ⟨t103, h104, h⟩ := h
          refine LE.r (v := (Value.int .i64 t103)) (Wn.no rfl) rfl (R.ld sc3 rfl h104) ?_
          refine LE.p (v := (Value.bool (decide (t103 < t101)))) (Wn.no rfl) rfl (R.gtr rfl rfl) ?_
          refine LE.p (v := (Value.bool (decide (t103 < t101)))) (Wn.no rfl) rfl (R.assign rfl) ?_
          refine LE.nil ?_
          refine WE.ret ?_
          exact ⟨_, (Res.tmp rfl Res.nil), _, rfl, h⟩
        · intro hb100
          replace h := M.ite_f h hb100
          refine WE.seq ?_
          refine WE.reg ?_
          refine LE.p (v := (Value.bool (p2 == (4 : Int)))) (Wn.no rfl) rfl (R.eql rfl rfl) ?_
          refine LE.p (v := (Value.bool (p2 == (4 : Int)))) (Wn.no rfl) rfl (R.assign rfl) ?_
          refine LE.nil ?_
          refine WE.condT rfl (b := (p2 == (4 : Int))) rfl ?_ ?_
          · intro hb105
            replace h := M.ite_t h hb105
            refine WE.seq ?_
            obtain ⟨J106, hJ106, h⟩ := M.join_use h
            refine WE.drawJ (fun e w => ∃ (x107 : Bool), J106 x107 w ∧ e 6 = (Value.bool x107)) mix ?_ ?_
            · clear hJ106
              obtain ⟨w108, hww108, h⟩ := M.drew_use h
              rw [← hww108]
              clear hww108
              obtain ⟨t109, t110, t111, t112, t113, t114, t115, t116, t117, h118, h⟩ := h
              refine DE.hold 0 (fun w => Cs w x6 0 [(Value.int .i64 t109), (SV.v t110), (Value.int .u32 t111), (Value.bool t112), (Value.int .u32 t113), (Value.bool t114), (Value.int .u32 t115), (Value.bool t116), (SV.v t117)]) (v := (Value.agg #[(Value.int .i64 t109), (SV.v t110), (Value.int .u32 t111), (Value.bool t112), (Value.int .u32 t113), (Value.bool t114), (Value.int .u32 t115), (Value.bool t116), (SV.v t117)])) rfl (by kernel_rfl) (Wn.no rfl) rfl h118 (fun w hs => R.ldA ag32 sz32 f60 rfl hs) ?_
              obtain ⟨t119, t120, t121, t122, t123, t124, t125, t126, t127, h128, h⟩ := h
              refine DE.main 1 (by kernel_rfl) ?_
              refine One.r 1 (v := (Value.agg #[(Value.int .i64 t119), (SV.v t120), (Value.int .u32 t121), (Value.bool t122), (Value.int .u32 t123), (Value.bool t124), (Value.int .u32 t125), (Value.bool t126), (SV.v t127)])) rfl (Wn.no rfl) rfl (R.ldA ag32 sz32 f61 rfl h128) (.inl rfl) ?_
              refine DE.main 2 (by kernel_rfl) ?_
              refine One.c 2 rfl (Wn.no rfl) rfl (R.call bd40 (Ls.cons rfl (Ls.cons rfl Ls.nil)) rfl) (Calls.mono h ?_)
              rintro _ w130 ⟨r129, rfl, h⟩
              refine ⟨_, rfl, ⟨aftT (by kernel_rfl), trivial⟩, ?_⟩
              refine DE.t 3 (v := (Value.bool r129)) rfl (by kernel_rfl) (Wn.no rfl) rfl (R.move rfl) ?_
              rcases M.ite_use h with ⟨hb131, h⟩ | ⟨hb131, h⟩
              · obtain ⟨t132, t133, t134, t135, t136, t137, t138, t139, t140, h141, h⟩ := h
                refine DE.hold 4 (fun w => Cs w x6 0 [(Value.int .i64 t132), (SV.v t133), (Value.int .u32 t134), (Value.bool t135), (Value.int .u32 t136), (Value.bool t137), (Value.int .u32 t138), (Value.bool t139), (SV.v t140)]) (v := (Value.agg #[(Value.int .i64 t132), (SV.v t133), (Value.int .u32 t134), (Value.bool t135), (Value.int .u32 t136), (Value.bool t137), (Value.int .u32 t138), (Value.bool t139), (SV.v t140)])) rfl (by kernel_rfl) (Wn.yes 3 44 true rfl rfl rfl (congrArg Value.bool hb131)) rfl h141 (fun w hs => R.ldA ag32 sz32 f60 rfl hs) ?_
                obtain ⟨t142, t143, t144, t145, t146, t147, t148, t149, t150, h151, h⟩ := h
                refine DE.hold 6 (fun w => Cs w x7 0 [(Value.int .i64 t142), (SV.v t143), (Value.int .u32 t144), (Value.bool t145), (Value.int .u32 t146), (Value.bool t147), (Value.int .u32 t148), (Value.bool t149), (SV.v t150)]) (v := (Value.agg #[(Value.int .i64 t142), (SV.v t143), (Value.int .u32 t144), (Value.bool t145), (Value.int .u32 t146), (Value.bool t147), (Value.int .u32 t148), (Value.bool t149), (SV.v t150)])) rfl (by kernel_rfl) (Wn.yes 3 44 true rfl rfl rfl (congrArg Value.bool hb131)) rfl h151 (fun w hs => R.ldA ag32 sz32 f61 rfl hs) ?_
                refine DE.main 5 (by kernel_rfl) ?_
                refine One.c 5 rfl (Wn.yes 3 44 true rfl rfl rfl (congrArg Value.bool hb131)) rfl (R.call bd41 (Ls.cons rfl Ls.nil) rfl) (Calls.mono h ?_)
                rintro _ w153 ⟨r152, rfl, h⟩
                obtain ⟨k154, h⟩ := h
                refine ⟨_, rfl, ⟨fun _ => k154, aftT (by kernel_rfl), aftT (by kernel_rfl), trivial⟩, ?_⟩
                refine DE.main 7 (by kernel_rfl) ?_
                refine One.c 7 rfl (Wn.yes 3 44 true rfl rfl rfl (congrArg Value.bool hb131)) rfl (R.call bd41 (Ls.cons rfl Ls.nil) rfl) (Calls.mono h ?_)
                rintro _ w156 ⟨r155, rfl, h⟩
                refine ⟨_, rfl, ⟨aftT (by kernel_rfl), aftT (by kernel_rfl), aftT (by kernel_rfl), trivial⟩, ?_⟩
                refine DE.t 8 (v := (Value.bool (decide (r155 < r152)))) rfl (by kernel_rfl) (Wn.yes 3 44 true rfl rfl rfl (congrArg Value.bool hb131)) rfl (R.gtr rfl rfl) ?_
                refine DE.t 9 (v := (Value.bool (decide (r155 < r152)))) rfl (by kernel_rfl) (Wn.no rfl) rfl (R.pickT (congrArg Value.bool hb131) rfl) ?_
                refine DE.t 10 (v := (Value.bool (decide (r155 < r152)))) rfl (by kernel_rfl) (Wn.no rfl) rfl (R.assign rfl) ?_
                refine DE.done (by kernel_rfl) ?_
                exact ⟨_, h, rfl⟩
              · refine DE.u 4 rfl (by kernel_rfl) (Un.no 3 44 true rfl rfl rfl (congrArg Value.bool hb131)) ?_
                refine DE.u 5 rfl (by kernel_rfl) (Un.no 3 44 true rfl rfl rfl (congrArg Value.bool hb131)) ?_
                refine DE.u 6 rfl (by kernel_rfl) (Un.no 3 44 true rfl rfl rfl (congrArg Value.bool hb131)) ?_
                refine DE.u 7 rfl (by kernel_rfl) (Un.no 3 44 true rfl rfl rfl (congrArg Value.bool hb131)) ?_
                refine DE.u 8 rfl (by kernel_rfl) (Un.no 3 44 true rfl rfl rfl (congrArg Value.bool hb131)) ?_
                refine DE.t 9 (v := (Value.bool false)) rfl (by kernel_rfl) (Wn.no rfl) rfl (R.pickF (congrArg Value.bool hb131) rfl) ?_
                refine DE.t 10 (v := (Value.bool false)) rfl (by kernel_rfl) (Wn.no rfl) rfl (R.assign rfl) ?_
                refine DE.done (by kernel_rfl) ?_
                exact ⟨_, h, rfl⟩
            · rintro e157 w158 ⟨x107, h, f159⟩
              subst hJ106
              refine WE.ret ?_
              exact ⟨_, (Res.tmp f159 Res.nil), _, rfl, h⟩
          · intro hb105
            replace h := M.ite_f h hb105
            refine WE.seq ?_
            refine WE.reg ?_
            refine LE.p (v := (Value.bool (p2 == (5 : Int)))) (Wn.no rfl) rfl (R.eql rfl rfl) ?_
            refine LE.p (v := (Value.bool (p2 == (5 : Int)))) (Wn.no rfl) rfl (R.assign rfl) ?_
            refine LE.nil ?_
            refine WE.condT rfl (b := (p2 == (5 : Int))) rfl ?_ ?_
            · intro hb160
              replace h := M.ite_t h hb160
              refine WE.seq ?_
              obtain ⟨J161, hJ161, h⟩ := M.join_use h
              refine WE.regJ (fun e w => ∃ (x162 : Bool), J161 x162 w ∧ e 6 = (Value.bool x162)) ?_ ?_
              · clear hJ161
                refine LE.p (v := (Value.pointer (some b2))) (Wn.no rfl) rfl (R.fld (off := 0) fa37_0 f58) ?_
                refine LE.p (v := (Value.pointer (some (b2.add 3)))) (Wn.no rfl) rfl (R.fld (off := 3) fa34_3 rfl) ?_
                obtain ⟨t163, h164, h⟩ := h
                refine LE.r (v := (Value.bool t163)) (Wn.no rfl) rfl (R.ld sc4 rfl h164) ?_
                refine LE.p (v := (Value.bool t163)) (Wn.no rfl) rfl (R.move rfl) ?_
                rcases M.ite_use h with ⟨hb165, h⟩ | ⟨hb165, h⟩
                · refine LE.p (v := (Value.pointer (some b4))) (Wn.yes 3 56 true rfl rfl rfl (congrArg Value.bool hb165)) rfl (R.fld (off := 0) fa37_0 f59) ?_
                  refine LE.p (v := (Value.pointer (some (b4.add 3)))) (Wn.yes 3 56 true rfl rfl rfl (congrArg Value.bool hb165)) rfl (R.fld (off := 3) fa34_3 rfl) ?_
                  obtain ⟨t166, h167, h⟩ := h
                  refine LE.r (v := (Value.bool t166)) (Wn.yes 3 56 true rfl rfl rfl (congrArg Value.bool hb165)) rfl (R.ld sc4 rfl h167) ?_
                  refine LE.p (v := (Value.bool (!t166))) (Wn.yes 3 56 true rfl rfl rfl (congrArg Value.bool hb165)) rfl (R.not rfl) ?_
                  refine LE.p (v := (Value.bool (!t166))) (Wn.no rfl) rfl (R.pickT (congrArg Value.bool hb165) rfl) ?_
                  refine LE.p (v := (Value.bool (!t166))) (Wn.no rfl) rfl (R.assign rfl) ?_
                  refine LE.nil ?_
                  exact ⟨_, h, rfl⟩
                · refine LE.u (Un.no 3 56 true rfl rfl rfl (congrArg Value.bool hb165)) ?_
                  refine LE.u (Un.no 3 56 true rfl rfl rfl (congrArg Value.bool hb165)) ?_
                  refine LE.u (Un.no 3 56 true rfl rfl rfl (congrArg Value.bool hb165)) ?_
                  refine LE.u (Un.no 3 56 true rfl rfl rfl (congrArg Value.bool hb165)) ?_
                  refine LE.p (v := (Value.bool false)) (Wn.no rfl) rfl (R.pickF (congrArg Value.bool hb165) rfl) ?_
                  refine LE.p (v := (Value.bool false)) (Wn.no rfl) rfl (R.assign rfl) ?_
                  refine LE.nil ?_
                  exact ⟨_, h, rfl⟩
              · rintro e168 w169 ⟨x162, h, f170⟩
                subst hJ161
                refine WE.ret ?_
                exact ⟨_, (Res.tmp f170 Res.nil), _, rfl, h⟩
            · intro hb160
              replace h := M.ite_f h hb160
              refine WE.seq ?_
              refine WE.reg ?_
              refine LE.p (v := (Value.bool (p2 == (6 : Int)))) (Wn.no rfl) rfl (R.eql rfl rfl) ?_
              refine LE.p (v := (Value.bool (p2 == (6 : Int)))) (Wn.no rfl) rfl (R.assign rfl) ?_
              refine LE.nil ?_
              refine WE.condT rfl (b := (p2 == (6 : Int))) rfl ?_ ?_
              · intro hb171
                replace h := M.ite_t h hb171
                refine WE.seq ?_
                refine WE.reg ?_
                refine LE.p (v := (Value.pointer (some (b4.add 13)))) (Wn.no rfl) rfl (R.fld (off := 13) fa37_1 f59) ?_
                obtain ⟨t172, h173, h⟩ := h
                refine LE.r (v := (Value.float .f64 t172)) (Wn.no rfl) rfl (R.ld sc35 rfl h173) ?_
                refine LE.p (v := (Value.pointer (some (b2.add 13)))) (Wn.no rfl) rfl (R.fld (off := 13) fa37_1 f58) ?_
                obtain ⟨t174, h175, h⟩ := h
                refine LE.r (v := (Value.float .f64 t174)) (Wn.no rfl) rfl (R.ld sc35 rfl h175) ?_
                refine LE.c (Wn.no rfl) rfl (R.call bd42 (Ls.cons rfl (Ls.cons rfl Ls.nil)) rfl) (Calls.mono h ?_)
                rintro _ w177 ⟨r176, rfl, h⟩
                refine ⟨_, rfl, ?_⟩
                refine LE.p (v := (Value.bool r176)) (Wn.no rfl) rfl (R.assign rfl) ?_
                refine LE.nil ?_
                refine WE.ret ?_
                exact ⟨_, (Res.tmp rfl Res.nil), _, rfl, h⟩
              · intro hb171
                replace h := M.ite_f h hb171
                refine WE.skip ?_
                refine WE.seq ?_
                refine WE.reg ?_
                obtain ⟨t178, t179, t180, t181, t182, t183, t184, t185, t186, t187, t188, t189, t190, t191, h192, h⟩ := h
                refine LE.r (v := (Value.agg #[(Value.int .i64 t178), (Value.int .u32 t179), (Value.int .u32 t180), (Value.bool t181), (Value.int .i64 t182), (SV.v t183), (Value.int .u32 t184), (Value.bool t185), (Value.int .u32 t186), (Value.bool t187), (Value.int .u32 t188), (Value.bool t189), (SV.v t190), (Value.float .f64 t191)])) (Wn.no rfl) rfl (R.ldA ag37 sz37 f59 rfl h192) ?_
                obtain ⟨t193, t194, t195, t196, t197, t198, t199, t200, t201, t202, t203, t204, t205, t206, h207, h⟩ := h
                refine LE.r (v := (Value.agg #[(Value.int .i64 t193), (Value.int .u32 t194), (Value.int .u32 t195), (Value.bool t196), (Value.int .i64 t197), (SV.v t198), (Value.int .u32 t199), (Value.bool t200), (Value.int .u32 t201), (Value.bool t202), (Value.int .u32 t203), (Value.bool t204), (SV.v t205), (Value.float .f64 t206)])) (Wn.no rfl) rfl (R.ldA ag37 sz37 f58 rfl h207) ?_
                refine LE.c (Wn.no rfl) rfl (R.call bd43 (Ls.cons rfl (Ls.cons rfl Ls.nil)) rfl) (Calls.mono h ?_)
                rintro _ w209 ⟨r208, rfl, h⟩
                refine ⟨_, rfl, ?_⟩
                refine LE.p (v := (Value.bool r208)) (Wn.no rfl) rfl (R.assign rfl) ?_
                refine LE.nil ?_
                refine WE.ret ?_
                exact ⟨_, (Res.tmp rfl Res.nil), _, rfl, h⟩
/-- The formula of signpost.signpostref17.Pref. -/
def F35 (p0_0 : Int) (p0_1 : SV) (p0_2 : Int) (p0_3 : Bool) (p0_4 : Int) (p0_5 : Bool) (p0_6 : Int) (p0_7 : Bool) (p0_8 : SV) (K : Int → World → Prop) (w0 : World) : Prop :=
M.new (.cells #[(Value.int .i64 p0_0), (SV.v p0_1), (Value.int .u32 p0_2), (Value.bool p0_3), (Value.int .u32 p0_4), (Value.bool p0_5), (Value.int .u32 p0_6), (Value.bool p0_7), (SV.v p0_8)] 32) w0 fun b2 w1 =>
M.ld Value.bool (b2.add 5) w1 fun t3 =>
M.ite t3 (
M.ld (Value.int .u32) (b2.add 6) w1 fun t6 =>
K t6 w1) (
K (100 : Int) w1)
theorem F35_ok {w0 : World} {p0_0 : Int} {p0_1 : SV} {p0_2 : Int} {p0_3 : Bool} {p0_4 : Int} {p0_5 : Bool} {p0_6 : Int} {p0_7 : Bool} {p0_8 : SV} {K : Int → World → Prop} (h : F35 p0_0 p0_1 p0_2 p0_3 p0_4 p0_5 p0_6 p0_7 p0_8 K w0) : Calls Try.prog 35 #[(Value.agg #[(Value.int .i64 p0_0), (SV.v p0_1), (Value.int .u32 p0_2), (Value.bool p0_3), (Value.int .u32 p0_4), (Value.bool p0_5), (Value.int .u32 p0_6), (Value.bool p0_7), (SV.v p0_8)])] w0 (R35 K) := by
  refine calls_of_WE (args := [(Value.agg #[(Value.int .i64 p0_0), (SV.v p0_1), (Value.int .u32 p0_2), (Value.bool p0_3), (Value.int .u32 p0_4), (Value.bool p0_5), (Value.int .u32 p0_6), (Value.bool p0_7), (SV.v p0_8)])]) (rs := [.tmp 2]) Try.func35 rfl (N := 7) rfl rfl rfl rfl ?_
  refine WE.seq ?_
  refine WE.reg ?_
  obtain ⟨b2, hpb2, w1, hww1, h⟩ := M.new_use h
  refine LE.r (v := (Value.pointer (some b2))) (Wn.no rfl) rfl (R.box (cs := #[(Value.int .i64 p0_0), (SV.v p0_1), (Value.int .u32 p0_2), (Value.bool p0_3), (Value.int .u32 p0_4), (Value.bool p0_5), (Value.int .u32 p0_6), (Value.bool p0_7), (SV.v p0_8)]) rfl rfl hpb2 hww1) ?_
  refine LE.p (v := (Value.int .u32 (0 : Int))) (Wn.no rfl) rfl (R.assign rfl) ?_
  refine LE.nil ?_
  refine WE.seq ?_
  refine WE.seq ?_
  refine WE.reg ?_
  refine LE.p (v := (Value.pointer (some (b2.add 5)))) (Wn.no rfl) rfl (R.fld (off := 5) fa32_5 rfl) ?_
  obtain ⟨t3, h4, h⟩ := h
  refine LE.r (v := (Value.bool t3)) (Wn.no rfl) rfl (R.ld sc4 rfl h4) ?_
  refine LE.nil ?_
  refine WE.condT rfl (b := t3) rfl ?_ ?_
  · intro hb5
    replace h := M.ite_t h hb5
    refine WE.seq ?_
    refine WE.reg ?_
    refine LE.p (v := (Value.pointer (some (b2.add 6)))) (Wn.no rfl) rfl (R.fld (off := 6) fa32_6 rfl) ?_
    obtain ⟨t6, h7, h⟩ := h
    refine LE.r (v := (Value.int .u32 t6)) (Wn.no rfl) rfl (R.ld sc28 rfl h7) ?_
    refine LE.p (v := (Value.int .u32 t6)) (Wn.no rfl) rfl (R.assign rfl) ?_
    refine LE.nil ?_
    refine WE.ret ?_
    exact ⟨_, (Res.tmp rfl Res.nil), _, rfl, h⟩
  · intro hb5
    replace h := M.ite_f h hb5
    refine WE.skip ?_
    refine WE.seq ?_
    refine WE.reg ?_
    refine LE.p (v := (Value.int .u32 (100 : Int))) (Wn.no rfl) rfl (R.assign rfl) ?_
    refine LE.nil ?_
    refine WE.ret ?_
    exact ⟨_, (Res.tmp rfl Res.nil), _, rfl, h⟩
/-- The formula of signpost.signpostref17.neighbour. -/
def F36 (p0_0 : Int) (p0_1 : SV) (p0_2 : Int) (p0_3 : Bool) (p0_4 : Int) (p0_5 : Bool) (p0_6 : Int) (p0_7 : Bool) (p0_8 : SV) (p1_0 : Int) (p1_1 : SV) (p1_2 : Int) (p1_3 : Bool) (p1_4 : Int) (p1_5 : Bool) (p1_6 : Int) (p1_7 : Bool) (p1_8 : SV) (K : Bool → World → Prop) (w0 : World) : Prop :=
M.new (.cells #[(Value.int .i64 p0_0), (SV.v p0_1), (Value.int .u32 p0_2), (Value.bool p0_3), (Value.int .u32 p0_4), (Value.bool p0_5), (Value.int .u32 p0_6), (Value.bool p0_7), (SV.v p0_8)] 32) w0 fun b2 w1 =>
M.new (.cells #[(Value.int .i64 p1_0), (SV.v p1_1), (Value.int .u32 p1_2), (Value.bool p1_3), (Value.int .u32 p1_4), (Value.bool p1_5), (Value.int .u32 p1_6), (Value.bool p1_7), (SV.v p1_8)] 32) w1 fun b4 w3 =>
M.ld SV.v (b2.add 1) w3 fun t5 =>
Calls Try.prog 44 #[(SV.v t5)] w3 (R44 fun r7 r8 w9 =>
M.ld SV.v (b4.add 1) w9 fun t10 =>
Calls Try.prog 44 #[(SV.v t10)] w9 (R44 fun r12 r13 w14 =>
M.join (fun (x16 : Bool) (w19 : World) => 
K x16 w19) fun J15 => 
M.ite (r8 == r13) (
J15 (r7 == r12) w14) (
J15 false w14)))
theorem F36_ok {w0 : World} {p0_0 : Int} {p0_1 : SV} {p0_2 : Int} {p0_3 : Bool} {p0_4 : Int} {p0_5 : Bool} {p0_6 : Int} {p0_7 : Bool} {p0_8 : SV} {p1_0 : Int} {p1_1 : SV} {p1_2 : Int} {p1_3 : Bool} {p1_4 : Int} {p1_5 : Bool} {p1_6 : Int} {p1_7 : Bool} {p1_8 : SV} {K : Bool → World → Prop} (h : F36 p0_0 p0_1 p0_2 p0_3 p0_4 p0_5 p0_6 p0_7 p0_8 p1_0 p1_1 p1_2 p1_3 p1_4 p1_5 p1_6 p1_7 p1_8 K w0) : Calls Try.prog 36 #[(Value.agg #[(Value.int .i64 p0_0), (SV.v p0_1), (Value.int .u32 p0_2), (Value.bool p0_3), (Value.int .u32 p0_4), (Value.bool p0_5), (Value.int .u32 p0_6), (Value.bool p0_7), (SV.v p0_8)]), (Value.agg #[(Value.int .i64 p1_0), (SV.v p1_1), (Value.int .u32 p1_2), (Value.bool p1_3), (Value.int .u32 p1_4), (Value.bool p1_5), (Value.int .u32 p1_6), (Value.bool p1_7), (SV.v p1_8)])] w0 (R36 K) := by
  refine calls_of_WE (args := [(Value.agg #[(Value.int .i64 p0_0), (SV.v p0_1), (Value.int .u32 p0_2), (Value.bool p0_3), (Value.int .u32 p0_4), (Value.bool p0_5), (Value.int .u32 p0_6), (Value.bool p0_7), (SV.v p0_8)]), (Value.agg #[(Value.int .i64 p1_0), (SV.v p1_1), (Value.int .u32 p1_2), (Value.bool p1_3), (Value.int .u32 p1_4), (Value.bool p1_5), (Value.int .u32 p1_6), (Value.bool p1_7), (SV.v p1_8)])]) (rs := [.tmp 4]) Try.func36 rfl (N := 29) rfl rfl rfl rfl ?_
  refine WE.seq ?_
  refine WE.reg ?_
  obtain ⟨b2, hpb2, w1, hww1, h⟩ := M.new_use h
  refine LE.r (v := (Value.pointer (some b2))) (Wn.no rfl) rfl (R.box (cs := #[(Value.int .i64 p0_0), (SV.v p0_1), (Value.int .u32 p0_2), (Value.bool p0_3), (Value.int .u32 p0_4), (Value.bool p0_5), (Value.int .u32 p0_6), (Value.bool p0_7), (SV.v p0_8)]) rfl rfl hpb2 hww1) ?_
  obtain ⟨b4, hpb4, w3, hww3, h⟩ := M.new_use h
  refine LE.r (v := (Value.pointer (some b4))) (Wn.no rfl) rfl (R.box (cs := #[(Value.int .i64 p1_0), (SV.v p1_1), (Value.int .u32 p1_2), (Value.bool p1_3), (Value.int .u32 p1_4), (Value.bool p1_5), (Value.int .u32 p1_6), (Value.bool p1_7), (SV.v p1_8)]) rfl rfl hpb4 hww3) ?_
  refine LE.p (v := (Value.bool false)) (Wn.no rfl) rfl (R.assign rfl) ?_
  refine LE.nil ?_
  refine WE.seq ?_
  refine WE.reg ?_
  refine LE.p (v := (Value.pointer (some (b2.add 1)))) (Wn.no rfl) rfl (R.fld (off := 1) fa32_1 rfl) ?_
  obtain ⟨t5, h6, h⟩ := h
  refine LE.r (v := (SV.v t5)) (Wn.no rfl) rfl (R.ld sc29 rfl h6) ?_
  refine LE.c (Wn.no rfl) rfl (R.call bd44 (Ls.cons rfl Ls.nil) rfl) (Calls.mono h ?_)
  rintro _ w9 ⟨r7, r8, rfl, h⟩
  refine ⟨_, rfl, ?_⟩
  refine LE.p (v := (Value.tuple #[(Value.int .u32 r7), (Value.bool r8)])) (Wn.no rfl) rfl (R.move rfl) ?_
  refine LE.p (v := (Value.int .u32 r7)) (Wn.no rfl) rfl (R.ext rfl rfl) ?_
  refine LE.p (v := (Value.bool r8)) (Wn.no rfl) rfl (R.ext rfl rfl) ?_
  refine LE.p (v := (Value.int .u32 r7)) (Wn.no rfl) rfl (R.assign rfl) ?_
  refine LE.p (v := (Value.bool r8)) (Wn.no rfl) rfl (R.assign rfl) ?_
  refine LE.nil ?_
  refine WE.seq ?_
  refine WE.reg ?_
  refine LE.p (v := (Value.pointer (some (b4.add 1)))) (Wn.no rfl) rfl (R.fld (off := 1) fa32_1 rfl) ?_
  obtain ⟨t10, h11, h⟩ := h
  refine LE.r (v := (SV.v t10)) (Wn.no rfl) rfl (R.ld sc29 rfl h11) ?_
  refine LE.c (Wn.no rfl) rfl (R.call bd44 (Ls.cons rfl Ls.nil) rfl) (Calls.mono h ?_)
  rintro _ w14 ⟨r12, r13, rfl, h⟩
  refine ⟨_, rfl, ?_⟩
  refine LE.p (v := (Value.tuple #[(Value.int .u32 r12), (Value.bool r13)])) (Wn.no rfl) rfl (R.move rfl) ?_
  refine LE.p (v := (Value.int .u32 r12)) (Wn.no rfl) rfl (R.ext rfl rfl) ?_
  refine LE.p (v := (Value.bool r13)) (Wn.no rfl) rfl (R.ext rfl rfl) ?_
  refine LE.p (v := (Value.int .u32 r12)) (Wn.no rfl) rfl (R.assign rfl) ?_
  refine LE.p (v := (Value.bool r13)) (Wn.no rfl) rfl (R.assign rfl) ?_
  refine LE.nil ?_
  refine WE.seq ?_
  obtain ⟨J15, hJ15, h⟩ := M.join_use h
  refine WE.regJ (fun e w => ∃ (x16 : Bool), J15 x16 w ∧ e 4 = (Value.bool x16)) ?_ ?_
  · clear hJ15
    refine LE.p (v := (Value.bool r8)) (Wn.no rfl) rfl (R.move rfl) ?_
    refine LE.p (v := (Value.bool r13)) (Wn.no rfl) rfl (R.move rfl) ?_
    refine LE.p (v := (Value.bool (r8 == r13))) (Wn.no rfl) rfl (R.beql bo4 rfl rfl) ?_
    refine LE.p (v := (Value.bool (r8 == r13))) (Wn.no rfl) rfl (R.move rfl) ?_
    rcases M.ite_use h with ⟨hb17, h⟩ | ⟨hb17, h⟩
    · refine LE.p (v := (Value.int .u32 r7)) (Wn.yes 3 24 true rfl rfl rfl (congrArg Value.bool hb17)) rfl (R.move rfl) ?_
      refine LE.p (v := (Value.int .u32 r12)) (Wn.yes 3 24 true rfl rfl rfl (congrArg Value.bool hb17)) rfl (R.move rfl) ?_
      refine LE.p (v := (Value.bool (r7 == r12))) (Wn.yes 3 24 true rfl rfl rfl (congrArg Value.bool hb17)) rfl (R.eql rfl rfl) ?_
      refine LE.p (v := (Value.bool (r7 == r12))) (Wn.no rfl) rfl (R.pickT (congrArg Value.bool hb17) rfl) ?_
      refine LE.p (v := (Value.bool (r7 == r12))) (Wn.no rfl) rfl (R.assign rfl) ?_
      refine LE.nil ?_
      exact ⟨_, h, rfl⟩
    · refine LE.u (Un.no 3 24 true rfl rfl rfl (congrArg Value.bool hb17)) ?_
      refine LE.u (Un.no 3 24 true rfl rfl rfl (congrArg Value.bool hb17)) ?_
      refine LE.u (Un.no 3 24 true rfl rfl rfl (congrArg Value.bool hb17)) ?_
      refine LE.p (v := (Value.bool false)) (Wn.no rfl) rfl (R.pickF (congrArg Value.bool hb17) rfl) ?_
      refine LE.p (v := (Value.bool false)) (Wn.no rfl) rfl (R.assign rfl) ?_
      refine LE.nil ?_
      exact ⟨_, h, rfl⟩
  · rintro e18 w19 ⟨x16, h, f20⟩
    subst hJ15
    refine WE.ret ?_
    exact ⟨_, (Res.tmp f20 Res.nil), _, rfl, h⟩
/-- The formula of signpost.signpostref17.med. -/
def F37 (p0_0 : Int) (p0_1 : SV) (p0_2 : Int) (p0_3 : Bool) (p0_4 : Int) (p0_5 : Bool) (p0_6 : Int) (p0_7 : Bool) (p0_8 : SV) (K : Int → World → Prop) (w0 : World) : Prop :=
M.new (.cells #[(Value.int .i64 p0_0), (SV.v p0_1), (Value.int .u32 p0_2), (Value.bool p0_3), (Value.int .u32 p0_4), (Value.bool p0_5), (Value.int .u32 p0_6), (Value.bool p0_7), (SV.v p0_8)] 32) w0 fun b2 w1 =>
M.ld Value.bool (b2.add 3) w1 fun t3 =>
M.ite t3 (
M.ld (Value.int .u32) (b2.add 4) w1 fun t6 =>
K t6 w1) (
K (0 : Int) w1)
theorem F37_ok {w0 : World} {p0_0 : Int} {p0_1 : SV} {p0_2 : Int} {p0_3 : Bool} {p0_4 : Int} {p0_5 : Bool} {p0_6 : Int} {p0_7 : Bool} {p0_8 : SV} {K : Int → World → Prop} (h : F37 p0_0 p0_1 p0_2 p0_3 p0_4 p0_5 p0_6 p0_7 p0_8 K w0) : Calls Try.prog 37 #[(Value.agg #[(Value.int .i64 p0_0), (SV.v p0_1), (Value.int .u32 p0_2), (Value.bool p0_3), (Value.int .u32 p0_4), (Value.bool p0_5), (Value.int .u32 p0_6), (Value.bool p0_7), (SV.v p0_8)])] w0 (R37 K) := by
  refine calls_of_WE (args := [(Value.agg #[(Value.int .i64 p0_0), (SV.v p0_1), (Value.int .u32 p0_2), (Value.bool p0_3), (Value.int .u32 p0_4), (Value.bool p0_5), (Value.int .u32 p0_6), (Value.bool p0_7), (SV.v p0_8)])]) (rs := [.tmp 2]) Try.func37 rfl (N := 7) rfl rfl rfl rfl ?_
  refine WE.seq ?_
  refine WE.reg ?_
  obtain ⟨b2, hpb2, w1, hww1, h⟩ := M.new_use h
  refine LE.r (v := (Value.pointer (some b2))) (Wn.no rfl) rfl (R.box (cs := #[(Value.int .i64 p0_0), (SV.v p0_1), (Value.int .u32 p0_2), (Value.bool p0_3), (Value.int .u32 p0_4), (Value.bool p0_5), (Value.int .u32 p0_6), (Value.bool p0_7), (SV.v p0_8)]) rfl rfl hpb2 hww1) ?_
  refine LE.p (v := (Value.int .u32 (0 : Int))) (Wn.no rfl) rfl (R.assign rfl) ?_
  refine LE.nil ?_
  refine WE.seq ?_
  refine WE.seq ?_
  refine WE.reg ?_
  refine LE.p (v := (Value.pointer (some (b2.add 3)))) (Wn.no rfl) rfl (R.fld (off := 3) fa32_3 rfl) ?_
  obtain ⟨t3, h4, h⟩ := h
  refine LE.r (v := (Value.bool t3)) (Wn.no rfl) rfl (R.ld sc4 rfl h4) ?_
  refine LE.nil ?_
  refine WE.condT rfl (b := t3) rfl ?_ ?_
  · intro hb5
    replace h := M.ite_t h hb5
    refine WE.seq ?_
    refine WE.reg ?_
    refine LE.p (v := (Value.pointer (some (b2.add 4)))) (Wn.no rfl) rfl (R.fld (off := 4) fa32_4 rfl) ?_
    obtain ⟨t6, h7, h⟩ := h
    refine LE.r (v := (Value.int .u32 t6)) (Wn.no rfl) rfl (R.ld sc28 rfl h7) ?_
    refine LE.p (v := (Value.int .u32 t6)) (Wn.no rfl) rfl (R.assign rfl) ?_
    refine LE.nil ?_
    refine WE.ret ?_
    exact ⟨_, (Res.tmp rfl Res.nil), _, rfl, h⟩
  · intro hb5
    replace h := M.ite_f h hb5
    refine WE.skip ?_
    refine WE.seq ?_
    refine WE.reg ?_
    refine LE.p (v := (Value.int .u32 (0 : Int))) (Wn.no rfl) rfl (R.assign rfl) ?_
    refine LE.nil ?_
    refine WE.ret ?_
    exact ⟨_, (Res.tmp rfl Res.nil), _, rfl, h⟩
/-- The formula of signpost.signpostref2.Less. -/
def F38 (p0 : Nat) (p1 : Nat) (K : Bool → World → Prop) (w0 : World) : Prop :=
Calls Try.prog 45 #[(Value.float .f64 p0)] w0 (R45 fun r1 w2 =>
Calls Try.prog 45 #[(Value.float .f64 p1)] w2 (R45 fun r3 w4 =>
K (fLss r1 r3) w4))
theorem F38_ok {w0 : World} {p0 : Nat} {p1 : Nat} {K : Bool → World → Prop} (h : F38 p0 p1 K w0) : Calls Try.prog 38 #[(Value.float .f64 p0), (Value.float .f64 p1)] w0 (R38 K) := by
  refine calls_of_WE (args := [(Value.float .f64 p0), (Value.float .f64 p1)]) (rs := [.tmp 4]) Try.func38 rfl (N := 10) rfl rfl rfl rfl ?_
  refine WE.seq ?_
  refine WE.reg ?_
  refine LE.p (v := (Value.bool false)) (Wn.no rfl) rfl (R.assign rfl) ?_
  refine LE.nil ?_
  refine WE.seq ?_
  refine WE.reg ?_
  refine LE.p (v := (Value.float .f64 p0)) (Wn.no rfl) rfl (R.move rfl) ?_
  refine LE.c (Wn.no rfl) rfl (R.call bd45 (Ls.cons rfl Ls.nil) rfl) (Calls.mono h ?_)
  rintro _ w2 ⟨r1, rfl, h⟩
  refine ⟨_, rfl, ?_⟩
  refine LE.p (v := (Value.float .f64 p1)) (Wn.no rfl) rfl (R.move rfl) ?_
  refine LE.c (Wn.no rfl) rfl (R.call bd45 (Ls.cons rfl Ls.nil) rfl) (Calls.mono h ?_)
  rintro _ w4 ⟨r3, rfl, h⟩
  refine ⟨_, rfl, ?_⟩
  refine LE.p (v := (Value.bool (fLss r1 r3))) (Wn.no rfl) rfl (R.flss rfl rfl) ?_
  refine LE.p (v := (Value.bool (fLss r1 r3))) (Wn.no rfl) rfl (R.assign rfl) ?_
  refine LE.nil ?_
  refine WE.ret ?_
  exact ⟨_, (Res.tmp rfl Res.nil), _, rfl, h⟩
/-- The formula of signpost.aspath.Count. -/
def F39 (p0 : SV) (K : Int → World → Prop) (w0 : World) : Prop :=
M.loop2 (fun (J3 : Int → Int → World → Prop) (x1 : Int) (x2 : Int) (w4 : World) => 
M.ite (decide (x2 < (p0.len : Int))) (
M.idx p0 x2 2 fun a16 =>
M.ld (Value.int .i64) (a16.add (x2.toNat * 2)) w4 fun t20 =>
M.ld SV.v ((a16.add (x2.toNat * 2)).add 1) w4 fun t22 =>
M.new (.cells #[(Value.int .i64 (0 : Int)), (SV.v SV.nil)] 50) w4 fun b25 w24 =>
M.stA b25 [(Value.int .i64 t20), (SV.v t22)] w24 fun w26 =>
M.ld (Value.int .i64) b25 w26 fun t28 =>
M.join (fun (x31 : Int) (w37 : World) => 
J3 x31 (IntKind.i64.wrap (x2 + (1 : Int))) w37) fun J30 => 
M.ite (t28 == (2 : Int)) (
M.ld SV.v (b25.add 1) w26 fun t33 =>
J30 (IntKind.i64.wrap (x1 + (t33.len : Int))) w26) (
M.ite (t28 == (1 : Int)) (
J30 (IntKind.i64.wrap (x1 + (1 : Int))) w26) (
J30 x1 w26))) (
K x1 w4)) (0 : Int) (0 : Int) w0
theorem F39_ok {w0 : World} {p0 : SV} {K : Int → World → Prop} (h : F39 p0 K w0) : Calls Try.prog 39 #[(SV.v p0)] w0 (R39 K) := by
  refine calls_of_WE (args := [(SV.v p0)]) (rs := [.tmp 2]) Try.func39 rfl (N := 27) rfl rfl rfl rfl ?_
  refine WE.seq ?_
  refine WE.reg ?_
  refine LE.p (v := (Value.int .i64 (0 : Int))) (Wn.no rfl) rfl (R.assign rfl) ?_
  refine LE.nil ?_
  refine WE.seq ?_
  refine WE.reg ?_
  refine LE.p (v := (Value.int .i64 (0 : Int))) (Wn.no rfl) rfl (R.assign rfl) ?_
  refine LE.nil ?_
  refine WE.seq ?_
  refine WE.seq ?_
  refine WE.reg ?_
  refine LE.p (v := (SV.v p0)) (Wn.no rfl) rfl (R.move rfl) ?_
  refine LE.p (v := (Value.int .i64 (p0.len : Int))) (Wn.no rfl) rfl (R.len sl29 rfl) ?_
  refine LE.p (v := (Value.int .i64 (0 : Int))) (Wn.no rfl) rfl (R.move rfl) ?_
  refine LE.nil ?_
  refine WE.block ?_
  obtain ⟨I7, ⟨n6, h⟩, hr8⟩ := h
  refine WE.loop (fun n e w => ∃ (x1 : Int) (x2 : Int), I7 n x1 x2 w ∧ e 3 = (Value.int .i64 x1) ∧ e 6 = (SV.v p0) ∧ e 7 = (Value.int .i64 (p0.len : Int)) ∧ e 8 = (Value.int .i64 x2)) n6 ⟨_, _, h, rfl, rfl, rfl, rfl⟩ ?_
  clear h
  rintro n6 e5 w4 ⟨x1, x2, h, f11, f12, f13, f14⟩
  replace h := hr8 n6 x1 x2 w4 h
  refine WE.seq ?_
  refine WE.reg ?_
  refine LE.p (v := (Value.bool (decide (x2 < (p0.len : Int))))) (Wn.no rfl) rfl (R.lss f14 f13) ?_
  refine LE.nil ?_
  refine WE.seq ?_
  refine WE.condT rfl (b := (decide (x2 < (p0.len : Int)))) rfl ?_ ?_
  · intro hb15
    replace h := M.ite_t h hb15
    refine WE.skip ?_
    refine WE.seq ?_
    refine WE.block ?_
    refine WE.seq ?_
    refine WE.reg ?_
    obtain ⟨a16, h17, h18, h19, h⟩ := h
    refine LE.p (v := (Value.pointer (some (a16.add (x2.toNat * 2))))) (Wn.no rfl) rfl (R.idx (s := p0) sl29 f12 f14 h17 h18 h19) ?_
    obtain ⟨t20, h21, h⟩ := h
    obtain ⟨t22, h23, h⟩ := h
    refine LE.r (v := (Value.agg #[(Value.int .i64 t20), (SV.v t22)])) (Wn.no rfl) rfl (R.ldA ag50 sz50 rfl rfl (Cs.cons h21 (Cs.cons h23 Cs.nil))) ?_
    obtain ⟨b25, hpb25, w24, hww24, h⟩ := M.new_use h
    refine LE.r (v := (Value.pointer (some b25))) (Wn.no rfl) rfl (R.alloc (cs := #[(Value.int .i64 (0 : Int)), (SV.v SV.nil)]) ze50 rfl hpb25 hww24) ?_
    obtain ⟨w26, hww26, h27, h⟩ := M.stA_use h
    refine LE.s (Wn.no rfl) rfl (R.stA (a := b25) [(Value.int .i64 t20), (SV.v t22)] sz50 rfl rfl rfl (by simp [Value.oneCell']) h27 hww26) ?_
    refine LE.nil ?_
    refine WE.seq ?_
    refine WE.reg ?_
    refine LE.p (v := (Value.pointer (some b25))) (Wn.no rfl) rfl (R.fld (off := 0) fa50_0 rfl) ?_
    obtain ⟨t28, h29, h⟩ := h
    refine LE.r (v := (Value.int .i64 t28)) (Wn.no rfl) rfl (R.ld sc3 rfl h29) ?_
    refine LE.nil ?_
    obtain ⟨J30, hJ30, h⟩ := M.join_use h
    refine WE.blkJ (fun e w => ∃ (x31 : Int), J30 x31 w ∧ e 3 = (Value.int .i64 x31) ∧ e 6 = (SV.v p0) ∧ e 7 = (Value.int .i64 (p0.len : Int)) ∧ e 8 = (Value.int .i64 x2)) ?_ ?_
    · clear hJ30
      refine WE.seq ?_
      refine WE.reg ?_
      refine LE.p (v := (Value.bool (t28 == (2 : Int)))) (Wn.no rfl) rfl (R.eql rfl rfl) ?_
      refine LE.p (v := (Value.bool (t28 == (2 : Int)))) (Wn.no rfl) rfl (R.assign rfl) ?_
      refine LE.nil ?_
      refine WE.condT rfl (b := (t28 == (2 : Int))) rfl ?_ ?_
      · intro hb32
        replace h := M.ite_t h hb32
        refine WE.reg ?_
        refine LE.p (v := (Value.int .i64 x1)) (Wn.no rfl) rfl (R.move f11) ?_
        refine LE.p (v := (Value.pointer (some (b25.add 1)))) (Wn.no rfl) rfl (R.fld (off := 1) fa50_1 rfl) ?_
        obtain ⟨t33, h34, h⟩ := h
        refine LE.r (v := (SV.v t33)) (Wn.no rfl) rfl (R.ld sc30 rfl h34) ?_
        refine LE.p (v := (Value.int .i64 (t33.len : Int))) (Wn.no rfl) rfl (R.len sl30 rfl) ?_
        refine LE.p (v := (Value.int .i64 (IntKind.i64.wrap (x1 + (t33.len : Int))))) (Wn.no rfl) rfl (R.add rfl rfl) ?_
        refine LE.p (v := (Value.int .i64 (IntKind.i64.wrap (x1 + (t33.len : Int))))) (Wn.no rfl) rfl (R.assign rfl) ?_
        refine LE.nil ?_
        exact ⟨_, h, rfl, f12, f13, f14⟩
      · intro hb32
        replace h := M.ite_f h hb32
        refine WE.seq ?_
        refine WE.reg ?_
        refine LE.p (v := (Value.bool (t28 == (1 : Int)))) (Wn.no rfl) rfl (R.eql rfl rfl) ?_
        refine LE.p (v := (Value.bool (t28 == (1 : Int)))) (Wn.no rfl) rfl (R.assign rfl) ?_
        refine LE.nil ?_
        refine WE.condT rfl (b := (t28 == (1 : Int))) rfl ?_ ?_
        · intro hb35
          replace h := M.ite_t h hb35
          refine WE.reg ?_
          refine LE.p (v := (Value.int .i64 x1)) (Wn.no rfl) rfl (R.move f11) ?_
          refine LE.p (v := (Value.int .i64 (IntKind.i64.wrap (x1 + (1 : Int))))) (Wn.no rfl) rfl (R.add rfl rfl) ?_
          refine LE.p (v := (Value.int .i64 (IntKind.i64.wrap (x1 + (1 : Int))))) (Wn.no rfl) rfl (R.assign rfl) ?_
          refine LE.nil ?_
          exact ⟨_, h, rfl, f12, f13, f14⟩
        · intro hb35
          replace h := M.ite_f h hb35
          refine WE.skip ?_
          exact ⟨_, h, f11, f12, f13, f14⟩
    · rintro e36 w37 ⟨x31, h, f38, f39, f40, f41⟩
      subst hJ30
      refine WE.reg ?_
      refine LE.p (v := (Value.int .i64 (IntKind.i64.wrap (x2 + (1 : Int))))) (Wn.no rfl) rfl (R.add f41 rfl) ?_
      refine LE.p (v := (Value.int .i64 (IntKind.i64.wrap (x2 + (1 : Int))))) (Wn.no rfl) rfl (R.move rfl) ?_
      refine LE.nil ?_
      obtain ⟨m9, hm10, h⟩ := h
      exact ⟨m9, hm10, _, _, h, f38, f39, f40, rfl⟩
  · intro hb15
    replace h := M.ite_f h hb15
    refine WE.exit ?_
    refine WE.seq ?_
    refine WE.reg ?_
    refine LE.p (v := (Value.int .i64 x1)) (Wn.no rfl) rfl (R.move f11) ?_
    refine LE.p (v := (Value.int .i64 x1)) (Wn.no rfl) rfl (R.assign rfl) ?_
    refine LE.nil ?_
    refine WE.ret ?_
    exact ⟨_, (Res.tmp rfl Res.nil), _, rfl, h⟩
/-- The formula of signpost.decide.fellows. -/
def F40 (p0_0 : Int) (p0_1 : SV) (p0_2 : Int) (p0_3 : Bool) (p0_4 : Int) (p0_5 : Bool) (p0_6 : Int) (p0_7 : Bool) (p0_8 : SV) (p1_0 : Int) (p1_1 : SV) (p1_2 : Int) (p1_3 : Bool) (p1_4 : Int) (p1_5 : Bool) (p1_6 : Int) (p1_7 : Bool) (p1_8 : SV) (K : Bool → World → Prop) (w0 : World) : Prop :=
M.new (.cells #[(Value.int .i64 p0_0), (SV.v p0_1), (Value.int .u32 p0_2), (Value.bool p0_3), (Value.int .u32 p0_4), (Value.bool p0_5), (Value.int .u32 p0_6), (Value.bool p0_7), (SV.v p0_8)] 32) w0 fun b2 w1 =>
M.new (.cells #[(Value.int .i64 p1_0), (SV.v p1_1), (Value.int .u32 p1_2), (Value.bool p1_3), (Value.int .u32 p1_4), (Value.bool p1_5), (Value.int .u32 p1_6), (Value.bool p1_7), (SV.v p1_8)] 32) w1 fun b4 w3 =>
M.ld SV.v (b2.add 1) w3 fun t5 =>
Calls Try.prog 46 #[(SV.v t5)] w3 (R46 fun r7 r8 w9 =>
M.ld SV.v (b4.add 1) w9 fun t10 =>
Calls Try.prog 46 #[(SV.v t10)] w9 (R46 fun r12 r13 w14 =>
M.join (fun (x16 : Bool) (w19 : World) => 
K x16 w19) fun J15 => 
M.ite (r8 == r13) (
J15 (r7 == r12) w14) (
J15 false w14)))
theorem F40_ok {w0 : World} {p0_0 : Int} {p0_1 : SV} {p0_2 : Int} {p0_3 : Bool} {p0_4 : Int} {p0_5 : Bool} {p0_6 : Int} {p0_7 : Bool} {p0_8 : SV} {p1_0 : Int} {p1_1 : SV} {p1_2 : Int} {p1_3 : Bool} {p1_4 : Int} {p1_5 : Bool} {p1_6 : Int} {p1_7 : Bool} {p1_8 : SV} {K : Bool → World → Prop} (h : F40 p0_0 p0_1 p0_2 p0_3 p0_4 p0_5 p0_6 p0_7 p0_8 p1_0 p1_1 p1_2 p1_3 p1_4 p1_5 p1_6 p1_7 p1_8 K w0) : Calls Try.prog 40 #[(Value.agg #[(Value.int .i64 p0_0), (SV.v p0_1), (Value.int .u32 p0_2), (Value.bool p0_3), (Value.int .u32 p0_4), (Value.bool p0_5), (Value.int .u32 p0_6), (Value.bool p0_7), (SV.v p0_8)]), (Value.agg #[(Value.int .i64 p1_0), (SV.v p1_1), (Value.int .u32 p1_2), (Value.bool p1_3), (Value.int .u32 p1_4), (Value.bool p1_5), (Value.int .u32 p1_6), (Value.bool p1_7), (SV.v p1_8)])] w0 (R40 K) := by
  refine calls_of_WE (args := [(Value.agg #[(Value.int .i64 p0_0), (SV.v p0_1), (Value.int .u32 p0_2), (Value.bool p0_3), (Value.int .u32 p0_4), (Value.bool p0_5), (Value.int .u32 p0_6), (Value.bool p0_7), (SV.v p0_8)]), (Value.agg #[(Value.int .i64 p1_0), (SV.v p1_1), (Value.int .u32 p1_2), (Value.bool p1_3), (Value.int .u32 p1_4), (Value.bool p1_5), (Value.int .u32 p1_6), (Value.bool p1_7), (SV.v p1_8)])]) (rs := [.tmp 4]) Try.func40 rfl (N := 29) rfl rfl rfl rfl ?_
  refine WE.seq ?_
  refine WE.reg ?_
  obtain ⟨b2, hpb2, w1, hww1, h⟩ := M.new_use h
  refine LE.r (v := (Value.pointer (some b2))) (Wn.no rfl) rfl (R.box (cs := #[(Value.int .i64 p0_0), (SV.v p0_1), (Value.int .u32 p0_2), (Value.bool p0_3), (Value.int .u32 p0_4), (Value.bool p0_5), (Value.int .u32 p0_6), (Value.bool p0_7), (SV.v p0_8)]) rfl rfl hpb2 hww1) ?_
  obtain ⟨b4, hpb4, w3, hww3, h⟩ := M.new_use h
  refine LE.r (v := (Value.pointer (some b4))) (Wn.no rfl) rfl (R.box (cs := #[(Value.int .i64 p1_0), (SV.v p1_1), (Value.int .u32 p1_2), (Value.bool p1_3), (Value.int .u32 p1_4), (Value.bool p1_5), (Value.int .u32 p1_6), (Value.bool p1_7), (SV.v p1_8)]) rfl rfl hpb4 hww3) ?_
  refine LE.p (v := (Value.bool false)) (Wn.no rfl) rfl (R.assign rfl) ?_
  refine LE.nil ?_
  refine WE.seq ?_
  refine WE.reg ?_
  refine LE.p (v := (Value.pointer (some (b2.add 1)))) (Wn.no rfl) rfl (R.fld (off := 1) fa32_1 rfl) ?_
  obtain ⟨t5, h6, h⟩ := h
  refine LE.r (v := (SV.v t5)) (Wn.no rfl) rfl (R.ld sc29 rfl h6) ?_
  refine LE.c (Wn.no rfl) rfl (R.call bd46 (Ls.cons rfl Ls.nil) rfl) (Calls.mono h ?_)
  rintro _ w9 ⟨r7, r8, rfl, h⟩
  refine ⟨_, rfl, ?_⟩
  refine LE.p (v := (Value.tuple #[(Value.int .u32 r7), (Value.bool r8)])) (Wn.no rfl) rfl (R.move rfl) ?_
  refine LE.p (v := (Value.int .u32 r7)) (Wn.no rfl) rfl (R.ext rfl rfl) ?_
  refine LE.p (v := (Value.bool r8)) (Wn.no rfl) rfl (R.ext rfl rfl) ?_
  refine LE.p (v := (Value.int .u32 r7)) (Wn.no rfl) rfl (R.assign rfl) ?_
  refine LE.p (v := (Value.bool r8)) (Wn.no rfl) rfl (R.assign rfl) ?_
  refine LE.nil ?_
  refine WE.seq ?_
  refine WE.reg ?_
  refine LE.p (v := (Value.pointer (some (b4.add 1)))) (Wn.no rfl) rfl (R.fld (off := 1) fa32_1 rfl) ?_
  obtain ⟨t10, h11, h⟩ := h
  refine LE.r (v := (SV.v t10)) (Wn.no rfl) rfl (R.ld sc29 rfl h11) ?_
  refine LE.c (Wn.no rfl) rfl (R.call bd46 (Ls.cons rfl Ls.nil) rfl) (Calls.mono h ?_)
  rintro _ w14 ⟨r12, r13, rfl, h⟩
  refine ⟨_, rfl, ?_⟩
  refine LE.p (v := (Value.tuple #[(Value.int .u32 r12), (Value.bool r13)])) (Wn.no rfl) rfl (R.move rfl) ?_
  refine LE.p (v := (Value.int .u32 r12)) (Wn.no rfl) rfl (R.ext rfl rfl) ?_
  refine LE.p (v := (Value.bool r13)) (Wn.no rfl) rfl (R.ext rfl rfl) ?_
  refine LE.p (v := (Value.int .u32 r12)) (Wn.no rfl) rfl (R.assign rfl) ?_
  refine LE.p (v := (Value.bool r13)) (Wn.no rfl) rfl (R.assign rfl) ?_
  refine LE.nil ?_
  refine WE.seq ?_
  obtain ⟨J15, hJ15, h⟩ := M.join_use h
  refine WE.regJ (fun e w => ∃ (x16 : Bool), J15 x16 w ∧ e 4 = (Value.bool x16)) ?_ ?_
  · clear hJ15
    refine LE.p (v := (Value.bool r8)) (Wn.no rfl) rfl (R.move rfl) ?_
    refine LE.p (v := (Value.bool r13)) (Wn.no rfl) rfl (R.move rfl) ?_
    refine LE.p (v := (Value.bool (r8 == r13))) (Wn.no rfl) rfl (R.beql bo4 rfl rfl) ?_
    refine LE.p (v := (Value.bool (r8 == r13))) (Wn.no rfl) rfl (R.move rfl) ?_
    rcases M.ite_use h with ⟨hb17, h⟩ | ⟨hb17, h⟩
    · refine LE.p (v := (Value.int .u32 r7)) (Wn.yes 3 24 true rfl rfl rfl (congrArg Value.bool hb17)) rfl (R.move rfl) ?_
      refine LE.p (v := (Value.int .u32 r12)) (Wn.yes 3 24 true rfl rfl rfl (congrArg Value.bool hb17)) rfl (R.move rfl) ?_
      refine LE.p (v := (Value.bool (r7 == r12))) (Wn.yes 3 24 true rfl rfl rfl (congrArg Value.bool hb17)) rfl (R.eql rfl rfl) ?_
      refine LE.p (v := (Value.bool (r7 == r12))) (Wn.no rfl) rfl (R.pickT (congrArg Value.bool hb17) rfl) ?_
      refine LE.p (v := (Value.bool (r7 == r12))) (Wn.no rfl) rfl (R.assign rfl) ?_
      refine LE.nil ?_
      exact ⟨_, h, rfl⟩
    · refine LE.u (Un.no 3 24 true rfl rfl rfl (congrArg Value.bool hb17)) ?_
      refine LE.u (Un.no 3 24 true rfl rfl rfl (congrArg Value.bool hb17)) ?_
      refine LE.u (Un.no 3 24 true rfl rfl rfl (congrArg Value.bool hb17)) ?_
      refine LE.p (v := (Value.bool false)) (Wn.no rfl) rfl (R.pickF (congrArg Value.bool hb17) rfl) ?_
      refine LE.p (v := (Value.bool false)) (Wn.no rfl) rfl (R.assign rfl) ?_
      refine LE.nil ?_
      exact ⟨_, h, rfl⟩
  · rintro e18 w19 ⟨x16, h, f20⟩
    subst hJ15
    refine WE.ret ?_
    exact ⟨_, (Res.tmp f20 Res.nil), _, rfl, h⟩
/-- The formula of signpost.decide.med. -/
def F41 (p0_0 : Int) (p0_1 : SV) (p0_2 : Int) (p0_3 : Bool) (p0_4 : Int) (p0_5 : Bool) (p0_6 : Int) (p0_7 : Bool) (p0_8 : SV) (K : Int → World → Prop) (w0 : World) : Prop :=
M.new (.cells #[(Value.int .i64 p0_0), (SV.v p0_1), (Value.int .u32 p0_2), (Value.bool p0_3), (Value.int .u32 p0_4), (Value.bool p0_5), (Value.int .u32 p0_6), (Value.bool p0_7), (SV.v p0_8)] 32) w0 fun b2 w1 =>
M.ld Value.bool (b2.add 3) w1 fun t3 =>
M.ite (!t3) (
K (0 : Int) w1) (
M.ld (Value.int .u32) (b2.add 4) w1 fun t6 =>
K t6 w1)
theorem F41_ok {w0 : World} {p0_0 : Int} {p0_1 : SV} {p0_2 : Int} {p0_3 : Bool} {p0_4 : Int} {p0_5 : Bool} {p0_6 : Int} {p0_7 : Bool} {p0_8 : SV} {K : Int → World → Prop} (h : F41 p0_0 p0_1 p0_2 p0_3 p0_4 p0_5 p0_6 p0_7 p0_8 K w0) : Calls Try.prog 41 #[(Value.agg #[(Value.int .i64 p0_0), (SV.v p0_1), (Value.int .u32 p0_2), (Value.bool p0_3), (Value.int .u32 p0_4), (Value.bool p0_5), (Value.int .u32 p0_6), (Value.bool p0_7), (SV.v p0_8)])] w0 (R41 K) := by
  refine calls_of_WE (args := [(Value.agg #[(Value.int .i64 p0_0), (SV.v p0_1), (Value.int .u32 p0_2), (Value.bool p0_3), (Value.int .u32 p0_4), (Value.bool p0_5), (Value.int .u32 p0_6), (Value.bool p0_7), (SV.v p0_8)])]) (rs := [.tmp 2]) Try.func41 rfl (N := 8) rfl rfl rfl rfl ?_
  refine WE.seq ?_
  refine WE.reg ?_
  obtain ⟨b2, hpb2, w1, hww1, h⟩ := M.new_use h
  refine LE.r (v := (Value.pointer (some b2))) (Wn.no rfl) rfl (R.box (cs := #[(Value.int .i64 p0_0), (SV.v p0_1), (Value.int .u32 p0_2), (Value.bool p0_3), (Value.int .u32 p0_4), (Value.bool p0_5), (Value.int .u32 p0_6), (Value.bool p0_7), (SV.v p0_8)]) rfl rfl hpb2 hww1) ?_
  refine LE.p (v := (Value.int .u32 (0 : Int))) (Wn.no rfl) rfl (R.assign rfl) ?_
  refine LE.nil ?_
  refine WE.seq ?_
  refine WE.seq ?_
  refine WE.reg ?_
  refine LE.p (v := (Value.pointer (some (b2.add 3)))) (Wn.no rfl) rfl (R.fld (off := 3) fa32_3 rfl) ?_
  obtain ⟨t3, h4, h⟩ := h
  refine LE.r (v := (Value.bool t3)) (Wn.no rfl) rfl (R.ld sc4 rfl h4) ?_
  refine LE.p (v := (Value.bool (!t3))) (Wn.no rfl) rfl (R.not rfl) ?_
  refine LE.nil ?_
  refine WE.condT rfl (b := (!t3)) rfl ?_ ?_
  · intro hb5
    replace h := M.ite_t h hb5
    refine WE.seq ?_
    refine WE.reg ?_
    refine LE.p (v := (Value.int .u32 (0 : Int))) (Wn.no rfl) rfl (R.assign rfl) ?_
    refine LE.nil ?_
    refine WE.ret ?_
    exact ⟨_, (Res.tmp rfl Res.nil), _, rfl, h⟩
  · intro hb5
    replace h := M.ite_f h hb5
    refine WE.skip ?_
    refine WE.seq ?_
    refine WE.reg ?_
    refine LE.p (v := (Value.pointer (some (b2.add 4)))) (Wn.no rfl) rfl (R.fld (off := 4) fa32_4 rfl) ?_
    obtain ⟨t6, h7, h⟩ := h
    refine LE.r (v := (Value.int .u32 t6)) (Wn.no rfl) rfl (R.ld sc28 rfl h7) ?_
    refine LE.p (v := (Value.int .u32 t6)) (Wn.no rfl) rfl (R.assign rfl) ?_
    refine LE.nil ?_
    refine WE.ret ?_
    exact ⟨_, (Res.tmp rfl Res.nil), _, rfl, h⟩
/-- The formula of signpost.metric.Less. -/
def F42 (p0 : Nat) (p1 : Nat) (K : Bool → World → Prop) (w0 : World) : Prop :=
Calls Try.prog 47 #[(Value.float .f64 p0)] w0 (R47 fun r1 w2 =>
Calls Try.prog 47 #[(Value.float .f64 p1)] w2 (R47 fun r3 w4 =>
K (fLss r1 r3) w4))
theorem F42_ok {w0 : World} {p0 : Nat} {p1 : Nat} {K : Bool → World → Prop} (h : F42 p0 p1 K w0) : Calls Try.prog 42 #[(Value.float .f64 p0), (Value.float .f64 p1)] w0 (R42 K) := by
  refine calls_of_WE (args := [(Value.float .f64 p0), (Value.float .f64 p1)]) (rs := [.tmp 4]) Try.func42 rfl (N := 10) rfl rfl rfl rfl ?_
  refine WE.seq ?_
  refine WE.reg ?_
  refine LE.p (v := (Value.bool false)) (Wn.no rfl) rfl (R.assign rfl) ?_
  refine LE.nil ?_
  refine WE.seq ?_
  refine WE.reg ?_
  refine LE.p (v := (Value.float .f64 p0)) (Wn.no rfl) rfl (R.move rfl) ?_
  refine LE.c (Wn.no rfl) rfl (R.call bd47 (Ls.cons rfl Ls.nil) rfl) (Calls.mono h ?_)
  rintro _ w2 ⟨r1, rfl, h⟩
  refine ⟨_, rfl, ?_⟩
  refine LE.p (v := (Value.float .f64 p1)) (Wn.no rfl) rfl (R.move rfl) ?_
  refine LE.c (Wn.no rfl) rfl (R.call bd47 (Ls.cons rfl Ls.nil) rfl) (Calls.mono h ?_)
  rintro _ w4 ⟨r3, rfl, h⟩
  refine ⟨_, rfl, ?_⟩
  refine LE.p (v := (Value.bool (fLss r1 r3))) (Wn.no rfl) rfl (R.flss rfl rfl) ?_
  refine LE.p (v := (Value.bool (fLss r1 r3))) (Wn.no rfl) rfl (R.assign rfl) ?_
  refine LE.nil ?_
  refine WE.ret ?_
  exact ⟨_, (Res.tmp rfl Res.nil), _, rfl, h⟩
/-- The formula of signpost.decide.Ahead. -/
def F43 (p0_0 : Int) (p0_1 : Int) (p0_2 : Int) (p0_3 : Bool) (p0_4 : Int) (p0_5 : SV) (p0_6 : Int) (p0_7 : Bool) (p0_8 : Int) (p0_9 : Bool) (p0_10 : Int) (p0_11 : Bool) (p0_12 : SV) (p0_13 : Nat) (p1_0 : Int) (p1_1 : Int) (p1_2 : Int) (p1_3 : Bool) (p1_4 : Int) (p1_5 : SV) (p1_6 : Int) (p1_7 : Bool) (p1_8 : Int) (p1_9 : Bool) (p1_10 : Int) (p1_11 : Bool) (p1_12 : SV) (p1_13 : Nat) (K : Bool → World → Prop) (w0 : World) : Prop :=
M.new (.cells #[(Value.int .i64 p0_0), (Value.int .u32 p0_1), (Value.int .u32 p0_2), (Value.bool p0_3), (Value.int .i64 p0_4), (SV.v p0_5), (Value.int .u32 p0_6), (Value.bool p0_7), (Value.int .u32 p0_8), (Value.bool p0_9), (Value.int .u32 p0_10), (Value.bool p0_11), (SV.v p0_12), (Value.float .f64 p0_13)] 37) w0 fun b2 w1 =>
M.new (.cells #[(Value.int .i64 p1_0), (Value.int .u32 p1_1), (Value.int .u32 p1_2), (Value.bool p1_3), (Value.int .i64 p1_4), (SV.v p1_5), (Value.int .u32 p1_6), (Value.bool p1_7), (Value.int .u32 p1_8), (Value.bool p1_9), (Value.int .u32 p1_10), (Value.bool p1_11), (SV.v p1_12), (Value.float .f64 p1_13)] 37) w1 fun b4 w3 =>
M.join (fun (x6 : Bool) (w22 : World) => 
K x6 w22) fun J5 => 
M.ld (Value.int .u32) (b2.add 1) w3 fun t7 =>
M.ld (Value.int .u32) (b4.add 1) w3 fun t9 =>
M.ite (decide (t7 < t9)) (
J5 true w3) (
M.ld (Value.int .u32) (b2.add 1) w3 fun t12 =>
M.ld (Value.int .u32) (b4.add 1) w3 fun t14 =>
M.ite (t12 == t14) (
M.ld (Value.int .u32) (b2.add 2) w3 fun t17 =>
M.ld (Value.int .u32) (b4.add 2) w3 fun t19 =>
J5 (decide (t17 < t19)) w3) (
J5 false w3))
theorem F43_ok {w0 : World} {p0_0 : Int} {p0_1 : Int} {p0_2 : Int} {p0_3 : Bool} {p0_4 : Int} {p0_5 : SV} {p0_6 : Int} {p0_7 : Bool} {p0_8 : Int} {p0_9 : Bool} {p0_10 : Int} {p0_11 : Bool} {p0_12 : SV} {p0_13 : Nat} {p1_0 : Int} {p1_1 : Int} {p1_2 : Int} {p1_3 : Bool} {p1_4 : Int} {p1_5 : SV} {p1_6 : Int} {p1_7 : Bool} {p1_8 : Int} {p1_9 : Bool} {p1_10 : Int} {p1_11 : Bool} {p1_12 : SV} {p1_13 : Nat} {K : Bool → World → Prop} (h : F43 p0_0 p0_1 p0_2 p0_3 p0_4 p0_5 p0_6 p0_7 p0_8 p0_9 p0_10 p0_11 p0_12 p0_13 p1_0 p1_1 p1_2 p1_3 p1_4 p1_5 p1_6 p1_7 p1_8 p1_9 p1_10 p1_11 p1_12 p1_13 K w0) : Calls Try.prog 43 #[(Value.agg #[(Value.int .i64 p0_0), (Value.int .u32 p0_1), (Value.int .u32 p0_2), (Value.bool p0_3), (Value.int .i64 p0_4), (SV.v p0_5), (Value.int .u32 p0_6), (Value.bool p0_7), (Value.int .u32 p0_8), (Value.bool p0_9), (Value.int .u32 p0_10), (Value.bool p0_11), (SV.v p0_12), (Value.float .f64 p0_13)]), (Value.agg #[(Value.int .i64 p1_0), (Value.int .u32 p1_1), (Value.int .u32 p1_2), (Value.bool p1_3), (Value.int .i64 p1_4), (SV.v p1_5), (Value.int .u32 p1_6), (Value.bool p1_7), (Value.int .u32 p1_8), (Value.bool p1_9), (Value.int .u32 p1_10), (Value.bool p1_11), (SV.v p1_12), (Value.float .f64 p1_13)])] w0 (R43 K) := by
  refine calls_of_WE (args := [(Value.agg #[(Value.int .i64 p0_0), (Value.int .u32 p0_1), (Value.int .u32 p0_2), (Value.bool p0_3), (Value.int .i64 p0_4), (SV.v p0_5), (Value.int .u32 p0_6), (Value.bool p0_7), (Value.int .u32 p0_8), (Value.bool p0_9), (Value.int .u32 p0_10), (Value.bool p0_11), (SV.v p0_12), (Value.float .f64 p0_13)]), (Value.agg #[(Value.int .i64 p1_0), (Value.int .u32 p1_1), (Value.int .u32 p1_2), (Value.bool p1_3), (Value.int .i64 p1_4), (SV.v p1_5), (Value.int .u32 p1_6), (Value.bool p1_7), (Value.int .u32 p1_8), (Value.bool p1_9), (Value.int .u32 p1_10), (Value.bool p1_11), (SV.v p1_12), (Value.float .f64 p1_13)])]) (rs := [.tmp 4]) Try.func43 rfl (N := 30) rfl rfl rfl rfl ?_
  refine WE.seq ?_
  refine WE.reg ?_
  obtain ⟨b2, hpb2, w1, hww1, h⟩ := M.new_use h
  refine LE.r (v := (Value.pointer (some b2))) (Wn.no rfl) rfl (R.box (cs := #[(Value.int .i64 p0_0), (Value.int .u32 p0_1), (Value.int .u32 p0_2), (Value.bool p0_3), (Value.int .i64 p0_4), (SV.v p0_5), (Value.int .u32 p0_6), (Value.bool p0_7), (Value.int .u32 p0_8), (Value.bool p0_9), (Value.int .u32 p0_10), (Value.bool p0_11), (SV.v p0_12), (Value.float .f64 p0_13)]) rfl rfl hpb2 hww1) ?_
  obtain ⟨b4, hpb4, w3, hww3, h⟩ := M.new_use h
  refine LE.r (v := (Value.pointer (some b4))) (Wn.no rfl) rfl (R.box (cs := #[(Value.int .i64 p1_0), (Value.int .u32 p1_1), (Value.int .u32 p1_2), (Value.bool p1_3), (Value.int .i64 p1_4), (SV.v p1_5), (Value.int .u32 p1_6), (Value.bool p1_7), (Value.int .u32 p1_8), (Value.bool p1_9), (Value.int .u32 p1_10), (Value.bool p1_11), (SV.v p1_12), (Value.float .f64 p1_13)]) rfl rfl hpb4 hww3) ?_
  refine LE.p (v := (Value.bool false)) (Wn.no rfl) rfl (R.assign rfl) ?_
  refine LE.nil ?_
  refine WE.seq ?_
  obtain ⟨J5, hJ5, h⟩ := M.join_use h
  refine WE.regJ (fun e w => ∃ (x6 : Bool), J5 x6 w ∧ e 4 = (Value.bool x6)) ?_ ?_
  · clear hJ5
    refine LE.p (v := (Value.pointer (some b2))) (Wn.no rfl) rfl (R.fld (off := 0) fa37_0 rfl) ?_
    refine LE.p (v := (Value.pointer (some (b2.add 1)))) (Wn.no rfl) rfl (R.fld (off := 1) fa34_1 rfl) ?_
    obtain ⟨t7, h8, h⟩ := h
    refine LE.r (v := (Value.int .u32 t7)) (Wn.no rfl) rfl (R.ld sc28 rfl h8) ?_
    refine LE.p (v := (Value.pointer (some b4))) (Wn.no rfl) rfl (R.fld (off := 0) fa37_0 rfl) ?_
    refine LE.p (v := (Value.pointer (some (b4.add 1)))) (Wn.no rfl) rfl (R.fld (off := 1) fa34_1 rfl) ?_
    obtain ⟨t9, h10, h⟩ := h
    refine LE.r (v := (Value.int .u32 t9)) (Wn.no rfl) rfl (R.ld sc28 rfl h10) ?_
    refine LE.p (v := (Value.bool (decide (t7 < t9)))) (Wn.no rfl) rfl (R.lss rfl rfl) ?_
    refine LE.p (v := (Value.bool (decide (t7 < t9)))) (Wn.no rfl) rfl (R.move rfl) ?_
    rcases M.ite_use h with ⟨hb11, h⟩ | ⟨hb11, h⟩
    · refine LE.u (Un.no 7 12 false rfl rfl rfl (congrArg Value.bool hb11)) ?_
      refine LE.u (Un.no 7 12 false rfl rfl rfl (congrArg Value.bool hb11)) ?_
      refine LE.u (Un.no 7 12 false rfl rfl rfl (congrArg Value.bool hb11)) ?_
      refine LE.u (Un.no 7 12 false rfl rfl rfl (congrArg Value.bool hb11)) ?_
      refine LE.u (Un.no 7 12 false rfl rfl rfl (congrArg Value.bool hb11)) ?_
      refine LE.u (Un.no 7 12 false rfl rfl rfl (congrArg Value.bool hb11)) ?_
      refine LE.u (Un.no 7 12 false rfl rfl rfl (congrArg Value.bool hb11)) ?_
      refine LE.u (Un.no 7 12 false rfl rfl rfl (congrArg Value.bool hb11)) ?_
      refine LE.u (Un.un 15 20 true rfl rfl rfl rfl) ?_
      refine LE.u (Un.un 15 20 true rfl rfl rfl rfl) ?_
      refine LE.u (Un.un 15 20 true rfl rfl rfl rfl) ?_
      refine LE.u (Un.un 15 20 true rfl rfl rfl rfl) ?_
      refine LE.u (Un.un 15 20 true rfl rfl rfl rfl) ?_
      refine LE.u (Un.un 15 20 true rfl rfl rfl rfl) ?_
      refine LE.u (Un.un 15 20 true rfl rfl rfl rfl) ?_
      refine LE.u (Un.no 7 12 false rfl rfl rfl (congrArg Value.bool hb11)) ?_
      refine LE.p (v := (Value.bool true)) (Wn.no rfl) rfl (R.pickT (congrArg Value.bool hb11) rfl) ?_
      refine LE.p (v := (Value.bool true)) (Wn.no rfl) rfl (R.assign rfl) ?_
      refine LE.nil ?_
      exact ⟨_, h, rfl⟩
    · refine LE.p (v := (Value.pointer (some b2))) (Wn.yes 7 12 false rfl rfl rfl (congrArg Value.bool hb11)) rfl (R.fld (off := 0) fa37_0 rfl) ?_
      refine LE.p (v := (Value.pointer (some (b2.add 1)))) (Wn.yes 7 12 false rfl rfl rfl (congrArg Value.bool hb11)) rfl (R.fld (off := 1) fa34_1 rfl) ?_
      obtain ⟨t12, h13, h⟩ := h
      refine LE.r (v := (Value.int .u32 t12)) (Wn.yes 7 12 false rfl rfl rfl (congrArg Value.bool hb11)) rfl (R.ld sc28 rfl h13) ?_
      refine LE.p (v := (Value.pointer (some b4))) (Wn.yes 7 12 false rfl rfl rfl (congrArg Value.bool hb11)) rfl (R.fld (off := 0) fa37_0 rfl) ?_
      refine LE.p (v := (Value.pointer (some (b4.add 1)))) (Wn.yes 7 12 false rfl rfl rfl (congrArg Value.bool hb11)) rfl (R.fld (off := 1) fa34_1 rfl) ?_
      obtain ⟨t14, h15, h⟩ := h
      refine LE.r (v := (Value.int .u32 t14)) (Wn.yes 7 12 false rfl rfl rfl (congrArg Value.bool hb11)) rfl (R.ld sc28 rfl h15) ?_
      refine LE.p (v := (Value.bool (t12 == t14))) (Wn.yes 7 12 false rfl rfl rfl (congrArg Value.bool hb11)) rfl (R.eql rfl rfl) ?_
      refine LE.p (v := (Value.bool (t12 == t14))) (Wn.yes 7 12 false rfl rfl rfl (congrArg Value.bool hb11)) rfl (R.move rfl) ?_
      rcases M.ite_use h with ⟨hb16, h⟩ | ⟨hb16, h⟩
      · refine LE.p (v := (Value.pointer (some b2))) (Wn.yes 15 20 true rfl rfl rfl (congrArg Value.bool hb16)) rfl (R.fld (off := 0) fa37_0 rfl) ?_
        refine LE.p (v := (Value.pointer (some (b2.add 2)))) (Wn.yes 15 20 true rfl rfl rfl (congrArg Value.bool hb16)) rfl (R.fld (off := 2) fa34_2 rfl) ?_
        obtain ⟨t17, h18, h⟩ := h
        refine LE.r (v := (Value.int .u32 t17)) (Wn.yes 15 20 true rfl rfl rfl (congrArg Value.bool hb16)) rfl (R.ld sc28 rfl h18) ?_
        refine LE.p (v := (Value.pointer (some b4))) (Wn.yes 15 20 true rfl rfl rfl (congrArg Value.bool hb16)) rfl (R.fld (off := 0) fa37_0 rfl) ?_
        refine LE.p (v := (Value.pointer (some (b4.add 2)))) (Wn.yes 15 20 true rfl rfl rfl (congrArg Value.bool hb16)) rfl (R.fld (off := 2) fa34_2 rfl) ?_
        obtain ⟨t19, h20, h⟩ := h
        refine LE.r (v := (Value.int .u32 t19)) (Wn.yes 15 20 true rfl rfl rfl (congrArg Value.bool hb16)) rfl (R.ld sc28 rfl h20) ?_
        refine LE.p (v := (Value.bool (decide (t17 < t19)))) (Wn.yes 15 20 true rfl rfl rfl (congrArg Value.bool hb16)) rfl (R.lss rfl rfl) ?_
        refine LE.p (v := (Value.bool (decide (t17 < t19)))) (Wn.yes 7 12 false rfl rfl rfl (congrArg Value.bool hb11)) rfl (R.pickT (congrArg Value.bool hb16) rfl) ?_
        refine LE.p (v := (Value.bool (decide (t17 < t19)))) (Wn.no rfl) rfl (R.pickF (congrArg Value.bool hb11) rfl) ?_
        refine LE.p (v := (Value.bool (decide (t17 < t19)))) (Wn.no rfl) rfl (R.assign rfl) ?_
        refine LE.nil ?_
        exact ⟨_, h, rfl⟩
      · refine LE.u (Un.no 15 20 true rfl rfl rfl (congrArg Value.bool hb16)) ?_
        refine LE.u (Un.no 15 20 true rfl rfl rfl (congrArg Value.bool hb16)) ?_
        refine LE.u (Un.no 15 20 true rfl rfl rfl (congrArg Value.bool hb16)) ?_
        refine LE.u (Un.no 15 20 true rfl rfl rfl (congrArg Value.bool hb16)) ?_
        refine LE.u (Un.no 15 20 true rfl rfl rfl (congrArg Value.bool hb16)) ?_
        refine LE.u (Un.no 15 20 true rfl rfl rfl (congrArg Value.bool hb16)) ?_
        refine LE.u (Un.no 15 20 true rfl rfl rfl (congrArg Value.bool hb16)) ?_
        refine LE.p (v := (Value.bool false)) (Wn.yes 7 12 false rfl rfl rfl (congrArg Value.bool hb11)) rfl (R.pickF (congrArg Value.bool hb16) rfl) ?_
        refine LE.p (v := (Value.bool false)) (Wn.no rfl) rfl (R.pickF (congrArg Value.bool hb11) rfl) ?_
        refine LE.p (v := (Value.bool false)) (Wn.no rfl) rfl (R.assign rfl) ?_
        refine LE.nil ?_
        exact ⟨_, h, rfl⟩
  · rintro e21 w22 ⟨x6, h, f23⟩
    subst hJ5
    refine WE.ret ?_
    exact ⟨_, (Res.tmp f23 Res.nil), _, rfl, h⟩
/-- The formula of signpost.signpostref6.First. -/
def F44 (p0 : SV) (K : Int → Bool → World → Prop) (w0 : World) : Prop :=
M.join (fun (x2 : Bool) (w18 : World) => 
M.ite x2 (
K (0 : Int) false w18) (
M.idx p0 (0 : Int) 2 fun a22 =>
M.ld SV.v ((a22.add ((0 : Int).toNat * 2)).add 1) w18 fun t26 =>
M.idx t26 (0 : Int) 1 fun a28 =>
M.ld (Value.int .u32) (a28.add ((0 : Int).toNat * 1)) w18 fun t32 =>
K t32 true w18)) fun J1 => 
M.ite ((p0.len : Int) == (0 : Int)) (
J1 true w0) (
M.idx p0 (0 : Int) 2 fun a4 =>
M.ld (Value.int .i64) (a4.add ((0 : Int).toNat * 2)) w0 fun t8 =>
M.ite (t8 != (2 : Int)) (
J1 true w0) (
M.idx p0 (0 : Int) 2 fun a11 =>
M.ld SV.v ((a11.add ((0 : Int).toNat * 2)).add 1) w0 fun t15 =>
J1 ((t15.len : Int) == (0 : Int)) w0))
theorem F44_ok {w0 : World} {p0 : SV} {K : Int → Bool → World → Prop} (h : F44 p0 K w0) : Calls Try.prog 44 #[(SV.v p0)] w0 (R44 K) := by
  refine calls_of_WE (args := [(SV.v p0)]) (rs := [.tmp 2, .tmp 3]) Try.func44 rfl (N := 28) rfl rfl rfl rfl ?_
  refine WE.seq ?_
  refine WE.reg ?_
  refine LE.p (v := (Value.int .u32 (0 : Int))) (Wn.no rfl) rfl (R.assign rfl) ?_
  refine LE.p (v := (Value.bool false)) (Wn.no rfl) rfl (R.assign rfl) ?_
  refine LE.nil ?_
  refine WE.seq ?_
  refine WE.seq ?_
  obtain ⟨J1, hJ1, h⟩ := M.join_use h
  refine WE.regJ (fun e w => ∃ (x2 : Bool), J1 x2 w ∧ e 0 = (SV.v p0) ∧ e 21 = (Value.bool x2)) ?_ ?_
  · clear hJ1
    refine LE.p (v := (SV.v p0)) (Wn.no rfl) rfl (R.move rfl) ?_
    refine LE.p (v := (Value.int .i64 (p0.len : Int))) (Wn.no rfl) rfl (R.len sl29 rfl) ?_
    refine LE.p (v := (Value.bool ((p0.len : Int) == (0 : Int)))) (Wn.no rfl) rfl (R.eql rfl rfl) ?_
    refine LE.p (v := (Value.bool ((p0.len : Int) == (0 : Int)))) (Wn.no rfl) rfl (R.move rfl) ?_
    rcases M.ite_use h with ⟨hb3, h⟩ | ⟨hb3, h⟩
    · refine LE.u (Un.no 3 7 false rfl rfl rfl (congrArg Value.bool hb3)) ?_
      refine LE.u (Un.no 3 7 false rfl rfl rfl (congrArg Value.bool hb3)) ?_
      refine LE.u (Un.no 3 7 false rfl rfl rfl (congrArg Value.bool hb3)) ?_
      refine LE.u (Un.no 3 7 false rfl rfl rfl (congrArg Value.bool hb3)) ?_
      refine LE.u (Un.no 3 7 false rfl rfl rfl (congrArg Value.bool hb3)) ?_
      refine LE.p (v := (Value.bool true)) (Wn.no rfl) rfl (R.pickT (congrArg Value.bool hb3) rfl) ?_
      refine LE.p (v := (Value.bool true)) (Wn.no rfl) rfl (R.move rfl) ?_
      refine LE.u (Un.no 10 14 false rfl rfl rfl rfl) ?_
      refine LE.u (Un.no 10 14 false rfl rfl rfl rfl) ?_
      refine LE.u (Un.no 10 14 false rfl rfl rfl rfl) ?_
      refine LE.u (Un.no 10 14 false rfl rfl rfl rfl) ?_
      refine LE.u (Un.no 10 14 false rfl rfl rfl rfl) ?_
      refine LE.u (Un.no 10 14 false rfl rfl rfl rfl) ?_
      refine LE.p (v := (Value.bool true)) (Wn.no rfl) rfl (R.pickT rfl rfl) ?_
      refine LE.nil ?_
      exact ⟨_, h, rfl, rfl⟩
    · refine LE.p (v := (SV.v p0)) (Wn.yes 3 7 false rfl rfl rfl (congrArg Value.bool hb3)) rfl (R.move rfl) ?_
      obtain ⟨a4, h5, h6, h7, h⟩ := h
      refine LE.p (v := (Value.pointer (some (a4.add ((0 : Int).toNat * 2))))) (Wn.yes 3 7 false rfl rfl rfl (congrArg Value.bool hb3)) rfl (R.idx (s := p0) sl29 rfl rfl h5 h6 h7) ?_
      refine LE.p (v := (Value.pointer (some (a4.add ((0 : Int).toNat * 2))))) (Wn.yes 3 7 false rfl rfl rfl (congrArg Value.bool hb3)) rfl (R.fld (off := 0) fa50_0 rfl) ?_
      obtain ⟨t8, h9, h⟩ := h
      refine LE.r (v := (Value.int .i64 t8)) (Wn.yes 3 7 false rfl rfl rfl (congrArg Value.bool hb3)) rfl (R.ld sc3 rfl h9) ?_
      refine LE.p (v := (Value.bool (t8 != (2 : Int)))) (Wn.yes 3 7 false rfl rfl rfl (congrArg Value.bool hb3)) rfl (R.neq rfl rfl) ?_
      refine LE.p (v := (Value.bool (t8 != (2 : Int)))) (Wn.no rfl) rfl (R.pickF (congrArg Value.bool hb3) rfl) ?_
      refine LE.p (v := (Value.bool (t8 != (2 : Int)))) (Wn.no rfl) rfl (R.move rfl) ?_
      rcases M.ite_use h with ⟨hb10, h⟩ | ⟨hb10, h⟩
      · refine LE.u (Un.no 10 14 false rfl rfl rfl (congrArg Value.bool hb10)) ?_
        refine LE.u (Un.no 10 14 false rfl rfl rfl (congrArg Value.bool hb10)) ?_
        refine LE.u (Un.no 10 14 false rfl rfl rfl (congrArg Value.bool hb10)) ?_
        refine LE.u (Un.no 10 14 false rfl rfl rfl (congrArg Value.bool hb10)) ?_
        refine LE.u (Un.no 10 14 false rfl rfl rfl (congrArg Value.bool hb10)) ?_
        refine LE.u (Un.no 10 14 false rfl rfl rfl (congrArg Value.bool hb10)) ?_
        refine LE.p (v := (Value.bool true)) (Wn.no rfl) rfl (R.pickT (congrArg Value.bool hb10) rfl) ?_
        refine LE.nil ?_
        exact ⟨_, h, rfl, rfl⟩
      · refine LE.p (v := (SV.v p0)) (Wn.yes 10 14 false rfl rfl rfl (congrArg Value.bool hb10)) rfl (R.move rfl) ?_
        obtain ⟨a11, h12, h13, h14, h⟩ := h
        refine LE.p (v := (Value.pointer (some (a11.add ((0 : Int).toNat * 2))))) (Wn.yes 10 14 false rfl rfl rfl (congrArg Value.bool hb10)) rfl (R.idx (s := p0) sl29 rfl rfl h12 h13 h14) ?_
        refine LE.p (v := (Value.pointer (some ((a11.add ((0 : Int).toNat * 2)).add 1)))) (Wn.yes 10 14 false rfl rfl rfl (congrArg Value.bool hb10)) rfl (R.fld (off := 1) fa50_1 rfl) ?_
        obtain ⟨t15, h16, h⟩ := h
        refine LE.r (v := (SV.v t15)) (Wn.yes 10 14 false rfl rfl rfl (congrArg Value.bool hb10)) rfl (R.ld sc30 rfl h16) ?_
        refine LE.p (v := (Value.int .i64 (t15.len : Int))) (Wn.yes 10 14 false rfl rfl rfl (congrArg Value.bool hb10)) rfl (R.len sl30 rfl) ?_
        refine LE.p (v := (Value.bool ((t15.len : Int) == (0 : Int)))) (Wn.yes 10 14 false rfl rfl rfl (congrArg Value.bool hb10)) rfl (R.eql rfl rfl) ?_
        refine LE.p (v := (Value.bool ((t15.len : Int) == (0 : Int)))) (Wn.no rfl) rfl (R.pickF (congrArg Value.bool hb10) rfl) ?_
        refine LE.nil ?_
        exact ⟨_, h, rfl, rfl⟩
  · rintro e17 w18 ⟨x2, h, f19, f20⟩
    subst hJ1
    refine WE.condT rfl (b := x2) f20 ?_ ?_
    · intro hb21
      replace h := M.ite_t h hb21
      refine WE.seq ?_
      refine WE.reg ?_
      refine LE.p (v := (Value.int .u32 (0 : Int))) (Wn.no rfl) rfl (R.assign rfl) ?_
      refine LE.p (v := (Value.bool false)) (Wn.no rfl) rfl (R.assign rfl) ?_
      refine LE.nil ?_
      refine WE.ret ?_
      exact ⟨_, (Res.tmp rfl (Res.tmp rfl Res.nil)), _, _, rfl, h⟩
    · intro hb21
      replace h := M.ite_f h hb21
      refine WE.skip ?_
      refine WE.seq ?_
      refine WE.reg ?_
      refine LE.p (v := (SV.v p0)) (Wn.no rfl) rfl (R.move f19) ?_
      obtain ⟨a22, h23, h24, h25, h⟩ := h
      refine LE.p (v := (Value.pointer (some (a22.add ((0 : Int).toNat * 2))))) (Wn.no rfl) rfl (R.idx (s := p0) sl29 rfl rfl h23 h24 h25) ?_
      refine LE.p (v := (Value.pointer (some ((a22.add ((0 : Int).toNat * 2)).add 1)))) (Wn.no rfl) rfl (R.fld (off := 1) fa50_1 rfl) ?_
      obtain ⟨t26, h27, h⟩ := h
      refine LE.r (v := (SV.v t26)) (Wn.no rfl) rfl (R.ld sc30 rfl h27) ?_
      obtain ⟨a28, h29, h30, h31, h⟩ := h
      refine LE.p (v := (Value.pointer (some (a28.add ((0 : Int).toNat * 1))))) (Wn.no rfl) rfl (R.idx (s := t26) sl30 rfl rfl h29 h30 h31) ?_
      obtain ⟨t32, h33, h⟩ := h
      refine LE.r (v := (Value.int .u32 t32)) (Wn.no rfl) rfl (R.ld sc28 rfl h33) ?_
      refine LE.p (v := (Value.int .u32 t32)) (Wn.no rfl) rfl (R.assign rfl) ?_
      refine LE.p (v := (Value.bool true)) (Wn.no rfl) rfl (R.assign rfl) ?_
      refine LE.nil ?_
      refine WE.ret ?_
      exact ⟨_, (Res.tmp rfl (Res.tmp rfl Res.nil)), _, _, rfl, h⟩
/-- The formula of signpost.signpostref2.Clean. -/
def F45 (p0 : Nat) (K : Nat → World → Prop) (w0 : World) : Prop :=
Calls Try.prog 48 #[(Value.float .f64 p0)] w0 (R48 fun r1 w2 =>
M.ite (!r1) (
Calls Try.prog 19 #[(Value.int .i64 (1 : Int))] w2 (R19 fun r4 w5 =>
K r4 w5)) (
M.ite (fEql p0 (0 : Nat)) (
K (0 : Nat) w2) (
K p0 w2)))
theorem F45_ok {w0 : World} {p0 : Nat} {K : Nat → World → Prop} (h : F45 p0 K w0) : Calls Try.prog 45 #[(Value.float .f64 p0)] w0 (R45 K) := by
  refine calls_of_WE (args := [(Value.float .f64 p0)]) (rs := [.tmp 2]) Try.func45 rfl (N := 10) rfl rfl rfl rfl ?_
  refine WE.seq ?_
  refine WE.reg ?_
  refine LE.p (v := (Value.float .f64 (0 : Nat))) (Wn.no rfl) rfl (R.assign rfl) ?_
  refine LE.nil ?_
  refine WE.seq ?_
  refine WE.seq ?_
  refine WE.reg ?_
  refine LE.p (v := (Value.float .f64 p0)) (Wn.no rfl) rfl (R.move rfl) ?_
  refine LE.c (Wn.no rfl) rfl (R.call bd48 (Ls.cons rfl Ls.nil) rfl) (Calls.mono h ?_)
  rintro _ w2 ⟨r1, rfl, h⟩
  refine ⟨_, rfl, ?_⟩
  refine LE.p (v := (Value.bool (!r1))) (Wn.no rfl) rfl (R.not rfl) ?_
  refine LE.nil ?_
  refine WE.condT rfl (b := (!r1)) rfl ?_ ?_
  · intro hb3
    replace h := M.ite_t h hb3
    refine WE.seq ?_
    refine WE.reg ?_
    refine LE.c (Wn.no rfl) rfl (R.call bd19 (Ls.cons rfl Ls.nil) rfl) (Calls.mono h ?_)
    rintro _ w5 ⟨r4, rfl, h⟩
    refine ⟨_, rfl, ?_⟩
    refine LE.p (v := (Value.float .f64 r4)) (Wn.no rfl) rfl (R.assign rfl) ?_
    refine LE.nil ?_
    refine WE.ret ?_
    exact ⟨_, (Res.tmp rfl Res.nil), _, rfl, h⟩
  · intro hb3
    replace h := M.ite_f h hb3
    refine WE.skip ?_
    refine WE.seq ?_
    refine WE.seq ?_
    refine WE.reg ?_
    refine LE.p (v := (Value.float .f64 p0)) (Wn.no rfl) rfl (R.move rfl) ?_
    refine LE.p (v := (Value.bool (fEql p0 (0 : Nat)))) (Wn.no rfl) rfl (R.feql rfl rfl) ?_
    refine LE.nil ?_
    refine WE.condT rfl (b := (fEql p0 (0 : Nat))) rfl ?_ ?_
    · intro hb6
      replace h := M.ite_t h hb6
      refine WE.seq ?_
      refine WE.reg ?_
      refine LE.p (v := (Value.float .f64 (0 : Nat))) (Wn.no rfl) rfl (R.assign rfl) ?_
      refine LE.nil ?_
      refine WE.ret ?_
      exact ⟨_, (Res.tmp rfl Res.nil), _, rfl, h⟩
    · intro hb6
      replace h := M.ite_f h hb6
      refine WE.skip ?_
      refine WE.seq ?_
      refine WE.reg ?_
      refine LE.p (v := (Value.float .f64 p0)) (Wn.no rfl) rfl (R.move rfl) ?_
      refine LE.p (v := (Value.float .f64 p0)) (Wn.no rfl) rfl (R.assign rfl) ?_
      refine LE.nil ?_
      refine WE.ret ?_
      exact ⟨_, (Res.tmp rfl Res.nil), _, rfl, h⟩
/-- The formula of signpost.aspath.First. -/
def F46 (p0 : SV) (K : Int → Bool → World → Prop) (w0 : World) : Prop :=
M.join (fun (x2 : Bool) (w18 : World) => 
M.ite x2 (
K (0 : Int) false w18) (
M.idx p0 (0 : Int) 2 fun a22 =>
M.ld SV.v ((a22.add ((0 : Int).toNat * 2)).add 1) w18 fun t26 =>
M.idx t26 (0 : Int) 1 fun a28 =>
M.ld (Value.int .u32) (a28.add ((0 : Int).toNat * 1)) w18 fun t32 =>
K t32 true w18)) fun J1 => 
M.ite ((p0.len : Int) == (0 : Int)) (
J1 true w0) (
M.idx p0 (0 : Int) 2 fun a4 =>
M.ld (Value.int .i64) (a4.add ((0 : Int).toNat * 2)) w0 fun t8 =>
M.ite (t8 != (2 : Int)) (
J1 true w0) (
M.idx p0 (0 : Int) 2 fun a11 =>
M.ld SV.v ((a11.add ((0 : Int).toNat * 2)).add 1) w0 fun t15 =>
J1 ((t15.len : Int) == (0 : Int)) w0))
theorem F46_ok {w0 : World} {p0 : SV} {K : Int → Bool → World → Prop} (h : F46 p0 K w0) : Calls Try.prog 46 #[(SV.v p0)] w0 (R46 K) := by
  refine calls_of_WE (args := [(SV.v p0)]) (rs := [.tmp 2, .tmp 3]) Try.func46 rfl (N := 28) rfl rfl rfl rfl ?_
  refine WE.seq ?_
  refine WE.reg ?_
  refine LE.p (v := (Value.int .u32 (0 : Int))) (Wn.no rfl) rfl (R.assign rfl) ?_
  refine LE.p (v := (Value.bool false)) (Wn.no rfl) rfl (R.assign rfl) ?_
  refine LE.nil ?_
  refine WE.seq ?_
  refine WE.seq ?_
  obtain ⟨J1, hJ1, h⟩ := M.join_use h
  refine WE.regJ (fun e w => ∃ (x2 : Bool), J1 x2 w ∧ e 0 = (SV.v p0) ∧ e 21 = (Value.bool x2)) ?_ ?_
  · clear hJ1
    refine LE.p (v := (SV.v p0)) (Wn.no rfl) rfl (R.move rfl) ?_
    refine LE.p (v := (Value.int .i64 (p0.len : Int))) (Wn.no rfl) rfl (R.len sl29 rfl) ?_
    refine LE.p (v := (Value.bool ((p0.len : Int) == (0 : Int)))) (Wn.no rfl) rfl (R.eql rfl rfl) ?_
    refine LE.p (v := (Value.bool ((p0.len : Int) == (0 : Int)))) (Wn.no rfl) rfl (R.move rfl) ?_
    rcases M.ite_use h with ⟨hb3, h⟩ | ⟨hb3, h⟩
    · refine LE.u (Un.no 3 7 false rfl rfl rfl (congrArg Value.bool hb3)) ?_
      refine LE.u (Un.no 3 7 false rfl rfl rfl (congrArg Value.bool hb3)) ?_
      refine LE.u (Un.no 3 7 false rfl rfl rfl (congrArg Value.bool hb3)) ?_
      refine LE.u (Un.no 3 7 false rfl rfl rfl (congrArg Value.bool hb3)) ?_
      refine LE.u (Un.no 3 7 false rfl rfl rfl (congrArg Value.bool hb3)) ?_
      refine LE.p (v := (Value.bool true)) (Wn.no rfl) rfl (R.pickT (congrArg Value.bool hb3) rfl) ?_
      refine LE.p (v := (Value.bool true)) (Wn.no rfl) rfl (R.move rfl) ?_
      refine LE.u (Un.no 10 14 false rfl rfl rfl rfl) ?_
      refine LE.u (Un.no 10 14 false rfl rfl rfl rfl) ?_
      refine LE.u (Un.no 10 14 false rfl rfl rfl rfl) ?_
      refine LE.u (Un.no 10 14 false rfl rfl rfl rfl) ?_
      refine LE.u (Un.no 10 14 false rfl rfl rfl rfl) ?_
      refine LE.u (Un.no 10 14 false rfl rfl rfl rfl) ?_
      refine LE.p (v := (Value.bool true)) (Wn.no rfl) rfl (R.pickT rfl rfl) ?_
      refine LE.nil ?_
      exact ⟨_, h, rfl, rfl⟩
    · refine LE.p (v := (SV.v p0)) (Wn.yes 3 7 false rfl rfl rfl (congrArg Value.bool hb3)) rfl (R.move rfl) ?_
      obtain ⟨a4, h5, h6, h7, h⟩ := h
      refine LE.p (v := (Value.pointer (some (a4.add ((0 : Int).toNat * 2))))) (Wn.yes 3 7 false rfl rfl rfl (congrArg Value.bool hb3)) rfl (R.idx (s := p0) sl29 rfl rfl h5 h6 h7) ?_
      refine LE.p (v := (Value.pointer (some (a4.add ((0 : Int).toNat * 2))))) (Wn.yes 3 7 false rfl rfl rfl (congrArg Value.bool hb3)) rfl (R.fld (off := 0) fa50_0 rfl) ?_
      obtain ⟨t8, h9, h⟩ := h
      refine LE.r (v := (Value.int .i64 t8)) (Wn.yes 3 7 false rfl rfl rfl (congrArg Value.bool hb3)) rfl (R.ld sc3 rfl h9) ?_
      refine LE.p (v := (Value.bool (t8 != (2 : Int)))) (Wn.yes 3 7 false rfl rfl rfl (congrArg Value.bool hb3)) rfl (R.neq rfl rfl) ?_
      refine LE.p (v := (Value.bool (t8 != (2 : Int)))) (Wn.no rfl) rfl (R.pickF (congrArg Value.bool hb3) rfl) ?_
      refine LE.p (v := (Value.bool (t8 != (2 : Int)))) (Wn.no rfl) rfl (R.move rfl) ?_
      rcases M.ite_use h with ⟨hb10, h⟩ | ⟨hb10, h⟩
      · refine LE.u (Un.no 10 14 false rfl rfl rfl (congrArg Value.bool hb10)) ?_
        refine LE.u (Un.no 10 14 false rfl rfl rfl (congrArg Value.bool hb10)) ?_
        refine LE.u (Un.no 10 14 false rfl rfl rfl (congrArg Value.bool hb10)) ?_
        refine LE.u (Un.no 10 14 false rfl rfl rfl (congrArg Value.bool hb10)) ?_
        refine LE.u (Un.no 10 14 false rfl rfl rfl (congrArg Value.bool hb10)) ?_
        refine LE.u (Un.no 10 14 false rfl rfl rfl (congrArg Value.bool hb10)) ?_
        refine LE.p (v := (Value.bool true)) (Wn.no rfl) rfl (R.pickT (congrArg Value.bool hb10) rfl) ?_
        refine LE.nil ?_
        exact ⟨_, h, rfl, rfl⟩
      · refine LE.p (v := (SV.v p0)) (Wn.yes 10 14 false rfl rfl rfl (congrArg Value.bool hb10)) rfl (R.move rfl) ?_
        obtain ⟨a11, h12, h13, h14, h⟩ := h
        refine LE.p (v := (Value.pointer (some (a11.add ((0 : Int).toNat * 2))))) (Wn.yes 10 14 false rfl rfl rfl (congrArg Value.bool hb10)) rfl (R.idx (s := p0) sl29 rfl rfl h12 h13 h14) ?_
        refine LE.p (v := (Value.pointer (some ((a11.add ((0 : Int).toNat * 2)).add 1)))) (Wn.yes 10 14 false rfl rfl rfl (congrArg Value.bool hb10)) rfl (R.fld (off := 1) fa50_1 rfl) ?_
        obtain ⟨t15, h16, h⟩ := h
        refine LE.r (v := (SV.v t15)) (Wn.yes 10 14 false rfl rfl rfl (congrArg Value.bool hb10)) rfl (R.ld sc30 rfl h16) ?_
        refine LE.p (v := (Value.int .i64 (t15.len : Int))) (Wn.yes 10 14 false rfl rfl rfl (congrArg Value.bool hb10)) rfl (R.len sl30 rfl) ?_
        refine LE.p (v := (Value.bool ((t15.len : Int) == (0 : Int)))) (Wn.yes 10 14 false rfl rfl rfl (congrArg Value.bool hb10)) rfl (R.eql rfl rfl) ?_
        refine LE.p (v := (Value.bool ((t15.len : Int) == (0 : Int)))) (Wn.no rfl) rfl (R.pickF (congrArg Value.bool hb10) rfl) ?_
        refine LE.nil ?_
        exact ⟨_, h, rfl, rfl⟩
  · rintro e17 w18 ⟨x2, h, f19, f20⟩
    subst hJ1
    refine WE.condT rfl (b := x2) f20 ?_ ?_
    · intro hb21
      replace h := M.ite_t h hb21
      refine WE.seq ?_
      refine WE.reg ?_
      refine LE.p (v := (Value.int .u32 (0 : Int))) (Wn.no rfl) rfl (R.assign rfl) ?_
      refine LE.p (v := (Value.bool false)) (Wn.no rfl) rfl (R.assign rfl) ?_
      refine LE.nil ?_
      refine WE.ret ?_
      exact ⟨_, (Res.tmp rfl (Res.tmp rfl Res.nil)), _, _, rfl, h⟩
    · intro hb21
      replace h := M.ite_f h hb21
      refine WE.skip ?_
      refine WE.seq ?_
      refine WE.reg ?_
      refine LE.p (v := (SV.v p0)) (Wn.no rfl) rfl (R.move f19) ?_
      obtain ⟨a22, h23, h24, h25, h⟩ := h
      refine LE.p (v := (Value.pointer (some (a22.add ((0 : Int).toNat * 2))))) (Wn.no rfl) rfl (R.idx (s := p0) sl29 rfl rfl h23 h24 h25) ?_
      refine LE.p (v := (Value.pointer (some ((a22.add ((0 : Int).toNat * 2)).add 1)))) (Wn.no rfl) rfl (R.fld (off := 1) fa50_1 rfl) ?_
      obtain ⟨t26, h27, h⟩ := h
      refine LE.r (v := (SV.v t26)) (Wn.no rfl) rfl (R.ld sc30 rfl h27) ?_
      obtain ⟨a28, h29, h30, h31, h⟩ := h
      refine LE.p (v := (Value.pointer (some (a28.add ((0 : Int).toNat * 1))))) (Wn.no rfl) rfl (R.idx (s := t26) sl30 rfl rfl h29 h30 h31) ?_
      obtain ⟨t32, h33, h⟩ := h
      refine LE.r (v := (Value.int .u32 t32)) (Wn.no rfl) rfl (R.ld sc28 rfl h33) ?_
      refine LE.p (v := (Value.int .u32 t32)) (Wn.no rfl) rfl (R.assign rfl) ?_
      refine LE.p (v := (Value.bool true)) (Wn.no rfl) rfl (R.assign rfl) ?_
      refine LE.nil ?_
      refine WE.ret ?_
      exact ⟨_, (Res.tmp rfl (Res.tmp rfl Res.nil)), _, _, rfl, h⟩
/-- The formula of signpost.metric.Clean. -/
def F47 (p0 : Nat) (K : Nat → World → Prop) (w0 : World) : Prop :=
Calls Try.prog 49 #[(Value.float .f64 p0)] w0 (R49 fun r1 w2 =>
M.ite (!r1) (
Calls Try.prog 19 #[(Value.int .i64 (1 : Int))] w2 (R19 fun r4 w5 =>
K r4 w5)) (
M.ite (fEql p0 (0 : Nat)) (
K (0 : Nat) w2) (
K p0 w2)))
theorem F47_ok {w0 : World} {p0 : Nat} {K : Nat → World → Prop} (h : F47 p0 K w0) : Calls Try.prog 47 #[(Value.float .f64 p0)] w0 (R47 K) := by
  refine calls_of_WE (args := [(Value.float .f64 p0)]) (rs := [.tmp 2]) Try.func47 rfl (N := 12) rfl rfl rfl rfl ?_
  refine WE.seq ?_
  refine WE.reg ?_
  refine LE.p (v := (Value.float .f64 (0 : Nat))) (Wn.no rfl) rfl (R.assign rfl) ?_
  refine LE.nil ?_
  refine WE.seq ?_
  refine WE.block ?_
  refine WE.seq ?_
  refine WE.reg ?_
  refine LE.p (v := (Value.float .f64 p0)) (Wn.no rfl) rfl (R.move rfl) ?_
  refine LE.c (Wn.no rfl) rfl (R.call bd49 (Ls.cons rfl Ls.nil) rfl) (Calls.mono h ?_)
  rintro _ w2 ⟨r1, rfl, h⟩
  refine ⟨_, rfl, ?_⟩
  refine LE.p (v := (Value.bool (!r1))) (Wn.no rfl) rfl (R.not rfl) ?_
  refine LE.p (v := (Value.bool (!r1))) (Wn.no rfl) rfl (R.assign rfl) ?_
  refine LE.nil ?_
  refine WE.condT rfl (b := (!r1)) rfl ?_ ?_
  · intro hb3
    replace h := M.ite_t h hb3
    refine WE.seq ?_
    refine WE.reg ?_
    refine LE.c (Wn.no rfl) rfl (R.call bd19 (Ls.cons rfl Ls.nil) rfl) (Calls.mono h ?_)
    rintro _ w5 ⟨r4, rfl, h⟩
    refine ⟨_, rfl, ?_⟩
    refine LE.p (v := (Value.float .f64 r4)) (Wn.no rfl) rfl (R.assign rfl) ?_
    refine LE.nil ?_
    refine WE.ret ?_
    exact ⟨_, (Res.tmp rfl Res.nil), _, rfl, h⟩
  · intro hb3
    replace h := M.ite_f h hb3
    refine WE.seq ?_
    refine WE.reg ?_
    refine LE.p (v := (Value.float .f64 p0)) (Wn.no rfl) rfl (R.move rfl) ?_
    refine LE.p (v := (Value.bool (fEql p0 (0 : Nat)))) (Wn.no rfl) rfl (R.feql rfl rfl) ?_
    refine LE.p (v := (Value.bool (fEql p0 (0 : Nat)))) (Wn.no rfl) rfl (R.assign rfl) ?_
    refine LE.nil ?_
    refine WE.condT rfl (b := (fEql p0 (0 : Nat))) rfl ?_ ?_
    · intro hb6
      replace h := M.ite_t h hb6
      refine WE.seq ?_
      refine WE.reg ?_
      refine LE.p (v := (Value.float .f64 (0 : Nat))) (Wn.no rfl) rfl (R.assign rfl) ?_
      refine LE.nil ?_
      refine WE.ret ?_
      exact ⟨_, (Res.tmp rfl Res.nil), _, rfl, h⟩
    · intro hb6
      replace h := M.ite_f h hb6
      refine WE.skip ?_
      refine WE.seq ?_
      refine WE.reg ?_
      refine LE.p (v := (Value.float .f64 p0)) (Wn.no rfl) rfl (R.move rfl) ?_
      refine LE.p (v := (Value.float .f64 p0)) (Wn.no rfl) rfl (R.assign rfl) ?_
      refine LE.nil ?_
      refine WE.ret ?_
      exact ⟨_, (Res.tmp rfl Res.nil), _, rfl, h⟩
/-- The formula of signpost.signpostref2.Right. -/
def F48 (p0 : Nat) (K : Bool → World → Prop) (w0 : World) : Prop :=
K (fGeq p0 (0 : Nat)) w0
theorem F48_ok {w0 : World} {p0 : Nat} {K : Bool → World → Prop} (h : F48 p0 K w0) : Calls Try.prog 48 #[(Value.float .f64 p0)] w0 (R48 K) := by
  refine calls_of_WE (args := [(Value.float .f64 p0)]) (rs := [.tmp 2]) Try.func48 rfl (N := 5) rfl rfl rfl rfl ?_
  refine WE.seq ?_
  refine WE.reg ?_
  refine LE.p (v := (Value.bool false)) (Wn.no rfl) rfl (R.assign rfl) ?_
  refine LE.nil ?_
  refine WE.seq ?_
  refine WE.reg ?_
  refine LE.p (v := (Value.float .f64 p0)) (Wn.no rfl) rfl (R.move rfl) ?_
  refine LE.p (v := (Value.bool (fGeq p0 (0 : Nat)))) (Wn.no rfl) rfl (R.fgeq rfl rfl) ?_
  refine LE.p (v := (Value.bool (fGeq p0 (0 : Nat)))) (Wn.no rfl) rfl (R.assign rfl) ?_
  refine LE.nil ?_
  refine WE.ret ?_
  exact ⟨_, (Res.tmp rfl Res.nil), _, rfl, h⟩
/-- The formula of signpost.metric.Right. -/
def F49 (p0 : Nat) (K : Bool → World → Prop) (w0 : World) : Prop :=
K (fGeq p0 (0 : Nat)) w0
theorem F49_ok {w0 : World} {p0 : Nat} {K : Bool → World → Prop} (h : F49 p0 K w0) : Calls Try.prog 49 #[(Value.float .f64 p0)] w0 (R49 K) := by
  refine calls_of_WE (args := [(Value.float .f64 p0)]) (rs := [.tmp 2]) Try.func49 rfl (N := 5) rfl rfl rfl rfl ?_
  refine WE.seq ?_
  refine WE.reg ?_
  refine LE.p (v := (Value.bool false)) (Wn.no rfl) rfl (R.assign rfl) ?_
  refine LE.nil ?_
  refine WE.seq ?_
  refine WE.reg ?_
  refine LE.p (v := (Value.float .f64 p0)) (Wn.no rfl) rfl (R.move rfl) ?_
  refine LE.p (v := (Value.bool (fGeq p0 (0 : Nat)))) (Wn.no rfl) rfl (R.fgeq rfl rfl) ?_
  refine LE.p (v := (Value.bool (fGeq p0 (0 : Nat)))) (Wn.no rfl) rfl (R.assign rfl) ?_
  refine LE.nil ?_
  refine WE.ret ?_
  exact ⟨_, (Res.tmp rfl Res.nil), _, rfl, h⟩
end Go.Proofs.Ytmgigplbclkpaaa
