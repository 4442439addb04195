/-
  Printed by gen.py: the formula of each function, and that it holds of the function.
-/
import Derived.Test.YtmgigplbclkpaaaTy
namespace Go.Proofs.Ytmgigplbclkpaaa
set_option linter.unusedVariables false
set_option linter.unusedSimpArgs false
open Go.Sp
set_option linter.unusedVariables false
/-- The formula of signpost.signpostlaw17.DecideNumbers. -/
def F8  (K : Bool → World → Prop) (w0 : World) : Prop :=
M.new (.cells #[(Value.int .u32 (9 : Int)), (Value.int .u32 (9 : Int))] 28) w0 fun b3 w1 =>
M.new (.cells #[(Value.int .i64 (2 : Int)), (SV.v (SV.mk (some b3) 2 2))] 50) w1 fun b6 w4 =>
M.new (.cells #[(Value.int .i64 (0 : Int)), (Value.int .u32 (0 : Int)), (Value.int .u32 (0 : Int)), (Value.bool false), (Value.int .i64 (0 : Int)), (SV.v SV.nil), (Value.int .u32 (0 : Int)), (Value.bool false), (Value.int .u32 (0 : Int)), (Value.bool false), (Value.int .u32 (0 : Int)), (Value.bool false), (SV.v SV.nil)] 34) w4 fun b8 w7 =>
M.stA b8 [(Value.int .i64 (0 : Int)), (Value.int .u32 (5 : Int)), (Value.int .u32 (5 : Int)), (Value.bool true), (Value.int .i64 (1 : Int)), (SV.v (SV.mk (some b6) 1 1)), (Value.int .u32 (0 : Int)), (Value.bool true), (Value.int .u32 (5 : Int)), (Value.bool true), (Value.int .u32 (100 : Int)), (Value.bool false), (SV.v SV.nil)] w7 fun w9 =>
M.loop2 (fun (J13 : SV → Int → World → Prop) (x11 : SV) (x12 : Int) (w14 : World) => 
M.ite (decide (x12 < (17 : Int))) (
∃ (t25 : Int) (t26 : Int) (t27 : Int) (t28 : Bool) (t29 : Int) (t30 : SV) (t31 : Int) (t32 : Bool) (t33 : Int) (t34 : Bool) (t35 : Int) (t36 : Bool) (t37 : SV), Cs w14 b8 0 [(Value.int .i64 t25), (Value.int .u32 t26), (Value.int .u32 t27), (Value.bool t28), (Value.int .i64 t29), (SV.v t30), (Value.int .u32 t31), (Value.bool t32), (Value.int .u32 t33), (Value.bool t34), (Value.int .u32 t35), (Value.bool t36), (SV.v t37)] ∧
M.new (.cells #[(Value.int .i64 (0 : Int)), (Value.int .u32 (0 : Int)), (Value.int .u32 (0 : Int)), (Value.bool false), (Value.int .i64 (0 : Int)), (SV.v SV.nil), (Value.int .u32 (0 : Int)), (Value.bool false), (Value.int .u32 (0 : Int)), (Value.bool false), (Value.int .u32 (0 : Int)), (Value.bool false), (SV.v SV.nil), (Value.float .f64 (0 : Nat))] 37) w14 fun b40 w39 =>
M.stA b40 [(Value.int .i64 t25), (Value.int .u32 t26), (Value.int .u32 t27), (Value.bool t28), (Value.int .i64 t29), (SV.v t30), (Value.int .u32 t31), (Value.bool t32), (Value.int .u32 t33), (Value.bool t34), (Value.int .u32 t35), (Value.bool t36), (SV.v t37), (Value.float .f64 (4617315517961601024 : Nat))] w39 fun w41 =>
M.join (fun (w139 : World) => 
∃ (t144 : Int) (t145 : Int) (t146 : Int) (t147 : Bool) (t148 : Int) (t149 : SV) (t150 : Int) (t151 : Bool) (t152 : Int) (t153 : Bool) (t154 : Int) (t155 : Bool) (t156 : SV) (t157 : Nat), Cs w139 b40 0 [(Value.int .i64 t144), (Value.int .u32 t145), (Value.int .u32 t146), (Value.bool t147), (Value.int .i64 t148), (SV.v t149), (Value.int .u32 t150), (Value.bool t151), (Value.int .u32 t152), (Value.bool t153), (Value.int .u32 t154), (Value.bool t155), (SV.v t156), (Value.float .f64 t157)] ∧
M.new (.cells #[(Value.int .i64 t144), (Value.int .u32 t145), (Value.int .u32 t146), (Value.bool t147), (Value.int .i64 t148), (SV.v t149), (Value.int .u32 t150), (Value.bool t151), (Value.int .u32 t152), (Value.bool t153), (Value.int .u32 t154), (Value.bool t155), (SV.v t156), (Value.float .f64 t157)] 37) w139 fun b161 w159 =>
M.app Try.prog 24 24 24 x11 (SV.v (SV.mk (some b161) 1 1)) w159 fun s162 w163 =>
J13 s162 (IntKind.i64.wrap (x12 + (1 : Int))) w163) fun J43 => 
M.ite (x12 == (1 : Int)) (
M.st ((b40.add 4).add 6) (Value.int .u32 (101 : Int)) w41 fun w45 =>
J43 w45) (
M.ite (x12 == (2 : Int)) (
M.st ((b40.add 4).add 5) (Value.bool false) w41 fun w49 =>
M.st ((b40.add 4).add 6) (Value.int .u32 (500 : Int)) w49 fun w52 =>
J43 w52) (
M.ite (x12 == (3 : Int)) (
M.new (.cells #[(Value.int .u32 (9 : Int))] 28) w41 fun b58 w56 =>
M.new (.cells #[(Value.int .i64 (2 : Int)), (SV.v (SV.mk (some b58) 1 1))] 50) w56 fun b61 w59 =>
M.st ((b40.add 4).add 1) (SV.v (SV.mk (some b61) 1 1)) w59 fun w62 =>
J43 w62) (
M.ite (x12 == (4 : Int)) (
M.new (.cells #[(Value.int .u32 (9 : Int)), (Value.int .u32 (8 : Int)), (Value.int .u32 (7 : Int))] 28) w41 fun b68 w66 =>
M.new (.cells #[(Value.int .i64 (1 : Int)), (SV.v (SV.mk (some b68) 3 3))] 50) w66 fun b71 w69 =>
M.st ((b40.add 4).add 1) (SV.v (SV.mk (some b71) 1 1)) w69 fun w72 =>
J43 w72) (
M.ite (x12 == (5 : Int)) (
M.st (b40.add 4) (Value.int .i64 (0 : Int)) w41 fun w76 =>
J43 w76) (
M.ite (x12 == (6 : Int)) (
M.st ((b40.add 4).add 4) (Value.int .u32 (4 : Int)) w41 fun w80 =>
J43 w80) (
M.ite (x12 == (7 : Int)) (
M.st ((b40.add 4).add 3) (Value.bool false) w41 fun w84 =>
J43 w84) (
M.ite (x12 == (8 : Int)) (
M.new (.cells #[(Value.int .u32 (8 : Int)), (Value.int .u32 (9 : Int))] 28) w41 fun b90 w88 =>
M.new (.cells #[(Value.int .i64 (2 : Int)), (SV.v (SV.mk (some b90) 2 2))] 50) w88 fun b93 w91 =>
M.st ((b40.add 4).add 1) (SV.v (SV.mk (some b93) 1 1)) w91 fun w94 =>
M.st ((b40.add 4).add 4) (Value.int .u32 (1 : Int)) w94 fun w97 =>
J43 w97) (
M.ite (x12 == (9 : Int)) (
M.st (b40.add 3) (Value.bool false) w41 fun w101 =>
J43 w101) (
M.ite (x12 == (10 : Int)) (
M.st (b40.add 13) (Value.float .f64 (4616189618054758400 : Nat)) w41 fun w105 =>
J43 w105) (
M.ite (x12 == (11 : Int)) (
Calls Try.prog 18 #[] w41 (R18 fun r109 w110 =>
M.st (b40.add 13) (Value.float .f64 r109) w110 fun w111 =>
J43 w111)) (
M.ite (x12 == (12 : Int)) (
Calls Try.prog 19 #[(Value.int .i64 (1 : Int))] w41 (R19 fun r115 w116 =>
M.st (b40.add 13) (Value.float .f64 r115) w116 fun w117 =>
J43 w117)) (
M.ite (x12 == (13 : Int)) (
Calls Try.prog 20 #[(Value.float .f64 (0 : Nat)), (Value.float .f64 (13830554455654793216 : Nat))] w41 (R20 fun r121 w122 =>
M.st (b40.add 13) (Value.float .f64 r121) w122 fun w123 =>
J43 w123)) (
M.ite (x12 == (14 : Int)) (
M.st (b40.add 13) (Value.float .f64 (0 : Nat)) w41 fun w127 =>
J43 w127) (
M.ite (x12 == (15 : Int)) (
M.st (b40.add 1) (Value.int .u32 (4 : Int)) w41 fun w131 =>
J43 w131) (
M.ite (x12 == (16 : Int)) (
M.st (b40.add 2) (Value.int .u32 (4 : Int)) w41 fun w135 =>
J43 w135) (
J43 w41))))))))))))))))) (
M.loop1 (fun (J166 : Int → World → Prop) (x165 : Int) (w167 : World) => 
M.ite (decide (x165 < (x11.len : Int))) (
M.loop1 (fun (J178 : Int → World → Prop) (x177 : Int) (w179 : World) => 
M.ite (decide (x177 < (x11.len : Int))) (
M.join (fun (x191 : Bool) (w320 : World) => 
M.ite x191 (
K false w320) (
J178 (IntKind.i64.wrap (x177 + (1 : Int))) w320)) fun J190 => 
M.drew w179 fun w192 => 
M.idx x11 x165 14 fun a193 =>
M.idx x11 x177 14 fun a197 =>
∃ (t201 : Int) (t202 : Int) (t203 : Int) (t204 : Bool) (t205 : Int) (t206 : SV) (t207 : Int) (t208 : Bool) (t209 : Int) (t210 : Bool) (t211 : Int) (t212 : Bool) (t213 : SV) (t214 : Nat), Cs w192 (a193.add (x165.toNat * 14)) 0 [(Value.int .i64 t201), (Value.int .u32 t202), (Value.int .u32 t203), (Value.bool t204), (Value.int .i64 t205), (SV.v t206), (Value.int .u32 t207), (Value.bool t208), (Value.int .u32 t209), (Value.bool t210), (Value.int .u32 t211), (Value.bool t212), (SV.v t213), (Value.float .f64 t214)] ∧
∃ (t216 : Int) (t217 : Int) (t218 : Int) (t219 : Bool) (t220 : Int) (t221 : SV) (t222 : Int) (t223 : Bool) (t224 : Int) (t225 : Bool) (t226 : Int) (t227 : Bool) (t228 : SV) (t229 : Nat), Cs w192 (a197.add (x177.toNat * 14)) 0 [(Value.int .i64 t216), (Value.int .u32 t217), (Value.int .u32 t218), (Value.bool t219), (Value.int .i64 t220), (SV.v t221), (Value.int .u32 t222), (Value.bool t223), (Value.int .u32 t224), (Value.bool t225), (Value.int .u32 t226), (Value.bool t227), (SV.v t228), (Value.float .f64 t229)] ∧
M.new (.cells #[(Value.int .i64 t201), (Value.int .u32 t202), (Value.int .u32 t203), (Value.bool t204), (Value.int .i64 t205), (SV.v t206), (Value.int .u32 t207), (Value.bool t208), (Value.int .u32 t209), (Value.bool t210), (Value.int .u32 t211), (Value.bool t212), (SV.v t213), (Value.float .f64 t214), (Value.int .i64 t216), (Value.int .u32 t217), (Value.int .u32 t218), (Value.bool t219), (Value.int .i64 t220), (SV.v t221), (Value.int .u32 t222), (Value.bool t223), (Value.int .u32 t224), (Value.bool t225), (Value.int .u32 t226), (Value.bool t227), (SV.v t228), (Value.float .f64 t229)] 37) w192 fun b233 w231 =>
Calls Try.prog 9 #[(SV.v (SV.mk (some b233) 2 2))] w231 (R9 fun r234 w235 =>
M.ite (!r234) (
J190 true w235) (
M.idx x11 x165 14 fun a237 =>
M.idx x11 (0 : Int) 14 fun a241 =>
M.idx x11 x177 14 fun a245 =>
M.nz (x11.len : Int) <|
M.idx x11 (Int.tmod (IntKind.i64.wrap (x165 + x177)) (x11.len : Int)) 14 fun a250 =>
∃ (t254 : Int) (t255 : Int) (t256 : Int) (t257 : Bool) (t258 : Int) (t259 : SV) (t260 : Int) (t261 : Bool) (t262 : Int) (t263 : Bool) (t264 : Int) (t265 : Bool) (t266 : SV) (t267 : Nat), Cs w235 (a237.add (x165.toNat * 14)) 0 [(Value.int .i64 t254), (Value.int .u32 t255), (Value.int .u32 t256), (Value.bool t257), (Value.int .i64 t258), (SV.v t259), (Value.int .u32 t260), (Value.bool t261), (Value.int .u32 t262), (Value.bool t263), (Value.int .u32 t264), (Value.bool t265), (SV.v t266), (Value.float .f64 t267)] ∧
∃ (t269 : Int) (t270 : Int) (t271 : Int) (t272 : Bool) (t273 : Int) (t274 : SV) (t275 : Int) (t276 : Bool) (t277 : Int) (t278 : Bool) (t279 : Int) (t280 : Bool) (t281 : SV) (t282 : Nat), Cs w235 (a241.add ((0 : Int).toNat * 14)) 0 [(Value.int .i64 t269), (Value.int .u32 t270), (Value.int .u32 t271), (Value.bool t272), (Value.int .i64 t273), (SV.v t274), (Value.int .u32 t275), (Value.bool t276), (Value.int .u32 t277), (Value.bool t278), (Value.int .u32 t279), (Value.bool t280), (SV.v t281), (Value.float .f64 t282)] ∧
∃ (t284 : Int) (t285 : Int) (t286 : Int) (t287 : Bool) (t288 : Int) (t289 : SV) (t290 : Int) (t291 : Bool) (t292 : Int) (t293 : Bool) (t294 : Int) (t295 : Bool) (t296 : SV) (t297 : Nat), Cs w235 (a245.add (x177.toNat * 14)) 0 [(Value.int .i64 t284), (Value.int .u32 t285), (Value.int .u32 t286), (Value.bool t287), (Value.int .i64 t288), (SV.v t289), (Value.int .u32 t290), (Value.bool t291), (Value.int .u32 t292), (Value.bool t293), (Value.int .u32 t294), (Value.bool t295), (SV.v t296), (Value.float .f64 t297)] ∧
∃ (t299 : Int) (t300 : Int) (t301 : Int) (t302 : Bool) (t303 : Int) (t304 : SV) (t305 : Int) (t306 : Bool) (t307 : Int) (t308 : Bool) (t309 : Int) (t310 : Bool) (t311 : SV) (t312 : Nat), Cs w235 (a250.add ((Int.tmod (IntKind.i64.wrap (x165 + x177)) (x11.len : Int)).toNat * 14)) 0 [(Value.int .i64 t299), (Value.int .u32 t300), (Value.int .u32 t301), (Value.bool t302), (Value.int .i64 t303), (SV.v t304), (Value.int .u32 t305), (Value.bool t306), (Value.int .u32 t307), (Value.bool t308), (Value.int .u32 t309), (Value.bool t310), (SV.v t311), (Value.float .f64 t312)] ∧
M.new (.cells #[(Value.int .i64 t254), (Value.int .u32 t255), (Value.int .u32 t256), (Value.bool t257), (Value.int .i64 t258), (SV.v t259), (Value.int .u32 t260), (Value.bool t261), (Value.int .u32 t262), (Value.bool t263), (Value.int .u32 t264), (Value.bool t265), (SV.v t266), (Value.float .f64 t267), (Value.int .i64 t269), (Value.int .u32 t270), (Value.int .u32 t271), (Value.bool t272), (Value.int .i64 t273), (SV.v t274), (Value.int .u32 t275), (Value.bool t276), (Value.int .u32 t277), (Value.bool t278), (Value.int .u32 t279), (Value.bool t280), (SV.v t281), (Value.float .f64 t282), (Value.int .i64 t284), (Value.int .u32 t285), (Value.int .u32 t286), (Value.bool t287), (Value.int .i64 t288), (SV.v t289), (Value.int .u32 t290), (Value.bool t291), (Value.int .u32 t292), (Value.bool t293), (Value.int .u32 t294), (Value.bool t295), (SV.v t296), (Value.float .f64 t297), (Value.int .i64 t299), (Value.int .u32 t300), (Value.int .u32 t301), (Value.bool t302), (Value.int .i64 t303), (SV.v t304), (Value.int .u32 t305), (Value.bool t306), (Value.int .u32 t307), (Value.bool t308), (Value.int .u32 t309), (Value.bool t310), (SV.v t311), (Value.float .f64 t312)] 37) w235 fun b316 w314 =>
Calls Try.prog 9 #[(SV.v (SV.mk (some b316) 4 4))] w314 (R9 fun r317 w318 =>
J190 (!r317) w318)))) (
J166 (IntKind.i64.wrap (x165 + (1 : Int))) w179)) (0 : Int) w167) (
M.join (fun (x327 : Bool) (w337 : World) => 
K x327 w337) fun J326 => 
Calls Try.prog 9 #[(SV.v x11)] w167 (R9 fun r328 w329 =>
M.ite r328 (
Calls Try.prog 9 #[(SV.v SV.nil)] w329 (R9 fun r331 w332 =>
M.ite r331 (
Calls Try.prog 11 #[] w332 (R11 fun r334 w335 =>
J326 r334 w335)) (
J326 false w332))) (
J326 false w329)))) (0 : Int) w14)) SV.nil (0 : Int) w9
theorem F8_ok {w0 : World}  {K : Bool → World → Prop} (h : F8 K w0) : Calls Try.prog 8 #[] w0 (R8 K) := by
  refine calls_of_WE (args := []) (rs := [.tmp 0]) Try.func8 rfl (N := 164) rfl rfl rfl rfl ?_
  refine WE.seq ?_
  refine WE.reg ?_
  refine LE.p (v := (Value.bool false)) (Wn.no rfl) rfl (R.assign rfl) ?_
  refine LE.nil ?_
  refine WE.seq ?_
  refine WE.reg ?_
  refine LE.p (v := (SV.v SV.nil)) (Wn.no rfl) rfl (R.assign rfl) ?_
  refine LE.nil ?_
  refine WE.seq ?_
  refine WE.reg ?_
  obtain ⟨b3, hpb3, w1, hww1, h⟩ := M.new_use h
  refine LE.r (v := (SV.v (SV.mk (some b3) 2 2))) (Wn.no rfl) rfl (R.bsl (by exact (Ls.cons (R.Pr rfl) (Ls.cons (R.Pr rfl) Ls.nil))) (fun w => bs30_2 (9 : Int) (9 : Int) w) hpb3 hww1) ?_
  refine LE.p (v := (Value.agg #[(Value.int .i64 (2 : Int)), (SV.v (SV.mk (some b3) 2 2))])) (Wn.no rfl) rfl (R.bld (by exact (Ls.cons (R.Pr rfl) (Ls.cons (R.Pr rfl) Ls.nil))) (fun w => bu50_0_1 (2 : Int) (SV.mk (some b3) 2 2) w)) ?_
  obtain ⟨b6, hpb6, w4, hww4, h⟩ := M.new_use h
  refine LE.r (v := (SV.v (SV.mk (some b6) 1 1))) (Wn.no rfl) rfl (R.bsl (by exact (Ls.cons (R.Pr rfl) Ls.nil)) (fun w => bs29_1 (2 : Int) (SV.mk (some b3) 2 2) w) hpb6 hww4) ?_
  refine LE.p (v := (Value.agg #[(Value.int .i64 (1 : Int)), (SV.v (SV.mk (some b6) 1 1)), (Value.int .u32 (0 : Int)), (Value.bool true), (Value.int .u32 (5 : Int)), (Value.bool true), (Value.int .u32 (100 : Int)), (Value.bool false), (SV.v SV.nil)])) (Wn.no rfl) rfl (R.bld (by exact (Ls.cons (R.Pr rfl) (Ls.cons (R.Pr rfl) (Ls.cons (R.Pr rfl) (Ls.cons (R.Pr rfl) (Ls.cons (R.Pr rfl) (Ls.cons (R.Pr rfl) Ls.nil))))))) (fun w => bu32_0_5_6_3_4_1 (1 : Int) true (100 : Int) true (5 : Int) (SV.mk (some b6) 1 1) w)) ?_
  refine LE.p (v := (Value.agg #[(Value.int .i64 (0 : Int)), (Value.int .u32 (5 : Int)), (Value.int .u32 (5 : Int)), (Value.bool true), (Value.int .i64 (1 : Int)), (SV.v (SV.mk (some b6) 1 1)), (Value.int .u32 (0 : Int)), (Value.bool true), (Value.int .u32 (5 : Int)), (Value.bool true), (Value.int .u32 (100 : Int)), (Value.bool false), (SV.v SV.nil)])) (Wn.no rfl) rfl (R.bld (by exact (Ls.cons (R.Pr rfl) (Ls.cons (R.Pr rfl) (Ls.cons (R.Pr rfl) (Ls.cons (R.Pr rfl) Ls.nil))))) (fun w => bu34_1_2_3_4 (5 : Int) (5 : Int) true (1 : Int) (SV.mk (some b6) 1 1) (0 : Int) true (5 : Int) true (100 : Int) false SV.nil w)) ?_
  obtain ⟨b8, hpb8, w7, hww7, h⟩ := M.new_use h
  refine LE.r (v := (Value.pointer (some b8))) (Wn.no rfl) rfl (R.alloc (cs := #[(Value.int .i64 (0 : Int)), (Value.int .u32 (0 : Int)), (Value.int .u32 (0 : Int)), (Value.bool false), (Value.int .i64 (0 : Int)), (SV.v SV.nil), (Value.int .u32 (0 : Int)), (Value.bool false), (Value.int .u32 (0 : Int)), (Value.bool false), (Value.int .u32 (0 : Int)), (Value.bool false), (SV.v SV.nil)]) ze34 rfl hpb8 hww7) ?_
  obtain ⟨w9, hww9, h10, h⟩ := M.stA_use h
  refine LE.s (Wn.no rfl) rfl (R.stA (a := b8) [(Value.int .i64 (0 : Int)), (Value.int .u32 (5 : Int)), (Value.int .u32 (5 : Int)), (Value.bool true), (Value.int .i64 (1 : Int)), (SV.v (SV.mk (some b6) 1 1)), (Value.int .u32 (0 : Int)), (Value.bool true), (Value.int .u32 (5 : Int)), (Value.bool true), (Value.int .u32 (100 : Int)), (Value.bool false), (SV.v SV.nil)] sz34 rfl rfl rfl (by simp [Value.oneCell']) h10 hww9) ?_
  refine LE.nil ?_
  refine WE.seq ?_
  refine WE.seq ?_
  refine WE.reg ?_
  refine LE.p (v := (Value.int .i64 (0 : Int))) (Wn.no rfl) rfl (R.assign rfl) ?_
  refine LE.nil ?_
  refine WE.block ?_
  obtain ⟨I17, ⟨n16, h⟩, hr18⟩ := h
  refine WE.loop (fun n e w => ∃ (x11 : SV) (x12 : Int), I17 n x11 x12 w ∧ e 1 = (SV.v x11) ∧ e 2 = (Value.pointer (some b8)) ∧ e 3 = (Value.int .i64 x12)) n16 ⟨_, _, h, rfl, rfl, rfl⟩ ?_
  clear h
  rintro n16 e15 w14 ⟨x11, x12, h, f21, f22, f23⟩
  replace h := hr18 n16 x11 x12 w14 h
  refine WE.seq ?_
  refine WE.seq ?_
  refine WE.reg ?_
  refine LE.p (v := (Value.int .i64 x12)) (Wn.no rfl) rfl (R.move f23) ?_
  refine LE.p (v := (Value.bool (decide (x12 < (17 : Int))))) (Wn.no rfl) rfl (R.lss rfl rfl) ?_
  refine LE.nil ?_
  refine WE.condT rfl (b := (decide (x12 < (17 : Int)))) rfl ?_ ?_
  · intro hb24
    replace h := M.ite_t h hb24
    refine WE.skip ?_
    refine WE.seq ?_
    refine WE.block ?_
    refine WE.seq ?_
    refine WE.reg ?_
    obtain ⟨t25, t26, t27, t28, t29, t30, t31, t32, t33, t34, t35, t36, t37, h38, h⟩ := h
    refine LE.r (v := (Value.agg #[(Value.int .i64 t25), (Value.int .u32 t26), (Value.int .u32 t27), (Value.bool t28), (Value.int .i64 t29), (SV.v t30), (Value.int .u32 t31), (Value.bool t32), (Value.int .u32 t33), (Value.bool t34), (Value.int .u32 t35), (Value.bool t36), (SV.v t37)])) (Wn.no rfl) rfl (R.ldA ag34 sz34 f22 rfl h38) ?_
    refine LE.p (v := (Value.agg #[(Value.int .i64 t25), (Value.int .u32 t26), (Value.int .u32 t27), (Value.bool t28), (Value.int .i64 t29), (SV.v t30), (Value.int .u32 t31), (Value.bool t32), (Value.int .u32 t33), (Value.bool t34), (Value.int .u32 t35), (Value.bool t36), (SV.v t37), (Value.float .f64 (4617315517961601024 : Nat))])) (Wn.no rfl) rfl (R.bld (by exact (Ls.cons (R.Pr rfl) (Ls.cons (R.Pr rfl) Ls.nil))) (fun w => bu37_0_1 t25 t26 t27 t28 t29 t30 t31 t32 t33 t34 t35 t36 t37 (4617315517961601024 : Nat) w)) ?_
    obtain ⟨b40, hpb40, w39, hww39, h⟩ := M.new_use h
    refine LE.r (v := (Value.pointer (some b40))) (Wn.no rfl) rfl (R.alloc (cs := #[(Value.int .i64 (0 : Int)), (Value.int .u32 (0 : Int)), (Value.int .u32 (0 : Int)), (Value.bool false), (Value.int .i64 (0 : Int)), (SV.v SV.nil), (Value.int .u32 (0 : Int)), (Value.bool false), (Value.int .u32 (0 : Int)), (Value.bool false), (Value.int .u32 (0 : Int)), (Value.bool false), (SV.v SV.nil), (Value.float .f64 (0 : Nat))]) ze37 rfl hpb40 hww39) ?_
    obtain ⟨w41, hww41, h42, h⟩ := M.stA_use h
    refine LE.s (Wn.no rfl) rfl (R.stA (a := b40) [(Value.int .i64 t25), (Value.int .u32 t26), (Value.int .u32 t27), (Value.bool t28), (Value.int .i64 t29), (SV.v t30), (Value.int .u32 t31), (Value.bool t32), (Value.int .u32 t33), (Value.bool t34), (Value.int .u32 t35), (Value.bool t36), (SV.v t37), (Value.float .f64 (4617315517961601024 : Nat))] sz37 rfl rfl rfl (by simp [Value.oneCell']) h42 hww41) ?_
    refine LE.nil ?_
    refine WE.seq ?_
    refine WE.seq ?_
    refine WE.reg ?_
    refine LE.p (v := (Value.int .i64 x12)) (Wn.no rfl) rfl (R.move f23) ?_
    refine LE.nil ?_
    obtain ⟨J43, hJ43, h⟩ := M.join_use h
    refine WE.blkJ (fun e w => J43 w ∧ e 1 = (SV.v x11) ∧ e 2 = (Value.pointer (some b8)) ∧ e 3 = (Value.int .i64 x12) ∧ e 4 = (Value.pointer (some b40))) ?_ ?_
    · clear hJ43
      refine WE.seq ?_
      refine WE.reg ?_
      refine LE.p (v := (Value.bool (x12 == (1 : Int)))) (Wn.no rfl) rfl (R.eql rfl rfl) ?_
      refine LE.p (v := (Value.bool (x12 == (1 : Int)))) (Wn.no rfl) rfl (R.assign rfl) ?_
      refine LE.nil ?_
      refine WE.condT rfl (b := (x12 == (1 : Int))) rfl ?_ ?_
      · intro hb44
        replace h := M.ite_t h hb44
        refine WE.reg ?_
        refine LE.p (v := (Value.pointer (some b40))) (Wn.no rfl) rfl (R.fld (off := 0) fa37_0 rfl) ?_
        refine LE.p (v := (Value.pointer (some (b40.add 4)))) (Wn.no rfl) rfl (R.fld (off := 4) fa34_4 rfl) ?_
        refine LE.p (v := (Value.pointer (some ((b40.add 4).add 6)))) (Wn.no rfl) rfl (R.fld (off := 6) fa32_6 rfl) ?_
        obtain ⟨w45, hww45, h46, h47, h⟩ := M.st_use h
        refine LE.s (Wn.no rfl) rfl (R.st (a := ((b40.add 4).add 6)) (v := (Value.int .u32 (101 : Int))) sz28 rfl rfl rfl rfl h46 h47 hww45) ?_
        refine LE.nil ?_
        exact ⟨h, f21, f22, f23, rfl⟩
      · intro hb44
        replace h := M.ite_f h hb44
        refine WE.seq ?_
        refine WE.reg ?_
        refine LE.p (v := (Value.bool (x12 == (2 : Int)))) (Wn.no rfl) rfl (R.eql rfl rfl) ?_
        refine LE.p (v := (Value.bool (x12 == (2 : Int)))) (Wn.no rfl) rfl (R.assign rfl) ?_
        refine LE.nil ?_
        refine WE.condT rfl (b := (x12 == (2 : Int))) rfl ?_ ?_
        · intro hb48
          replace h := M.ite_t h hb48
          refine WE.reg ?_
          refine LE.p (v := (Value.pointer (some b40))) (Wn.no rfl) rfl (R.fld (off := 0) fa37_0 rfl) ?_
          refine LE.p (v := (Value.pointer (some (b40.add 4)))) (Wn.no rfl) rfl (R.fld (off := 4) fa34_4 rfl) ?_
          refine LE.p (v := (Value.pointer (some ((b40.add 4).add 5)))) (Wn.no rfl) rfl (R.fld (off := 5) fa32_5 rfl) ?_
          obtain ⟨w49, hww49, h50, h51, h⟩ := M.st_use h
          refine LE.s (Wn.no rfl) rfl (R.st (a := ((b40.add 4).add 5)) (v := (Value.bool false)) sz4 rfl rfl rfl rfl h50 h51 hww49) ?_
          refine LE.p (v := (Value.pointer (some b40))) (Wn.no rfl) rfl (R.fld (off := 0) fa37_0 rfl) ?_
          refine LE.p (v := (Value.pointer (some (b40.add 4)))) (Wn.no rfl) rfl (R.fld (off := 4) fa34_4 rfl) ?_
          refine LE.p (v := (Value.pointer (some ((b40.add 4).add 6)))) (Wn.no rfl) rfl (R.fld (off := 6) fa32_6 rfl) ?_
          obtain ⟨w52, hww52, h53, h54, h⟩ := M.st_use h
          refine LE.s (Wn.no rfl) rfl (R.st (a := ((b40.add 4).add 6)) (v := (Value.int .u32 (500 : Int))) sz28 rfl rfl rfl rfl h53 h54 hww52) ?_
          refine LE.nil ?_
          exact ⟨h, f21, f22, f23, rfl⟩
        · intro hb48
          replace h := M.ite_f h hb48
          refine WE.seq ?_
          refine WE.reg ?_
          refine LE.p (v := (Value.bool (x12 == (3 : Int)))) (Wn.no rfl) rfl (R.eql rfl rfl) ?_
          refine LE.p (v := (Value.bool (x12 == (3 : Int)))) (Wn.no rfl) rfl (R.assign rfl) ?_
          refine LE.nil ?_
          refine WE.condT rfl (b := (x12 == (3 : Int))) rfl ?_ ?_
          · intro hb55
            replace h := M.ite_t h hb55
            refine WE.reg ?_
            obtain ⟨b58, hpb58, w56, hww56, h⟩ := M.new_use h
            refine LE.r (v := (SV.v (SV.mk (some b58) 1 1))) (Wn.no rfl) rfl (R.bsl (by exact (Ls.cons (R.Pr rfl) Ls.nil)) (fun w => bs30_1 (9 : Int) w) hpb58 hww56) ?_
            refine LE.p (v := (Value.agg #[(Value.int .i64 (2 : Int)), (SV.v (SV.mk (some b58) 1 1))])) (Wn.no rfl) rfl (R.bld (by exact (Ls.cons (R.Pr rfl) (Ls.cons (R.Pr rfl) Ls.nil))) (fun w => bu50_0_1 (2 : Int) (SV.mk (some b58) 1 1) w)) ?_
            obtain ⟨b61, hpb61, w59, hww59, h⟩ := M.new_use h
            refine LE.r (v := (SV.v (SV.mk (some b61) 1 1))) (Wn.no rfl) rfl (R.bsl (by exact (Ls.cons (R.Pr rfl) Ls.nil)) (fun w => bs29_1 (2 : Int) (SV.mk (some b58) 1 1) w) hpb61 hww59) ?_
            refine LE.p (v := (Value.pointer (some b40))) (Wn.no rfl) rfl (R.fld (off := 0) fa37_0 rfl) ?_
            refine LE.p (v := (Value.pointer (some (b40.add 4)))) (Wn.no rfl) rfl (R.fld (off := 4) fa34_4 rfl) ?_
            refine LE.p (v := (Value.pointer (some ((b40.add 4).add 1)))) (Wn.no rfl) rfl (R.fld (off := 1) fa32_1 rfl) ?_
            obtain ⟨w62, hww62, h63, h64, h⟩ := M.st_use h
            refine LE.s (Wn.no rfl) rfl (R.st (a := ((b40.add 4).add 1)) (v := (SV.v (SV.mk (some b61) 1 1))) sz29 rfl rfl rfl rfl h63 h64 hww62) ?_
            refine LE.nil ?_
            exact ⟨h, f21, f22, f23, rfl⟩
          · intro hb55
            replace h := M.ite_f h hb55
            refine WE.seq ?_
            refine WE.reg ?_
            refine LE.p (v := (Value.bool (x12 == (4 : Int)))) (Wn.no rfl) rfl (R.eql rfl rfl) ?_
            refine LE.p (v := (Value.bool (x12 == (4 : Int)))) (Wn.no rfl) rfl (R.assign rfl) ?_
            refine LE.nil ?_
            refine WE.condT rfl (b := (x12 == (4 : Int))) rfl ?_ ?_
            · intro hb65
              replace h := M.ite_t h hb65
              refine WE.reg ?_
              obtain ⟨b68, hpb68, w66, hww66, h⟩ := M.new_use h
              refine LE.r (v := (SV.v (SV.mk (some b68) 3 3))) (Wn.no rfl) rfl (R.bsl (by exact (Ls.cons (R.Pr rfl) (Ls.cons (R.Pr rfl) (Ls.cons (R.Pr rfl) Ls.nil)))) (fun w => bs30_3 (9 : Int) (8 : Int) (7 : Int) w) hpb68 hww66) ?_
              refine LE.p (v := (Value.agg #[(Value.int .i64 (1 : Int)), (SV.v (SV.mk (some b68) 3 3))])) (Wn.no rfl) rfl (R.bld (by exact (Ls.cons (R.Pr rfl) (Ls.cons (R.Pr rfl) Ls.nil))) (fun w => bu50_0_1 (1 : Int) (SV.mk (some b68) 3 3) w)) ?_
              obtain ⟨b71, hpb71, w69, hww69, h⟩ := M.new_use h
              refine LE.r (v := (SV.v (SV.mk (some b71) 1 1))) (Wn.no rfl) rfl (R.bsl (by exact (Ls.cons (R.Pr rfl) Ls.nil)) (fun w => bs29_1 (1 : Int) (SV.mk (some b68) 3 3) w) hpb71 hww69) ?_
              refine LE.p (v := (Value.pointer (some b40))) (Wn.no rfl) rfl (R.fld (off := 0) fa37_0 rfl) ?_
              refine LE.p (v := (Value.pointer (some (b40.add 4)))) (Wn.no rfl) rfl (R.fld (off := 4) fa34_4 rfl) ?_
              refine LE.p (v := (Value.pointer (some ((b40.add 4).add 1)))) (Wn.no rfl) rfl (R.fld (off := 1) fa32_1 rfl) ?_
              obtain ⟨w72, hww72, h73, h74, h⟩ := M.st_use h
              refine LE.s (Wn.no rfl) rfl (R.st (a := ((b40.add 4).add 1)) (v := (SV.v (SV.mk (some b71) 1 1))) sz29 rfl rfl rfl rfl h73 h74 hww72) ?_
              refine LE.nil ?_
              exact ⟨h, f21, f22, f23, rfl⟩
            · intro hb65
              replace h := M.ite_f h hb65
              refine WE.seq ?_
              refine WE.reg ?_
              refine LE.p (v := (Value.bool (x12 == (5 : Int)))) (Wn.no rfl) rfl (R.eql rfl rfl) ?_
              refine LE.p (v := (Value.bool (x12 == (5 : Int)))) (Wn.no rfl) rfl (R.assign rfl) ?_
              refine LE.nil ?_
              refine WE.condT rfl (b := (x12 == (5 : Int))) rfl ?_ ?_
              · intro hb75
                replace h := M.ite_t h hb75
                refine WE.reg ?_
                refine LE.p (v := (Value.pointer (some b40))) (Wn.no rfl) rfl (R.fld (off := 0) fa37_0 rfl) ?_
                refine LE.p (v := (Value.pointer (some (b40.add 4)))) (Wn.no rfl) rfl (R.fld (off := 4) fa34_4 rfl) ?_
                refine LE.p (v := (Value.pointer (some (b40.add 4)))) (Wn.no rfl) rfl (R.fld (off := 0) fa32_0 rfl) ?_
                obtain ⟨w76, hww76, h77, h78, h⟩ := M.st_use h
                refine LE.s (Wn.no rfl) rfl (R.st (a := (b40.add 4)) (v := (Value.int .i64 (0 : Int))) sz3 rfl rfl rfl rfl h77 h78 hww76) ?_
                refine LE.nil ?_
                exact ⟨h, f21, f22, f23, rfl⟩
              · intro hb75
                replace h := M.ite_f h hb75
                refine WE.seq ?_
                refine WE.reg ?_
                refine LE.p (v := (Value.bool (x12 == (6 : Int)))) (Wn.no rfl) rfl (R.eql rfl rfl) ?_
                refine LE.p (v := (Value.bool (x12 == (6 : Int)))) (Wn.no rfl) rfl (R.assign rfl) ?_
                refine LE.nil ?_
                refine WE.condT rfl (b := (x12 == (6 : Int))) rfl ?_ ?_
                · intro hb79
                  replace h := M.ite_t h hb79
                  refine WE.reg ?_
                  refine LE.p (v := (Value.pointer (some b40))) (Wn.no rfl) rfl (R.fld (off := 0) fa37_0 rfl) ?_
                  refine LE.p (v := (Value.pointer (some (b40.add 4)))) (Wn.no rfl) rfl (R.fld (off := 4) fa34_4 rfl) ?_
                  refine LE.p (v := (Value.pointer (some ((b40.add 4).add 4)))) (Wn.no rfl) rfl (R.fld (off := 4) fa32_4 rfl) ?_
                  obtain ⟨w80, hww80, h81, h82, h⟩ := M.st_use h
                  refine LE.s (Wn.no rfl) rfl (R.st (a := ((b40.add 4).add 4)) (v := (Value.int .u32 (4 : Int))) sz28 rfl rfl rfl rfl h81 h82 hww80) ?_
                  refine LE.nil ?_
                  exact ⟨h, f21, f22, f23, rfl⟩
                · intro hb79
                  replace h := M.ite_f h hb79
                  refine WE.seq ?_
                  refine WE.reg ?_
                  refine LE.p (v := (Value.bool (x12 == (7 : Int)))) (Wn.no rfl) rfl (R.eql rfl rfl) ?_
                  refine LE.p (v := (Value.bool (x12 == (7 : Int)))) (Wn.no rfl) rfl (R.assign rfl) ?_
                  refine LE.nil ?_
                  refine WE.condT rfl (b := (x12 == (7 : Int))) rfl ?_ ?_
                  · intro hb83
                    replace h := M.ite_t h hb83
                    refine WE.reg ?_
                    refine LE.p (v := (Value.pointer (some b40))) (Wn.no rfl) rfl (R.fld (off := 0) fa37_0 rfl) ?_
                    refine LE.p (v := (Value.pointer (some (b40.add 4)))) (Wn.no rfl) rfl (R.fld (off := 4) fa34_4 rfl) ?_
                    refine LE.p (v := (Value.pointer (some ((b40.add 4).add 3)))) (Wn.no rfl) rfl (R.fld (off := 3) fa32_3 rfl) ?_
                    obtain ⟨w84, hww84, h85, h86, h⟩ := M.st_use h
                    refine LE.s (Wn.no rfl) rfl (R.st (a := ((b40.add 4).add 3)) (v := (Value.bool false)) sz4 rfl rfl rfl rfl h85 h86 hww84) ?_
                    refine LE.nil ?_
                    exact ⟨h, f21, f22, f23, rfl⟩
                  · intro hb83
                    replace h := M.ite_f h hb83
                    refine WE.seq ?_
                    refine WE.reg ?_
                    refine LE.p (v := (Value.bool (x12 == (8 : Int)))) (Wn.no rfl) rfl (R.eql rfl rfl) ?_
                    refine LE.p (v := (Value.bool (x12 == (8 : Int)))) (Wn.no rfl) rfl (R.assign rfl) ?_
                    refine LE.nil ?_
                    refine WE.condT rfl (b := (x12 == (8 : Int))) rfl ?_ ?_
                    · intro hb87
                      replace h := M.ite_t h hb87
                      refine WE.seq ?_
                      refine WE.reg ?_
                      obtain ⟨b90, hpb90, w88, hww88, h⟩ := M.new_use h
                      refine LE.r (v := (SV.v (SV.mk (some b90) 2 2))) (Wn.no rfl) rfl (R.bsl (by exact (Ls.cons (R.Pr rfl) (Ls.cons (R.Pr rfl) Ls.nil))) (fun w => bs30_2 (8 : Int) (9 : Int) w) hpb90 hww88) ?_
                      refine LE.p (v := (Value.agg #[(Value.int .i64 (2 : Int)), (SV.v (SV.mk (some b90) 2 2))])) (Wn.no rfl) rfl (R.bld (by exact (Ls.cons (R.Pr rfl) (Ls.cons (R.Pr rfl) Ls.nil))) (fun w => bu50_0_1 (2 : Int) (SV.mk (some b90) 2 2) w)) ?_
                      obtain ⟨b93, hpb93, w91, hww91, h⟩ := M.new_use h
                      refine LE.r (v := (SV.v (SV.mk (some b93) 1 1))) (Wn.no rfl) rfl (R.bsl (by exact (Ls.cons (R.Pr rfl) Ls.nil)) (fun w => bs29_1 (2 : Int) (SV.mk (some b90) 2 2) w) hpb93 hww91) ?_
                      refine LE.p (v := (Value.pointer (some b40))) (Wn.no rfl) rfl (R.fld (off := 0) fa37_0 rfl) ?_
                      refine LE.p (v := (Value.pointer (some (b40.add 4)))) (Wn.no rfl) rfl (R.fld (off := 4) fa34_4 rfl) ?_
                      refine LE.p (v := (Value.pointer (some ((b40.add 4).add 1)))) (Wn.no rfl) rfl (R.fld (off := 1) fa32_1 rfl) ?_
                      obtain ⟨w94, hww94, h95, h96, h⟩ := M.st_use h
                      refine LE.s (Wn.no rfl) rfl (R.st (a := ((b40.add 4).add 1)) (v := (SV.v (SV.mk (some b93) 1 1))) sz29 rfl rfl rfl rfl h95 h96 hww94) ?_
                      refine LE.nil ?_
                      refine WE.reg ?_
                      refine LE.p (v := (Value.pointer (some b40))) (Wn.no rfl) rfl (R.fld (off := 0) fa37_0 rfl) ?_
                      refine LE.p (v := (Value.pointer (some (b40.add 4)))) (Wn.no rfl) rfl (R.fld (off := 4) fa34_4 rfl) ?_
                      refine LE.p (v := (Value.pointer (some ((b40.add 4).add 4)))) (Wn.no rfl) rfl (R.fld (off := 4) fa32_4 rfl) ?_
                      obtain ⟨w97, hww97, h98, h99, h⟩ := M.st_use h
                      refine LE.s (Wn.no rfl) rfl (R.st (a := ((b40.add 4).add 4)) (v := (Value.int .u32 (1 : Int))) sz28 rfl rfl rfl rfl h98 h99 hww97) ?_
                      refine LE.nil ?_
                      exact ⟨h, f21, f22, f23, rfl⟩
                    · intro hb87
                      replace h := M.ite_f h hb87
                      refine WE.seq ?_
                      refine WE.reg ?_
                      refine LE.p (v := (Value.bool (x12 == (9 : Int)))) (Wn.no rfl) rfl (R.eql rfl rfl) ?_
                      refine LE.p (v := (Value.bool (x12 == (9 : Int)))) (Wn.no rfl) rfl (R.assign rfl) ?_
                      refine LE.nil ?_
                      refine WE.condT rfl (b := (x12 == (9 : Int))) rfl ?_ ?_
                      · intro hb100
                        replace h := M.ite_t h hb100
                        refine WE.reg ?_
                        refine LE.p (v := (Value.pointer (some b40))) (Wn.no rfl) rfl (R.fld (off := 0) fa37_0 rfl) ?_
                        refine LE.p (v := (Value.pointer (some (b40.add 3)))) (Wn.no rfl) rfl (R.fld (off := 3) fa34_3 rfl) ?_
                        obtain ⟨w101, hww101, h102, h103, h⟩ := M.st_use h
                        refine LE.s (Wn.no rfl) rfl (R.st (a := (b40.add 3)) (v := (Value.bool false)) sz4 rfl rfl rfl rfl h102 h103 hww101) ?_
                        refine LE.nil ?_
                        exact ⟨h, f21, f22, f23, rfl⟩
                      · intro hb100
                        replace h := M.ite_f h hb100
                        refine WE.seq ?_
                        refine WE.reg ?_
                        refine LE.p (v := (Value.bool (x12 == (10 : Int)))) (Wn.no rfl) rfl (R.eql rfl rfl) ?_
                        refine LE.p (v := (Value.bool (x12 == (10 : Int)))) (Wn.no rfl) rfl (R.assign rfl) ?_
                        refine LE.nil ?_
                        refine WE.condT rfl (b := (x12 == (10 : Int))) rfl ?_ ?_
                        · intro hb104
                          replace h := M.ite_t h hb104
                          refine WE.reg ?_
                          refine LE.p (v := (Value.pointer (some (b40.add 13)))) (Wn.no rfl) rfl (R.fld (off := 13) fa37_1 rfl) ?_
                          obtain ⟨w105, hww105, h106, h107, h⟩ := M.st_use h
                          refine LE.s (Wn.no rfl) rfl (R.st (a := (b40.add 13)) (v := (Value.float .f64 (4616189618054758400 : Nat))) sz35 rfl rfl rfl rfl h106 h107 hww105) ?_
                          refine LE.nil ?_
                          exact ⟨h, f21, f22, f23, rfl⟩
                        · intro hb104
                          replace h := M.ite_f h hb104
                          refine WE.seq ?_
                          refine WE.reg ?_
                          refine LE.p (v := (Value.bool (x12 == (11 : Int)))) (Wn.no rfl) rfl (R.eql rfl rfl) ?_
                          refine LE.p (v := (Value.bool (x12 == (11 : Int)))) (Wn.no rfl) rfl (R.assign rfl) ?_
                          refine LE.nil ?_
                          refine WE.condT rfl (b := (x12 == (11 : Int))) rfl ?_ ?_
                          · intro hb108
                            replace h := M.ite_t h hb108
                            refine WE.reg ?_
                            refine LE.c (Wn.no rfl) rfl (R.call bd18 Ls.nil rfl) (Calls.mono h ?_)
                            rintro _ w110 ⟨r109, rfl, h⟩
                            refine ⟨_, rfl, ?_⟩
                            refine LE.p (v := (Value.pointer (some (b40.add 13)))) (Wn.no rfl) rfl (R.fld (off := 13) fa37_1 rfl) ?_
                            obtain ⟨w111, hww111, h112, h113, h⟩ := M.st_use h
                            refine LE.s (Wn.no rfl) rfl (R.st (a := (b40.add 13)) (v := (Value.float .f64 r109)) sz35 rfl rfl rfl rfl h112 h113 hww111) ?_
                            refine LE.nil ?_
                            exact ⟨h, f21, f22, f23, rfl⟩
                          · intro hb108
                            replace h := M.ite_f h hb108
                            refine WE.seq ?_
                            refine WE.reg ?_
                            refine LE.p (v := (Value.bool (x12 == (12 : Int)))) (Wn.no rfl) rfl (R.eql rfl rfl) ?_
                            refine LE.p (v := (Value.bool (x12 == (12 : Int)))) (Wn.no rfl) rfl (R.assign rfl) ?_
                            refine LE.nil ?_
                            refine WE.condT rfl (b := (x12 == (12 : Int))) rfl ?_ ?_
                            · intro hb114
                              replace h := M.ite_t h hb114
                              refine WE.reg ?_
                              refine LE.c (Wn.no rfl) rfl (R.call bd19 (Ls.cons rfl Ls.nil) rfl) (Calls.mono h ?_)
                              rintro _ w116 ⟨r115, rfl, h⟩
                              refine ⟨_, rfl, ?_⟩
                              refine LE.p (v := (Value.pointer (some (b40.add 13)))) (Wn.no rfl) rfl (R.fld (off := 13) fa37_1 rfl) ?_
                              obtain ⟨w117, hww117, h118, h119, h⟩ := M.st_use h
                              refine LE.s (Wn.no rfl) rfl (R.st (a := (b40.add 13)) (v := (Value.float .f64 r115)) sz35 rfl rfl rfl rfl h118 h119 hww117) ?_
                              refine LE.nil ?_
                              exact ⟨h, f21, f22, f23, rfl⟩
                            · intro hb114
                              replace h := M.ite_f h hb114
                              refine WE.seq ?_
                              refine WE.reg ?_
                              refine LE.p (v := (Value.bool (x12 == (13 : Int)))) (Wn.no rfl) rfl (R.eql rfl rfl) ?_
                              refine LE.p (v := (Value.bool (x12 == (13 : Int)))) (Wn.no rfl) rfl (R.assign rfl) ?_
                              refine LE.nil ?_
                              refine WE.condT rfl (b := (x12 == (13 : Int))) rfl ?_ ?_
                              · intro hb120
                                replace h := M.ite_t h hb120
                                refine WE.reg ?_
                                refine LE.c (Wn.no rfl) rfl (R.call bd20 (Ls.cons rfl (Ls.cons rfl Ls.nil)) rfl) (Calls.mono h ?_)
                                rintro _ w122 ⟨r121, rfl, h⟩
                                refine ⟨_, rfl, ?_⟩
                                refine LE.p (v := (Value.pointer (some (b40.add 13)))) (Wn.no rfl) rfl (R.fld (off := 13) fa37_1 rfl) ?_
                                obtain ⟨w123, hww123, h124, h125, h⟩ := M.st_use h
                                refine LE.s (Wn.no rfl) rfl (R.st (a := (b40.add 13)) (v := (Value.float .f64 r121)) sz35 rfl rfl rfl rfl h124 h125 hww123) ?_
                                refine LE.nil ?_
                                exact ⟨h, f21, f22, f23, rfl⟩
                              · intro hb120
                                replace h := M.ite_f h hb120
                                refine WE.seq ?_
                                refine WE.reg ?_
                                refine LE.p (v := (Value.bool (x12 == (14 : Int)))) (Wn.no rfl) rfl (R.eql rfl rfl) ?_
                                refine LE.p (v := (Value.bool (x12 == (14 : Int)))) (Wn.no rfl) rfl (R.assign rfl) ?_
                                refine LE.nil ?_
                                refine WE.condT rfl (b := (x12 == (14 : Int))) rfl ?_ ?_
                                · intro hb126
                                  replace h := M.ite_t h hb126
                                  refine WE.reg ?_
                                  refine LE.p (v := (Value.pointer (some (b40.add 13)))) (Wn.no rfl) rfl (R.fld (off := 13) fa37_1 rfl) ?_
                                  obtain ⟨w127, hww127, h128, h129, h⟩ := M.st_use h
                                  refine LE.s (Wn.no rfl) rfl (R.st (a := (b40.add 13)) (v := (Value.float .f64 (0 : Nat))) sz35 rfl rfl rfl rfl h128 h129 hww127) ?_
                                  refine LE.nil ?_
                                  exact ⟨h, f21, f22, f23, rfl⟩
                                · intro hb126
                                  replace h := M.ite_f h hb126
                                  refine WE.seq ?_
                                  refine WE.reg ?_
                                  refine LE.p (v := (Value.bool (x12 == (15 : Int)))) (Wn.no rfl) rfl (R.eql rfl rfl) ?_
                                  refine LE.p (v := (Value.bool (x12 == (15 : Int)))) (Wn.no rfl) rfl (R.assign rfl) ?_
                                  refine LE.nil ?_
                                  refine WE.condT rfl (b := (x12 == (15 : Int))) rfl ?_ ?_
                                  · intro hb130
                                    replace h := M.ite_t h hb130
                                    refine WE.reg ?_
                                    refine LE.p (v := (Value.pointer (some b40))) (Wn.no rfl) rfl (R.fld (off := 0) fa37_0 rfl) ?_
                                    refine LE.p (v := (Value.pointer (some (b40.add 1)))) (Wn.no rfl) rfl (R.fld (off := 1) fa34_1 rfl) ?_
                                    obtain ⟨w131, hww131, h132, h133, h⟩ := M.st_use h
                                    refine LE.s (Wn.no rfl) rfl (R.st (a := (b40.add 1)) (v := (Value.int .u32 (4 : Int))) sz28 rfl rfl rfl rfl h132 h133 hww131) ?_
                                    refine LE.nil ?_
                                    exact ⟨h, f21, f22, f23, rfl⟩
                                  · intro hb130
                                    replace h := M.ite_f h hb130
                                    refine WE.seq ?_
                                    refine WE.reg ?_
                                    refine LE.p (v := (Value.bool (x12 == (16 : Int)))) (Wn.no rfl) rfl (R.eql rfl rfl) ?_
                                    refine LE.p (v := (Value.bool (x12 == (16 : Int)))) (Wn.no rfl) rfl (R.assign rfl) ?_
                                    refine LE.nil ?_
                                    refine WE.condT rfl (b := (x12 == (16 : Int))) rfl ?_ ?_
                                    · intro hb134
                                      replace h := M.ite_t h hb134
                                      refine WE.reg ?_
                                      refine LE.p (v := (Value.pointer (some b40))) (Wn.no rfl) rfl (R.fld (off := 0) fa37_0 rfl) ?_
                                      refine LE.p (v := (Value.pointer (some (b40.add 2)))) (Wn.no rfl) rfl (R.fld (off := 2) fa34_2 rfl) ?_
                                      obtain ⟨w135, hww135, h136, h137, h⟩ := M.st_use h
                                      refine LE.s (Wn.no rfl) rfl (R.st (a := (b40.add 2)) (v := (Value.int .u32 (4 : Int))) sz28 rfl rfl rfl rfl h136 h137 hww135) ?_
                                      refine LE.nil ?_
                                      exact ⟨h, f21, f22, f23, rfl⟩
                                    · intro hb134
                                      replace h := M.ite_f h hb134
                                      refine WE.skip ?_
                                      exact ⟨h, f21, f22, f23, rfl⟩
    · rintro e138 w139 ⟨h, f140, f141, f142, f143⟩
      subst hJ43
      refine WE.reg ?_
      refine LE.p (v := (SV.v x11)) (Wn.no rfl) rfl (R.move f140) ?_
      obtain ⟨t144, t145, t146, t147, t148, t149, t150, t151, t152, t153, t154, t155, t156, t157, h158, h⟩ := h
      refine LE.r (v := (Value.agg #[(Value.int .i64 t144), (Value.int .u32 t145), (Value.int .u32 t146), (Value.bool t147), (Value.int .i64 t148), (SV.v t149), (Value.int .u32 t150), (Value.bool t151), (Value.int .u32 t152), (Value.bool t153), (Value.int .u32 t154), (Value.bool t155), (SV.v t156), (Value.float .f64 t157)])) (Wn.no rfl) rfl (R.ldA ag37 sz37 f143 rfl h158) ?_
      obtain ⟨b161, hpb161, w159, hww159, h⟩ := M.new_use h
      refine LE.r (v := (SV.v (SV.mk (some b161) 1 1))) (Wn.no rfl) rfl (R.bsl (by exact (Ls.cons (R.Pr rfl) Ls.nil)) (fun w => bs24_1 t144 t145 t146 t147 t148 t149 t150 t151 t152 t153 t154 t155 t156 t157 w) hpb161 hww159) ?_
      obtain ⟨s162, w163, h164, h⟩ := h
      refine LE.r (v := (SV.v s162)) (Wn.no rfl) rfl (R.app (s := x11) (r := s162) rfl rfl h164) ?_
      refine LE.p (v := (SV.v s162)) (Wn.no rfl) rfl (R.assign rfl) ?_
      refine LE.nil ?_
      refine WE.reg ?_
      refine LE.p (v := (Value.int .i64 x12)) (Wn.no rfl) rfl (R.move f142) ?_
      refine LE.p (v := (Value.int .i64 (IntKind.i64.wrap (x12 + (1 : Int))))) (Wn.no rfl) rfl (R.add rfl rfl) ?_
      refine LE.p (v := (Value.int .i64 (IntKind.i64.wrap (x12 + (1 : Int))))) (Wn.no rfl) rfl (R.assign rfl) ?_
      refine LE.nil ?_
      obtain ⟨m19, hm20, h⟩ := h
      exact ⟨m19, hm20, _, _, h, rfl, f141, rfl⟩
  · intro hb24
    replace h := M.ite_f h hb24
    refine WE.exit ?_
    refine WE.seq ?_
    refine WE.seq ?_
    refine WE.reg ?_
    refine LE.p (v := (Value.int .i64 (0 : Int))) (Wn.no rfl) rfl (R.assign rfl) ?_
    refine LE.nil ?_
    refine WE.block ?_
    obtain ⟨I170, ⟨n169, h⟩, hr171⟩ := h
    refine WE.loop (fun n e w => ∃ (x165 : Int), I170 n x165 w ∧ e 1 = (SV.v x11) ∧ e 5 = (Value.int .i64 x165)) n169 ⟨_, h, f21, rfl⟩ ?_
    clear h
    rintro n169 e168 w167 ⟨x165, h, f174, f175⟩
    replace h := hr171 n169 x165 w167 h
    refine WE.seq ?_
    refine WE.seq ?_
    refine WE.reg ?_
    refine LE.p (v := (Value.int .i64 x165)) (Wn.no rfl) rfl (R.move f175) ?_
    refine LE.p (v := (SV.v x11)) (Wn.no rfl) rfl (R.move f174) ?_
    refine LE.p (v := (Value.int .i64 (x11.len : Int))) (Wn.no rfl) rfl (R.len sl24 rfl) ?_
    refine LE.p (v := (Value.bool (decide (x165 < (x11.len : Int))))) (Wn.no rfl) rfl (R.lss rfl rfl) ?_
    refine LE.nil ?_
    refine WE.condT rfl (b := (decide (x165 < (x11.len : Int)))) rfl ?_ ?_
    · intro hb176
      replace h := M.ite_t h hb176
      refine WE.skip ?_
      refine WE.seq ?_
      refine WE.block ?_
      refine WE.seq ?_
      refine WE.reg ?_
      refine LE.p (v := (Value.int .i64 (0 : Int))) (Wn.no rfl) rfl (R.assign rfl) ?_
      refine LE.nil ?_
      refine WE.block ?_
      obtain ⟨I182, ⟨n181, h⟩, hr183⟩ := h
      refine WE.loop (fun n e w => ∃ (x177 : Int), I182 n x177 w ∧ e 1 = (SV.v x11) ∧ e 5 = (Value.int .i64 x165) ∧ e 6 = (Value.int .i64 x177)) n181 ⟨_, h, f174, f175, rfl⟩ ?_
      clear h
      rintro n181 e180 w179 ⟨x177, h, f186, f187, f188⟩
      replace h := hr183 n181 x177 w179 h
      refine WE.seq ?_
      refine WE.seq ?_
      refine WE.reg ?_
      refine LE.p (v := (Value.int .i64 x177)) (Wn.no rfl) rfl (R.move f188) ?_
      refine LE.p (v := (SV.v x11)) (Wn.no rfl) rfl (R.move f186) ?_
      refine LE.p (v := (Value.int .i64 (x11.len : Int))) (Wn.no rfl) rfl (R.len sl24 rfl) ?_
      refine LE.p (v := (Value.bool (decide (x177 < (x11.len : Int))))) (Wn.no rfl) rfl (R.lss rfl rfl) ?_
      refine LE.nil ?_
      refine WE.condT rfl (b := (decide (x177 < (x11.len : Int)))) rfl ?_ ?_
      · intro hb189
        replace h := M.ite_t h hb189
        refine WE.skip ?_
        refine WE.seq ?_
        refine WE.block ?_
        refine WE.seq ?_
        obtain ⟨J190, hJ190, h⟩ := M.join_use h
        refine WE.drawJ (fun e w => ∃ (x191 : Bool), J190 x191 w ∧ e 1 = (SV.v x11) ∧ e 5 = (Value.int .i64 x165) ∧ e 6 = (Value.int .i64 x177) ∧ e 155 = (Value.bool x191)) mix ?_ ?_
        · clear hJ190
          obtain ⟨w192, hww192, h⟩ := M.drew_use h
          rw [← hww192]
          clear hww192
          refine DE.t 0 (v := (SV.v x11)) rfl (by kernel_rfl) (Wn.no rfl) rfl (R.move f186) ?_
          refine DE.t 1 (v := (Value.int .i64 x165)) rfl (by kernel_rfl) (Wn.no rfl) rfl (R.move f187) ?_
          obtain ⟨a193, h194, h195, h196, h⟩ := h
          refine DE.t 2 (v := (Value.pointer (some (a193.add (x165.toNat * 14))))) rfl (by kernel_rfl) (Wn.no rfl) rfl (R.idx (s := x11) sl24 rfl rfl h194 h195 h196) ?_
          refine DE.t 4 (v := (SV.v x11)) rfl (by kernel_rfl) (Wn.no rfl) rfl (R.move f186) ?_
          refine DE.t 5 (v := (Value.int .i64 x177)) rfl (by kernel_rfl) (Wn.no rfl) rfl (R.move f188) ?_
          obtain ⟨a197, h198, h199, h200, h⟩ := h
          refine DE.t 6 (v := (Value.pointer (some (a197.add (x177.toNat * 14))))) rfl (by kernel_rfl) (Wn.no rfl) rfl (R.idx (s := x11) sl24 rfl rfl h198 h199 h200) ?_
          obtain ⟨t201, t202, t203, t204, t205, t206, t207, t208, t209, t210, t211, t212, t213, t214, h215, h⟩ := h
          refine DE.hold 3 (fun w => Cs w (a193.add (x165.toNat * 14)) 0 [(Value.int .i64 t201), (Value.int .u32 t202), (Value.int .u32 t203), (Value.bool t204), (Value.int .i64 t205), (SV.v t206), (Value.int .u32 t207), (Value.bool t208), (Value.int .u32 t209), (Value.bool t210), (Value.int .u32 t211), (Value.bool t212), (SV.v t213), (Value.float .f64 t214)]) (v := (Value.agg #[(Value.int .i64 t201), (Value.int .u32 t202), (Value.int .u32 t203), (Value.bool t204), (Value.int .i64 t205), (SV.v t206), (Value.int .u32 t207), (Value.bool t208), (Value.int .u32 t209), (Value.bool t210), (Value.int .u32 t211), (Value.bool t212), (SV.v t213), (Value.float .f64 t214)])) rfl (by kernel_rfl) (Wn.no rfl) rfl h215 (fun w hs => R.ldA ag37 sz37 rfl rfl hs) ?_
          obtain ⟨t216, t217, t218, t219, t220, t221, t222, t223, t224, t225, t226, t227, t228, t229, h230, h⟩ := h
          refine DE.main 7 (by kernel_rfl) ?_
          refine One.r 7 (v := (Value.agg #[(Value.int .i64 t216), (Value.int .u32 t217), (Value.int .u32 t218), (Value.bool t219), (Value.int .i64 t220), (SV.v t221), (Value.int .u32 t222), (Value.bool t223), (Value.int .u32 t224), (Value.bool t225), (Value.int .u32 t226), (Value.bool t227), (SV.v t228), (Value.float .f64 t229)])) rfl (Wn.no rfl) rfl (R.ldA ag37 sz37 rfl rfl h230) (.inl rfl) ?_
          obtain ⟨b233, hpb233, w231, hww231, h⟩ := M.new_use h
          refine DE.main 8 (by kernel_rfl) ?_
          refine One.r 8 (v := (SV.v (SV.mk (some b233) 2 2))) rfl (Wn.no rfl) rfl (R.bsl (by exact (Ls.cons (R.Pr rfl) (Ls.cons (R.Pr rfl) Ls.nil))) (fun w => bs24_2 t201 t202 t203 t204 t205 t206 t207 t208 t209 t210 t211 t212 t213 t214 t216 t217 t218 t219 t220 t221 t222 t223 t224 t225 t226 t227 t228 t229 w) hpb233 hww231) (.inr ⟨aftT (by kernel_rfl), trivial⟩) ?_
          refine DE.main 9 (by kernel_rfl) ?_
          refine One.c 9 rfl (Wn.no rfl) rfl (R.call bd9 (Ls.cons rfl Ls.nil) rfl) (Calls.mono h ?_)
          rintro _ w235 ⟨r234, rfl, h⟩
          refine ⟨_, rfl, ⟨aftT (by kernel_rfl), trivial⟩, ?_⟩
          refine DE.t 10 (v := (Value.bool (!r234))) rfl (by kernel_rfl) (Wn.no rfl) rfl (R.not rfl) ?_
          refine DE.t 11 (v := (Value.bool (!r234))) rfl (by kernel_rfl) (Wn.no rfl) rfl (R.move rfl) ?_
          rcases M.ite_use h with ⟨hb236, h⟩ | ⟨hb236, h⟩
          · refine DE.u 12 rfl (by kernel_rfl) (Un.no 11 131 false rfl rfl rfl (congrArg Value.bool hb236)) ?_
            refine DE.u 13 rfl (by kernel_rfl) (Un.no 11 131 false rfl rfl rfl (congrArg Value.bool hb236)) ?_
            refine DE.u 14 rfl (by kernel_rfl) (Un.no 11 131 false rfl rfl rfl (congrArg Value.bool hb236)) ?_
            refine DE.u 15 rfl (by kernel_rfl) (Un.no 11 131 false rfl rfl rfl (congrArg Value.bool hb236)) ?_
            refine DE.u 16 rfl (by kernel_rfl) (Un.no 11 131 false rfl rfl rfl (congrArg Value.bool hb236)) ?_
            refine DE.u 17 rfl (by kernel_rfl) (Un.no 11 131 false rfl rfl rfl (congrArg Value.bool hb236)) ?_
            refine DE.u 18 rfl (by kernel_rfl) (Un.no 11 131 false rfl rfl rfl (congrArg Value.bool hb236)) ?_
            refine DE.u 19 rfl (by kernel_rfl) (Un.no 11 131 false rfl rfl rfl (congrArg Value.bool hb236)) ?_
            refine DE.u 20 rfl (by kernel_rfl) (Un.no 11 131 false rfl rfl rfl (congrArg Value.bool hb236)) ?_
            refine DE.u 21 rfl (by kernel_rfl) (Un.no 11 131 false rfl rfl rfl (congrArg Value.bool hb236)) ?_
            refine DE.u 22 rfl (by kernel_rfl) (Un.no 11 131 false rfl rfl rfl (congrArg Value.bool hb236)) ?_
            refine DE.u 23 rfl (by kernel_rfl) (Un.no 11 131 false rfl rfl rfl (congrArg Value.bool hb236)) ?_
            refine DE.u 24 rfl (by kernel_rfl) (Un.no 11 131 false rfl rfl rfl (congrArg Value.bool hb236)) ?_
            refine DE.u 25 rfl (by kernel_rfl) (Un.no 11 131 false rfl rfl rfl (congrArg Value.bool hb236)) ?_
            refine DE.u 26 rfl (by kernel_rfl) (Un.no 11 131 false rfl rfl rfl (congrArg Value.bool hb236)) ?_
            refine DE.u 27 rfl (by kernel_rfl) (Un.no 11 131 false rfl rfl rfl (congrArg Value.bool hb236)) ?_
            refine DE.u 28 rfl (by kernel_rfl) (Un.no 11 131 false rfl rfl rfl (congrArg Value.bool hb236)) ?_
            refine DE.u 29 rfl (by kernel_rfl) (Un.no 11 131 false rfl rfl rfl (congrArg Value.bool hb236)) ?_
            refine DE.u 30 rfl (by kernel_rfl) (Un.no 11 131 false rfl rfl rfl (congrArg Value.bool hb236)) ?_
            refine DE.u 31 rfl (by kernel_rfl) (Un.no 11 131 false rfl rfl rfl (congrArg Value.bool hb236)) ?_
            refine DE.u 32 rfl (by kernel_rfl) (Un.no 11 131 false rfl rfl rfl (congrArg Value.bool hb236)) ?_
            refine DE.u 33 rfl (by kernel_rfl) (Un.no 11 131 false rfl rfl rfl (congrArg Value.bool hb236)) ?_
            refine DE.u 34 rfl (by kernel_rfl) (Un.no 11 131 false rfl rfl rfl (congrArg Value.bool hb236)) ?_
            refine DE.t 35 (v := (Value.bool true)) rfl (by kernel_rfl) (Wn.no rfl) rfl (R.pickT (congrArg Value.bool hb236) rfl) ?_
            refine DE.done (by kernel_rfl) ?_
            exact ⟨_, h, f186, f187, f188, rfl⟩
          · refine DE.t 12 (v := (SV.v x11)) rfl (by kernel_rfl) (Wn.yes 11 131 false rfl rfl rfl (congrArg Value.bool hb236)) rfl (R.move f186) ?_
            refine DE.t 13 (v := (Value.int .i64 x165)) rfl (by kernel_rfl) (Wn.yes 11 131 false rfl rfl rfl (congrArg Value.bool hb236)) rfl (R.move f187) ?_
            obtain ⟨a237, h238, h239, h240, h⟩ := h
            refine DE.t 14 (v := (Value.pointer (some (a237.add (x165.toNat * 14))))) rfl (by kernel_rfl) (Wn.yes 11 131 false rfl rfl rfl (congrArg Value.bool hb236)) rfl (R.idx (s := x11) sl24 rfl rfl h238 h239 h240) ?_
            refine DE.t 16 (v := (SV.v x11)) rfl (by kernel_rfl) (Wn.yes 11 131 false rfl rfl rfl (congrArg Value.bool hb236)) rfl (R.move f186) ?_
            obtain ⟨a241, h242, h243, h244, h⟩ := h
            refine DE.t 17 (v := (Value.pointer (some (a241.add ((0 : Int).toNat * 14))))) rfl (by kernel_rfl) (Wn.yes 11 131 false rfl rfl rfl (congrArg Value.bool hb236)) rfl (R.idx (s := x11) sl24 rfl rfl h242 h243 h244) ?_
            refine DE.t 19 (v := (SV.v x11)) rfl (by kernel_rfl) (Wn.yes 11 131 false rfl rfl rfl (congrArg Value.bool hb236)) rfl (R.move f186) ?_
            refine DE.t 20 (v := (Value.int .i64 x177)) rfl (by kernel_rfl) (Wn.yes 11 131 false rfl rfl rfl (congrArg Value.bool hb236)) rfl (R.move f188) ?_
            obtain ⟨a245, h246, h247, h248, h⟩ := h
            refine DE.t 21 (v := (Value.pointer (some (a245.add (x177.toNat * 14))))) rfl (by kernel_rfl) (Wn.yes 11 131 false rfl rfl rfl (congrArg Value.bool hb236)) rfl (R.idx (s := x11) sl24 rfl rfl h246 h247 h248) ?_
            refine DE.t 23 (v := (SV.v x11)) rfl (by kernel_rfl) (Wn.yes 11 131 false rfl rfl rfl (congrArg Value.bool hb236)) rfl (R.move f186) ?_
            refine DE.t 24 (v := (Value.int .i64 x165)) rfl (by kernel_rfl) (Wn.yes 11 131 false rfl rfl rfl (congrArg Value.bool hb236)) rfl (R.move f187) ?_
            refine DE.t 25 (v := (Value.int .i64 x177)) rfl (by kernel_rfl) (Wn.yes 11 131 false rfl rfl rfl (congrArg Value.bool hb236)) rfl (R.move f188) ?_
            refine DE.t 26 (v := (Value.int .i64 (IntKind.i64.wrap (x165 + x177)))) rfl (by kernel_rfl) (Wn.yes 11 131 false rfl rfl rfl (congrArg Value.bool hb236)) rfl (R.add rfl rfl) ?_
            refine DE.t 27 (v := (SV.v x11)) rfl (by kernel_rfl) (Wn.yes 11 131 false rfl rfl rfl (congrArg Value.bool hb236)) rfl (R.move f186) ?_
            refine DE.t 28 (v := (Value.int .i64 (x11.len : Int))) rfl (by kernel_rfl) (Wn.yes 11 131 false rfl rfl rfl (congrArg Value.bool hb236)) rfl (R.len sl24 rfl) ?_
            obtain ⟨h249, h⟩ := h
            refine DE.t 29 (v := (Value.int .i64 (Int.tmod (IntKind.i64.wrap (x165 + x177)) (x11.len : Int)))) rfl (by kernel_rfl) (Wn.yes 11 131 false rfl rfl rfl (congrArg Value.bool hb236)) rfl (R.rem rfl rfl h249) ?_
            obtain ⟨a250, h251, h252, h253, h⟩ := h
            refine DE.t 30 (v := (Value.pointer (some (a250.add ((Int.tmod (IntKind.i64.wrap (x165 + x177)) (x11.len : Int)).toNat * 14))))) rfl (by kernel_rfl) (Wn.yes 11 131 false rfl rfl rfl (congrArg Value.bool hb236)) rfl (R.idx (s := x11) sl24 rfl rfl h251 h252 h253) ?_
            obtain ⟨t254, t255, t256, t257, t258, t259, t260, t261, t262, t263, t264, t265, t266, t267, h268, h⟩ := h
            refine DE.hold 15 (fun w => Cs w (a237.add (x165.toNat * 14)) 0 [(Value.int .i64 t254), (Value.int .u32 t255), (Value.int .u32 t256), (Value.bool t257), (Value.int .i64 t258), (SV.v t259), (Value.int .u32 t260), (Value.bool t261), (Value.int .u32 t262), (Value.bool t263), (Value.int .u32 t264), (Value.bool t265), (SV.v t266), (Value.float .f64 t267)]) (v := (Value.agg #[(Value.int .i64 t254), (Value.int .u32 t255), (Value.int .u32 t256), (Value.bool t257), (Value.int .i64 t258), (SV.v t259), (Value.int .u32 t260), (Value.bool t261), (Value.int .u32 t262), (Value.bool t263), (Value.int .u32 t264), (Value.bool t265), (SV.v t266), (Value.float .f64 t267)])) rfl (by kernel_rfl) (Wn.yes 11 131 false rfl rfl rfl (congrArg Value.bool hb236)) rfl h268 (fun w hs => R.ldA ag37 sz37 rfl rfl hs) ?_
            obtain ⟨t269, t270, t271, t272, t273, t274, t275, t276, t277, t278, t279, t280, t281, t282, h283, h⟩ := h
            refine DE.hold 18 (fun w => Cs w (a241.add ((0 : Int).toNat * 14)) 0 [(Value.int .i64 t269), (Value.int .u32 t270), (Value.int .u32 t271), (Value.bool t272), (Value.int .i64 t273), (SV.v t274), (Value.int .u32 t275), (Value.bool t276), (Value.int .u32 t277), (Value.bool t278), (Value.int .u32 t279), (Value.bool t280), (SV.v t281), (Value.float .f64 t282)]) (v := (Value.agg #[(Value.int .i64 t269), (Value.int .u32 t270), (Value.int .u32 t271), (Value.bool t272), (Value.int .i64 t273), (SV.v t274), (Value.int .u32 t275), (Value.bool t276), (Value.int .u32 t277), (Value.bool t278), (Value.int .u32 t279), (Value.bool t280), (SV.v t281), (Value.float .f64 t282)])) rfl (by kernel_rfl) (Wn.yes 11 131 false rfl rfl rfl (congrArg Value.bool hb236)) rfl h283 (fun w hs => R.ldA ag37 sz37 rfl rfl hs) ?_
            obtain ⟨t284, t285, t286, t287, t288, t289, t290, t291, t292, t293, t294, t295, t296, t297, h298, h⟩ := h
            refine DE.hold 22 (fun w => Cs w (a245.add (x177.toNat * 14)) 0 [(Value.int .i64 t284), (Value.int .u32 t285), (Value.int .u32 t286), (Value.bool t287), (Value.int .i64 t288), (SV.v t289), (Value.int .u32 t290), (Value.bool t291), (Value.int .u32 t292), (Value.bool t293), (Value.int .u32 t294), (Value.bool t295), (SV.v t296), (Value.float .f64 t297)]) (v := (Value.agg #[(Value.int .i64 t284), (Value.int .u32 t285), (Value.int .u32 t286), (Value.bool t287), (Value.int .i64 t288), (SV.v t289), (Value.int .u32 t290), (Value.bool t291), (Value.int .u32 t292), (Value.bool t293), (Value.int .u32 t294), (Value.bool t295), (SV.v t296), (Value.float .f64 t297)])) rfl (by kernel_rfl) (Wn.yes 11 131 false rfl rfl rfl (congrArg Value.bool hb236)) rfl h298 (fun w hs => R.ldA ag37 sz37 rfl rfl hs) ?_
            obtain ⟨t299, t300, t301, t302, t303, t304, t305, t306, t307, t308, t309, t310, t311, t312, h313, h⟩ := h
            refine DE.main 31 (by kernel_rfl) ?_
            refine One.r 31 (v := (Value.agg #[(Value.int .i64 t299), (Value.int .u32 t300), (Value.int .u32 t301), (Value.bool t302), (Value.int .i64 t303), (SV.v t304), (Value.int .u32 t305), (Value.bool t306), (Value.int .u32 t307), (Value.bool t308), (Value.int .u32 t309), (Value.bool t310), (SV.v t311), (Value.float .f64 t312)])) rfl (Wn.yes 11 131 false rfl rfl rfl (congrArg Value.bool hb236)) rfl (R.ldA ag37 sz37 rfl rfl h313) (.inl rfl) ?_
            obtain ⟨b316, hpb316, w314, hww314, h⟩ := M.new_use h
            refine DE.main 32 (by kernel_rfl) ?_
            refine One.r 32 (v := (SV.v (SV.mk (some b316) 4 4))) rfl (Wn.yes 11 131 false rfl rfl rfl (congrArg Value.bool hb236)) rfl (R.bsl (by exact (Ls.cons (R.Pr rfl) (Ls.cons (R.Pr rfl) (Ls.cons (R.Pr rfl) (Ls.cons (R.Pr rfl) Ls.nil))))) (fun w => bs24_4 t254 t255 t256 t257 t258 t259 t260 t261 t262 t263 t264 t265 t266 t267 t269 t270 t271 t272 t273 t274 t275 t276 t277 t278 t279 t280 t281 t282 t284 t285 t286 t287 t288 t289 t290 t291 t292 t293 t294 t295 t296 t297 t299 t300 t301 t302 t303 t304 t305 t306 t307 t308 t309 t310 t311 t312 w) hpb316 hww314) (.inr ⟨aftT (by kernel_rfl), aftT (by kernel_rfl), aftT (by kernel_rfl), aftT (by kernel_rfl), trivial⟩) ?_
            refine DE.main 33 (by kernel_rfl) ?_
            refine One.c 33 rfl (Wn.yes 11 131 false rfl rfl rfl (congrArg Value.bool hb236)) rfl (R.call bd9 (Ls.cons rfl Ls.nil) rfl) (Calls.mono h ?_)
            rintro _ w318 ⟨r317, rfl, h⟩
            refine ⟨_, rfl, ⟨aftT (by kernel_rfl), aftT (by kernel_rfl), aftT (by kernel_rfl), aftT (by kernel_rfl), trivial⟩, ?_⟩
            refine DE.t 34 (v := (Value.bool (!r317))) rfl (by kernel_rfl) (Wn.yes 11 131 false rfl rfl rfl (congrArg Value.bool hb236)) rfl (R.not rfl) ?_
            refine DE.t 35 (v := (Value.bool (!r317))) rfl (by kernel_rfl) (Wn.no rfl) rfl (R.pickF (congrArg Value.bool hb236) rfl) ?_
            refine DE.done (by kernel_rfl) ?_
            exact ⟨_, h, f186, f187, f188, rfl⟩
        · rintro e319 w320 ⟨x191, h, f321, f322, f323, f324⟩
          subst hJ190
          refine WE.condT rfl (b := x191) f324 ?_ ?_
          · intro hb325
            replace h := M.ite_t h hb325
            refine WE.seq ?_
            refine WE.reg ?_
            refine LE.p (v := (Value.bool false)) (Wn.no rfl) rfl (R.assign rfl) ?_
            refine LE.nil ?_
            refine WE.ret ?_
            exact ⟨_, (Res.tmp rfl Res.nil), _, rfl, h⟩
          · intro hb325
            replace h := M.ite_f h hb325
            refine WE.skip ?_
            refine WE.reg ?_
            refine LE.p (v := (Value.int .i64 x177)) (Wn.no rfl) rfl (R.move f323) ?_
            refine LE.p (v := (Value.int .i64 (IntKind.i64.wrap (x177 + (1 : Int))))) (Wn.no rfl) rfl (R.add rfl rfl) ?_
            refine LE.p (v := (Value.int .i64 (IntKind.i64.wrap (x177 + (1 : Int))))) (Wn.no rfl) rfl (R.assign rfl) ?_
            refine LE.nil ?_
            obtain ⟨m184, hm185, h⟩ := h
            exact ⟨m184, hm185, _, h, f321, f322, rfl⟩
      · intro hb189
        replace h := M.ite_f h hb189
        refine WE.exit ?_
        refine WE.reg ?_
        refine LE.p (v := (Value.int .i64 x165)) (Wn.no rfl) rfl (R.move f187) ?_
        refine LE.p (v := (Value.int .i64 (IntKind.i64.wrap (x165 + (1 : Int))))) (Wn.no rfl) rfl (R.add rfl rfl) ?_
        refine LE.p (v := (Value.int .i64 (IntKind.i64.wrap (x165 + (1 : Int))))) (Wn.no rfl) rfl (R.assign rfl) ?_
        refine LE.nil ?_
        obtain ⟨m172, hm173, h⟩ := h
        exact ⟨m172, hm173, _, h, f186, rfl⟩
    · intro hb176
      replace h := M.ite_f h hb176
      refine WE.exit ?_
      refine WE.seq ?_
      obtain ⟨J326, hJ326, h⟩ := M.join_use h
      refine WE.regJ (fun e w => ∃ (x327 : Bool), J326 x327 w ∧ e 0 = (Value.bool x327)) ?_ ?_
      · clear hJ326
        refine LE.p (v := (SV.v x11)) (Wn.no rfl) rfl (R.move f174) ?_
        refine LE.c (Wn.no rfl) rfl (R.call bd9 (Ls.cons rfl Ls.nil) rfl) (Calls.mono h ?_)
        rintro _ w329 ⟨r328, rfl, h⟩
        refine ⟨_, rfl, ?_⟩
        refine LE.p (v := (Value.bool r328)) (Wn.no rfl) rfl (R.move rfl) ?_
        rcases M.ite_use h with ⟨hb330, h⟩ | ⟨hb330, h⟩
        · refine LE.c (Wn.yes 2 158 true rfl rfl rfl (congrArg Value.bool hb330)) rfl (R.call bd9 (Ls.cons rfl Ls.nil) rfl) (Calls.mono h ?_)
          rintro _ w332 ⟨r331, rfl, h⟩
          refine ⟨_, rfl, ?_⟩
          refine LE.p (v := (Value.bool r331)) (Wn.no rfl) rfl (R.pickT (congrArg Value.bool hb330) rfl) ?_
          refine LE.p (v := (Value.bool r331)) (Wn.no rfl) rfl (R.move rfl) ?_
          rcases M.ite_use h with ⟨hb333, h⟩ | ⟨hb333, h⟩
          · refine LE.c (Wn.yes 5 161 true rfl rfl rfl (congrArg Value.bool hb333)) rfl (R.call bd11 Ls.nil rfl) (Calls.mono h ?_)
            rintro _ w335 ⟨r334, rfl, h⟩
            refine ⟨_, rfl, ?_⟩
            refine LE.p (v := (Value.bool r334)) (Wn.no rfl) rfl (R.pickT (congrArg Value.bool hb333) rfl) ?_
            refine LE.p (v := (Value.bool r334)) (Wn.no rfl) rfl (R.assign rfl) ?_
            refine LE.nil ?_
            exact ⟨_, h, rfl⟩
          · refine LE.u (Un.no 5 161 true rfl rfl rfl (congrArg Value.bool hb333)) ?_
            refine LE.p (v := (Value.bool false)) (Wn.no rfl) rfl (R.pickF (congrArg Value.bool hb333) rfl) ?_
            refine LE.p (v := (Value.bool false)) (Wn.no rfl) rfl (R.assign rfl) ?_
            refine LE.nil ?_
            exact ⟨_, h, rfl⟩
        · refine LE.u (Un.no 2 158 true rfl rfl rfl (congrArg Value.bool hb330)) ?_
          refine LE.p (v := (Value.bool false)) (Wn.no rfl) rfl (R.pickF (congrArg Value.bool hb330) rfl) ?_
          refine LE.p (v := (Value.bool false)) (Wn.no rfl) rfl (R.move rfl) ?_
          refine LE.u (Un.no 5 161 true rfl rfl rfl rfl) ?_
          refine LE.p (v := (Value.bool false)) (Wn.no rfl) rfl (R.pickF rfl rfl) ?_
          refine LE.p (v := (Value.bool false)) (Wn.no rfl) rfl (R.assign rfl) ?_
          refine LE.nil ?_
          exact ⟨_, h, rfl⟩
      · rintro e336 w337 ⟨x327, h, f338⟩
        subst hJ326
        refine WE.ret ?_
        exact ⟨_, (Res.tmp f338 Res.nil), _, rfl, h⟩
/-- The formula of signpost.signpostlaw17.same. -/
def F9 (p0 : SV) (K : Bool → World → Prop) (w0 : World) : Prop :=
Calls Try.prog 21 #[(SV.v p0)] w0 (R21 fun r1 w2 =>
M.loop1 (fun (J4 : Int → World → Prop) (x3 : Int) (w5 : World) => 
M.ite (decide (x3 < (10 : Int))) (
Calls Try.prog 12 #[(SV.v p0), (Value.int .i64 x3)] w5 (R12 fun r16 w17 =>
Calls Try.prog 23 #[(SV.v r1), (Value.int .i64 x3)] w17 (R23 fun r18 w19 =>
Calls Try.prog 22 #[(SV.v r16), (SV.v r18)] w19 (R22 fun r20 w21 =>
M.ite (!r20) (
K false w21) (
M.loop1 (fun (J24 : Int → World → Prop) (x23 : Int) (w25 : World) => 
M.ite (decide ((IntKind.i64.wrap (x23 + (1 : Int))) < (p0.len : Int))) (
M.drew w25 fun w37 => 
M.idx p0 x23 14 fun a38 =>
M.idx p0 (IntKind.i64.wrap (x23 + (1 : Int))) 14 fun a42 =>
M.idx r1 x23 14 fun a46 =>
M.idx r1 (IntKind.i64.wrap (x23 + (1 : Int))) 14 fun a50 =>
∃ (t54 : Int) (t55 : Int) (t56 : Int) (t57 : Bool) (t58 : Int) (t59 : SV) (t60 : Int) (t61 : Bool) (t62 : Int) (t63 : Bool) (t64 : Int) (t65 : Bool) (t66 : SV) (t67 : Nat), Cs w37 (a38.add (x23.toNat * 14)) 0 [(Value.int .i64 t54), (Value.int .u32 t55), (Value.int .u32 t56), (Value.bool t57), (Value.int .i64 t58), (SV.v t59), (Value.int .u32 t60), (Value.bool t61), (Value.int .u32 t62), (Value.bool t63), (Value.int .u32 t64), (Value.bool t65), (SV.v t66), (Value.float .f64 t67)] ∧
∃ (t69 : Int) (t70 : Int) (t71 : Int) (t72 : Bool) (t73 : Int) (t74 : SV) (t75 : Int) (t76 : Bool) (t77 : Int) (t78 : Bool) (t79 : Int) (t80 : Bool) (t81 : SV) (t82 : Nat), Cs w37 (a42.add ((IntKind.i64.wrap (x23 + (1 : Int))).toNat * 14)) 0 [(Value.int .i64 t69), (Value.int .u32 t70), (Value.int .u32 t71), (Value.bool t72), (Value.int .i64 t73), (SV.v t74), (Value.int .u32 t75), (Value.bool t76), (Value.int .u32 t77), (Value.bool t78), (Value.int .u32 t79), (Value.bool t80), (SV.v t81), (Value.float .f64 t82)] ∧
∃ (t84 : Int) (t85 : Int) (t86 : Int) (t87 : Bool) (t88 : Int) (t89 : SV) (t90 : Int) (t91 : Bool) (t92 : Int) (t93 : Bool) (t94 : Int) (t95 : Bool) (t96 : SV) (t97 : Nat), Cs w37 (a46.add (x23.toNat * 14)) 0 [(Value.int .i64 t84), (Value.int .u32 t85), (Value.int .u32 t86), (Value.bool t87), (Value.int .i64 t88), (SV.v t89), (Value.int .u32 t90), (Value.bool t91), (Value.int .u32 t92), (Value.bool t93), (Value.int .u32 t94), (Value.bool t95), (SV.v t96), (Value.float .f64 t97)] ∧
∃ (t99 : Int) (t100 : Int) (t101 : Int) (t102 : Bool) (t103 : Int) (t104 : SV) (t105 : Int) (t106 : Bool) (t107 : Int) (t108 : Bool) (t109 : Int) (t110 : Bool) (t111 : SV) (t112 : Nat), Cs w37 (a50.add ((IntKind.i64.wrap (x23 + (1 : Int))).toNat * 14)) 0 [(Value.int .i64 t99), (Value.int .u32 t100), (Value.int .u32 t101), (Value.bool t102), (Value.int .i64 t103), (SV.v t104), (Value.int .u32 t105), (Value.bool t106), (Value.int .u32 t107), (Value.bool t108), (Value.int .u32 t109), (Value.bool t110), (SV.v t111), (Value.float .f64 t112)] ∧
Calls Try.prog 17 #[(Value.agg #[(Value.int .i64 t54), (Value.int .u32 t55), (Value.int .u32 t56), (Value.bool t57), (Value.int .i64 t58), (SV.v t59), (Value.int .u32 t60), (Value.bool t61), (Value.int .u32 t62), (Value.bool t63), (Value.int .u32 t64), (Value.bool t65), (SV.v t66), (Value.float .f64 t67)]), (Value.agg #[(Value.int .i64 t69), (Value.int .u32 t70), (Value.int .u32 t71), (Value.bool t72), (Value.int .i64 t73), (SV.v t74), (Value.int .u32 t75), (Value.bool t76), (Value.int .u32 t77), (Value.bool t78), (Value.int .u32 t79), (Value.bool t80), (SV.v t81), (Value.float .f64 t82)]), (Value.int .i64 x3)] w37 (R17 fun r114 w115 =>
M.keep (Cs w115 (a50.add ((IntKind.i64.wrap (x23 + (1 : Int))).toNat * 14)) 0 [(Value.int .i64 t99), (Value.int .u32 t100), (Value.int .u32 t101), (Value.bool t102), (Value.int .i64 t103), (SV.v t104), (Value.int .u32 t105), (Value.bool t106), (Value.int .u32 t107), (Value.bool t108), (Value.int .u32 t109), (Value.bool t110), (SV.v t111), (Value.float .f64 t112)]) <|
M.keep (Cs w115 (a46.add (x23.toNat * 14)) 0 [(Value.int .i64 t84), (Value.int .u32 t85), (Value.int .u32 t86), (Value.bool t87), (Value.int .i64 t88), (SV.v t89), (Value.int .u32 t90), (Value.bool t91), (Value.int .u32 t92), (Value.bool t93), (Value.int .u32 t94), (Value.bool t95), (SV.v t96), (Value.float .f64 t97)]) <|
Calls Try.prog 24 #[(Value.agg #[(Value.int .i64 t84), (Value.int .u32 t85), (Value.int .u32 t86), (Value.bool t87), (Value.int .i64 t88), (SV.v t89), (Value.int .u32 t90), (Value.bool t91), (Value.int .u32 t92), (Value.bool t93), (Value.int .u32 t94), (Value.bool t95), (SV.v t96), (Value.float .f64 t97)]), (Value.agg #[(Value.int .i64 t99), (Value.int .u32 t100), (Value.int .u32 t101), (Value.bool t102), (Value.int .i64 t103), (SV.v t104), (Value.int .u32 t105), (Value.bool t106), (Value.int .u32 t107), (Value.bool t108), (Value.int .u32 t109), (Value.bool t110), (SV.v t111), (Value.float .f64 t112)]), (Value.int .i64 x3)] w115 (R24 fun r118 w119 =>
M.ite (!(r114 == r118)) (
K false w119) (
J24 (IntKind.i64.wrap (x23 + (1 : Int))) w119)))) (
J4 (IntKind.i64.wrap (x3 + (1 : Int))) w25)) (0 : Int) w21))))) (
Calls Try.prog 13 #[(SV.v p0)] w5 (R13 fun r121 r122 w123 =>
Calls Try.prog 25 #[(SV.v r1)] w123 (R25 fun r124 r125 w126 =>
M.join (fun (x128 : Bool) (w131 : World) => 
K x128 w131) fun J127 => 
M.ite (r121 == r124) (
J127 (r122 == r125) w126) (
J127 false w126))))) (-1 : Int) w2)
theorem F9_ok {w0 : World} {p0 : SV} {K : Bool → World → Prop} (h : F9 p0 K w0) : Calls Try.prog 9 #[(SV.v p0)] w0 (R9 K) := by
  refine calls_of_WE (args := [(SV.v p0)]) (rs := [.tmp 2]) Try.func9 rfl (N := 72) rfl rfl rfl rfl ?_
  refine WE.seq ?_
  refine WE.reg ?_
  refine LE.p (v := (Value.bool false)) (Wn.no rfl) rfl (R.assign rfl) ?_
  refine LE.nil ?_
  refine WE.seq ?_
  refine WE.reg ?_
  refine LE.p (v := (SV.v p0)) (Wn.no rfl) rfl (R.move rfl) ?_
  refine LE.c (Wn.no rfl) rfl (R.call bd21 (Ls.cons rfl Ls.nil) rfl) (Calls.mono h ?_)
  rintro _ w2 ⟨r1, rfl, h⟩
  refine ⟨_, rfl, ?_⟩
  refine LE.p (v := (SV.v r1)) (Wn.no rfl) rfl (R.assign rfl) ?_
  refine LE.nil ?_
  refine WE.seq ?_
  refine WE.seq ?_
  refine WE.reg ?_
  refine LE.p (v := (Value.int .i64 (-1 : Int))) (Wn.no rfl) rfl (R.assign rfl) ?_
  refine LE.nil ?_
  refine WE.block ?_
  obtain ⟨I8, ⟨n7, h⟩, hr9⟩ := h
  refine WE.loop (fun n e w => ∃ (x3 : Int), I8 n x3 w ∧ e 0 = (SV.v p0) ∧ e 3 = (SV.v r1) ∧ e 4 = (Value.int .i64 x3)) n7 ⟨_, h, rfl, rfl, rfl⟩ ?_
  clear h
  rintro n7 e6 w5 ⟨x3, h, f12, f13, f14⟩
  replace h := hr9 n7 x3 w5 h
  refine WE.seq ?_
  refine WE.seq ?_
  refine WE.reg ?_
  refine LE.p (v := (Value.int .i64 x3)) (Wn.no rfl) rfl (R.move f14) ?_
  refine LE.p (v := (Value.bool (decide (x3 < (10 : Int))))) (Wn.no rfl) rfl (R.lss rfl rfl) ?_
  refine LE.nil ?_
  refine WE.condT rfl (b := (decide (x3 < (10 : Int)))) rfl ?_ ?_
  · intro hb15
    replace h := M.ite_t h hb15
    refine WE.skip ?_
    refine WE.seq ?_
    refine WE.block ?_
    refine WE.seq ?_
    refine WE.seq ?_
    refine WE.reg ?_
    refine LE.p (v := (SV.v p0)) (Wn.no rfl) rfl (R.move f12) ?_
    refine LE.p (v := (Value.int .i64 x3)) (Wn.no rfl) rfl (R.move f14) ?_
    refine LE.c (Wn.no rfl) rfl (R.call bd12 (Ls.cons rfl (Ls.cons rfl Ls.nil)) rfl) (Calls.mono h ?_)
    rintro _ w17 ⟨r16, rfl, h⟩
    refine ⟨_, rfl, ?_⟩
    refine LE.p (v := (SV.v r1)) (Wn.no rfl) rfl (R.move f13) ?_
    refine LE.p (v := (Value.int .i64 x3)) (Wn.no rfl) rfl (R.move f14) ?_
    refine LE.c (Wn.no rfl) rfl (R.call bd23 (Ls.cons rfl (Ls.cons rfl Ls.nil)) rfl) (Calls.mono h ?_)
    rintro _ w19 ⟨r18, rfl, h⟩
    refine ⟨_, rfl, ?_⟩
    refine LE.c (Wn.no rfl) rfl (R.call bd22 (Ls.cons rfl (Ls.cons rfl Ls.nil)) rfl) (Calls.mono h ?_)
    rintro _ w21 ⟨r20, rfl, h⟩
    refine ⟨_, rfl, ?_⟩
    refine LE.p (v := (Value.bool (!r20))) (Wn.no rfl) rfl (R.not rfl) ?_
    refine LE.nil ?_
    refine WE.condT rfl (b := (!r20)) rfl ?_ ?_
    · intro hb22
      replace h := M.ite_t h hb22
      refine WE.seq ?_
      refine WE.reg ?_
      refine LE.p (v := (Value.bool false)) (Wn.no rfl) rfl (R.assign rfl) ?_
      refine LE.nil ?_
      refine WE.ret ?_
      exact ⟨_, (Res.tmp rfl Res.nil), _, rfl, h⟩
    · intro hb22
      replace h := M.ite_f h hb22
      refine WE.skip ?_
      refine WE.seq ?_
      refine WE.reg ?_
      refine LE.p (v := (Value.int .i64 (0 : Int))) (Wn.no rfl) rfl (R.assign rfl) ?_
      refine LE.nil ?_
      refine WE.block ?_
      obtain ⟨I28, ⟨n27, h⟩, hr29⟩ := h
      refine WE.loop (fun n e w => ∃ (x23 : Int), I28 n x23 w ∧ e 0 = (SV.v p0) ∧ e 3 = (SV.v r1) ∧ e 4 = (Value.int .i64 x3) ∧ e 5 = (Value.int .i64 x23)) n27 ⟨_, h, f12, f13, f14, rfl⟩ ?_
      clear h
      rintro n27 e26 w25 ⟨x23, h, f32, f33, f34, f35⟩
      replace h := hr29 n27 x23 w25 h
      refine WE.seq ?_
      refine WE.seq ?_
      refine WE.reg ?_
      refine LE.p (v := (Value.int .i64 x23)) (Wn.no rfl) rfl (R.move f35) ?_
      refine LE.p (v := (Value.int .i64 (IntKind.i64.wrap (x23 + (1 : Int))))) (Wn.no rfl) rfl (R.add rfl rfl) ?_
      refine LE.p (v := (SV.v p0)) (Wn.no rfl) rfl (R.move f32) ?_
      refine LE.p (v := (Value.int .i64 (p0.len : Int))) (Wn.no rfl) rfl (R.len sl24 rfl) ?_
      refine LE.p (v := (Value.bool (decide ((IntKind.i64.wrap (x23 + (1 : Int))) < (p0.len : Int))))) (Wn.no rfl) rfl (R.lss rfl rfl) ?_
      refine LE.nil ?_
      refine WE.condT rfl (b := (decide ((IntKind.i64.wrap (x23 + (1 : Int))) < (p0.len : Int)))) rfl ?_ ?_
      · intro hb36
        replace h := M.ite_t h hb36
        refine WE.skip ?_
        refine WE.seq ?_
        refine WE.block ?_
        refine WE.seq ?_
        refine WE.draw mix ?_
        obtain ⟨w37, hww37, h⟩ := M.drew_use h
        rw [← hww37]
        clear hww37
        refine DE.t 0 (v := (SV.v p0)) rfl (by kernel_rfl) (Wn.no rfl) rfl (R.move f32) ?_
        refine DE.t 1 (v := (Value.int .i64 x23)) rfl (by kernel_rfl) (Wn.no rfl) rfl (R.move f35) ?_
        obtain ⟨a38, h39, h40, h41, h⟩ := h
        refine DE.t 2 (v := (Value.pointer (some (a38.add (x23.toNat * 14))))) rfl (by kernel_rfl) (Wn.no rfl) rfl (R.idx (s := p0) sl24 rfl rfl h39 h40 h41) ?_
        refine DE.t 4 (v := (SV.v p0)) rfl (by kernel_rfl) (Wn.no rfl) rfl (R.move f32) ?_
        refine DE.t 5 (v := (Value.int .i64 x23)) rfl (by kernel_rfl) (Wn.no rfl) rfl (R.move f35) ?_
        refine DE.t 6 (v := (Value.int .i64 (IntKind.i64.wrap (x23 + (1 : Int))))) rfl (by kernel_rfl) (Wn.no rfl) rfl (R.add rfl rfl) ?_
        obtain ⟨a42, h43, h44, h45, h⟩ := h
        refine DE.t 7 (v := (Value.pointer (some (a42.add ((IntKind.i64.wrap (x23 + (1 : Int))).toNat * 14))))) rfl (by kernel_rfl) (Wn.no rfl) rfl (R.idx (s := p0) sl24 rfl rfl h43 h44 h45) ?_
        refine DE.t 9 (v := (Value.int .i64 x3)) rfl (by kernel_rfl) (Wn.no rfl) rfl (R.move f34) ?_
        refine DE.t 11 (v := (SV.v r1)) rfl (by kernel_rfl) (Wn.no rfl) rfl (R.move f33) ?_
        refine DE.t 12 (v := (Value.int .i64 x23)) rfl (by kernel_rfl) (Wn.no rfl) rfl (R.move f35) ?_
        obtain ⟨a46, h47, h48, h49, h⟩ := h
        refine DE.t 13 (v := (Value.pointer (some (a46.add (x23.toNat * 14))))) rfl (by kernel_rfl) (Wn.no rfl) rfl (R.idx (s := r1) sl54 rfl rfl h47 h48 h49) ?_
        refine DE.t 15 (v := (SV.v r1)) rfl (by kernel_rfl) (Wn.no rfl) rfl (R.move f33) ?_
        refine DE.t 16 (v := (Value.int .i64 x23)) rfl (by kernel_rfl) (Wn.no rfl) rfl (R.move f35) ?_
        refine DE.t 17 (v := (Value.int .i64 (IntKind.i64.wrap (x23 + (1 : Int))))) rfl (by kernel_rfl) (Wn.no rfl) rfl (R.add rfl rfl) ?_
        obtain ⟨a50, h51, h52, h53, h⟩ := h
        refine DE.t 18 (v := (Value.pointer (some (a50.add ((IntKind.i64.wrap (x23 + (1 : Int))).toNat * 14))))) rfl (by kernel_rfl) (Wn.no rfl) rfl (R.idx (s := r1) sl54 rfl rfl h51 h52 h53) ?_
        refine DE.t 20 (v := (Value.int .i64 x3)) rfl (by kernel_rfl) (Wn.no rfl) rfl (R.move f34) ?_
        obtain ⟨t54, t55, t56, t57, t58, t59, t60, t61, t62, t63, t64, t65, t66, t67, h68, h⟩ := h
        refine DE.hold 3 (fun w => Cs w (a38.add (x23.toNat * 14)) 0 [(Value.int .i64 t54), (Value.int .u32 t55), (Value.int .u32 t56), (Value.bool t57), (Value.int .i64 t58), (SV.v t59), (Value.int .u32 t60), (Value.bool t61), (Value.int .u32 t62), (Value.bool t63), (Value.int .u32 t64), (Value.bool t65), (SV.v t66), (Value.float .f64 t67)]) (v := (Value.agg #[(Value.int .i64 t54), (Value.int .u32 t55), (Value.int .u32 t56), (Value.bool t57), (Value.int .i64 t58), (SV.v t59), (Value.int .u32 t60), (Value.bool t61), (Value.int .u32 t62), (Value.bool t63), (Value.int .u32 t64), (Value.bool t65), (SV.v t66), (Value.float .f64 t67)])) rfl (by kernel_rfl) (Wn.no rfl) rfl h68 (fun w hs => R.ldA ag37 sz37 rfl rfl hs) ?_
        obtain ⟨t69, t70, t71, t72, t73, t74, t75, t76, t77, t78, t79, t80, t81, t82, h83, h⟩ := h
        refine DE.hold 8 (fun w => Cs w (a42.add ((IntKind.i64.wrap (x23 + (1 : Int))).toNat * 14)) 0 [(Value.int .i64 t69), (Value.int .u32 t70), (Value.int .u32 t71), (Value.bool t72), (Value.int .i64 t73), (SV.v t74), (Value.int .u32 t75), (Value.bool t76), (Value.int .u32 t77), (Value.bool t78), (Value.int .u32 t79), (Value.bool t80), (SV.v t81), (Value.float .f64 t82)]) (v := (Value.agg #[(Value.int .i64 t69), (Value.int .u32 t70), (Value.int .u32 t71), (Value.bool t72), (Value.int .i64 t73), (SV.v t74), (Value.int .u32 t75), (Value.bool t76), (Value.int .u32 t77), (Value.bool t78), (Value.int .u32 t79), (Value.bool t80), (SV.v t81), (Value.float .f64 t82)])) rfl (by kernel_rfl) (Wn.no rfl) rfl h83 (fun w hs => R.ldA ag37 sz37 rfl rfl hs) ?_
        obtain ⟨t84, t85, t86, t87, t88, t89, t90, t91, t92, t93, t94, t95, t96, t97, h98, h⟩ := h
        refine DE.hold 14 (fun w => Cs w (a46.add (x23.toNat * 14)) 0 [(Value.int .i64 t84), (Value.int .u32 t85), (Value.int .u32 t86), (Value.bool t87), (Value.int .i64 t88), (SV.v t89), (Value.int .u32 t90), (Value.bool t91), (Value.int .u32 t92), (Value.bool t93), (Value.int .u32 t94), (Value.bool t95), (SV.v t96), (Value.float .f64 t97)]) (v := (Value.agg #[(Value.int .i64 t84), (Value.int .u32 t85), (Value.int .u32 t86), (Value.bool t87), (Value.int .i64 t88), (SV.v t89), (Value.int .u32 t90), (Value.bool t91), (Value.int .u32 t92), (Value.bool t93), (Value.int .u32 t94), (Value.bool t95), (SV.v t96), (Value.float .f64 t97)])) rfl (by kernel_rfl) (Wn.no rfl) rfl h98 (fun w hs => R.ldA ag59 sz59 rfl rfl hs) ?_
        obtain ⟨t99, t100, t101, t102, t103, t104, t105, t106, t107, t108, t109, t110, t111, t112, h113, h⟩ := h
        refine DE.hold 19 (fun w => Cs w (a50.add ((IntKind.i64.wrap (x23 + (1 : Int))).toNat * 14)) 0 [(Value.int .i64 t99), (Value.int .u32 t100), (Value.int .u32 t101), (Value.bool t102), (Value.int .i64 t103), (SV.v t104), (Value.int .u32 t105), (Value.bool t106), (Value.int .u32 t107), (Value.bool t108), (Value.int .u32 t109), (Value.bool t110), (SV.v t111), (Value.float .f64 t112)]) (v := (Value.agg #[(Value.int .i64 t99), (Value.int .u32 t100), (Value.int .u32 t101), (Value.bool t102), (Value.int .i64 t103), (SV.v t104), (Value.int .u32 t105), (Value.bool t106), (Value.int .u32 t107), (Value.bool t108), (Value.int .u32 t109), (Value.bool t110), (SV.v t111), (Value.float .f64 t112)])) rfl (by kernel_rfl) (Wn.no rfl) rfl h113 (fun w hs => R.ldA ag59 sz59 rfl rfl hs) ?_
        refine DE.main 10 (by kernel_rfl) ?_
        refine One.c 10 rfl (Wn.no rfl) rfl (R.call bd17 (Ls.cons rfl (Ls.cons rfl (Ls.cons rfl Ls.nil))) rfl) (Calls.mono h ?_)
        rintro _ w115 ⟨r114, rfl, h⟩
        obtain ⟨k116, h⟩ := h
        obtain ⟨k117, h⟩ := h
        refine ⟨_, rfl, ⟨fun _ => k116, fun _ => k117, aftT (by kernel_rfl), aftT (by kernel_rfl), trivial⟩, ?_⟩
        refine DE.main 21 (by kernel_rfl) ?_
        refine One.c 21 rfl (Wn.no rfl) rfl (R.call bd24 (Ls.cons rfl (Ls.cons rfl (Ls.cons rfl Ls.nil))) rfl) (Calls.mono h ?_)
        rintro _ w119 ⟨r118, rfl, h⟩
        refine ⟨_, rfl, ⟨aftT (by kernel_rfl), aftT (by kernel_rfl), aftT (by kernel_rfl), aftT (by kernel_rfl), trivial⟩, ?_⟩
        refine DE.t 22 (v := (Value.bool (!(r114 == r118)))) rfl (by kernel_rfl) (Wn.no rfl) rfl (R.bneq bo4 rfl rfl) ?_
        refine DE.done (by kernel_rfl) ?_
        refine WE.condT rfl (b := (!(r114 == r118))) rfl ?_ ?_
        · intro hb120
          replace h := M.ite_t h hb120
          refine WE.seq ?_
          refine WE.reg ?_
          refine LE.p (v := (Value.bool false)) (Wn.no rfl) rfl (R.assign rfl) ?_
          refine LE.nil ?_
          refine WE.ret ?_
          exact ⟨_, (Res.tmp rfl Res.nil), _, rfl, h⟩
        · intro hb120
          replace h := M.ite_f h hb120
          refine WE.skip ?_
          refine WE.reg ?_
          refine LE.p (v := (Value.int .i64 x23)) (Wn.no rfl) rfl (R.move f35) ?_
          refine LE.p (v := (Value.int .i64 (IntKind.i64.wrap (x23 + (1 : Int))))) (Wn.no rfl) rfl (R.add rfl rfl) ?_
          refine LE.p (v := (Value.int .i64 (IntKind.i64.wrap (x23 + (1 : Int))))) (Wn.no rfl) rfl (R.assign rfl) ?_
          refine LE.nil ?_
          obtain ⟨m30, hm31, h⟩ := h
          exact ⟨m30, hm31, _, h, f32, f33, f34, rfl⟩
      · intro hb36
        replace h := M.ite_f h hb36
        refine WE.exit ?_
        refine WE.reg ?_
        refine LE.p (v := (Value.int .i64 x3)) (Wn.no rfl) rfl (R.move f34) ?_
        refine LE.p (v := (Value.int .i64 (IntKind.i64.wrap (x3 + (1 : Int))))) (Wn.no rfl) rfl (R.add rfl rfl) ?_
        refine LE.p (v := (Value.int .i64 (IntKind.i64.wrap (x3 + (1 : Int))))) (Wn.no rfl) rfl (R.assign rfl) ?_
        refine LE.nil ?_
        obtain ⟨m10, hm11, h⟩ := h
        exact ⟨m10, hm11, _, h, f32, f33, rfl⟩
  · intro hb15
    replace h := M.ite_f h hb15
    refine WE.exit ?_
    refine WE.seq ?_
    refine WE.reg ?_
    refine LE.p (v := (SV.v p0)) (Wn.no rfl) rfl (R.move f12) ?_
    refine LE.c (Wn.no rfl) rfl (R.call bd13 (Ls.cons rfl Ls.nil) rfl) (Calls.mono h ?_)
    rintro _ w123 ⟨r121, r122, rfl, h⟩
    refine ⟨_, rfl, ?_⟩
    refine LE.p (v := (Value.tuple #[(Value.int .i64 r121), (Value.bool r122)])) (Wn.no rfl) rfl (R.move rfl) ?_
    refine LE.p (v := (Value.int .i64 r121)) (Wn.no rfl) rfl (R.ext rfl rfl) ?_
    refine LE.p (v := (Value.bool r122)) (Wn.no rfl) rfl (R.ext rfl rfl) ?_
    refine LE.p (v := (Value.int .i64 r121)) (Wn.no rfl) rfl (R.assign rfl) ?_
    refine LE.p (v := (Value.bool r122)) (Wn.no rfl) rfl (R.assign rfl) ?_
    refine LE.nil ?_
    refine WE.seq ?_
    refine WE.reg ?_
    refine LE.p (v := (SV.v r1)) (Wn.no rfl) rfl (R.move f13) ?_
    refine LE.c (Wn.no rfl) rfl (R.call bd25 (Ls.cons rfl Ls.nil) rfl) (Calls.mono h ?_)
    rintro _ w126 ⟨r124, r125, rfl, h⟩
    refine ⟨_, rfl, ?_⟩
    refine LE.p (v := (Value.tuple #[(Value.int .i64 r124), (Value.bool r125)])) (Wn.no rfl) rfl (R.move rfl) ?_
    refine LE.p (v := (Value.int .i64 r124)) (Wn.no rfl) rfl (R.ext rfl rfl) ?_
    refine LE.p (v := (Value.bool r125)) (Wn.no rfl) rfl (R.ext rfl rfl) ?_
    refine LE.p (v := (Value.int .i64 r124)) (Wn.no rfl) rfl (R.assign rfl) ?_
    refine LE.p (v := (Value.bool r125)) (Wn.no rfl) rfl (R.assign rfl) ?_
    refine LE.nil ?_
    refine WE.seq ?_
    obtain ⟨J127, hJ127, h⟩ := M.join_use h
    refine WE.regJ (fun e w => ∃ (x128 : Bool), J127 x128 w ∧ e 2 = (Value.bool x128)) ?_ ?_
    · clear hJ127
      refine LE.p (v := (Value.int .i64 r121)) (Wn.no rfl) rfl (R.move rfl) ?_
      refine LE.p (v := (Value.int .i64 r124)) (Wn.no rfl) rfl (R.move rfl) ?_
      refine LE.p (v := (Value.bool (r121 == r124))) (Wn.no rfl) rfl (R.eql rfl rfl) ?_
      refine LE.p (v := (Value.bool (r121 == r124))) (Wn.no rfl) rfl (R.move rfl) ?_
      rcases M.ite_use h with ⟨hb129, h⟩ | ⟨hb129, h⟩
      · refine LE.p (v := (Value.bool r122)) (Wn.yes 3 67 true rfl rfl rfl (congrArg Value.bool hb129)) rfl (R.move rfl) ?_
        refine LE.p (v := (Value.bool r125)) (Wn.yes 3 67 true rfl rfl rfl (congrArg Value.bool hb129)) rfl (R.move rfl) ?_
        refine LE.p (v := (Value.bool (r122 == r125))) (Wn.yes 3 67 true rfl rfl rfl (congrArg Value.bool hb129)) rfl (R.beql bo4 rfl rfl) ?_
        refine LE.p (v := (Value.bool (r122 == r125))) (Wn.no rfl) rfl (R.pickT (congrArg Value.bool hb129) rfl) ?_
        refine LE.p (v := (Value.bool (r122 == r125))) (Wn.no rfl) rfl (R.assign rfl) ?_
        refine LE.nil ?_
        exact ⟨_, h, rfl⟩
      · refine LE.u (Un.no 3 67 true rfl rfl rfl (congrArg Value.bool hb129)) ?_
        refine LE.u (Un.no 3 67 true rfl rfl rfl (congrArg Value.bool hb129)) ?_
        refine LE.u (Un.no 3 67 true rfl rfl rfl (congrArg Value.bool hb129)) ?_
        refine LE.p (v := (Value.bool false)) (Wn.no rfl) rfl (R.pickF (congrArg Value.bool hb129) rfl) ?_
        refine LE.p (v := (Value.bool false)) (Wn.no rfl) rfl (R.assign rfl) ?_
        refine LE.nil ?_
        exact ⟨_, h, rfl⟩
    · rintro e130 w131 ⟨x128, h, f132⟩
      subst hJ127
      refine WE.ret ?_
      exact ⟨_, (Res.tmp f132 Res.nil), _, rfl, h⟩
/-- The formula of signpost.signpostlaw17.cands. -/
def F10 (p0 : SV) (p1 : Bool) (K : SV → World → Prop) (w0 : World) : Prop :=
M.loop2 (fun (J3 : SV → Int → World → Prop) (x1 : SV) (x2 : Int) (w4 : World) => 
M.join (fun (x16 : Bool) (w19 : World) => 
M.ite x16 (
M.idx p0 x2 13 fun a26 =>
∃ (t30 : Int) (t31 : Int) (t32 : Bool) (t33 : Int) (t34 : SV) (t35 : Int) (t36 : Bool) (t37 : Int) (t38 : Bool) (t39 : Int) (t40 : Bool) (t41 : SV) (t42 : Nat), Cs w19 (a26.add (x2.toNat * 13)) 0 [(Value.int .u32 t30), (Value.int .u32 t31), (Value.bool t32), (Value.int .i64 t33), (SV.v t34), (Value.int .u32 t35), (Value.bool t36), (Value.int .u32 t37), (Value.bool t38), (Value.int .u32 t39), (Value.bool t40), (SV.v t41), (Value.float .f64 t42)] ∧
M.new (.cells #[(Value.int .u32 (0 : Int)), (Value.int .u32 (0 : Int)), (Value.bool false), (Value.int .i64 (0 : Int)), (SV.v SV.nil), (Value.int .u32 (0 : Int)), (Value.bool false), (Value.int .u32 (0 : Int)), (Value.bool false), (Value.int .u32 (0 : Int)), (Value.bool false), (SV.v SV.nil), (Value.float .f64 (0 : Nat))] 47) w19 fun b45 w44 =>
M.stA b45 [(Value.int .u32 t30), (Value.int .u32 t31), (Value.bool t32), (Value.int .i64 t33), (SV.v t34), (Value.int .u32 t35), (Value.bool t36), (Value.int .u32 t37), (Value.bool t38), (Value.int .u32 t39), (Value.bool t40), (SV.v t41), (Value.float .f64 t42)] w44 fun w46 =>
M.join (fun (x49 : Addr) (w116 : World) => 
M.join (fun (w182 : World) => 
∃ (t188 : Int) (t189 : Int) (t190 : Int) (t191 : Bool) (t192 : Int) (t193 : SV) (t194 : Int) (t195 : Bool) (t196 : Int) (t197 : Bool) (t198 : Int) (t199 : Bool) (t200 : SV) (t201 : Nat), Cs w182 x49 0 [(Value.int .i64 t188), (Value.int .u32 t189), (Value.int .u32 t190), (Value.bool t191), (Value.int .i64 t192), (SV.v t193), (Value.int .u32 t194), (Value.bool t195), (Value.int .u32 t196), (Value.bool t197), (Value.int .u32 t198), (Value.bool t199), (SV.v t200), (Value.float .f64 t201)] ∧
M.new (.cells #[(Value.int .i64 t188), (Value.int .u32 t189), (Value.int .u32 t190), (Value.bool t191), (Value.int .i64 t192), (SV.v t193), (Value.int .u32 t194), (Value.bool t195), (Value.int .u32 t196), (Value.bool t197), (Value.int .u32 t198), (Value.bool t199), (SV.v t200), (Value.float .f64 t201)] 37) w182 fun b205 w203 =>
M.app Try.prog 24 24 24 x1 (SV.v (SV.mk (some b205) 1 1)) w203 fun s206 w207 =>
J3 s206 (IntKind.i64.wrap (x2 + (1 : Int))) w207) fun J123 => 
M.ite p1 (
M.ld (Value.int .u32) b45 w116 fun t125 =>
M.st (x49.add 1) (Value.int .u32 (Int.tmod t125 (3 : Int))) w116 fun w127 =>
M.ld (Value.int .u32) (b45.add 1) w127 fun t130 =>
M.st (x49.add 2) (Value.int .u32 (Int.tmod t130 (3 : Int))) w127 fun w132 =>
∃ (t135 : Int) (t136 : SV) (t137 : Int) (t138 : Bool) (t139 : Int) (t140 : Bool) (t141 : Int) (t142 : Bool) (t143 : SV), Cs w132 (b45.add 3) 0 [(Value.int .i64 t135), (SV.v t136), (Value.int .u32 t137), (Value.bool t138), (Value.int .u32 t139), (Value.bool t140), (Value.int .u32 t141), (Value.bool t142), (SV.v t143)] ∧
M.ld (Value.int .u32) b45 w132 fun t145 =>
Calls Try.prog 27 #[(Value.agg #[(Value.int .i64 t135), (SV.v t136), (Value.int .u32 t137), (Value.bool t138), (Value.int .u32 t139), (Value.bool t140), (Value.int .u32 t141), (Value.bool t142), (SV.v t143)]), (Value.int .u32 (IntKind.u32.wrap ((65001 : Int) + (Int.tmod t145 (2 : Int)))))] w132 (R27 fun r147 r148 r149 r150 r151 r152 r153 r154 r155 w156 =>
M.stA (x49.add 4) [(Value.int .i64 r147), (SV.v r148), (Value.int .u32 r149), (Value.bool r150), (Value.int .u32 r151), (Value.bool r152), (Value.int .u32 r153), (Value.bool r154), (SV.v r155)] w156 fun w157 =>
M.join (fun (x160 : Bool) (w167 : World) => 
M.ite x160 (
M.ld (Value.int .u32) (b45.add 1) w167 fun t176 =>
M.st (x49.add 13) (Value.float .f64 (fOfInt (Int.tmod t176 (3 : Int)))) w167 fun w178 =>
J123 w178) (
J123 w167)) fun J159 => 
M.ld (Value.float .f64) (b45.add 12) w157 fun t161 =>
M.ite (fGeq t161 (0 : Nat)) (
M.ld (Value.float .f64) (b45.add 12) w157 fun t164 =>
J159 (!(fLss t164 (4607182418800017408 : Nat))) w157) (
J159 (!false) w157))) (
J123 w116)) fun J48 => 
M.drew w46 fun w50 => 
M.ld (Value.int .u32) b45 w50 fun t51 =>
M.ld (Value.int .u32) (b45.add 1) w50 fun t53 =>
M.ld Value.bool (b45.add 2) w50 fun t55 =>
∃ (t57 : Int) (t58 : SV) (t59 : Int) (t60 : Bool) (t61 : Int) (t62 : Bool) (t63 : Int) (t64 : Bool) (t65 : SV), Cs w50 (b45.add 3) 0 [(Value.int .i64 t57), (SV.v t58), (Value.int .u32 t59), (Value.bool t60), (Value.int .u32 t61), (Value.bool t62), (Value.int .u32 t63), (Value.bool t64), (SV.v t65)] ∧
M.ld (Value.float .f64) (b45.add 12) w50 fun t67 =>
M.both (
Calls Try.prog 26 #[(Value.agg #[(Value.int .i64 t57), (SV.v t58), (Value.int .u32 t59), (Value.bool t60), (Value.int .u32 t61), (Value.bool t62), (Value.int .u32 t63), (Value.bool t64), (SV.v t65)])] w50 (R26 fun r69 r70 r71 r72 r73 r74 r75 r76 r77 w78 =>
M.keep (w78.cell? (b45.add 12) = some (Value.float .f64 t67)) <|
M.keep (w78.cell? (b45.add 2) = some (Value.bool t55)) <|
M.keep (w78.cell? (b45.add 1) = some (Value.int .u32 t53)) <|
M.keep (w78.cell? b45 = some (Value.int .u32 t51)) <|
M.new (.cells #[(Value.int .i64 (0 : Int)), (Value.int .u32 (0 : Int)), (Value.int .u32 (0 : Int)), (Value.bool false), (Value.int .i64 (0 : Int)), (SV.v SV.nil), (Value.int .u32 (0 : Int)), (Value.bool false), (Value.int .u32 (0 : Int)), (Value.bool false), (Value.int .u32 (0 : Int)), (Value.bool false), (SV.v SV.nil), (Value.float .f64 (0 : Nat))] 37) w78 fun b84 w83 =>
M.keep (w83.cell? (b45.add 12) = some (Value.float .f64 t67)) <|
M.keep (Cs w83 (b45.add 3) 0 [(Value.int .i64 t57), (SV.v t58), (Value.int .u32 t59), (Value.bool t60), (Value.int .u32 t61), (Value.bool t62), (Value.int .u32 t63), (Value.bool t64), (SV.v t65)]) <|
M.keep (w83.cell? (b45.add 2) = some (Value.bool t55)) <|
M.keep (w83.cell? (b45.add 1) = some (Value.int .u32 t53)) <|
M.keep (w83.cell? b45 = some (Value.int .u32 t51)) <|
M.stA b84 [(Value.int .i64 x2), (Value.int .u32 t51), (Value.int .u32 t53), (Value.bool t55), (Value.int .i64 r69), (SV.v r70), (Value.int .u32 r71), (Value.bool r72), (Value.int .u32 r73), (Value.bool r74), (Value.int .u32 r75), (Value.bool r76), (SV.v r77), (Value.float .f64 t67)] w83 fun w90 =>
J48 b84 w90)) (
M.new (.cells #[(Value.int .i64 (0 : Int)), (Value.int .u32 (0 : Int)), (Value.int .u32 (0 : Int)), (Value.bool false), (Value.int .i64 (0 : Int)), (SV.v SV.nil), (Value.int .u32 (0 : Int)), (Value.bool false), (Value.int .u32 (0 : Int)), (Value.bool false), (Value.int .u32 (0 : Int)), (Value.bool false), (SV.v SV.nil), (Value.float .f64 (0 : Nat))] 37) w50 fun b93 w92 =>
M.keep (w92.cell? (b45.add 12) = some (Value.float .f64 t67)) <|
M.keep (Cs w92 (b45.add 3) 0 [(Value.int .i64 t57), (SV.v t58), (Value.int .u32 t59), (Value.bool t60), (Value.int .u32 t61), (Value.bool t62), (Value.int .u32 t63), (Value.bool t64), (SV.v t65)]) <|
M.keep (w92.cell? (b45.add 2) = some (Value.bool t55)) <|
M.keep (w92.cell? (b45.add 1) = some (Value.int .u32 t53)) <|
M.keep (w92.cell? b45 = some (Value.int .u32 t51)) <|
Calls Try.prog 26 #[(Value.agg #[(Value.int .i64 t57), (SV.v t58), (Value.int .u32 t59), (Value.bool t60), (Value.int .u32 t61), (Value.bool t62), (Value.int .u32 t63), (Value.bool t64), (SV.v t65)])] w92 (R26 fun r99 r100 r101 r102 r103 r104 r105 r106 r107 w108 =>
M.keep (w108.cell? (b45.add 12) = some (Value.float .f64 t67)) <|
M.keep (w108.cell? (b45.add 2) = some (Value.bool t55)) <|
M.keep (w108.cell? (b45.add 1) = some (Value.int .u32 t53)) <|
M.keep (w108.cell? b45 = some (Value.int .u32 t51)) <|
M.stA b93 [(Value.int .i64 x2), (Value.int .u32 t51), (Value.int .u32 t53), (Value.bool t55), (Value.int .i64 r99), (SV.v r100), (Value.int .u32 r101), (Value.bool r102), (Value.int .u32 r103), (Value.bool r104), (Value.int .u32 r105), (Value.bool r106), (SV.v r107), (Value.float .f64 t67)] w108 fun w113 =>
J48 b93 w113))) (
K x1 w19)) fun J15 => 
M.ite (decide (x2 < (p0.len : Int))) (
J15 (decide (x2 < (12 : Int))) w4) (
J15 false w4)) SV.nil (0 : Int) w0
theorem F10_ok {w0 : World} {p0 : SV} {p1 : Bool} {K : SV → World → Prop} (h : F10 p0 p1 K w0) : Calls Try.prog 10 #[(SV.v p0), (Value.bool p1)] w0 (R10 K) := by
  refine calls_of_WE (args := [(SV.v p0), (Value.bool p1)]) (rs := [.tmp 4]) Try.func10 rfl (N := 76) rfl rfl rfl rfl ?_
  refine WE.seq ?_
  refine WE.reg ?_
  refine LE.p (v := (SV.v SV.nil)) (Wn.no rfl) rfl (R.assign rfl) ?_
  refine LE.nil ?_
  refine WE.seq ?_
  refine WE.reg ?_
  refine LE.p (v := (SV.v SV.nil)) (Wn.no rfl) rfl (R.assign rfl) ?_
  refine LE.nil ?_
  refine WE.seq ?_
  refine WE.seq ?_
  refine WE.reg ?_
  refine LE.p (v := (Value.int .i64 (0 : Int))) (Wn.no rfl) rfl (R.assign rfl) ?_
  refine LE.nil ?_
  refine WE.block ?_
  obtain ⟨I7, ⟨n6, h⟩, hr8⟩ := h
  refine WE.loop (fun n e w => ∃ (x1 : SV) (x2 : Int), I7 n x1 x2 w ∧ e 0 = (SV.v p0) ∧ e 1 = (Value.bool p1) ∧ e 5 = (SV.v x1) ∧ e 6 = (Value.int .i64 x2)) n6 ⟨_, _, h, rfl, rfl, rfl, rfl⟩ ?_
  clear h
  rintro n6 e5 w4 ⟨x1, x2, h, f11, f12, f13, f14⟩
  replace h := hr8 n6 x1 x2 w4 h
  refine WE.seq ?_
  refine WE.seq ?_
  obtain ⟨J15, hJ15, h⟩ := M.join_use h
  refine WE.regJ (fun e w => ∃ (x16 : Bool), J15 x16 w ∧ e 0 = (SV.v p0) ∧ e 1 = (Value.bool p1) ∧ e 5 = (SV.v x1) ∧ e 6 = (Value.int .i64 x2) ∧ e 16 = (Value.bool x16)) ?_ ?_
  · clear hJ15
    refine LE.p (v := (Value.int .i64 x2)) (Wn.no rfl) rfl (R.move f14) ?_
    refine LE.p (v := (SV.v p0)) (Wn.no rfl) rfl (R.move f11) ?_
    refine LE.p (v := (Value.int .i64 (p0.len : Int))) (Wn.no rfl) rfl (R.len sl22 rfl) ?_
    refine LE.p (v := (Value.bool (decide (x2 < (p0.len : Int))))) (Wn.no rfl) rfl (R.lss rfl rfl) ?_
    refine LE.p (v := (Value.bool (decide (x2 < (p0.len : Int))))) (Wn.no rfl) rfl (R.move rfl) ?_
    rcases M.ite_use h with ⟨hb17, h⟩ | ⟨hb17, h⟩
    · refine LE.p (v := (Value.int .i64 x2)) (Wn.yes 4 13 true rfl rfl rfl (congrArg Value.bool hb17)) rfl (R.move f14) ?_
      refine LE.p (v := (Value.bool (decide (x2 < (12 : Int))))) (Wn.yes 4 13 true rfl rfl rfl (congrArg Value.bool hb17)) rfl (R.lss rfl rfl) ?_
      refine LE.p (v := (Value.bool (decide (x2 < (12 : Int))))) (Wn.no rfl) rfl (R.pickT (congrArg Value.bool hb17) rfl) ?_
      refine LE.nil ?_
      exact ⟨_, h, f11, f12, f13, f14, rfl⟩
    · refine LE.u (Un.no 4 13 true rfl rfl rfl (congrArg Value.bool hb17)) ?_
      refine LE.u (Un.no 4 13 true rfl rfl rfl (congrArg Value.bool hb17)) ?_
      refine LE.p (v := (Value.bool false)) (Wn.no rfl) rfl (R.pickF (congrArg Value.bool hb17) rfl) ?_
      refine LE.nil ?_
      exact ⟨_, h, f11, f12, f13, f14, rfl⟩
  · rintro e18 w19 ⟨x16, h, f20, f21, f22, f23, f24⟩
    subst hJ15
    refine WE.condT rfl (b := x16) f24 ?_ ?_
    · intro hb25
      replace h := M.ite_t h hb25
      refine WE.skip ?_
      refine WE.seq ?_
      refine WE.block ?_
      refine WE.seq ?_
      refine WE.reg ?_
      refine LE.p (v := (SV.v p0)) (Wn.no rfl) rfl (R.move f20) ?_
      refine LE.p (v := (Value.int .i64 x2)) (Wn.no rfl) rfl (R.move f23) ?_
      obtain ⟨a26, h27, h28, h29, h⟩ := h
      refine LE.p (v := (Value.pointer (some (a26.add (x2.toNat * 13))))) (Wn.no rfl) rfl (R.idx (s := p0) sl22 rfl rfl h27 h28 h29) ?_
      obtain ⟨t30, t31, t32, t33, t34, t35, t36, t37, t38, t39, t40, t41, t42, h43, h⟩ := h
      refine LE.r (v := (Value.agg #[(Value.int .u32 t30), (Value.int .u32 t31), (Value.bool t32), (Value.int .i64 t33), (SV.v t34), (Value.int .u32 t35), (Value.bool t36), (Value.int .u32 t37), (Value.bool t38), (Value.int .u32 t39), (Value.bool t40), (SV.v t41), (Value.float .f64 t42)])) (Wn.no rfl) rfl (R.ldA ag47 sz47 rfl rfl h43) ?_
      obtain ⟨b45, hpb45, w44, hww44, h⟩ := M.new_use h
      refine LE.r (v := (Value.pointer (some b45))) (Wn.no rfl) rfl (R.alloc (cs := #[(Value.int .u32 (0 : Int)), (Value.int .u32 (0 : Int)), (Value.bool false), (Value.int .i64 (0 : Int)), (SV.v SV.nil), (Value.int .u32 (0 : Int)), (Value.bool false), (Value.int .u32 (0 : Int)), (Value.bool false), (Value.int .u32 (0 : Int)), (Value.bool false), (SV.v SV.nil), (Value.float .f64 (0 : Nat))]) ze47 rfl hpb45 hww44) ?_
      obtain ⟨w46, hww46, h47, h⟩ := M.stA_use h
      refine LE.s (Wn.no rfl) rfl (R.stA (a := b45) [(Value.int .u32 t30), (Value.int .u32 t31), (Value.bool t32), (Value.int .i64 t33), (SV.v t34), (Value.int .u32 t35), (Value.bool t36), (Value.int .u32 t37), (Value.bool t38), (Value.int .u32 t39), (Value.bool t40), (SV.v t41), (Value.float .f64 t42)] sz47 rfl rfl rfl (by simp [Value.oneCell']) h47 hww46) ?_
      refine LE.nil ?_
      refine WE.seq ?_
      obtain ⟨J48, hJ48, h⟩ := M.join_use h
      refine WE.drawJ (fun e w => ∃ (x49 : Addr), J48 x49 w ∧ e 0 = (SV.v p0) ∧ e 1 = (Value.bool p1) ∧ e 5 = (SV.v x1) ∧ e 6 = (Value.int .i64 x2) ∧ e 7 = (Value.pointer (some b45)) ∧ e 8 = (Value.pointer (some x49))) mix ?_ ?_
      · clear hJ48
        obtain ⟨w50, hww50, h⟩ := M.drew_use h
        rw [← hww50]
        clear hww50
        refine DE.t 0 (v := (Value.int .i64 x2)) rfl (by kernel_rfl) (Wn.no rfl) rfl (R.move f23) ?_
        refine DE.t 1 (v := (Value.pointer (some b45))) rfl (by kernel_rfl) (Wn.no rfl) rfl (R.fld (off := 0) fa47_0 rfl) ?_
        refine DE.t 3 (v := (Value.pointer (some (b45.add 1)))) rfl (by kernel_rfl) (Wn.no rfl) rfl (R.fld (off := 1) fa47_1 rfl) ?_
        refine DE.t 5 (v := (Value.pointer (some (b45.add 2)))) rfl (by kernel_rfl) (Wn.no rfl) rfl (R.fld (off := 2) fa47_2 rfl) ?_
        refine DE.t 7 (v := (Value.pointer (some (b45.add 3)))) rfl (by kernel_rfl) (Wn.no rfl) rfl (R.fld (off := 3) fa47_3 rfl) ?_
        refine DE.t 11 (v := (Value.pointer (some (b45.add 12)))) rfl (by kernel_rfl) (Wn.no rfl) rfl (R.fld (off := 12) fa47_4 rfl) ?_
        obtain ⟨t51, h52, h⟩ := h
        refine DE.hold 2 (fun w => w.cell? b45 = some (Value.int .u32 t51)) (v := (Value.int .u32 t51)) rfl (by kernel_rfl) (Wn.no rfl) rfl h52 (fun w hs => R.ld sc28 rfl hs) ?_
        obtain ⟨t53, h54, h⟩ := h
        refine DE.hold 4 (fun w => w.cell? (b45.add 1) = some (Value.int .u32 t53)) (v := (Value.int .u32 t53)) rfl (by kernel_rfl) (Wn.no rfl) rfl h54 (fun w hs => R.ld sc28 rfl hs) ?_
        obtain ⟨t55, h56, h⟩ := h
        refine DE.hold 6 (fun w => w.cell? (b45.add 2) = some (Value.bool t55)) (v := (Value.bool t55)) rfl (by kernel_rfl) (Wn.no rfl) rfl h56 (fun w hs => R.ld sc4 rfl hs) ?_
        obtain ⟨t57, t58, t59, t60, t61, t62, t63, t64, t65, h66, h⟩ := h
        refine DE.hold 8 (fun w => Cs w (b45.add 3) 0 [(Value.int .i64 t57), (SV.v t58), (Value.int .u32 t59), (Value.bool t60), (Value.int .u32 t61), (Value.bool t62), (Value.int .u32 t63), (Value.bool t64), (SV.v t65)]) (v := (Value.agg #[(Value.int .i64 t57), (SV.v t58), (Value.int .u32 t59), (Value.bool t60), (Value.int .u32 t61), (Value.bool t62), (Value.int .u32 t63), (Value.bool t64), (SV.v t65)])) rfl (by kernel_rfl) (Wn.no rfl) rfl h66 (fun w hs => R.ldA ag32 sz32 rfl rfl hs) ?_
        obtain ⟨t67, h68, h⟩ := h
        refine DE.hold 12 (fun w => w.cell? (b45.add 12) = some (Value.float .f64 t67)) (v := (Value.float .f64 t67)) rfl (by kernel_rfl) (Wn.no rfl) rfl h68 (fun w hs => R.ld sc35 rfl hs) ?_
        refine DE.main2 9 14 (by kernel_rfl) ?_ ?_
        · replace h := h.1
          refine One.c 9 rfl (Wn.no rfl) rfl (R.call bd26 (Ls.cons rfl Ls.nil) rfl) (Calls.mono h ?_)
          rintro _ w78 ⟨r69, r70, r71, r72, r73, r74, r75, r76, r77, rfl, h⟩
          obtain ⟨k79, h⟩ := h
          obtain ⟨k80, h⟩ := h
          obtain ⟨k81, h⟩ := h
          obtain ⟨k82, h⟩ := h
          refine ⟨_, rfl, ⟨fun _ => k79, aftT (by kernel_rfl), fun _ => k80, fun _ => k81, fun _ => k82, trivial⟩, ?_⟩
          refine DE.t 10 (v := (Value.agg #[(Value.int .i64 x2), (Value.int .u32 t51), (Value.int .u32 t53), (Value.bool t55), (Value.int .i64 r69), (SV.v r70), (Value.int .u32 r71), (Value.bool r72), (Value.int .u32 r73), (Value.bool r74), (Value.int .u32 r75), (Value.bool r76), (SV.v r77)])) rfl (by kernel_rfl) (Wn.no rfl) rfl (R.bld (by exact (Ls.cons (R.Pr rfl) (Ls.cons (R.Pr rfl) (Ls.cons (R.Pr rfl) (Ls.cons (R.Pr rfl) (Ls.cons (R.Pr rfl) Ls.nil)))))) (fun w => bu34_0_1_2_3_4 x2 t51 t53 t55 r69 r70 r71 r72 r73 r74 r75 r76 r77 w)) ?_
          refine DE.t 13 (v := (Value.agg #[(Value.int .i64 x2), (Value.int .u32 t51), (Value.int .u32 t53), (Value.bool t55), (Value.int .i64 r69), (SV.v r70), (Value.int .u32 r71), (Value.bool r72), (Value.int .u32 r73), (Value.bool r74), (Value.int .u32 r75), (Value.bool r76), (SV.v r77), (Value.float .f64 t67)])) rfl (by kernel_rfl) (Wn.no rfl) rfl (R.bld (by exact (Ls.cons (R.Pr rfl) (Ls.cons (R.Pr rfl) Ls.nil))) (fun w => bu37_0_1 x2 t51 t53 t55 r69 r70 r71 r72 r73 r74 r75 r76 r77 t67 w)) ?_
          obtain ⟨b84, hpb84, w83, hww83, h⟩ := M.new_use h
          obtain ⟨k85, h⟩ := h
          obtain ⟨k86, h⟩ := h
          obtain ⟨k87, h⟩ := h
          obtain ⟨k88, h⟩ := h
          obtain ⟨k89, h⟩ := h
          refine DE.main 14 (by kernel_rfl) ?_
          refine One.r 14 (v := (Value.pointer (some b84))) rfl (Wn.no rfl) rfl (R.alloc (cs := #[(Value.int .i64 (0 : Int)), (Value.int .u32 (0 : Int)), (Value.int .u32 (0 : Int)), (Value.bool false), (Value.int .i64 (0 : Int)), (SV.v SV.nil), (Value.int .u32 (0 : Int)), (Value.bool false), (Value.int .u32 (0 : Int)), (Value.bool false), (Value.int .u32 (0 : Int)), (Value.bool false), (SV.v SV.nil), (Value.float .f64 (0 : Nat))]) ze37 rfl hpb84 hww83) (.inr ⟨fun _ => k85, fun _ => k86, fun _ => k87, fun _ => k88, fun _ => k89, trivial⟩) ?_
          obtain ⟨w90, hww90, h91, h⟩ := M.stA_use h
          refine DE.main 15 (by kernel_rfl) ?_
          refine One.s 15 rfl (Wn.no rfl) rfl (R.stA (a := b84) [(Value.int .i64 x2), (Value.int .u32 t51), (Value.int .u32 t53), (Value.bool t55), (Value.int .i64 r69), (SV.v r70), (Value.int .u32 r71), (Value.bool r72), (Value.int .u32 r73), (Value.bool r74), (Value.int .u32 r75), (Value.bool r76), (SV.v r77), (Value.float .f64 t67)] sz37 rfl rfl rfl (by simp [Value.oneCell']) h91 hww90) ⟨aftT (by kernel_rfl), aftT (by kernel_rfl), aftT (by kernel_rfl), aftT (by kernel_rfl), aftT (by kernel_rfl), trivial⟩ ?_
          refine DE.done (by kernel_rfl) ?_
          exact ⟨_, h, f20, f21, f22, f23, rfl, rfl⟩
        · replace h := h.2
          obtain ⟨b93, hpb93, w92, hww92, h⟩ := M.new_use h
          obtain ⟨k94, h⟩ := h
          obtain ⟨k95, h⟩ := h
          obtain ⟨k96, h⟩ := h
          obtain ⟨k97, h⟩ := h
          obtain ⟨k98, h⟩ := h
          refine One.r 14 (v := (Value.pointer (some b93))) rfl (Wn.no rfl) rfl (R.alloc (cs := #[(Value.int .i64 (0 : Int)), (Value.int .u32 (0 : Int)), (Value.int .u32 (0 : Int)), (Value.bool false), (Value.int .i64 (0 : Int)), (SV.v SV.nil), (Value.int .u32 (0 : Int)), (Value.bool false), (Value.int .u32 (0 : Int)), (Value.bool false), (Value.int .u32 (0 : Int)), (Value.bool false), (SV.v SV.nil), (Value.float .f64 (0 : Nat))]) ze37 rfl hpb93 hww92) (.inr ⟨fun _ => k94, fun _ => k95, fun _ => k96, fun _ => k97, fun _ => k98, trivial⟩) ?_
          refine DE.main 9 (by kernel_rfl) ?_
          refine One.c 9 rfl (Wn.no rfl) rfl (R.call bd26 (Ls.cons rfl Ls.nil) rfl) (Calls.mono h ?_)
          rintro _ w108 ⟨r99, r100, r101, r102, r103, r104, r105, r106, r107, rfl, h⟩
          obtain ⟨k109, h⟩ := h
          obtain ⟨k110, h⟩ := h
          obtain ⟨k111, h⟩ := h
          obtain ⟨k112, h⟩ := h
          refine ⟨_, rfl, ⟨fun _ => k109, aftT (by kernel_rfl), fun _ => k110, fun _ => k111, fun _ => k112, trivial⟩, ?_⟩
          refine DE.t 10 (v := (Value.agg #[(Value.int .i64 x2), (Value.int .u32 t51), (Value.int .u32 t53), (Value.bool t55), (Value.int .i64 r99), (SV.v r100), (Value.int .u32 r101), (Value.bool r102), (Value.int .u32 r103), (Value.bool r104), (Value.int .u32 r105), (Value.bool r106), (SV.v r107)])) rfl (by kernel_rfl) (Wn.no rfl) rfl (R.bld (by exact (Ls.cons (R.Pr rfl) (Ls.cons (R.Pr rfl) (Ls.cons (R.Pr rfl) (Ls.cons (R.Pr rfl) (Ls.cons (R.Pr rfl) Ls.nil)))))) (fun w => bu34_0_1_2_3_4 x2 t51 t53 t55 r99 r100 r101 r102 r103 r104 r105 r106 r107 w)) ?_
          refine DE.t 13 (v := (Value.agg #[(Value.int .i64 x2), (Value.int .u32 t51), (Value.int .u32 t53), (Value.bool t55), (Value.int .i64 r99), (SV.v r100), (Value.int .u32 r101), (Value.bool r102), (Value.int .u32 r103), (Value.bool r104), (Value.int .u32 r105), (Value.bool r106), (SV.v r107), (Value.float .f64 t67)])) rfl (by kernel_rfl) (Wn.no rfl) rfl (R.bld (by exact (Ls.cons (R.Pr rfl) (Ls.cons (R.Pr rfl) Ls.nil))) (fun w => bu37_0_1 x2 t51 t53 t55 r99 r100 r101 r102 r103 r104 r105 r106 r107 t67 w)) ?_
          obtain ⟨w113, hww113, h114, h⟩ := M.stA_use h
          refine DE.main 15 (by kernel_rfl) ?_
          refine One.s 15 rfl (Wn.no rfl) rfl (R.stA (a := b93) [(Value.int .i64 x2), (Value.int .u32 t51), (Value.int .u32 t53), (Value.bool t55), (Value.int .i64 r99), (SV.v r100), (Value.int .u32 r101), (Value.bool r102), (Value.int .u32 r103), (Value.bool r104), (Value.int .u32 r105), (Value.bool r106), (SV.v r107), (Value.float .f64 t67)] sz37 rfl rfl rfl (by simp [Value.oneCell']) h114 hww113) ⟨aftT (by kernel_rfl), aftT (by kernel_rfl), aftT (by kernel_rfl), aftT (by kernel_rfl), aftT (by kernel_rfl), trivial⟩ ?_
          refine DE.done (by kernel_rfl) ?_
          exact ⟨_, h, f20, f21, f22, f23, rfl, rfl⟩
      · rintro e115 w116 ⟨x49, h, f117, f118, f119, f120, f121, f122⟩
        subst hJ48
        obtain ⟨J123, hJ123, h⟩ := M.join_use h
        refine WE.join (fun e w => J123 w ∧ e 0 = (SV.v p0) ∧ e 1 = (Value.bool p1) ∧ e 5 = (SV.v x1) ∧ e 6 = (Value.int .i64 x2) ∧ e 8 = (Value.pointer (some x49))) ?_ ?_
        · clear hJ123
          refine WE.seq ?_
          refine WE.reg ?_
          refine LE.p (v := (Value.bool p1)) (Wn.no rfl) rfl (R.move f118) ?_
          refine LE.nil ?_
          refine WE.condT rfl (b := p1) rfl ?_ ?_
          · intro hb124
            replace h := M.ite_t h hb124
            refine WE.seq ?_
            refine WE.reg ?_
            refine LE.p (v := (Value.pointer (some b45))) (Wn.no rfl) rfl (R.fld (off := 0) fa47_0 f121) ?_
            obtain ⟨t125, h126, h⟩ := h
            refine LE.r (v := (Value.int .u32 t125)) (Wn.no rfl) rfl (R.ld sc28 rfl h126) ?_
            refine LE.p (v := (Value.int .u32 (Int.tmod t125 (3 : Int)))) (Wn.no rfl) rfl (R.rem rfl rfl (by decide)) ?_
            refine LE.p (v := (Value.pointer (some x49))) (Wn.no rfl) rfl (R.fld (off := 0) fa37_0 f122) ?_
            refine LE.p (v := (Value.pointer (some (x49.add 1)))) (Wn.no rfl) rfl (R.fld (off := 1) fa34_1 rfl) ?_
            obtain ⟨w127, hww127, h128, h129, h⟩ := M.st_use h
            refine LE.s (Wn.no rfl) rfl (R.st (a := (x49.add 1)) (v := (Value.int .u32 (Int.tmod t125 (3 : Int)))) sz28 rfl rfl rfl rfl h128 h129 hww127) ?_
            refine LE.nil ?_
            refine WE.seq ?_
            refine WE.reg ?_
            refine LE.p (v := (Value.pointer (some (b45.add 1)))) (Wn.no rfl) rfl (R.fld (off := 1) fa47_1 f121) ?_
            obtain ⟨t130, h131, h⟩ := h
            refine LE.r (v := (Value.int .u32 t130)) (Wn.no rfl) rfl (R.ld sc28 rfl h131) ?_
            refine LE.p (v := (Value.int .u32 (Int.tmod t130 (3 : Int)))) (Wn.no rfl) rfl (R.rem rfl rfl (by decide)) ?_
            refine LE.p (v := (Value.pointer (some x49))) (Wn.no rfl) rfl (R.fld (off := 0) fa37_0 f122) ?_
            refine LE.p (v := (Value.pointer (some (x49.add 2)))) (Wn.no rfl) rfl (R.fld (off := 2) fa34_2 rfl) ?_
            obtain ⟨w132, hww132, h133, h134, h⟩ := M.st_use h
            refine LE.s (Wn.no rfl) rfl (R.st (a := (x49.add 2)) (v := (Value.int .u32 (Int.tmod t130 (3 : Int)))) sz28 rfl rfl rfl rfl h133 h134 hww132) ?_
            refine LE.nil ?_
            refine WE.seq ?_
            refine WE.reg ?_
            refine LE.p (v := (Value.pointer (some (b45.add 3)))) (Wn.no rfl) rfl (R.fld (off := 3) fa47_3 f121) ?_
            obtain ⟨t135, t136, t137, t138, t139, t140, t141, t142, t143, h144, h⟩ := h
            refine LE.r (v := (Value.agg #[(Value.int .i64 t135), (SV.v t136), (Value.int .u32 t137), (Value.bool t138), (Value.int .u32 t139), (Value.bool t140), (Value.int .u32 t141), (Value.bool t142), (SV.v t143)])) (Wn.no rfl) rfl (R.ldA ag32 sz32 rfl rfl h144) ?_
            refine LE.p (v := (Value.pointer (some b45))) (Wn.no rfl) rfl (R.fld (off := 0) fa47_0 f121) ?_
            obtain ⟨t145, h146, h⟩ := h
            refine LE.r (v := (Value.int .u32 t145)) (Wn.no rfl) rfl (R.ld sc28 rfl h146) ?_
            refine LE.p (v := (Value.int .u32 (Int.tmod t145 (2 : Int)))) (Wn.no rfl) rfl (R.rem rfl rfl (by decide)) ?_
            refine LE.p (v := (Value.int .u32 (IntKind.u32.wrap ((65001 : Int) + (Int.tmod t145 (2 : Int)))))) (Wn.no rfl) rfl (R.add rfl rfl) ?_
            refine LE.c (Wn.no rfl) rfl (R.call bd27 (Ls.cons rfl (Ls.cons rfl Ls.nil)) rfl) (Calls.mono h ?_)
            rintro _ w156 ⟨r147, r148, r149, r150, r151, r152, r153, r154, r155, rfl, h⟩
            refine ⟨_, rfl, ?_⟩
            refine LE.p (v := (Value.pointer (some x49))) (Wn.no rfl) rfl (R.fld (off := 0) fa37_0 f122) ?_
            refine LE.p (v := (Value.pointer (some (x49.add 4)))) (Wn.no rfl) rfl (R.fld (off := 4) fa34_4 rfl) ?_
            obtain ⟨w157, hww157, h158, h⟩ := M.stA_use h
            refine LE.s (Wn.no rfl) rfl (R.stA (a := (x49.add 4)) [(Value.int .i64 r147), (SV.v r148), (Value.int .u32 r149), (Value.bool r150), (Value.int .u32 r151), (Value.bool r152), (Value.int .u32 r153), (Value.bool r154), (SV.v r155)] sz32 rfl rfl rfl (by simp [Value.oneCell']) h158 hww157) ?_
            refine LE.nil ?_
            refine WE.seq ?_
            obtain ⟨J159, hJ159, h⟩ := M.join_use h
            refine WE.regJ (fun e w => ∃ (x160 : Bool), J159 x160 w ∧ e 0 = (SV.v p0) ∧ e 1 = (Value.bool p1) ∧ e 5 = (SV.v x1) ∧ e 6 = (Value.int .i64 x2) ∧ e 7 = (Value.pointer (some b45)) ∧ e 8 = (Value.pointer (some x49)) ∧ e 65 = (Value.bool x160)) ?_ ?_
            · clear hJ159
              refine LE.p (v := (Value.pointer (some (b45.add 12)))) (Wn.no rfl) rfl (R.fld (off := 12) fa47_4 f121) ?_
              obtain ⟨t161, h162, h⟩ := h
              refine LE.r (v := (Value.float .f64 t161)) (Wn.no rfl) rfl (R.ld sc35 rfl h162) ?_
              refine LE.p (v := (Value.bool (fGeq t161 (0 : Nat)))) (Wn.no rfl) rfl (R.fgeq rfl rfl) ?_
              refine LE.p (v := (Value.bool (fGeq t161 (0 : Nat)))) (Wn.no rfl) rfl (R.move rfl) ?_
              rcases M.ite_use h with ⟨hb163, h⟩ | ⟨hb163, h⟩
              · refine LE.p (v := (Value.pointer (some (b45.add 12)))) (Wn.yes 3 60 true rfl rfl rfl (congrArg Value.bool hb163)) rfl (R.fld (off := 12) fa47_4 f121) ?_
                obtain ⟨t164, h165, h⟩ := h
                refine LE.r (v := (Value.float .f64 t164)) (Wn.yes 3 60 true rfl rfl rfl (congrArg Value.bool hb163)) rfl (R.ld sc35 rfl h165) ?_
                refine LE.p (v := (Value.bool (fLss t164 (4607182418800017408 : Nat)))) (Wn.yes 3 60 true rfl rfl rfl (congrArg Value.bool hb163)) rfl (R.flss rfl rfl) ?_
                refine LE.p (v := (Value.bool (fLss t164 (4607182418800017408 : Nat)))) (Wn.no rfl) rfl (R.pickT (congrArg Value.bool hb163) rfl) ?_
                refine LE.p (v := (Value.bool (!(fLss t164 (4607182418800017408 : Nat))))) (Wn.no rfl) rfl (R.not rfl) ?_
                refine LE.nil ?_
                exact ⟨_, h, f117, f118, f119, f120, f121, f122, rfl⟩
              · refine LE.u (Un.no 3 60 true rfl rfl rfl (congrArg Value.bool hb163)) ?_
                refine LE.u (Un.no 3 60 true rfl rfl rfl (congrArg Value.bool hb163)) ?_
                refine LE.u (Un.no 3 60 true rfl rfl rfl (congrArg Value.bool hb163)) ?_
                refine LE.p (v := (Value.bool false)) (Wn.no rfl) rfl (R.pickF (congrArg Value.bool hb163) rfl) ?_
                refine LE.p (v := (Value.bool (!false))) (Wn.no rfl) rfl (R.not rfl) ?_
                refine LE.nil ?_
                exact ⟨_, h, f117, f118, f119, f120, f121, f122, rfl⟩
            · rintro e166 w167 ⟨x160, h, f168, f169, f170, f171, f172, f173, f174⟩
              subst hJ159
              refine WE.condT rfl (b := x160) f174 ?_ ?_
              · intro hb175
                replace h := M.ite_t h hb175
                refine WE.reg ?_
                refine LE.p (v := (Value.pointer (some (b45.add 1)))) (Wn.no rfl) rfl (R.fld (off := 1) fa47_1 f172) ?_
                obtain ⟨t176, h177, h⟩ := h
                refine LE.r (v := (Value.int .u32 t176)) (Wn.no rfl) rfl (R.ld sc28 rfl h177) ?_
                refine LE.p (v := (Value.int .u32 (Int.tmod t176 (3 : Int)))) (Wn.no rfl) rfl (R.rem rfl rfl (by decide)) ?_
                refine LE.p (v := (Value.float .f64 (fOfInt (Int.tmod t176 (3 : Int))))) (Wn.no rfl) rfl (R.i2f fo35 in28 rfl) ?_
                refine LE.p (v := (Value.pointer (some (x49.add 13)))) (Wn.no rfl) rfl (R.fld (off := 13) fa37_1 f173) ?_
                obtain ⟨w178, hww178, h179, h180, h⟩ := M.st_use h
                refine LE.s (Wn.no rfl) rfl (R.st (a := (x49.add 13)) (v := (Value.float .f64 (fOfInt (Int.tmod t176 (3 : Int))))) sz35 rfl rfl rfl rfl h179 h180 hww178) ?_
                refine LE.nil ?_
                exact ⟨h, f168, f169, f170, f171, f173⟩
              · intro hb175
                replace h := M.ite_f h hb175
                refine WE.skip ?_
                exact ⟨h, f168, f169, f170, f171, f173⟩
          · intro hb124
            replace h := M.ite_f h hb124
            refine WE.skip ?_
            exact ⟨h, f117, f118, f119, f120, f122⟩
        · rintro e181 w182 ⟨h, f183, f184, f185, f186, f187⟩
          subst hJ123
          refine WE.reg ?_
          refine LE.p (v := (SV.v x1)) (Wn.no rfl) rfl (R.move f185) ?_
          obtain ⟨t188, t189, t190, t191, t192, t193, t194, t195, t196, t197, t198, t199, t200, t201, h202, h⟩ := h
          refine LE.r (v := (Value.agg #[(Value.int .i64 t188), (Value.int .u32 t189), (Value.int .u32 t190), (Value.bool t191), (Value.int .i64 t192), (SV.v t193), (Value.int .u32 t194), (Value.bool t195), (Value.int .u32 t196), (Value.bool t197), (Value.int .u32 t198), (Value.bool t199), (SV.v t200), (Value.float .f64 t201)])) (Wn.no rfl) rfl (R.ldA ag37 sz37 f187 rfl h202) ?_
          obtain ⟨b205, hpb205, w203, hww203, h⟩ := M.new_use h
          refine LE.r (v := (SV.v (SV.mk (some b205) 1 1))) (Wn.no rfl) rfl (R.bsl (by exact (Ls.cons (R.Pr rfl) Ls.nil)) (fun w => bs24_1 t188 t189 t190 t191 t192 t193 t194 t195 t196 t197 t198 t199 t200 t201 w) hpb205 hww203) ?_
          obtain ⟨s206, w207, h208, h⟩ := h
          refine LE.r (v := (SV.v s206)) (Wn.no rfl) rfl (R.app (s := x1) (r := s206) rfl rfl h208) ?_
          refine LE.p (v := (SV.v s206)) (Wn.no rfl) rfl (R.assign rfl) ?_
          refine LE.nil ?_
          refine WE.reg ?_
          refine LE.p (v := (Value.int .i64 x2)) (Wn.no rfl) rfl (R.move f186) ?_
          refine LE.p (v := (Value.int .i64 (IntKind.i64.wrap (x2 + (1 : Int))))) (Wn.no rfl) rfl (R.add rfl rfl) ?_
          refine LE.p (v := (Value.int .i64 (IntKind.i64.wrap (x2 + (1 : Int))))) (Wn.no rfl) rfl (R.assign rfl) ?_
          refine LE.nil ?_
          obtain ⟨m9, hm10, h⟩ := h
          exact ⟨m9, hm10, _, _, h, f183, f184, rfl, rfl⟩
    · intro hb25
      replace h := M.ite_f h hb25
      refine WE.exit ?_
      refine WE.seq ?_
      refine WE.reg ?_
      refine LE.p (v := (SV.v x1)) (Wn.no rfl) rfl (R.move f22) ?_
      refine LE.p (v := (SV.v x1)) (Wn.no rfl) rfl (R.assign rfl) ?_
      refine LE.nil ?_
      refine WE.ret ?_
      exact ⟨_, (Res.tmp rfl Res.nil), _, rfl, h⟩
/-- The formula of signpost.signpostlaw17.known. -/
def F11  (K : Bool → World → Prop) (w0 : World) : Prop :=
M.new (.cells #[(Value.int .i64 (0 : Int)), (Value.int .u32 (0 : Int)), (Value.int .u32 (0 : Int)), (Value.bool false), (Value.int .i64 (0 : Int)), (SV.v SV.nil), (Value.int .u32 (0 : Int)), (Value.bool false), (Value.int .u32 (0 : Int)), (Value.bool false), (Value.int .u32 (0 : Int)), (Value.bool false), (SV.v SV.nil), (Value.float .f64 (0 : Nat)), (Value.int .i64 (0 : Int)), (Value.int .u32 (0 : Int)), (Value.int .u32 (0 : Int)), (Value.bool false), (Value.int .i64 (0 : Int)), (SV.v SV.nil), (Value.int .u32 (0 : Int)), (Value.bool false), (Value.int .u32 (0 : Int)), (Value.bool true), (Value.int .u32 (200 : Int)), (Value.bool false), (SV.v SV.nil), (Value.float .f64 (0 : Nat))] 37) w0 fun b3 w1 =>
Calls Try.prog 13 #[(SV.v (SV.mk (some b3) 2 2))] w1 (R13 fun r4 r5 w6 =>
Calls Try.prog 13 #[(SV.v SV.nil)] w6 (R13 fun r7 r8 w9 =>
M.join (fun (x11 : Bool) (w60 : World) => 
K x11 w60) fun J10 => 
M.drew w9 fun w12 => 
M.ite (r4 == (1 : Int)) (
M.ite r5 (
M.ite (!r8) (
Calls Try.prog 15 #[(Value.agg #[(Value.int .i64 (0 : Int)), (SV.v SV.nil), (Value.int .u32 (0 : Int)), (Value.bool false), (Value.int .u32 (0 : Int)), (Value.bool false), (Value.int .u32 (7 : Int)), (Value.bool false), (SV.v SV.nil)])] w12 (R15 fun r16 w17 =>
M.ite (r16 == (100 : Int)) (
M.idx (SV.mk (some b3) 2 2) (1 : Int) 14 fun a19 =>
M.idx (SV.mk (some b3) 2 2) (0 : Int) 14 fun a23 =>
∃ (t27 : Int) (t28 : Int) (t29 : Int) (t30 : Bool) (t31 : Int) (t32 : SV) (t33 : Int) (t34 : Bool) (t35 : Int) (t36 : Bool) (t37 : Int) (t38 : Bool) (t39 : SV) (t40 : Nat), Cs w17 (a19.add ((1 : Int).toNat * 14)) 0 [(Value.int .i64 t27), (Value.int .u32 t28), (Value.int .u32 t29), (Value.bool t30), (Value.int .i64 t31), (SV.v t32), (Value.int .u32 t33), (Value.bool t34), (Value.int .u32 t35), (Value.bool t36), (Value.int .u32 t37), (Value.bool t38), (SV.v t39), (Value.float .f64 t40)] ∧
∃ (t42 : Int) (t43 : Int) (t44 : Int) (t45 : Bool) (t46 : Int) (t47 : SV) (t48 : Int) (t49 : Bool) (t50 : Int) (t51 : Bool) (t52 : Int) (t53 : Bool) (t54 : SV) (t55 : Nat), Cs w17 (a23.add ((0 : Int).toNat * 14)) 0 [(Value.int .i64 t42), (Value.int .u32 t43), (Value.int .u32 t44), (Value.bool t45), (Value.int .i64 t46), (SV.v t47), (Value.int .u32 t48), (Value.bool t49), (Value.int .u32 t50), (Value.bool t51), (Value.int .u32 t52), (Value.bool t53), (SV.v t54), (Value.float .f64 t55)] ∧
Calls Try.prog 17 #[(Value.agg #[(Value.int .i64 t27), (Value.int .u32 t28), (Value.int .u32 t29), (Value.bool t30), (Value.int .i64 t31), (SV.v t32), (Value.int .u32 t33), (Value.bool t34), (Value.int .u32 t35), (Value.bool t36), (Value.int .u32 t37), (Value.bool t38), (SV.v t39), (Value.float .f64 t40)]), (Value.agg #[(Value.int .i64 t42), (Value.int .u32 t43), (Value.int .u32 t44), (Value.bool t45), (Value.int .i64 t46), (SV.v t47), (Value.int .u32 t48), (Value.bool t49), (Value.int .u32 t50), (Value.bool t51), (Value.int .u32 t52), (Value.bool t53), (SV.v t54), (Value.float .f64 t55)]), (Value.int .i64 (1 : Int))] w17 (R17 fun r57 w58 =>
J10 r57 w58)) (
J10 false w17))) (
J10 false w12)) (
J10 false w12)) (
J10 false w12)))
theorem F11_ok {w0 : World}  {K : Bool → World → Prop} (h : F11 K w0) : Calls Try.prog 11 #[] w0 (R11 K) := by
  refine calls_of_WE (args := []) (rs := [.tmp 0]) Try.func11 rfl (N := 43) rfl rfl rfl rfl ?_
  refine WE.seq ?_
  refine WE.reg ?_
  refine LE.p (v := (Value.bool false)) (Wn.no rfl) rfl (R.assign rfl) ?_
  refine LE.nil ?_
  refine WE.seq ?_
  refine WE.reg ?_
  refine LE.p (v := (Value.agg #[(Value.int .i64 (0 : Int)), (Value.int .u32 (0 : Int)), (Value.int .u32 (0 : Int)), (Value.bool false), (Value.int .i64 (0 : Int)), (SV.v SV.nil), (Value.int .u32 (0 : Int)), (Value.bool false), (Value.int .u32 (0 : Int)), (Value.bool false), (Value.int .u32 (0 : Int)), (Value.bool false), (SV.v SV.nil), (Value.float .f64 (0 : Nat))])) (Wn.no rfl) rfl (R.bld (by exact Ls.nil) (fun w => bu37_  w)) ?_
  refine LE.p (v := (Value.agg #[(Value.int .i64 (0 : Int)), (SV.v SV.nil), (Value.int .u32 (0 : Int)), (Value.bool false), (Value.int .u32 (0 : Int)), (Value.bool true), (Value.int .u32 (200 : Int)), (Value.bool false), (SV.v SV.nil)])) (Wn.no rfl) rfl (R.bld (by exact (Ls.cons (R.Pr rfl) (Ls.cons (R.Pr rfl) Ls.nil))) (fun w => bu32_5_6 true (200 : Int) w)) ?_
  refine LE.p (v := (Value.agg #[(Value.int .i64 (0 : Int)), (Value.int .u32 (0 : Int)), (Value.int .u32 (0 : Int)), (Value.bool false), (Value.int .i64 (0 : Int)), (SV.v SV.nil), (Value.int .u32 (0 : Int)), (Value.bool false), (Value.int .u32 (0 : Int)), (Value.bool true), (Value.int .u32 (200 : Int)), (Value.bool false), (SV.v SV.nil)])) (Wn.no rfl) rfl (R.bld (by exact (Ls.cons (R.Pr rfl) Ls.nil)) (fun w => bu34_4 (0 : Int) SV.nil (0 : Int) false (0 : Int) true (200 : Int) false SV.nil w)) ?_
  refine LE.p (v := (Value.agg #[(Value.int .i64 (0 : Int)), (Value.int .u32 (0 : Int)), (Value.int .u32 (0 : Int)), (Value.bool false), (Value.int .i64 (0 : Int)), (SV.v SV.nil), (Value.int .u32 (0 : Int)), (Value.bool false), (Value.int .u32 (0 : Int)), (Value.bool true), (Value.int .u32 (200 : Int)), (Value.bool false), (SV.v SV.nil), (Value.float .f64 (0 : Nat))])) (Wn.no rfl) rfl (R.bld (by exact (Ls.cons (R.Pr rfl) Ls.nil)) (fun w => bu37_0 (0 : Int) (0 : Int) (0 : Int) false (0 : Int) SV.nil (0 : Int) false (0 : Int) true (200 : Int) false SV.nil w)) ?_
  obtain ⟨b3, hpb3, w1, hww1, h⟩ := M.new_use h
  refine LE.r (v := (SV.v (SV.mk (some b3) 2 2))) (Wn.no rfl) rfl (R.bsl (by exact (Ls.cons (R.Pr rfl) (Ls.cons (R.Pr rfl) Ls.nil))) (fun w => bs24_2 (0 : Int) (0 : Int) (0 : Int) false (0 : Int) SV.nil (0 : Int) false (0 : Int) false (0 : Int) false SV.nil (0 : Nat) (0 : Int) (0 : Int) (0 : Int) false (0 : Int) SV.nil (0 : Int) false (0 : Int) true (200 : Int) false SV.nil (0 : Nat) w) hpb3 hww1) ?_
  refine LE.p (v := (SV.v (SV.mk (some b3) 2 2))) (Wn.no rfl) rfl (R.assign rfl) ?_
  refine LE.nil ?_
  refine WE.seq ?_
  refine WE.reg ?_
  refine LE.p (v := (SV.v (SV.mk (some b3) 2 2))) (Wn.no rfl) rfl (R.move rfl) ?_
  refine LE.c (Wn.no rfl) rfl (R.call bd13 (Ls.cons rfl Ls.nil) rfl) (Calls.mono h ?_)
  rintro _ w6 ⟨r4, r5, rfl, h⟩
  refine ⟨_, rfl, ?_⟩
  refine LE.p (v := (Value.tuple #[(Value.int .i64 r4), (Value.bool r5)])) (Wn.no rfl) rfl (R.move rfl) ?_
  refine LE.p (v := (Value.int .i64 r4)) (Wn.no rfl) rfl (R.ext rfl rfl) ?_
  refine LE.p (v := (Value.bool r5)) (Wn.no rfl) rfl (R.ext rfl rfl) ?_
  refine LE.p (v := (Value.int .i64 r4)) (Wn.no rfl) rfl (R.assign rfl) ?_
  refine LE.p (v := (Value.bool r5)) (Wn.no rfl) rfl (R.assign rfl) ?_
  refine LE.nil ?_
  refine WE.seq ?_
  refine WE.reg ?_
  refine LE.c (Wn.no rfl) rfl (R.call bd13 (Ls.cons rfl Ls.nil) rfl) (Calls.mono h ?_)
  rintro _ w9 ⟨r7, r8, rfl, h⟩
  refine ⟨_, rfl, ?_⟩
  refine LE.p (v := (Value.tuple #[(Value.int .i64 r7), (Value.bool r8)])) (Wn.no rfl) rfl (R.move rfl) ?_
  refine LE.p (v := (Value.int .i64 r7)) (Wn.no rfl) rfl (R.ext rfl rfl) ?_
  refine LE.p (v := (Value.bool r8)) (Wn.no rfl) rfl (R.ext rfl rfl) ?_
  refine LE.p (v := (Value.int .i64 r7)) (Wn.no rfl) rfl (R.assign rfl) ?_
  refine LE.p (v := (Value.bool r8)) (Wn.no rfl) rfl (R.assign rfl) ?_
  refine LE.nil ?_
  refine WE.seq ?_
  obtain ⟨J10, hJ10, h⟩ := M.join_use h
  refine WE.drawJ (fun e w => ∃ (x11 : Bool), J10 x11 w ∧ e 0 = (Value.bool x11)) mix ?_ ?_
  · clear hJ10
    obtain ⟨w12, hww12, h⟩ := M.drew_use h
    rw [← hww12]
    clear hww12
    refine DE.t 0 (v := (Value.int .i64 r4)) rfl (by kernel_rfl) (Wn.no rfl) rfl (R.move rfl) ?_
    refine DE.t 1 (v := (Value.bool (r4 == (1 : Int)))) rfl (by kernel_rfl) (Wn.no rfl) rfl (R.eql rfl rfl) ?_
    refine DE.t 2 (v := (Value.bool (r4 == (1 : Int)))) rfl (by kernel_rfl) (Wn.no rfl) rfl (R.move rfl) ?_
    rcases M.ite_use h with ⟨hb13, h⟩ | ⟨hb13, h⟩
    · refine DE.t 3 (v := (Value.bool r5)) rfl (by kernel_rfl) (Wn.yes 2 22 true rfl rfl rfl (congrArg Value.bool hb13)) rfl (R.move rfl) ?_
      refine DE.t 4 (v := (Value.bool r5)) rfl (by kernel_rfl) (Wn.no rfl) rfl (R.pickT (congrArg Value.bool hb13) rfl) ?_
      refine DE.t 5 (v := (Value.bool r5)) rfl (by kernel_rfl) (Wn.no rfl) rfl (R.move rfl) ?_
      rcases M.ite_use h with ⟨hb14, h⟩ | ⟨hb14, h⟩
      · refine DE.t 6 (v := (Value.bool r8)) rfl (by kernel_rfl) (Wn.yes 5 25 true rfl rfl rfl (congrArg Value.bool hb14)) rfl (R.move rfl) ?_
        refine DE.t 7 (v := (Value.bool (!r8))) rfl (by kernel_rfl) (Wn.yes 5 25 true rfl rfl rfl (congrArg Value.bool hb14)) rfl (R.not rfl) ?_
        refine DE.t 8 (v := (Value.bool (!r8))) rfl (by kernel_rfl) (Wn.no rfl) rfl (R.pickT (congrArg Value.bool hb14) rfl) ?_
        refine DE.t 9 (v := (Value.bool (!r8))) rfl (by kernel_rfl) (Wn.no rfl) rfl (R.move rfl) ?_
        rcases M.ite_use h with ⟨hb15, h⟩ | ⟨hb15, h⟩
        · refine DE.t 10 (v := (Value.agg #[(Value.int .i64 (0 : Int)), (SV.v SV.nil), (Value.int .u32 (0 : Int)), (Value.bool false), (Value.int .u32 (0 : Int)), (Value.bool false), (Value.int .u32 (7 : Int)), (Value.bool false), (SV.v SV.nil)])) rfl (by kernel_rfl) (Wn.yes 9 29 true rfl rfl rfl (congrArg Value.bool hb15)) rfl (R.bld (by exact (Ls.cons (R.Pr rfl) Ls.nil)) (fun w => bu32_6 (7 : Int) w)) ?_
          refine DE.main 11 (by kernel_rfl) ?_
          refine One.c 11 rfl (Wn.yes 9 29 true rfl rfl rfl (congrArg Value.bool hb15)) rfl (R.call bd15 (Ls.cons rfl Ls.nil) rfl) (Calls.mono h ?_)
          rintro _ w17 ⟨r16, rfl, h⟩
          refine ⟨_, rfl, trivial, ?_⟩
          refine DE.t 12 (v := (Value.bool (r16 == (100 : Int)))) rfl (by kernel_rfl) (Wn.yes 9 29 true rfl rfl rfl (congrArg Value.bool hb15)) rfl (R.eql rfl rfl) ?_
          refine DE.t 13 (v := (Value.bool (r16 == (100 : Int)))) rfl (by kernel_rfl) (Wn.no rfl) rfl (R.pickT (congrArg Value.bool hb15) rfl) ?_
          refine DE.t 14 (v := (Value.bool (r16 == (100 : Int)))) rfl (by kernel_rfl) (Wn.no rfl) rfl (R.move rfl) ?_
          rcases M.ite_use h with ⟨hb18, h⟩ | ⟨hb18, h⟩
          · refine DE.t 15 (v := (SV.v (SV.mk (some b3) 2 2))) rfl (by kernel_rfl) (Wn.yes 14 34 true rfl rfl rfl (congrArg Value.bool hb18)) rfl (R.move rfl) ?_
            obtain ⟨a19, h20, h21, h22, h⟩ := h
            refine DE.t 16 (v := (Value.pointer (some (a19.add ((1 : Int).toNat * 14))))) rfl (by kernel_rfl) (Wn.yes 14 34 true rfl rfl rfl (congrArg Value.bool hb18)) rfl (R.idx (s := (SV.mk (some b3) 2 2)) sl24 rfl rfl h20 h21 h22) ?_
            refine DE.t 18 (v := (SV.v (SV.mk (some b3) 2 2))) rfl (by kernel_rfl) (Wn.yes 14 34 true rfl rfl rfl (congrArg Value.bool hb18)) rfl (R.move rfl) ?_
            obtain ⟨a23, h24, h25, h26, h⟩ := h
            refine DE.t 19 (v := (Value.pointer (some (a23.add ((0 : Int).toNat * 14))))) rfl (by kernel_rfl) (Wn.yes 14 34 true rfl rfl rfl (congrArg Value.bool hb18)) rfl (R.idx (s := (SV.mk (some b3) 2 2)) sl24 rfl rfl h24 h25 h26) ?_
            obtain ⟨t27, t28, t29, t30, t31, t32, t33, t34, t35, t36, t37, t38, t39, t40, h41, h⟩ := h
            refine DE.hold 17 (fun w => Cs w (a19.add ((1 : Int).toNat * 14)) 0 [(Value.int .i64 t27), (Value.int .u32 t28), (Value.int .u32 t29), (Value.bool t30), (Value.int .i64 t31), (SV.v t32), (Value.int .u32 t33), (Value.bool t34), (Value.int .u32 t35), (Value.bool t36), (Value.int .u32 t37), (Value.bool t38), (SV.v t39), (Value.float .f64 t40)]) (v := (Value.agg #[(Value.int .i64 t27), (Value.int .u32 t28), (Value.int .u32 t29), (Value.bool t30), (Value.int .i64 t31), (SV.v t32), (Value.int .u32 t33), (Value.bool t34), (Value.int .u32 t35), (Value.bool t36), (Value.int .u32 t37), (Value.bool t38), (SV.v t39), (Value.float .f64 t40)])) rfl (by kernel_rfl) (Wn.yes 14 34 true rfl rfl rfl (congrArg Value.bool hb18)) rfl h41 (fun w hs => R.ldA ag37 sz37 rfl rfl hs) ?_
            obtain ⟨t42, t43, t44, t45, t46, t47, t48, t49, t50, t51, t52, t53, t54, t55, h56, h⟩ := h
            refine DE.main 20 (by kernel_rfl) ?_
            refine One.r 20 (v := (Value.agg #[(Value.int .i64 t42), (Value.int .u32 t43), (Value.int .u32 t44), (Value.bool t45), (Value.int .i64 t46), (SV.v t47), (Value.int .u32 t48), (Value.bool t49), (Value.int .u32 t50), (Value.bool t51), (Value.int .u32 t52), (Value.bool t53), (SV.v t54), (Value.float .f64 t55)])) rfl (Wn.yes 14 34 true rfl rfl rfl (congrArg Value.bool hb18)) rfl (R.ldA ag37 sz37 rfl rfl h56) (.inl rfl) ?_
            refine DE.main 21 (by kernel_rfl) ?_
            refine One.c 21 rfl (Wn.yes 14 34 true rfl rfl rfl (congrArg Value.bool hb18)) rfl (R.call bd17 (Ls.cons rfl (Ls.cons rfl (Ls.cons rfl Ls.nil))) rfl) (Calls.mono h ?_)
            rintro _ w58 ⟨r57, rfl, h⟩
            refine ⟨_, rfl, ⟨aftT (by kernel_rfl), trivial⟩, ?_⟩
            refine DE.t 22 (v := (Value.bool r57)) rfl (by kernel_rfl) (Wn.no rfl) rfl (R.pickT (congrArg Value.bool hb18) rfl) ?_
            refine DE.t 23 (v := (Value.bool r57)) rfl (by kernel_rfl) (Wn.no rfl) rfl (R.assign rfl) ?_
            refine DE.done (by kernel_rfl) ?_
            exact ⟨_, h, rfl⟩
          · refine DE.u 15 rfl (by kernel_rfl) (Un.no 14 34 true rfl rfl rfl (congrArg Value.bool hb18)) ?_
            refine DE.u 16 rfl (by kernel_rfl) (Un.no 14 34 true rfl rfl rfl (congrArg Value.bool hb18)) ?_
            refine DE.u 17 rfl (by kernel_rfl) (Un.no 14 34 true rfl rfl rfl (congrArg Value.bool hb18)) ?_
            refine DE.u 18 rfl (by kernel_rfl) (Un.no 14 34 true rfl rfl rfl (congrArg Value.bool hb18)) ?_
            refine DE.u 19 rfl (by kernel_rfl) (Un.no 14 34 true rfl rfl rfl (congrArg Value.bool hb18)) ?_
            refine DE.u 20 rfl (by kernel_rfl) (Un.no 14 34 true rfl rfl rfl (congrArg Value.bool hb18)) ?_
            refine DE.u 21 rfl (by kernel_rfl) (Un.no 14 34 true rfl rfl rfl (congrArg Value.bool hb18)) ?_
            refine DE.t 22 (v := (Value.bool false)) rfl (by kernel_rfl) (Wn.no rfl) rfl (R.pickF (congrArg Value.bool hb18) rfl) ?_
            refine DE.t 23 (v := (Value.bool false)) rfl (by kernel_rfl) (Wn.no rfl) rfl (R.assign rfl) ?_
            refine DE.done (by kernel_rfl) ?_
            exact ⟨_, h, rfl⟩
        · refine DE.u 10 rfl (by kernel_rfl) (Un.no 9 29 true rfl rfl rfl (congrArg Value.bool hb15)) ?_
          refine DE.u 11 rfl (by kernel_rfl) (Un.no 9 29 true rfl rfl rfl (congrArg Value.bool hb15)) ?_
          refine DE.u 12 rfl (by kernel_rfl) (Un.no 9 29 true rfl rfl rfl (congrArg Value.bool hb15)) ?_
          refine DE.t 13 (v := (Value.bool false)) rfl (by kernel_rfl) (Wn.no rfl) rfl (R.pickF (congrArg Value.bool hb15) rfl) ?_
          refine DE.t 14 (v := (Value.bool false)) rfl (by kernel_rfl) (Wn.no rfl) rfl (R.move rfl) ?_
          refine DE.u 15 rfl (by kernel_rfl) (Un.no 14 34 true rfl rfl rfl rfl) ?_
          refine DE.u 16 rfl (by kernel_rfl) (Un.no 14 34 true rfl rfl rfl rfl) ?_
          refine DE.u 17 rfl (by kernel_rfl) (Un.no 14 34 true rfl rfl rfl rfl) ?_
          refine DE.u 18 rfl (by kernel_rfl) (Un.no 14 34 true rfl rfl rfl rfl) ?_
          refine DE.u 19 rfl (by kernel_rfl) (Un.no 14 34 true rfl rfl rfl rfl) ?_
          refine DE.u 20 rfl (by kernel_rfl) (Un.no 14 34 true rfl rfl rfl rfl) ?_
          refine DE.u 21 rfl (by kernel_rfl) (Un.no 14 34 true rfl rfl rfl rfl) ?_
          refine DE.t 22 (v := (Value.bool false)) rfl (by kernel_rfl) (Wn.no rfl) rfl (R.pickF rfl rfl) ?_
          refine DE.t 23 (v := (Value.bool false)) rfl (by kernel_rfl) (Wn.no rfl) rfl (R.assign rfl) ?_
          refine DE.done (by kernel_rfl) ?_
          exact ⟨_, h, rfl⟩
      · refine DE.u 6 rfl (by kernel_rfl) (Un.no 5 25 true rfl rfl rfl (congrArg Value.bool hb14)) ?_
        refine DE.u 7 rfl (by kernel_rfl) (Un.no 5 25 true rfl rfl rfl (congrArg Value.bool hb14)) ?_
        refine DE.t 8 (v := (Value.bool false)) rfl (by kernel_rfl) (Wn.no rfl) rfl (R.pickF (congrArg Value.bool hb14) rfl) ?_
        refine DE.t 9 (v := (Value.bool false)) rfl (by kernel_rfl) (Wn.no rfl) rfl (R.move rfl) ?_
        refine DE.u 10 rfl (by kernel_rfl) (Un.no 9 29 true rfl rfl rfl rfl) ?_
        refine DE.u 11 rfl (by kernel_rfl) (Un.no 9 29 true rfl rfl rfl rfl) ?_
        refine DE.u 12 rfl (by kernel_rfl) (Un.no 9 29 true rfl rfl rfl rfl) ?_
        refine DE.t 13 (v := (Value.bool false)) rfl (by kernel_rfl) (Wn.no rfl) rfl (R.pickF rfl rfl) ?_
        refine DE.t 14 (v := (Value.bool false)) rfl (by kernel_rfl) (Wn.no rfl) rfl (R.move rfl) ?_
        refine DE.u 15 rfl (by kernel_rfl) (Un.no 14 34 true rfl rfl rfl rfl) ?_
        refine DE.u 16 rfl (by kernel_rfl) (Un.no 14 34 true rfl rfl rfl rfl) ?_
        refine DE.u 17 rfl (by kernel_rfl) (Un.no 14 34 true rfl rfl rfl rfl) ?_
        refine DE.u 18 rfl (by kernel_rfl) (Un.no 14 34 true rfl rfl rfl rfl) ?_
        refine DE.u 19 rfl (by kernel_rfl) (Un.no 14 34 true rfl rfl rfl rfl) ?_
        refine DE.u 20 rfl (by kernel_rfl) (Un.no 14 34 true rfl rfl rfl rfl) ?_
        refine DE.u 21 rfl (by kernel_rfl) (Un.no 14 34 true rfl rfl rfl rfl) ?_
        refine DE.t 22 (v := (Value.bool false)) rfl (by kernel_rfl) (Wn.no rfl) rfl (R.pickF rfl rfl) ?_
        refine DE.t 23 (v := (Value.bool false)) rfl (by kernel_rfl) (Wn.no rfl) rfl (R.assign rfl) ?_
        refine DE.done (by kernel_rfl) ?_
        exact ⟨_, h, rfl⟩
    · refine DE.u 3 rfl (by kernel_rfl) (Un.no 2 22 true rfl rfl rfl (congrArg Value.bool hb13)) ?_
      refine DE.t 4 (v := (Value.bool false)) rfl (by kernel_rfl) (Wn.no rfl) rfl (R.pickF (congrArg Value.bool hb13) rfl) ?_
      refine DE.t 5 (v := (Value.bool false)) rfl (by kernel_rfl) (Wn.no rfl) rfl (R.move rfl) ?_
      refine DE.u 6 rfl (by kernel_rfl) (Un.no 5 25 true rfl rfl rfl rfl) ?_
      refine DE.u 7 rfl (by kernel_rfl) (Un.no 5 25 true rfl rfl rfl rfl) ?_
      refine DE.t 8 (v := (Value.bool false)) rfl (by kernel_rfl) (Wn.no rfl) rfl (R.pickF rfl rfl) ?_
      refine DE.t 9 (v := (Value.bool false)) rfl (by kernel_rfl) (Wn.no rfl) rfl (R.move rfl) ?_
      refine DE.u 10 rfl (by kernel_rfl) (Un.no 9 29 true rfl rfl rfl rfl) ?_
      refine DE.u 11 rfl (by kernel_rfl) (Un.no 9 29 true rfl rfl rfl rfl) ?_
      refine DE.u 12 rfl (by kernel_rfl) (Un.no 9 29 true rfl rfl rfl rfl) ?_
      refine DE.t 13 (v := (Value.bool false)) rfl (by kernel_rfl) (Wn.no rfl) rfl (R.pickF rfl rfl) ?_
      refine DE.t 14 (v := (Value.bool false)) rfl (by kernel_rfl) (Wn.no rfl) rfl (R.move rfl) ?_
      refine DE.u 15 rfl (by kernel_rfl) (Un.no 14 34 true rfl rfl rfl rfl) ?_
      refine DE.u 16 rfl (by kernel_rfl) (Un.no 14 34 true rfl rfl rfl rfl) ?_
      refine DE.u 17 rfl (by kernel_rfl) (Un.no 14 34 true rfl rfl rfl rfl) ?_
      refine DE.u 18 rfl (by kernel_rfl) (Un.no 14 34 true rfl rfl rfl rfl) ?_
      refine DE.u 19 rfl (by kernel_rfl) (Un.no 14 34 true rfl rfl rfl rfl) ?_
      refine DE.u 20 rfl (by kernel_rfl) (Un.no 14 34 true rfl rfl rfl rfl) ?_
      refine DE.u 21 rfl (by kernel_rfl) (Un.no 14 34 true rfl rfl rfl rfl) ?_
      refine DE.t 22 (v := (Value.bool false)) rfl (by kernel_rfl) (Wn.no rfl) rfl (R.pickF rfl rfl) ?_
      refine DE.t 23 (v := (Value.bool false)) rfl (by kernel_rfl) (Wn.no rfl) rfl (R.assign rfl) ?_
      refine DE.done (by kernel_rfl) ?_
      exact ⟨_, h, rfl⟩
  · rintro e59 w60 ⟨x11, h, f61⟩
    subst hJ10
    refine WE.ret ?_
    exact ⟨_, (Res.tmp f61 Res.nil), _, rfl, h⟩
/-- The formula of signpost.decide.Left. -/
def F12 (p0 : SV) (p1 : Int) (K : SV → World → Prop) (w0 : World) : Prop :=
M.loop2 (fun (J3 : SV → Int → World → Prop) (x1 : SV) (x2 : Int) (w4 : World) => 
M.ite (decide (x2 < (p0.len : Int))) (
M.new (.cells #[(Value.int .i64 x2)] 3) w4 fun b19 w17 =>
M.app Try.prog 38 38 38 x1 (SV.v (SV.mk (some b19) 1 1)) w17 fun s20 w21 =>
J3 s20 (IntKind.i64.wrap (x2 + (1 : Int))) w21) (
M.loop2 (fun (J25 : SV → Int → World → Prop) (x23 : SV) (x24 : Int) (w26 : World) => 
M.ite (decide (x24 ≤ (min p1 (7 : Int)))) (
Calls Try.prog 28 #[(SV.v p0), (SV.v x23), (Value.int .i64 x24)] w26 (R28 fun r38 w39 =>
J25 r38 (IntKind.i64.wrap (x24 + (1 : Int))) w39)) (
K x23 w26)) x1 (1 : Int) w4)) SV.nil (0 : Int) w0
theorem F12_ok {w0 : World} {p0 : SV} {p1 : Int} {K : SV → World → Prop} (h : F12 p0 p1 K w0) : Calls Try.prog 12 #[(SV.v p0), (Value.int .i64 p1)] w0 (R12 K) := by
  refine calls_of_WE (args := [(SV.v p0), (Value.int .i64 p1)]) (rs := [.tmp 4]) Try.func12 rfl (N := 29) rfl rfl rfl rfl ?_
  refine WE.seq ?_
  refine WE.reg ?_
  refine LE.p (v := (SV.v SV.nil)) (Wn.no rfl) rfl (R.assign rfl) ?_
  refine LE.nil ?_
  refine WE.seq ?_
  refine WE.reg ?_
  refine LE.p (v := (SV.v SV.nil)) (Wn.no rfl) rfl (R.assign rfl) ?_
  refine LE.nil ?_
  refine WE.seq ?_
  refine WE.seq ?_
  refine WE.reg ?_
  refine LE.p (v := (SV.v p0)) (Wn.no rfl) rfl (R.move rfl) ?_
  refine LE.p (v := (Value.int .i64 (p0.len : Int))) (Wn.no rfl) rfl (R.len sl24 rfl) ?_
  refine LE.p (v := (Value.int .i64 (0 : Int))) (Wn.no rfl) rfl (R.move rfl) ?_
  refine LE.nil ?_
  refine WE.block ?_
  obtain ⟨I7, ⟨n6, h⟩, hr8⟩ := h
  refine WE.loop (fun n e w => ∃ (x1 : SV) (x2 : Int), I7 n x1 x2 w ∧ e 0 = (SV.v p0) ∧ e 1 = (Value.int .i64 p1) ∧ e 5 = (SV.v x1) ∧ e 9 = (Value.int .i64 (p0.len : Int)) ∧ e 10 = (Value.int .i64 x2)) n6 ⟨_, _, h, rfl, rfl, rfl, rfl, rfl⟩ ?_
  clear h
  rintro n6 e5 w4 ⟨x1, x2, h, f11, f12, f13, f14, f15⟩
  replace h := hr8 n6 x1 x2 w4 h
  refine WE.seq ?_
  refine WE.reg ?_
  refine LE.p (v := (Value.bool (decide (x2 < (p0.len : Int))))) (Wn.no rfl) rfl (R.lss f15 f14) ?_
  refine LE.nil ?_
  refine WE.seq ?_
  refine WE.condT rfl (b := (decide (x2 < (p0.len : Int)))) rfl ?_ ?_
  · intro hb16
    replace h := M.ite_t h hb16
    refine WE.skip ?_
    refine WE.seq ?_
    refine WE.block ?_
    refine WE.seq ?_
    refine WE.reg ?_
    refine LE.p (v := (Value.int .i64 x2)) (Wn.no rfl) rfl (R.move f15) ?_
    refine LE.p (v := (Value.int .i64 x2)) (Wn.no rfl) rfl (R.assign rfl) ?_
    refine LE.nil ?_
    refine WE.reg ?_
    refine LE.p (v := (SV.v x1)) (Wn.no rfl) rfl (R.move f13) ?_
    refine LE.p (v := (Value.int .i64 x2)) (Wn.no rfl) rfl (R.move rfl) ?_
    obtain ⟨b19, hpb19, w17, hww17, h⟩ := M.new_use h
    refine LE.r (v := (SV.v (SV.mk (some b19) 1 1))) (Wn.no rfl) rfl (R.bsl (by exact (Ls.cons (R.Pr rfl) Ls.nil)) (fun w => bs38_1 x2 w) hpb19 hww17) ?_
    obtain ⟨s20, w21, h22, h⟩ := h
    refine LE.r (v := (SV.v s20)) (Wn.no rfl) rfl (R.app (s := x1) (r := s20) rfl rfl h22) ?_
    refine LE.p (v := (SV.v s20)) (Wn.no rfl) rfl (R.assign rfl) ?_
    refine LE.nil ?_
    refine WE.reg ?_
    refine LE.p (v := (Value.int .i64 (IntKind.i64.wrap (x2 + (1 : Int))))) (Wn.no rfl) rfl (R.add f15 rfl) ?_
    refine LE.p (v := (Value.int .i64 (IntKind.i64.wrap (x2 + (1 : Int))))) (Wn.no rfl) rfl (R.move rfl) ?_
    refine LE.nil ?_
    obtain ⟨m9, hm10, h⟩ := h
    exact ⟨m9, hm10, _, _, h, f11, f12, rfl, f14, rfl⟩
  · intro hb16
    replace h := M.ite_f h hb16
    refine WE.exit ?_
    refine WE.seq ?_
    refine WE.seq ?_
    refine WE.reg ?_
    refine LE.p (v := (Value.int .i64 (1 : Int))) (Wn.no rfl) rfl (R.assign rfl) ?_
    refine LE.nil ?_
    refine WE.block ?_
    obtain ⟨I29, ⟨n28, h⟩, hr30⟩ := h
    refine WE.loop (fun n e w => ∃ (x23 : SV) (x24 : Int), I29 n x23 x24 w ∧ e 0 = (SV.v p0) ∧ e 1 = (Value.int .i64 p1) ∧ e 5 = (SV.v x23) ∧ e 7 = (Value.int .i64 x24)) n28 ⟨_, _, h, f11, f12, f13, rfl⟩ ?_
    clear h
    rintro n28 e27 w26 ⟨x23, x24, h, f33, f34, f35, f36⟩
    replace h := hr30 n28 x23 x24 w26 h
    refine WE.seq ?_
    refine WE.seq ?_
    refine WE.reg ?_
    refine LE.p (v := (Value.int .i64 x24)) (Wn.no rfl) rfl (R.move f36) ?_
    refine LE.p (v := (Value.int .i64 p1)) (Wn.no rfl) rfl (R.move f34) ?_
    refine LE.p (v := (Value.int .i64 (min p1 (7 : Int)))) (Wn.no rfl) rfl (R.min2 rfl rfl) ?_
    refine LE.p (v := (Value.bool (decide (x24 ≤ (min p1 (7 : Int)))))) (Wn.no rfl) rfl (R.leq rfl rfl) ?_
    refine LE.nil ?_
    refine WE.condT rfl (b := (decide (x24 ≤ (min p1 (7 : Int))))) rfl ?_ ?_
    · intro hb37
      replace h := M.ite_t h hb37
      refine WE.skip ?_
      refine WE.seq ?_
      refine WE.block ?_
      refine WE.reg ?_
      refine LE.p (v := (SV.v p0)) (Wn.no rfl) rfl (R.move f33) ?_
      refine LE.p (v := (SV.v x23)) (Wn.no rfl) rfl (R.move f35) ?_
      refine LE.p (v := (Value.int .i64 x24)) (Wn.no rfl) rfl (R.move f36) ?_
      refine LE.c (Wn.no rfl) rfl (R.call bd28 (Ls.cons rfl (Ls.cons rfl (Ls.cons rfl Ls.nil))) rfl) (Calls.mono h ?_)
      rintro _ w39 ⟨r38, rfl, h⟩
      refine ⟨_, rfl, ?_⟩
      refine LE.p (v := (SV.v r38)) (Wn.no rfl) rfl (R.assign rfl) ?_
      refine LE.nil ?_
      refine WE.reg ?_
      refine LE.p (v := (Value.int .i64 x24)) (Wn.no rfl) rfl (R.move f36) ?_
      refine LE.p (v := (Value.int .i64 (IntKind.i64.wrap (x24 + (1 : Int))))) (Wn.no rfl) rfl (R.add rfl rfl) ?_
      refine LE.p (v := (Value.int .i64 (IntKind.i64.wrap (x24 + (1 : Int))))) (Wn.no rfl) rfl (R.assign rfl) ?_
      refine LE.nil ?_
      obtain ⟨m31, hm32, h⟩ := h
      exact ⟨m31, hm32, _, _, h, f33, f34, rfl, rfl⟩
    · intro hb37
      replace h := M.ite_f h hb37
      refine WE.exit ?_
      refine WE.seq ?_
      refine WE.reg ?_
      refine LE.p (v := (SV.v x23)) (Wn.no rfl) rfl (R.move f35) ?_
      refine LE.p (v := (SV.v x23)) (Wn.no rfl) rfl (R.assign rfl) ?_
      refine LE.nil ?_
      refine WE.ret ?_
      exact ⟨_, (Res.tmp rfl Res.nil), _, rfl, h⟩
/-- The formula of signpost.decide.Best. -/
def F13 (p0 : SV) (K : Int → Bool → World → Prop) (w0 : World) : Prop :=
M.ite ((p0.len : Int) == (0 : Int)) (
K (0 : Int) false w0) (
Calls Try.prog 12 #[(SV.v p0), (Value.int .i64 (7 : Int))] w0 (R12 fun r2 w3 =>
M.idx r2 (0 : Int) 1 fun a4 =>
M.ld (Value.int .i64) (a4.add ((0 : Int).toNat * 1)) w3 fun t8 =>
K t8 true w3))
theorem F13_ok {w0 : World} {p0 : SV} {K : Int → Bool → World → Prop} (h : F13 p0 K w0) : Calls Try.prog 13 #[(SV.v p0)] w0 (R13 K) := by
  refine calls_of_WE (args := [(SV.v p0)]) (rs := [.tmp 2, .tmp 3]) Try.func13 rfl (N := 11) rfl rfl rfl rfl ?_
  refine WE.seq ?_
  refine WE.reg ?_
  refine LE.p (v := (Value.int .i64 (0 : Int))) (Wn.no rfl) rfl (R.assign rfl) ?_
  refine LE.p (v := (Value.bool false)) (Wn.no rfl) rfl (R.assign rfl) ?_
  refine LE.nil ?_
  refine WE.seq ?_
  refine WE.seq ?_
  refine WE.reg ?_
  refine LE.p (v := (SV.v p0)) (Wn.no rfl) rfl (R.move rfl) ?_
  refine LE.p (v := (Value.int .i64 (p0.len : Int))) (Wn.no rfl) rfl (R.len sl24 rfl) ?_
  refine LE.p (v := (Value.bool ((p0.len : Int) == (0 : Int)))) (Wn.no rfl) rfl (R.eql rfl rfl) ?_
  refine LE.nil ?_
  refine WE.condT rfl (b := ((p0.len : Int) == (0 : Int))) rfl ?_ ?_
  · intro hb1
    replace h := M.ite_t h hb1
    refine WE.seq ?_
    refine WE.reg ?_
    refine LE.p (v := (Value.int .i64 (0 : Int))) (Wn.no rfl) rfl (R.assign rfl) ?_
    refine LE.p (v := (Value.bool false)) (Wn.no rfl) rfl (R.assign rfl) ?_
    refine LE.nil ?_
    refine WE.ret ?_
    exact ⟨_, (Res.tmp rfl (Res.tmp rfl Res.nil)), _, _, rfl, h⟩
  · intro hb1
    replace h := M.ite_f h hb1
    refine WE.skip ?_
    refine WE.seq ?_
    refine WE.reg ?_
    refine LE.p (v := (SV.v p0)) (Wn.no rfl) rfl (R.move rfl) ?_
    refine LE.c (Wn.no rfl) rfl (R.call bd12 (Ls.cons rfl (Ls.cons rfl Ls.nil)) rfl) (Calls.mono h ?_)
    rintro _ w3 ⟨r2, rfl, h⟩
    refine ⟨_, rfl, ?_⟩
    obtain ⟨a4, h5, h6, h7, h⟩ := h
    refine LE.p (v := (Value.pointer (some (a4.add ((0 : Int).toNat * 1))))) (Wn.no rfl) rfl (R.idx (s := r2) sl38 rfl rfl h5 h6 h7) ?_
    obtain ⟨t8, h9, h⟩ := h
    refine LE.r (v := (Value.int .i64 t8)) (Wn.no rfl) rfl (R.ld sc3 rfl h9) ?_
    refine LE.p (v := (Value.int .i64 t8)) (Wn.no rfl) rfl (R.assign rfl) ?_
    refine LE.p (v := (Value.bool true)) (Wn.no rfl) rfl (R.assign rfl) ?_
    refine LE.nil ?_
    refine WE.ret ?_
    exact ⟨_, (Res.tmp rfl (Res.tmp rfl Res.nil)), _, _, rfl, h⟩
/-- The formula of signpost.signpostbook.Within. -/
def F14 (p0 : Int) (p1 : Int) (p2 : Int) (K : Int → World → Prop) (w0 : World) : Prop :=
M.nz (IntKind.i64.wrap ((IntKind.i64.wrap (p2 - p1)) + (1 : Int))) <|
M.join (fun (x3 : Int) (w6 : World) => 
K (IntKind.i64.wrap (p1 + x3)) w6) fun J2 => 
M.ite (decide ((Int.tmod p0 (IntKind.i64.wrap ((IntKind.i64.wrap (p2 - p1)) + (1 : Int)))) < (0 : Int))) (
J2 (IntKind.i64.wrap ((IntKind.i64.wrap ((IntKind.i64.wrap ((Int.tmod p0 (IntKind.i64.wrap ((IntKind.i64.wrap (p2 - p1)) + (1 : Int)))) + p2)) - p1)) + (1 : Int))) w0) (
J2 (Int.tmod p0 (IntKind.i64.wrap ((IntKind.i64.wrap (p2 - p1)) + (1 : Int)))) w0)
theorem F14_ok {w0 : World} {p0 : Int} {p1 : Int} {p2 : Int} {K : Int → World → Prop} (h : F14 p0 p1 p2 K w0) : Calls Try.prog 14 #[(Value.int .i64 p0), (Value.int .i64 p1), (Value.int .i64 p2)] w0 (R14 K) := by
  refine calls_of_WE (args := [(Value.int .i64 p0), (Value.int .i64 p1), (Value.int .i64 p2)]) (rs := [.tmp 6]) Try.func14 rfl (N := 24) rfl rfl rfl rfl ?_
  refine WE.seq ?_
  refine WE.reg ?_
  refine LE.p (v := (Value.int .i64 (0 : Int))) (Wn.no rfl) rfl (R.assign rfl) ?_
  refine LE.nil ?_
  refine WE.seq ?_
  refine WE.reg ?_
  refine LE.p (v := (Value.int .i64 p0)) (Wn.no rfl) rfl (R.move rfl) ?_
  refine LE.p (v := (Value.int .i64 p2)) (Wn.no rfl) rfl (R.move rfl) ?_
  refine LE.p (v := (Value.int .i64 p1)) (Wn.no rfl) rfl (R.move rfl) ?_
  refine LE.p (v := (Value.int .i64 (IntKind.i64.wrap (p2 - p1)))) (Wn.no rfl) rfl (R.sub rfl rfl) ?_
  refine LE.p (v := (Value.int .i64 (IntKind.i64.wrap ((IntKind.i64.wrap (p2 - p1)) + (1 : Int))))) (Wn.no rfl) rfl (R.add rfl rfl) ?_
  obtain ⟨h1, h⟩ := h
  refine LE.p (v := (Value.int .i64 (Int.tmod p0 (IntKind.i64.wrap ((IntKind.i64.wrap (p2 - p1)) + (1 : Int)))))) (Wn.no rfl) rfl (R.rem rfl rfl h1) ?_
  refine LE.p (v := (Value.int .i64 (Int.tmod p0 (IntKind.i64.wrap ((IntKind.i64.wrap (p2 - p1)) + (1 : Int)))))) (Wn.no rfl) rfl (R.assign rfl) ?_
  refine LE.nil ?_
  obtain ⟨J2, hJ2, h⟩ := M.join_use h
  refine WE.join (fun e w => ∃ (x3 : Int), J2 x3 w ∧ e 0 = (Value.int .i64 x3) ∧ e 1 = (Value.int .i64 p1)) ?_ ?_
  · clear hJ2
    refine WE.seq ?_
    refine WE.reg ?_
    refine LE.p (v := (Value.int .i64 (Int.tmod p0 (IntKind.i64.wrap ((IntKind.i64.wrap (p2 - p1)) + (1 : Int)))))) (Wn.no rfl) rfl (R.move rfl) ?_
    refine LE.p (v := (Value.bool (decide ((Int.tmod p0 (IntKind.i64.wrap ((IntKind.i64.wrap (p2 - p1)) + (1 : Int)))) < (0 : Int))))) (Wn.no rfl) rfl (R.lss rfl rfl) ?_
    refine LE.nil ?_
    refine WE.condT rfl (b := (decide ((Int.tmod p0 (IntKind.i64.wrap ((IntKind.i64.wrap (p2 - p1)) + (1 : Int)))) < (0 : Int)))) rfl ?_ ?_
    · intro hb4
      replace h := M.ite_t h hb4
      refine WE.reg ?_
      refine LE.p (v := (Value.int .i64 (Int.tmod p0 (IntKind.i64.wrap ((IntKind.i64.wrap (p2 - p1)) + (1 : Int)))))) (Wn.no rfl) rfl (R.move rfl) ?_
      refine LE.p (v := (Value.int .i64 p2)) (Wn.no rfl) rfl (R.move rfl) ?_
      refine LE.p (v := (Value.int .i64 (IntKind.i64.wrap ((Int.tmod p0 (IntKind.i64.wrap ((IntKind.i64.wrap (p2 - p1)) + (1 : Int)))) + p2)))) (Wn.no rfl) rfl (R.add rfl rfl) ?_
      refine LE.p (v := (Value.int .i64 p1)) (Wn.no rfl) rfl (R.move rfl) ?_
      refine LE.p (v := (Value.int .i64 (IntKind.i64.wrap ((IntKind.i64.wrap ((Int.tmod p0 (IntKind.i64.wrap ((IntKind.i64.wrap (p2 - p1)) + (1 : Int)))) + p2)) - p1)))) (Wn.no rfl) rfl (R.sub rfl rfl) ?_
      refine LE.p (v := (Value.int .i64 (IntKind.i64.wrap ((IntKind.i64.wrap ((IntKind.i64.wrap ((Int.tmod p0 (IntKind.i64.wrap ((IntKind.i64.wrap (p2 - p1)) + (1 : Int)))) + p2)) - p1)) + (1 : Int))))) (Wn.no rfl) rfl (R.add rfl rfl) ?_
      refine LE.p (v := (Value.int .i64 (IntKind.i64.wrap ((IntKind.i64.wrap ((IntKind.i64.wrap ((Int.tmod p0 (IntKind.i64.wrap ((IntKind.i64.wrap (p2 - p1)) + (1 : Int)))) + p2)) - p1)) + (1 : Int))))) (Wn.no rfl) rfl (R.assign rfl) ?_
      refine LE.nil ?_
      exact ⟨_, h, rfl, rfl⟩
    · intro hb4
      replace h := M.ite_f h hb4
      refine WE.skip ?_
      exact ⟨_, h, rfl, rfl⟩
  · rintro e5 w6 ⟨x3, h, f7, f8⟩
    subst hJ2
    refine WE.seq ?_
    refine WE.reg ?_
    refine LE.p (v := (Value.int .i64 p1)) (Wn.no rfl) rfl (R.move f8) ?_
    refine LE.p (v := (Value.int .i64 x3)) (Wn.no rfl) rfl (R.move f7) ?_
    refine LE.p (v := (Value.int .i64 (IntKind.i64.wrap (p1 + x3)))) (Wn.no rfl) rfl (R.add rfl rfl) ?_
    refine LE.p (v := (Value.int .i64 (IntKind.i64.wrap (p1 + x3)))) (Wn.no rfl) rfl (R.assign rfl) ?_
    refine LE.nil ?_
    refine WE.ret ?_
    exact ⟨_, (Res.tmp rfl Res.nil), _, rfl, h⟩
/-- The formula of signpost.decide.Pref. -/
def F15 (p0_0 : Int) (p0_1 : SV) (p0_2 : Int) (p0_3 : Bool) (p0_4 : Int) (p0_5 : Bool) (p0_6 : Int) (p0_7 : Bool) (p0_8 : SV) (K : Int → World → Prop) (w0 : World) : Prop :=
M.new (.cells #[(Value.int .i64 p0_0), (SV.v p0_1), (Value.int .u32 p0_2), (Value.bool p0_3), (Value.int .u32 p0_4), (Value.bool p0_5), (Value.int .u32 p0_6), (Value.bool p0_7), (SV.v p0_8)] 32) w0 fun b2 w1 =>
M.ld Value.bool (b2.add 5) w1 fun t3 =>
M.ite (!t3) (
K (100 : Int) w1) (
M.ld (Value.int .u32) (b2.add 6) w1 fun t6 =>
K t6 w1)
theorem F15_ok {w0 : World} {p0_0 : Int} {p0_1 : SV} {p0_2 : Int} {p0_3 : Bool} {p0_4 : Int} {p0_5 : Bool} {p0_6 : Int} {p0_7 : Bool} {p0_8 : SV} {K : Int → World → Prop} (h : F15 p0_0 p0_1 p0_2 p0_3 p0_4 p0_5 p0_6 p0_7 p0_8 K w0) : Calls Try.prog 15 #[(Value.agg #[(Value.int .i64 p0_0), (SV.v p0_1), (Value.int .u32 p0_2), (Value.bool p0_3), (Value.int .u32 p0_4), (Value.bool p0_5), (Value.int .u32 p0_6), (Value.bool p0_7), (SV.v p0_8)])] w0 (R15 K) := by
  refine calls_of_WE (args := [(Value.agg #[(Value.int .i64 p0_0), (SV.v p0_1), (Value.int .u32 p0_2), (Value.bool p0_3), (Value.int .u32 p0_4), (Value.bool p0_5), (Value.int .u32 p0_6), (Value.bool p0_7), (SV.v p0_8)])]) (rs := [.tmp 2]) Try.func15 rfl (N := 8) rfl rfl rfl rfl ?_
  refine WE.seq ?_
  refine WE.reg ?_
  obtain ⟨b2, hpb2, w1, hww1, h⟩ := M.new_use h
  refine LE.r (v := (Value.pointer (some b2))) (Wn.no rfl) rfl (R.box (cs := #[(Value.int .i64 p0_0), (SV.v p0_1), (Value.int .u32 p0_2), (Value.bool p0_3), (Value.int .u32 p0_4), (Value.bool p0_5), (Value.int .u32 p0_6), (Value.bool p0_7), (SV.v p0_8)]) rfl rfl hpb2 hww1) ?_
  refine LE.p (v := (Value.int .u32 (0 : Int))) (Wn.no rfl) rfl (R.assign rfl) ?_
  refine LE.nil ?_
  refine WE.seq ?_
  refine WE.seq ?_
  refine WE.reg ?_
  refine LE.p (v := (Value.pointer (some (b2.add 5)))) (Wn.no rfl) rfl (R.fld (off := 5) fa32_5 rfl) ?_
  obtain ⟨t3, h4, h⟩ := h
  refine LE.r (v := (Value.bool t3)) (Wn.no rfl) rfl (R.ld sc4 rfl h4) ?_
  refine LE.p (v := (Value.bool (!t3))) (Wn.no rfl) rfl (R.not rfl) ?_
  refine LE.nil ?_
  refine WE.condT rfl (b := (!t3)) rfl ?_ ?_
  · intro hb5
    replace h := M.ite_t h hb5
    refine WE.seq ?_
    refine WE.reg ?_
    refine LE.p (v := (Value.int .u32 (100 : Int))) (Wn.no rfl) rfl (R.assign rfl) ?_
    refine LE.nil ?_
    refine WE.ret ?_
    exact ⟨_, (Res.tmp rfl Res.nil), _, rfl, h⟩
  · intro hb5
    replace h := M.ite_f h hb5
    refine WE.skip ?_
    refine WE.seq ?_
    refine WE.reg ?_
    refine LE.p (v := (Value.pointer (some (b2.add 6)))) (Wn.no rfl) rfl (R.fld (off := 6) fa32_6 rfl) ?_
    obtain ⟨t6, h7, h⟩ := h
    refine LE.r (v := (Value.int .u32 t6)) (Wn.no rfl) rfl (R.ld sc28 rfl h7) ?_
    refine LE.p (v := (Value.int .u32 t6)) (Wn.no rfl) rfl (R.assign rfl) ?_
    refine LE.nil ?_
    refine WE.ret ?_
    exact ⟨_, (Res.tmp rfl Res.nil), _, rfl, h⟩
/-- The formula of signpost.signpostref6.Count. -/
def F16 (p0 : SV) (K : Int → World → Prop) (w0 : World) : Prop :=
M.loop2 (fun (J3 : Int → Int → World → Prop) (x1 : Int) (x2 : Int) (w4 : World) => 
M.ite (decide (x2 < (p0.len : Int))) (
M.idx p0 x2 2 fun a15 =>
M.ld (Value.int .i64) (a15.add (x2.toNat * 2)) w4 fun t19 =>
M.join (fun (x22 : Int) (w32 : World) => 
J3 x22 (IntKind.i64.wrap (x2 + (1 : Int))) w32) fun J21 => 
M.ite (t19 == (1 : Int)) (
J21 (IntKind.i64.wrap (x1 + (1 : Int))) w4) (
M.ite (t19 == (2 : Int)) (
M.idx p0 x2 2 fun a25 =>
M.ld SV.v ((a25.add (x2.toNat * 2)).add 1) w4 fun t29 =>
J21 (IntKind.i64.wrap (x1 + (t29.len : Int))) w4) (
J21 x1 w4))) (
K x1 w4)) (0 : Int) (0 : Int) w0
theorem F16_ok {w0 : World} {p0 : SV} {K : Int → World → Prop} (h : F16 p0 K w0) : Calls Try.prog 16 #[(SV.v p0)] w0 (R16 K) := by
  refine calls_of_WE (args := [(SV.v p0)]) (rs := [.tmp 2]) Try.func16 rfl (N := 31) rfl rfl rfl rfl ?_
  refine WE.seq ?_
  refine WE.reg ?_
  refine LE.p (v := (Value.int .i64 (0 : Int))) (Wn.no rfl) rfl (R.assign rfl) ?_
  refine LE.nil ?_
  refine WE.seq ?_
  refine WE.reg ?_
  refine LE.p (v := (Value.int .i64 (0 : Int))) (Wn.no rfl) rfl (R.assign rfl) ?_
  refine LE.nil ?_
  refine WE.seq ?_
  refine WE.seq ?_
  refine WE.reg ?_
  refine LE.p (v := (Value.int .i64 (0 : Int))) (Wn.no rfl) rfl (R.assign rfl) ?_
  refine LE.nil ?_
  refine WE.block ?_
  obtain ⟨I7, ⟨n6, h⟩, hr8⟩ := h
  refine WE.loop (fun n e w => ∃ (x1 : Int) (x2 : Int), I7 n x1 x2 w ∧ e 0 = (SV.v p0) ∧ e 3 = (Value.int .i64 x1) ∧ e 4 = (Value.int .i64 x2)) n6 ⟨_, _, h, rfl, rfl, rfl⟩ ?_
  clear h
  rintro n6 e5 w4 ⟨x1, x2, h, f11, f12, f13⟩
  replace h := hr8 n6 x1 x2 w4 h
  refine WE.seq ?_
  refine WE.seq ?_
  refine WE.reg ?_
  refine LE.p (v := (Value.int .i64 x2)) (Wn.no rfl) rfl (R.move f13) ?_
  refine LE.p (v := (SV.v p0)) (Wn.no rfl) rfl (R.move f11) ?_
  refine LE.p (v := (Value.int .i64 (p0.len : Int))) (Wn.no rfl) rfl (R.len sl29 rfl) ?_
  refine LE.p (v := (Value.bool (decide (x2 < (p0.len : Int))))) (Wn.no rfl) rfl (R.lss rfl rfl) ?_
  refine LE.nil ?_
  refine WE.condT rfl (b := (decide (x2 < (p0.len : Int)))) rfl ?_ ?_
  · intro hb14
    replace h := M.ite_t h hb14
    refine WE.skip ?_
    refine WE.seq ?_
    refine WE.block ?_
    refine WE.seq ?_
    refine WE.reg ?_
    refine LE.p (v := (SV.v p0)) (Wn.no rfl) rfl (R.move f11) ?_
    refine LE.p (v := (Value.int .i64 x2)) (Wn.no rfl) rfl (R.move f13) ?_
    obtain ⟨a15, h16, h17, h18, h⟩ := h
    refine LE.p (v := (Value.pointer (some (a15.add (x2.toNat * 2))))) (Wn.no rfl) rfl (R.idx (s := p0) sl29 rfl rfl h16 h17 h18) ?_
    refine LE.p (v := (Value.pointer (some (a15.add (x2.toNat * 2))))) (Wn.no rfl) rfl (R.fld (off := 0) fa50_0 rfl) ?_
    obtain ⟨t19, h20, h⟩ := h
    refine LE.r (v := (Value.int .i64 t19)) (Wn.no rfl) rfl (R.ld sc3 rfl h20) ?_
    refine LE.nil ?_
    obtain ⟨J21, hJ21, h⟩ := M.join_use h
    refine WE.blkJ (fun e w => ∃ (x22 : Int), J21 x22 w ∧ e 0 = (SV.v p0) ∧ e 3 = (Value.int .i64 x22) ∧ e 4 = (Value.int .i64 x2)) ?_ ?_
    · clear hJ21
      refine WE.seq ?_
      refine WE.reg ?_
      refine LE.p (v := (Value.bool (t19 == (1 : Int)))) (Wn.no rfl) rfl (R.eql rfl rfl) ?_
      refine LE.p (v := (Value.bool (t19 == (1 : Int)))) (Wn.no rfl) rfl (R.assign rfl) ?_
      refine LE.nil ?_
      refine WE.condT rfl (b := (t19 == (1 : Int))) rfl ?_ ?_
      · intro hb23
        replace h := M.ite_t h hb23
        refine WE.reg ?_
        refine LE.p (v := (Value.int .i64 x1)) (Wn.no rfl) rfl (R.move f12) ?_
        refine LE.p (v := (Value.int .i64 (IntKind.i64.wrap (x1 + (1 : Int))))) (Wn.no rfl) rfl (R.add rfl rfl) ?_
        refine LE.p (v := (Value.int .i64 (IntKind.i64.wrap (x1 + (1 : Int))))) (Wn.no rfl) rfl (R.assign rfl) ?_
        refine LE.nil ?_
        exact ⟨_, h, f11, rfl, f13⟩
      · intro hb23
        replace h := M.ite_f h hb23
        refine WE.seq ?_
        refine WE.reg ?_
        refine LE.p (v := (Value.bool (t19 == (2 : Int)))) (Wn.no rfl) rfl (R.eql rfl rfl) ?_
        refine LE.p (v := (Value.bool (t19 == (2 : Int)))) (Wn.no rfl) rfl (R.assign rfl) ?_
        refine LE.nil ?_
        refine WE.condT rfl (b := (t19 == (2 : Int))) rfl ?_ ?_
        · intro hb24
          replace h := M.ite_t h hb24
          refine WE.reg ?_
          refine LE.p (v := (Value.int .i64 x1)) (Wn.no rfl) rfl (R.move f12) ?_
          refine LE.p (v := (SV.v p0)) (Wn.no rfl) rfl (R.move f11) ?_
          refine LE.p (v := (Value.int .i64 x2)) (Wn.no rfl) rfl (R.move f13) ?_
          obtain ⟨a25, h26, h27, h28, h⟩ := h
          refine LE.p (v := (Value.pointer (some (a25.add (x2.toNat * 2))))) (Wn.no rfl) rfl (R.idx (s := p0) sl29 rfl rfl h26 h27 h28) ?_
          refine LE.p (v := (Value.pointer (some ((a25.add (x2.toNat * 2)).add 1)))) (Wn.no rfl) rfl (R.fld (off := 1) fa50_1 rfl) ?_
          obtain ⟨t29, h30, h⟩ := h
          refine LE.r (v := (SV.v t29)) (Wn.no rfl) rfl (R.ld sc30 rfl h30) ?_
          refine LE.p (v := (Value.int .i64 (t29.len : Int))) (Wn.no rfl) rfl (R.len sl30 rfl) ?_
          refine LE.p (v := (Value.int .i64 (IntKind.i64.wrap (x1 + (t29.len : Int))))) (Wn.no rfl) rfl (R.add rfl rfl) ?_
          refine LE.p (v := (Value.int .i64 (IntKind.i64.wrap (x1 + (t29.len : Int))))) (Wn.no rfl) rfl (R.assign rfl) ?_
          refine LE.nil ?_
          exact ⟨_, h, f11, rfl, f13⟩
        · intro hb24
          replace h := M.ite_f h hb24
          refine WE.skip ?_
          exact ⟨_, h, f11, f12, f13⟩
    · rintro e31 w32 ⟨x22, h, f33, f34, f35⟩
      subst hJ21
      refine WE.reg ?_
      refine LE.p (v := (Value.int .i64 x2)) (Wn.no rfl) rfl (R.move f35) ?_
      refine LE.p (v := (Value.int .i64 (IntKind.i64.wrap (x2 + (1 : Int))))) (Wn.no rfl) rfl (R.add rfl rfl) ?_
      refine LE.p (v := (Value.int .i64 (IntKind.i64.wrap (x2 + (1 : Int))))) (Wn.no rfl) rfl (R.assign rfl) ?_
      refine LE.nil ?_
      obtain ⟨m9, hm10, h⟩ := h
      exact ⟨m9, hm10, _, _, h, f33, f34, rfl⟩
  · intro hb14
    replace h := M.ite_f h hb14
    refine WE.exit ?_
    refine WE.seq ?_
    refine WE.reg ?_
    refine LE.p (v := (Value.int .i64 x1)) (Wn.no rfl) rfl (R.move f12) ?_
    refine LE.p (v := (Value.int .i64 x1)) (Wn.no rfl) rfl (R.assign rfl) ?_
    refine LE.nil ?_
    refine WE.ret ?_
    exact ⟨_, (Res.tmp rfl Res.nil), _, rfl, h⟩
/-- The formula of signpost.decide.Better. -/
def F17 (p0_0 : Int) (p0_1 : Int) (p0_2 : Int) (p0_3 : Bool) (p0_4 : Int) (p0_5 : SV) (p0_6 : Int) (p0_7 : Bool) (p0_8 : Int) (p0_9 : Bool) (p0_10 : Int) (p0_11 : Bool) (p0_12 : SV) (p0_13 : Nat) (p1_0 : Int) (p1_1 : Int) (p1_2 : Int) (p1_3 : Bool) (p1_4 : Int) (p1_5 : SV) (p1_6 : Int) (p1_7 : Bool) (p1_8 : Int) (p1_9 : Bool) (p1_10 : Int) (p1_11 : Bool) (p1_12 : SV) (p1_13 : Nat) (p2 : Int) (K : Bool → World → Prop) (w0 : World) : Prop :=
M.new (.cells #[(Value.int .i64 p0_0), (Value.int .u32 p0_1), (Value.int .u32 p0_2), (Value.bool p0_3), (Value.int .i64 p0_4), (SV.v p0_5), (Value.int .u32 p0_6), (Value.bool p0_7), (Value.int .u32 p0_8), (Value.bool p0_9), (Value.int .u32 p0_10), (Value.bool p0_11), (SV.v p0_12), (Value.float .f64 p0_13)] 37) w0 fun b2 w1 =>
M.new (.cells #[(Value.int .i64 p1_0), (Value.int .u32 p1_1), (Value.int .u32 p1_2), (Value.bool p1_3), (Value.int .i64 p1_4), (SV.v p1_5), (Value.int .u32 p1_6), (Value.bool p1_7), (Value.int .u32 p1_8), (Value.bool p1_9), (Value.int .u32 p1_10), (Value.bool p1_11), (SV.v p1_12), (Value.float .f64 p1_13)] 37) w1 fun b4 w3 =>
∃ (t5 : Int) (t6 : Int) (t7 : Int) (t8 : Bool) (t9 : Int) (t10 : SV) (t11 : Int) (t12 : Bool) (t13 : Int) (t14 : Bool) (t15 : Int) (t16 : Bool) (t17 : SV) (t18 : Nat), Cs w3 b2 0 [(Value.int .i64 t5), (Value.int .u32 t6), (Value.int .u32 t7), (Value.bool t8), (Value.int .i64 t9), (SV.v t10), (Value.int .u32 t11), (Value.bool t12), (Value.int .u32 t13), (Value.bool t14), (Value.int .u32 t15), (Value.bool t16), (SV.v t17), (Value.float .f64 t18)] ∧
∃ (t20 : Int) (t21 : Int) (t22 : Int) (t23 : Bool) (t24 : Int) (t25 : SV) (t26 : Int) (t27 : Bool) (t28 : Int) (t29 : Bool) (t30 : Int) (t31 : Bool) (t32 : SV) (t33 : Nat), Cs w3 b4 0 [(Value.int .i64 t20), (Value.int .u32 t21), (Value.int .u32 t22), (Value.bool t23), (Value.int .i64 t24), (SV.v t25), (Value.int .u32 t26), (Value.bool t27), (Value.int .u32 t28), (Value.bool t29), (Value.int .u32 t30), (Value.bool t31), (SV.v t32), (Value.float .f64 t33)] ∧
M.new (.cells #[(Value.int .i64 t5), (Value.int .u32 t6), (Value.int .u32 t7), (Value.bool t8), (Value.int .i64 t9), (SV.v t10), (Value.int .u32 t11), (Value.bool t12), (Value.int .u32 t13), (Value.bool t14), (Value.int .u32 t15), (Value.bool t16), (SV.v t17), (Value.float .f64 t18), (Value.int .i64 t20), (Value.int .u32 t21), (Value.int .u32 t22), (Value.bool t23), (Value.int .i64 t24), (SV.v t25), (Value.int .u32 t26), (Value.bool t27), (Value.int .u32 t28), (Value.bool t29), (Value.int .u32 t30), (Value.bool t31), (SV.v t32), (Value.float .f64 t33)] 37) w3 fun b37 w35 =>
Calls Try.prog 12 #[(SV.v (SV.mk (some b37) 2 2)), (Value.int .i64 p2)] w35 (R12 fun r38 w39 =>
M.join (fun (x41 : Bool) (w50 : World) => 
K x41 w50) fun J40 => 
M.ite ((r38.len : Int) == (1 : Int)) (
M.idx r38 (0 : Int) 1 fun a43 =>
M.ld (Value.int .i64) (a43.add ((0 : Int).toNat * 1)) w39 fun t47 =>
J40 (t47 == (0 : Int)) w39) (
J40 false w39))
theorem F17_ok {w0 : World} {p0_0 : Int} {p0_1 : Int} {p0_2 : Int} {p0_3 : Bool} {p0_4 : Int} {p0_5 : SV} {p0_6 : Int} {p0_7 : Bool} {p0_8 : Int} {p0_9 : Bool} {p0_10 : Int} {p0_11 : Bool} {p0_12 : SV} {p0_13 : Nat} {p1_0 : Int} {p1_1 : Int} {p1_2 : Int} {p1_3 : Bool} {p1_4 : Int} {p1_5 : SV} {p1_6 : Int} {p1_7 : Bool} {p1_8 : Int} {p1_9 : Bool} {p1_10 : Int} {p1_11 : Bool} {p1_12 : SV} {p1_13 : Nat} {p2 : Int} {K : Bool → World → Prop} (h : F17 p0_0 p0_1 p0_2 p0_3 p0_4 p0_5 p0_6 p0_7 p0_8 p0_9 p0_10 p0_11 p0_12 p0_13 p1_0 p1_1 p1_2 p1_3 p1_4 p1_5 p1_6 p1_7 p1_8 p1_9 p1_10 p1_11 p1_12 p1_13 p2 K w0) : Calls Try.prog 17 #[(Value.agg #[(Value.int .i64 p0_0), (Value.int .u32 p0_1), (Value.int .u32 p0_2), (Value.bool p0_3), (Value.int .i64 p0_4), (SV.v p0_5), (Value.int .u32 p0_6), (Value.bool p0_7), (Value.int .u32 p0_8), (Value.bool p0_9), (Value.int .u32 p0_10), (Value.bool p0_11), (SV.v p0_12), (Value.float .f64 p0_13)]), (Value.agg #[(Value.int .i64 p1_0), (Value.int .u32 p1_1), (Value.int .u32 p1_2), (Value.bool p1_3), (Value.int .i64 p1_4), (SV.v p1_5), (Value.int .u32 p1_6), (Value.bool p1_7), (Value.int .u32 p1_8), (Value.bool p1_9), (Value.int .u32 p1_10), (Value.bool p1_11), (SV.v p1_12), (Value.float .f64 p1_13)]), (Value.int .i64 p2)] w0 (R17 K) := by
  refine calls_of_WE (args := [(Value.agg #[(Value.int .i64 p0_0), (Value.int .u32 p0_1), (Value.int .u32 p0_2), (Value.bool p0_3), (Value.int .i64 p0_4), (SV.v p0_5), (Value.int .u32 p0_6), (Value.bool p0_7), (Value.int .u32 p0_8), (Value.bool p0_9), (Value.int .u32 p0_10), (Value.bool p0_11), (SV.v p0_12), (Value.float .f64 p0_13)]), (Value.agg #[(Value.int .i64 p1_0), (Value.int .u32 p1_1), (Value.int .u32 p1_2), (Value.bool p1_3), (Value.int .i64 p1_4), (SV.v p1_5), (Value.int .u32 p1_6), (Value.bool p1_7), (Value.int .u32 p1_8), (Value.bool p1_9), (Value.int .u32 p1_10), (Value.bool p1_11), (SV.v p1_12), (Value.float .f64 p1_13)]), (Value.int .i64 p2)]) (rs := [.tmp 6]) Try.func17 rfl (N := 22) rfl rfl rfl rfl ?_
  refine WE.seq ?_
  refine WE.reg ?_
  obtain ⟨b2, hpb2, w1, hww1, h⟩ := M.new_use h
  refine LE.r (v := (Value.pointer (some b2))) (Wn.no rfl) rfl (R.box (cs := #[(Value.int .i64 p0_0), (Value.int .u32 p0_1), (Value.int .u32 p0_2), (Value.bool p0_3), (Value.int .i64 p0_4), (SV.v p0_5), (Value.int .u32 p0_6), (Value.bool p0_7), (Value.int .u32 p0_8), (Value.bool p0_9), (Value.int .u32 p0_10), (Value.bool p0_11), (SV.v p0_12), (Value.float .f64 p0_13)]) rfl rfl hpb2 hww1) ?_
  obtain ⟨b4, hpb4, w3, hww3, h⟩ := M.new_use h
  refine LE.r (v := (Value.pointer (some b4))) (Wn.no rfl) rfl (R.box (cs := #[(Value.int .i64 p1_0), (Value.int .u32 p1_1), (Value.int .u32 p1_2), (Value.bool p1_3), (Value.int .i64 p1_4), (SV.v p1_5), (Value.int .u32 p1_6), (Value.bool p1_7), (Value.int .u32 p1_8), (Value.bool p1_9), (Value.int .u32 p1_10), (Value.bool p1_11), (SV.v p1_12), (Value.float .f64 p1_13)]) rfl rfl hpb4 hww3) ?_
  refine LE.p (v := (Value.bool false)) (Wn.no rfl) rfl (R.assign rfl) ?_
  refine LE.nil ?_
  refine WE.seq ?_
  refine WE.reg ?_
  obtain ⟨t5, t6, t7, t8, t9, t10, t11, t12, t13, t14, t15, t16, t17, t18, h19, h⟩ := h
  refine LE.r (v := (Value.agg #[(Value.int .i64 t5), (Value.int .u32 t6), (Value.int .u32 t7), (Value.bool t8), (Value.int .i64 t9), (SV.v t10), (Value.int .u32 t11), (Value.bool t12), (Value.int .u32 t13), (Value.bool t14), (Value.int .u32 t15), (Value.bool t16), (SV.v t17), (Value.float .f64 t18)])) (Wn.no rfl) rfl (R.ldA ag37 sz37 rfl rfl h19) ?_
  obtain ⟨t20, t21, t22, t23, t24, t25, t26, t27, t28, t29, t30, t31, t32, t33, h34, h⟩ := h
  refine LE.r (v := (Value.agg #[(Value.int .i64 t20), (Value.int .u32 t21), (Value.int .u32 t22), (Value.bool t23), (Value.int .i64 t24), (SV.v t25), (Value.int .u32 t26), (Value.bool t27), (Value.int .u32 t28), (Value.bool t29), (Value.int .u32 t30), (Value.bool t31), (SV.v t32), (Value.float .f64 t33)])) (Wn.no rfl) rfl (R.ldA ag37 sz37 rfl rfl h34) ?_
  obtain ⟨b37, hpb37, w35, hww35, h⟩ := M.new_use h
  refine LE.r (v := (SV.v (SV.mk (some b37) 2 2))) (Wn.no rfl) rfl (R.bsl (by exact (Ls.cons (R.Pr rfl) (Ls.cons (R.Pr rfl) Ls.nil))) (fun w => bs24_2 t5 t6 t7 t8 t9 t10 t11 t12 t13 t14 t15 t16 t17 t18 t20 t21 t22 t23 t24 t25 t26 t27 t28 t29 t30 t31 t32 t33 w) hpb37 hww35) ?_
  refine LE.p (v := (Value.int .i64 p2)) (Wn.no rfl) rfl (R.move rfl) ?_
  refine LE.c (Wn.no rfl) rfl (R.call bd12 (Ls.cons rfl (Ls.cons rfl Ls.nil)) rfl) (Calls.mono h ?_)
  rintro _ w39 ⟨r38, rfl, h⟩
  refine ⟨_, rfl, ?_⟩
  refine LE.p (v := (SV.v r38)) (Wn.no rfl) rfl (R.assign rfl) ?_
  refine LE.nil ?_
  refine WE.seq ?_
  obtain ⟨J40, hJ40, h⟩ := M.join_use h
  refine WE.regJ (fun e w => ∃ (x41 : Bool), J40 x41 w ∧ e 6 = (Value.bool x41)) ?_ ?_
  · clear hJ40
    refine LE.p (v := (SV.v r38)) (Wn.no rfl) rfl (R.move rfl) ?_
    refine LE.p (v := (Value.int .i64 (r38.len : Int))) (Wn.no rfl) rfl (R.len sl38 rfl) ?_
    refine LE.p (v := (Value.bool ((r38.len : Int) == (1 : Int)))) (Wn.no rfl) rfl (R.eql rfl rfl) ?_
    refine LE.p (v := (Value.bool ((r38.len : Int) == (1 : Int)))) (Wn.no rfl) rfl (R.move rfl) ?_
    rcases M.ite_use h with ⟨hb42, h⟩ | ⟨hb42, h⟩
    · refine LE.p (v := (SV.v r38)) (Wn.yes 3 16 true rfl rfl rfl (congrArg Value.bool hb42)) rfl (R.move rfl) ?_
      obtain ⟨a43, h44, h45, h46, h⟩ := h
      refine LE.p (v := (Value.pointer (some (a43.add ((0 : Int).toNat * 1))))) (Wn.yes 3 16 true rfl rfl rfl (congrArg Value.bool hb42)) rfl (R.idx (s := r38) sl38 rfl rfl h44 h45 h46) ?_
      obtain ⟨t47, h48, h⟩ := h
      refine LE.r (v := (Value.int .i64 t47)) (Wn.yes 3 16 true rfl rfl rfl (congrArg Value.bool hb42)) rfl (R.ld sc3 rfl h48) ?_
      refine LE.p (v := (Value.bool (t47 == (0 : Int)))) (Wn.yes 3 16 true rfl rfl rfl (congrArg Value.bool hb42)) rfl (R.eql rfl rfl) ?_
      refine LE.p (v := (Value.bool (t47 == (0 : Int)))) (Wn.no rfl) rfl (R.pickT (congrArg Value.bool hb42) rfl) ?_
      refine LE.p (v := (Value.bool (t47 == (0 : Int)))) (Wn.no rfl) rfl (R.assign rfl) ?_
      refine LE.nil ?_
      exact ⟨_, h, rfl⟩
    · refine LE.u (Un.no 3 16 true rfl rfl rfl (congrArg Value.bool hb42)) ?_
      refine LE.u (Un.no 3 16 true rfl rfl rfl (congrArg Value.bool hb42)) ?_
      refine LE.u (Un.no 3 16 true rfl rfl rfl (congrArg Value.bool hb42)) ?_
      refine LE.u (Un.no 3 16 true rfl rfl rfl (congrArg Value.bool hb42)) ?_
      refine LE.p (v := (Value.bool false)) (Wn.no rfl) rfl (R.pickF (congrArg Value.bool hb42) rfl) ?_
      refine LE.p (v := (Value.bool false)) (Wn.no rfl) rfl (R.assign rfl) ?_
      refine LE.nil ?_
      exact ⟨_, h, rfl⟩
  · rintro e49 w50 ⟨x41, h, f51⟩
    subst hJ40
    refine WE.ret ?_
    exact ⟨_, (Res.tmp f51 Res.nil), _, rfl, h⟩
/-- The formula of math.NaN. -/
def F18  (K : Nat → World → Prop) (w0 : World) : Prop :=
K (Int.toNat (9221120237041090561 : Int)) w0
theorem F18_ok {w0 : World}  {K : Nat → World → Prop} (h : F18 K w0) : Calls Try.prog 18 #[] w0 (R18 K) := by
  refine calls_of_WE (args := []) (rs := [.tmp 0]) Try.func18 rfl (N := 2) rfl rfl rfl rfl ?_
  refine WE.seq ?_
  refine WE.reg ?_
  refine LE.p (v := (Value.float .f64 (0 : Nat))) (Wn.no rfl) rfl (R.assign rfl) ?_
  refine LE.nil ?_
  refine WE.seq ?_
  refine WE.reg ?_
  refine LE.p (v := (Value.float .f64 (Int.toNat (9221120237041090561 : Int)))) (Wn.no rfl) rfl (R.callx (xt29 (9221120237041090561 : Int)) (Ls.cons rfl Ls.nil) rfl) ?_
  refine LE.p (v := (Value.float .f64 (Int.toNat (9221120237041090561 : Int)))) (Wn.no rfl) rfl (R.assign rfl) ?_
  refine LE.nil ?_
  refine WE.ret ?_
  exact ⟨_, (Res.tmp rfl Res.nil), _, rfl, h⟩
/-- The formula of math.Inf. -/
def F19 (p0 : Int) (K : Nat → World → Prop) (w0 : World) : Prop :=
M.join (fun (x2 : Int) (w5 : World) => 
K (Int.toNat x2) w5) fun J1 => 
M.ite (decide ((0 : Int) ≤ p0)) (
J1 (9218868437227405312 : Int) w0) (
J1 (18442240474082181120 : Int) w0)
theorem F19_ok {w0 : World} {p0 : Int} {K : Nat → World → Prop} (h : F19 p0 K w0) : Calls Try.prog 19 #[(Value.int .i64 p0)] w0 (R19 K) := by
  refine calls_of_WE (args := [(Value.int .i64 p0)]) (rs := [.tmp 2]) Try.func19 rfl (N := 8) rfl rfl rfl rfl ?_
  refine WE.seq ?_
  refine WE.reg ?_
  refine LE.p (v := (Value.float .f64 (0 : Nat))) (Wn.no rfl) rfl (R.assign rfl) ?_
  refine LE.nil ?_
  refine WE.seq ?_
  refine WE.reg ?_
  refine LE.p (v := (Value.int .u64 (0 : Int))) (Wn.no rfl) rfl (R.assign rfl) ?_
  refine LE.nil ?_
  obtain ⟨J1, hJ1, h⟩ := M.join_use h
  refine WE.join (fun e w => ∃ (x2 : Int), J1 x2 w ∧ e 3 = (Value.int .u64 x2)) ?_ ?_
  · clear hJ1
    refine WE.seq ?_
    refine WE.reg ?_
    refine LE.p (v := (Value.int .i64 p0)) (Wn.no rfl) rfl (R.move rfl) ?_
    refine LE.p (v := (Value.bool (decide ((0 : Int) ≤ p0)))) (Wn.no rfl) rfl (R.geq rfl rfl) ?_
    refine LE.nil ?_
    refine WE.condT rfl (b := (decide ((0 : Int) ≤ p0))) rfl ?_ ?_
    · intro hb3
      replace h := M.ite_t h hb3
      refine WE.reg ?_
      refine LE.p (v := (Value.int .u64 (9218868437227405312 : Int))) (Wn.no rfl) rfl (R.assign rfl) ?_
      refine LE.nil ?_
      exact ⟨_, h, rfl⟩
    · intro hb3
      replace h := M.ite_f h hb3
      refine WE.reg ?_
      refine LE.p (v := (Value.int .u64 (18442240474082181120 : Int))) (Wn.no rfl) rfl (R.assign rfl) ?_
      refine LE.nil ?_
      exact ⟨_, h, rfl⟩
  · rintro e4 w5 ⟨x2, h, f6⟩
    subst hJ1
    refine WE.seq ?_
    refine WE.reg ?_
    refine LE.p (v := (Value.int .u64 x2)) (Wn.no rfl) rfl (R.move f6) ?_
    refine LE.p (v := (Value.float .f64 (Int.toNat x2))) (Wn.no rfl) rfl (R.callx (xt29 x2) (Ls.cons rfl Ls.nil) rfl) ?_
    refine LE.p (v := (Value.float .f64 (Int.toNat x2))) (Wn.no rfl) rfl (R.assign rfl) ?_
    refine LE.nil ?_
    refine WE.ret ?_
    exact ⟨_, (Res.tmp rfl Res.nil), _, rfl, h⟩
/-- The formula of math.Copysign. -/
def F20 (p0 : Nat) (p1 : Nat) (K : Nat → World → Prop) (w0 : World) : Prop :=
K (Int.toNat (bOr .u64 (bAndNot .u64 (p0 : Int) (9223372036854775808 : Int)) (bAnd .u64 (p1 : Int) (9223372036854775808 : Int)))) w0
theorem F20_ok {w0 : World} {p0 : Nat} {p1 : Nat} {K : Nat → World → Prop} (h : F20 p0 p1 K w0) : Calls Try.prog 20 #[(Value.float .f64 p0), (Value.float .f64 p1)] w0 (R20 K) := by
  refine calls_of_WE (args := [(Value.float .f64 p0), (Value.float .f64 p1)]) (rs := [.tmp 4]) Try.func20 rfl (N := 13) rfl rfl rfl rfl ?_
  refine WE.seq ?_
  refine WE.reg ?_
  refine LE.p (v := (Value.float .f64 (0 : Nat))) (Wn.no rfl) rfl (R.assign rfl) ?_
  refine LE.nil ?_
  refine WE.seq ?_
  refine WE.reg ?_
  refine LE.p (v := (Value.float .f64 p0)) (Wn.no rfl) rfl (R.move rfl) ?_
  refine LE.p (v := (Value.int .u64 (p0 : Int))) (Wn.no rfl) rfl (R.callx (xt30 p0) (Ls.cons rfl Ls.nil) rfl) ?_
  refine LE.p (v := (Value.int .u64 (bAndNot .u64 (p0 : Int) (9223372036854775808 : Int)))) (Wn.no rfl) rfl (R.andNot rfl rfl) ?_
  refine LE.p (v := (Value.float .f64 p1)) (Wn.no rfl) rfl (R.move rfl) ?_
  refine LE.p (v := (Value.int .u64 (p1 : Int))) (Wn.no rfl) rfl (R.callx (xt30 p1) (Ls.cons rfl Ls.nil) rfl) ?_
  refine LE.p (v := (Value.int .u64 (bAnd .u64 (p1 : Int) (9223372036854775808 : Int)))) (Wn.no rfl) rfl (R.and rfl rfl) ?_
  refine LE.p (v := (Value.int .u64 (bOr .u64 (bAndNot .u64 (p0 : Int) (9223372036854775808 : Int)) (bAnd .u64 (p1 : Int) (9223372036854775808 : Int))))) (Wn.no rfl) rfl (R.or rfl rfl) ?_
  refine LE.p (v := (Value.float .f64 (Int.toNat (bOr .u64 (bAndNot .u64 (p0 : Int) (9223372036854775808 : Int)) (bAnd .u64 (p1 : Int) (9223372036854775808 : Int)))))) (Wn.no rfl) rfl (R.callx (xt29 (bOr .u64 (bAndNot .u64 (p0 : Int) (9223372036854775808 : Int)) (bAnd .u64 (p1 : Int) (9223372036854775808 : Int)))) (Ls.cons rfl Ls.nil) rfl) ?_
  refine LE.p (v := (Value.float .f64 (Int.toNat (bOr .u64 (bAndNot .u64 (p0 : Int) (9223372036854775808 : Int)) (bAnd .u64 (p1 : Int) (9223372036854775808 : Int)))))) (Wn.no rfl) rfl (R.assign rfl) ?_
  refine LE.nil ?_
  refine WE.ret ?_
  exact ⟨_, (Res.tmp rfl Res.nil), _, rfl, h⟩
end Go.Proofs.Ytmgigplbclkpaaa
