/-
  Printed by gen.py: the formula of each function, and that it holds of the function.
-/
import Derived.Test.YtjjjomeemfmihaaTy
namespace Go.Proofs.Ytjjjomeemfmihaa
set_option linter.unusedVariables false
set_option linter.unusedSimpArgs false
open Go.Sp
set_option linter.unusedVariables false
/-- The formula of signpost.signpostlaw3.TrieBack. -/
def F6 (p0 : SV) (p1 : SV) (p2 : Int) (K : Bool → World → Prop) (w0 : World) : Prop :=
Calls Try.prog 10 #[] w0 (R10 fun r1 w2 =>
M.ite (Option.isNone r1) (
K false w2) (
M.loop1 (fun (J5 : Int → World → Prop) (x4 : Int) (w6 : World) => 
M.join (fun (x19 : Bool) (w22 : World) => 
M.ite x19 (
M.drew w22 fun w30 => 
M.idx p0 x4 5 fun a31 =>
M.idx p0 x4 5 fun a35 =>
M.ld (Value.int .u32) ((a31.add (x4.toNat * 5)).add 3) w30 fun t39 =>
M.ld (Value.int .i64) ((a35.add (x4.toNat * 5)).add 1) w30 fun t41 =>
Calls Try.prog 11 #[(Value.int .u32 t39), (Value.int .i64 t41)] w30 (R11 fun r43 r44 w45 =>
Calls Try.prog 12 #[(Value.pointer r1), (Value.agg #[(Value.int .u32 r43), (Value.int .i64 r44)]), (Value.int .i64 x4)] w45 (R12 fun r46 w47 =>
J5 (IntKind.i64.wrap (x4 + (1 : Int))) w47))) (
Calls Try.prog 14 #[(Value.pointer r1)] w22 (R14 fun r48 w49 =>
Calls Try.prog 20 #[(Value.pointer r1), (Value.int .u32 (bOr .u32 (167772160 : Int) (Int.tmod p2 (33554432 : Int))))] w49 (R20 fun r50 r51 r52 r53 w54 =>
M.new (.cells #[(Value.int .u32 (0 : Int)), (Value.int .i64 (0 : Int))] 27) w54 fun b56 w55 =>
M.stA b56 [(Value.int .u32 r50), (Value.int .i64 r51)] w55 fun w57 =>
M.loop2 (fun (J61 : SV → Int → World → Prop) (x59 : SV) (x60 : Int) (w62 : World) => 
M.join (fun (x79 : Bool) (w82 : World) => 
M.ite x79 (
M.join (fun (x95 : SV) (w189 : World) => 
J61 x95 (IntKind.i64.wrap (x60 + (1 : Int))) w189) fun J94 => 
M.join (fun (x97 : Addr) (w130 : World) => 
M.ld (Value.int .u32) x97 w130 fun t141 =>
M.ld (Value.int .i64) (x97.add 1) w130 fun t143 =>
Calls Try.prog 15 #[(Value.pointer r1), (Value.agg #[(Value.int .u32 t141), (Value.int .i64 t143)])] w130 (R15 fun r145 r146 w147 =>
M.ite (!r146) (
M.join (fun (x150 : Bool) (w165 : World) => 
M.ite x150 (
K false w165) (
M.ld (Value.int .u32) x97 w165 fun t178 =>
M.ld (Value.int .i64) (x97.add 1) w165 fun t180 =>
M.new (.cells #[(Value.int .u32 t178), (Value.int .i64 t180)] 27) w165 fun b184 w182 =>
M.app Try.prog 33 33 33 x59 (SV.v (SV.mk (some b184) 1 1)) w182 fun s185 w186 =>
J94 s185 w186)) fun J149 => 
M.ld (Value.int .u32) x97 w147 fun t151 =>
M.ld (Value.int .i64) (x97.add 1) w147 fun t153 =>
Calls Try.prog 12 #[(Value.pointer r1), (Value.agg #[(Value.int .u32 t151), (Value.int .i64 t153)]), (Value.int .i64 (99 : Int))] w147 (R12 fun r155 w156 =>
M.ite (!r155) (
J149 true w156) (
M.ld (Value.int .u32) x97 w156 fun t158 =>
M.ld (Value.int .i64) (x97.add 1) w156 fun t160 =>
Calls Try.prog 12 #[(Value.pointer r1), (Value.agg #[(Value.int .u32 t158), (Value.int .i64 t160)]), (Value.int .i64 (98 : Int))] w156 (R12 fun r162 w163 =>
J149 r162 w163)))) (
J94 x59 w147))) fun J96 => 
M.drew w82 fun w98 => 
M.idx p1 x60 5 fun a99 =>
M.idx p1 x60 5 fun a103 =>
M.ld (Value.int .u32) ((a99.add (x60.toNat * 5)).add 3) w98 fun t107 =>
M.ld (Value.int .i64) ((a103.add (x60.toNat * 5)).add 1) w98 fun t109 =>
M.both (
Calls Try.prog 11 #[(Value.int .u32 t107), (Value.int .i64 t109)] w98 (R11 fun r111 r112 w113 =>
M.new (.cells #[(Value.int .u32 (0 : Int)), (Value.int .i64 (0 : Int))] 27) w113 fun b115 w114 =>
M.keep (w114.cell? ((a103.add (x60.toNat * 5)).add 1) = some (Value.int .i64 t109)) <|
M.keep (w114.cell? ((a99.add (x60.toNat * 5)).add 3) = some (Value.int .u32 t107)) <|
M.stA b115 [(Value.int .u32 r111), (Value.int .i64 r112)] w114 fun w118 =>
J96 b115 w118)) (
M.new (.cells #[(Value.int .u32 (0 : Int)), (Value.int .i64 (0 : Int))] 27) w98 fun b121 w120 =>
M.keep (w120.cell? ((a103.add (x60.toNat * 5)).add 1) = some (Value.int .i64 t109)) <|
M.keep (w120.cell? ((a99.add (x60.toNat * 5)).add 3) = some (Value.int .u32 t107)) <|
Calls Try.prog 11 #[(Value.int .u32 t107), (Value.int .i64 t109)] w120 (R11 fun r124 r125 w126 =>
M.stA b121 [(Value.int .u32 r124), (Value.int .i64 r125)] w126 fun w127 =>
J96 b121 w127))) (
Calls Try.prog 18 #[(Value.pointer r1)] w82 (R18 fun r199 w200 =>
M.ite (r199 != (IntKind.i64.wrap ((r48.len : Int) + (x59.len : Int)))) (
K false w200) (
M.loop1 (fun (J203 : Int → World → Prop) (x202 : Int) (w204 : World) => 
M.ite (decide ((0 : Int) ≤ x202)) (
M.join (fun (x221 : Bool) (w244 : World) => 
M.ite x221 (
K false w244) (
J203 (IntKind.i64.wrap (x202 - (1 : Int))) w244)) fun J220 => 
M.idx x59 x202 2 fun a222 =>
M.ld (Value.int .u32) (a222.add (x202.toNat * 2)) w204 fun t226 =>
M.ld (Value.int .i64) ((a222.add (x202.toNat * 2)).add 1) w204 fun t228 =>
Calls Try.prog 25 #[(Value.pointer r1), (Value.agg #[(Value.int .u32 t226), (Value.int .i64 t228)])] w204 (R25 fun r230 w231 =>
M.ite (!r230) (
J220 true w231) (
M.idx x59 x202 2 fun a233 =>
M.ld (Value.int .u32) (a233.add (x202.toNat * 2)) w231 fun t237 =>
M.ld (Value.int .i64) ((a233.add (x202.toNat * 2)).add 1) w231 fun t239 =>
Calls Try.prog 25 #[(Value.pointer r1), (Value.agg #[(Value.int .u32 t237), (Value.int .i64 t239)])] w231 (R25 fun r241 w242 =>
J220 r241 w242)))) (
Calls Try.prog 20 #[(Value.pointer r1), (Value.int .u32 (bOr .u32 (167772160 : Int) (Int.tmod p2 (33554432 : Int))))] w204 (R20 fun r255 r256 r257 r258 w259 =>
M.new (.cells #[(Value.int .u32 (0 : Int)), (Value.int .i64 (0 : Int))] 27) w259 fun b261 w260 =>
M.stA b261 [(Value.int .u32 r255), (Value.int .i64 r256)] w260 fun w262 =>
M.join (fun (x265 : Bool) (w285 : World) => 
K x265 w285) fun J264 => 
Calls Try.prog 14 #[(Value.pointer r1)] w262 (R14 fun r266 w267 =>
Calls Try.prog 17 #[(SV.v r266), (SV.v r48)] w267 (R17 fun r268 w269 =>
M.ite r268 (
M.ld (Value.int .u32) b261 w269 fun t271 =>
M.ld (Value.int .i64) (b261.add 1) w269 fun t273 =>
M.ld (Value.int .u32) b56 w269 fun t275 =>
M.ld (Value.int .i64) (b56.add 1) w269 fun t277 =>
M.ite ((t271 == t275) && (t273 == t277)) (
M.ite (r257 == r52) (
M.ite (r258 == r53) (
Calls Try.prog 19 #[] w269 (R19 fun r282 w283 =>
J264 r282 w283)) (
J264 false w269)) (
J264 false w269)) (
J264 false w269)) (
J264 false w269)))))) (IntKind.i64.wrap ((x59.len : Int) - (1 : Int))) w200)))) fun J78 => 
M.ite (decide (x60 < (p1.len : Int))) (
J78 (decide (x60 < (30 : Int))) w62) (
J78 false w62)) SV.nil (0 : Int) w57)))) fun J18 => 
M.ite (decide (x4 < (p0.len : Int))) (
J18 (decide (x4 < (40 : Int))) w6) (
J18 false w6)) (0 : Int) w2))
theorem F6_ok {w0 : World} {p0 : SV} {p1 : SV} {p2 : Int} {K : Bool → World → Prop} (h : F6 p0 p1 p2 K w0) : Calls Try.prog 6 #[(SV.v p0), (SV.v p1), (Value.int .u32 p2)] w0 (R6 K) := by
  refine calls_of_WE (args := [(SV.v p0), (SV.v p1), (Value.int .u32 p2)]) (rs := [.tmp 6]) Try.func6 rfl (N := 162) rfl rfl rfl rfl ?_
  refine WE.seq ?_
  refine WE.reg ?_
  refine LE.p (v := (Value.bool false)) (Wn.no rfl) rfl (R.assign rfl) ?_
  refine LE.nil ?_
  refine WE.seq ?_
  refine WE.reg ?_
  refine LE.c (Wn.no rfl) rfl (R.call bd10 Ls.nil rfl) (Calls.mono h ?_)
  rintro _ w2 ⟨r1, rfl, h⟩
  refine ⟨_, rfl, ?_⟩
  refine LE.p (v := (Value.pointer r1)) (Wn.no rfl) rfl (R.assign rfl) ?_
  refine LE.nil ?_
  refine WE.seq ?_
  refine WE.seq ?_
  refine WE.reg ?_
  refine LE.p (v := (Value.pointer r1)) (Wn.no rfl) rfl (R.move rfl) ?_
  refine LE.p (v := (Value.bool (Option.isNone r1))) (Wn.no rfl) rfl (R.peqNil pt23 rfl rfl) ?_
  refine LE.nil ?_
  refine WE.condT rfl (b := (Option.isNone r1)) rfl ?_ ?_
  · intro hb3
    replace h := M.ite_t h hb3
    refine WE.seq ?_
    refine WE.reg ?_
    refine LE.p (v := (Value.bool false)) (Wn.no rfl) rfl (R.assign rfl) ?_
    refine LE.nil ?_
    refine WE.ret ?_
    exact ⟨_, (Res.tmp rfl Res.nil), _, rfl, h⟩
  · intro hb3
    replace h := M.ite_f h hb3
    refine WE.skip ?_
    refine WE.seq ?_
    refine WE.seq ?_
    refine WE.reg ?_
    refine LE.p (v := (Value.int .i64 (0 : Int))) (Wn.no rfl) rfl (R.assign rfl) ?_
    refine LE.nil ?_
    refine WE.block ?_
    obtain ⟨I9, ⟨n8, h⟩, hr10⟩ := h
    refine WE.loop (fun n e w => ∃ (x4 : Int), I9 n x4 w ∧ e 0 = (SV.v p0) ∧ e 1 = (SV.v p1) ∧ e 2 = (Value.int .u32 p2) ∧ e 7 = (Value.pointer r1) ∧ e 8 = (Value.int .i64 x4)) n8 ⟨_, h, rfl, rfl, rfl, rfl, rfl⟩ ?_
    clear h
    rintro n8 e7 w6 ⟨x4, h, f13, f14, f15, f16, f17⟩
    replace h := hr10 n8 x4 w6 h
    refine WE.seq ?_
    refine WE.seq ?_
    obtain ⟨J18, hJ18, h⟩ := M.join_use h
    refine WE.regJ (fun e w => ∃ (x19 : Bool), J18 x19 w ∧ e 0 = (SV.v p0) ∧ e 1 = (SV.v p1) ∧ e 2 = (Value.int .u32 p2) ∧ e 7 = (Value.pointer r1) ∧ e 8 = (Value.int .i64 x4) ∧ e 32 = (Value.bool x19)) ?_ ?_
    · clear hJ18
      refine LE.p (v := (Value.int .i64 x4)) (Wn.no rfl) rfl (R.move f17) ?_
      refine LE.p (v := (SV.v p0)) (Wn.no rfl) rfl (R.move f13) ?_
      refine LE.p (v := (Value.int .i64 (p0.len : Int))) (Wn.no rfl) rfl (R.len sl22 rfl) ?_
      refine LE.p (v := (Value.bool (decide (x4 < (p0.len : Int))))) (Wn.no rfl) rfl (R.lss rfl rfl) ?_
      refine LE.p (v := (Value.bool (decide (x4 < (p0.len : Int))))) (Wn.no rfl) rfl (R.move rfl) ?_
      rcases M.ite_use h with ⟨hb20, h⟩ | ⟨hb20, h⟩
      · refine LE.p (v := (Value.int .i64 x4)) (Wn.yes 4 29 true rfl rfl rfl (congrArg Value.bool hb20)) rfl (R.move f17) ?_
        refine LE.p (v := (Value.bool (decide (x4 < (40 : Int))))) (Wn.yes 4 29 true rfl rfl rfl (congrArg Value.bool hb20)) rfl (R.lss rfl rfl) ?_
        refine LE.p (v := (Value.bool (decide (x4 < (40 : Int))))) (Wn.no rfl) rfl (R.pickT (congrArg Value.bool hb20) rfl) ?_
        refine LE.nil ?_
        exact ⟨_, h, f13, f14, f15, f16, f17, rfl⟩
      · refine LE.u (Un.no 4 29 true rfl rfl rfl (congrArg Value.bool hb20)) ?_
        refine LE.u (Un.no 4 29 true rfl rfl rfl (congrArg Value.bool hb20)) ?_
        refine LE.p (v := (Value.bool false)) (Wn.no rfl) rfl (R.pickF (congrArg Value.bool hb20) rfl) ?_
        refine LE.nil ?_
        exact ⟨_, h, f13, f14, f15, f16, f17, rfl⟩
    · rintro e21 w22 ⟨x19, h, f23, f24, f25, f26, f27, f28⟩
      subst hJ18
      refine WE.condT rfl (b := x19) f28 ?_ ?_
      · intro hb29
        replace h := M.ite_t h hb29
        refine WE.skip ?_
        refine WE.seq ?_
        refine WE.block ?_
        refine WE.draw mix ?_
        obtain ⟨w30, hww30, h⟩ := M.drew_use h
        rw [← hww30]
        clear hww30
        refine DE.t 0 (v := (Value.pointer r1)) rfl (by kernel_rfl) (Wn.no rfl) rfl (R.move f26) ?_
        refine DE.t 1 (v := (SV.v p0)) rfl (by kernel_rfl) (Wn.no rfl) rfl (R.move f23) ?_
        refine DE.t 2 (v := (Value.int .i64 x4)) rfl (by kernel_rfl) (Wn.no rfl) rfl (R.move f27) ?_
        obtain ⟨a31, h32, h33, h34, h⟩ := h
        refine DE.t 3 (v := (Value.pointer (some (a31.add (x4.toNat * 5))))) rfl (by kernel_rfl) (Wn.no rfl) rfl (R.idx (s := p0) sl22 rfl rfl h32 h33 h34) ?_
        refine DE.t 4 (v := (Value.pointer (some ((a31.add (x4.toNat * 5)).add 3)))) rfl (by kernel_rfl) (Wn.no rfl) rfl (R.fld (off := 3) fa30_3 rfl) ?_
        refine DE.t 6 (v := (SV.v p0)) rfl (by kernel_rfl) (Wn.no rfl) rfl (R.move f23) ?_
        refine DE.t 7 (v := (Value.int .i64 x4)) rfl (by kernel_rfl) (Wn.no rfl) rfl (R.move f27) ?_
        obtain ⟨a35, h36, h37, h38, h⟩ := h
        refine DE.t 8 (v := (Value.pointer (some (a35.add (x4.toNat * 5))))) rfl (by kernel_rfl) (Wn.no rfl) rfl (R.idx (s := p0) sl22 rfl rfl h36 h37 h38) ?_
        refine DE.t 9 (v := (Value.pointer (some ((a35.add (x4.toNat * 5)).add 1)))) rfl (by kernel_rfl) (Wn.no rfl) rfl (R.fld (off := 1) fa30_1 rfl) ?_
        refine DE.t 12 (v := (Value.int .i64 x4)) rfl (by kernel_rfl) (Wn.no rfl) rfl (R.move f27) ?_
        obtain ⟨t39, h40, h⟩ := h
        refine DE.hold 5 (fun w => w.cell? ((a31.add (x4.toNat * 5)).add 3) = some (Value.int .u32 t39)) (v := (Value.int .u32 t39)) rfl (by kernel_rfl) (Wn.no rfl) rfl h40 (fun w hs => R.ld sc25 rfl hs) ?_
        obtain ⟨t41, h42, h⟩ := h
        refine DE.main 10 (by kernel_rfl) ?_
        refine One.r 10 (v := (Value.int .i64 t41)) rfl (Wn.no rfl) rfl (R.ld sc3 rfl h42) (.inl rfl) ?_
        refine DE.main 11 (by kernel_rfl) ?_
        refine One.c 11 rfl (Wn.no rfl) rfl (R.call bd11 (Ls.cons rfl (Ls.cons rfl Ls.nil)) rfl) (Calls.mono h ?_)
        rintro _ w45 ⟨r43, r44, rfl, h⟩
        refine ⟨_, rfl, ⟨aftT (by kernel_rfl), trivial⟩, ?_⟩
        refine DE.main 13 (by kernel_rfl) ?_
        refine One.c 13 rfl (Wn.no rfl) rfl (R.call bd12 (Ls.cons rfl (Ls.cons rfl (Ls.cons rfl Ls.nil))) rfl) (Calls.mono h ?_)
        rintro _ w47 ⟨r46, rfl, h⟩
        refine ⟨_, rfl, ⟨aftT (by kernel_rfl), trivial⟩, ?_⟩
        refine DE.done (by kernel_rfl) ?_
        refine WE.reg ?_
        refine LE.p (v := (Value.int .i64 x4)) (Wn.no rfl) rfl (R.move f27) ?_
        refine LE.p (v := (Value.int .i64 (IntKind.i64.wrap (x4 + (1 : Int))))) (Wn.no rfl) rfl (R.add rfl rfl) ?_
        refine LE.p (v := (Value.int .i64 (IntKind.i64.wrap (x4 + (1 : Int))))) (Wn.no rfl) rfl (R.assign rfl) ?_
        refine LE.nil ?_
        obtain ⟨m11, hm12, h⟩ := h
        exact ⟨m11, hm12, _, h, f23, f24, f25, f26, rfl⟩
      · intro hb29
        replace h := M.ite_f h hb29
        refine WE.exit ?_
        refine WE.seq ?_
        refine WE.reg ?_
        refine LE.p (v := (Value.pointer r1)) (Wn.no rfl) rfl (R.move f26) ?_
        refine LE.c (Wn.no rfl) rfl (R.call bd14 (Ls.cons rfl Ls.nil) rfl) (Calls.mono h ?_)
        rintro _ w49 ⟨r48, rfl, h⟩
        refine ⟨_, rfl, ?_⟩
        refine LE.p (v := (SV.v r48)) (Wn.no rfl) rfl (R.assign rfl) ?_
        refine LE.nil ?_
        refine WE.seq ?_
        refine WE.reg ?_
        refine LE.p (v := (Value.int .u32 p2)) (Wn.no rfl) rfl (R.move f25) ?_
        refine LE.p (v := (Value.int .u32 (Int.tmod p2 (33554432 : Int)))) (Wn.no rfl) rfl (R.rem rfl rfl (by decide)) ?_
        refine LE.p (v := (Value.int .u32 (bOr .u32 (167772160 : Int) (Int.tmod p2 (33554432 : Int))))) (Wn.no rfl) rfl (R.or rfl rfl) ?_
        refine LE.p (v := (Value.int .u32 (bOr .u32 (167772160 : Int) (Int.tmod p2 (33554432 : Int))))) (Wn.no rfl) rfl (R.assign rfl) ?_
        refine LE.nil ?_
        refine WE.seq ?_
        refine WE.reg ?_
        refine LE.p (v := (Value.pointer r1)) (Wn.no rfl) rfl (R.move f26) ?_
        refine LE.p (v := (Value.int .u32 (bOr .u32 (167772160 : Int) (Int.tmod p2 (33554432 : Int))))) (Wn.no rfl) rfl (R.move rfl) ?_
        refine LE.c (Wn.no rfl) rfl (R.call bd20 (Ls.cons rfl (Ls.cons rfl Ls.nil)) rfl) (Calls.mono h ?_)
        rintro _ w54 ⟨r50, r51, r52, r53, rfl, h⟩
        refine ⟨_, rfl, ?_⟩
        refine LE.p (v := (Value.tuple #[(Value.agg #[(Value.int .u32 r50), (Value.int .i64 r51)]), (Value.int .i64 r52), (Value.bool r53)])) (Wn.no rfl) rfl (R.move rfl) ?_
        refine LE.p (v := (Value.agg #[(Value.int .u32 r50), (Value.int .i64 r51)])) (Wn.no rfl) rfl (R.ext rfl rfl) ?_
        refine LE.p (v := (Value.int .i64 r52)) (Wn.no rfl) rfl (R.ext rfl rfl) ?_
        refine LE.p (v := (Value.bool r53)) (Wn.no rfl) rfl (R.ext rfl rfl) ?_
        obtain ⟨b56, hpb56, w55, hww55, h⟩ := M.new_use h
        refine LE.r (v := (Value.pointer (some b56))) (Wn.no rfl) rfl (R.alloc (cs := #[(Value.int .u32 (0 : Int)), (Value.int .i64 (0 : Int))]) ze27 rfl hpb56 hww55) ?_
        obtain ⟨w57, hww57, h58, h⟩ := M.stA_use h
        refine LE.s (Wn.no rfl) rfl (R.stA (a := b56) [(Value.int .u32 r50), (Value.int .i64 r51)] sz27 rfl rfl rfl (by simp [Value.oneCell']) h58 hww57) ?_
        refine LE.p (v := (Value.int .i64 r52)) (Wn.no rfl) rfl (R.assign rfl) ?_
        refine LE.p (v := (Value.bool r53)) (Wn.no rfl) rfl (R.assign rfl) ?_
        refine LE.nil ?_
        refine WE.seq ?_
        refine WE.reg ?_
        refine LE.p (v := (SV.v SV.nil)) (Wn.no rfl) rfl (R.assign rfl) ?_
        refine LE.nil ?_
        refine WE.seq ?_
        refine WE.seq ?_
        refine WE.reg ?_
        refine LE.p (v := (Value.int .i64 (0 : Int))) (Wn.no rfl) rfl (R.assign rfl) ?_
        refine LE.nil ?_
        refine WE.block ?_
        obtain ⟨I65, ⟨n64, h⟩, hr66⟩ := h
        refine WE.loop (fun n e w => ∃ (x59 : SV) (x60 : Int), I65 n x59 x60 w ∧ e 1 = (SV.v p1) ∧ e 2 = (Value.int .u32 (bOr .u32 (167772160 : Int) (Int.tmod p2 (33554432 : Int)))) ∧ e 7 = (Value.pointer r1) ∧ e 9 = (SV.v r48) ∧ e 10 = (Value.pointer (some b56)) ∧ e 11 = (Value.int .i64 r52) ∧ e 12 = (Value.bool r53) ∧ e 13 = (SV.v x59) ∧ e 14 = (Value.int .i64 x60)) n64 ⟨_, _, h, f24, rfl, f26, rfl, rfl, rfl, rfl, rfl, rfl⟩ ?_
        clear h
        rintro n64 e63 w62 ⟨x59, x60, h, f69, f70, f71, f72, f73, f74, f75, f76, f77⟩
        replace h := hr66 n64 x59 x60 w62 h
        refine WE.seq ?_
        refine WE.seq ?_
        obtain ⟨J78, hJ78, h⟩ := M.join_use h
        refine WE.regJ (fun e w => ∃ (x79 : Bool), J78 x79 w ∧ e 1 = (SV.v p1) ∧ e 2 = (Value.int .u32 (bOr .u32 (167772160 : Int) (Int.tmod p2 (33554432 : Int)))) ∧ e 7 = (Value.pointer r1) ∧ e 9 = (SV.v r48) ∧ e 10 = (Value.pointer (some b56)) ∧ e 11 = (Value.int .i64 r52) ∧ e 12 = (Value.bool r53) ∧ e 13 = (SV.v x59) ∧ e 14 = (Value.int .i64 x60) ∧ e 68 = (Value.bool x79)) ?_ ?_
        · clear hJ78
          refine LE.p (v := (Value.int .i64 x60)) (Wn.no rfl) rfl (R.move f77) ?_
          refine LE.p (v := (SV.v p1)) (Wn.no rfl) rfl (R.move f69) ?_
          refine LE.p (v := (Value.int .i64 (p1.len : Int))) (Wn.no rfl) rfl (R.len sl22 rfl) ?_
          refine LE.p (v := (Value.bool (decide (x60 < (p1.len : Int))))) (Wn.no rfl) rfl (R.lss rfl rfl) ?_
          refine LE.p (v := (Value.bool (decide (x60 < (p1.len : Int))))) (Wn.no rfl) rfl (R.move rfl) ?_
          rcases M.ite_use h with ⟨hb80, h⟩ | ⟨hb80, h⟩
          · refine LE.p (v := (Value.int .i64 x60)) (Wn.yes 4 65 true rfl rfl rfl (congrArg Value.bool hb80)) rfl (R.move f77) ?_
            refine LE.p (v := (Value.bool (decide (x60 < (30 : Int))))) (Wn.yes 4 65 true rfl rfl rfl (congrArg Value.bool hb80)) rfl (R.lss rfl rfl) ?_
            refine LE.p (v := (Value.bool (decide (x60 < (30 : Int))))) (Wn.no rfl) rfl (R.pickT (congrArg Value.bool hb80) rfl) ?_
            refine LE.nil ?_
            exact ⟨_, h, f69, f70, f71, f72, f73, f74, f75, f76, f77, rfl⟩
          · refine LE.u (Un.no 4 65 true rfl rfl rfl (congrArg Value.bool hb80)) ?_
            refine LE.u (Un.no 4 65 true rfl rfl rfl (congrArg Value.bool hb80)) ?_
            refine LE.p (v := (Value.bool false)) (Wn.no rfl) rfl (R.pickF (congrArg Value.bool hb80) rfl) ?_
            refine LE.nil ?_
            exact ⟨_, h, f69, f70, f71, f72, f73, f74, f75, f76, f77, rfl⟩
        · rintro e81 w82 ⟨x79, h, f83, f84, f85, f86, f87, f88, f89, f90, f91, f92⟩
          subst hJ78
          refine WE.condT rfl (b := x79) f92 ?_ ?_
          · intro hb93
            replace h := M.ite_t h hb93
            refine WE.skip ?_
            refine WE.seq ?_
            obtain ⟨J94, hJ94, h⟩ := M.join_use h
            refine WE.blkJ (fun e w => ∃ (x95 : SV), J94 x95 w ∧ e 1 = (SV.v p1) ∧ e 2 = (Value.int .u32 (bOr .u32 (167772160 : Int) (Int.tmod p2 (33554432 : Int)))) ∧ e 7 = (Value.pointer r1) ∧ e 9 = (SV.v r48) ∧ e 10 = (Value.pointer (some b56)) ∧ e 11 = (Value.int .i64 r52) ∧ e 12 = (Value.bool r53) ∧ e 13 = (SV.v x95) ∧ e 14 = (Value.int .i64 x60)) ?_ ?_
            · clear hJ94
              refine WE.seq ?_
              obtain ⟨J96, hJ96, h⟩ := M.join_use h
              refine WE.drawJ (fun e w => ∃ (x97 : Addr), J96 x97 w ∧ e 1 = (SV.v p1) ∧ e 2 = (Value.int .u32 (bOr .u32 (167772160 : Int) (Int.tmod p2 (33554432 : Int)))) ∧ e 7 = (Value.pointer r1) ∧ e 9 = (SV.v r48) ∧ e 10 = (Value.pointer (some b56)) ∧ e 11 = (Value.int .i64 r52) ∧ e 12 = (Value.bool r53) ∧ e 13 = (SV.v x59) ∧ e 14 = (Value.int .i64 x60) ∧ e 15 = (Value.pointer (some x97))) mix ?_ ?_
              · clear hJ96
                obtain ⟨w98, hww98, h⟩ := M.drew_use h
                rw [← hww98]
                clear hww98
                refine DE.t 0 (v := (SV.v p1)) rfl (by kernel_rfl) (Wn.no rfl) rfl (R.move f83) ?_
                refine DE.t 1 (v := (Value.int .i64 x60)) rfl (by kernel_rfl) (Wn.no rfl) rfl (R.move f91) ?_
                obtain ⟨a99, h100, h101, h102, h⟩ := h
                refine DE.t 2 (v := (Value.pointer (some (a99.add (x60.toNat * 5))))) rfl (by kernel_rfl) (Wn.no rfl) rfl (R.idx (s := p1) sl22 rfl rfl h100 h101 h102) ?_
                refine DE.t 3 (v := (Value.pointer (some ((a99.add (x60.toNat * 5)).add 3)))) rfl (by kernel_rfl) (Wn.no rfl) rfl (R.fld (off := 3) fa30_3 rfl) ?_
                refine DE.t 5 (v := (SV.v p1)) rfl (by kernel_rfl) (Wn.no rfl) rfl (R.move f83) ?_
                refine DE.t 6 (v := (Value.int .i64 x60)) rfl (by kernel_rfl) (Wn.no rfl) rfl (R.move f91) ?_
                obtain ⟨a103, h104, h105, h106, h⟩ := h
                refine DE.t 7 (v := (Value.pointer (some (a103.add (x60.toNat * 5))))) rfl (by kernel_rfl) (Wn.no rfl) rfl (R.idx (s := p1) sl22 rfl rfl h104 h105 h106) ?_
                refine DE.t 8 (v := (Value.pointer (some ((a103.add (x60.toNat * 5)).add 1)))) rfl (by kernel_rfl) (Wn.no rfl) rfl (R.fld (off := 1) fa30_1 rfl) ?_
                obtain ⟨t107, h108, h⟩ := h
                refine DE.hold 4 (fun w => w.cell? ((a99.add (x60.toNat * 5)).add 3) = some (Value.int .u32 t107)) (v := (Value.int .u32 t107)) rfl (by kernel_rfl) (Wn.no rfl) rfl h108 (fun w hs => R.ld sc25 rfl hs) ?_
                obtain ⟨t109, h110, h⟩ := h
                refine DE.hold 9 (fun w => w.cell? ((a103.add (x60.toNat * 5)).add 1) = some (Value.int .i64 t109)) (v := (Value.int .i64 t109)) rfl (by kernel_rfl) (Wn.no rfl) rfl h110 (fun w hs => R.ld sc3 rfl hs) ?_
                refine DE.main2 10 11 (by kernel_rfl) ?_ ?_
                · replace h := h.1
                  refine One.c 10 rfl (Wn.no rfl) rfl (R.call bd11 (Ls.cons rfl (Ls.cons rfl Ls.nil)) rfl) (Calls.mono h ?_)
                  rintro _ w113 ⟨r111, r112, rfl, h⟩
                  refine ⟨_, rfl, ⟨aftT (by kernel_rfl), aftT (by kernel_rfl), trivial⟩, ?_⟩
                  obtain ⟨b115, hpb115, w114, hww114, h⟩ := M.new_use h
                  obtain ⟨k116, h⟩ := h
                  obtain ⟨k117, h⟩ := h
                  refine DE.main 11 (by kernel_rfl) ?_
                  refine One.r 11 (v := (Value.pointer (some b115))) rfl (Wn.no rfl) rfl (R.alloc (cs := #[(Value.int .u32 (0 : Int)), (Value.int .i64 (0 : Int))]) ze27 rfl hpb115 hww114) (.inr ⟨fun _ => k116, fun _ => k117, trivial⟩) ?_
                  obtain ⟨w118, hww118, h119, h⟩ := M.stA_use h
                  refine DE.main 12 (by kernel_rfl) ?_
                  refine One.s 12 rfl (Wn.no rfl) rfl (R.stA (a := b115) [(Value.int .u32 r111), (Value.int .i64 r112)] sz27 rfl rfl rfl (by simp [Value.oneCell']) h119 hww118) ⟨aftT (by kernel_rfl), aftT (by kernel_rfl), trivial⟩ ?_
                  refine DE.done (by kernel_rfl) ?_
                  exact ⟨_, h, f83, f84, f85, f86, f87, f88, f89, f90, f91, rfl⟩
                · replace h := h.2
                  obtain ⟨b121, hpb121, w120, hww120, h⟩ := M.new_use h
                  obtain ⟨k122, h⟩ := h
                  obtain ⟨k123, h⟩ := h
                  refine One.r 11 (v := (Value.pointer (some b121))) rfl (Wn.no rfl) rfl (R.alloc (cs := #[(Value.int .u32 (0 : Int)), (Value.int .i64 (0 : Int))]) ze27 rfl hpb121 hww120) (.inr ⟨fun _ => k122, fun _ => k123, trivial⟩) ?_
                  refine DE.main 10 (by kernel_rfl) ?_
                  refine One.c 10 rfl (Wn.no rfl) rfl (R.call bd11 (Ls.cons rfl (Ls.cons rfl Ls.nil)) rfl) (Calls.mono h ?_)
                  rintro _ w126 ⟨r124, r125, rfl, h⟩
                  refine ⟨_, rfl, ⟨aftT (by kernel_rfl), aftT (by kernel_rfl), trivial⟩, ?_⟩
                  obtain ⟨w127, hww127, h128, h⟩ := M.stA_use h
                  refine DE.main 12 (by kernel_rfl) ?_
                  refine One.s 12 rfl (Wn.no rfl) rfl (R.stA (a := b121) [(Value.int .u32 r124), (Value.int .i64 r125)] sz27 rfl rfl rfl (by simp [Value.oneCell']) h128 hww127) ⟨aftT (by kernel_rfl), aftT (by kernel_rfl), trivial⟩ ?_
                  refine DE.done (by kernel_rfl) ?_
                  exact ⟨_, h, f83, f84, f85, f86, f87, f88, f89, f90, f91, rfl⟩
              · rintro e129 w130 ⟨x97, h, f131, f132, f133, f134, f135, f136, f137, f138, f139, f140⟩
                subst hJ96
                refine WE.seq ?_
                refine WE.reg ?_
                refine LE.p (v := (Value.pointer r1)) (Wn.no rfl) rfl (R.move f133) ?_
                obtain ⟨t141, h142, h⟩ := h
                obtain ⟨t143, h144, h⟩ := h
                refine LE.r (v := (Value.agg #[(Value.int .u32 t141), (Value.int .i64 t143)])) (Wn.no rfl) rfl (R.ldA ag27 sz27 f140 rfl (Cs.cons h142 (Cs.cons h144 Cs.nil))) ?_
                refine LE.c (Wn.no rfl) rfl (R.call bd15 (Ls.cons rfl (Ls.cons rfl Ls.nil)) rfl) (Calls.mono h ?_)
                rintro _ w147 ⟨r145, r146, rfl, h⟩
                refine ⟨_, rfl, ?_⟩
                refine LE.p (v := (Value.tuple #[(Value.int .i64 r145), (Value.bool r146)])) (Wn.no rfl) rfl (R.move rfl) ?_
                refine LE.p (v := (Value.int .i64 r145)) (Wn.no rfl) rfl (R.ext rfl rfl) ?_
                refine LE.p (v := (Value.bool r146)) (Wn.no rfl) rfl (R.ext rfl rfl) ?_
                refine LE.p (v := (Value.int .i64 r145)) (Wn.no rfl) rfl (R.assign rfl) ?_
                refine LE.p (v := (Value.bool r146)) (Wn.no rfl) rfl (R.assign rfl) ?_
                refine LE.nil ?_
                refine WE.seq ?_
                refine WE.reg ?_
                refine LE.p (v := (Value.bool r146)) (Wn.no rfl) rfl (R.move rfl) ?_
                refine LE.p (v := (Value.bool (!r146))) (Wn.no rfl) rfl (R.not rfl) ?_
                refine LE.nil ?_
                refine WE.condT rfl (b := (!r146)) rfl ?_ ?_
                · intro hb148
                  replace h := M.ite_t h hb148
                  refine WE.seq ?_
                  refine WE.seq ?_
                  obtain ⟨J149, hJ149, h⟩ := M.join_use h
                  refine WE.regJ (fun e w => ∃ (x150 : Bool), J149 x150 w ∧ e 1 = (SV.v p1) ∧ e 2 = (Value.int .u32 (bOr .u32 (167772160 : Int) (Int.tmod p2 (33554432 : Int)))) ∧ e 7 = (Value.pointer r1) ∧ e 9 = (SV.v r48) ∧ e 10 = (Value.pointer (some b56)) ∧ e 11 = (Value.int .i64 r52) ∧ e 12 = (Value.bool r53) ∧ e 13 = (SV.v x59) ∧ e 14 = (Value.int .i64 x60) ∧ e 15 = (Value.pointer (some x97)) ∧ e 98 = (Value.bool x150)) ?_ ?_
                  · clear hJ149
                    refine LE.p (v := (Value.pointer r1)) (Wn.no rfl) rfl (R.move f133) ?_
                    obtain ⟨t151, h152, h⟩ := h
                    obtain ⟨t153, h154, h⟩ := h
                    refine LE.r (v := (Value.agg #[(Value.int .u32 t151), (Value.int .i64 t153)])) (Wn.no rfl) rfl (R.ldA ag27 sz27 f140 rfl (Cs.cons h152 (Cs.cons h154 Cs.nil))) ?_
                    refine LE.c (Wn.no rfl) rfl (R.call bd12 (Ls.cons rfl (Ls.cons rfl (Ls.cons rfl Ls.nil))) rfl) (Calls.mono h ?_)
                    rintro _ w156 ⟨r155, rfl, h⟩
                    refine ⟨_, rfl, ?_⟩
                    refine LE.p (v := (Value.bool (!r155))) (Wn.no rfl) rfl (R.not rfl) ?_
                    refine LE.p (v := (Value.bool (!r155))) (Wn.no rfl) rfl (R.move rfl) ?_
                    rcases M.ite_use h with ⟨hb157, h⟩ | ⟨hb157, h⟩
                    · refine LE.u (Un.no 4 94 false rfl rfl rfl (congrArg Value.bool hb157)) ?_
                      refine LE.u (Un.no 4 94 false rfl rfl rfl (congrArg Value.bool hb157)) ?_
                      refine LE.u (Un.no 4 94 false rfl rfl rfl (congrArg Value.bool hb157)) ?_
                      refine LE.p (v := (Value.bool true)) (Wn.no rfl) rfl (R.pickT (congrArg Value.bool hb157) rfl) ?_
                      refine LE.nil ?_
                      exact ⟨_, h, f131, f132, f133, f134, f135, f136, f137, f138, f139, f140, rfl⟩
                    · refine LE.p (v := (Value.pointer r1)) (Wn.yes 4 94 false rfl rfl rfl (congrArg Value.bool hb157)) rfl (R.move f133) ?_
                      obtain ⟨t158, h159, h⟩ := h
                      obtain ⟨t160, h161, h⟩ := h
                      refine LE.r (v := (Value.agg #[(Value.int .u32 t158), (Value.int .i64 t160)])) (Wn.yes 4 94 false rfl rfl rfl (congrArg Value.bool hb157)) rfl (R.ldA ag27 sz27 f140 rfl (Cs.cons h159 (Cs.cons h161 Cs.nil))) ?_
                      refine LE.c (Wn.yes 4 94 false rfl rfl rfl (congrArg Value.bool hb157)) rfl (R.call bd12 (Ls.cons rfl (Ls.cons rfl (Ls.cons rfl Ls.nil))) rfl) (Calls.mono h ?_)
                      rintro _ w163 ⟨r162, rfl, h⟩
                      refine ⟨_, rfl, ?_⟩
                      refine LE.p (v := (Value.bool r162)) (Wn.no rfl) rfl (R.pickF (congrArg Value.bool hb157) rfl) ?_
                      refine LE.nil ?_
                      exact ⟨_, h, f131, f132, f133, f134, f135, f136, f137, f138, f139, f140, rfl⟩
                  · rintro e164 w165 ⟨x150, h, f166, f167, f168, f169, f170, f171, f172, f173, f174, f175, f176⟩
                    subst hJ149
                    refine WE.condT rfl (b := x150) f176 ?_ ?_
                    · intro hb177
                      replace h := M.ite_t h hb177
                      refine WE.seq ?_
                      refine WE.reg ?_
                      refine LE.p (v := (Value.bool false)) (Wn.no rfl) rfl (R.assign rfl) ?_
                      refine LE.nil ?_
                      refine WE.ret ?_
                      exact ⟨_, (Res.tmp rfl Res.nil), _, rfl, h⟩
                    · intro hb177
                      replace h := M.ite_f h hb177
                      refine WE.skip ?_
                      refine WE.reg ?_
                      refine LE.p (v := (SV.v x59)) (Wn.no rfl) rfl (R.move f173) ?_
                      obtain ⟨t178, h179, h⟩ := h
                      obtain ⟨t180, h181, h⟩ := h
                      refine LE.r (v := (Value.agg #[(Value.int .u32 t178), (Value.int .i64 t180)])) (Wn.no rfl) rfl (R.ldA ag27 sz27 f175 rfl (Cs.cons h179 (Cs.cons h181 Cs.nil))) ?_
                      obtain ⟨b184, hpb184, w182, hww182, h⟩ := M.new_use h
                      refine LE.r (v := (SV.v (SV.mk (some b184) 1 1))) (Wn.no rfl) rfl (R.bsl (by exact (Ls.cons (R.Pr rfl) Ls.nil)) (fun w => bs33_1 t178 t180 w) hpb184 hww182) ?_
                      obtain ⟨s185, w186, h187, h⟩ := h
                      refine LE.r (v := (SV.v s185)) (Wn.no rfl) rfl (R.app (s := x59) (r := s185) rfl rfl h187) ?_
                      refine LE.p (v := (SV.v s185)) (Wn.no rfl) rfl (R.assign rfl) ?_
                      refine LE.nil ?_
                      exact ⟨_, h, f166, f167, f168, f169, f170, f171, f172, rfl, f174⟩
                · intro hb148
                  replace h := M.ite_f h hb148
                  refine WE.skip ?_
                  exact ⟨_, h, f131, f132, f133, f134, f135, f136, f137, f138, f139⟩
            · rintro e188 w189 ⟨x95, h, f190, f191, f192, f193, f194, f195, f196, f197, f198⟩
              subst hJ94
              refine WE.reg ?_
              refine LE.p (v := (Value.int .i64 x60)) (Wn.no rfl) rfl (R.move f198) ?_
              refine LE.p (v := (Value.int .i64 (IntKind.i64.wrap (x60 + (1 : Int))))) (Wn.no rfl) rfl (R.add rfl rfl) ?_
              refine LE.p (v := (Value.int .i64 (IntKind.i64.wrap (x60 + (1 : Int))))) (Wn.no rfl) rfl (R.assign rfl) ?_
              refine LE.nil ?_
              obtain ⟨m67, hm68, h⟩ := h
              exact ⟨m67, hm68, _, _, h, f190, f191, f192, f193, f194, f195, f196, f197, rfl⟩
          · intro hb93
            replace h := M.ite_f h hb93
            refine WE.exit ?_
            refine WE.seq ?_
            refine WE.seq ?_
            refine WE.reg ?_
            refine LE.p (v := (Value.pointer r1)) (Wn.no rfl) rfl (R.move f85) ?_
            refine LE.c (Wn.no rfl) rfl (R.call bd18 (Ls.cons rfl Ls.nil) rfl) (Calls.mono h ?_)
            rintro _ w200 ⟨r199, rfl, h⟩
            refine ⟨_, rfl, ?_⟩
            refine LE.p (v := (SV.v r48)) (Wn.no rfl) rfl (R.move f86) ?_
            refine LE.p (v := (Value.int .i64 (r48.len : Int))) (Wn.no rfl) rfl (R.len sl33 rfl) ?_
            refine LE.p (v := (SV.v x59)) (Wn.no rfl) rfl (R.move f90) ?_
            refine LE.p (v := (Value.int .i64 (x59.len : Int))) (Wn.no rfl) rfl (R.len sl33 rfl) ?_
            refine LE.p (v := (Value.int .i64 (IntKind.i64.wrap ((r48.len : Int) + (x59.len : Int))))) (Wn.no rfl) rfl (R.add rfl rfl) ?_
            refine LE.p (v := (Value.bool (r199 != (IntKind.i64.wrap ((r48.len : Int) + (x59.len : Int)))))) (Wn.no rfl) rfl (R.neq rfl rfl) ?_
            refine LE.nil ?_
            refine WE.condT rfl (b := (r199 != (IntKind.i64.wrap ((r48.len : Int) + (x59.len : Int))))) rfl ?_ ?_
            · intro hb201
              replace h := M.ite_t h hb201
              refine WE.seq ?_
              refine WE.reg ?_
              refine LE.p (v := (Value.bool false)) (Wn.no rfl) rfl (R.assign rfl) ?_
              refine LE.nil ?_
              refine WE.ret ?_
              exact ⟨_, (Res.tmp rfl Res.nil), _, rfl, h⟩
            · intro hb201
              replace h := M.ite_f h hb201
              refine WE.skip ?_
              refine WE.seq ?_
              refine WE.seq ?_
              refine WE.reg ?_
              refine LE.p (v := (SV.v x59)) (Wn.no rfl) rfl (R.move f90) ?_
              refine LE.p (v := (Value.int .i64 (x59.len : Int))) (Wn.no rfl) rfl (R.len sl33 rfl) ?_
              refine LE.p (v := (Value.int .i64 (IntKind.i64.wrap ((x59.len : Int) - (1 : Int))))) (Wn.no rfl) rfl (R.sub rfl rfl) ?_
              refine LE.p (v := (Value.int .i64 (IntKind.i64.wrap ((x59.len : Int) - (1 : Int))))) (Wn.no rfl) rfl (R.assign rfl) ?_
              refine LE.nil ?_
              refine WE.block ?_
              obtain ⟨I207, ⟨n206, h⟩, hr208⟩ := h
              refine WE.loop (fun n e w => ∃ (x202 : Int), I207 n x202 w ∧ e 2 = (Value.int .u32 (bOr .u32 (167772160 : Int) (Int.tmod p2 (33554432 : Int)))) ∧ e 7 = (Value.pointer r1) ∧ e 9 = (SV.v r48) ∧ e 10 = (Value.pointer (some b56)) ∧ e 11 = (Value.int .i64 r52) ∧ e 12 = (Value.bool r53) ∧ e 13 = (SV.v x59) ∧ e 18 = (Value.int .i64 x202)) n206 ⟨_, h, f84, f85, f86, f87, f88, f89, f90, rfl⟩ ?_
              clear h
              rintro n206 e205 w204 ⟨x202, h, f211, f212, f213, f214, f215, f216, f217, f218⟩
              replace h := hr208 n206 x202 w204 h
              refine WE.seq ?_
              refine WE.seq ?_
              refine WE.reg ?_
              refine LE.p (v := (Value.int .i64 x202)) (Wn.no rfl) rfl (R.move f218) ?_
              refine LE.p (v := (Value.bool (decide ((0 : Int) ≤ x202)))) (Wn.no rfl) rfl (R.geq rfl rfl) ?_
              refine LE.nil ?_
              refine WE.condT rfl (b := (decide ((0 : Int) ≤ x202))) rfl ?_ ?_
              · intro hb219
                replace h := M.ite_t h hb219
                refine WE.skip ?_
                refine WE.seq ?_
                refine WE.block ?_
                refine WE.seq ?_
                obtain ⟨J220, hJ220, h⟩ := M.join_use h
                refine WE.regJ (fun e w => ∃ (x221 : Bool), J220 x221 w ∧ e 2 = (Value.int .u32 (bOr .u32 (167772160 : Int) (Int.tmod p2 (33554432 : Int)))) ∧ e 7 = (Value.pointer r1) ∧ e 9 = (SV.v r48) ∧ e 10 = (Value.pointer (some b56)) ∧ e 11 = (Value.int .i64 r52) ∧ e 12 = (Value.bool r53) ∧ e 13 = (SV.v x59) ∧ e 18 = (Value.int .i64 x202) ∧ e 132 = (Value.bool x221)) ?_ ?_
                · clear hJ220
                  refine LE.p (v := (Value.pointer r1)) (Wn.no rfl) rfl (R.move f212) ?_
                  refine LE.p (v := (SV.v x59)) (Wn.no rfl) rfl (R.move f217) ?_
                  refine LE.p (v := (Value.int .i64 x202)) (Wn.no rfl) rfl (R.move f218) ?_
                  obtain ⟨a222, h223, h224, h225, h⟩ := h
                  refine LE.p (v := (Value.pointer (some (a222.add (x202.toNat * 2))))) (Wn.no rfl) rfl (R.idx (s := x59) sl33 rfl rfl h223 h224 h225) ?_
                  obtain ⟨t226, h227, h⟩ := h
                  obtain ⟨t228, h229, h⟩ := h
                  refine LE.r (v := (Value.agg #[(Value.int .u32 t226), (Value.int .i64 t228)])) (Wn.no rfl) rfl (R.ldA ag27 sz27 rfl rfl (Cs.cons h227 (Cs.cons h229 Cs.nil))) ?_
                  refine LE.c (Wn.no rfl) rfl (R.call bd25 (Ls.cons rfl (Ls.cons rfl Ls.nil)) rfl) (Calls.mono h ?_)
                  rintro _ w231 ⟨r230, rfl, h⟩
                  refine ⟨_, rfl, ?_⟩
                  refine LE.p (v := (Value.bool (!r230))) (Wn.no rfl) rfl (R.not rfl) ?_
                  refine LE.p (v := (Value.bool (!r230))) (Wn.no rfl) rfl (R.move rfl) ?_
                  rcases M.ite_use h with ⟨hb232, h⟩ | ⟨hb232, h⟩
                  · refine LE.u (Un.no 7 125 false rfl rfl rfl (congrArg Value.bool hb232)) ?_
                    refine LE.u (Un.no 7 125 false rfl rfl rfl (congrArg Value.bool hb232)) ?_
                    refine LE.u (Un.no 7 125 false rfl rfl rfl (congrArg Value.bool hb232)) ?_
                    refine LE.u (Un.no 7 125 false rfl rfl rfl (congrArg Value.bool hb232)) ?_
                    refine LE.u (Un.no 7 125 false rfl rfl rfl (congrArg Value.bool hb232)) ?_
                    refine LE.u (Un.no 7 125 false rfl rfl rfl (congrArg Value.bool hb232)) ?_
                    refine LE.p (v := (Value.bool true)) (Wn.no rfl) rfl (R.pickT (congrArg Value.bool hb232) rfl) ?_
                    refine LE.nil ?_
                    exact ⟨_, h, f211, f212, f213, f214, f215, f216, f217, f218, rfl⟩
                  · refine LE.p (v := (Value.pointer r1)) (Wn.yes 7 125 false rfl rfl rfl (congrArg Value.bool hb232)) rfl (R.move f212) ?_
                    refine LE.p (v := (SV.v x59)) (Wn.yes 7 125 false rfl rfl rfl (congrArg Value.bool hb232)) rfl (R.move f217) ?_
                    refine LE.p (v := (Value.int .i64 x202)) (Wn.yes 7 125 false rfl rfl rfl (congrArg Value.bool hb232)) rfl (R.move f218) ?_
                    obtain ⟨a233, h234, h235, h236, h⟩ := h
                    refine LE.p (v := (Value.pointer (some (a233.add (x202.toNat * 2))))) (Wn.yes 7 125 false rfl rfl rfl (congrArg Value.bool hb232)) rfl (R.idx (s := x59) sl33 rfl rfl h234 h235 h236) ?_
                    obtain ⟨t237, h238, h⟩ := h
                    obtain ⟨t239, h240, h⟩ := h
                    refine LE.r (v := (Value.agg #[(Value.int .u32 t237), (Value.int .i64 t239)])) (Wn.yes 7 125 false rfl rfl rfl (congrArg Value.bool hb232)) rfl (R.ldA ag27 sz27 rfl rfl (Cs.cons h238 (Cs.cons h240 Cs.nil))) ?_
                    refine LE.c (Wn.yes 7 125 false rfl rfl rfl (congrArg Value.bool hb232)) rfl (R.call bd25 (Ls.cons rfl (Ls.cons rfl Ls.nil)) rfl) (Calls.mono h ?_)
                    rintro _ w242 ⟨r241, rfl, h⟩
                    refine ⟨_, rfl, ?_⟩
                    refine LE.p (v := (Value.bool r241)) (Wn.no rfl) rfl (R.pickF (congrArg Value.bool hb232) rfl) ?_
                    refine LE.nil ?_
                    exact ⟨_, h, f211, f212, f213, f214, f215, f216, f217, f218, rfl⟩
                · rintro e243 w244 ⟨x221, h, f245, f246, f247, f248, f249, f250, f251, f252, f253⟩
                  subst hJ220
                  refine WE.condT rfl (b := x221) f253 ?_ ?_
                  · intro hb254
                    replace h := M.ite_t h hb254
                    refine WE.seq ?_
                    refine WE.reg ?_
                    refine LE.p (v := (Value.bool false)) (Wn.no rfl) rfl (R.assign rfl) ?_
                    refine LE.nil ?_
                    refine WE.ret ?_
                    exact ⟨_, (Res.tmp rfl Res.nil), _, rfl, h⟩
                  · intro hb254
                    replace h := M.ite_f h hb254
                    refine WE.skip ?_
                    refine WE.reg ?_
                    refine LE.p (v := (Value.int .i64 x202)) (Wn.no rfl) rfl (R.move f252) ?_
                    refine LE.p (v := (Value.int .i64 (IntKind.i64.wrap (x202 - (1 : Int))))) (Wn.no rfl) rfl (R.sub rfl rfl) ?_
                    refine LE.p (v := (Value.int .i64 (IntKind.i64.wrap (x202 - (1 : Int))))) (Wn.no rfl) rfl (R.assign rfl) ?_
                    refine LE.nil ?_
                    obtain ⟨m209, hm210, h⟩ := h
                    exact ⟨m209, hm210, _, h, f245, f246, f247, f248, f249, f250, f251, rfl⟩
              · intro hb219
                replace h := M.ite_f h hb219
                refine WE.exit ?_
                refine WE.seq ?_
                refine WE.reg ?_
                refine LE.p (v := (Value.pointer r1)) (Wn.no rfl) rfl (R.move f212) ?_
                refine LE.p (v := (Value.int .u32 (bOr .u32 (167772160 : Int) (Int.tmod p2 (33554432 : Int))))) (Wn.no rfl) rfl (R.move f211) ?_
                refine LE.c (Wn.no rfl) rfl (R.call bd20 (Ls.cons rfl (Ls.cons rfl Ls.nil)) rfl) (Calls.mono h ?_)
                rintro _ w259 ⟨r255, r256, r257, r258, rfl, h⟩
                refine ⟨_, rfl, ?_⟩
                refine LE.p (v := (Value.tuple #[(Value.agg #[(Value.int .u32 r255), (Value.int .i64 r256)]), (Value.int .i64 r257), (Value.bool r258)])) (Wn.no rfl) rfl (R.move rfl) ?_
                refine LE.p (v := (Value.agg #[(Value.int .u32 r255), (Value.int .i64 r256)])) (Wn.no rfl) rfl (R.ext rfl rfl) ?_
                refine LE.p (v := (Value.int .i64 r257)) (Wn.no rfl) rfl (R.ext rfl rfl) ?_
                refine LE.p (v := (Value.bool r258)) (Wn.no rfl) rfl (R.ext rfl rfl) ?_
                obtain ⟨b261, hpb261, w260, hww260, h⟩ := M.new_use h
                refine LE.r (v := (Value.pointer (some b261))) (Wn.no rfl) rfl (R.alloc (cs := #[(Value.int .u32 (0 : Int)), (Value.int .i64 (0 : Int))]) ze27 rfl hpb261 hww260) ?_
                obtain ⟨w262, hww262, h263, h⟩ := M.stA_use h
                refine LE.s (Wn.no rfl) rfl (R.stA (a := b261) [(Value.int .u32 r255), (Value.int .i64 r256)] sz27 rfl rfl rfl (by simp [Value.oneCell']) h263 hww262) ?_
                refine LE.p (v := (Value.int .i64 r257)) (Wn.no rfl) rfl (R.assign rfl) ?_
                refine LE.p (v := (Value.bool r258)) (Wn.no rfl) rfl (R.assign rfl) ?_
                refine LE.nil ?_
                refine WE.seq ?_
                obtain ⟨J264, hJ264, h⟩ := M.join_use h
                refine WE.regJ (fun e w => ∃ (x265 : Bool), J264 x265 w ∧ e 6 = (Value.bool x265)) ?_ ?_
                · clear hJ264
                  refine LE.p (v := (Value.pointer r1)) (Wn.no rfl) rfl (R.move f212) ?_
                  refine LE.c (Wn.no rfl) rfl (R.call bd14 (Ls.cons rfl Ls.nil) rfl) (Calls.mono h ?_)
                  rintro _ w267 ⟨r266, rfl, h⟩
                  refine ⟨_, rfl, ?_⟩
                  refine LE.p (v := (SV.v r48)) (Wn.no rfl) rfl (R.move f213) ?_
                  refine LE.c (Wn.no rfl) rfl (R.call bd17 (Ls.cons rfl (Ls.cons rfl Ls.nil)) rfl) (Calls.mono h ?_)
                  rintro _ w269 ⟨r268, rfl, h⟩
                  refine ⟨_, rfl, ?_⟩
                  refine LE.p (v := (Value.bool r268)) (Wn.no rfl) rfl (R.move rfl) ?_
                  rcases M.ite_use h with ⟨hb270, h⟩ | ⟨hb270, h⟩
                  · obtain ⟨t271, h272, h⟩ := h
                    obtain ⟨t273, h274, h⟩ := h
                    refine LE.r (v := (Value.agg #[(Value.int .u32 t271), (Value.int .i64 t273)])) (Wn.yes 4 144 true rfl rfl rfl (congrArg Value.bool hb270)) rfl (R.ldA ag27 sz27 rfl rfl (Cs.cons h272 (Cs.cons h274 Cs.nil))) ?_
                    obtain ⟨t275, h276, h⟩ := h
                    obtain ⟨t277, h278, h⟩ := h
                    refine LE.r (v := (Value.agg #[(Value.int .u32 t275), (Value.int .i64 t277)])) (Wn.yes 4 144 true rfl rfl rfl (congrArg Value.bool hb270)) rfl (R.ldA ag27 sz27 f214 rfl (Cs.cons h276 (Cs.cons h278 Cs.nil))) ?_
                    refine LE.p (v := (Value.bool ((t271 == t275) && (t273 == t277)))) (Wn.yes 4 144 true rfl rfl rfl (congrArg Value.bool hb270)) rfl (R.eqS (fun w => eq27 t271 t275 t273 t277 w) sg27 rfl rfl) ?_
                    refine LE.p (v := (Value.bool ((t271 == t275) && (t273 == t277)))) (Wn.no rfl) rfl (R.pickT (congrArg Value.bool hb270) rfl) ?_
                    refine LE.p (v := (Value.bool ((t271 == t275) && (t273 == t277)))) (Wn.no rfl) rfl (R.move rfl) ?_
                    rcases M.ite_use h with ⟨hb279, h⟩ | ⟨hb279, h⟩
                    · refine LE.p (v := (Value.int .i64 r257)) (Wn.yes 9 149 true rfl rfl rfl (congrArg Value.bool hb279)) rfl (R.move rfl) ?_
                      refine LE.p (v := (Value.int .i64 r52)) (Wn.yes 9 149 true rfl rfl rfl (congrArg Value.bool hb279)) rfl (R.move f215) ?_
                      refine LE.p (v := (Value.bool (r257 == r52))) (Wn.yes 9 149 true rfl rfl rfl (congrArg Value.bool hb279)) rfl (R.eql rfl rfl) ?_
                      refine LE.p (v := (Value.bool (r257 == r52))) (Wn.no rfl) rfl (R.pickT (congrArg Value.bool hb279) rfl) ?_
                      refine LE.p (v := (Value.bool (r257 == r52))) (Wn.no rfl) rfl (R.move rfl) ?_
                      rcases M.ite_use h with ⟨hb280, h⟩ | ⟨hb280, h⟩
                      · refine LE.p (v := (Value.bool r258)) (Wn.yes 14 154 true rfl rfl rfl (congrArg Value.bool hb280)) rfl (R.move rfl) ?_
                        refine LE.p (v := (Value.bool r53)) (Wn.yes 14 154 true rfl rfl rfl (congrArg Value.bool hb280)) rfl (R.move f216) ?_
                        refine LE.p (v := (Value.bool (r258 == r53))) (Wn.yes 14 154 true rfl rfl rfl (congrArg Value.bool hb280)) rfl (R.beql bo4 rfl rfl) ?_
                        refine LE.p (v := (Value.bool (r258 == r53))) (Wn.no rfl) rfl (R.pickT (congrArg Value.bool hb280) rfl) ?_
                        refine LE.p (v := (Value.bool (r258 == r53))) (Wn.no rfl) rfl (R.move rfl) ?_
                        rcases M.ite_use h with ⟨hb281, h⟩ | ⟨hb281, h⟩
                        · refine LE.c (Wn.yes 19 159 true rfl rfl rfl (congrArg Value.bool hb281)) rfl (R.call bd19 Ls.nil rfl) (Calls.mono h ?_)
                          rintro _ w283 ⟨r282, rfl, h⟩
                          refine ⟨_, rfl, ?_⟩
                          refine LE.p (v := (Value.bool r282)) (Wn.no rfl) rfl (R.pickT (congrArg Value.bool hb281) rfl) ?_
                          refine LE.p (v := (Value.bool r282)) (Wn.no rfl) rfl (R.assign rfl) ?_
                          refine LE.nil ?_
                          exact ⟨_, h, rfl⟩
                        · refine LE.u (Un.no 19 159 true rfl rfl rfl (congrArg Value.bool hb281)) ?_
                          refine LE.p (v := (Value.bool false)) (Wn.no rfl) rfl (R.pickF (congrArg Value.bool hb281) rfl) ?_
                          refine LE.p (v := (Value.bool false)) (Wn.no rfl) rfl (R.assign rfl) ?_
                          refine LE.nil ?_
                          exact ⟨_, h, rfl⟩
                      · refine LE.u (Un.no 14 154 true rfl rfl rfl (congrArg Value.bool hb280)) ?_
                        refine LE.u (Un.no 14 154 true rfl rfl rfl (congrArg Value.bool hb280)) ?_
                        refine LE.u (Un.no 14 154 true rfl rfl rfl (congrArg Value.bool hb280)) ?_
                        refine LE.p (v := (Value.bool false)) (Wn.no rfl) rfl (R.pickF (congrArg Value.bool hb280) rfl) ?_
                        refine LE.p (v := (Value.bool false)) (Wn.no rfl) rfl (R.move rfl) ?_
                        refine LE.u (Un.no 19 159 true rfl rfl rfl rfl) ?_
                        refine LE.p (v := (Value.bool false)) (Wn.no rfl) rfl (R.pickF rfl rfl) ?_
                        refine LE.p (v := (Value.bool false)) (Wn.no rfl) rfl (R.assign rfl) ?_
                        refine LE.nil ?_
                        exact ⟨_, h, rfl⟩
                    · refine LE.u (Un.no 9 149 true rfl rfl rfl (congrArg Value.bool hb279)) ?_
                      refine LE.u (Un.no 9 149 true rfl rfl rfl (congrArg Value.bool hb279)) ?_
                      refine LE.u (Un.no 9 149 true rfl rfl rfl (congrArg Value.bool hb279)) ?_
                      refine LE.p (v := (Value.bool false)) (Wn.no rfl) rfl (R.pickF (congrArg Value.bool hb279) rfl) ?_
                      refine LE.p (v := (Value.bool false)) (Wn.no rfl) rfl (R.move rfl) ?_
                      refine LE.u (Un.no 14 154 true rfl rfl rfl rfl) ?_
                      refine LE.u (Un.no 14 154 true rfl rfl rfl rfl) ?_
                      refine LE.u (Un.no 14 154 true rfl rfl rfl rfl) ?_
                      refine LE.p (v := (Value.bool false)) (Wn.no rfl) rfl (R.pickF rfl rfl) ?_
                      refine LE.p (v := (Value.bool false)) (Wn.no rfl) rfl (R.move rfl) ?_
                      refine LE.u (Un.no 19 159 true rfl rfl rfl rfl) ?_
                      refine LE.p (v := (Value.bool false)) (Wn.no rfl) rfl (R.pickF rfl rfl) ?_
                      refine LE.p (v := (Value.bool false)) (Wn.no rfl) rfl (R.assign rfl) ?_
                      refine LE.nil ?_
                      exact ⟨_, h, rfl⟩
                  · refine LE.u (Un.no 4 144 true rfl rfl rfl (congrArg Value.bool hb270)) ?_
                    refine LE.u (Un.no 4 144 true rfl rfl rfl (congrArg Value.bool hb270)) ?_
                    refine LE.u (Un.no 4 144 true rfl rfl rfl (congrArg Value.bool hb270)) ?_
                    refine LE.p (v := (Value.bool false)) (Wn.no rfl) rfl (R.pickF (congrArg Value.bool hb270) rfl) ?_
                    refine LE.p (v := (Value.bool false)) (Wn.no rfl) rfl (R.move rfl) ?_
                    refine LE.u (Un.no 9 149 true rfl rfl rfl rfl) ?_
                    refine LE.u (Un.no 9 149 true rfl rfl rfl rfl) ?_
                    refine LE.u (Un.no 9 149 true rfl rfl rfl rfl) ?_
                    refine LE.p (v := (Value.bool false)) (Wn.no rfl) rfl (R.pickF rfl rfl) ?_
                    refine LE.p (v := (Value.bool false)) (Wn.no rfl) rfl (R.move rfl) ?_
                    refine LE.u (Un.no 14 154 true rfl rfl rfl rfl) ?_
                    refine LE.u (Un.no 14 154 true rfl rfl rfl rfl) ?_
                    refine LE.u (Un.no 14 154 true rfl rfl rfl rfl) ?_
                    refine LE.p (v := (Value.bool false)) (Wn.no rfl) rfl (R.pickF rfl rfl) ?_
                    refine LE.p (v := (Value.bool false)) (Wn.no rfl) rfl (R.move rfl) ?_
                    refine LE.u (Un.no 19 159 true rfl rfl rfl rfl) ?_
                    refine LE.p (v := (Value.bool false)) (Wn.no rfl) rfl (R.pickF rfl rfl) ?_
                    refine LE.p (v := (Value.bool false)) (Wn.no rfl) rfl (R.assign rfl) ?_
                    refine LE.nil ?_
                    exact ⟨_, h, rfl⟩
                · rintro e284 w285 ⟨x265, h, f286⟩
                  subst hJ264
                  refine WE.ret ?_
                  exact ⟨_, (Res.tmp f286 Res.nil), _, rfl, h⟩
/-- The formula of signpost.signpostlaw3.TrieNumbers. -/
def F7  (K : Bool → World → Prop) (w0 : World) : Prop :=
Calls Try.prog 10 #[] w0 (R10 fun r1 w2 =>
M.new (.cells #[(SV.v SV.nil), (SV.v SV.nil)] 55) w2 fun b4 w3 =>
M.ite (Option.isNone r1) (
K false w3) (
M.new (.cells #[(Value.int .u32 (0 : Int)), (Value.int .u32 (2147483648 : Int)), (Value.int .u32 (167772160 : Int)), (Value.int .u32 (4294967295 : Int))] 25) w3 fun b8 w6 =>
M.loop1 (fun (J10 : Int → World → Prop) (x9 : Int) (w11 : World) => 
M.ite (decide (x9 < ((SV.mk (some b8) 4 4).len : Int))) (
M.idx (SV.mk (some b8) 4 4) x9 1 fun a24 =>
M.ld (Value.int .u32) (a24.add (x9.toNat * 1)) w11 fun t28 =>
M.new (.cells #[(Value.int .i64 (32 : Int)), (Value.int .i64 (0 : Int)), (Value.int .i64 (8 : Int)), (Value.int .i64 (1 : Int)), (Value.int .i64 (16 : Int)), (Value.int .i64 (-1 : Int)), (Value.int .i64 (33 : Int)), (Value.int .i64 (0 : Int))] 3) w11 fun b32 w30 =>
M.loop1 (fun (J34 : Int → World → Prop) (x33 : Int) (w35 : World) => 
M.ite (decide (x33 < ((SV.mk (some b32) 8 8).len : Int))) (
M.idx (SV.mk (some b32) 8 8) x33 1 fun a52 =>
M.ld (Value.int .i64) (a52.add (x33.toNat * 1)) w35 fun t56 =>
M.loop1 (fun (J59 : Int → World → Prop) (x58 : Int) (w60 : World) => 
M.ite (decide (x58 ≤ (5 : Int))) (
M.join (fun (x80 : Bool) (w90 : World) => 
M.ite x80 (
K false w90) (
M.join (fun (x105 : Bool) (w110 : World) => 
M.ite x105 (
K false w110) (
J59 (IntKind.i64.wrap (x58 + (1 : Int))) w110)) fun J104 => 
M.ite (x58 == (2 : Int)) (
Calls Try.prog 26 #[(Value.pointer r1), (Value.pointer (some b4)), (Value.agg #[(Value.int .i64 (1 : Int)), (Value.int .i64 t56), (Value.int .i64 t56), (Value.int .u32 t28), (Value.bool false)])] w90 (R26 fun r107 w108 =>
J104 (!r107) w108)) (
J104 false w90))) fun J79 => 
Calls Try.prog 26 #[(Value.pointer r1), (Value.pointer (some b4)), (Value.agg #[(Value.int .i64 x58), (Value.int .i64 t56), (Value.int .i64 (IntKind.i64.wrap (t56 + x58))), (Value.int .u32 t28), (Value.bool false)])] w60 (R26 fun r81 w82 =>
M.ite (!r81) (
J79 true w82) (
Calls Try.prog 26 #[(Value.pointer r1), (Value.pointer (some b4)), (Value.agg #[(Value.int .i64 (4 : Int)), (Value.int .i64 (0 : Int)), (Value.int .i64 (0 : Int)), (Value.int .u32 (IntKind.u32.wrap (t28 + (1 : Int)))), (Value.bool false)])] w82 (R26 fun r84 w85 =>
M.ite (!r84) (
J79 true w85) (
Calls Try.prog 27 #[(Value.pointer r1), (Value.pointer (some b4))] w85 (R27 fun r87 w88 =>
J79 (!r87) w88)))))) (
J34 (IntKind.i64.wrap (x33 + (1 : Int))) w60)) (1 : Int) w35) (
J10 (IntKind.i64.wrap (x9 + (1 : Int))) w35)) (0 : Int) w30) (
Calls Try.prog 19 #[] w11 (R19 fun r124 w125 =>
K r124 w125))) (0 : Int) w6))
theorem F7_ok {w0 : World}  {K : Bool → World → Prop} (h : F7 K w0) : Calls Try.prog 7 #[] w0 (R7 K) := by
  refine calls_of_WE (args := []) (rs := [.tmp 0]) Try.func7 rfl (N := 70) rfl rfl rfl rfl ?_
  refine WE.seq ?_
  refine WE.reg ?_
  refine LE.p (v := (Value.bool false)) (Wn.no rfl) rfl (R.assign rfl) ?_
  refine LE.nil ?_
  refine WE.seq ?_
  refine WE.reg ?_
  refine LE.c (Wn.no rfl) rfl (R.call bd10 Ls.nil rfl) (Calls.mono h ?_)
  rintro _ w2 ⟨r1, rfl, h⟩
  refine ⟨_, rfl, ?_⟩
  refine LE.p (v := (Value.pointer r1)) (Wn.no rfl) rfl (R.assign rfl) ?_
  refine LE.nil ?_
  refine WE.seq ?_
  refine WE.reg ?_
  refine LE.p (v := (Value.agg #[(SV.v SV.nil), (SV.v SV.nil)])) (Wn.no rfl) rfl (R.bld (by exact Ls.nil) (fun w => bu55_  w)) ?_
  obtain ⟨b4, hpb4, w3, hww3, h⟩ := M.new_use h
  refine LE.r (v := (Value.pointer (some b4))) (Wn.no rfl) rfl (R.box (cs := #[(SV.v SV.nil), (SV.v SV.nil)]) rfl rfl hpb4 hww3) ?_
  refine LE.p (v := (Value.pointer (some b4))) (Wn.no rfl) rfl (R.assign rfl) ?_
  refine LE.nil ?_
  refine WE.seq ?_
  refine WE.seq ?_
  refine WE.reg ?_
  refine LE.p (v := (Value.pointer r1)) (Wn.no rfl) rfl (R.move rfl) ?_
  refine LE.p (v := (Value.bool (Option.isNone r1))) (Wn.no rfl) rfl (R.peqNil pt23 rfl rfl) ?_
  refine LE.nil ?_
  refine WE.condT rfl (b := (Option.isNone r1)) rfl ?_ ?_
  · intro hb5
    replace h := M.ite_t h hb5
    refine WE.seq ?_
    refine WE.reg ?_
    refine LE.p (v := (Value.bool false)) (Wn.no rfl) rfl (R.assign rfl) ?_
    refine LE.nil ?_
    refine WE.ret ?_
    exact ⟨_, (Res.tmp rfl Res.nil), _, rfl, h⟩
  · intro hb5
    replace h := M.ite_f h hb5
    refine WE.skip ?_
    refine WE.seq ?_
    refine WE.seq ?_
    refine WE.reg ?_
    obtain ⟨b8, hpb8, w6, hww6, h⟩ := M.new_use h
    refine LE.r (v := (SV.v (SV.mk (some b8) 4 4))) (Wn.no rfl) rfl (R.bsl (by exact (Ls.cons (R.Pr rfl) (Ls.cons (R.Pr rfl) (Ls.cons (R.Pr rfl) (Ls.cons (R.Pr rfl) Ls.nil))))) (fun w => bs56_4 (0 : Int) (2147483648 : Int) (167772160 : Int) (4294967295 : Int) w) hpb8 hww6) ?_
    refine LE.p (v := (Value.int .i64 ((SV.mk (some b8) 4 4).len : Int))) (Wn.no rfl) rfl (R.len sl56 rfl) ?_
    refine LE.p (v := (Value.int .i64 (0 : Int))) (Wn.no rfl) rfl (R.move rfl) ?_
    refine LE.nil ?_
    refine WE.block ?_
    obtain ⟨I14, ⟨n13, h⟩, hr15⟩ := h
    refine WE.loop (fun n e w => ∃ (x9 : Int), I14 n x9 w ∧ e 1 = (Value.pointer r1) ∧ e 2 = (Value.pointer (some b4)) ∧ e 13 = (SV.v (SV.mk (some b8) 4 4)) ∧ e 14 = (Value.int .i64 ((SV.mk (some b8) 4 4).len : Int)) ∧ e 15 = (Value.int .i64 x9)) n13 ⟨_, h, rfl, rfl, rfl, rfl, rfl⟩ ?_
    clear h
    rintro n13 e12 w11 ⟨x9, h, f18, f19, f20, f21, f22⟩
    replace h := hr15 n13 x9 w11 h
    refine WE.seq ?_
    refine WE.reg ?_
    refine LE.p (v := (Value.bool (decide (x9 < ((SV.mk (some b8) 4 4).len : Int))))) (Wn.no rfl) rfl (R.lss f22 f21) ?_
    refine LE.nil ?_
    refine WE.seq ?_
    refine WE.condT rfl (b := (decide (x9 < ((SV.mk (some b8) 4 4).len : Int)))) rfl ?_ ?_
    · intro hb23
      replace h := M.ite_t h hb23
      refine WE.skip ?_
      refine WE.seq ?_
      refine WE.block ?_
      refine WE.seq ?_
      refine WE.reg ?_
      obtain ⟨a24, h25, h26, h27, h⟩ := h
      refine LE.p (v := (Value.pointer (some (a24.add (x9.toNat * 1))))) (Wn.no rfl) rfl (R.idx (s := (SV.mk (some b8) 4 4)) sl56 f20 f22 h25 h26 h27) ?_
      obtain ⟨t28, h29, h⟩ := h
      refine LE.r (v := (Value.int .u32 t28)) (Wn.no rfl) rfl (R.ld sc25 rfl h29) ?_
      refine LE.p (v := (Value.int .u32 t28)) (Wn.no rfl) rfl (R.assign rfl) ?_
      refine LE.nil ?_
      refine WE.seq ?_
      refine WE.reg ?_
      obtain ⟨b32, hpb32, w30, hww30, h⟩ := M.new_use h
      refine LE.r (v := (SV.v (SV.mk (some b32) 8 8))) (Wn.no rfl) rfl (R.bsl (by exact (Ls.cons (R.Pr rfl) (Ls.cons (R.Pr rfl) (Ls.cons (R.Pr rfl) (Ls.cons (R.Pr rfl) (Ls.cons (R.Pr rfl) (Ls.cons (R.Pr rfl) (Ls.cons (R.Pr rfl) (Ls.cons (R.Pr rfl) Ls.nil))))))))) (fun w => bs53_8 (32 : Int) (0 : Int) (8 : Int) (1 : Int) (16 : Int) (-1 : Int) (33 : Int) (0 : Int) w) hpb32 hww30) ?_
      refine LE.p (v := (Value.int .i64 ((SV.mk (some b32) 8 8).len : Int))) (Wn.no rfl) rfl (R.len sl53 rfl) ?_
      refine LE.p (v := (Value.int .i64 (0 : Int))) (Wn.no rfl) rfl (R.move rfl) ?_
      refine LE.nil ?_
      refine WE.block ?_
      obtain ⟨I38, ⟨n37, h⟩, hr39⟩ := h
      refine WE.loop (fun n e w => ∃ (x33 : Int), I38 n x33 w ∧ e 1 = (Value.pointer r1) ∧ e 2 = (Value.pointer (some b4)) ∧ e 4 = (Value.int .u32 t28) ∧ e 13 = (SV.v (SV.mk (some b8) 4 4)) ∧ e 14 = (Value.int .i64 ((SV.mk (some b8) 4 4).len : Int)) ∧ e 15 = (Value.int .i64 x9) ∧ e 19 = (SV.v (SV.mk (some b32) 8 8)) ∧ e 20 = (Value.int .i64 ((SV.mk (some b32) 8 8).len : Int)) ∧ e 21 = (Value.int .i64 x33)) n37 ⟨_, h, f18, f19, rfl, f20, f21, f22, rfl, rfl, rfl⟩ ?_
      clear h
      rintro n37 e36 w35 ⟨x33, h, f42, f43, f44, f45, f46, f47, f48, f49, f50⟩
      replace h := hr39 n37 x33 w35 h
      refine WE.seq ?_
      refine WE.reg ?_
      refine LE.p (v := (Value.bool (decide (x33 < ((SV.mk (some b32) 8 8).len : Int))))) (Wn.no rfl) rfl (R.lss f50 f49) ?_
      refine LE.nil ?_
      refine WE.seq ?_
      refine WE.condT rfl (b := (decide (x33 < ((SV.mk (some b32) 8 8).len : Int)))) rfl ?_ ?_
      · intro hb51
        replace h := M.ite_t h hb51
        refine WE.skip ?_
        refine WE.seq ?_
        refine WE.block ?_
        refine WE.seq ?_
        refine WE.reg ?_
        obtain ⟨a52, h53, h54, h55, h⟩ := h
        refine LE.p (v := (Value.pointer (some (a52.add (x33.toNat * 1))))) (Wn.no rfl) rfl (R.idx (s := (SV.mk (some b32) 8 8)) sl53 f48 f50 h53 h54 h55) ?_
        obtain ⟨t56, h57, h⟩ := h
        refine LE.r (v := (Value.int .i64 t56)) (Wn.no rfl) rfl (R.ld sc3 rfl h57) ?_
        refine LE.p (v := (Value.int .i64 t56)) (Wn.no rfl) rfl (R.assign rfl) ?_
        refine LE.nil ?_
        refine WE.seq ?_
        refine WE.reg ?_
        refine LE.p (v := (Value.int .i64 (1 : Int))) (Wn.no rfl) rfl (R.assign rfl) ?_
        refine LE.nil ?_
        refine WE.block ?_
        obtain ⟨I63, ⟨n62, h⟩, hr64⟩ := h
        refine WE.loop (fun n e w => ∃ (x58 : Int), I63 n x58 w ∧ e 1 = (Value.pointer r1) ∧ e 2 = (Value.pointer (some b4)) ∧ e 4 = (Value.int .u32 t28) ∧ e 6 = (Value.int .i64 t56) ∧ e 7 = (Value.int .i64 x58) ∧ e 13 = (SV.v (SV.mk (some b8) 4 4)) ∧ e 14 = (Value.int .i64 ((SV.mk (some b8) 4 4).len : Int)) ∧ e 15 = (Value.int .i64 x9) ∧ e 19 = (SV.v (SV.mk (some b32) 8 8)) ∧ e 20 = (Value.int .i64 ((SV.mk (some b32) 8 8).len : Int)) ∧ e 21 = (Value.int .i64 x33)) n62 ⟨_, h, f42, f43, f44, rfl, rfl, f45, f46, f47, f48, f49, f50⟩ ?_
        clear h
        rintro n62 e61 w60 ⟨x58, h, f67, f68, f69, f70, f71, f72, f73, f74, f75, f76, f77⟩
        replace h := hr64 n62 x58 w60 h
        refine WE.seq ?_
        refine WE.seq ?_
        refine WE.reg ?_
        refine LE.p (v := (Value.int .i64 x58)) (Wn.no rfl) rfl (R.move f71) ?_
        refine LE.p (v := (Value.bool (decide (x58 ≤ (5 : Int))))) (Wn.no rfl) rfl (R.leq rfl rfl) ?_
        refine LE.nil ?_
        refine WE.condT rfl (b := (decide (x58 ≤ (5 : Int)))) rfl ?_ ?_
        · intro hb78
          replace h := M.ite_t h hb78
          refine WE.skip ?_
          refine WE.seq ?_
          refine WE.block ?_
          refine WE.seq ?_
          refine WE.seq ?_
          obtain ⟨J79, hJ79, h⟩ := M.join_use h
          refine WE.regJ (fun e w => ∃ (x80 : Bool), J79 x80 w ∧ e 1 = (Value.pointer r1) ∧ e 2 = (Value.pointer (some b4)) ∧ e 4 = (Value.int .u32 t28) ∧ e 6 = (Value.int .i64 t56) ∧ e 7 = (Value.int .i64 x58) ∧ e 13 = (SV.v (SV.mk (some b8) 4 4)) ∧ e 14 = (Value.int .i64 ((SV.mk (some b8) 4 4).len : Int)) ∧ e 15 = (Value.int .i64 x9) ∧ e 19 = (SV.v (SV.mk (some b32) 8 8)) ∧ e 20 = (Value.int .i64 ((SV.mk (some b32) 8 8).len : Int)) ∧ e 21 = (Value.int .i64 x33) ∧ e 54 = (Value.bool x80)) ?_ ?_
          · clear hJ79
            refine LE.p (v := (Value.pointer r1)) (Wn.no rfl) rfl (R.move f67) ?_
            refine LE.p (v := (Value.pointer (some b4))) (Wn.no rfl) rfl (R.move f68) ?_
            refine LE.p (v := (Value.int .i64 x58)) (Wn.no rfl) rfl (R.move f71) ?_
            refine LE.p (v := (Value.int .u32 t28)) (Wn.no rfl) rfl (R.move f69) ?_
            refine LE.p (v := (Value.int .i64 t56)) (Wn.no rfl) rfl (R.move f70) ?_
            refine LE.p (v := (Value.int .i64 t56)) (Wn.no rfl) rfl (R.move f70) ?_
            refine LE.p (v := (Value.int .i64 x58)) (Wn.no rfl) rfl (R.move f71) ?_
            refine LE.p (v := (Value.int .i64 (IntKind.i64.wrap (t56 + x58)))) (Wn.no rfl) rfl (R.add rfl rfl) ?_
            refine LE.p (v := (Value.agg #[(Value.int .i64 x58), (Value.int .i64 t56), (Value.int .i64 (IntKind.i64.wrap (t56 + x58))), (Value.int .u32 t28), (Value.bool false)])) (Wn.no rfl) rfl (R.bld (by exact (Ls.cons (R.Pr rfl) (Ls.cons (R.Pr rfl) (Ls.cons (R.Pr rfl) (Ls.cons (R.Pr rfl) Ls.nil))))) (fun w => bu30_0_3_1_2 x58 t28 t56 (IntKind.i64.wrap (t56 + x58)) w)) ?_
            refine LE.c (Wn.no rfl) rfl (R.call bd26 (Ls.cons rfl (Ls.cons rfl (Ls.cons rfl Ls.nil))) rfl) (Calls.mono h ?_)
            rintro _ w82 ⟨r81, rfl, h⟩
            refine ⟨_, rfl, ?_⟩
            refine LE.p (v := (Value.bool (!r81))) (Wn.no rfl) rfl (R.not rfl) ?_
            refine LE.p (v := (Value.bool (!r81))) (Wn.no rfl) rfl (R.move rfl) ?_
            rcases M.ite_use h with ⟨hb83, h⟩ | ⟨hb83, h⟩
            · refine LE.u (Un.no 11 40 false rfl rfl rfl (congrArg Value.bool hb83)) ?_
              refine LE.u (Un.no 11 40 false rfl rfl rfl (congrArg Value.bool hb83)) ?_
              refine LE.u (Un.no 11 40 false rfl rfl rfl (congrArg Value.bool hb83)) ?_
              refine LE.u (Un.no 11 40 false rfl rfl rfl (congrArg Value.bool hb83)) ?_
              refine LE.u (Un.no 11 40 false rfl rfl rfl (congrArg Value.bool hb83)) ?_
              refine LE.u (Un.no 11 40 false rfl rfl rfl (congrArg Value.bool hb83)) ?_
              refine LE.u (Un.no 11 40 false rfl rfl rfl (congrArg Value.bool hb83)) ?_
              refine LE.p (v := (Value.bool true)) (Wn.no rfl) rfl (R.pickT (congrArg Value.bool hb83) rfl) ?_
              refine LE.p (v := (Value.bool true)) (Wn.no rfl) rfl (R.move rfl) ?_
              refine LE.u (Un.no 20 49 false rfl rfl rfl rfl) ?_
              refine LE.u (Un.no 20 49 false rfl rfl rfl rfl) ?_
              refine LE.u (Un.no 20 49 false rfl rfl rfl rfl) ?_
              refine LE.u (Un.no 20 49 false rfl rfl rfl rfl) ?_
              refine LE.p (v := (Value.bool true)) (Wn.no rfl) rfl (R.pickT rfl rfl) ?_
              refine LE.nil ?_
              exact ⟨_, h, f67, f68, f69, f70, f71, f72, f73, f74, f75, f76, f77, rfl⟩
            · refine LE.p (v := (Value.pointer r1)) (Wn.yes 11 40 false rfl rfl rfl (congrArg Value.bool hb83)) rfl (R.move f67) ?_
              refine LE.p (v := (Value.pointer (some b4))) (Wn.yes 11 40 false rfl rfl rfl (congrArg Value.bool hb83)) rfl (R.move f68) ?_
              refine LE.p (v := (Value.int .u32 t28)) (Wn.yes 11 40 false rfl rfl rfl (congrArg Value.bool hb83)) rfl (R.move f69) ?_
              refine LE.p (v := (Value.int .u32 (IntKind.u32.wrap (t28 + (1 : Int))))) (Wn.yes 11 40 false rfl rfl rfl (congrArg Value.bool hb83)) rfl (R.add rfl rfl) ?_
              refine LE.p (v := (Value.agg #[(Value.int .i64 (4 : Int)), (Value.int .i64 (0 : Int)), (Value.int .i64 (0 : Int)), (Value.int .u32 (IntKind.u32.wrap (t28 + (1 : Int)))), (Value.bool false)])) (Wn.yes 11 40 false rfl rfl rfl (congrArg Value.bool hb83)) rfl (R.bld (by exact (Ls.cons (R.Pr rfl) (Ls.cons (R.Pr rfl) Ls.nil))) (fun w => bu30_0_3 (4 : Int) (IntKind.u32.wrap (t28 + (1 : Int))) w)) ?_
              refine LE.c (Wn.yes 11 40 false rfl rfl rfl (congrArg Value.bool hb83)) rfl (R.call bd26 (Ls.cons rfl (Ls.cons rfl (Ls.cons rfl Ls.nil))) rfl) (Calls.mono h ?_)
              rintro _ w85 ⟨r84, rfl, h⟩
              refine ⟨_, rfl, ?_⟩
              refine LE.p (v := (Value.bool (!r84))) (Wn.yes 11 40 false rfl rfl rfl (congrArg Value.bool hb83)) rfl (R.not rfl) ?_
              refine LE.p (v := (Value.bool (!r84))) (Wn.no rfl) rfl (R.pickF (congrArg Value.bool hb83) rfl) ?_
              refine LE.p (v := (Value.bool (!r84))) (Wn.no rfl) rfl (R.move rfl) ?_
              rcases M.ite_use h with ⟨hb86, h⟩ | ⟨hb86, h⟩
              · refine LE.u (Un.no 20 49 false rfl rfl rfl (congrArg Value.bool hb86)) ?_
                refine LE.u (Un.no 20 49 false rfl rfl rfl (congrArg Value.bool hb86)) ?_
                refine LE.u (Un.no 20 49 false rfl rfl rfl (congrArg Value.bool hb86)) ?_
                refine LE.u (Un.no 20 49 false rfl rfl rfl (congrArg Value.bool hb86)) ?_
                refine LE.p (v := (Value.bool true)) (Wn.no rfl) rfl (R.pickT (congrArg Value.bool hb86) rfl) ?_
                refine LE.nil ?_
                exact ⟨_, h, f67, f68, f69, f70, f71, f72, f73, f74, f75, f76, f77, rfl⟩
              · refine LE.p (v := (Value.pointer r1)) (Wn.yes 20 49 false rfl rfl rfl (congrArg Value.bool hb86)) rfl (R.move f67) ?_
                refine LE.p (v := (Value.pointer (some b4))) (Wn.yes 20 49 false rfl rfl rfl (congrArg Value.bool hb86)) rfl (R.move f68) ?_
                refine LE.c (Wn.yes 20 49 false rfl rfl rfl (congrArg Value.bool hb86)) rfl (R.call bd27 (Ls.cons rfl (Ls.cons rfl Ls.nil)) rfl) (Calls.mono h ?_)
                rintro _ w88 ⟨r87, rfl, h⟩
                refine ⟨_, rfl, ?_⟩
                refine LE.p (v := (Value.bool (!r87))) (Wn.yes 20 49 false rfl rfl rfl (congrArg Value.bool hb86)) rfl (R.not rfl) ?_
                refine LE.p (v := (Value.bool (!r87))) (Wn.no rfl) rfl (R.pickF (congrArg Value.bool hb86) rfl) ?_
                refine LE.nil ?_
                exact ⟨_, h, f67, f68, f69, f70, f71, f72, f73, f74, f75, f76, f77, rfl⟩
          · rintro e89 w90 ⟨x80, h, f91, f92, f93, f94, f95, f96, f97, f98, f99, f100, f101, f102⟩
            subst hJ79
            refine WE.condT rfl (b := x80) f102 ?_ ?_
            · intro hb103
              replace h := M.ite_t h hb103
              refine WE.seq ?_
              refine WE.reg ?_
              refine LE.p (v := (Value.bool false)) (Wn.no rfl) rfl (R.assign rfl) ?_
              refine LE.nil ?_
              refine WE.ret ?_
              exact ⟨_, (Res.tmp rfl Res.nil), _, rfl, h⟩
            · intro hb103
              replace h := M.ite_f h hb103
              refine WE.skip ?_
              refine WE.seq ?_
              obtain ⟨J104, hJ104, h⟩ := M.join_use h
              refine WE.regJ (fun e w => ∃ (x105 : Bool), J104 x105 w ∧ e 1 = (Value.pointer r1) ∧ e 2 = (Value.pointer (some b4)) ∧ e 4 = (Value.int .u32 t28) ∧ e 6 = (Value.int .i64 t56) ∧ e 7 = (Value.int .i64 x58) ∧ e 13 = (SV.v (SV.mk (some b8) 4 4)) ∧ e 14 = (Value.int .i64 ((SV.mk (some b8) 4 4).len : Int)) ∧ e 15 = (Value.int .i64 x9) ∧ e 19 = (SV.v (SV.mk (some b32) 8 8)) ∧ e 20 = (Value.int .i64 ((SV.mk (some b32) 8 8).len : Int)) ∧ e 21 = (Value.int .i64 x33) ∧ e 66 = (Value.bool x105)) ?_ ?_
              · clear hJ104
                refine LE.p (v := (Value.int .i64 x58)) (Wn.no rfl) rfl (R.move f95) ?_
                refine LE.p (v := (Value.bool (x58 == (2 : Int)))) (Wn.no rfl) rfl (R.eql rfl rfl) ?_
                refine LE.p (v := (Value.bool (x58 == (2 : Int)))) (Wn.no rfl) rfl (R.move rfl) ?_
                rcases M.ite_use h with ⟨hb106, h⟩ | ⟨hb106, h⟩
                · refine LE.p (v := (Value.pointer r1)) (Wn.yes 2 57 true rfl rfl rfl (congrArg Value.bool hb106)) rfl (R.move f91) ?_
                  refine LE.p (v := (Value.pointer (some b4))) (Wn.yes 2 57 true rfl rfl rfl (congrArg Value.bool hb106)) rfl (R.move f92) ?_
                  refine LE.p (v := (Value.int .u32 t28)) (Wn.yes 2 57 true rfl rfl rfl (congrArg Value.bool hb106)) rfl (R.move f93) ?_
                  refine LE.p (v := (Value.int .i64 t56)) (Wn.yes 2 57 true rfl rfl rfl (congrArg Value.bool hb106)) rfl (R.move f94) ?_
                  refine LE.p (v := (Value.int .i64 t56)) (Wn.yes 2 57 true rfl rfl rfl (congrArg Value.bool hb106)) rfl (R.move f94) ?_
                  refine LE.p (v := (Value.agg #[(Value.int .i64 (1 : Int)), (Value.int .i64 t56), (Value.int .i64 t56), (Value.int .u32 t28), (Value.bool false)])) (Wn.yes 2 57 true rfl rfl rfl (congrArg Value.bool hb106)) rfl (R.bld (by exact (Ls.cons (R.Pr rfl) (Ls.cons (R.Pr rfl) (Ls.cons (R.Pr rfl) (Ls.cons (R.Pr rfl) Ls.nil))))) (fun w => bu30_0_3_1_2 (1 : Int) t28 t56 t56 w)) ?_
                  refine LE.c (Wn.yes 2 57 true rfl rfl rfl (congrArg Value.bool hb106)) rfl (R.call bd26 (Ls.cons rfl (Ls.cons rfl (Ls.cons rfl Ls.nil))) rfl) (Calls.mono h ?_)
                  rintro _ w108 ⟨r107, rfl, h⟩
                  refine ⟨_, rfl, ?_⟩
                  refine LE.p (v := (Value.bool (!r107))) (Wn.yes 2 57 true rfl rfl rfl (congrArg Value.bool hb106)) rfl (R.not rfl) ?_
                  refine LE.p (v := (Value.bool (!r107))) (Wn.no rfl) rfl (R.pickT (congrArg Value.bool hb106) rfl) ?_
                  refine LE.nil ?_
                  exact ⟨_, h, f91, f92, f93, f94, f95, f96, f97, f98, f99, f100, f101, rfl⟩
                · refine LE.u (Un.no 2 57 true rfl rfl rfl (congrArg Value.bool hb106)) ?_
                  refine LE.u (Un.no 2 57 true rfl rfl rfl (congrArg Value.bool hb106)) ?_
                  refine LE.u (Un.no 2 57 true rfl rfl rfl (congrArg Value.bool hb106)) ?_
                  refine LE.u (Un.no 2 57 true rfl rfl rfl (congrArg Value.bool hb106)) ?_
                  refine LE.u (Un.no 2 57 true rfl rfl rfl (congrArg Value.bool hb106)) ?_
                  refine LE.u (Un.no 2 57 true rfl rfl rfl (congrArg Value.bool hb106)) ?_
                  refine LE.u (Un.no 2 57 true rfl rfl rfl (congrArg Value.bool hb106)) ?_
                  refine LE.u (Un.no 2 57 true rfl rfl rfl (congrArg Value.bool hb106)) ?_
                  refine LE.p (v := (Value.bool false)) (Wn.no rfl) rfl (R.pickF (congrArg Value.bool hb106) rfl) ?_
                  refine LE.nil ?_
                  exact ⟨_, h, f91, f92, f93, f94, f95, f96, f97, f98, f99, f100, f101, rfl⟩
              · rintro e109 w110 ⟨x105, h, f111, f112, f113, f114, f115, f116, f117, f118, f119, f120, f121, f122⟩
                subst hJ104
                refine WE.condT rfl (b := x105) f122 ?_ ?_
                · intro hb123
                  replace h := M.ite_t h hb123
                  refine WE.seq ?_
                  refine WE.reg ?_
                  refine LE.p (v := (Value.bool false)) (Wn.no rfl) rfl (R.assign rfl) ?_
                  refine LE.nil ?_
                  refine WE.ret ?_
                  exact ⟨_, (Res.tmp rfl Res.nil), _, rfl, h⟩
                · intro hb123
                  replace h := M.ite_f h hb123
                  refine WE.skip ?_
                  refine WE.reg ?_
                  refine LE.p (v := (Value.int .i64 x58)) (Wn.no rfl) rfl (R.move f115) ?_
                  refine LE.p (v := (Value.int .i64 (IntKind.i64.wrap (x58 + (1 : Int))))) (Wn.no rfl) rfl (R.add rfl rfl) ?_
                  refine LE.p (v := (Value.int .i64 (IntKind.i64.wrap (x58 + (1 : Int))))) (Wn.no rfl) rfl (R.assign rfl) ?_
                  refine LE.nil ?_
                  obtain ⟨m65, hm66, h⟩ := h
                  exact ⟨m65, hm66, _, h, f111, f112, f113, f114, rfl, f116, f117, f118, f119, f120, f121⟩
        · intro hb78
          replace h := M.ite_f h hb78
          refine WE.exit ?_
          refine WE.reg ?_
          refine LE.p (v := (Value.int .i64 (IntKind.i64.wrap (x33 + (1 : Int))))) (Wn.no rfl) rfl (R.add f77 rfl) ?_
          refine LE.p (v := (Value.int .i64 (IntKind.i64.wrap (x33 + (1 : Int))))) (Wn.no rfl) rfl (R.move rfl) ?_
          refine LE.nil ?_
          obtain ⟨m40, hm41, h⟩ := h
          exact ⟨m40, hm41, _, h, f67, f68, f69, f72, f73, f74, f75, f76, rfl⟩
      · intro hb51
        replace h := M.ite_f h hb51
        refine WE.exit ?_
        refine WE.reg ?_
        refine LE.p (v := (Value.int .i64 (IntKind.i64.wrap (x9 + (1 : Int))))) (Wn.no rfl) rfl (R.add f47 rfl) ?_
        refine LE.p (v := (Value.int .i64 (IntKind.i64.wrap (x9 + (1 : Int))))) (Wn.no rfl) rfl (R.move rfl) ?_
        refine LE.nil ?_
        obtain ⟨m16, hm17, h⟩ := h
        exact ⟨m16, hm17, _, h, f42, f43, f45, f46, rfl⟩
    · intro hb23
      replace h := M.ite_f h hb23
      refine WE.exit ?_
      refine WE.seq ?_
      refine WE.reg ?_
      refine LE.c (Wn.no rfl) rfl (R.call bd19 Ls.nil rfl) (Calls.mono h ?_)
      rintro _ w125 ⟨r124, rfl, h⟩
      refine ⟨_, rfl, ?_⟩
      refine LE.p (v := (Value.bool r124)) (Wn.no rfl) rfl (R.assign rfl) ?_
      refine LE.nil ?_
      refine WE.ret ?_
      exact ⟨_, (Res.tmp rfl Res.nil), _, rfl, h⟩
/-- The formula of signpost.signpostlaw3.TriePlays. -/
def F8 (p0 : SV) (K : Bool → World → Prop) (w0 : World) : Prop :=
Calls Try.prog 10 #[] w0 (R10 fun r1 w2 =>
M.new (.cells #[(SV.v SV.nil), (SV.v SV.nil)] 55) w2 fun b4 w3 =>
M.ite (Option.isNone r1) (
K false w3) (
M.loop1 (fun (J7 : Int → World → Prop) (x6 : Int) (w8 : World) => 
M.join (fun (x20 : Bool) (w23 : World) => 
M.ite x20 (
M.join (fun (x31 : Bool) (w52 : World) => 
M.ite x31 (
K false w52) (
J7 (IntKind.i64.wrap (x6 + (1 : Int))) w52)) fun J30 => 
M.idx p0 x6 5 fun a32 =>
M.ld (Value.int .i64) (a32.add (x6.toNat * 5)) w23 fun t36 =>
M.ld (Value.int .i64) ((a32.add (x6.toNat * 5)).add 1) w23 fun t38 =>
M.ld (Value.int .i64) ((a32.add (x6.toNat * 5)).add 2) w23 fun t40 =>
M.ld (Value.int .u32) ((a32.add (x6.toNat * 5)).add 3) w23 fun t42 =>
M.ld Value.bool ((a32.add (x6.toNat * 5)).add 4) w23 fun t44 =>
Calls Try.prog 26 #[(Value.pointer r1), (Value.pointer (some b4)), (Value.agg #[(Value.int .i64 t36), (Value.int .i64 t38), (Value.int .i64 t40), (Value.int .u32 t42), (Value.bool t44)])] w23 (R26 fun r46 w47 =>
M.ite (!r46) (
J30 true w47) (
Calls Try.prog 27 #[(Value.pointer r1), (Value.pointer (some b4))] w47 (R27 fun r49 w50 =>
J30 (!r49) w50)))) (
Calls Try.prog 19 #[] w23 (R19 fun r59 w60 =>
K r59 w60))) fun J19 => 
M.ite (decide (x6 < (p0.len : Int))) (
J19 (decide (x6 < (80 : Int))) w8) (
J19 false w8)) (0 : Int) w3))
theorem F8_ok {w0 : World} {p0 : SV} {K : Bool → World → Prop} (h : F8 p0 K w0) : Calls Try.prog 8 #[(SV.v p0)] w0 (R8 K) := by
  refine calls_of_WE (args := [(SV.v p0)]) (rs := [.tmp 2]) Try.func8 rfl (N := 36) rfl rfl rfl rfl ?_
  refine WE.seq ?_
  refine WE.reg ?_
  refine LE.p (v := (Value.bool false)) (Wn.no rfl) rfl (R.assign rfl) ?_
  refine LE.nil ?_
  refine WE.seq ?_
  refine WE.reg ?_
  refine LE.c (Wn.no rfl) rfl (R.call bd10 Ls.nil rfl) (Calls.mono h ?_)
  rintro _ w2 ⟨r1, rfl, h⟩
  refine ⟨_, rfl, ?_⟩
  refine LE.p (v := (Value.pointer r1)) (Wn.no rfl) rfl (R.assign rfl) ?_
  refine LE.nil ?_
  refine WE.seq ?_
  refine WE.reg ?_
  refine LE.p (v := (Value.agg #[(SV.v SV.nil), (SV.v SV.nil)])) (Wn.no rfl) rfl (R.bld (by exact Ls.nil) (fun w => bu55_  w)) ?_
  obtain ⟨b4, hpb4, w3, hww3, h⟩ := M.new_use h
  refine LE.r (v := (Value.pointer (some b4))) (Wn.no rfl) rfl (R.box (cs := #[(SV.v SV.nil), (SV.v SV.nil)]) rfl rfl hpb4 hww3) ?_
  refine LE.p (v := (Value.pointer (some b4))) (Wn.no rfl) rfl (R.assign rfl) ?_
  refine LE.nil ?_
  refine WE.seq ?_
  refine WE.seq ?_
  refine WE.reg ?_
  refine LE.p (v := (Value.pointer r1)) (Wn.no rfl) rfl (R.move rfl) ?_
  refine LE.p (v := (Value.bool (Option.isNone r1))) (Wn.no rfl) rfl (R.peqNil pt23 rfl rfl) ?_
  refine LE.nil ?_
  refine WE.condT rfl (b := (Option.isNone r1)) rfl ?_ ?_
  · intro hb5
    replace h := M.ite_t h hb5
    refine WE.seq ?_
    refine WE.reg ?_
    refine LE.p (v := (Value.bool false)) (Wn.no rfl) rfl (R.assign rfl) ?_
    refine LE.nil ?_
    refine WE.ret ?_
    exact ⟨_, (Res.tmp rfl Res.nil), _, rfl, h⟩
  · intro hb5
    replace h := M.ite_f h hb5
    refine WE.skip ?_
    refine WE.seq ?_
    refine WE.seq ?_
    refine WE.reg ?_
    refine LE.p (v := (Value.int .i64 (0 : Int))) (Wn.no rfl) rfl (R.assign rfl) ?_
    refine LE.nil ?_
    refine WE.block ?_
    obtain ⟨I11, ⟨n10, h⟩, hr12⟩ := h
    refine WE.loop (fun n e w => ∃ (x6 : Int), I11 n x6 w ∧ e 0 = (SV.v p0) ∧ e 3 = (Value.pointer r1) ∧ e 4 = (Value.pointer (some b4)) ∧ e 5 = (Value.int .i64 x6)) n10 ⟨_, h, rfl, rfl, rfl, rfl⟩ ?_
    clear h
    rintro n10 e9 w8 ⟨x6, h, f15, f16, f17, f18⟩
    replace h := hr12 n10 x6 w8 h
    refine WE.seq ?_
    refine WE.seq ?_
    obtain ⟨J19, hJ19, h⟩ := M.join_use h
    refine WE.regJ (fun e w => ∃ (x20 : Bool), J19 x20 w ∧ e 0 = (SV.v p0) ∧ e 3 = (Value.pointer r1) ∧ e 4 = (Value.pointer (some b4)) ∧ e 5 = (Value.int .i64 x6) ∧ e 18 = (Value.bool x20)) ?_ ?_
    · clear hJ19
      refine LE.p (v := (Value.int .i64 x6)) (Wn.no rfl) rfl (R.move f18) ?_
      refine LE.p (v := (SV.v p0)) (Wn.no rfl) rfl (R.move f15) ?_
      refine LE.p (v := (Value.int .i64 (p0.len : Int))) (Wn.no rfl) rfl (R.len sl22 rfl) ?_
      refine LE.p (v := (Value.bool (decide (x6 < (p0.len : Int))))) (Wn.no rfl) rfl (R.lss rfl rfl) ?_
      refine LE.p (v := (Value.bool (decide (x6 < (p0.len : Int))))) (Wn.no rfl) rfl (R.move rfl) ?_
      rcases M.ite_use h with ⟨hb21, h⟩ | ⟨hb21, h⟩
      · refine LE.p (v := (Value.int .i64 x6)) (Wn.yes 4 15 true rfl rfl rfl (congrArg Value.bool hb21)) rfl (R.move f18) ?_
        refine LE.p (v := (Value.bool (decide (x6 < (80 : Int))))) (Wn.yes 4 15 true rfl rfl rfl (congrArg Value.bool hb21)) rfl (R.lss rfl rfl) ?_
        refine LE.p (v := (Value.bool (decide (x6 < (80 : Int))))) (Wn.no rfl) rfl (R.pickT (congrArg Value.bool hb21) rfl) ?_
        refine LE.nil ?_
        exact ⟨_, h, f15, f16, f17, f18, rfl⟩
      · refine LE.u (Un.no 4 15 true rfl rfl rfl (congrArg Value.bool hb21)) ?_
        refine LE.u (Un.no 4 15 true rfl rfl rfl (congrArg Value.bool hb21)) ?_
        refine LE.p (v := (Value.bool false)) (Wn.no rfl) rfl (R.pickF (congrArg Value.bool hb21) rfl) ?_
        refine LE.nil ?_
        exact ⟨_, h, f15, f16, f17, f18, rfl⟩
    · rintro e22 w23 ⟨x20, h, f24, f25, f26, f27, f28⟩
      subst hJ19
      refine WE.condT rfl (b := x20) f28 ?_ ?_
      · intro hb29
        replace h := M.ite_t h hb29
        refine WE.skip ?_
        refine WE.seq ?_
        refine WE.block ?_
        refine WE.seq ?_
        obtain ⟨J30, hJ30, h⟩ := M.join_use h
        refine WE.regJ (fun e w => ∃ (x31 : Bool), J30 x31 w ∧ e 0 = (SV.v p0) ∧ e 3 = (Value.pointer r1) ∧ e 4 = (Value.pointer (some b4)) ∧ e 5 = (Value.int .i64 x6) ∧ e 34 = (Value.bool x31)) ?_ ?_
        · clear hJ30
          refine LE.p (v := (Value.pointer r1)) (Wn.no rfl) rfl (R.move f25) ?_
          refine LE.p (v := (Value.pointer (some b4))) (Wn.no rfl) rfl (R.move f26) ?_
          refine LE.p (v := (SV.v p0)) (Wn.no rfl) rfl (R.move f24) ?_
          refine LE.p (v := (Value.int .i64 x6)) (Wn.no rfl) rfl (R.move f27) ?_
          obtain ⟨a32, h33, h34, h35, h⟩ := h
          refine LE.p (v := (Value.pointer (some (a32.add (x6.toNat * 5))))) (Wn.no rfl) rfl (R.idx (s := p0) sl22 rfl rfl h33 h34 h35) ?_
          obtain ⟨t36, h37, h⟩ := h
          obtain ⟨t38, h39, h⟩ := h
          obtain ⟨t40, h41, h⟩ := h
          obtain ⟨t42, h43, h⟩ := h
          obtain ⟨t44, h45, h⟩ := h
          refine LE.r (v := (Value.agg #[(Value.int .i64 t36), (Value.int .i64 t38), (Value.int .i64 t40), (Value.int .u32 t42), (Value.bool t44)])) (Wn.no rfl) rfl (R.ldA ag30 sz30 rfl rfl (Cs.cons h37 (Cs.cons h39 (Cs.cons h41 (Cs.cons h43 (Cs.cons h45 Cs.nil)))))) ?_
          refine LE.c (Wn.no rfl) rfl (R.call bd26 (Ls.cons rfl (Ls.cons rfl (Ls.cons rfl Ls.nil))) rfl) (Calls.mono h ?_)
          rintro _ w47 ⟨r46, rfl, h⟩
          refine ⟨_, rfl, ?_⟩
          refine LE.p (v := (Value.bool (!r46))) (Wn.no rfl) rfl (R.not rfl) ?_
          refine LE.p (v := (Value.bool (!r46))) (Wn.no rfl) rfl (R.move rfl) ?_
          rcases M.ite_use h with ⟨hb48, h⟩ | ⟨hb48, h⟩
          · refine LE.u (Un.no 8 29 false rfl rfl rfl (congrArg Value.bool hb48)) ?_
            refine LE.u (Un.no 8 29 false rfl rfl rfl (congrArg Value.bool hb48)) ?_
            refine LE.u (Un.no 8 29 false rfl rfl rfl (congrArg Value.bool hb48)) ?_
            refine LE.u (Un.no 8 29 false rfl rfl rfl (congrArg Value.bool hb48)) ?_
            refine LE.p (v := (Value.bool true)) (Wn.no rfl) rfl (R.pickT (congrArg Value.bool hb48) rfl) ?_
            refine LE.nil ?_
            exact ⟨_, h, f24, f25, f26, f27, rfl⟩
          · refine LE.p (v := (Value.pointer r1)) (Wn.yes 8 29 false rfl rfl rfl (congrArg Value.bool hb48)) rfl (R.move f25) ?_
            refine LE.p (v := (Value.pointer (some b4))) (Wn.yes 8 29 false rfl rfl rfl (congrArg Value.bool hb48)) rfl (R.move f26) ?_
            refine LE.c (Wn.yes 8 29 false rfl rfl rfl (congrArg Value.bool hb48)) rfl (R.call bd27 (Ls.cons rfl (Ls.cons rfl Ls.nil)) rfl) (Calls.mono h ?_)
            rintro _ w50 ⟨r49, rfl, h⟩
            refine ⟨_, rfl, ?_⟩
            refine LE.p (v := (Value.bool (!r49))) (Wn.yes 8 29 false rfl rfl rfl (congrArg Value.bool hb48)) rfl (R.not rfl) ?_
            refine LE.p (v := (Value.bool (!r49))) (Wn.no rfl) rfl (R.pickF (congrArg Value.bool hb48) rfl) ?_
            refine LE.nil ?_
            exact ⟨_, h, f24, f25, f26, f27, rfl⟩
        · rintro e51 w52 ⟨x31, h, f53, f54, f55, f56, f57⟩
          subst hJ30
          refine WE.condT rfl (b := x31) f57 ?_ ?_
          · intro hb58
            replace h := M.ite_t h hb58
            refine WE.seq ?_
            refine WE.reg ?_
            refine LE.p (v := (Value.bool false)) (Wn.no rfl) rfl (R.assign rfl) ?_
            refine LE.nil ?_
            refine WE.ret ?_
            exact ⟨_, (Res.tmp rfl Res.nil), _, rfl, h⟩
          · intro hb58
            replace h := M.ite_f h hb58
            refine WE.skip ?_
            refine WE.reg ?_
            refine LE.p (v := (Value.int .i64 x6)) (Wn.no rfl) rfl (R.move f56) ?_
            refine LE.p (v := (Value.int .i64 (IntKind.i64.wrap (x6 + (1 : Int))))) (Wn.no rfl) rfl (R.add rfl rfl) ?_
            refine LE.p (v := (Value.int .i64 (IntKind.i64.wrap (x6 + (1 : Int))))) (Wn.no rfl) rfl (R.assign rfl) ?_
            refine LE.nil ?_
            obtain ⟨m13, hm14, h⟩ := h
            exact ⟨m13, hm14, _, h, f53, f54, f55, rfl⟩
      · intro hb29
        replace h := M.ite_f h hb29
        refine WE.exit ?_
        refine WE.seq ?_
        refine WE.reg ?_
        refine LE.c (Wn.no rfl) rfl (R.call bd19 Ls.nil rfl) (Calls.mono h ?_)
        rintro _ w60 ⟨r59, rfl, h⟩
        refine ⟨_, rfl, ?_⟩
        refine LE.p (v := (Value.bool r59)) (Wn.no rfl) rfl (R.assign rfl) ?_
        refine LE.nil ?_
        refine WE.ret ?_
        exact ⟨_, (Res.tmp rfl Res.nil), _, rfl, h⟩
/-- The formula of signpost.signpostlaw3.TrieSmall. -/
def F9 (p0 : SV) (K : Bool → World → Prop) (w0 : World) : Prop :=
Calls Try.prog 10 #[] w0 (R10 fun r1 w2 =>
M.new (.cells #[(SV.v SV.nil), (SV.v SV.nil)] 55) w2 fun b4 w3 =>
M.ite (Option.isNone r1) (
K false w3) (
M.loop1 (fun (J7 : Int → World → Prop) (x6 : Int) (w8 : World) => 
M.join (fun (x20 : Bool) (w23 : World) => 
M.ite x20 (
M.idx p0 x6 5 fun a30 =>
M.ld (Value.int .i64) (a30.add (x6.toNat * 5)) w23 fun t34 =>
M.ld (Value.int .i64) ((a30.add (x6.toNat * 5)).add 1) w23 fun t36 =>
M.ld (Value.int .i64) ((a30.add (x6.toNat * 5)).add 2) w23 fun t38 =>
M.ld (Value.int .u32) ((a30.add (x6.toNat * 5)).add 3) w23 fun t40 =>
M.ld Value.bool ((a30.add (x6.toNat * 5)).add 4) w23 fun t42 =>
M.new (.cells #[(Value.int .i64 (0 : Int)), (Value.int .i64 (0 : Int)), (Value.int .i64 (0 : Int)), (Value.int .u32 (0 : Int)), (Value.bool false)] 30) w23 fun b45 w44 =>
M.stA b45 [(Value.int .i64 t34), (Value.int .i64 t36), (Value.int .i64 t38), (Value.int .u32 t40), (Value.bool t42)] w44 fun w46 =>
M.st (b45.add 4) (Value.bool true) w46 fun w48 =>
M.join (fun (w61 : World) => 
M.ld (Value.int .i64) b45 w61 fun t67 =>
M.ld (Value.int .i64) (b45.add 1) w61 fun t69 =>
M.ld (Value.int .i64) (b45.add 2) w61 fun t71 =>
M.ld (Value.int .u32) (b45.add 3) w61 fun t73 =>
M.ld Value.bool (b45.add 4) w61 fun t75 =>
Calls Try.prog 26 #[(Value.pointer r1), (Value.pointer (some b4)), (Value.agg #[(Value.int .i64 t67), (Value.int .i64 t69), (Value.int .i64 t71), (Value.int .u32 t73), (Value.bool t75)])] w61 (R26 fun r77 w78 =>
M.ite (!r77) (
K false w78) (
J7 (IntKind.i64.wrap (x6 + (1 : Int))) w78))) fun J51 => 
M.ld (Value.int .i64) b45 w48 fun t52 =>
M.ite (t52 == (4 : Int)) (
M.ld (Value.int .u32) (b45.add 3) w48 fun t55 =>
M.st (b45.add 3) (Value.int .u32 (bOr .u32 (167772160 : Int) (Int.tmod t55 (16777216 : Int)))) w48 fun w57 =>
J51 w57) (
J51 w48)) (
M.join (fun (x81 : Bool) (w88 : World) => 
K x81 w88) fun J80 => 
Calls Try.prog 27 #[(Value.pointer r1), (Value.pointer (some b4))] w23 (R27 fun r82 w83 =>
M.ite r82 (
Calls Try.prog 19 #[] w83 (R19 fun r85 w86 =>
J80 r85 w86)) (
J80 false w83)))) fun J19 => 
M.ite (decide (x6 < (p0.len : Int))) (
J19 (decide (x6 < (100 : Int))) w8) (
J19 false w8)) (0 : Int) w3))
theorem F9_ok {w0 : World} {p0 : SV} {K : Bool → World → Prop} (h : F9 p0 K w0) : Calls Try.prog 9 #[(SV.v p0)] w0 (R9 K) := by
  refine calls_of_WE (args := [(SV.v p0)]) (rs := [.tmp 2]) Try.func9 rfl (N := 46) rfl rfl rfl rfl ?_
  refine WE.seq ?_
  refine WE.reg ?_
  refine LE.p (v := (Value.bool false)) (Wn.no rfl) rfl (R.assign rfl) ?_
  refine LE.nil ?_
  refine WE.seq ?_
  refine WE.reg ?_
  refine LE.c (Wn.no rfl) rfl (R.call bd10 Ls.nil rfl) (Calls.mono h ?_)
  rintro _ w2 ⟨r1, rfl, h⟩
  refine ⟨_, rfl, ?_⟩
  refine LE.p (v := (Value.pointer r1)) (Wn.no rfl) rfl (R.assign rfl) ?_
  refine LE.nil ?_
  refine WE.seq ?_
  refine WE.reg ?_
  refine LE.p (v := (Value.agg #[(SV.v SV.nil), (SV.v SV.nil)])) (Wn.no rfl) rfl (R.bld (by exact Ls.nil) (fun w => bu55_  w)) ?_
  obtain ⟨b4, hpb4, w3, hww3, h⟩ := M.new_use h
  refine LE.r (v := (Value.pointer (some b4))) (Wn.no rfl) rfl (R.box (cs := #[(SV.v SV.nil), (SV.v SV.nil)]) rfl rfl hpb4 hww3) ?_
  refine LE.p (v := (Value.pointer (some b4))) (Wn.no rfl) rfl (R.assign rfl) ?_
  refine LE.nil ?_
  refine WE.seq ?_
  refine WE.seq ?_
  refine WE.reg ?_
  refine LE.p (v := (Value.pointer r1)) (Wn.no rfl) rfl (R.move rfl) ?_
  refine LE.p (v := (Value.bool (Option.isNone r1))) (Wn.no rfl) rfl (R.peqNil pt23 rfl rfl) ?_
  refine LE.nil ?_
  refine WE.condT rfl (b := (Option.isNone r1)) rfl ?_ ?_
  · intro hb5
    replace h := M.ite_t h hb5
    refine WE.seq ?_
    refine WE.reg ?_
    refine LE.p (v := (Value.bool false)) (Wn.no rfl) rfl (R.assign rfl) ?_
    refine LE.nil ?_
    refine WE.ret ?_
    exact ⟨_, (Res.tmp rfl Res.nil), _, rfl, h⟩
  · intro hb5
    replace h := M.ite_f h hb5
    refine WE.skip ?_
    refine WE.seq ?_
    refine WE.seq ?_
    refine WE.reg ?_
    refine LE.p (v := (Value.int .i64 (0 : Int))) (Wn.no rfl) rfl (R.assign rfl) ?_
    refine LE.nil ?_
    refine WE.block ?_
    obtain ⟨I11, ⟨n10, h⟩, hr12⟩ := h
    refine WE.loop (fun n e w => ∃ (x6 : Int), I11 n x6 w ∧ e 0 = (SV.v p0) ∧ e 3 = (Value.pointer r1) ∧ e 4 = (Value.pointer (some b4)) ∧ e 5 = (Value.int .i64 x6)) n10 ⟨_, h, rfl, rfl, rfl, rfl⟩ ?_
    clear h
    rintro n10 e9 w8 ⟨x6, h, f15, f16, f17, f18⟩
    replace h := hr12 n10 x6 w8 h
    refine WE.seq ?_
    refine WE.seq ?_
    obtain ⟨J19, hJ19, h⟩ := M.join_use h
    refine WE.regJ (fun e w => ∃ (x20 : Bool), J19 x20 w ∧ e 0 = (SV.v p0) ∧ e 3 = (Value.pointer r1) ∧ e 4 = (Value.pointer (some b4)) ∧ e 5 = (Value.int .i64 x6) ∧ e 19 = (Value.bool x20)) ?_ ?_
    · clear hJ19
      refine LE.p (v := (Value.int .i64 x6)) (Wn.no rfl) rfl (R.move f18) ?_
      refine LE.p (v := (SV.v p0)) (Wn.no rfl) rfl (R.move f15) ?_
      refine LE.p (v := (Value.int .i64 (p0.len : Int))) (Wn.no rfl) rfl (R.len sl22 rfl) ?_
      refine LE.p (v := (Value.bool (decide (x6 < (p0.len : Int))))) (Wn.no rfl) rfl (R.lss rfl rfl) ?_
      refine LE.p (v := (Value.bool (decide (x6 < (p0.len : Int))))) (Wn.no rfl) rfl (R.move rfl) ?_
      rcases M.ite_use h with ⟨hb21, h⟩ | ⟨hb21, h⟩
      · refine LE.p (v := (Value.int .i64 x6)) (Wn.yes 4 16 true rfl rfl rfl (congrArg Value.bool hb21)) rfl (R.move f18) ?_
        refine LE.p (v := (Value.bool (decide (x6 < (100 : Int))))) (Wn.yes 4 16 true rfl rfl rfl (congrArg Value.bool hb21)) rfl (R.lss rfl rfl) ?_
        refine LE.p (v := (Value.bool (decide (x6 < (100 : Int))))) (Wn.no rfl) rfl (R.pickT (congrArg Value.bool hb21) rfl) ?_
        refine LE.nil ?_
        exact ⟨_, h, f15, f16, f17, f18, rfl⟩
      · refine LE.u (Un.no 4 16 true rfl rfl rfl (congrArg Value.bool hb21)) ?_
        refine LE.u (Un.no 4 16 true rfl rfl rfl (congrArg Value.bool hb21)) ?_
        refine LE.p (v := (Value.bool false)) (Wn.no rfl) rfl (R.pickF (congrArg Value.bool hb21) rfl) ?_
        refine LE.nil ?_
        exact ⟨_, h, f15, f16, f17, f18, rfl⟩
    · rintro e22 w23 ⟨x20, h, f24, f25, f26, f27, f28⟩
      subst hJ19
      refine WE.condT rfl (b := x20) f28 ?_ ?_
      · intro hb29
        replace h := M.ite_t h hb29
        refine WE.skip ?_
        refine WE.seq ?_
        refine WE.block ?_
        refine WE.seq ?_
        refine WE.reg ?_
        refine LE.p (v := (SV.v p0)) (Wn.no rfl) rfl (R.move f24) ?_
        refine LE.p (v := (Value.int .i64 x6)) (Wn.no rfl) rfl (R.move f27) ?_
        obtain ⟨a30, h31, h32, h33, h⟩ := h
        refine LE.p (v := (Value.pointer (some (a30.add (x6.toNat * 5))))) (Wn.no rfl) rfl (R.idx (s := p0) sl22 rfl rfl h31 h32 h33) ?_
        obtain ⟨t34, h35, h⟩ := h
        obtain ⟨t36, h37, h⟩ := h
        obtain ⟨t38, h39, h⟩ := h
        obtain ⟨t40, h41, h⟩ := h
        obtain ⟨t42, h43, h⟩ := h
        refine LE.r (v := (Value.agg #[(Value.int .i64 t34), (Value.int .i64 t36), (Value.int .i64 t38), (Value.int .u32 t40), (Value.bool t42)])) (Wn.no rfl) rfl (R.ldA ag30 sz30 rfl rfl (Cs.cons h35 (Cs.cons h37 (Cs.cons h39 (Cs.cons h41 (Cs.cons h43 Cs.nil)))))) ?_
        obtain ⟨b45, hpb45, w44, hww44, h⟩ := M.new_use h
        refine LE.r (v := (Value.pointer (some b45))) (Wn.no rfl) rfl (R.alloc (cs := #[(Value.int .i64 (0 : Int)), (Value.int .i64 (0 : Int)), (Value.int .i64 (0 : Int)), (Value.int .u32 (0 : Int)), (Value.bool false)]) ze30 rfl hpb45 hww44) ?_
        obtain ⟨w46, hww46, h47, h⟩ := M.stA_use h
        refine LE.s (Wn.no rfl) rfl (R.stA (a := b45) [(Value.int .i64 t34), (Value.int .i64 t36), (Value.int .i64 t38), (Value.int .u32 t40), (Value.bool t42)] sz30 rfl rfl rfl (by simp [Value.oneCell']) h47 hww46) ?_
        refine LE.nil ?_
        refine WE.seq ?_
        refine WE.reg ?_
        refine LE.p (v := (Value.pointer (some (b45.add 4)))) (Wn.no rfl) rfl (R.fld (off := 4) fa30_4 rfl) ?_
        obtain ⟨w48, hww48, h49, h50, h⟩ := M.st_use h
        refine LE.s (Wn.no rfl) rfl (R.st (a := (b45.add 4)) (v := (Value.bool true)) sz4 rfl rfl rfl rfl h49 h50 hww48) ?_
        refine LE.nil ?_
        obtain ⟨J51, hJ51, h⟩ := M.join_use h
        refine WE.join (fun e w => J51 w ∧ e 0 = (SV.v p0) ∧ e 3 = (Value.pointer r1) ∧ e 4 = (Value.pointer (some b4)) ∧ e 5 = (Value.int .i64 x6) ∧ e 6 = (Value.pointer (some b45))) ?_ ?_
        · clear hJ51
          refine WE.seq ?_
          refine WE.reg ?_
          refine LE.p (v := (Value.pointer (some b45))) (Wn.no rfl) rfl (R.fld (off := 0) fa30_0 rfl) ?_
          obtain ⟨t52, h53, h⟩ := h
          refine LE.r (v := (Value.int .i64 t52)) (Wn.no rfl) rfl (R.ld sc3 rfl h53) ?_
          refine LE.p (v := (Value.bool (t52 == (4 : Int)))) (Wn.no rfl) rfl (R.eql rfl rfl) ?_
          refine LE.nil ?_
          refine WE.condT rfl (b := (t52 == (4 : Int))) rfl ?_ ?_
          · intro hb54
            replace h := M.ite_t h hb54
            refine WE.reg ?_
            refine LE.p (v := (Value.pointer (some (b45.add 3)))) (Wn.no rfl) rfl (R.fld (off := 3) fa30_3 rfl) ?_
            obtain ⟨t55, h56, h⟩ := h
            refine LE.r (v := (Value.int .u32 t55)) (Wn.no rfl) rfl (R.ld sc25 rfl h56) ?_
            refine LE.p (v := (Value.int .u32 (Int.tmod t55 (16777216 : Int)))) (Wn.no rfl) rfl (R.rem rfl rfl (by decide)) ?_
            refine LE.p (v := (Value.int .u32 (bOr .u32 (167772160 : Int) (Int.tmod t55 (16777216 : Int))))) (Wn.no rfl) rfl (R.or rfl rfl) ?_
            refine LE.p (v := (Value.pointer (some (b45.add 3)))) (Wn.no rfl) rfl (R.fld (off := 3) fa30_3 rfl) ?_
            obtain ⟨w57, hww57, h58, h59, h⟩ := M.st_use h
            refine LE.s (Wn.no rfl) rfl (R.st (a := (b45.add 3)) (v := (Value.int .u32 (bOr .u32 (167772160 : Int) (Int.tmod t55 (16777216 : Int))))) sz25 rfl rfl rfl rfl h58 h59 hww57) ?_
            refine LE.nil ?_
            exact ⟨h, f24, f25, f26, f27, rfl⟩
          · intro hb54
            replace h := M.ite_f h hb54
            refine WE.skip ?_
            exact ⟨h, f24, f25, f26, f27, rfl⟩
        · rintro e60 w61 ⟨h, f62, f63, f64, f65, f66⟩
          subst hJ51
          refine WE.seq ?_
          refine WE.reg ?_
          refine LE.p (v := (Value.pointer r1)) (Wn.no rfl) rfl (R.move f63) ?_
          refine LE.p (v := (Value.pointer (some b4))) (Wn.no rfl) rfl (R.move f64) ?_
          obtain ⟨t67, h68, h⟩ := h
          obtain ⟨t69, h70, h⟩ := h
          obtain ⟨t71, h72, h⟩ := h
          obtain ⟨t73, h74, h⟩ := h
          obtain ⟨t75, h76, h⟩ := h
          refine LE.r (v := (Value.agg #[(Value.int .i64 t67), (Value.int .i64 t69), (Value.int .i64 t71), (Value.int .u32 t73), (Value.bool t75)])) (Wn.no rfl) rfl (R.ldA ag30 sz30 f66 rfl (Cs.cons h68 (Cs.cons h70 (Cs.cons h72 (Cs.cons h74 (Cs.cons h76 Cs.nil)))))) ?_
          refine LE.c (Wn.no rfl) rfl (R.call bd26 (Ls.cons rfl (Ls.cons rfl (Ls.cons rfl Ls.nil))) rfl) (Calls.mono h ?_)
          rintro _ w78 ⟨r77, rfl, h⟩
          refine ⟨_, rfl, ?_⟩
          refine LE.p (v := (Value.bool (!r77))) (Wn.no rfl) rfl (R.not rfl) ?_
          refine LE.nil ?_
          refine WE.condT rfl (b := (!r77)) rfl ?_ ?_
          · intro hb79
            replace h := M.ite_t h hb79
            refine WE.seq ?_
            refine WE.reg ?_
            refine LE.p (v := (Value.bool false)) (Wn.no rfl) rfl (R.assign rfl) ?_
            refine LE.nil ?_
            refine WE.ret ?_
            exact ⟨_, (Res.tmp rfl Res.nil), _, rfl, h⟩
          · intro hb79
            replace h := M.ite_f h hb79
            refine WE.skip ?_
            refine WE.reg ?_
            refine LE.p (v := (Value.int .i64 x6)) (Wn.no rfl) rfl (R.move f65) ?_
            refine LE.p (v := (Value.int .i64 (IntKind.i64.wrap (x6 + (1 : Int))))) (Wn.no rfl) rfl (R.add rfl rfl) ?_
            refine LE.p (v := (Value.int .i64 (IntKind.i64.wrap (x6 + (1 : Int))))) (Wn.no rfl) rfl (R.assign rfl) ?_
            refine LE.nil ?_
            obtain ⟨m13, hm14, h⟩ := h
            exact ⟨m13, hm14, _, h, f62, f63, f64, rfl⟩
      · intro hb29
        replace h := M.ite_f h hb29
        refine WE.exit ?_
        refine WE.seq ?_
        obtain ⟨J80, hJ80, h⟩ := M.join_use h
        refine WE.regJ (fun e w => ∃ (x81 : Bool), J80 x81 w ∧ e 2 = (Value.bool x81)) ?_ ?_
        · clear hJ80
          refine LE.p (v := (Value.pointer r1)) (Wn.no rfl) rfl (R.move f25) ?_
          refine LE.p (v := (Value.pointer (some b4))) (Wn.no rfl) rfl (R.move f26) ?_
          refine LE.c (Wn.no rfl) rfl (R.call bd27 (Ls.cons rfl (Ls.cons rfl Ls.nil)) rfl) (Calls.mono h ?_)
          rintro _ w83 ⟨r82, rfl, h⟩
          refine ⟨_, rfl, ?_⟩
          refine LE.p (v := (Value.bool r82)) (Wn.no rfl) rfl (R.move rfl) ?_
          rcases M.ite_use h with ⟨hb84, h⟩ | ⟨hb84, h⟩
          · refine LE.c (Wn.yes 3 43 true rfl rfl rfl (congrArg Value.bool hb84)) rfl (R.call bd19 Ls.nil rfl) (Calls.mono h ?_)
            rintro _ w86 ⟨r85, rfl, h⟩
            refine ⟨_, rfl, ?_⟩
            refine LE.p (v := (Value.bool r85)) (Wn.no rfl) rfl (R.pickT (congrArg Value.bool hb84) rfl) ?_
            refine LE.p (v := (Value.bool r85)) (Wn.no rfl) rfl (R.assign rfl) ?_
            refine LE.nil ?_
            exact ⟨_, h, rfl⟩
          · refine LE.u (Un.no 3 43 true rfl rfl rfl (congrArg Value.bool hb84)) ?_
            refine LE.p (v := (Value.bool false)) (Wn.no rfl) rfl (R.pickF (congrArg Value.bool hb84) rfl) ?_
            refine LE.p (v := (Value.bool false)) (Wn.no rfl) rfl (R.assign rfl) ?_
            refine LE.nil ?_
            exact ⟨_, h, rfl⟩
        · rintro e87 w88 ⟨x81, h, f89⟩
          subst hJ80
          refine WE.ret ?_
          exact ⟨_, (Res.tmp f89 Res.nil), _, rfl, h⟩
/-- The formula of signpost.trie.New. -/
def F10  (K : Option Addr → World → Prop) (w0 : World) : Prop :=
M.new (.cells #[(Value.pointer (none : Option Addr)), (Value.pointer (none : Option Addr)), (Value.bool false), (Value.int .i64 (0 : Int)), (Value.int .i64 (0 : Int))] 65) w0 fun b2 w1 =>
K (some b2) w1
theorem F10_ok {w0 : World}  {K : Option Addr → World → Prop} (h : F10 K w0) : Calls Try.prog 10 #[] w0 (R10 K) := by
  refine calls_of_WE (args := []) (rs := [.tmp 0]) Try.func10 rfl (N := 3) rfl rfl rfl rfl ?_
  refine WE.seq ?_
  refine WE.reg ?_
  refine LE.p (v := (Value.pointer (none : Option Addr))) (Wn.no rfl) rfl (R.assign rfl) ?_
  refine LE.nil ?_
  refine WE.seq ?_
  refine WE.reg ?_
  refine LE.p (v := (Value.agg #[(Value.pointer (none : Option Addr)), (Value.pointer (none : Option Addr)), (Value.bool false), (Value.int .i64 (0 : Int)), (Value.int .i64 (0 : Int))])) (Wn.no rfl) rfl (R.bld (by exact Ls.nil) (fun w => bu65_  w)) ?_
  obtain ⟨b2, hpb2, w1, hww1, h⟩ := M.new_use h
  refine LE.r (v := (Value.pointer (some b2))) (Wn.no rfl) rfl (R.box (cs := #[(Value.pointer (none : Option Addr)), (Value.pointer (none : Option Addr)), (Value.bool false), (Value.int .i64 (0 : Int)), (Value.int .i64 (0 : Int))]) rfl rfl hpb2 hww1) ?_
  refine LE.p (v := (Value.pointer (some b2))) (Wn.no rfl) rfl (R.assign rfl) ?_
  refine LE.nil ?_
  refine WE.ret ?_
  exact ⟨_, (Res.tmp rfl Res.nil), _, rfl, h⟩
/-- The formula of signpost.signpostkeep.Prefix. -/
def F11 (p0 : Int) (p1 : Int) (K : Int → Int → World → Prop) (w0 : World) : Prop :=
M.new (.cells #[(Value.int .u32 (0 : Int)), (Value.int .i64 (0 : Int))] 27) w0 fun b2 w1 =>
Calls Try.prog 13 #[(Value.int .i64 p1), (Value.int .i64 (0 : Int)), (Value.int .i64 (6 : Int))] w1 (R13 fun r3 w4 =>
Calls Try.prog 28 #[(Value.int .u32 (bOr .u32 (167772160 : Int) (bShl .u32 (Int.tmod p0 (64 : Int)) (18 : Int)))), (Value.int .i64 (IntKind.i64.wrap ((8 : Int) + r3)))] w4 (R28 fun r5 r6 w7 =>
M.stA b2 [(Value.int .u32 r5), (Value.int .i64 r6)] w7 fun w8 =>
M.ld (Value.int .u32) b2 w8 fun t10 =>
M.ld (Value.int .i64) (b2.add 1) w8 fun t12 =>
K t10 t12 w8))
theorem F11_ok {w0 : World} {p0 : Int} {p1 : Int} {K : Int → Int → World → Prop} (h : F11 p0 p1 K w0) : Calls Try.prog 11 #[(Value.int .u32 p0), (Value.int .i64 p1)] w0 (R11 K) := by
  refine calls_of_WE (args := [(Value.int .u32 p0), (Value.int .i64 p1)]) (rs := [.cell 4 27]) Try.func11 rfl (N := 13) rfl rfl rfl rfl ?_
  refine WE.seq ?_
  refine WE.reg ?_
  obtain ⟨b2, hpb2, w1, hww1, h⟩ := M.new_use h
  refine LE.r (v := (Value.pointer (some b2))) (Wn.no rfl) rfl (R.alloc (cs := #[(Value.int .u32 (0 : Int)), (Value.int .i64 (0 : Int))]) ze27 rfl hpb2 hww1) ?_
  refine LE.nil ?_
  refine WE.seq ?_
  refine WE.reg ?_
  refine LE.p (v := (Value.int .u32 p0)) (Wn.no rfl) rfl (R.move rfl) ?_
  refine LE.p (v := (Value.int .u32 (Int.tmod p0 (64 : Int)))) (Wn.no rfl) rfl (R.rem rfl rfl (by decide)) ?_
  refine LE.p (v := (Value.int .u32 (bShl .u32 (Int.tmod p0 (64 : Int)) (18 : Int)))) (Wn.no rfl) rfl (R.shl rfl rfl (by decide)) ?_
  refine LE.p (v := (Value.int .u32 (bOr .u32 (167772160 : Int) (bShl .u32 (Int.tmod p0 (64 : Int)) (18 : Int))))) (Wn.no rfl) rfl (R.or rfl rfl) ?_
  refine LE.p (v := (Value.int .i64 p1)) (Wn.no rfl) rfl (R.move rfl) ?_
  refine LE.c (Wn.no rfl) rfl (R.call bd13 (Ls.cons rfl (Ls.cons rfl (Ls.cons rfl Ls.nil))) rfl) (Calls.mono h ?_)
  rintro _ w4 ⟨r3, rfl, h⟩
  refine ⟨_, rfl, ?_⟩
  refine LE.p (v := (Value.int .i64 (IntKind.i64.wrap ((8 : Int) + r3)))) (Wn.no rfl) rfl (R.add rfl rfl) ?_
  refine LE.c (Wn.no rfl) rfl (R.call bd28 (Ls.cons rfl (Ls.cons rfl Ls.nil)) rfl) (Calls.mono h ?_)
  rintro _ w7 ⟨r5, r6, rfl, h⟩
  refine ⟨_, rfl, ?_⟩
  obtain ⟨w8, hww8, h9, h⟩ := M.stA_use h
  refine LE.s (Wn.no rfl) rfl (R.stA (a := b2) [(Value.int .u32 r5), (Value.int .i64 r6)] sz27 rfl rfl rfl (by simp [Value.oneCell']) h9 hww8) ?_
  refine LE.nil ?_
  refine WE.ret ?_
  obtain ⟨t10, h11, h⟩ := h
  obtain ⟨t12, h13, h⟩ := h
  exact ⟨_, (Res.cell rfl (R.ldCellA ag27 sz27 rfl (Cs.cons h11 (Cs.cons h13 Cs.nil))) Res.nil), _, _, rfl, h⟩
/-- The formula of (*signpost.trie.Trie).Put. -/
def F12 (p0 : Option Addr) (p1_0 : Int) (p1_1 : Int) (p2 : Int) (K : Bool → World → Prop) (w0 : World) : Prop :=
M.new (.cells #[(Value.int .u32 p1_0), (Value.int .i64 p1_1)] 27) w0 fun b2 w1 =>
M.ld (Value.int .u32) b2 w1 fun t3 =>
M.ld (Value.int .i64) (b2.add 1) w1 fun t5 =>
Calls Try.prog 29 #[(Value.agg #[(Value.int .u32 t3), (Value.int .i64 t5)])] w1 (R29 fun r7 w8 =>
M.ite (!r7) (
K false w8) (
M.nil p0 fun a10 =>
M.ld (Value.int .i64) (b2.add 1) w8 fun t12 =>
M.loop2 (fun (J16 : Option Addr → Int → World → Prop) (x14 : Option Addr) (x15 : Int) (w17 : World) => 
M.ite (decide (x15 < t12)) (
M.ld (Value.int .u32) b2 w17 fun t31 =>
Calls Try.prog 30 #[(Value.int .u32 t31), (Value.int .i64 x15)] w17 (R30 fun r33 w34 =>
M.join (fun (w53 : World) => 
M.nil x14 fun a61 =>
M.inb r33 2 <|
M.ld Value.pointer (a61.add (r33.toNat * 1)) w53 fun t65 =>
J16 t65 (IntKind.i64.wrap (x15 + (1 : Int))) w53) fun J35 => 
M.nil x14 fun a36 =>
M.inb r33 2 <|
M.ld Value.pointer (a36.add (r33.toNat * 1)) w34 fun t40 =>
M.ite (Option.isNone t40) (
M.new (.cells #[(Value.pointer (none : Option Addr)), (Value.pointer (none : Option Addr)), (Value.bool false), (Value.int .i64 (0 : Int))] 63) w34 fun b44 w43 =>
M.nil x14 fun a45 =>
M.inb r33 2 <|
M.st (a45.add (r33.toNat * 1)) (Value.pointer (some b44)) w43 fun w49 =>
J35 w49) (
J35 w34))) (
M.nil x14 fun a67 =>
M.ld Value.bool (a67.add 2) w17 fun t69 =>
M.nil x14 fun a71 =>
M.st (a71.add 2) (Value.bool true) w17 fun w73 =>
M.nil x14 fun a76 =>
M.st (a76.add 3) (Value.int .i64 p2) w73 fun w78 =>
M.join (fun (w93 : World) => 
K (!t69) w93) fun J81 => 
M.ite (!t69) (
M.nil p0 fun a83 =>
M.ld (Value.int .i64) (a83.add 4) w78 fun t85 =>
M.nil p0 fun a87 =>
M.st (a87.add 4) (Value.int .i64 (IntKind.i64.wrap (t85 + (1 : Int)))) w78 fun w89 =>
J81 w89) (
J81 w78))) (some a10) (0 : Int) w8))
theorem F12_ok {w0 : World} {p0 : Option Addr} {p1_0 : Int} {p1_1 : Int} {p2 : Int} {K : Bool → World → Prop} (h : F12 p0 p1_0 p1_1 p2 K w0) : Calls Try.prog 12 #[(Value.pointer p0), (Value.agg #[(Value.int .u32 p1_0), (Value.int .i64 p1_1)]), (Value.int .i64 p2)] w0 (R12 K) := by
  refine calls_of_WE (args := [(Value.pointer p0), (Value.agg #[(Value.int .u32 p1_0), (Value.int .i64 p1_1)]), (Value.int .i64 p2)]) (rs := [.tmp 6]) Try.func12 rfl (N := 68) rfl rfl rfl rfl ?_
  refine WE.seq ?_
  refine WE.reg ?_
  obtain ⟨b2, hpb2, w1, hww1, h⟩ := M.new_use h
  refine LE.r (v := (Value.pointer (some b2))) (Wn.no rfl) rfl (R.box (cs := #[(Value.int .u32 p1_0), (Value.int .i64 p1_1)]) rfl rfl hpb2 hww1) ?_
  refine LE.p (v := (Value.bool false)) (Wn.no rfl) rfl (R.assign rfl) ?_
  refine LE.nil ?_
  refine WE.seq ?_
  refine WE.seq ?_
  refine WE.reg ?_
  obtain ⟨t3, h4, h⟩ := h
  obtain ⟨t5, h6, h⟩ := h
  refine LE.r (v := (Value.agg #[(Value.int .u32 t3), (Value.int .i64 t5)])) (Wn.no rfl) rfl (R.ldA ag27 sz27 rfl rfl (Cs.cons h4 (Cs.cons h6 Cs.nil))) ?_
  refine LE.c (Wn.no rfl) rfl (R.call bd29 (Ls.cons rfl Ls.nil) rfl) (Calls.mono h ?_)
  rintro _ w8 ⟨r7, rfl, h⟩
  refine ⟨_, rfl, ?_⟩
  refine LE.p (v := (Value.bool (!r7))) (Wn.no rfl) rfl (R.not rfl) ?_
  refine LE.nil ?_
  refine WE.condT rfl (b := (!r7)) rfl ?_ ?_
  · intro hb9
    replace h := M.ite_t h hb9
    refine WE.seq ?_
    refine WE.reg ?_
    refine LE.p (v := (Value.bool false)) (Wn.no rfl) rfl (R.assign rfl) ?_
    refine LE.nil ?_
    refine WE.ret ?_
    exact ⟨_, (Res.tmp rfl Res.nil), _, rfl, h⟩
  · intro hb9
    replace h := M.ite_f h hb9
    refine WE.skip ?_
    refine WE.seq ?_
    refine WE.reg ?_
    refine LE.p (v := (Value.pointer p0)) (Wn.no rfl) rfl (R.move rfl) ?_
    obtain ⟨a10, h11, h⟩ := h
    refine LE.p (v := (Value.pointer (some a10))) (Wn.no rfl) rfl (R.nilC (congrArg Value.pointer h11)) ?_
    refine LE.p (v := (Value.pointer (some a10))) (Wn.no rfl) rfl (R.fld (off := 0) fa65_0 rfl) ?_
    refine LE.p (v := (Value.pointer (some a10))) (Wn.no rfl) rfl (R.assign rfl) ?_
    refine LE.nil ?_
    refine WE.seq ?_
    refine WE.seq ?_
    refine WE.reg ?_
    refine LE.p (v := (Value.pointer (some (b2.add 1)))) (Wn.no rfl) rfl (R.fld (off := 1) fa27_1 rfl) ?_
    obtain ⟨t12, h13, h⟩ := h
    refine LE.r (v := (Value.int .i64 t12)) (Wn.no rfl) rfl (R.ld sc3 rfl h13) ?_
    refine LE.p (v := (Value.int .i64 (0 : Int))) (Wn.no rfl) rfl (R.move rfl) ?_
    refine LE.nil ?_
    refine WE.block ?_
    obtain ⟨I20, ⟨n19, h⟩, hr21⟩ := h
    refine WE.loop (fun n e w => ∃ (x14 : Option Addr) (x15 : Int), I20 n x14 x15 w ∧ e 0 = (Value.pointer p0) ∧ e 2 = (Value.int .i64 p2) ∧ e 4 = (Value.pointer (some b2)) ∧ e 7 = (Value.pointer x14) ∧ e 18 = (Value.int .i64 t12) ∧ e 19 = (Value.int .i64 x15)) n19 ⟨_, _, h, rfl, rfl, rfl, rfl, rfl, rfl⟩ ?_
    clear h
    rintro n19 e18 w17 ⟨x14, x15, h, f24, f25, f26, f27, f28, f29⟩
    replace h := hr21 n19 x14 x15 w17 h
    refine WE.seq ?_
    refine WE.reg ?_
    refine LE.p (v := (Value.bool (decide (x15 < t12)))) (Wn.no rfl) rfl (R.lss f29 f28) ?_
    refine LE.nil ?_
    refine WE.seq ?_
    refine WE.condT rfl (b := (decide (x15 < t12))) rfl ?_ ?_
    · intro hb30
      replace h := M.ite_t h hb30
      refine WE.skip ?_
      refine WE.seq ?_
      refine WE.block ?_
      refine WE.seq ?_
      refine WE.reg ?_
      refine LE.p (v := (Value.int .i64 x15)) (Wn.no rfl) rfl (R.move f29) ?_
      refine LE.p (v := (Value.int .i64 x15)) (Wn.no rfl) rfl (R.assign rfl) ?_
      refine LE.nil ?_
      refine WE.seq ?_
      refine WE.reg ?_
      refine LE.p (v := (Value.pointer (some b2))) (Wn.no rfl) rfl (R.fld (off := 0) fa27_0 f26) ?_
      obtain ⟨t31, h32, h⟩ := h
      refine LE.r (v := (Value.int .u32 t31)) (Wn.no rfl) rfl (R.ld sc25 rfl h32) ?_
      refine LE.p (v := (Value.int .i64 x15)) (Wn.no rfl) rfl (R.move rfl) ?_
      refine LE.c (Wn.no rfl) rfl (R.call bd30 (Ls.cons rfl (Ls.cons rfl Ls.nil)) rfl) (Calls.mono h ?_)
      rintro _ w34 ⟨r33, rfl, h⟩
      refine ⟨_, rfl, ?_⟩
      refine LE.p (v := (Value.int .i64 r33)) (Wn.no rfl) rfl (R.assign rfl) ?_
      refine LE.nil ?_
      obtain ⟨J35, hJ35, h⟩ := M.join_use h
      refine WE.join (fun e w => J35 w ∧ e 0 = (Value.pointer p0) ∧ e 2 = (Value.int .i64 p2) ∧ e 4 = (Value.pointer (some b2)) ∧ e 7 = (Value.pointer x14) ∧ e 9 = (Value.int .i64 r33) ∧ e 18 = (Value.int .i64 t12) ∧ e 19 = (Value.int .i64 x15)) ?_ ?_
      · clear hJ35
        refine WE.seq ?_
        refine WE.reg ?_
        refine LE.p (v := (Value.pointer x14)) (Wn.no rfl) rfl (R.move f27) ?_
        refine LE.p (v := (Value.int .i64 r33)) (Wn.no rfl) rfl (R.move rfl) ?_
        obtain ⟨a36, h37, h⟩ := h
        refine LE.p (v := (Value.pointer (some a36))) (Wn.no rfl) rfl (R.nilC (congrArg Value.pointer h37)) ?_
        refine LE.p (v := (Value.pointer (some a36))) (Wn.no rfl) rfl (R.fld (off := 0) fa63_0 rfl) ?_
        obtain ⟨h38, h39, h⟩ := h
        refine LE.p (v := (Value.pointer (some (a36.add (r33.toNat * 1))))) (Wn.no rfl) rfl (R.idxArr ar61 rfl rfl h38 h39) ?_
        obtain ⟨t40, h41, h⟩ := h
        refine LE.r (v := (Value.pointer t40)) (Wn.no rfl) rfl (R.ld sc60 rfl h41) ?_
        refine LE.p (v := (Value.bool (Option.isNone t40))) (Wn.no rfl) rfl (R.peqNil pt60 rfl rfl) ?_
        refine LE.nil ?_
        refine WE.condT rfl (b := (Option.isNone t40)) rfl ?_ ?_
        · intro hb42
          replace h := M.ite_t h hb42
          refine WE.reg ?_
          refine LE.p (v := (Value.pointer x14)) (Wn.no rfl) rfl (R.move f27) ?_
          refine LE.p (v := (Value.int .i64 r33)) (Wn.no rfl) rfl (R.move rfl) ?_
          refine LE.p (v := (Value.agg #[(Value.pointer (none : Option Addr)), (Value.pointer (none : Option Addr)), (Value.bool false), (Value.int .i64 (0 : Int))])) (Wn.no rfl) rfl (R.bld (by exact Ls.nil) (fun w => bu63_  w)) ?_
          obtain ⟨b44, hpb44, w43, hww43, h⟩ := M.new_use h
          refine LE.r (v := (Value.pointer (some b44))) (Wn.no rfl) rfl (R.box (cs := #[(Value.pointer (none : Option Addr)), (Value.pointer (none : Option Addr)), (Value.bool false), (Value.int .i64 (0 : Int))]) rfl rfl hpb44 hww43) ?_
          obtain ⟨a45, h46, h⟩ := h
          refine LE.p (v := (Value.pointer (some a45))) (Wn.no rfl) rfl (R.nilC (congrArg Value.pointer h46)) ?_
          refine LE.p (v := (Value.pointer (some a45))) (Wn.no rfl) rfl (R.fld (off := 0) fa63_0 rfl) ?_
          obtain ⟨h47, h48, h⟩ := h
          refine LE.p (v := (Value.pointer (some (a45.add (r33.toNat * 1))))) (Wn.no rfl) rfl (R.idxArr ar61 rfl rfl h47 h48) ?_
          obtain ⟨w49, hww49, h50, h51, h⟩ := M.st_use h
          refine LE.s (Wn.no rfl) rfl (R.st (a := (a45.add (r33.toNat * 1))) (v := (Value.pointer (some b44))) sz60 rfl rfl rfl rfl h50 h51 hww49) ?_
          refine LE.nil ?_
          exact ⟨h, f24, f25, f26, f27, rfl, f28, f29⟩
        · intro hb42
          replace h := M.ite_f h hb42
          refine WE.skip ?_
          exact ⟨h, f24, f25, f26, f27, rfl, f28, f29⟩
      · rintro e52 w53 ⟨h, f54, f55, f56, f57, f58, f59, f60⟩
        subst hJ35
        refine WE.reg ?_
        refine LE.p (v := (Value.pointer x14)) (Wn.no rfl) rfl (R.move f57) ?_
        refine LE.p (v := (Value.int .i64 r33)) (Wn.no rfl) rfl (R.move f58) ?_
        obtain ⟨a61, h62, h⟩ := h
        refine LE.p (v := (Value.pointer (some a61))) (Wn.no rfl) rfl (R.nilC (congrArg Value.pointer h62)) ?_
        refine LE.p (v := (Value.pointer (some a61))) (Wn.no rfl) rfl (R.fld (off := 0) fa63_0 rfl) ?_
        obtain ⟨h63, h64, h⟩ := h
        refine LE.p (v := (Value.pointer (some (a61.add (r33.toNat * 1))))) (Wn.no rfl) rfl (R.idxArr ar61 rfl rfl h63 h64) ?_
        obtain ⟨t65, h66, h⟩ := h
        refine LE.r (v := (Value.pointer t65)) (Wn.no rfl) rfl (R.ld sc60 rfl h66) ?_
        refine LE.p (v := (Value.pointer t65)) (Wn.no rfl) rfl (R.assign rfl) ?_
        refine LE.nil ?_
        refine WE.reg ?_
        refine LE.p (v := (Value.int .i64 (IntKind.i64.wrap (x15 + (1 : Int))))) (Wn.no rfl) rfl (R.add f60 rfl) ?_
        refine LE.p (v := (Value.int .i64 (IntKind.i64.wrap (x15 + (1 : Int))))) (Wn.no rfl) rfl (R.move rfl) ?_
        refine LE.nil ?_
        obtain ⟨m22, hm23, h⟩ := h
        exact ⟨m22, hm23, _, _, h, f54, f55, f56, rfl, f59, rfl⟩
    · intro hb30
      replace h := M.ite_f h hb30
      refine WE.exit ?_
      refine WE.seq ?_
      refine WE.reg ?_
      refine LE.p (v := (Value.pointer x14)) (Wn.no rfl) rfl (R.move f27) ?_
      obtain ⟨a67, h68, h⟩ := h
      refine LE.p (v := (Value.pointer (some a67))) (Wn.no rfl) rfl (R.nilC (congrArg Value.pointer h68)) ?_
      refine LE.p (v := (Value.pointer (some (a67.add 2)))) (Wn.no rfl) rfl (R.fld (off := 2) fa63_1 rfl) ?_
      obtain ⟨t69, h70, h⟩ := h
      refine LE.r (v := (Value.bool t69)) (Wn.no rfl) rfl (R.ld sc4 rfl h70) ?_
      refine LE.p (v := (Value.bool (!t69))) (Wn.no rfl) rfl (R.not rfl) ?_
      refine LE.p (v := (Value.bool (!t69))) (Wn.no rfl) rfl (R.assign rfl) ?_
      refine LE.nil ?_
      refine WE.seq ?_
      refine WE.reg ?_
      refine LE.p (v := (Value.pointer x14)) (Wn.no rfl) rfl (R.move f27) ?_
      refine LE.p (v := (Value.pointer x14)) (Wn.no rfl) rfl (R.move f27) ?_
      refine LE.p (v := (Value.int .i64 p2)) (Wn.no rfl) rfl (R.move f25) ?_
      obtain ⟨a71, h72, h⟩ := h
      refine LE.p (v := (Value.pointer (some a71))) (Wn.no rfl) rfl (R.nilC (congrArg Value.pointer h72)) ?_
      refine LE.p (v := (Value.pointer (some (a71.add 2)))) (Wn.no rfl) rfl (R.fld (off := 2) fa63_1 rfl) ?_
      obtain ⟨w73, hww73, h74, h75, h⟩ := M.st_use h
      refine LE.s (Wn.no rfl) rfl (R.st (a := (a71.add 2)) (v := (Value.bool true)) sz4 rfl rfl rfl rfl h74 h75 hww73) ?_
      obtain ⟨a76, h77, h⟩ := h
      refine LE.p (v := (Value.pointer (some a76))) (Wn.no rfl) rfl (R.nilC (congrArg Value.pointer h77)) ?_
      refine LE.p (v := (Value.pointer (some (a76.add 3)))) (Wn.no rfl) rfl (R.fld (off := 3) fa63_2 rfl) ?_
      obtain ⟨w78, hww78, h79, h80, h⟩ := M.st_use h
      refine LE.s (Wn.no rfl) rfl (R.st (a := (a76.add 3)) (v := (Value.int .i64 p2)) sz3 rfl rfl rfl rfl h79 h80 hww78) ?_
      refine LE.nil ?_
      obtain ⟨J81, hJ81, h⟩ := M.join_use h
      refine WE.join (fun e w => J81 w ∧ e 10 = (Value.bool (!t69))) ?_ ?_
      · clear hJ81
        refine WE.seq ?_
        refine WE.reg ?_
        refine LE.p (v := (Value.bool (!t69))) (Wn.no rfl) rfl (R.move rfl) ?_
        refine LE.nil ?_
        refine WE.condT rfl (b := (!t69)) rfl ?_ ?_
        · intro hb82
          replace h := M.ite_t h hb82
          refine WE.reg ?_
          refine LE.p (v := (Value.pointer p0)) (Wn.no rfl) rfl (R.move f24) ?_
          obtain ⟨a83, h84, h⟩ := h
          refine LE.p (v := (Value.pointer (some a83))) (Wn.no rfl) rfl (R.nilC (congrArg Value.pointer h84)) ?_
          refine LE.p (v := (Value.pointer (some (a83.add 4)))) (Wn.no rfl) rfl (R.fld (off := 4) fa65_1 rfl) ?_
          obtain ⟨t85, h86, h⟩ := h
          refine LE.r (v := (Value.int .i64 t85)) (Wn.no rfl) rfl (R.ld sc3 rfl h86) ?_
          refine LE.p (v := (Value.int .i64 (IntKind.i64.wrap (t85 + (1 : Int))))) (Wn.no rfl) rfl (R.add rfl rfl) ?_
          obtain ⟨a87, h88, h⟩ := h
          refine LE.p (v := (Value.pointer (some a87))) (Wn.no rfl) rfl (R.nilC (congrArg Value.pointer h88)) ?_
          refine LE.p (v := (Value.pointer (some (a87.add 4)))) (Wn.no rfl) rfl (R.fld (off := 4) fa65_1 rfl) ?_
          obtain ⟨w89, hww89, h90, h91, h⟩ := M.st_use h
          refine LE.s (Wn.no rfl) rfl (R.st (a := (a87.add 4)) (v := (Value.int .i64 (IntKind.i64.wrap (t85 + (1 : Int))))) sz3 rfl rfl rfl rfl h90 h91 hww89) ?_
          refine LE.nil ?_
          exact ⟨h, rfl⟩
        · intro hb82
          replace h := M.ite_f h hb82
          refine WE.skip ?_
          exact ⟨h, rfl⟩
      · rintro e92 w93 ⟨h, f94⟩
        subst hJ81
        refine WE.seq ?_
        refine WE.reg ?_
        refine LE.p (v := (Value.bool (!t69))) (Wn.no rfl) rfl (R.move f94) ?_
        refine LE.p (v := (Value.bool (!t69))) (Wn.no rfl) rfl (R.assign rfl) ?_
        refine LE.nil ?_
        refine WE.ret ?_
        exact ⟨_, (Res.tmp rfl Res.nil), _, rfl, h⟩
/-- The formula of signpost.signpostbook.Within. -/
def F13 (p0 : Int) (p1 : Int) (p2 : Int) (K : Int → World → Prop) (w0 : World) : Prop :=
M.nz (IntKind.i64.wrap ((IntKind.i64.wrap (p2 - p1)) + (1 : Int))) <|
M.join (fun (x3 : Int) (w6 : World) => 
K (IntKind.i64.wrap (p1 + x3)) w6) fun J2 => 
M.ite (decide ((Int.tmod p0 (IntKind.i64.wrap ((IntKind.i64.wrap (p2 - p1)) + (1 : Int)))) < (0 : Int))) (
J2 (IntKind.i64.wrap ((IntKind.i64.wrap ((IntKind.i64.wrap ((Int.tmod p0 (IntKind.i64.wrap ((IntKind.i64.wrap (p2 - p1)) + (1 : Int)))) + p2)) - p1)) + (1 : Int))) w0) (
J2 (Int.tmod p0 (IntKind.i64.wrap ((IntKind.i64.wrap (p2 - p1)) + (1 : Int)))) w0)
theorem F13_ok {w0 : World} {p0 : Int} {p1 : Int} {p2 : Int} {K : Int → World → Prop} (h : F13 p0 p1 p2 K w0) : Calls Try.prog 13 #[(Value.int .i64 p0), (Value.int .i64 p1), (Value.int .i64 p2)] w0 (R13 K) := by
  refine calls_of_WE (args := [(Value.int .i64 p0), (Value.int .i64 p1), (Value.int .i64 p2)]) (rs := [.tmp 6]) Try.func13 rfl (N := 24) rfl rfl rfl rfl ?_
  refine WE.seq ?_
  refine WE.reg ?_
  refine LE.p (v := (Value.int .i64 (0 : Int))) (Wn.no rfl) rfl (R.assign rfl) ?_
  refine LE.nil ?_
  refine WE.seq ?_
  refine WE.reg ?_
  refine LE.p (v := (Value.int .i64 p0)) (Wn.no rfl) rfl (R.move rfl) ?_
  refine LE.p (v := (Value.int .i64 p2)) (Wn.no rfl) rfl (R.move rfl) ?_
  refine LE.p (v := (Value.int .i64 p1)) (Wn.no rfl) rfl (R.move rfl) ?_
  refine LE.p (v := (Value.int .i64 (IntKind.i64.wrap (p2 - p1)))) (Wn.no rfl) rfl (R.sub rfl rfl) ?_
  refine LE.p (v := (Value.int .i64 (IntKind.i64.wrap ((IntKind.i64.wrap (p2 - p1)) + (1 : Int))))) (Wn.no rfl) rfl (R.add rfl rfl) ?_
  obtain ⟨h1, h⟩ := h
  refine LE.p (v := (Value.int .i64 (Int.tmod p0 (IntKind.i64.wrap ((IntKind.i64.wrap (p2 - p1)) + (1 : Int)))))) (Wn.no rfl) rfl (R.rem rfl rfl h1) ?_
  refine LE.p (v := (Value.int .i64 (Int.tmod p0 (IntKind.i64.wrap ((IntKind.i64.wrap (p2 - p1)) + (1 : Int)))))) (Wn.no rfl) rfl (R.assign rfl) ?_
  refine LE.nil ?_
  obtain ⟨J2, hJ2, h⟩ := M.join_use h
  refine WE.join (fun e w => ∃ (x3 : Int), J2 x3 w ∧ e 0 = (Value.int .i64 x3) ∧ e 1 = (Value.int .i64 p1)) ?_ ?_
  · clear hJ2
    refine WE.seq ?_
    refine WE.reg ?_
    refine LE.p (v := (Value.int .i64 (Int.tmod p0 (IntKind.i64.wrap ((IntKind.i64.wrap (p2 - p1)) + (1 : Int)))))) (Wn.no rfl) rfl (R.move rfl) ?_
    refine LE.p (v := (Value.bool (decide ((Int.tmod p0 (IntKind.i64.wrap ((IntKind.i64.wrap (p2 - p1)) + (1 : Int)))) < (0 : Int))))) (Wn.no rfl) rfl (R.lss rfl rfl) ?_
    refine LE.nil ?_
    refine WE.condT rfl (b := (decide ((Int.tmod p0 (IntKind.i64.wrap ((IntKind.i64.wrap (p2 - p1)) + (1 : Int)))) < (0 : Int)))) rfl ?_ ?_
    · intro hb4
      replace h := M.ite_t h hb4
      refine WE.reg ?_
      refine LE.p (v := (Value.int .i64 (Int.tmod p0 (IntKind.i64.wrap ((IntKind.i64.wrap (p2 - p1)) + (1 : Int)))))) (Wn.no rfl) rfl (R.move rfl) ?_
      refine LE.p (v := (Value.int .i64 p2)) (Wn.no rfl) rfl (R.move rfl) ?_
      refine LE.p (v := (Value.int .i64 (IntKind.i64.wrap ((Int.tmod p0 (IntKind.i64.wrap ((IntKind.i64.wrap (p2 - p1)) + (1 : Int)))) + p2)))) (Wn.no rfl) rfl (R.add rfl rfl) ?_
      refine LE.p (v := (Value.int .i64 p1)) (Wn.no rfl) rfl (R.move rfl) ?_
      refine LE.p (v := (Value.int .i64 (IntKind.i64.wrap ((IntKind.i64.wrap ((Int.tmod p0 (IntKind.i64.wrap ((IntKind.i64.wrap (p2 - p1)) + (1 : Int)))) + p2)) - p1)))) (Wn.no rfl) rfl (R.sub rfl rfl) ?_
      refine LE.p (v := (Value.int .i64 (IntKind.i64.wrap ((IntKind.i64.wrap ((IntKind.i64.wrap ((Int.tmod p0 (IntKind.i64.wrap ((IntKind.i64.wrap (p2 - p1)) + (1 : Int)))) + p2)) - p1)) + (1 : Int))))) (Wn.no rfl) rfl (R.add rfl rfl) ?_
      refine LE.p (v := (Value.int .i64 (IntKind.i64.wrap ((IntKind.i64.wrap ((IntKind.i64.wrap ((Int.tmod p0 (IntKind.i64.wrap ((IntKind.i64.wrap (p2 - p1)) + (1 : Int)))) + p2)) - p1)) + (1 : Int))))) (Wn.no rfl) rfl (R.assign rfl) ?_
      refine LE.nil ?_
      exact ⟨_, h, rfl, rfl⟩
    · intro hb4
      replace h := M.ite_f h hb4
      refine WE.skip ?_
      exact ⟨_, h, rfl, rfl⟩
  · rintro e5 w6 ⟨x3, h, f7, f8⟩
    subst hJ2
    refine WE.seq ?_
    refine WE.reg ?_
    refine LE.p (v := (Value.int .i64 p1)) (Wn.no rfl) rfl (R.move f8) ?_
    refine LE.p (v := (Value.int .i64 x3)) (Wn.no rfl) rfl (R.move f7) ?_
    refine LE.p (v := (Value.int .i64 (IntKind.i64.wrap (p1 + x3)))) (Wn.no rfl) rfl (R.add rfl rfl) ?_
    refine LE.p (v := (Value.int .i64 (IntKind.i64.wrap (p1 + x3)))) (Wn.no rfl) rfl (R.assign rfl) ?_
    refine LE.nil ?_
    refine WE.ret ?_
    exact ⟨_, (Res.tmp rfl Res.nil), _, rfl, h⟩
/-- The formula of (*signpost.trie.Trie).All. -/
def F14 (p0 : Option Addr) (K : SV → World → Prop) (w0 : World) : Prop :=
Calls Try.prog 24 #[(Value.pointer p0), (Value.agg #[(Value.int .u32 (0 : Int)), (Value.int .i64 (0 : Int))])] w0 (R24 fun r1 w2 =>
K r1 w2)
theorem F14_ok {w0 : World} {p0 : Option Addr} {K : SV → World → Prop} (h : F14 p0 K w0) : Calls Try.prog 14 #[(Value.pointer p0)] w0 (R14 K) := by
  refine calls_of_WE (args := [(Value.pointer p0)]) (rs := [.tmp 2]) Try.func14 rfl (N := 6) rfl rfl rfl rfl ?_
  refine WE.seq ?_
  refine WE.reg ?_
  refine LE.p (v := (SV.v SV.nil)) (Wn.no rfl) rfl (R.assign rfl) ?_
  refine LE.nil ?_
  refine WE.seq ?_
  refine WE.reg ?_
  refine LE.p (v := (Value.pointer p0)) (Wn.no rfl) rfl (R.move rfl) ?_
  refine LE.p (v := (Value.agg #[(Value.int .u32 (0 : Int)), (Value.int .i64 (0 : Int))])) (Wn.no rfl) rfl (R.bld (by exact Ls.nil) (fun w => bu27_  w)) ?_
  refine LE.c (Wn.no rfl) rfl (R.call bd24 (Ls.cons rfl (Ls.cons rfl Ls.nil)) rfl) (Calls.mono h ?_)
  rintro _ w2 ⟨r1, rfl, h⟩
  refine ⟨_, rfl, ?_⟩
  refine LE.p (v := (SV.v r1)) (Wn.no rfl) rfl (R.assign rfl) ?_
  refine LE.nil ?_
  refine WE.ret ?_
  exact ⟨_, (Res.tmp rfl Res.nil), _, rfl, h⟩
/-- The formula of (*signpost.trie.Trie).Get. -/
def F15 (p0 : Option Addr) (p1_0 : Int) (p1_1 : Int) (K : Int → Bool → World → Prop) (w0 : World) : Prop :=
M.new (.cells #[(Value.int .u32 p1_0), (Value.int .i64 p1_1)] 27) w0 fun b2 w1 =>
M.ld (Value.int .u32) b2 w1 fun t3 =>
M.ld (Value.int .i64) (b2.add 1) w1 fun t5 =>
Calls Try.prog 29 #[(Value.agg #[(Value.int .u32 t3), (Value.int .i64 t5)])] w1 (R29 fun r7 w8 =>
M.ite (!r7) (
K (0 : Int) false w8) (
M.ld (Value.int .u32) b2 w8 fun t10 =>
M.ld (Value.int .i64) (b2.add 1) w8 fun t12 =>
Calls Try.prog 31 #[(Value.pointer p0), (Value.agg #[(Value.int .u32 t10), (Value.int .i64 t12)])] w8 (R31 fun r14 w15 =>
M.join (fun (x17 : Bool) (w24 : World) => 
M.ite x17 (
K (0 : Int) false w24) (
M.nil r14 fun a28 =>
M.ld (Value.int .i64) (a28.add 3) w24 fun t30 =>
K t30 true w24)) fun J16 => 
M.ite (Option.isNone r14) (
J16 true w15) (
M.nil r14 fun a19 =>
M.ld Value.bool (a19.add 2) w15 fun t21 =>
J16 (!t21) w15))))
theorem F15_ok {w0 : World} {p0 : Option Addr} {p1_0 : Int} {p1_1 : Int} {K : Int → Bool → World → Prop} (h : F15 p0 p1_0 p1_1 K w0) : Calls Try.prog 15 #[(Value.pointer p0), (Value.agg #[(Value.int .u32 p1_0), (Value.int .i64 p1_1)])] w0 (R15 K) := by
  refine calls_of_WE (args := [(Value.pointer p0), (Value.agg #[(Value.int .u32 p1_0), (Value.int .i64 p1_1)])]) (rs := [.tmp 4, .tmp 5]) Try.func15 rfl (N := 26) rfl rfl rfl rfl ?_
  refine WE.seq ?_
  refine WE.reg ?_
  obtain ⟨b2, hpb2, w1, hww1, h⟩ := M.new_use h
  refine LE.r (v := (Value.pointer (some b2))) (Wn.no rfl) rfl (R.box (cs := #[(Value.int .u32 p1_0), (Value.int .i64 p1_1)]) rfl rfl hpb2 hww1) ?_
  refine LE.p (v := (Value.int .i64 (0 : Int))) (Wn.no rfl) rfl (R.assign rfl) ?_
  refine LE.p (v := (Value.bool false)) (Wn.no rfl) rfl (R.assign rfl) ?_
  refine LE.nil ?_
  refine WE.seq ?_
  refine WE.seq ?_
  refine WE.reg ?_
  obtain ⟨t3, h4, h⟩ := h
  obtain ⟨t5, h6, h⟩ := h
  refine LE.r (v := (Value.agg #[(Value.int .u32 t3), (Value.int .i64 t5)])) (Wn.no rfl) rfl (R.ldA ag27 sz27 rfl rfl (Cs.cons h4 (Cs.cons h6 Cs.nil))) ?_
  refine LE.c (Wn.no rfl) rfl (R.call bd29 (Ls.cons rfl Ls.nil) rfl) (Calls.mono h ?_)
  rintro _ w8 ⟨r7, rfl, h⟩
  refine ⟨_, rfl, ?_⟩
  refine LE.p (v := (Value.bool (!r7))) (Wn.no rfl) rfl (R.not rfl) ?_
  refine LE.nil ?_
  refine WE.condT rfl (b := (!r7)) rfl ?_ ?_
  · intro hb9
    replace h := M.ite_t h hb9
    refine WE.seq ?_
    refine WE.reg ?_
    refine LE.p (v := (Value.int .i64 (0 : Int))) (Wn.no rfl) rfl (R.assign rfl) ?_
    refine LE.p (v := (Value.bool false)) (Wn.no rfl) rfl (R.assign rfl) ?_
    refine LE.nil ?_
    refine WE.ret ?_
    exact ⟨_, (Res.tmp rfl (Res.tmp rfl Res.nil)), _, _, rfl, h⟩
  · intro hb9
    replace h := M.ite_f h hb9
    refine WE.skip ?_
    refine WE.seq ?_
    refine WE.reg ?_
    refine LE.p (v := (Value.pointer p0)) (Wn.no rfl) rfl (R.move rfl) ?_
    obtain ⟨t10, h11, h⟩ := h
    obtain ⟨t12, h13, h⟩ := h
    refine LE.r (v := (Value.agg #[(Value.int .u32 t10), (Value.int .i64 t12)])) (Wn.no rfl) rfl (R.ldA ag27 sz27 rfl rfl (Cs.cons h11 (Cs.cons h13 Cs.nil))) ?_
    refine LE.c (Wn.no rfl) rfl (R.call bd31 (Ls.cons rfl (Ls.cons rfl Ls.nil)) rfl) (Calls.mono h ?_)
    rintro _ w15 ⟨r14, rfl, h⟩
    refine ⟨_, rfl, ?_⟩
    refine LE.p (v := (Value.pointer r14)) (Wn.no rfl) rfl (R.assign rfl) ?_
    refine LE.nil ?_
    refine WE.seq ?_
    refine WE.seq ?_
    obtain ⟨J16, hJ16, h⟩ := M.join_use h
    refine WE.regJ (fun e w => ∃ (x17 : Bool), J16 x17 w ∧ e 6 = (Value.pointer r14) ∧ e 21 = (Value.bool x17)) ?_ ?_
    · clear hJ16
      refine LE.p (v := (Value.pointer r14)) (Wn.no rfl) rfl (R.move rfl) ?_
      refine LE.p (v := (Value.bool (Option.isNone r14))) (Wn.no rfl) rfl (R.peqNil pt60 rfl rfl) ?_
      refine LE.p (v := (Value.bool (Option.isNone r14))) (Wn.no rfl) rfl (R.move rfl) ?_
      rcases M.ite_use h with ⟨hb18, h⟩ | ⟨hb18, h⟩
      · refine LE.u (Un.no 2 15 false rfl rfl rfl (congrArg Value.bool hb18)) ?_
        refine LE.u (Un.no 2 15 false rfl rfl rfl (congrArg Value.bool hb18)) ?_
        refine LE.u (Un.no 2 15 false rfl rfl rfl (congrArg Value.bool hb18)) ?_
        refine LE.u (Un.no 2 15 false rfl rfl rfl (congrArg Value.bool hb18)) ?_
        refine LE.u (Un.no 2 15 false rfl rfl rfl (congrArg Value.bool hb18)) ?_
        refine LE.p (v := (Value.bool true)) (Wn.no rfl) rfl (R.pickT (congrArg Value.bool hb18) rfl) ?_
        refine LE.nil ?_
        exact ⟨_, h, rfl, rfl⟩
      · refine LE.p (v := (Value.pointer r14)) (Wn.yes 2 15 false rfl rfl rfl (congrArg Value.bool hb18)) rfl (R.move rfl) ?_
        obtain ⟨a19, h20, h⟩ := h
        refine LE.p (v := (Value.pointer (some a19))) (Wn.yes 2 15 false rfl rfl rfl (congrArg Value.bool hb18)) rfl (R.nilC (congrArg Value.pointer h20)) ?_
        refine LE.p (v := (Value.pointer (some (a19.add 2)))) (Wn.yes 2 15 false rfl rfl rfl (congrArg Value.bool hb18)) rfl (R.fld (off := 2) fa63_1 rfl) ?_
        obtain ⟨t21, h22, h⟩ := h
        refine LE.r (v := (Value.bool t21)) (Wn.yes 2 15 false rfl rfl rfl (congrArg Value.bool hb18)) rfl (R.ld sc4 rfl h22) ?_
        refine LE.p (v := (Value.bool (!t21))) (Wn.yes 2 15 false rfl rfl rfl (congrArg Value.bool hb18)) rfl (R.not rfl) ?_
        refine LE.p (v := (Value.bool (!t21))) (Wn.no rfl) rfl (R.pickF (congrArg Value.bool hb18) rfl) ?_
        refine LE.nil ?_
        exact ⟨_, h, rfl, rfl⟩
    · rintro e23 w24 ⟨x17, h, f25, f26⟩
      subst hJ16
      refine WE.condT rfl (b := x17) f26 ?_ ?_
      · intro hb27
        replace h := M.ite_t h hb27
        refine WE.seq ?_
        refine WE.reg ?_
        refine LE.p (v := (Value.int .i64 (0 : Int))) (Wn.no rfl) rfl (R.assign rfl) ?_
        refine LE.p (v := (Value.bool false)) (Wn.no rfl) rfl (R.assign rfl) ?_
        refine LE.nil ?_
        refine WE.ret ?_
        exact ⟨_, (Res.tmp rfl (Res.tmp rfl Res.nil)), _, _, rfl, h⟩
      · intro hb27
        replace h := M.ite_f h hb27
        refine WE.skip ?_
        refine WE.seq ?_
        refine WE.reg ?_
        refine LE.p (v := (Value.pointer r14)) (Wn.no rfl) rfl (R.move f25) ?_
        obtain ⟨a28, h29, h⟩ := h
        refine LE.p (v := (Value.pointer (some a28))) (Wn.no rfl) rfl (R.nilC (congrArg Value.pointer h29)) ?_
        refine LE.p (v := (Value.pointer (some (a28.add 3)))) (Wn.no rfl) rfl (R.fld (off := 3) fa63_2 rfl) ?_
        obtain ⟨t30, h31, h⟩ := h
        refine LE.r (v := (Value.int .i64 t30)) (Wn.no rfl) rfl (R.ld sc3 rfl h31) ?_
        refine LE.p (v := (Value.int .i64 t30)) (Wn.no rfl) rfl (R.assign rfl) ?_
        refine LE.p (v := (Value.bool true)) (Wn.no rfl) rfl (R.assign rfl) ?_
        refine LE.nil ?_
        refine WE.ret ?_
        exact ⟨_, (Res.tmp rfl (Res.tmp rfl Res.nil)), _, _, rfl, h⟩
/-- The formula of signpost.signpostref1.Less. -/
def F16 (p0_0 : Int) (p0_1 : Int) (p1_0 : Int) (p1_1 : Int) (K : Bool → World → Prop) (w0 : World) : Prop :=
M.new (.cells #[(Value.int .u32 p0_0), (Value.int .i64 p0_1)] 27) w0 fun b2 w1 =>
M.new (.cells #[(Value.int .u32 p1_0), (Value.int .i64 p1_1)] 27) w1 fun b4 w3 =>
M.join (fun (x6 : Bool) (w21 : World) => 
M.ite x6 (
K false w21) (
M.join (fun (x27 : Bool) (w43 : World) => 
K x27 w43) fun J26 => 
M.ld (Value.int .u32) b2 w21 fun t28 =>
M.ld (Value.int .u32) b4 w21 fun t30 =>
M.ite (decide (t28 < t30)) (
J26 true w21) (
M.ld (Value.int .u32) b2 w21 fun t33 =>
M.ld (Value.int .u32) b4 w21 fun t35 =>
M.ite (t33 == t35) (
M.ld (Value.int .i64) (b2.add 1) w21 fun t38 =>
M.ld (Value.int .i64) (b4.add 1) w21 fun t40 =>
J26 (decide (t38 < t40)) w21) (
J26 false w21)))) fun J5 => 
M.ld (Value.int .u32) b2 w3 fun t7 =>
M.ld (Value.int .i64) (b2.add 1) w3 fun t9 =>
Calls Try.prog 32 #[(Value.agg #[(Value.int .u32 t7), (Value.int .i64 t9)])] w3 (R32 fun r11 w12 =>
M.ite (!r11) (
J5 true w12) (
M.ld (Value.int .u32) b4 w12 fun t14 =>
M.ld (Value.int .i64) (b4.add 1) w12 fun t16 =>
Calls Try.prog 32 #[(Value.agg #[(Value.int .u32 t14), (Value.int .i64 t16)])] w12 (R32 fun r18 w19 =>
J5 (!r18) w19)))
theorem F16_ok {w0 : World} {p0_0 : Int} {p0_1 : Int} {p1_0 : Int} {p1_1 : Int} {K : Bool → World → Prop} (h : F16 p0_0 p0_1 p1_0 p1_1 K w0) : Calls Try.prog 16 #[(Value.agg #[(Value.int .u32 p0_0), (Value.int .i64 p0_1)]), (Value.agg #[(Value.int .u32 p1_0), (Value.int .i64 p1_1)])] w0 (R16 K) := by
  refine calls_of_WE (args := [(Value.agg #[(Value.int .u32 p0_0), (Value.int .i64 p0_1)]), (Value.agg #[(Value.int .u32 p1_0), (Value.int .i64 p1_1)])]) (rs := [.tmp 4]) Try.func16 rfl (N := 32) rfl rfl rfl rfl ?_
  refine WE.seq ?_
  refine WE.reg ?_
  obtain ⟨b2, hpb2, w1, hww1, h⟩ := M.new_use h
  refine LE.r (v := (Value.pointer (some b2))) (Wn.no rfl) rfl (R.box (cs := #[(Value.int .u32 p0_0), (Value.int .i64 p0_1)]) rfl rfl hpb2 hww1) ?_
  obtain ⟨b4, hpb4, w3, hww3, h⟩ := M.new_use h
  refine LE.r (v := (Value.pointer (some b4))) (Wn.no rfl) rfl (R.box (cs := #[(Value.int .u32 p1_0), (Value.int .i64 p1_1)]) rfl rfl hpb4 hww3) ?_
  refine LE.p (v := (Value.bool false)) (Wn.no rfl) rfl (R.assign rfl) ?_
  refine LE.nil ?_
  refine WE.seq ?_
  refine WE.seq ?_
  obtain ⟨J5, hJ5, h⟩ := M.join_use h
  refine WE.regJ (fun e w => ∃ (x6 : Bool), J5 x6 w ∧ e 2 = (Value.pointer (some b2)) ∧ e 3 = (Value.pointer (some b4)) ∧ e 12 = (Value.bool x6)) ?_ ?_
  · clear hJ5
    obtain ⟨t7, h8, h⟩ := h
    obtain ⟨t9, h10, h⟩ := h
    refine LE.r (v := (Value.agg #[(Value.int .u32 t7), (Value.int .i64 t9)])) (Wn.no rfl) rfl (R.ldA ag27 sz27 rfl rfl (Cs.cons h8 (Cs.cons h10 Cs.nil))) ?_
    refine LE.c (Wn.no rfl) rfl (R.call bd32 (Ls.cons rfl Ls.nil) rfl) (Calls.mono h ?_)
    rintro _ w12 ⟨r11, rfl, h⟩
    refine ⟨_, rfl, ?_⟩
    refine LE.p (v := (Value.bool (!r11))) (Wn.no rfl) rfl (R.not rfl) ?_
    refine LE.p (v := (Value.bool (!r11))) (Wn.no rfl) rfl (R.move rfl) ?_
    rcases M.ite_use h with ⟨hb13, h⟩ | ⟨hb13, h⟩
    · refine LE.u (Un.no 3 8 false rfl rfl rfl (congrArg Value.bool hb13)) ?_
      refine LE.u (Un.no 3 8 false rfl rfl rfl (congrArg Value.bool hb13)) ?_
      refine LE.u (Un.no 3 8 false rfl rfl rfl (congrArg Value.bool hb13)) ?_
      refine LE.p (v := (Value.bool true)) (Wn.no rfl) rfl (R.pickT (congrArg Value.bool hb13) rfl) ?_
      refine LE.nil ?_
      exact ⟨_, h, rfl, rfl, rfl⟩
    · obtain ⟨t14, h15, h⟩ := h
      obtain ⟨t16, h17, h⟩ := h
      refine LE.r (v := (Value.agg #[(Value.int .u32 t14), (Value.int .i64 t16)])) (Wn.yes 3 8 false rfl rfl rfl (congrArg Value.bool hb13)) rfl (R.ldA ag27 sz27 rfl rfl (Cs.cons h15 (Cs.cons h17 Cs.nil))) ?_
      refine LE.c (Wn.yes 3 8 false rfl rfl rfl (congrArg Value.bool hb13)) rfl (R.call bd32 (Ls.cons rfl Ls.nil) rfl) (Calls.mono h ?_)
      rintro _ w19 ⟨r18, rfl, h⟩
      refine ⟨_, rfl, ?_⟩
      refine LE.p (v := (Value.bool (!r18))) (Wn.yes 3 8 false rfl rfl rfl (congrArg Value.bool hb13)) rfl (R.not rfl) ?_
      refine LE.p (v := (Value.bool (!r18))) (Wn.no rfl) rfl (R.pickF (congrArg Value.bool hb13) rfl) ?_
      refine LE.nil ?_
      exact ⟨_, h, rfl, rfl, rfl⟩
  · rintro e20 w21 ⟨x6, h, f22, f23, f24⟩
    subst hJ5
    refine WE.condT rfl (b := x6) f24 ?_ ?_
    · intro hb25
      replace h := M.ite_t h hb25
      refine WE.seq ?_
      refine WE.reg ?_
      refine LE.p (v := (Value.bool false)) (Wn.no rfl) rfl (R.assign rfl) ?_
      refine LE.nil ?_
      refine WE.ret ?_
      exact ⟨_, (Res.tmp rfl Res.nil), _, rfl, h⟩
    · intro hb25
      replace h := M.ite_f h hb25
      refine WE.skip ?_
      refine WE.seq ?_
      obtain ⟨J26, hJ26, h⟩ := M.join_use h
      refine WE.regJ (fun e w => ∃ (x27 : Bool), J26 x27 w ∧ e 4 = (Value.bool x27)) ?_ ?_
      · clear hJ26
        refine LE.p (v := (Value.pointer (some b2))) (Wn.no rfl) rfl (R.fld (off := 0) fa27_0 f22) ?_
        obtain ⟨t28, h29, h⟩ := h
        refine LE.r (v := (Value.int .u32 t28)) (Wn.no rfl) rfl (R.ld sc25 rfl h29) ?_
        refine LE.p (v := (Value.pointer (some b4))) (Wn.no rfl) rfl (R.fld (off := 0) fa27_0 f23) ?_
        obtain ⟨t30, h31, h⟩ := h
        refine LE.r (v := (Value.int .u32 t30)) (Wn.no rfl) rfl (R.ld sc25 rfl h31) ?_
        refine LE.p (v := (Value.bool (decide (t28 < t30)))) (Wn.no rfl) rfl (R.lss rfl rfl) ?_
        refine LE.p (v := (Value.bool (decide (t28 < t30)))) (Wn.no rfl) rfl (R.move rfl) ?_
        rcases M.ite_use h with ⟨hb32, h⟩ | ⟨hb32, h⟩
        · refine LE.u (Un.no 5 18 false rfl rfl rfl (congrArg Value.bool hb32)) ?_
          refine LE.u (Un.no 5 18 false rfl rfl rfl (congrArg Value.bool hb32)) ?_
          refine LE.u (Un.no 5 18 false rfl rfl rfl (congrArg Value.bool hb32)) ?_
          refine LE.u (Un.no 5 18 false rfl rfl rfl (congrArg Value.bool hb32)) ?_
          refine LE.u (Un.no 5 18 false rfl rfl rfl (congrArg Value.bool hb32)) ?_
          refine LE.u (Un.no 5 18 false rfl rfl rfl (congrArg Value.bool hb32)) ?_
          refine LE.u (Un.un 11 24 true rfl rfl rfl rfl) ?_
          refine LE.u (Un.un 11 24 true rfl rfl rfl rfl) ?_
          refine LE.u (Un.un 11 24 true rfl rfl rfl rfl) ?_
          refine LE.u (Un.un 11 24 true rfl rfl rfl rfl) ?_
          refine LE.u (Un.un 11 24 true rfl rfl rfl rfl) ?_
          refine LE.u (Un.no 5 18 false rfl rfl rfl (congrArg Value.bool hb32)) ?_
          refine LE.p (v := (Value.bool true)) (Wn.no rfl) rfl (R.pickT (congrArg Value.bool hb32) rfl) ?_
          refine LE.p (v := (Value.bool true)) (Wn.no rfl) rfl (R.assign rfl) ?_
          refine LE.nil ?_
          exact ⟨_, h, rfl⟩
        · refine LE.p (v := (Value.pointer (some b2))) (Wn.yes 5 18 false rfl rfl rfl (congrArg Value.bool hb32)) rfl (R.fld (off := 0) fa27_0 f22) ?_
          obtain ⟨t33, h34, h⟩ := h
          refine LE.r (v := (Value.int .u32 t33)) (Wn.yes 5 18 false rfl rfl rfl (congrArg Value.bool hb32)) rfl (R.ld sc25 rfl h34) ?_
          refine LE.p (v := (Value.pointer (some b4))) (Wn.yes 5 18 false rfl rfl rfl (congrArg Value.bool hb32)) rfl (R.fld (off := 0) fa27_0 f23) ?_
          obtain ⟨t35, h36, h⟩ := h
          refine LE.r (v := (Value.int .u32 t35)) (Wn.yes 5 18 false rfl rfl rfl (congrArg Value.bool hb32)) rfl (R.ld sc25 rfl h36) ?_
          refine LE.p (v := (Value.bool (t33 == t35))) (Wn.yes 5 18 false rfl rfl rfl (congrArg Value.bool hb32)) rfl (R.eql rfl rfl) ?_
          refine LE.p (v := (Value.bool (t33 == t35))) (Wn.yes 5 18 false rfl rfl rfl (congrArg Value.bool hb32)) rfl (R.move rfl) ?_
          rcases M.ite_use h with ⟨hb37, h⟩ | ⟨hb37, h⟩
          · refine LE.p (v := (Value.pointer (some (b2.add 1)))) (Wn.yes 11 24 true rfl rfl rfl (congrArg Value.bool hb37)) rfl (R.fld (off := 1) fa27_1 f22) ?_
            obtain ⟨t38, h39, h⟩ := h
            refine LE.r (v := (Value.int .i64 t38)) (Wn.yes 11 24 true rfl rfl rfl (congrArg Value.bool hb37)) rfl (R.ld sc3 rfl h39) ?_
            refine LE.p (v := (Value.pointer (some (b4.add 1)))) (Wn.yes 11 24 true rfl rfl rfl (congrArg Value.bool hb37)) rfl (R.fld (off := 1) fa27_1 f23) ?_
            obtain ⟨t40, h41, h⟩ := h
            refine LE.r (v := (Value.int .i64 t40)) (Wn.yes 11 24 true rfl rfl rfl (congrArg Value.bool hb37)) rfl (R.ld sc3 rfl h41) ?_
            refine LE.p (v := (Value.bool (decide (t38 < t40)))) (Wn.yes 11 24 true rfl rfl rfl (congrArg Value.bool hb37)) rfl (R.lss rfl rfl) ?_
            refine LE.p (v := (Value.bool (decide (t38 < t40)))) (Wn.yes 5 18 false rfl rfl rfl (congrArg Value.bool hb32)) rfl (R.pickT (congrArg Value.bool hb37) rfl) ?_
            refine LE.p (v := (Value.bool (decide (t38 < t40)))) (Wn.no rfl) rfl (R.pickF (congrArg Value.bool hb32) rfl) ?_
            refine LE.p (v := (Value.bool (decide (t38 < t40)))) (Wn.no rfl) rfl (R.assign rfl) ?_
            refine LE.nil ?_
            exact ⟨_, h, rfl⟩
          · refine LE.u (Un.no 11 24 true rfl rfl rfl (congrArg Value.bool hb37)) ?_
            refine LE.u (Un.no 11 24 true rfl rfl rfl (congrArg Value.bool hb37)) ?_
            refine LE.u (Un.no 11 24 true rfl rfl rfl (congrArg Value.bool hb37)) ?_
            refine LE.u (Un.no 11 24 true rfl rfl rfl (congrArg Value.bool hb37)) ?_
            refine LE.u (Un.no 11 24 true rfl rfl rfl (congrArg Value.bool hb37)) ?_
            refine LE.p (v := (Value.bool false)) (Wn.yes 5 18 false rfl rfl rfl (congrArg Value.bool hb32)) rfl (R.pickF (congrArg Value.bool hb37) rfl) ?_
            refine LE.p (v := (Value.bool false)) (Wn.no rfl) rfl (R.pickF (congrArg Value.bool hb32) rfl) ?_
            refine LE.p (v := (Value.bool false)) (Wn.no rfl) rfl (R.assign rfl) ?_
            refine LE.nil ?_
            exact ⟨_, h, rfl⟩
      · rintro e42 w43 ⟨x27, h, f44⟩
        subst hJ26
        refine WE.ret ?_
        exact ⟨_, (Res.tmp f44 Res.nil), _, rfl, h⟩
/-- The formula of signpost.signpostbook.Same[signpost.api.Prefix]. -/
def F17 (p0 : SV) (p1 : SV) (K : Bool → World → Prop) (w0 : World) : Prop :=
M.ite ((p0.len : Int) != (p1.len : Int)) (
K false w0) (
M.loop1 (fun (J3 : Int → World → Prop) (x2 : Int) (w4 : World) => 
M.ite (decide (x2 < (p0.len : Int))) (
M.drew w4 fun w15 => 
M.idx p0 x2 2 fun a16 =>
M.idx p1 x2 2 fun a20 =>
M.ld (Value.int .u32) (a16.add (x2.toNat * 2)) w15 fun t24 =>
M.ld (Value.int .i64) ((a16.add (x2.toNat * 2)).add 1) w15 fun t26 =>
M.ld (Value.int .u32) (a20.add (x2.toNat * 2)) w15 fun t28 =>
M.ld (Value.int .i64) ((a20.add (x2.toNat * 2)).add 1) w15 fun t30 =>
M.ite (!((t24 == t28) && (t26 == t30))) (
K false w15) (
J3 (IntKind.i64.wrap (x2 + (1 : Int))) w15)) (
K true w4)) (0 : Int) w0)
theorem F17_ok {w0 : World} {p0 : SV} {p1 : SV} {K : Bool → World → Prop} (h : F17 p0 p1 K w0) : Calls Try.prog 17 #[(SV.v p0), (SV.v p1)] w0 (R17 K) := by
  refine calls_of_WE (args := [(SV.v p0), (SV.v p1)]) (rs := [.tmp 4]) Try.func17 rfl (N := 26) rfl rfl rfl rfl ?_
  refine WE.seq ?_
  refine WE.reg ?_
  refine LE.p (v := (Value.bool false)) (Wn.no rfl) rfl (R.assign rfl) ?_
  refine LE.nil ?_
  refine WE.seq ?_
  refine WE.seq ?_
  refine WE.reg ?_
  refine LE.p (v := (SV.v p0)) (Wn.no rfl) rfl (R.move rfl) ?_
  refine LE.p (v := (Value.int .i64 (p0.len : Int))) (Wn.no rfl) rfl (R.len sl33 rfl) ?_
  refine LE.p (v := (SV.v p1)) (Wn.no rfl) rfl (R.move rfl) ?_
  refine LE.p (v := (Value.int .i64 (p1.len : Int))) (Wn.no rfl) rfl (R.len sl33 rfl) ?_
  refine LE.p (v := (Value.bool ((p0.len : Int) != (p1.len : Int)))) (Wn.no rfl) rfl (R.neq rfl rfl) ?_
  refine LE.nil ?_
  refine WE.condT rfl (b := ((p0.len : Int) != (p1.len : Int))) rfl ?_ ?_
  · intro hb1
    replace h := M.ite_t h hb1
    refine WE.seq ?_
    refine WE.reg ?_
    refine LE.p (v := (Value.bool false)) (Wn.no rfl) rfl (R.assign rfl) ?_
    refine LE.nil ?_
    refine WE.ret ?_
    exact ⟨_, (Res.tmp rfl Res.nil), _, rfl, h⟩
  · intro hb1
    replace h := M.ite_f h hb1
    refine WE.skip ?_
    refine WE.seq ?_
    refine WE.seq ?_
    refine WE.reg ?_
    refine LE.p (v := (Value.int .i64 (0 : Int))) (Wn.no rfl) rfl (R.assign rfl) ?_
    refine LE.nil ?_
    refine WE.block ?_
    obtain ⟨I7, ⟨n6, h⟩, hr8⟩ := h
    refine WE.loop (fun n e w => ∃ (x2 : Int), I7 n x2 w ∧ e 0 = (SV.v p0) ∧ e 1 = (SV.v p1) ∧ e 5 = (Value.int .i64 x2)) n6 ⟨_, h, rfl, rfl, rfl⟩ ?_
    clear h
    rintro n6 e5 w4 ⟨x2, h, f11, f12, f13⟩
    replace h := hr8 n6 x2 w4 h
    refine WE.seq ?_
    refine WE.seq ?_
    refine WE.reg ?_
    refine LE.p (v := (Value.int .i64 x2)) (Wn.no rfl) rfl (R.move f13) ?_
    refine LE.p (v := (SV.v p0)) (Wn.no rfl) rfl (R.move f11) ?_
    refine LE.p (v := (Value.int .i64 (p0.len : Int))) (Wn.no rfl) rfl (R.len sl33 rfl) ?_
    refine LE.p (v := (Value.bool (decide (x2 < (p0.len : Int))))) (Wn.no rfl) rfl (R.lss rfl rfl) ?_
    refine LE.nil ?_
    refine WE.condT rfl (b := (decide (x2 < (p0.len : Int)))) rfl ?_ ?_
    · intro hb14
      replace h := M.ite_t h hb14
      refine WE.skip ?_
      refine WE.seq ?_
      refine WE.block ?_
      refine WE.seq ?_
      refine WE.draw mix ?_
      obtain ⟨w15, hww15, h⟩ := M.drew_use h
      rw [← hww15]
      clear hww15
      refine DE.t 0 (v := (SV.v p0)) rfl (by kernel_rfl) (Wn.no rfl) rfl (R.move f11) ?_
      refine DE.t 1 (v := (Value.int .i64 x2)) rfl (by kernel_rfl) (Wn.no rfl) rfl (R.move f13) ?_
      obtain ⟨a16, h17, h18, h19, h⟩ := h
      refine DE.t 2 (v := (Value.pointer (some (a16.add (x2.toNat * 2))))) rfl (by kernel_rfl) (Wn.no rfl) rfl (R.idx (s := p0) sl33 rfl rfl h17 h18 h19) ?_
      refine DE.t 4 (v := (SV.v p1)) rfl (by kernel_rfl) (Wn.no rfl) rfl (R.move f12) ?_
      refine DE.t 5 (v := (Value.int .i64 x2)) rfl (by kernel_rfl) (Wn.no rfl) rfl (R.move f13) ?_
      obtain ⟨a20, h21, h22, h23, h⟩ := h
      refine DE.t 6 (v := (Value.pointer (some (a20.add (x2.toNat * 2))))) rfl (by kernel_rfl) (Wn.no rfl) rfl (R.idx (s := p1) sl33 rfl rfl h21 h22 h23) ?_
      obtain ⟨t24, h25, h⟩ := h
      obtain ⟨t26, h27, h⟩ := h
      refine DE.hold 3 (fun w => w.cell? (a16.add (x2.toNat * 2)) = some (Value.int .u32 t24) ∧ w.cell? ((a16.add (x2.toNat * 2)).add 1) = some (Value.int .i64 t26)) (v := (Value.agg #[(Value.int .u32 t24), (Value.int .i64 t26)])) rfl (by kernel_rfl) (Wn.no rfl) rfl ⟨h25, h27⟩ (fun w hs => R.ldA ag27 sz27 rfl rfl (Cs.cons hs.1 (Cs.cons hs.2 Cs.nil))) ?_
      obtain ⟨t28, h29, h⟩ := h
      obtain ⟨t30, h31, h⟩ := h
      refine DE.main 7 (by kernel_rfl) ?_
      refine One.r 7 (v := (Value.agg #[(Value.int .u32 t28), (Value.int .i64 t30)])) rfl (Wn.no rfl) rfl (R.ldA ag27 sz27 rfl rfl (Cs.cons h29 (Cs.cons h31 Cs.nil))) (.inl rfl) ?_
      refine DE.t 8 (v := (Value.bool (!((t24 == t28) && (t26 == t30))))) rfl (by kernel_rfl) (Wn.no rfl) rfl (R.neS (fun w => eq27 t24 t28 t26 t30 w) sg27 rfl rfl) ?_
      refine DE.done (by kernel_rfl) ?_
      refine WE.condT rfl (b := (!((t24 == t28) && (t26 == t30)))) rfl ?_ ?_
      · intro hb32
        replace h := M.ite_t h hb32
        refine WE.seq ?_
        refine WE.reg ?_
        refine LE.p (v := (Value.bool false)) (Wn.no rfl) rfl (R.assign rfl) ?_
        refine LE.nil ?_
        refine WE.ret ?_
        exact ⟨_, (Res.tmp rfl Res.nil), _, rfl, h⟩
      · intro hb32
        replace h := M.ite_f h hb32
        refine WE.skip ?_
        refine WE.reg ?_
        refine LE.p (v := (Value.int .i64 x2)) (Wn.no rfl) rfl (R.move f13) ?_
        refine LE.p (v := (Value.int .i64 (IntKind.i64.wrap (x2 + (1 : Int))))) (Wn.no rfl) rfl (R.add rfl rfl) ?_
        refine LE.p (v := (Value.int .i64 (IntKind.i64.wrap (x2 + (1 : Int))))) (Wn.no rfl) rfl (R.assign rfl) ?_
        refine LE.nil ?_
        obtain ⟨m9, hm10, h⟩ := h
        exact ⟨m9, hm10, _, h, f11, f12, rfl⟩
    · intro hb14
      replace h := M.ite_f h hb14
      refine WE.exit ?_
      refine WE.seq ?_
      refine WE.reg ?_
      refine LE.p (v := (Value.bool true)) (Wn.no rfl) rfl (R.assign rfl) ?_
      refine LE.nil ?_
      refine WE.ret ?_
      exact ⟨_, (Res.tmp rfl Res.nil), _, rfl, h⟩
/-- The formula of (*signpost.trie.Trie).Len. -/
def F18 (p0 : Option Addr) (K : Int → World → Prop) (w0 : World) : Prop :=
M.nil p0 fun a1 =>
M.ld (Value.int .i64) (a1.add 4) w0 fun t3 =>
K t3 w0
theorem F18_ok {w0 : World} {p0 : Option Addr} {K : Int → World → Prop} (h : F18 p0 K w0) : Calls Try.prog 18 #[(Value.pointer p0)] w0 (R18 K) := by
  refine calls_of_WE (args := [(Value.pointer p0)]) (rs := [.tmp 2]) Try.func18 rfl (N := 7) rfl rfl rfl rfl ?_
  refine WE.seq ?_
  refine WE.reg ?_
  refine LE.p (v := (Value.int .i64 (0 : Int))) (Wn.no rfl) rfl (R.assign rfl) ?_
  refine LE.nil ?_
  refine WE.seq ?_
  refine WE.reg ?_
  refine LE.p (v := (Value.pointer p0)) (Wn.no rfl) rfl (R.move rfl) ?_
  obtain ⟨a1, h2, h⟩ := h
  refine LE.p (v := (Value.pointer (some a1))) (Wn.no rfl) rfl (R.nilC (congrArg Value.pointer h2)) ?_
  refine LE.p (v := (Value.pointer (some (a1.add 4)))) (Wn.no rfl) rfl (R.fld (off := 4) fa65_1 rfl) ?_
  obtain ⟨t3, h4, h⟩ := h
  refine LE.r (v := (Value.int .i64 t3)) (Wn.no rfl) rfl (R.ld sc3 rfl h4) ?_
  refine LE.p (v := (Value.int .i64 t3)) (Wn.no rfl) rfl (R.assign rfl) ?_
  refine LE.nil ?_
  refine WE.ret ?_
  exact ⟨_, (Res.tmp rfl Res.nil), _, rfl, h⟩
/-- The formula of signpost.signpostlaw3.known. -/
def F19  (K : Bool → World → Prop) (w0 : World) : Prop :=
Calls Try.prog 10 #[] w0 (R10 fun r1 w2 =>
M.ite (Option.isNone r1) (
K false w2) (
Calls Try.prog 12 #[(Value.pointer r1), (Value.agg #[(Value.int .u32 (167772160 : Int)), (Value.int .i64 (8 : Int))]), (Value.int .i64 (7 : Int))] w2 (R12 fun r4 w5 =>
Calls Try.prog 12 #[(Value.pointer r1), (Value.agg #[(Value.int .u32 (167837696 : Int)), (Value.int .i64 (16 : Int))]), (Value.int .i64 (9 : Int))] w5 (R12 fun r6 w7 =>
Calls Try.prog 20 #[(Value.pointer r1), (Value.int .u32 (167838211 : Int))] w7 (R20 fun r8 r9 r10 r11 w12 =>
M.new (.cells #[(Value.int .u32 (0 : Int)), (Value.int .i64 (0 : Int))] 27) w12 fun b14 w13 =>
M.stA b14 [(Value.int .u32 r8), (Value.int .i64 r9)] w13 fun w15 =>
M.join (fun (x18 : Bool) (w31 : World) => 
K x18 w31) fun J17 => 
M.ite r4 (
M.ite r6 (
M.ld (Value.int .u32) b14 w15 fun t21 =>
M.ld (Value.int .i64) (b14.add 1) w15 fun t23 =>
M.ite ((t21 == (167837696 : Int)) && (t23 == (16 : Int))) (
M.ite (r10 == (9 : Int)) (
M.ite r11 (
Calls Try.prog 18 #[(Value.pointer r1)] w15 (R18 fun r28 w29 =>
J17 (r28 == (2 : Int)) w29)) (
J17 false w15)) (
J17 false w15)) (
J17 false w15)) (
J17 false w15)) (
J17 false w15))))))
theorem F19_ok {w0 : World}  {K : Bool → World → Prop} (h : F19 K w0) : Calls Try.prog 19 #[] w0 (R19 K) := by
  refine calls_of_WE (args := []) (rs := [.tmp 0]) Try.func19 rfl (N := 43) rfl rfl rfl rfl ?_
  refine WE.seq ?_
  refine WE.reg ?_
  refine LE.p (v := (Value.bool false)) (Wn.no rfl) rfl (R.assign rfl) ?_
  refine LE.nil ?_
  refine WE.seq ?_
  refine WE.reg ?_
  refine LE.c (Wn.no rfl) rfl (R.call bd10 Ls.nil rfl) (Calls.mono h ?_)
  rintro _ w2 ⟨r1, rfl, h⟩
  refine ⟨_, rfl, ?_⟩
  refine LE.p (v := (Value.pointer r1)) (Wn.no rfl) rfl (R.assign rfl) ?_
  refine LE.nil ?_
  refine WE.seq ?_
  refine WE.seq ?_
  refine WE.reg ?_
  refine LE.p (v := (Value.pointer r1)) (Wn.no rfl) rfl (R.move rfl) ?_
  refine LE.p (v := (Value.bool (Option.isNone r1))) (Wn.no rfl) rfl (R.peqNil pt23 rfl rfl) ?_
  refine LE.nil ?_
  refine WE.condT rfl (b := (Option.isNone r1)) rfl ?_ ?_
  · intro hb3
    replace h := M.ite_t h hb3
    refine WE.seq ?_
    refine WE.reg ?_
    refine LE.p (v := (Value.bool false)) (Wn.no rfl) rfl (R.assign rfl) ?_
    refine LE.nil ?_
    refine WE.ret ?_
    exact ⟨_, (Res.tmp rfl Res.nil), _, rfl, h⟩
  · intro hb3
    replace h := M.ite_f h hb3
    refine WE.skip ?_
    refine WE.seq ?_
    refine WE.reg ?_
    refine LE.p (v := (Value.pointer r1)) (Wn.no rfl) rfl (R.move rfl) ?_
    refine LE.p (v := (Value.agg #[(Value.int .u32 (167772160 : Int)), (Value.int .i64 (8 : Int))])) (Wn.no rfl) rfl (R.bld (by exact (Ls.cons (R.Pr rfl) (Ls.cons (R.Pr rfl) Ls.nil))) (fun w => bu27_0_1 (167772160 : Int) (8 : Int) w)) ?_
    refine LE.c (Wn.no rfl) rfl (R.call bd12 (Ls.cons rfl (Ls.cons rfl (Ls.cons rfl Ls.nil))) rfl) (Calls.mono h ?_)
    rintro _ w5 ⟨r4, rfl, h⟩
    refine ⟨_, rfl, ?_⟩
    refine LE.p (v := (Value.bool r4)) (Wn.no rfl) rfl (R.assign rfl) ?_
    refine LE.nil ?_
    refine WE.seq ?_
    refine WE.reg ?_
    refine LE.p (v := (Value.pointer r1)) (Wn.no rfl) rfl (R.move rfl) ?_
    refine LE.p (v := (Value.agg #[(Value.int .u32 (167837696 : Int)), (Value.int .i64 (16 : Int))])) (Wn.no rfl) rfl (R.bld (by exact (Ls.cons (R.Pr rfl) (Ls.cons (R.Pr rfl) Ls.nil))) (fun w => bu27_0_1 (167837696 : Int) (16 : Int) w)) ?_
    refine LE.c (Wn.no rfl) rfl (R.call bd12 (Ls.cons rfl (Ls.cons rfl (Ls.cons rfl Ls.nil))) rfl) (Calls.mono h ?_)
    rintro _ w7 ⟨r6, rfl, h⟩
    refine ⟨_, rfl, ?_⟩
    refine LE.p (v := (Value.bool r6)) (Wn.no rfl) rfl (R.assign rfl) ?_
    refine LE.nil ?_
    refine WE.seq ?_
    refine WE.reg ?_
    refine LE.p (v := (Value.pointer r1)) (Wn.no rfl) rfl (R.move rfl) ?_
    refine LE.c (Wn.no rfl) rfl (R.call bd20 (Ls.cons rfl (Ls.cons rfl Ls.nil)) rfl) (Calls.mono h ?_)
    rintro _ w12 ⟨r8, r9, r10, r11, rfl, h⟩
    refine ⟨_, rfl, ?_⟩
    refine LE.p (v := (Value.tuple #[(Value.agg #[(Value.int .u32 r8), (Value.int .i64 r9)]), (Value.int .i64 r10), (Value.bool r11)])) (Wn.no rfl) rfl (R.move rfl) ?_
    refine LE.p (v := (Value.agg #[(Value.int .u32 r8), (Value.int .i64 r9)])) (Wn.no rfl) rfl (R.ext rfl rfl) ?_
    refine LE.p (v := (Value.int .i64 r10)) (Wn.no rfl) rfl (R.ext rfl rfl) ?_
    refine LE.p (v := (Value.bool r11)) (Wn.no rfl) rfl (R.ext rfl rfl) ?_
    obtain ⟨b14, hpb14, w13, hww13, h⟩ := M.new_use h
    refine LE.r (v := (Value.pointer (some b14))) (Wn.no rfl) rfl (R.alloc (cs := #[(Value.int .u32 (0 : Int)), (Value.int .i64 (0 : Int))]) ze27 rfl hpb14 hww13) ?_
    obtain ⟨w15, hww15, h16, h⟩ := M.stA_use h
    refine LE.s (Wn.no rfl) rfl (R.stA (a := b14) [(Value.int .u32 r8), (Value.int .i64 r9)] sz27 rfl rfl rfl (by simp [Value.oneCell']) h16 hww15) ?_
    refine LE.p (v := (Value.int .i64 r10)) (Wn.no rfl) rfl (R.assign rfl) ?_
    refine LE.p (v := (Value.bool r11)) (Wn.no rfl) rfl (R.assign rfl) ?_
    refine LE.nil ?_
    refine WE.seq ?_
    obtain ⟨J17, hJ17, h⟩ := M.join_use h
    refine WE.regJ (fun e w => ∃ (x18 : Bool), J17 x18 w ∧ e 0 = (Value.bool x18)) ?_ ?_
    · clear hJ17
      refine LE.p (v := (Value.bool r4)) (Wn.no rfl) rfl (R.move rfl) ?_
      refine LE.p (v := (Value.bool r4)) (Wn.no rfl) rfl (R.move rfl) ?_
      rcases M.ite_use h with ⟨hb19, h⟩ | ⟨hb19, h⟩
      · refine LE.p (v := (Value.bool r6)) (Wn.yes 1 23 true rfl rfl rfl (congrArg Value.bool hb19)) rfl (R.move rfl) ?_
        refine LE.p (v := (Value.bool r6)) (Wn.no rfl) rfl (R.pickT (congrArg Value.bool hb19) rfl) ?_
        refine LE.p (v := (Value.bool r6)) (Wn.no rfl) rfl (R.move rfl) ?_
        rcases M.ite_use h with ⟨hb20, h⟩ | ⟨hb20, h⟩
        · obtain ⟨t21, h22, h⟩ := h
          obtain ⟨t23, h24, h⟩ := h
          refine LE.r (v := (Value.agg #[(Value.int .u32 t21), (Value.int .i64 t23)])) (Wn.yes 4 26 true rfl rfl rfl (congrArg Value.bool hb20)) rfl (R.ldA ag27 sz27 rfl rfl (Cs.cons h22 (Cs.cons h24 Cs.nil))) ?_
          refine LE.p (v := (Value.agg #[(Value.int .u32 (167837696 : Int)), (Value.int .i64 (16 : Int))])) (Wn.yes 4 26 true rfl rfl rfl (congrArg Value.bool hb20)) rfl (R.bld (by exact (Ls.cons (R.Pr rfl) (Ls.cons (R.Pr rfl) Ls.nil))) (fun w => bu27_0_1 (167837696 : Int) (16 : Int) w)) ?_
          refine LE.p (v := (Value.bool ((t21 == (167837696 : Int)) && (t23 == (16 : Int))))) (Wn.yes 4 26 true rfl rfl rfl (congrArg Value.bool hb20)) rfl (R.eqS (fun w => eq27 t21 (167837696 : Int) t23 (16 : Int) w) sg27 rfl rfl) ?_
          refine LE.p (v := (Value.bool ((t21 == (167837696 : Int)) && (t23 == (16 : Int))))) (Wn.no rfl) rfl (R.pickT (congrArg Value.bool hb20) rfl) ?_
          refine LE.p (v := (Value.bool ((t21 == (167837696 : Int)) && (t23 == (16 : Int))))) (Wn.no rfl) rfl (R.move rfl) ?_
          rcases M.ite_use h with ⟨hb25, h⟩ | ⟨hb25, h⟩
          · refine LE.p (v := (Value.int .i64 r10)) (Wn.yes 9 31 true rfl rfl rfl (congrArg Value.bool hb25)) rfl (R.move rfl) ?_
            refine LE.p (v := (Value.bool (r10 == (9 : Int)))) (Wn.yes 9 31 true rfl rfl rfl (congrArg Value.bool hb25)) rfl (R.eql rfl rfl) ?_
            refine LE.p (v := (Value.bool (r10 == (9 : Int)))) (Wn.no rfl) rfl (R.pickT (congrArg Value.bool hb25) rfl) ?_
            refine LE.p (v := (Value.bool (r10 == (9 : Int)))) (Wn.no rfl) rfl (R.move rfl) ?_
            rcases M.ite_use h with ⟨hb26, h⟩ | ⟨hb26, h⟩
            · refine LE.p (v := (Value.bool r11)) (Wn.yes 13 35 true rfl rfl rfl (congrArg Value.bool hb26)) rfl (R.move rfl) ?_
              refine LE.p (v := (Value.bool r11)) (Wn.no rfl) rfl (R.pickT (congrArg Value.bool hb26) rfl) ?_
              refine LE.p (v := (Value.bool r11)) (Wn.no rfl) rfl (R.move rfl) ?_
              rcases M.ite_use h with ⟨hb27, h⟩ | ⟨hb27, h⟩
              · refine LE.p (v := (Value.pointer r1)) (Wn.yes 16 38 true rfl rfl rfl (congrArg Value.bool hb27)) rfl (R.move rfl) ?_
                refine LE.c (Wn.yes 16 38 true rfl rfl rfl (congrArg Value.bool hb27)) rfl (R.call bd18 (Ls.cons rfl Ls.nil) rfl) (Calls.mono h ?_)
                rintro _ w29 ⟨r28, rfl, h⟩
                refine ⟨_, rfl, ?_⟩
                refine LE.p (v := (Value.bool (r28 == (2 : Int)))) (Wn.yes 16 38 true rfl rfl rfl (congrArg Value.bool hb27)) rfl (R.eql rfl rfl) ?_
                refine LE.p (v := (Value.bool (r28 == (2 : Int)))) (Wn.no rfl) rfl (R.pickT (congrArg Value.bool hb27) rfl) ?_
                refine LE.p (v := (Value.bool (r28 == (2 : Int)))) (Wn.no rfl) rfl (R.assign rfl) ?_
                refine LE.nil ?_
                exact ⟨_, h, rfl⟩
              · refine LE.u (Un.no 16 38 true rfl rfl rfl (congrArg Value.bool hb27)) ?_
                refine LE.u (Un.no 16 38 true rfl rfl rfl (congrArg Value.bool hb27)) ?_
                refine LE.u (Un.no 16 38 true rfl rfl rfl (congrArg Value.bool hb27)) ?_
                refine LE.p (v := (Value.bool false)) (Wn.no rfl) rfl (R.pickF (congrArg Value.bool hb27) rfl) ?_
                refine LE.p (v := (Value.bool false)) (Wn.no rfl) rfl (R.assign rfl) ?_
                refine LE.nil ?_
                exact ⟨_, h, rfl⟩
            · refine LE.u (Un.no 13 35 true rfl rfl rfl (congrArg Value.bool hb26)) ?_
              refine LE.p (v := (Value.bool false)) (Wn.no rfl) rfl (R.pickF (congrArg Value.bool hb26) rfl) ?_
              refine LE.p (v := (Value.bool false)) (Wn.no rfl) rfl (R.move rfl) ?_
              refine LE.u (Un.no 16 38 true rfl rfl rfl rfl) ?_
              refine LE.u (Un.no 16 38 true rfl rfl rfl rfl) ?_
              refine LE.u (Un.no 16 38 true rfl rfl rfl rfl) ?_
              refine LE.p (v := (Value.bool false)) (Wn.no rfl) rfl (R.pickF rfl rfl) ?_
              refine LE.p (v := (Value.bool false)) (Wn.no rfl) rfl (R.assign rfl) ?_
              refine LE.nil ?_
              exact ⟨_, h, rfl⟩
          · refine LE.u (Un.no 9 31 true rfl rfl rfl (congrArg Value.bool hb25)) ?_
            refine LE.u (Un.no 9 31 true rfl rfl rfl (congrArg Value.bool hb25)) ?_
            refine LE.p (v := (Value.bool false)) (Wn.no rfl) rfl (R.pickF (congrArg Value.bool hb25) rfl) ?_
            refine LE.p (v := (Value.bool false)) (Wn.no rfl) rfl (R.move rfl) ?_
            refine LE.u (Un.no 13 35 true rfl rfl rfl rfl) ?_
            refine LE.p (v := (Value.bool false)) (Wn.no rfl) rfl (R.pickF rfl rfl) ?_
            refine LE.p (v := (Value.bool false)) (Wn.no rfl) rfl (R.move rfl) ?_
            refine LE.u (Un.no 16 38 true rfl rfl rfl rfl) ?_
            refine LE.u (Un.no 16 38 true rfl rfl rfl rfl) ?_
            refine LE.u (Un.no 16 38 true rfl rfl rfl rfl) ?_
            refine LE.p (v := (Value.bool false)) (Wn.no rfl) rfl (R.pickF rfl rfl) ?_
            refine LE.p (v := (Value.bool false)) (Wn.no rfl) rfl (R.assign rfl) ?_
            refine LE.nil ?_
            exact ⟨_, h, rfl⟩
        · refine LE.u (Un.no 4 26 true rfl rfl rfl (congrArg Value.bool hb20)) ?_
          refine LE.u (Un.no 4 26 true rfl rfl rfl (congrArg Value.bool hb20)) ?_
          refine LE.u (Un.no 4 26 true rfl rfl rfl (congrArg Value.bool hb20)) ?_
          refine LE.p (v := (Value.bool false)) (Wn.no rfl) rfl (R.pickF (congrArg Value.bool hb20) rfl) ?_
          refine LE.p (v := (Value.bool false)) (Wn.no rfl) rfl (R.move rfl) ?_
          refine LE.u (Un.no 9 31 true rfl rfl rfl rfl) ?_
          refine LE.u (Un.no 9 31 true rfl rfl rfl rfl) ?_
          refine LE.p (v := (Value.bool false)) (Wn.no rfl) rfl (R.pickF rfl rfl) ?_
          refine LE.p (v := (Value.bool false)) (Wn.no rfl) rfl (R.move rfl) ?_
          refine LE.u (Un.no 13 35 true rfl rfl rfl rfl) ?_
          refine LE.p (v := (Value.bool false)) (Wn.no rfl) rfl (R.pickF rfl rfl) ?_
          refine LE.p (v := (Value.bool false)) (Wn.no rfl) rfl (R.move rfl) ?_
          refine LE.u (Un.no 16 38 true rfl rfl rfl rfl) ?_
          refine LE.u (Un.no 16 38 true rfl rfl rfl rfl) ?_
          refine LE.u (Un.no 16 38 true rfl rfl rfl rfl) ?_
          refine LE.p (v := (Value.bool false)) (Wn.no rfl) rfl (R.pickF rfl rfl) ?_
          refine LE.p (v := (Value.bool false)) (Wn.no rfl) rfl (R.assign rfl) ?_
          refine LE.nil ?_
          exact ⟨_, h, rfl⟩
      · refine LE.u (Un.no 1 23 true rfl rfl rfl (congrArg Value.bool hb19)) ?_
        refine LE.p (v := (Value.bool false)) (Wn.no rfl) rfl (R.pickF (congrArg Value.bool hb19) rfl) ?_
        refine LE.p (v := (Value.bool false)) (Wn.no rfl) rfl (R.move rfl) ?_
        refine LE.u (Un.no 4 26 true rfl rfl rfl rfl) ?_
        refine LE.u (Un.no 4 26 true rfl rfl rfl rfl) ?_
        refine LE.u (Un.no 4 26 true rfl rfl rfl rfl) ?_
        refine LE.p (v := (Value.bool false)) (Wn.no rfl) rfl (R.pickF rfl rfl) ?_
        refine LE.p (v := (Value.bool false)) (Wn.no rfl) rfl (R.move rfl) ?_
        refine LE.u (Un.no 9 31 true rfl rfl rfl rfl) ?_
        refine LE.u (Un.no 9 31 true rfl rfl rfl rfl) ?_
        refine LE.p (v := (Value.bool false)) (Wn.no rfl) rfl (R.pickF rfl rfl) ?_
        refine LE.p (v := (Value.bool false)) (Wn.no rfl) rfl (R.move rfl) ?_
        refine LE.u (Un.no 13 35 true rfl rfl rfl rfl) ?_
        refine LE.p (v := (Value.bool false)) (Wn.no rfl) rfl (R.pickF rfl rfl) ?_
        refine LE.p (v := (Value.bool false)) (Wn.no rfl) rfl (R.move rfl) ?_
        refine LE.u (Un.no 16 38 true rfl rfl rfl rfl) ?_
        refine LE.u (Un.no 16 38 true rfl rfl rfl rfl) ?_
        refine LE.u (Un.no 16 38 true rfl rfl rfl rfl) ?_
        refine LE.p (v := (Value.bool false)) (Wn.no rfl) rfl (R.pickF rfl rfl) ?_
        refine LE.p (v := (Value.bool false)) (Wn.no rfl) rfl (R.assign rfl) ?_
        refine LE.nil ?_
        exact ⟨_, h, rfl⟩
    · rintro e30 w31 ⟨x18, h, f32⟩
      subst hJ17
      refine WE.ret ?_
      exact ⟨_, (Res.tmp f32 Res.nil), _, rfl, h⟩
/-- The formula of (*signpost.trie.Trie).Match. -/
def F20 (p0 : Option Addr) (p1 : Int) (K : Int → Int → Int → Bool → World → Prop) (w0 : World) : Prop :=
M.new (.cells #[(Value.int .u32 (0 : Int)), (Value.int .i64 (0 : Int))] 27) w0 fun b2 w1 =>
Calls Try.prog 33 #[(Value.pointer p0), (Value.int .u32 p1), (Value.int .i64 (32 : Int))] w1 (R33 fun r3 w4 =>
M.ite ((r3.len : Int) == (0 : Int)) (
M.stA b2 [(Value.int .u32 (0 : Int)), (Value.int .i64 (0 : Int))] w4 fun w6 =>
M.ld (Value.int .u32) b2 w6 fun t8 =>
M.ld (Value.int .i64) (b2.add 1) w6 fun t10 =>
K t8 t10 (0 : Int) false w6) (
M.idx r3 (IntKind.i64.wrap ((r3.len : Int) - (1 : Int))) 2 fun a12 =>
M.ld (Value.int .u32) (a12.add ((IntKind.i64.wrap ((r3.len : Int) - (1 : Int))).toNat * 2)) w4 fun t16 =>
M.ld (Value.int .i64) ((a12.add ((IntKind.i64.wrap ((r3.len : Int) - (1 : Int))).toNat * 2)).add 1) w4 fun t18 =>
M.new (.cells #[(Value.int .u32 (0 : Int)), (Value.int .i64 (0 : Int))] 27) w4 fun b21 w20 =>
M.stA b21 [(Value.int .u32 t16), (Value.int .i64 t18)] w20 fun w22 =>
M.ld (Value.int .u32) b21 w22 fun t24 =>
M.ld (Value.int .i64) (b21.add 1) w22 fun t26 =>
Calls Try.prog 15 #[(Value.pointer p0), (Value.agg #[(Value.int .u32 t24), (Value.int .i64 t26)])] w22 (R15 fun r28 r29 w30 =>
M.ld (Value.int .u32) b21 w30 fun t31 =>
M.ld (Value.int .i64) (b21.add 1) w30 fun t33 =>
M.stA b2 [(Value.int .u32 t31), (Value.int .i64 t33)] w30 fun w35 =>
M.ld (Value.int .u32) b2 w35 fun t37 =>
M.ld (Value.int .i64) (b2.add 1) w35 fun t39 =>
K t37 t39 r28 true w35)))
theorem F20_ok {w0 : World} {p0 : Option Addr} {p1 : Int} {K : Int → Int → Int → Bool → World → Prop} (h : F20 p0 p1 K w0) : Calls Try.prog 20 #[(Value.pointer p0), (Value.int .u32 p1)] w0 (R20 K) := by
  refine calls_of_WE (args := [(Value.pointer p0), (Value.int .u32 p1)]) (rs := [.cell 4 27, .tmp 5, .tmp 6]) Try.func20 rfl (N := 32) rfl rfl rfl rfl ?_
  refine WE.seq ?_
  refine WE.reg ?_
  obtain ⟨b2, hpb2, w1, hww1, h⟩ := M.new_use h
  refine LE.r (v := (Value.pointer (some b2))) (Wn.no rfl) rfl (R.alloc (cs := #[(Value.int .u32 (0 : Int)), (Value.int .i64 (0 : Int))]) ze27 rfl hpb2 hww1) ?_
  refine LE.p (v := (Value.int .i64 (0 : Int))) (Wn.no rfl) rfl (R.assign rfl) ?_
  refine LE.p (v := (Value.bool false)) (Wn.no rfl) rfl (R.assign rfl) ?_
  refine LE.nil ?_
  refine WE.seq ?_
  refine WE.reg ?_
  refine LE.p (v := (Value.pointer p0)) (Wn.no rfl) rfl (R.move rfl) ?_
  refine LE.p (v := (Value.int .u32 p1)) (Wn.no rfl) rfl (R.move rfl) ?_
  refine LE.c (Wn.no rfl) rfl (R.call bd33 (Ls.cons rfl (Ls.cons rfl (Ls.cons rfl Ls.nil))) rfl) (Calls.mono h ?_)
  rintro _ w4 ⟨r3, rfl, h⟩
  refine ⟨_, rfl, ?_⟩
  refine LE.p (v := (SV.v r3)) (Wn.no rfl) rfl (R.assign rfl) ?_
  refine LE.nil ?_
  refine WE.seq ?_
  refine WE.seq ?_
  refine WE.reg ?_
  refine LE.p (v := (SV.v r3)) (Wn.no rfl) rfl (R.move rfl) ?_
  refine LE.p (v := (Value.int .i64 (r3.len : Int))) (Wn.no rfl) rfl (R.len sl33 rfl) ?_
  refine LE.p (v := (Value.bool ((r3.len : Int) == (0 : Int)))) (Wn.no rfl) rfl (R.eql rfl rfl) ?_
  refine LE.nil ?_
  refine WE.condT rfl (b := ((r3.len : Int) == (0 : Int))) rfl ?_ ?_
  · intro hb5
    replace h := M.ite_t h hb5
    refine WE.seq ?_
    refine WE.reg ?_
    refine LE.p (v := (Value.agg #[(Value.int .u32 (0 : Int)), (Value.int .i64 (0 : Int))])) (Wn.no rfl) rfl (R.bld (by exact Ls.nil) (fun w => bu27_  w)) ?_
    obtain ⟨w6, hww6, h7, h⟩ := M.stA_use h
    refine LE.s (Wn.no rfl) rfl (R.stA (a := b2) [(Value.int .u32 (0 : Int)), (Value.int .i64 (0 : Int))] sz27 rfl rfl rfl (by simp [Value.oneCell']) h7 hww6) ?_
    refine LE.p (v := (Value.int .i64 (0 : Int))) (Wn.no rfl) rfl (R.assign rfl) ?_
    refine LE.p (v := (Value.bool false)) (Wn.no rfl) rfl (R.assign rfl) ?_
    refine LE.nil ?_
    refine WE.ret ?_
    obtain ⟨t8, h9, h⟩ := h
    obtain ⟨t10, h11, h⟩ := h
    exact ⟨_, (Res.cell rfl (R.ldCellA ag27 sz27 rfl (Cs.cons h9 (Cs.cons h11 Cs.nil))) (Res.tmp rfl (Res.tmp rfl Res.nil))), _, _, _, _, rfl, h⟩
  · intro hb5
    replace h := M.ite_f h hb5
    refine WE.skip ?_
    refine WE.seq ?_
    refine WE.reg ?_
    refine LE.p (v := (SV.v r3)) (Wn.no rfl) rfl (R.move rfl) ?_
    refine LE.p (v := (SV.v r3)) (Wn.no rfl) rfl (R.move rfl) ?_
    refine LE.p (v := (Value.int .i64 (r3.len : Int))) (Wn.no rfl) rfl (R.len sl33 rfl) ?_
    refine LE.p (v := (Value.int .i64 (IntKind.i64.wrap ((r3.len : Int) - (1 : Int))))) (Wn.no rfl) rfl (R.sub rfl rfl) ?_
    obtain ⟨a12, h13, h14, h15, h⟩ := h
    refine LE.p (v := (Value.pointer (some (a12.add ((IntKind.i64.wrap ((r3.len : Int) - (1 : Int))).toNat * 2))))) (Wn.no rfl) rfl (R.idx (s := r3) sl33 rfl rfl h13 h14 h15) ?_
    obtain ⟨t16, h17, h⟩ := h
    obtain ⟨t18, h19, h⟩ := h
    refine LE.r (v := (Value.agg #[(Value.int .u32 t16), (Value.int .i64 t18)])) (Wn.no rfl) rfl (R.ldA ag27 sz27 rfl rfl (Cs.cons h17 (Cs.cons h19 Cs.nil))) ?_
    obtain ⟨b21, hpb21, w20, hww20, h⟩ := M.new_use h
    refine LE.r (v := (Value.pointer (some b21))) (Wn.no rfl) rfl (R.alloc (cs := #[(Value.int .u32 (0 : Int)), (Value.int .i64 (0 : Int))]) ze27 rfl hpb21 hww20) ?_
    obtain ⟨w22, hww22, h23, h⟩ := M.stA_use h
    refine LE.s (Wn.no rfl) rfl (R.stA (a := b21) [(Value.int .u32 t16), (Value.int .i64 t18)] sz27 rfl rfl rfl (by simp [Value.oneCell']) h23 hww22) ?_
    refine LE.nil ?_
    refine WE.seq ?_
    refine WE.reg ?_
    refine LE.p (v := (Value.pointer p0)) (Wn.no rfl) rfl (R.move rfl) ?_
    obtain ⟨t24, h25, h⟩ := h
    obtain ⟨t26, h27, h⟩ := h
    refine LE.r (v := (Value.agg #[(Value.int .u32 t24), (Value.int .i64 t26)])) (Wn.no rfl) rfl (R.ldA ag27 sz27 rfl rfl (Cs.cons h25 (Cs.cons h27 Cs.nil))) ?_
    refine LE.c (Wn.no rfl) rfl (R.call bd15 (Ls.cons rfl (Ls.cons rfl Ls.nil)) rfl) (Calls.mono h ?_)
    rintro _ w30 ⟨r28, r29, rfl, h⟩
    refine ⟨_, rfl, ?_⟩
    refine LE.p (v := (Value.tuple #[(Value.int .i64 r28), (Value.bool r29)])) (Wn.no rfl) rfl (R.move rfl) ?_
    refine LE.p (v := (Value.int .i64 r28)) (Wn.no rfl) rfl (R.ext rfl rfl) ?_
    refine LE.p (v := (Value.bool r29)) (Wn.no rfl) rfl (R.ext rfl rfl) ?_
    refine LE.p (v := (Value.int .i64 r28)) (Wn.no rfl) rfl (R.assign rfl) ?_
    refine LE.p (v := (Value.bool r29)) (Wn.no rfl) rfl (R.assign rfl) ?_
    refine LE.nil ?_
    refine WE.seq ?_
    refine WE.reg ?_
    obtain ⟨t31, h32, h⟩ := h
    obtain ⟨t33, h34, h⟩ := h
    refine LE.r (v := (Value.agg #[(Value.int .u32 t31), (Value.int .i64 t33)])) (Wn.no rfl) rfl (R.ldA ag27 sz27 rfl rfl (Cs.cons h32 (Cs.cons h34 Cs.nil))) ?_
    refine LE.p (v := (Value.int .i64 r28)) (Wn.no rfl) rfl (R.move rfl) ?_
    obtain ⟨w35, hww35, h36, h⟩ := M.stA_use h
    refine LE.s (Wn.no rfl) rfl (R.stA (a := b2) [(Value.int .u32 t31), (Value.int .i64 t33)] sz27 rfl rfl rfl (by simp [Value.oneCell']) h36 hww35) ?_
    refine LE.p (v := (Value.int .i64 r28)) (Wn.no rfl) rfl (R.assign rfl) ?_
    refine LE.p (v := (Value.bool true)) (Wn.no rfl) rfl (R.assign rfl) ?_
    refine LE.nil ?_
    refine WE.ret ?_
    obtain ⟨t37, h38, h⟩ := h
    obtain ⟨t39, h40, h⟩ := h
    exact ⟨_, (Res.cell rfl (R.ldCellA ag27 sz27 rfl (Cs.cons h38 (Cs.cons h40 Cs.nil))) (Res.tmp rfl (Res.tmp rfl Res.nil))), _, _, _, _, rfl, h⟩
/-- The formula of signpost.signpostref1.Has. -/
def F21 (p0_0 : Int) (p0_1 : Int) (p1 : Int) (K : Bool → World → Prop) (w0 : World) : Prop :=
M.new (.cells #[(Value.int .u32 p0_0), (Value.int .i64 p0_1)] 27) w0 fun b2 w1 =>
M.join (fun (x4 : Bool) (w21 : World) => 
K x4 w21) fun J3 => 
M.drew w1 fun w5 => 
M.ld (Value.int .u32) b2 w5 fun t6 =>
M.ld (Value.int .i64) (b2.add 1) w5 fun t8 =>
Calls Try.prog 32 #[(Value.agg #[(Value.int .u32 t6), (Value.int .i64 t8)])] w5 (R32 fun r10 w11 =>
M.ite r10 (
M.ld (Value.int .i64) (b2.add 1) w11 fun t13 =>
M.ld (Value.int .u32) b2 w11 fun t15 =>
Calls Try.prog 34 #[(Value.int .i64 t13)] w11 (R34 fun r17 w18 =>
M.keep (w18.cell? b2 = some (Value.int .u32 t15)) <|
J3 ((bAnd .u32 p1 r17) == t15) w18)) (
J3 false w11))
theorem F21_ok {w0 : World} {p0_0 : Int} {p0_1 : Int} {p1 : Int} {K : Bool → World → Prop} (h : F21 p0_0 p0_1 p1 K w0) : Calls Try.prog 21 #[(Value.agg #[(Value.int .u32 p0_0), (Value.int .i64 p0_1)]), (Value.int .u32 p1)] w0 (R21 K) := by
  refine calls_of_WE (args := [(Value.agg #[(Value.int .u32 p0_0), (Value.int .i64 p0_1)]), (Value.int .u32 p1)]) (rs := [.tmp 4]) Try.func21 rfl (N := 17) rfl rfl rfl rfl ?_
  refine WE.seq ?_
  refine WE.reg ?_
  obtain ⟨b2, hpb2, w1, hww1, h⟩ := M.new_use h
  refine LE.r (v := (Value.pointer (some b2))) (Wn.no rfl) rfl (R.box (cs := #[(Value.int .u32 p0_0), (Value.int .i64 p0_1)]) rfl rfl hpb2 hww1) ?_
  refine LE.p (v := (Value.bool false)) (Wn.no rfl) rfl (R.assign rfl) ?_
  refine LE.nil ?_
  refine WE.seq ?_
  obtain ⟨J3, hJ3, h⟩ := M.join_use h
  refine WE.drawJ (fun e w => ∃ (x4 : Bool), J3 x4 w ∧ e 4 = (Value.bool x4)) mix ?_ ?_
  · clear hJ3
    obtain ⟨w5, hww5, h⟩ := M.drew_use h
    rw [← hww5]
    clear hww5
    obtain ⟨t6, h7, h⟩ := h
    obtain ⟨t8, h9, h⟩ := h
    refine DE.main 0 (by kernel_rfl) ?_
    refine One.r 0 (v := (Value.agg #[(Value.int .u32 t6), (Value.int .i64 t8)])) rfl (Wn.no rfl) rfl (R.ldA ag27 sz27 rfl rfl (Cs.cons h7 (Cs.cons h9 Cs.nil))) (.inl rfl) ?_
    refine DE.main 1 (by kernel_rfl) ?_
    refine One.c 1 rfl (Wn.no rfl) rfl (R.call bd32 (Ls.cons rfl Ls.nil) rfl) (Calls.mono h ?_)
    rintro _ w11 ⟨r10, rfl, h⟩
    refine ⟨_, rfl, trivial, ?_⟩
    refine DE.t 2 (v := (Value.bool r10)) rfl (by kernel_rfl) (Wn.no rfl) rfl (R.move rfl) ?_
    rcases M.ite_use h with ⟨hb12, h⟩ | ⟨hb12, h⟩
    · refine DE.t 3 (v := (Value.int .u32 p1)) rfl (by kernel_rfl) (Wn.yes 2 7 true rfl rfl rfl (congrArg Value.bool hb12)) rfl (R.move rfl) ?_
      refine DE.t 4 (v := (Value.pointer (some (b2.add 1)))) rfl (by kernel_rfl) (Wn.yes 2 7 true rfl rfl rfl (congrArg Value.bool hb12)) rfl (R.fld (off := 1) fa27_1 rfl) ?_
      refine DE.t 8 (v := (Value.pointer (some b2))) rfl (by kernel_rfl) (Wn.yes 2 7 true rfl rfl rfl (congrArg Value.bool hb12)) rfl (R.fld (off := 0) fa27_0 rfl) ?_
      obtain ⟨t13, h14, h⟩ := h
      refine DE.hold 5 (fun w => w.cell? (b2.add 1) = some (Value.int .i64 t13)) (v := (Value.int .i64 t13)) rfl (by kernel_rfl) (Wn.yes 2 7 true rfl rfl rfl (congrArg Value.bool hb12)) rfl h14 (fun w hs => R.ld sc3 rfl hs) ?_
      obtain ⟨t15, h16, h⟩ := h
      refine DE.hold 9 (fun w => w.cell? b2 = some (Value.int .u32 t15)) (v := (Value.int .u32 t15)) rfl (by kernel_rfl) (Wn.yes 2 7 true rfl rfl rfl (congrArg Value.bool hb12)) rfl h16 (fun w hs => R.ld sc25 rfl hs) ?_
      refine DE.main 6 (by kernel_rfl) ?_
      refine One.c 6 rfl (Wn.yes 2 7 true rfl rfl rfl (congrArg Value.bool hb12)) rfl (R.call bd34 (Ls.cons rfl Ls.nil) rfl) (Calls.mono h ?_)
      rintro _ w18 ⟨r17, rfl, h⟩
      obtain ⟨k19, h⟩ := h
      refine ⟨_, rfl, ⟨fun _ => k19, aftT (by kernel_rfl), trivial⟩, ?_⟩
      refine DE.t 7 (v := (Value.int .u32 (bAnd .u32 p1 r17))) rfl (by kernel_rfl) (Wn.yes 2 7 true rfl rfl rfl (congrArg Value.bool hb12)) rfl (R.and rfl rfl) ?_
      refine DE.t 10 (v := (Value.bool ((bAnd .u32 p1 r17) == t15))) rfl (by kernel_rfl) (Wn.yes 2 7 true rfl rfl rfl (congrArg Value.bool hb12)) rfl (R.eql rfl rfl) ?_
      refine DE.t 11 (v := (Value.bool ((bAnd .u32 p1 r17) == t15))) rfl (by kernel_rfl) (Wn.no rfl) rfl (R.pickT (congrArg Value.bool hb12) rfl) ?_
      refine DE.t 12 (v := (Value.bool ((bAnd .u32 p1 r17) == t15))) rfl (by kernel_rfl) (Wn.no rfl) rfl (R.assign rfl) ?_
      refine DE.done (by kernel_rfl) ?_
      exact ⟨_, h, rfl⟩
    · refine DE.u 3 rfl (by kernel_rfl) (Un.no 2 7 true rfl rfl rfl (congrArg Value.bool hb12)) ?_
      refine DE.u 4 rfl (by kernel_rfl) (Un.no 2 7 true rfl rfl rfl (congrArg Value.bool hb12)) ?_
      refine DE.u 5 rfl (by kernel_rfl) (Un.no 2 7 true rfl rfl rfl (congrArg Value.bool hb12)) ?_
      refine DE.u 6 rfl (by kernel_rfl) (Un.no 2 7 true rfl rfl rfl (congrArg Value.bool hb12)) ?_
      refine DE.u 7 rfl (by kernel_rfl) (Un.no 2 7 true rfl rfl rfl (congrArg Value.bool hb12)) ?_
      refine DE.u 8 rfl (by kernel_rfl) (Un.no 2 7 true rfl rfl rfl (congrArg Value.bool hb12)) ?_
      refine DE.u 9 rfl (by kernel_rfl) (Un.no 2 7 true rfl rfl rfl (congrArg Value.bool hb12)) ?_
      refine DE.u 10 rfl (by kernel_rfl) (Un.no 2 7 true rfl rfl rfl (congrArg Value.bool hb12)) ?_
      refine DE.t 11 (v := (Value.bool false)) rfl (by kernel_rfl) (Wn.no rfl) rfl (R.pickF (congrArg Value.bool hb12) rfl) ?_
      refine DE.t 12 (v := (Value.bool false)) rfl (by kernel_rfl) (Wn.no rfl) rfl (R.assign rfl) ?_
      refine DE.done (by kernel_rfl) ?_
      exact ⟨_, h, rfl⟩
  · rintro e20 w21 ⟨x4, h, f22⟩
    subst hJ3
    refine WE.ret ?_
    exact ⟨_, (Res.tmp f22 Res.nil), _, rfl, h⟩
/-- The formula of (*signpost.trie.Trie).Above. -/
def F22 (p0 : Option Addr) (p1_0 : Int) (p1_1 : Int) (K : SV → World → Prop) (w0 : World) : Prop :=
M.new (.cells #[(Value.int .u32 p1_0), (Value.int .i64 p1_1)] 27) w0 fun b2 w1 =>
M.ld (Value.int .u32) b2 w1 fun t3 =>
M.ld (Value.int .i64) (b2.add 1) w1 fun t5 =>
Calls Try.prog 29 #[(Value.agg #[(Value.int .u32 t3), (Value.int .i64 t5)])] w1 (R29 fun r7 w8 =>
M.ite (!r7) (
K SV.nil w8) (
M.ld (Value.int .u32) b2 w8 fun t10 =>
M.ld (Value.int .i64) (b2.add 1) w8 fun t12 =>
Calls Try.prog 33 #[(Value.pointer p0), (Value.int .u32 t10), (Value.int .i64 t12)] w8 (R33 fun r14 w15 =>
K r14 w15)))
theorem F22_ok {w0 : World} {p0 : Option Addr} {p1_0 : Int} {p1_1 : Int} {K : SV → World → Prop} (h : F22 p0 p1_0 p1_1 K w0) : Calls Try.prog 22 #[(Value.pointer p0), (Value.agg #[(Value.int .u32 p1_0), (Value.int .i64 p1_1)])] w0 (R22 K) := by
  refine calls_of_WE (args := [(Value.pointer p0), (Value.agg #[(Value.int .u32 p1_0), (Value.int .i64 p1_1)])]) (rs := [.tmp 4]) Try.func22 rfl (N := 14) rfl rfl rfl rfl ?_
  refine WE.seq ?_
  refine WE.reg ?_
  obtain ⟨b2, hpb2, w1, hww1, h⟩ := M.new_use h
  refine LE.r (v := (Value.pointer (some b2))) (Wn.no rfl) rfl (R.box (cs := #[(Value.int .u32 p1_0), (Value.int .i64 p1_1)]) rfl rfl hpb2 hww1) ?_
  refine LE.p (v := (SV.v SV.nil)) (Wn.no rfl) rfl (R.assign rfl) ?_
  refine LE.nil ?_
  refine WE.seq ?_
  refine WE.seq ?_
  refine WE.reg ?_
  obtain ⟨t3, h4, h⟩ := h
  obtain ⟨t5, h6, h⟩ := h
  refine LE.r (v := (Value.agg #[(Value.int .u32 t3), (Value.int .i64 t5)])) (Wn.no rfl) rfl (R.ldA ag27 sz27 rfl rfl (Cs.cons h4 (Cs.cons h6 Cs.nil))) ?_
  refine LE.c (Wn.no rfl) rfl (R.call bd29 (Ls.cons rfl Ls.nil) rfl) (Calls.mono h ?_)
  rintro _ w8 ⟨r7, rfl, h⟩
  refine ⟨_, rfl, ?_⟩
  refine LE.p (v := (Value.bool (!r7))) (Wn.no rfl) rfl (R.not rfl) ?_
  refine LE.nil ?_
  refine WE.condT rfl (b := (!r7)) rfl ?_ ?_
  · intro hb9
    replace h := M.ite_t h hb9
    refine WE.seq ?_
    refine WE.reg ?_
    refine LE.p (v := (SV.v SV.nil)) (Wn.no rfl) rfl (R.assign rfl) ?_
    refine LE.nil ?_
    refine WE.ret ?_
    exact ⟨_, (Res.tmp rfl Res.nil), _, rfl, h⟩
  · intro hb9
    replace h := M.ite_f h hb9
    refine WE.skip ?_
    refine WE.seq ?_
    refine WE.reg ?_
    refine LE.p (v := (Value.pointer p0)) (Wn.no rfl) rfl (R.move rfl) ?_
    refine LE.p (v := (Value.pointer (some b2))) (Wn.no rfl) rfl (R.fld (off := 0) fa27_0 rfl) ?_
    obtain ⟨t10, h11, h⟩ := h
    refine LE.r (v := (Value.int .u32 t10)) (Wn.no rfl) rfl (R.ld sc25 rfl h11) ?_
    refine LE.p (v := (Value.pointer (some (b2.add 1)))) (Wn.no rfl) rfl (R.fld (off := 1) fa27_1 rfl) ?_
    obtain ⟨t12, h13, h⟩ := h
    refine LE.r (v := (Value.int .i64 t12)) (Wn.no rfl) rfl (R.ld sc3 rfl h13) ?_
    refine LE.c (Wn.no rfl) rfl (R.call bd33 (Ls.cons rfl (Ls.cons rfl (Ls.cons rfl Ls.nil))) rfl) (Calls.mono h ?_)
    rintro _ w15 ⟨r14, rfl, h⟩
    refine ⟨_, rfl, ?_⟩
    refine LE.p (v := (SV.v r14)) (Wn.no rfl) rfl (R.assign rfl) ?_
    refine LE.nil ?_
    refine WE.ret ?_
    exact ⟨_, (Res.tmp rfl Res.nil), _, rfl, h⟩
end Go.Proofs.Ytjjjomeemfmihaa
