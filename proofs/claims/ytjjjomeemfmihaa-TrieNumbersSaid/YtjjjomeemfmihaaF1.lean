/-
  Printed by gen.py: the formula of each function, and that it holds of the function.
-/
import Derived.Test.YtjjjomeemfmihaaTy
namespace Go.Proofs.Ytjjjomeemfmihaa
set_option linter.unusedVariables false
set_option linter.unusedSimpArgs false
open Go.Sp
set_option linter.unusedVariables false
/-- The formula of signpost.signpostlaw3.TrieOrder. -/
def F3 (p0 : SV) (p1 : Int) (K : Bool → World → Prop) (w0 : World) : Prop :=
Calls Try.prog 10 #[] w0 (R10 fun r1 w2 =>
Calls Try.prog 10 #[] w2 (R10 fun r3 w4 =>
M.join (fun (x6 : Bool) (w9 : World) => 
M.ite x6 (
K false w9) (
M.join (fun (x17 : Int) (w20 : World) => 
M.loop1 (fun (J27 : Int → World → Prop) (x26 : Int) (w28 : World) => 
M.ite (decide (x26 < x17)) (
M.join (fun (x43 : Addr) (w76 : World) => 
M.ld (Value.int .u32) x43 w76 fun t84 =>
M.ld (Value.int .i64) (x43.add 1) w76 fun t86 =>
M.ld (Value.int .i64) (x43.add 1) w76 fun t88 =>
Calls Try.prog 12 #[(Value.pointer r1), (Value.agg #[(Value.int .u32 t84), (Value.int .i64 t86)]), (Value.int .i64 t88)] w76 (R12 fun r90 w91 =>
Calls Try.prog 13 #[(Value.int .i64 p1), (Value.int .i64 (0 : Int)), (Value.int .i64 (50 : Int))] w91 (R13 fun r92 w93 =>
M.nz x17 <|
M.join (fun (x96 : Addr) (w129 : World) => 
M.ld (Value.int .u32) x96 w129 fun t137 =>
M.ld (Value.int .i64) (x96.add 1) w129 fun t139 =>
M.ld (Value.int .i64) (x96.add 1) w129 fun t141 =>
Calls Try.prog 12 #[(Value.pointer r3), (Value.agg #[(Value.int .u32 t137), (Value.int .i64 t139)]), (Value.int .i64 t141)] w129 (R12 fun r143 w144 =>
J27 (IntKind.i64.wrap (x26 + (1 : Int))) w144)) fun J95 => 
M.drew w93 fun w97 => 
M.idx p0 (Int.tmod (IntKind.i64.wrap (x26 + r92)) x17) 5 fun a98 =>
M.idx p0 (Int.tmod (IntKind.i64.wrap (x26 + r92)) x17) 5 fun a102 =>
M.ld (Value.int .u32) ((a98.add ((Int.tmod (IntKind.i64.wrap (x26 + r92)) x17).toNat * 5)).add 3) w97 fun t106 =>
M.ld (Value.int .i64) ((a102.add ((Int.tmod (IntKind.i64.wrap (x26 + r92)) x17).toNat * 5)).add 1) w97 fun t108 =>
M.both (
Calls Try.prog 11 #[(Value.int .u32 t106), (Value.int .i64 t108)] w97 (R11 fun r110 r111 w112 =>
M.new (.cells #[(Value.int .u32 (0 : Int)), (Value.int .i64 (0 : Int))] 27) w112 fun b114 w113 =>
M.keep (w113.cell? ((a102.add ((Int.tmod (IntKind.i64.wrap (x26 + r92)) x17).toNat * 5)).add 1) = some (Value.int .i64 t108)) <|
M.keep (w113.cell? ((a98.add ((Int.tmod (IntKind.i64.wrap (x26 + r92)) x17).toNat * 5)).add 3) = some (Value.int .u32 t106)) <|
M.stA b114 [(Value.int .u32 r110), (Value.int .i64 r111)] w113 fun w117 =>
J95 b114 w117)) (
M.new (.cells #[(Value.int .u32 (0 : Int)), (Value.int .i64 (0 : Int))] 27) w97 fun b120 w119 =>
M.keep (w119.cell? ((a102.add ((Int.tmod (IntKind.i64.wrap (x26 + r92)) x17).toNat * 5)).add 1) = some (Value.int .i64 t108)) <|
M.keep (w119.cell? ((a98.add ((Int.tmod (IntKind.i64.wrap (x26 + r92)) x17).toNat * 5)).add 3) = some (Value.int .u32 t106)) <|
Calls Try.prog 11 #[(Value.int .u32 t106), (Value.int .i64 t108)] w119 (R11 fun r123 r124 w125 =>
M.stA b120 [(Value.int .u32 r123), (Value.int .i64 r124)] w125 fun w126 =>
J95 b120 w126))))) fun J42 => 
M.drew w28 fun w44 => 
M.idx p0 x26 5 fun a45 =>
M.idx p0 x26 5 fun a49 =>
M.ld (Value.int .u32) ((a45.add (x26.toNat * 5)).add 3) w44 fun t53 =>
M.ld (Value.int .i64) ((a49.add (x26.toNat * 5)).add 1) w44 fun t55 =>
M.both (
Calls Try.prog 11 #[(Value.int .u32 t53), (Value.int .i64 t55)] w44 (R11 fun r57 r58 w59 =>
M.new (.cells #[(Value.int .u32 (0 : Int)), (Value.int .i64 (0 : Int))] 27) w59 fun b61 w60 =>
M.keep (w60.cell? ((a49.add (x26.toNat * 5)).add 1) = some (Value.int .i64 t55)) <|
M.keep (w60.cell? ((a45.add (x26.toNat * 5)).add 3) = some (Value.int .u32 t53)) <|
M.stA b61 [(Value.int .u32 r57), (Value.int .i64 r58)] w60 fun w64 =>
J42 b61 w64)) (
M.new (.cells #[(Value.int .u32 (0 : Int)), (Value.int .i64 (0 : Int))] 27) w44 fun b67 w66 =>
M.keep (w66.cell? ((a49.add (x26.toNat * 5)).add 1) = some (Value.int .i64 t55)) <|
M.keep (w66.cell? ((a45.add (x26.toNat * 5)).add 3) = some (Value.int .u32 t53)) <|
Calls Try.prog 11 #[(Value.int .u32 t53), (Value.int .i64 t55)] w66 (R11 fun r70 r71 w72 =>
M.stA b67 [(Value.int .u32 r70), (Value.int .i64 r71)] w72 fun w73 =>
J42 b67 w73))) (
Calls Try.prog 14 #[(Value.pointer r1)] w28 (R14 fun r145 w146 =>
Calls Try.prog 14 #[(Value.pointer r3)] w146 (R14 fun r147 w148 =>
M.loop1 (fun (J150 : Int → World → Prop) (x149 : Int) (w151 : World) => 
M.ite (decide (x149 < (r145.len : Int))) (
M.idx r145 x149 2 fun a164 =>
M.ld (Value.int .u32) (a164.add (x149.toNat * 2)) w151 fun t168 =>
M.ld (Value.int .i64) ((a164.add (x149.toNat * 2)).add 1) w151 fun t170 =>
Calls Try.prog 15 #[(Value.pointer r3), (Value.agg #[(Value.int .u32 t168), (Value.int .i64 t170)])] w151 (R15 fun r172 r173 w174 =>
M.join (fun (x176 : Bool) (w206 : World) => 
M.ite x176 (
K false w206) (
J150 (IntKind.i64.wrap (x149 + (1 : Int))) w206)) fun J175 => 
M.drew w174 fun w177 => 
M.ite (!r173) (
J175 true w177) (
M.idx r145 x149 2 fun a179 =>
M.ld (Value.int .i64) ((a179.add (x149.toNat * 2)).add 1) w177 fun t183 =>
M.ite (r172 != t183) (
J175 true w177) (
M.ite (decide ((0 : Int) < x149)) (
M.idx r145 (IntKind.i64.wrap (x149 - (1 : Int))) 2 fun a187 =>
M.idx r145 x149 2 fun a191 =>
M.ld (Value.int .u32) (a187.add ((IntKind.i64.wrap (x149 - (1 : Int))).toNat * 2)) w177 fun t195 =>
M.ld (Value.int .i64) ((a187.add ((IntKind.i64.wrap (x149 - (1 : Int))).toNat * 2)).add 1) w177 fun t197 =>
M.ld (Value.int .u32) (a191.add (x149.toNat * 2)) w177 fun t199 =>
M.ld (Value.int .i64) ((a191.add (x149.toNat * 2)).add 1) w177 fun t201 =>
Calls Try.prog 16 #[(Value.agg #[(Value.int .u32 t195), (Value.int .i64 t197)]), (Value.agg #[(Value.int .u32 t199), (Value.int .i64 t201)])] w177 (R16 fun r203 w204 =>
J175 (!r203) w204)) (
J175 false w177))))) (
M.join (fun (x215 : Bool) (w225 : World) => 
K x215 w225) fun J214 => 
Calls Try.prog 17 #[(SV.v r145), (SV.v r147)] w151 (R17 fun r216 w217 =>
M.ite r216 (
Calls Try.prog 18 #[(Value.pointer r1)] w217 (R18 fun r219 w220 =>
M.ite (r219 == (r145.len : Int)) (
Calls Try.prog 19 #[] w220 (R19 fun r222 w223 =>
J214 r222 w223)) (
J214 false w220))) (
J214 false w217)))) (0 : Int) w148)))) (0 : Int) w20) fun J16 => 
M.ite (decide ((50 : Int) < (p0.len : Int))) (
J16 (50 : Int) w9) (
J16 (p0.len : Int) w9))) fun J5 => 
M.ite (Option.isNone r1) (
J5 true w4) (
J5 (Option.isNone r3) w4)))
theorem F3_ok {w0 : World} {p0 : SV} {p1 : Int} {K : Bool → World → Prop} (h : F3 p0 p1 K w0) : Calls Try.prog 3 #[(SV.v p0), (Value.int .i64 p1)] w0 (R3 K) := by
  refine calls_of_WE (args := [(SV.v p0), (Value.int .i64 p1)]) (rs := [.tmp 4]) Try.func3 rfl (N := 132) rfl rfl rfl rfl ?_
  refine WE.seq ?_
  refine WE.reg ?_
  refine LE.p (v := (Value.bool false)) (Wn.no rfl) rfl (R.assign rfl) ?_
  refine LE.nil ?_
  refine WE.seq ?_
  refine WE.reg ?_
  refine LE.c (Wn.no rfl) rfl (R.call bd10 Ls.nil rfl) (Calls.mono h ?_)
  rintro _ w2 ⟨r1, rfl, h⟩
  refine ⟨_, rfl, ?_⟩
  refine LE.c (Wn.no rfl) rfl (R.call bd10 Ls.nil rfl) (Calls.mono h ?_)
  rintro _ w4 ⟨r3, rfl, h⟩
  refine ⟨_, rfl, ?_⟩
  refine LE.p (v := (Value.pointer r1)) (Wn.no rfl) rfl (R.assign rfl) ?_
  refine LE.p (v := (Value.pointer r3)) (Wn.no rfl) rfl (R.assign rfl) ?_
  refine LE.nil ?_
  refine WE.seq ?_
  refine WE.seq ?_
  obtain ⟨J5, hJ5, h⟩ := M.join_use h
  refine WE.regJ (fun e w => ∃ (x6 : Bool), J5 x6 w ∧ e 0 = (SV.v p0) ∧ e 1 = (Value.int .i64 p1) ∧ e 5 = (Value.pointer r1) ∧ e 6 = (Value.pointer r3) ∧ e 24 = (Value.bool x6)) ?_ ?_
  · clear hJ5
    refine LE.p (v := (Value.pointer r1)) (Wn.no rfl) rfl (R.move rfl) ?_
    refine LE.p (v := (Value.bool (Option.isNone r1))) (Wn.no rfl) rfl (R.peqNil pt23 rfl rfl) ?_
    refine LE.p (v := (Value.bool (Option.isNone r1))) (Wn.no rfl) rfl (R.move rfl) ?_
    rcases M.ite_use h with ⟨hb7, h⟩ | ⟨hb7, h⟩
    · refine LE.u (Un.no 2 21 false rfl rfl rfl (congrArg Value.bool hb7)) ?_
      refine LE.u (Un.no 2 21 false rfl rfl rfl (congrArg Value.bool hb7)) ?_
      refine LE.p (v := (Value.bool true)) (Wn.no rfl) rfl (R.pickT (congrArg Value.bool hb7) rfl) ?_
      refine LE.nil ?_
      exact ⟨_, h, rfl, rfl, rfl, rfl, rfl⟩
    · refine LE.p (v := (Value.pointer r3)) (Wn.yes 2 21 false rfl rfl rfl (congrArg Value.bool hb7)) rfl (R.move rfl) ?_
      refine LE.p (v := (Value.bool (Option.isNone r3))) (Wn.yes 2 21 false rfl rfl rfl (congrArg Value.bool hb7)) rfl (R.peqNil pt23 rfl rfl) ?_
      refine LE.p (v := (Value.bool (Option.isNone r3))) (Wn.no rfl) rfl (R.pickF (congrArg Value.bool hb7) rfl) ?_
      refine LE.nil ?_
      exact ⟨_, h, rfl, rfl, rfl, rfl, rfl⟩
  · rintro e8 w9 ⟨x6, h, f10, f11, f12, f13, f14⟩
    subst hJ5
    refine WE.condT rfl (b := x6) f14 ?_ ?_
    · intro hb15
      replace h := M.ite_t h hb15
      refine WE.seq ?_
      refine WE.reg ?_
      refine LE.p (v := (Value.bool false)) (Wn.no rfl) rfl (R.assign rfl) ?_
      refine LE.nil ?_
      refine WE.ret ?_
      exact ⟨_, (Res.tmp rfl Res.nil), _, rfl, h⟩
    · intro hb15
      replace h := M.ite_f h hb15
      refine WE.skip ?_
      refine WE.seq ?_
      refine WE.reg ?_
      refine LE.p (v := (SV.v p0)) (Wn.no rfl) rfl (R.move f10) ?_
      refine LE.p (v := (Value.int .i64 (p0.len : Int))) (Wn.no rfl) rfl (R.len sl22 rfl) ?_
      refine LE.p (v := (Value.int .i64 (p0.len : Int))) (Wn.no rfl) rfl (R.assign rfl) ?_
      refine LE.nil ?_
      obtain ⟨J16, hJ16, h⟩ := M.join_use h
      refine WE.join (fun e w => ∃ (x17 : Int), J16 x17 w ∧ e 0 = (SV.v p0) ∧ e 1 = (Value.int .i64 p1) ∧ e 5 = (Value.pointer r1) ∧ e 6 = (Value.pointer r3) ∧ e 7 = (Value.int .i64 x17)) ?_ ?_
      · clear hJ16
        refine WE.seq ?_
        refine WE.reg ?_
        refine LE.p (v := (Value.int .i64 (p0.len : Int))) (Wn.no rfl) rfl (R.move rfl) ?_
        refine LE.p (v := (Value.bool (decide ((50 : Int) < (p0.len : Int))))) (Wn.no rfl) rfl (R.gtr rfl rfl) ?_
        refine LE.nil ?_
        refine WE.condT rfl (b := (decide ((50 : Int) < (p0.len : Int)))) rfl ?_ ?_
        · intro hb18
          replace h := M.ite_t h hb18
          refine WE.reg ?_
          refine LE.p (v := (Value.int .i64 (50 : Int))) (Wn.no rfl) rfl (R.assign rfl) ?_
          refine LE.nil ?_
          exact ⟨_, h, f10, f11, f12, f13, rfl⟩
        · intro hb18
          replace h := M.ite_f h hb18
          refine WE.skip ?_
          exact ⟨_, h, f10, f11, f12, f13, rfl⟩
      · rintro e19 w20 ⟨x17, h, f21, f22, f23, f24, f25⟩
        subst hJ16
        refine WE.seq ?_
        refine WE.seq ?_
        refine WE.reg ?_
        refine LE.p (v := (Value.int .i64 (0 : Int))) (Wn.no rfl) rfl (R.assign rfl) ?_
        refine LE.nil ?_
        refine WE.block ?_
        obtain ⟨I31, ⟨n30, h⟩, hr32⟩ := h
        refine WE.loop (fun n e w => ∃ (x26 : Int), I31 n x26 w ∧ e 0 = (SV.v p0) ∧ e 1 = (Value.int .i64 p1) ∧ e 5 = (Value.pointer r1) ∧ e 6 = (Value.pointer r3) ∧ e 7 = (Value.int .i64 x17) ∧ e 8 = (Value.int .i64 x26)) n30 ⟨_, h, f21, f22, f23, f24, f25, rfl⟩ ?_
        clear h
        rintro n30 e29 w28 ⟨x26, h, f35, f36, f37, f38, f39, f40⟩
        replace h := hr32 n30 x26 w28 h
        refine WE.seq ?_
        refine WE.seq ?_
        refine WE.reg ?_
        refine LE.p (v := (Value.int .i64 x26)) (Wn.no rfl) rfl (R.move f40) ?_
        refine LE.p (v := (Value.int .i64 x17)) (Wn.no rfl) rfl (R.move f39) ?_
        refine LE.p (v := (Value.bool (decide (x26 < x17)))) (Wn.no rfl) rfl (R.lss rfl rfl) ?_
        refine LE.nil ?_
        refine WE.condT rfl (b := (decide (x26 < x17))) rfl ?_ ?_
        · intro hb41
          replace h := M.ite_t h hb41
          refine WE.skip ?_
          refine WE.seq ?_
          refine WE.block ?_
          refine WE.seq ?_
          obtain ⟨J42, hJ42, h⟩ := M.join_use h
          refine WE.drawJ (fun e w => ∃ (x43 : Addr), J42 x43 w ∧ e 0 = (SV.v p0) ∧ e 1 = (Value.int .i64 p1) ∧ e 5 = (Value.pointer r1) ∧ e 6 = (Value.pointer r3) ∧ e 7 = (Value.int .i64 x17) ∧ e 8 = (Value.int .i64 x26) ∧ e 9 = (Value.pointer (some x43))) mix ?_ ?_
          · clear hJ42
            obtain ⟨w44, hww44, h⟩ := M.drew_use h
            rw [← hww44]
            clear hww44
            refine DE.t 0 (v := (SV.v p0)) rfl (by kernel_rfl) (Wn.no rfl) rfl (R.move f35) ?_
            refine DE.t 1 (v := (Value.int .i64 x26)) rfl (by kernel_rfl) (Wn.no rfl) rfl (R.move f40) ?_
            obtain ⟨a45, h46, h47, h48, h⟩ := h
            refine DE.t 2 (v := (Value.pointer (some (a45.add (x26.toNat * 5))))) rfl (by kernel_rfl) (Wn.no rfl) rfl (R.idx (s := p0) sl22 rfl rfl h46 h47 h48) ?_
            refine DE.t 3 (v := (Value.pointer (some ((a45.add (x26.toNat * 5)).add 3)))) rfl (by kernel_rfl) (Wn.no rfl) rfl (R.fld (off := 3) fa30_3 rfl) ?_
            refine DE.t 5 (v := (SV.v p0)) rfl (by kernel_rfl) (Wn.no rfl) rfl (R.move f35) ?_
            refine DE.t 6 (v := (Value.int .i64 x26)) rfl (by kernel_rfl) (Wn.no rfl) rfl (R.move f40) ?_
            obtain ⟨a49, h50, h51, h52, h⟩ := h
            refine DE.t 7 (v := (Value.pointer (some (a49.add (x26.toNat * 5))))) rfl (by kernel_rfl) (Wn.no rfl) rfl (R.idx (s := p0) sl22 rfl rfl h50 h51 h52) ?_
            refine DE.t 8 (v := (Value.pointer (some ((a49.add (x26.toNat * 5)).add 1)))) rfl (by kernel_rfl) (Wn.no rfl) rfl (R.fld (off := 1) fa30_1 rfl) ?_
            obtain ⟨t53, h54, h⟩ := h
            refine DE.hold 4 (fun w => w.cell? ((a45.add (x26.toNat * 5)).add 3) = some (Value.int .u32 t53)) (v := (Value.int .u32 t53)) rfl (by kernel_rfl) (Wn.no rfl) rfl h54 (fun w hs => R.ld sc25 rfl hs) ?_
            obtain ⟨t55, h56, h⟩ := h
            refine DE.hold 9 (fun w => w.cell? ((a49.add (x26.toNat * 5)).add 1) = some (Value.int .i64 t55)) (v := (Value.int .i64 t55)) rfl (by kernel_rfl) (Wn.no rfl) rfl h56 (fun w hs => R.ld sc3 rfl hs) ?_
            refine DE.main2 10 11 (by kernel_rfl) ?_ ?_
            · replace h := h.1
              refine One.c 10 rfl (Wn.no rfl) rfl (R.call bd11 (Ls.cons rfl (Ls.cons rfl Ls.nil)) rfl) (Calls.mono h ?_)
              rintro _ w59 ⟨r57, r58, rfl, h⟩
              refine ⟨_, rfl, ⟨aftT (by kernel_rfl), aftT (by kernel_rfl), trivial⟩, ?_⟩
              obtain ⟨b61, hpb61, w60, hww60, h⟩ := M.new_use h
              obtain ⟨k62, h⟩ := h
              obtain ⟨k63, h⟩ := h
              refine DE.main 11 (by kernel_rfl) ?_
              refine One.r 11 (v := (Value.pointer (some b61))) rfl (Wn.no rfl) rfl (R.alloc (cs := #[(Value.int .u32 (0 : Int)), (Value.int .i64 (0 : Int))]) ze27 rfl hpb61 hww60) (.inr ⟨fun _ => k62, fun _ => k63, trivial⟩) ?_
              obtain ⟨w64, hww64, h65, h⟩ := M.stA_use h
              refine DE.main 12 (by kernel_rfl) ?_
              refine One.s 12 rfl (Wn.no rfl) rfl (R.stA (a := b61) [(Value.int .u32 r57), (Value.int .i64 r58)] sz27 rfl rfl rfl (by simp [Value.oneCell']) h65 hww64) ⟨aftT (by kernel_rfl), aftT (by kernel_rfl), trivial⟩ ?_
              refine DE.done (by kernel_rfl) ?_
              exact ⟨_, h, f35, f36, f37, f38, f39, f40, rfl⟩
            · replace h := h.2
              obtain ⟨b67, hpb67, w66, hww66, h⟩ := M.new_use h
              obtain ⟨k68, h⟩ := h
              obtain ⟨k69, h⟩ := h
              refine One.r 11 (v := (Value.pointer (some b67))) rfl (Wn.no rfl) rfl (R.alloc (cs := #[(Value.int .u32 (0 : Int)), (Value.int .i64 (0 : Int))]) ze27 rfl hpb67 hww66) (.inr ⟨fun _ => k68, fun _ => k69, trivial⟩) ?_
              refine DE.main 10 (by kernel_rfl) ?_
              refine One.c 10 rfl (Wn.no rfl) rfl (R.call bd11 (Ls.cons rfl (Ls.cons rfl Ls.nil)) rfl) (Calls.mono h ?_)
              rintro _ w72 ⟨r70, r71, rfl, h⟩
              refine ⟨_, rfl, ⟨aftT (by kernel_rfl), aftT (by kernel_rfl), trivial⟩, ?_⟩
              obtain ⟨w73, hww73, h74, h⟩ := M.stA_use h
              refine DE.main 12 (by kernel_rfl) ?_
              refine One.s 12 rfl (Wn.no rfl) rfl (R.stA (a := b67) [(Value.int .u32 r70), (Value.int .i64 r71)] sz27 rfl rfl rfl (by simp [Value.oneCell']) h74 hww73) ⟨aftT (by kernel_rfl), aftT (by kernel_rfl), trivial⟩ ?_
              refine DE.done (by kernel_rfl) ?_
              exact ⟨_, h, f35, f36, f37, f38, f39, f40, rfl⟩
          · rintro e75 w76 ⟨x43, h, f77, f78, f79, f80, f81, f82, f83⟩
            subst hJ42
            refine WE.seq ?_
            refine WE.reg ?_
            refine LE.p (v := (Value.pointer r1)) (Wn.no rfl) rfl (R.move f79) ?_
            obtain ⟨t84, h85, h⟩ := h
            obtain ⟨t86, h87, h⟩ := h
            refine LE.r (v := (Value.agg #[(Value.int .u32 t84), (Value.int .i64 t86)])) (Wn.no rfl) rfl (R.ldA ag27 sz27 f83 rfl (Cs.cons h85 (Cs.cons h87 Cs.nil))) ?_
            refine LE.p (v := (Value.pointer (some (x43.add 1)))) (Wn.no rfl) rfl (R.fld (off := 1) fa27_1 f83) ?_
            obtain ⟨t88, h89, h⟩ := h
            refine LE.r (v := (Value.int .i64 t88)) (Wn.no rfl) rfl (R.ld sc3 rfl h89) ?_
            refine LE.c (Wn.no rfl) rfl (R.call bd12 (Ls.cons rfl (Ls.cons rfl (Ls.cons rfl Ls.nil))) rfl) (Calls.mono h ?_)
            rintro _ w91 ⟨r90, rfl, h⟩
            refine ⟨_, rfl, ?_⟩
            refine LE.nil ?_
            refine WE.seq ?_
            refine WE.reg ?_
            refine LE.p (v := (Value.int .i64 x26)) (Wn.no rfl) rfl (R.move f82) ?_
            refine LE.p (v := (Value.int .i64 p1)) (Wn.no rfl) rfl (R.move f78) ?_
            refine LE.c (Wn.no rfl) rfl (R.call bd13 (Ls.cons rfl (Ls.cons rfl (Ls.cons rfl Ls.nil))) rfl) (Calls.mono h ?_)
            rintro _ w93 ⟨r92, rfl, h⟩
            refine ⟨_, rfl, ?_⟩
            refine LE.p (v := (Value.int .i64 (IntKind.i64.wrap (x26 + r92)))) (Wn.no rfl) rfl (R.add rfl rfl) ?_
            refine LE.p (v := (Value.int .i64 x17)) (Wn.no rfl) rfl (R.move f81) ?_
            obtain ⟨h94, h⟩ := h
            refine LE.p (v := (Value.int .i64 (Int.tmod (IntKind.i64.wrap (x26 + r92)) x17))) (Wn.no rfl) rfl (R.rem rfl rfl h94) ?_
            refine LE.p (v := (Value.int .i64 (Int.tmod (IntKind.i64.wrap (x26 + r92)) x17))) (Wn.no rfl) rfl (R.assign rfl) ?_
            refine LE.nil ?_
            refine WE.seq ?_
            obtain ⟨J95, hJ95, h⟩ := M.join_use h
            refine WE.drawJ (fun e w => ∃ (x96 : Addr), J95 x96 w ∧ e 0 = (SV.v p0) ∧ e 1 = (Value.int .i64 p1) ∧ e 5 = (Value.pointer r1) ∧ e 6 = (Value.pointer r3) ∧ e 7 = (Value.int .i64 x17) ∧ e 8 = (Value.int .i64 x26) ∧ e 11 = (Value.pointer (some x96))) mix ?_ ?_
            · clear hJ95
              obtain ⟨w97, hww97, h⟩ := M.drew_use h
              rw [← hww97]
              clear hww97
              refine DE.t 0 (v := (SV.v p0)) rfl (by kernel_rfl) (Wn.no rfl) rfl (R.move f77) ?_
              refine DE.t 1 (v := (Value.int .i64 (Int.tmod (IntKind.i64.wrap (x26 + r92)) x17))) rfl (by kernel_rfl) (Wn.no rfl) rfl (R.move rfl) ?_
              obtain ⟨a98, h99, h100, h101, h⟩ := h
              refine DE.t 2 (v := (Value.pointer (some (a98.add ((Int.tmod (IntKind.i64.wrap (x26 + r92)) x17).toNat * 5))))) rfl (by kernel_rfl) (Wn.no rfl) rfl (R.idx (s := p0) sl22 rfl rfl h99 h100 h101) ?_
              refine DE.t 3 (v := (Value.pointer (some ((a98.add ((Int.tmod (IntKind.i64.wrap (x26 + r92)) x17).toNat * 5)).add 3)))) rfl (by kernel_rfl) (Wn.no rfl) rfl (R.fld (off := 3) fa30_3 rfl) ?_
              refine DE.t 5 (v := (SV.v p0)) rfl (by kernel_rfl) (Wn.no rfl) rfl (R.move f77) ?_
              refine DE.t 6 (v := (Value.int .i64 (Int.tmod (IntKind.i64.wrap (x26 + r92)) x17))) rfl (by kernel_rfl) (Wn.no rfl) rfl (R.move rfl) ?_
              obtain ⟨a102, h103, h104, h105, h⟩ := h
              refine DE.t 7 (v := (Value.pointer (some (a102.add ((Int.tmod (IntKind.i64.wrap (x26 + r92)) x17).toNat * 5))))) rfl (by kernel_rfl) (Wn.no rfl) rfl (R.idx (s := p0) sl22 rfl rfl h103 h104 h105) ?_
              refine DE.t 8 (v := (Value.pointer (some ((a102.add ((Int.tmod (IntKind.i64.wrap (x26 + r92)) x17).toNat * 5)).add 1)))) rfl (by kernel_rfl) (Wn.no rfl) rfl (R.fld (off := 1) fa30_1 rfl) ?_
              obtain ⟨t106, h107, h⟩ := h
              refine DE.hold 4 (fun w => w.cell? ((a98.add ((Int.tmod (IntKind.i64.wrap (x26 + r92)) x17).toNat * 5)).add 3) = some (Value.int .u32 t106)) (v := (Value.int .u32 t106)) rfl (by kernel_rfl) (Wn.no rfl) rfl h107 (fun w hs => R.ld sc25 rfl hs) ?_
              obtain ⟨t108, h109, h⟩ := h
              refine DE.hold 9 (fun w => w.cell? ((a102.add ((Int.tmod (IntKind.i64.wrap (x26 + r92)) x17).toNat * 5)).add 1) = some (Value.int .i64 t108)) (v := (Value.int .i64 t108)) rfl (by kernel_rfl) (Wn.no rfl) rfl h109 (fun w hs => R.ld sc3 rfl hs) ?_
              refine DE.main2 10 11 (by kernel_rfl) ?_ ?_
              · replace h := h.1
                refine One.c 10 rfl (Wn.no rfl) rfl (R.call bd11 (Ls.cons rfl (Ls.cons rfl Ls.nil)) rfl) (Calls.mono h ?_)
                rintro _ w112 ⟨r110, r111, rfl, h⟩
                refine ⟨_, rfl, ⟨aftT (by kernel_rfl), aftT (by kernel_rfl), trivial⟩, ?_⟩
                obtain ⟨b114, hpb114, w113, hww113, h⟩ := M.new_use h
                obtain ⟨k115, h⟩ := h
                obtain ⟨k116, h⟩ := h
                refine DE.main 11 (by kernel_rfl) ?_
                refine One.r 11 (v := (Value.pointer (some b114))) rfl (Wn.no rfl) rfl (R.alloc (cs := #[(Value.int .u32 (0 : Int)), (Value.int .i64 (0 : Int))]) ze27 rfl hpb114 hww113) (.inr ⟨fun _ => k115, fun _ => k116, trivial⟩) ?_
                obtain ⟨w117, hww117, h118, h⟩ := M.stA_use h
                refine DE.main 12 (by kernel_rfl) ?_
                refine One.s 12 rfl (Wn.no rfl) rfl (R.stA (a := b114) [(Value.int .u32 r110), (Value.int .i64 r111)] sz27 rfl rfl rfl (by simp [Value.oneCell']) h118 hww117) ⟨aftT (by kernel_rfl), aftT (by kernel_rfl), trivial⟩ ?_
                refine DE.done (by kernel_rfl) ?_
                exact ⟨_, h, f77, f78, f79, f80, f81, f82, rfl⟩
              · replace h := h.2
                obtain ⟨b120, hpb120, w119, hww119, h⟩ := M.new_use h
                obtain ⟨k121, h⟩ := h
                obtain ⟨k122, h⟩ := h
                refine One.r 11 (v := (Value.pointer (some b120))) rfl (Wn.no rfl) rfl (R.alloc (cs := #[(Value.int .u32 (0 : Int)), (Value.int .i64 (0 : Int))]) ze27 rfl hpb120 hww119) (.inr ⟨fun _ => k121, fun _ => k122, trivial⟩) ?_
                refine DE.main 10 (by kernel_rfl) ?_
                refine One.c 10 rfl (Wn.no rfl) rfl (R.call bd11 (Ls.cons rfl (Ls.cons rfl Ls.nil)) rfl) (Calls.mono h ?_)
                rintro _ w125 ⟨r123, r124, rfl, h⟩
                refine ⟨_, rfl, ⟨aftT (by kernel_rfl), aftT (by kernel_rfl), trivial⟩, ?_⟩
                obtain ⟨w126, hww126, h127, h⟩ := M.stA_use h
                refine DE.main 12 (by kernel_rfl) ?_
                refine One.s 12 rfl (Wn.no rfl) rfl (R.stA (a := b120) [(Value.int .u32 r123), (Value.int .i64 r124)] sz27 rfl rfl rfl (by simp [Value.oneCell']) h127 hww126) ⟨aftT (by kernel_rfl), aftT (by kernel_rfl), trivial⟩ ?_
                refine DE.done (by kernel_rfl) ?_
                exact ⟨_, h, f77, f78, f79, f80, f81, f82, rfl⟩
            · rintro e128 w129 ⟨x96, h, f130, f131, f132, f133, f134, f135, f136⟩
              subst hJ95
              refine WE.reg ?_
              refine LE.p (v := (Value.pointer r3)) (Wn.no rfl) rfl (R.move f133) ?_
              obtain ⟨t137, h138, h⟩ := h
              obtain ⟨t139, h140, h⟩ := h
              refine LE.r (v := (Value.agg #[(Value.int .u32 t137), (Value.int .i64 t139)])) (Wn.no rfl) rfl (R.ldA ag27 sz27 f136 rfl (Cs.cons h138 (Cs.cons h140 Cs.nil))) ?_
              refine LE.p (v := (Value.pointer (some (x96.add 1)))) (Wn.no rfl) rfl (R.fld (off := 1) fa27_1 f136) ?_
              obtain ⟨t141, h142, h⟩ := h
              refine LE.r (v := (Value.int .i64 t141)) (Wn.no rfl) rfl (R.ld sc3 rfl h142) ?_
              refine LE.c (Wn.no rfl) rfl (R.call bd12 (Ls.cons rfl (Ls.cons rfl (Ls.cons rfl Ls.nil))) rfl) (Calls.mono h ?_)
              rintro _ w144 ⟨r143, rfl, h⟩
              refine ⟨_, rfl, ?_⟩
              refine LE.nil ?_
              refine WE.reg ?_
              refine LE.p (v := (Value.int .i64 x26)) (Wn.no rfl) rfl (R.move f135) ?_
              refine LE.p (v := (Value.int .i64 (IntKind.i64.wrap (x26 + (1 : Int))))) (Wn.no rfl) rfl (R.add rfl rfl) ?_
              refine LE.p (v := (Value.int .i64 (IntKind.i64.wrap (x26 + (1 : Int))))) (Wn.no rfl) rfl (R.assign rfl) ?_
              refine LE.nil ?_
              obtain ⟨m33, hm34, h⟩ := h
              exact ⟨m33, hm34, _, h, f130, f131, f132, f133, f134, rfl⟩
        · intro hb41
          replace h := M.ite_f h hb41
          refine WE.exit ?_
          refine WE.seq ?_
          refine WE.reg ?_
          refine LE.p (v := (Value.pointer r1)) (Wn.no rfl) rfl (R.move f37) ?_
          refine LE.c (Wn.no rfl) rfl (R.call bd14 (Ls.cons rfl Ls.nil) rfl) (Calls.mono h ?_)
          rintro _ w146 ⟨r145, rfl, h⟩
          refine ⟨_, rfl, ?_⟩
          refine LE.p (v := (Value.pointer r3)) (Wn.no rfl) rfl (R.move f38) ?_
          refine LE.c (Wn.no rfl) rfl (R.call bd14 (Ls.cons rfl Ls.nil) rfl) (Calls.mono h ?_)
          rintro _ w148 ⟨r147, rfl, h⟩
          refine ⟨_, rfl, ?_⟩
          refine LE.p (v := (SV.v r145)) (Wn.no rfl) rfl (R.assign rfl) ?_
          refine LE.p (v := (SV.v r147)) (Wn.no rfl) rfl (R.assign rfl) ?_
          refine LE.nil ?_
          refine WE.seq ?_
          refine WE.seq ?_
          refine WE.reg ?_
          refine LE.p (v := (Value.int .i64 (0 : Int))) (Wn.no rfl) rfl (R.assign rfl) ?_
          refine LE.nil ?_
          refine WE.block ?_
          obtain ⟨I154, ⟨n153, h⟩, hr155⟩ := h
          refine WE.loop (fun n e w => ∃ (x149 : Int), I154 n x149 w ∧ e 5 = (Value.pointer r1) ∧ e 6 = (Value.pointer r3) ∧ e 12 = (SV.v r145) ∧ e 13 = (SV.v r147) ∧ e 14 = (Value.int .i64 x149)) n153 ⟨_, h, f37, f38, rfl, rfl, rfl⟩ ?_
          clear h
          rintro n153 e152 w151 ⟨x149, h, f158, f159, f160, f161, f162⟩
          replace h := hr155 n153 x149 w151 h
          refine WE.seq ?_
          refine WE.seq ?_
          refine WE.reg ?_
          refine LE.p (v := (Value.int .i64 x149)) (Wn.no rfl) rfl (R.move f162) ?_
          refine LE.p (v := (SV.v r145)) (Wn.no rfl) rfl (R.move f160) ?_
          refine LE.p (v := (Value.int .i64 (r145.len : Int))) (Wn.no rfl) rfl (R.len sl33 rfl) ?_
          refine LE.p (v := (Value.bool (decide (x149 < (r145.len : Int))))) (Wn.no rfl) rfl (R.lss rfl rfl) ?_
          refine LE.nil ?_
          refine WE.condT rfl (b := (decide (x149 < (r145.len : Int)))) rfl ?_ ?_
          · intro hb163
            replace h := M.ite_t h hb163
            refine WE.skip ?_
            refine WE.seq ?_
            refine WE.block ?_
            refine WE.seq ?_
            refine WE.reg ?_
            refine LE.p (v := (Value.pointer r3)) (Wn.no rfl) rfl (R.move f159) ?_
            refine LE.p (v := (SV.v r145)) (Wn.no rfl) rfl (R.move f160) ?_
            refine LE.p (v := (Value.int .i64 x149)) (Wn.no rfl) rfl (R.move f162) ?_
            obtain ⟨a164, h165, h166, h167, h⟩ := h
            refine LE.p (v := (Value.pointer (some (a164.add (x149.toNat * 2))))) (Wn.no rfl) rfl (R.idx (s := r145) sl33 rfl rfl h165 h166 h167) ?_
            obtain ⟨t168, h169, h⟩ := h
            obtain ⟨t170, h171, h⟩ := h
            refine LE.r (v := (Value.agg #[(Value.int .u32 t168), (Value.int .i64 t170)])) (Wn.no rfl) rfl (R.ldA ag27 sz27 rfl rfl (Cs.cons h169 (Cs.cons h171 Cs.nil))) ?_
            refine LE.c (Wn.no rfl) rfl (R.call bd15 (Ls.cons rfl (Ls.cons rfl Ls.nil)) rfl) (Calls.mono h ?_)
            rintro _ w174 ⟨r172, r173, rfl, h⟩
            refine ⟨_, rfl, ?_⟩
            refine LE.p (v := (Value.tuple #[(Value.int .i64 r172), (Value.bool r173)])) (Wn.no rfl) rfl (R.move rfl) ?_
            refine LE.p (v := (Value.int .i64 r172)) (Wn.no rfl) rfl (R.ext rfl rfl) ?_
            refine LE.p (v := (Value.bool r173)) (Wn.no rfl) rfl (R.ext rfl rfl) ?_
            refine LE.p (v := (Value.int .i64 r172)) (Wn.no rfl) rfl (R.assign rfl) ?_
            refine LE.p (v := (Value.bool r173)) (Wn.no rfl) rfl (R.assign rfl) ?_
            refine LE.nil ?_
            refine WE.seq ?_
            obtain ⟨J175, hJ175, h⟩ := M.join_use h
            refine WE.drawJ (fun e w => ∃ (x176 : Bool), J175 x176 w ∧ e 5 = (Value.pointer r1) ∧ e 6 = (Value.pointer r3) ∧ e 12 = (SV.v r145) ∧ e 13 = (SV.v r147) ∧ e 14 = (Value.int .i64 x149) ∧ e 118 = (Value.bool x176)) mix ?_ ?_
            · clear hJ175
              obtain ⟨w177, hww177, h⟩ := M.drew_use h
              rw [← hww177]
              clear hww177
              refine DE.t 0 (v := (Value.bool r173)) rfl (by kernel_rfl) (Wn.no rfl) rfl (R.move rfl) ?_
              refine DE.t 1 (v := (Value.bool (!r173))) rfl (by kernel_rfl) (Wn.no rfl) rfl (R.not rfl) ?_
              refine DE.t 2 (v := (Value.bool (!r173))) rfl (by kernel_rfl) (Wn.no rfl) rfl (R.move rfl) ?_
              rcases M.ite_use h with ⟨hb178, h⟩ | ⟨hb178, h⟩
              · refine DE.u 3 rfl (by kernel_rfl) (Un.no 2 93 false rfl rfl rfl (congrArg Value.bool hb178)) ?_
                refine DE.u 4 rfl (by kernel_rfl) (Un.no 2 93 false rfl rfl rfl (congrArg Value.bool hb178)) ?_
                refine DE.u 5 rfl (by kernel_rfl) (Un.no 2 93 false rfl rfl rfl (congrArg Value.bool hb178)) ?_
                refine DE.u 6 rfl (by kernel_rfl) (Un.no 2 93 false rfl rfl rfl (congrArg Value.bool hb178)) ?_
                refine DE.u 7 rfl (by kernel_rfl) (Un.no 2 93 false rfl rfl rfl (congrArg Value.bool hb178)) ?_
                refine DE.u 8 rfl (by kernel_rfl) (Un.no 2 93 false rfl rfl rfl (congrArg Value.bool hb178)) ?_
                refine DE.u 9 rfl (by kernel_rfl) (Un.no 2 93 false rfl rfl rfl (congrArg Value.bool hb178)) ?_
                refine DE.t 10 (v := (Value.bool true)) rfl (by kernel_rfl) (Wn.no rfl) rfl (R.pickT (congrArg Value.bool hb178) rfl) ?_
                refine DE.t 11 (v := (Value.bool true)) rfl (by kernel_rfl) (Wn.no rfl) rfl (R.move rfl) ?_
                refine DE.u 12 rfl (by kernel_rfl) (Un.no 11 102 false rfl rfl rfl rfl) ?_
                refine DE.u 13 rfl (by kernel_rfl) (Un.no 11 102 false rfl rfl rfl rfl) ?_
                refine DE.u 14 rfl (by kernel_rfl) (Un.no 11 102 false rfl rfl rfl rfl) ?_
                refine DE.u 15 rfl (by kernel_rfl) (Un.un 14 105 true rfl rfl rfl rfl) ?_
                refine DE.u 16 rfl (by kernel_rfl) (Un.un 14 105 true rfl rfl rfl rfl) ?_
                refine DE.u 17 rfl (by kernel_rfl) (Un.un 14 105 true rfl rfl rfl rfl) ?_
                refine DE.u 18 rfl (by kernel_rfl) (Un.un 14 105 true rfl rfl rfl rfl) ?_
                refine DE.u 19 rfl (by kernel_rfl) (Un.un 14 105 true rfl rfl rfl rfl) ?_
                refine DE.u 20 rfl (by kernel_rfl) (Un.un 14 105 true rfl rfl rfl rfl) ?_
                refine DE.u 21 rfl (by kernel_rfl) (Un.un 14 105 true rfl rfl rfl rfl) ?_
                refine DE.u 22 rfl (by kernel_rfl) (Un.un 14 105 true rfl rfl rfl rfl) ?_
                refine DE.u 23 rfl (by kernel_rfl) (Un.un 14 105 true rfl rfl rfl rfl) ?_
                refine DE.u 24 rfl (by kernel_rfl) (Un.un 14 105 true rfl rfl rfl rfl) ?_
                refine DE.u 25 rfl (by kernel_rfl) (Un.un 14 105 true rfl rfl rfl rfl) ?_
                refine DE.u 26 rfl (by kernel_rfl) (Un.no 11 102 false rfl rfl rfl rfl) ?_
                refine DE.t 27 (v := (Value.bool true)) rfl (by kernel_rfl) (Wn.no rfl) rfl (R.pickT rfl rfl) ?_
                refine DE.done (by kernel_rfl) ?_
                exact ⟨_, h, f158, f159, f160, f161, f162, rfl⟩
              · refine DE.t 3 (v := (Value.int .i64 r172)) rfl (by kernel_rfl) (Wn.yes 2 93 false rfl rfl rfl (congrArg Value.bool hb178)) rfl (R.move rfl) ?_
                refine DE.t 4 (v := (SV.v r145)) rfl (by kernel_rfl) (Wn.yes 2 93 false rfl rfl rfl (congrArg Value.bool hb178)) rfl (R.move f160) ?_
                refine DE.t 5 (v := (Value.int .i64 x149)) rfl (by kernel_rfl) (Wn.yes 2 93 false rfl rfl rfl (congrArg Value.bool hb178)) rfl (R.move f162) ?_
                obtain ⟨a179, h180, h181, h182, h⟩ := h
                refine DE.t 6 (v := (Value.pointer (some (a179.add (x149.toNat * 2))))) rfl (by kernel_rfl) (Wn.yes 2 93 false rfl rfl rfl (congrArg Value.bool hb178)) rfl (R.idx (s := r145) sl33 rfl rfl h180 h181 h182) ?_
                refine DE.t 7 (v := (Value.pointer (some ((a179.add (x149.toNat * 2)).add 1)))) rfl (by kernel_rfl) (Wn.yes 2 93 false rfl rfl rfl (congrArg Value.bool hb178)) rfl (R.fld (off := 1) fa27_1 rfl) ?_
                obtain ⟨t183, h184, h⟩ := h
                refine DE.main 8 (by kernel_rfl) ?_
                refine One.r 8 (v := (Value.int .i64 t183)) rfl (Wn.yes 2 93 false rfl rfl rfl (congrArg Value.bool hb178)) rfl (R.ld sc3 rfl h184) (.inl rfl) ?_
                refine DE.t 9 (v := (Value.bool (r172 != t183))) rfl (by kernel_rfl) (Wn.yes 2 93 false rfl rfl rfl (congrArg Value.bool hb178)) rfl (R.neq rfl rfl) ?_
                refine DE.t 10 (v := (Value.bool (r172 != t183))) rfl (by kernel_rfl) (Wn.no rfl) rfl (R.pickF (congrArg Value.bool hb178) rfl) ?_
                refine DE.t 11 (v := (Value.bool (r172 != t183))) rfl (by kernel_rfl) (Wn.no rfl) rfl (R.move rfl) ?_
                rcases M.ite_use h with ⟨hb185, h⟩ | ⟨hb185, h⟩
                · refine DE.u 12 rfl (by kernel_rfl) (Un.no 11 102 false rfl rfl rfl (congrArg Value.bool hb185)) ?_
                  refine DE.u 13 rfl (by kernel_rfl) (Un.no 11 102 false rfl rfl rfl (congrArg Value.bool hb185)) ?_
                  refine DE.u 14 rfl (by kernel_rfl) (Un.no 11 102 false rfl rfl rfl (congrArg Value.bool hb185)) ?_
                  refine DE.u 15 rfl (by kernel_rfl) (Un.un 14 105 true rfl rfl rfl rfl) ?_
                  refine DE.u 16 rfl (by kernel_rfl) (Un.un 14 105 true rfl rfl rfl rfl) ?_
                  refine DE.u 17 rfl (by kernel_rfl) (Un.un 14 105 true rfl rfl rfl rfl) ?_
                  refine DE.u 18 rfl (by kernel_rfl) (Un.un 14 105 true rfl rfl rfl rfl) ?_
                  refine DE.u 19 rfl (by kernel_rfl) (Un.un 14 105 true rfl rfl rfl rfl) ?_
                  refine DE.u 20 rfl (by kernel_rfl) (Un.un 14 105 true rfl rfl rfl rfl) ?_
                  refine DE.u 21 rfl (by kernel_rfl) (Un.un 14 105 true rfl rfl rfl rfl) ?_
                  refine DE.u 22 rfl (by kernel_rfl) (Un.un 14 105 true rfl rfl rfl rfl) ?_
                  refine DE.u 23 rfl (by kernel_rfl) (Un.un 14 105 true rfl rfl rfl rfl) ?_
                  refine DE.u 24 rfl (by kernel_rfl) (Un.un 14 105 true rfl rfl rfl rfl) ?_
                  refine DE.u 25 rfl (by kernel_rfl) (Un.un 14 105 true rfl rfl rfl rfl) ?_
                  refine DE.u 26 rfl (by kernel_rfl) (Un.no 11 102 false rfl rfl rfl (congrArg Value.bool hb185)) ?_
                  refine DE.t 27 (v := (Value.bool true)) rfl (by kernel_rfl) (Wn.no rfl) rfl (R.pickT (congrArg Value.bool hb185) rfl) ?_
                  refine DE.done (by kernel_rfl) ?_
                  exact ⟨_, h, f158, f159, f160, f161, f162, rfl⟩
                · refine DE.t 12 (v := (Value.int .i64 x149)) rfl (by kernel_rfl) (Wn.yes 11 102 false rfl rfl rfl (congrArg Value.bool hb185)) rfl (R.move f162) ?_
                  refine DE.t 13 (v := (Value.bool (decide ((0 : Int) < x149)))) rfl (by kernel_rfl) (Wn.yes 11 102 false rfl rfl rfl (congrArg Value.bool hb185)) rfl (R.gtr rfl rfl) ?_
                  refine DE.t 14 (v := (Value.bool (decide ((0 : Int) < x149)))) rfl (by kernel_rfl) (Wn.yes 11 102 false rfl rfl rfl (congrArg Value.bool hb185)) rfl (R.move rfl) ?_
                  rcases M.ite_use h with ⟨hb186, h⟩ | ⟨hb186, h⟩
                  · refine DE.t 15 (v := (SV.v r145)) rfl (by kernel_rfl) (Wn.yes 14 105 true rfl rfl rfl (congrArg Value.bool hb186)) rfl (R.move f160) ?_
                    refine DE.t 16 (v := (Value.int .i64 x149)) rfl (by kernel_rfl) (Wn.yes 14 105 true rfl rfl rfl (congrArg Value.bool hb186)) rfl (R.move f162) ?_
                    refine DE.t 17 (v := (Value.int .i64 (IntKind.i64.wrap (x149 - (1 : Int))))) rfl (by kernel_rfl) (Wn.yes 14 105 true rfl rfl rfl (congrArg Value.bool hb186)) rfl (R.sub rfl rfl) ?_
                    obtain ⟨a187, h188, h189, h190, h⟩ := h
                    refine DE.t 18 (v := (Value.pointer (some (a187.add ((IntKind.i64.wrap (x149 - (1 : Int))).toNat * 2))))) rfl (by kernel_rfl) (Wn.yes 14 105 true rfl rfl rfl (congrArg Value.bool hb186)) rfl (R.idx (s := r145) sl33 rfl rfl h188 h189 h190) ?_
                    refine DE.t 20 (v := (SV.v r145)) rfl (by kernel_rfl) (Wn.yes 14 105 true rfl rfl rfl (congrArg Value.bool hb186)) rfl (R.move f160) ?_
                    refine DE.t 21 (v := (Value.int .i64 x149)) rfl (by kernel_rfl) (Wn.yes 14 105 true rfl rfl rfl (congrArg Value.bool hb186)) rfl (R.move f162) ?_
                    obtain ⟨a191, h192, h193, h194, h⟩ := h
                    refine DE.t 22 (v := (Value.pointer (some (a191.add (x149.toNat * 2))))) rfl (by kernel_rfl) (Wn.yes 14 105 true rfl rfl rfl (congrArg Value.bool hb186)) rfl (R.idx (s := r145) sl33 rfl rfl h192 h193 h194) ?_
                    obtain ⟨t195, h196, h⟩ := h
                    obtain ⟨t197, h198, h⟩ := h
                    refine DE.hold 19 (fun w => w.cell? (a187.add ((IntKind.i64.wrap (x149 - (1 : Int))).toNat * 2)) = some (Value.int .u32 t195) ∧ w.cell? ((a187.add ((IntKind.i64.wrap (x149 - (1 : Int))).toNat * 2)).add 1) = some (Value.int .i64 t197)) (v := (Value.agg #[(Value.int .u32 t195), (Value.int .i64 t197)])) rfl (by kernel_rfl) (Wn.yes 14 105 true rfl rfl rfl (congrArg Value.bool hb186)) rfl ⟨h196, h198⟩ (fun w hs => R.ldA ag27 sz27 rfl rfl (Cs.cons hs.1 (Cs.cons hs.2 Cs.nil))) ?_
                    obtain ⟨t199, h200, h⟩ := h
                    obtain ⟨t201, h202, h⟩ := h
                    refine DE.main 23 (by kernel_rfl) ?_
                    refine One.r 23 (v := (Value.agg #[(Value.int .u32 t199), (Value.int .i64 t201)])) rfl (Wn.yes 14 105 true rfl rfl rfl (congrArg Value.bool hb186)) rfl (R.ldA ag27 sz27 rfl rfl (Cs.cons h200 (Cs.cons h202 Cs.nil))) (.inl rfl) ?_
                    refine DE.main 24 (by kernel_rfl) ?_
                    refine One.c 24 rfl (Wn.yes 14 105 true rfl rfl rfl (congrArg Value.bool hb186)) rfl (R.call bd16 (Ls.cons rfl (Ls.cons rfl Ls.nil)) rfl) (Calls.mono h ?_)
                    rintro _ w204 ⟨r203, rfl, h⟩
                    refine ⟨_, rfl, ⟨aftT (by kernel_rfl), trivial⟩, ?_⟩
                    refine DE.t 25 (v := (Value.bool (!r203))) rfl (by kernel_rfl) (Wn.yes 14 105 true rfl rfl rfl (congrArg Value.bool hb186)) rfl (R.not rfl) ?_
                    refine DE.t 26 (v := (Value.bool (!r203))) rfl (by kernel_rfl) (Wn.yes 11 102 false rfl rfl rfl (congrArg Value.bool hb185)) rfl (R.pickT (congrArg Value.bool hb186) rfl) ?_
                    refine DE.t 27 (v := (Value.bool (!r203))) rfl (by kernel_rfl) (Wn.no rfl) rfl (R.pickF (congrArg Value.bool hb185) rfl) ?_
                    refine DE.done (by kernel_rfl) ?_
                    exact ⟨_, h, f158, f159, f160, f161, f162, rfl⟩
                  · refine DE.u 15 rfl (by kernel_rfl) (Un.no 14 105 true rfl rfl rfl (congrArg Value.bool hb186)) ?_
                    refine DE.u 16 rfl (by kernel_rfl) (Un.no 14 105 true rfl rfl rfl (congrArg Value.bool hb186)) ?_
                    refine DE.u 17 rfl (by kernel_rfl) (Un.no 14 105 true rfl rfl rfl (congrArg Value.bool hb186)) ?_
                    refine DE.u 18 rfl (by kernel_rfl) (Un.no 14 105 true rfl rfl rfl (congrArg Value.bool hb186)) ?_
                    refine DE.u 19 rfl (by kernel_rfl) (Un.no 14 105 true rfl rfl rfl (congrArg Value.bool hb186)) ?_
                    refine DE.u 20 rfl (by kernel_rfl) (Un.no 14 105 true rfl rfl rfl (congrArg Value.bool hb186)) ?_
                    refine DE.u 21 rfl (by kernel_rfl) (Un.no 14 105 true rfl rfl rfl (congrArg Value.bool hb186)) ?_
                    refine DE.u 22 rfl (by kernel_rfl) (Un.no 14 105 true rfl rfl rfl (congrArg Value.bool hb186)) ?_
                    refine DE.u 23 rfl (by kernel_rfl) (Un.no 14 105 true rfl rfl rfl (congrArg Value.bool hb186)) ?_
                    refine DE.u 24 rfl (by kernel_rfl) (Un.no 14 105 true rfl rfl rfl (congrArg Value.bool hb186)) ?_
                    refine DE.u 25 rfl (by kernel_rfl) (Un.no 14 105 true rfl rfl rfl (congrArg Value.bool hb186)) ?_
                    refine DE.t 26 (v := (Value.bool false)) rfl (by kernel_rfl) (Wn.yes 11 102 false rfl rfl rfl (congrArg Value.bool hb185)) rfl (R.pickF (congrArg Value.bool hb186) rfl) ?_
                    refine DE.t 27 (v := (Value.bool false)) rfl (by kernel_rfl) (Wn.no rfl) rfl (R.pickF (congrArg Value.bool hb185) rfl) ?_
                    refine DE.done (by kernel_rfl) ?_
                    exact ⟨_, h, f158, f159, f160, f161, f162, rfl⟩
            · rintro e205 w206 ⟨x176, h, f207, f208, f209, f210, f211, f212⟩
              subst hJ175
              refine WE.condT rfl (b := x176) f212 ?_ ?_
              · intro hb213
                replace h := M.ite_t h hb213
                refine WE.seq ?_
                refine WE.reg ?_
                refine LE.p (v := (Value.bool false)) (Wn.no rfl) rfl (R.assign rfl) ?_
                refine LE.nil ?_
                refine WE.ret ?_
                exact ⟨_, (Res.tmp rfl Res.nil), _, rfl, h⟩
              · intro hb213
                replace h := M.ite_f h hb213
                refine WE.skip ?_
                refine WE.reg ?_
                refine LE.p (v := (Value.int .i64 x149)) (Wn.no rfl) rfl (R.move f211) ?_
                refine LE.p (v := (Value.int .i64 (IntKind.i64.wrap (x149 + (1 : Int))))) (Wn.no rfl) rfl (R.add rfl rfl) ?_
                refine LE.p (v := (Value.int .i64 (IntKind.i64.wrap (x149 + (1 : Int))))) (Wn.no rfl) rfl (R.assign rfl) ?_
                refine LE.nil ?_
                obtain ⟨m156, hm157, h⟩ := h
                exact ⟨m156, hm157, _, h, f207, f208, f209, f210, rfl⟩
          · intro hb163
            replace h := M.ite_f h hb163
            refine WE.exit ?_
            refine WE.seq ?_
            obtain ⟨J214, hJ214, h⟩ := M.join_use h
            refine WE.regJ (fun e w => ∃ (x215 : Bool), J214 x215 w ∧ e 4 = (Value.bool x215)) ?_ ?_
            · clear hJ214
              refine LE.p (v := (SV.v r145)) (Wn.no rfl) rfl (R.move f160) ?_
              refine LE.p (v := (SV.v r147)) (Wn.no rfl) rfl (R.move f161) ?_
              refine LE.c (Wn.no rfl) rfl (R.call bd17 (Ls.cons rfl (Ls.cons rfl Ls.nil)) rfl) (Calls.mono h ?_)
              rintro _ w217 ⟨r216, rfl, h⟩
              refine ⟨_, rfl, ?_⟩
              refine LE.p (v := (Value.bool r216)) (Wn.no rfl) rfl (R.move rfl) ?_
              rcases M.ite_use h with ⟨hb218, h⟩ | ⟨hb218, h⟩
              · refine LE.p (v := (Value.pointer r1)) (Wn.yes 3 122 true rfl rfl rfl (congrArg Value.bool hb218)) rfl (R.move f158) ?_
                refine LE.c (Wn.yes 3 122 true rfl rfl rfl (congrArg Value.bool hb218)) rfl (R.call bd18 (Ls.cons rfl Ls.nil) rfl) (Calls.mono h ?_)
                rintro _ w220 ⟨r219, rfl, h⟩
                refine ⟨_, rfl, ?_⟩
                refine LE.p (v := (SV.v r145)) (Wn.yes 3 122 true rfl rfl rfl (congrArg Value.bool hb218)) rfl (R.move f160) ?_
                refine LE.p (v := (Value.int .i64 (r145.len : Int))) (Wn.yes 3 122 true rfl rfl rfl (congrArg Value.bool hb218)) rfl (R.len sl33 rfl) ?_
                refine LE.p (v := (Value.bool (r219 == (r145.len : Int)))) (Wn.yes 3 122 true rfl rfl rfl (congrArg Value.bool hb218)) rfl (R.eql rfl rfl) ?_
                refine LE.p (v := (Value.bool (r219 == (r145.len : Int)))) (Wn.no rfl) rfl (R.pickT (congrArg Value.bool hb218) rfl) ?_
                refine LE.p (v := (Value.bool (r219 == (r145.len : Int)))) (Wn.no rfl) rfl (R.move rfl) ?_
                rcases M.ite_use h with ⟨hb221, h⟩ | ⟨hb221, h⟩
                · refine LE.c (Wn.yes 10 129 true rfl rfl rfl (congrArg Value.bool hb221)) rfl (R.call bd19 Ls.nil rfl) (Calls.mono h ?_)
                  rintro _ w223 ⟨r222, rfl, h⟩
                  refine ⟨_, rfl, ?_⟩
                  refine LE.p (v := (Value.bool r222)) (Wn.no rfl) rfl (R.pickT (congrArg Value.bool hb221) rfl) ?_
                  refine LE.p (v := (Value.bool r222)) (Wn.no rfl) rfl (R.assign rfl) ?_
                  refine LE.nil ?_
                  exact ⟨_, h, rfl⟩
                · refine LE.u (Un.no 10 129 true rfl rfl rfl (congrArg Value.bool hb221)) ?_
                  refine LE.p (v := (Value.bool false)) (Wn.no rfl) rfl (R.pickF (congrArg Value.bool hb221) rfl) ?_
                  refine LE.p (v := (Value.bool false)) (Wn.no rfl) rfl (R.assign rfl) ?_
                  refine LE.nil ?_
                  exact ⟨_, h, rfl⟩
              · refine LE.u (Un.no 3 122 true rfl rfl rfl (congrArg Value.bool hb218)) ?_
                refine LE.u (Un.no 3 122 true rfl rfl rfl (congrArg Value.bool hb218)) ?_
                refine LE.u (Un.no 3 122 true rfl rfl rfl (congrArg Value.bool hb218)) ?_
                refine LE.u (Un.no 3 122 true rfl rfl rfl (congrArg Value.bool hb218)) ?_
                refine LE.u (Un.no 3 122 true rfl rfl rfl (congrArg Value.bool hb218)) ?_
                refine LE.p (v := (Value.bool false)) (Wn.no rfl) rfl (R.pickF (congrArg Value.bool hb218) rfl) ?_
                refine LE.p (v := (Value.bool false)) (Wn.no rfl) rfl (R.move rfl) ?_
                refine LE.u (Un.no 10 129 true rfl rfl rfl rfl) ?_
                refine LE.p (v := (Value.bool false)) (Wn.no rfl) rfl (R.pickF rfl rfl) ?_
                refine LE.p (v := (Value.bool false)) (Wn.no rfl) rfl (R.assign rfl) ?_
                refine LE.nil ?_
                exact ⟨_, h, rfl⟩
            · rintro e224 w225 ⟨x215, h, f226⟩
              subst hJ214
              refine WE.ret ?_
              exact ⟨_, (Res.tmp f226 Res.nil), _, rfl, h⟩
/-- The formula of signpost.signpostlaw3.TrieMatch. -/
def F4 (p0 : SV) (p1 : Int) (K : Bool → World → Prop) (w0 : World) : Prop :=
Calls Try.prog 10 #[] w0 (R10 fun r1 w2 =>
M.ite (Option.isNone r1) (
K false w2) (
M.loop1 (fun (J5 : Int → World → Prop) (x4 : Int) (w6 : World) => 
M.join (fun (x18 : Bool) (w21 : World) => 
M.ite x18 (
M.drew w21 fun w28 => 
M.idx p0 x4 5 fun a29 =>
M.idx p0 x4 5 fun a33 =>
M.ld (Value.int .u32) ((a29.add (x4.toNat * 5)).add 3) w28 fun t37 =>
M.ld (Value.int .i64) ((a33.add (x4.toNat * 5)).add 1) w28 fun t39 =>
Calls Try.prog 11 #[(Value.int .u32 t37), (Value.int .i64 t39)] w28 (R11 fun r41 r42 w43 =>
Calls Try.prog 12 #[(Value.pointer r1), (Value.agg #[(Value.int .u32 r41), (Value.int .i64 r42)]), (Value.int .i64 x4)] w43 (R12 fun r44 w45 =>
J5 (IntKind.i64.wrap (x4 + (1 : Int))) w45))) (
Calls Try.prog 20 #[(Value.pointer r1), (Value.int .u32 (bOr .u32 (167772160 : Int) (Int.tmod p1 (33554432 : Int))))] w21 (R20 fun r46 r47 r48 r49 w50 =>
M.new (.cells #[(Value.int .u32 (0 : Int)), (Value.int .i64 (0 : Int))] 27) w50 fun b52 w51 =>
M.stA b52 [(Value.int .u32 r46), (Value.int .i64 r47)] w51 fun w53 =>
Calls Try.prog 14 #[(Value.pointer r1)] w53 (R14 fun r55 w56 =>
M.loop2 (fun (J59 : Int → Int → World → Prop) (x57 : Int) (x58 : Int) (w60 : World) => 
M.ite (decide (x58 < (r55.len : Int))) (
M.join (fun (x77 : Int) (w118 : World) => 
J59 x77 (IntKind.i64.wrap (x58 + (1 : Int))) w118) fun J76 => 
M.join (fun (x79 : Bool) (w106 : World) => 
M.ite x79 (
J76 x58 w106) (
J76 x57 w106)) fun J78 => 
M.drew w60 fun w80 => 
M.idx r55 x58 2 fun a81 =>
M.ld (Value.int .u32) (a81.add (x58.toNat * 2)) w80 fun t85 =>
M.ld (Value.int .i64) ((a81.add (x58.toNat * 2)).add 1) w80 fun t87 =>
Calls Try.prog 21 #[(Value.agg #[(Value.int .u32 t85), (Value.int .i64 t87)]), (Value.int .u32 (bOr .u32 (167772160 : Int) (Int.tmod p1 (33554432 : Int))))] w80 (R21 fun r89 w90 =>
M.ite r89 (
M.ite (decide (x57 < (0 : Int))) (
J78 true w90) (
M.idx r55 x58 2 fun a93 =>
M.idx r55 x57 2 fun a97 =>
M.ld (Value.int .i64) ((a93.add (x58.toNat * 2)).add 1) w90 fun t101 =>
M.ld (Value.int .i64) ((a97.add (x57.toNat * 2)).add 1) w90 fun t103 =>
J78 (decide (t103 < t101)) w90)) (
J78 false w90))) (
M.join (fun (x128 : Bool) (w137 : World) => 
M.ite x128 (
K false w137) (
Calls Try.prog 22 #[(Value.pointer r1), (Value.agg #[(Value.int .u32 (bOr .u32 (167772160 : Int) (Int.tmod p1 (33554432 : Int)))), (Value.int .i64 (32 : Int))])] w137 (R22 fun r147 w148 =>
M.ite (!r49) (
M.join (fun (x151 : Bool) (w156 : World) => 
K x151 w156) fun J150 => 
M.ite ((r147.len : Int) == (0 : Int)) (
Calls Try.prog 19 #[] w148 (R19 fun r153 w154 =>
J150 r153 w154)) (
J150 false w148)) (
M.ld (Value.int .u32) b52 w148 fun t158 =>
M.ld (Value.int .i64) (b52.add 1) w148 fun t160 =>
Calls Try.prog 15 #[(Value.pointer r1), (Value.agg #[(Value.int .u32 t158), (Value.int .i64 t160)])] w148 (R15 fun r162 r163 w164 =>
M.join (fun (x166 : Bool) (w200 : World) => 
K x166 w200) fun J165 => 
M.drew w164 fun w167 => 
M.idx r55 x57 2 fun a168 =>
M.ld (Value.int .u32) b52 w167 fun t172 =>
M.ld (Value.int .i64) (b52.add 1) w167 fun t174 =>
M.ld (Value.int .u32) (a168.add (x57.toNat * 2)) w167 fun t176 =>
M.ld (Value.int .i64) ((a168.add (x57.toNat * 2)).add 1) w167 fun t178 =>
M.ite ((t172 == t176) && (t174 == t178)) (
M.ite r163 (
M.ite (r162 == r48) (
M.ite (decide ((0 : Int) < (r147.len : Int))) (
M.idx r147 (IntKind.i64.wrap ((r147.len : Int) - (1 : Int))) 2 fun a184 =>
M.ld (Value.int .u32) (a184.add ((IntKind.i64.wrap ((r147.len : Int) - (1 : Int))).toNat * 2)) w167 fun t188 =>
M.ld (Value.int .i64) ((a184.add ((IntKind.i64.wrap ((r147.len : Int) - (1 : Int))).toNat * 2)).add 1) w167 fun t190 =>
M.ld (Value.int .u32) b52 w167 fun t192 =>
M.ld (Value.int .i64) (b52.add 1) w167 fun t194 =>
M.ite ((t188 == t192) && (t190 == t194)) (
Calls Try.prog 19 #[] w167 (R19 fun r197 w198 =>
J165 r197 w198)) (
J165 false w167)) (
J165 false w167)) (
J165 false w167)) (
J165 false w167)) (
J165 false w167)))))) fun J127 => 
M.ite (!(r49 == (decide ((0 : Int) ≤ x57)))) (
J127 true w60) (
M.ite (!r49) (
M.ld (Value.int .u32) b52 w60 fun t131 =>
M.ld (Value.int .i64) (b52.add 1) w60 fun t133 =>
M.ite (!((t131 == (0 : Int)) && (t133 == (0 : Int)))) (
J127 true w60) (
J127 (r48 != (0 : Int)) w60)) (
J127 false w60)))) (-1 : Int) (0 : Int) w56)))) fun J17 => 
M.ite (decide (x4 < (p0.len : Int))) (
J17 (decide (x4 < (60 : Int))) w6) (
J17 false w6)) (0 : Int) w2))
theorem F4_ok {w0 : World} {p0 : SV} {p1 : Int} {K : Bool → World → Prop} (h : F4 p0 p1 K w0) : Calls Try.prog 4 #[(SV.v p0), (Value.int .u32 p1)] w0 (R4 K) := by
  refine calls_of_WE (args := [(SV.v p0), (Value.int .u32 p1)]) (rs := [.tmp 4]) Try.func4 rfl (N := 152) rfl rfl rfl rfl ?_
  refine WE.seq ?_
  refine WE.reg ?_
  refine LE.p (v := (Value.bool false)) (Wn.no rfl) rfl (R.assign rfl) ?_
  refine LE.nil ?_
  refine WE.seq ?_
  refine WE.reg ?_
  refine LE.c (Wn.no rfl) rfl (R.call bd10 Ls.nil rfl) (Calls.mono h ?_)
  rintro _ w2 ⟨r1, rfl, h⟩
  refine ⟨_, rfl, ?_⟩
  refine LE.p (v := (Value.pointer r1)) (Wn.no rfl) rfl (R.assign rfl) ?_
  refine LE.nil ?_
  refine WE.seq ?_
  refine WE.seq ?_
  refine WE.reg ?_
  refine LE.p (v := (Value.pointer r1)) (Wn.no rfl) rfl (R.move rfl) ?_
  refine LE.p (v := (Value.bool (Option.isNone r1))) (Wn.no rfl) rfl (R.peqNil pt23 rfl rfl) ?_
  refine LE.nil ?_
  refine WE.condT rfl (b := (Option.isNone r1)) rfl ?_ ?_
  · intro hb3
    replace h := M.ite_t h hb3
    refine WE.seq ?_
    refine WE.reg ?_
    refine LE.p (v := (Value.bool false)) (Wn.no rfl) rfl (R.assign rfl) ?_
    refine LE.nil ?_
    refine WE.ret ?_
    exact ⟨_, (Res.tmp rfl Res.nil), _, rfl, h⟩
  · intro hb3
    replace h := M.ite_f h hb3
    refine WE.skip ?_
    refine WE.seq ?_
    refine WE.seq ?_
    refine WE.reg ?_
    refine LE.p (v := (Value.int .i64 (0 : Int))) (Wn.no rfl) rfl (R.assign rfl) ?_
    refine LE.nil ?_
    refine WE.block ?_
    obtain ⟨I9, ⟨n8, h⟩, hr10⟩ := h
    refine WE.loop (fun n e w => ∃ (x4 : Int), I9 n x4 w ∧ e 0 = (SV.v p0) ∧ e 1 = (Value.int .u32 p1) ∧ e 5 = (Value.pointer r1) ∧ e 6 = (Value.int .i64 x4)) n8 ⟨_, h, rfl, rfl, rfl, rfl⟩ ?_
    clear h
    rintro n8 e7 w6 ⟨x4, h, f13, f14, f15, f16⟩
    replace h := hr10 n8 x4 w6 h
    refine WE.seq ?_
    refine WE.seq ?_
    obtain ⟨J17, hJ17, h⟩ := M.join_use h
    refine WE.regJ (fun e w => ∃ (x18 : Bool), J17 x18 w ∧ e 0 = (SV.v p0) ∧ e 1 = (Value.int .u32 p1) ∧ e 5 = (Value.pointer r1) ∧ e 6 = (Value.int .i64 x4) ∧ e 26 = (Value.bool x18)) ?_ ?_
    · clear hJ17
      refine LE.p (v := (Value.int .i64 x4)) (Wn.no rfl) rfl (R.move f16) ?_
      refine LE.p (v := (SV.v p0)) (Wn.no rfl) rfl (R.move f13) ?_
      refine LE.p (v := (Value.int .i64 (p0.len : Int))) (Wn.no rfl) rfl (R.len sl22 rfl) ?_
      refine LE.p (v := (Value.bool (decide (x4 < (p0.len : Int))))) (Wn.no rfl) rfl (R.lss rfl rfl) ?_
      refine LE.p (v := (Value.bool (decide (x4 < (p0.len : Int))))) (Wn.no rfl) rfl (R.move rfl) ?_
      rcases M.ite_use h with ⟨hb19, h⟩ | ⟨hb19, h⟩
      · refine LE.p (v := (Value.int .i64 x4)) (Wn.yes 4 23 true rfl rfl rfl (congrArg Value.bool hb19)) rfl (R.move f16) ?_
        refine LE.p (v := (Value.bool (decide (x4 < (60 : Int))))) (Wn.yes 4 23 true rfl rfl rfl (congrArg Value.bool hb19)) rfl (R.lss rfl rfl) ?_
        refine LE.p (v := (Value.bool (decide (x4 < (60 : Int))))) (Wn.no rfl) rfl (R.pickT (congrArg Value.bool hb19) rfl) ?_
        refine LE.nil ?_
        exact ⟨_, h, f13, f14, f15, f16, rfl⟩
      · refine LE.u (Un.no 4 23 true rfl rfl rfl (congrArg Value.bool hb19)) ?_
        refine LE.u (Un.no 4 23 true rfl rfl rfl (congrArg Value.bool hb19)) ?_
        refine LE.p (v := (Value.bool false)) (Wn.no rfl) rfl (R.pickF (congrArg Value.bool hb19) rfl) ?_
        refine LE.nil ?_
        exact ⟨_, h, f13, f14, f15, f16, rfl⟩
    · rintro e20 w21 ⟨x18, h, f22, f23, f24, f25, f26⟩
      subst hJ17
      refine WE.condT rfl (b := x18) f26 ?_ ?_
      · intro hb27
        replace h := M.ite_t h hb27
        refine WE.skip ?_
        refine WE.seq ?_
        refine WE.block ?_
        refine WE.draw mix ?_
        obtain ⟨w28, hww28, h⟩ := M.drew_use h
        rw [← hww28]
        clear hww28
        refine DE.t 0 (v := (Value.pointer r1)) rfl (by kernel_rfl) (Wn.no rfl) rfl (R.move f24) ?_
        refine DE.t 1 (v := (SV.v p0)) rfl (by kernel_rfl) (Wn.no rfl) rfl (R.move f22) ?_
        refine DE.t 2 (v := (Value.int .i64 x4)) rfl (by kernel_rfl) (Wn.no rfl) rfl (R.move f25) ?_
        obtain ⟨a29, h30, h31, h32, h⟩ := h
        refine DE.t 3 (v := (Value.pointer (some (a29.add (x4.toNat * 5))))) rfl (by kernel_rfl) (Wn.no rfl) rfl (R.idx (s := p0) sl22 rfl rfl h30 h31 h32) ?_
        refine DE.t 4 (v := (Value.pointer (some ((a29.add (x4.toNat * 5)).add 3)))) rfl (by kernel_rfl) (Wn.no rfl) rfl (R.fld (off := 3) fa30_3 rfl) ?_
        refine DE.t 6 (v := (SV.v p0)) rfl (by kernel_rfl) (Wn.no rfl) rfl (R.move f22) ?_
        refine DE.t 7 (v := (Value.int .i64 x4)) rfl (by kernel_rfl) (Wn.no rfl) rfl (R.move f25) ?_
        obtain ⟨a33, h34, h35, h36, h⟩ := h
        refine DE.t 8 (v := (Value.pointer (some (a33.add (x4.toNat * 5))))) rfl (by kernel_rfl) (Wn.no rfl) rfl (R.idx (s := p0) sl22 rfl rfl h34 h35 h36) ?_
        refine DE.t 9 (v := (Value.pointer (some ((a33.add (x4.toNat * 5)).add 1)))) rfl (by kernel_rfl) (Wn.no rfl) rfl (R.fld (off := 1) fa30_1 rfl) ?_
        refine DE.t 12 (v := (Value.int .i64 x4)) rfl (by kernel_rfl) (Wn.no rfl) rfl (R.move f25) ?_
        obtain ⟨t37, h38, h⟩ := h
        refine DE.hold 5 (fun w => w.cell? ((a29.add (x4.toNat * 5)).add 3) = some (Value.int .u32 t37)) (v := (Value.int .u32 t37)) rfl (by kernel_rfl) (Wn.no rfl) rfl h38 (fun w hs => R.ld sc25 rfl hs) ?_
        obtain ⟨t39, h40, h⟩ := h
        refine DE.main 10 (by kernel_rfl) ?_
        refine One.r 10 (v := (Value.int .i64 t39)) rfl (Wn.no rfl) rfl (R.ld sc3 rfl h40) (.inl rfl) ?_
        refine DE.main 11 (by kernel_rfl) ?_
        refine One.c 11 rfl (Wn.no rfl) rfl (R.call bd11 (Ls.cons rfl (Ls.cons rfl Ls.nil)) rfl) (Calls.mono h ?_)
        rintro _ w43 ⟨r41, r42, rfl, h⟩
        refine ⟨_, rfl, ⟨aftT (by kernel_rfl), trivial⟩, ?_⟩
        refine DE.main 13 (by kernel_rfl) ?_
        refine One.c 13 rfl (Wn.no rfl) rfl (R.call bd12 (Ls.cons rfl (Ls.cons rfl (Ls.cons rfl Ls.nil))) rfl) (Calls.mono h ?_)
        rintro _ w45 ⟨r44, rfl, h⟩
        refine ⟨_, rfl, ⟨aftT (by kernel_rfl), trivial⟩, ?_⟩
        refine DE.done (by kernel_rfl) ?_
        refine WE.reg ?_
        refine LE.p (v := (Value.int .i64 x4)) (Wn.no rfl) rfl (R.move f25) ?_
        refine LE.p (v := (Value.int .i64 (IntKind.i64.wrap (x4 + (1 : Int))))) (Wn.no rfl) rfl (R.add rfl rfl) ?_
        refine LE.p (v := (Value.int .i64 (IntKind.i64.wrap (x4 + (1 : Int))))) (Wn.no rfl) rfl (R.assign rfl) ?_
        refine LE.nil ?_
        obtain ⟨m11, hm12, h⟩ := h
        exact ⟨m11, hm12, _, h, f22, f23, f24, rfl⟩
      · intro hb27
        replace h := M.ite_f h hb27
        refine WE.exit ?_
        refine WE.seq ?_
        refine WE.reg ?_
        refine LE.p (v := (Value.int .u32 p1)) (Wn.no rfl) rfl (R.move f23) ?_
        refine LE.p (v := (Value.int .u32 (Int.tmod p1 (33554432 : Int)))) (Wn.no rfl) rfl (R.rem rfl rfl (by decide)) ?_
        refine LE.p (v := (Value.int .u32 (bOr .u32 (167772160 : Int) (Int.tmod p1 (33554432 : Int))))) (Wn.no rfl) rfl (R.or rfl rfl) ?_
        refine LE.p (v := (Value.int .u32 (bOr .u32 (167772160 : Int) (Int.tmod p1 (33554432 : Int))))) (Wn.no rfl) rfl (R.assign rfl) ?_
        refine LE.nil ?_
        refine WE.seq ?_
        refine WE.reg ?_
        refine LE.p (v := (Value.pointer r1)) (Wn.no rfl) rfl (R.move f24) ?_
        refine LE.p (v := (Value.int .u32 (bOr .u32 (167772160 : Int) (Int.tmod p1 (33554432 : Int))))) (Wn.no rfl) rfl (R.move rfl) ?_
        refine LE.c (Wn.no rfl) rfl (R.call bd20 (Ls.cons rfl (Ls.cons rfl Ls.nil)) rfl) (Calls.mono h ?_)
        rintro _ w50 ⟨r46, r47, r48, r49, rfl, h⟩
        refine ⟨_, rfl, ?_⟩
        refine LE.p (v := (Value.tuple #[(Value.agg #[(Value.int .u32 r46), (Value.int .i64 r47)]), (Value.int .i64 r48), (Value.bool r49)])) (Wn.no rfl) rfl (R.move rfl) ?_
        refine LE.p (v := (Value.agg #[(Value.int .u32 r46), (Value.int .i64 r47)])) (Wn.no rfl) rfl (R.ext rfl rfl) ?_
        refine LE.p (v := (Value.int .i64 r48)) (Wn.no rfl) rfl (R.ext rfl rfl) ?_
        refine LE.p (v := (Value.bool r49)) (Wn.no rfl) rfl (R.ext rfl rfl) ?_
        obtain ⟨b52, hpb52, w51, hww51, h⟩ := M.new_use h
        refine LE.r (v := (Value.pointer (some b52))) (Wn.no rfl) rfl (R.alloc (cs := #[(Value.int .u32 (0 : Int)), (Value.int .i64 (0 : Int))]) ze27 rfl hpb52 hww51) ?_
        obtain ⟨w53, hww53, h54, h⟩ := M.stA_use h
        refine LE.s (Wn.no rfl) rfl (R.stA (a := b52) [(Value.int .u32 r46), (Value.int .i64 r47)] sz27 rfl rfl rfl (by simp [Value.oneCell']) h54 hww53) ?_
        refine LE.p (v := (Value.int .i64 r48)) (Wn.no rfl) rfl (R.assign rfl) ?_
        refine LE.p (v := (Value.bool r49)) (Wn.no rfl) rfl (R.assign rfl) ?_
        refine LE.nil ?_
        refine WE.seq ?_
        refine WE.reg ?_
        refine LE.p (v := (Value.int .i64 (-1 : Int))) (Wn.no rfl) rfl (R.assign rfl) ?_
        refine LE.nil ?_
        refine WE.seq ?_
        refine WE.reg ?_
        refine LE.p (v := (Value.pointer r1)) (Wn.no rfl) rfl (R.move f24) ?_
        refine LE.c (Wn.no rfl) rfl (R.call bd14 (Ls.cons rfl Ls.nil) rfl) (Calls.mono h ?_)
        rintro _ w56 ⟨r55, rfl, h⟩
        refine ⟨_, rfl, ?_⟩
        refine LE.p (v := (SV.v r55)) (Wn.no rfl) rfl (R.assign rfl) ?_
        refine LE.nil ?_
        refine WE.seq ?_
        refine WE.seq ?_
        refine WE.reg ?_
        refine LE.p (v := (Value.int .i64 (0 : Int))) (Wn.no rfl) rfl (R.assign rfl) ?_
        refine LE.nil ?_
        refine WE.block ?_
        obtain ⟨I63, ⟨n62, h⟩, hr64⟩ := h
        refine WE.loop (fun n e w => ∃ (x57 : Int) (x58 : Int), I63 n x57 x58 w ∧ e 1 = (Value.int .u32 (bOr .u32 (167772160 : Int) (Int.tmod p1 (33554432 : Int)))) ∧ e 5 = (Value.pointer r1) ∧ e 7 = (Value.pointer (some b52)) ∧ e 8 = (Value.int .i64 r48) ∧ e 9 = (Value.bool r49) ∧ e 10 = (Value.int .i64 x57) ∧ e 11 = (SV.v r55) ∧ e 12 = (Value.int .i64 x58)) n62 ⟨_, _, h, rfl, f24, rfl, rfl, rfl, rfl, rfl, rfl⟩ ?_
        clear h
        rintro n62 e61 w60 ⟨x57, x58, h, f67, f68, f69, f70, f71, f72, f73, f74⟩
        replace h := hr64 n62 x57 x58 w60 h
        refine WE.seq ?_
        refine WE.seq ?_
        refine WE.reg ?_
        refine LE.p (v := (Value.int .i64 x58)) (Wn.no rfl) rfl (R.move f74) ?_
        refine LE.p (v := (SV.v r55)) (Wn.no rfl) rfl (R.move f73) ?_
        refine LE.p (v := (Value.int .i64 (r55.len : Int))) (Wn.no rfl) rfl (R.len sl33 rfl) ?_
        refine LE.p (v := (Value.bool (decide (x58 < (r55.len : Int))))) (Wn.no rfl) rfl (R.lss rfl rfl) ?_
        refine LE.nil ?_
        refine WE.condT rfl (b := (decide (x58 < (r55.len : Int)))) rfl ?_ ?_
        · intro hb75
          replace h := M.ite_t h hb75
          refine WE.skip ?_
          refine WE.seq ?_
          obtain ⟨J76, hJ76, h⟩ := M.join_use h
          refine WE.blkJ (fun e w => ∃ (x77 : Int), J76 x77 w ∧ e 1 = (Value.int .u32 (bOr .u32 (167772160 : Int) (Int.tmod p1 (33554432 : Int)))) ∧ e 5 = (Value.pointer r1) ∧ e 7 = (Value.pointer (some b52)) ∧ e 8 = (Value.int .i64 r48) ∧ e 9 = (Value.bool r49) ∧ e 10 = (Value.int .i64 x77) ∧ e 11 = (SV.v r55) ∧ e 12 = (Value.int .i64 x58)) ?_ ?_
          · clear hJ76
            refine WE.seq ?_
            obtain ⟨J78, hJ78, h⟩ := M.join_use h
            refine WE.drawJ (fun e w => ∃ (x79 : Bool), J78 x79 w ∧ e 1 = (Value.int .u32 (bOr .u32 (167772160 : Int) (Int.tmod p1 (33554432 : Int)))) ∧ e 5 = (Value.pointer r1) ∧ e 7 = (Value.pointer (some b52)) ∧ e 8 = (Value.int .i64 r48) ∧ e 9 = (Value.bool r49) ∧ e 10 = (Value.int .i64 x57) ∧ e 11 = (SV.v r55) ∧ e 12 = (Value.int .i64 x58) ∧ e 83 = (Value.bool x79)) mix ?_ ?_
            · clear hJ78
              obtain ⟨w80, hww80, h⟩ := M.drew_use h
              rw [← hww80]
              clear hww80
              refine DE.t 0 (v := (SV.v r55)) rfl (by kernel_rfl) (Wn.no rfl) rfl (R.move f73) ?_
              refine DE.t 1 (v := (Value.int .i64 x58)) rfl (by kernel_rfl) (Wn.no rfl) rfl (R.move f74) ?_
              obtain ⟨a81, h82, h83, h84, h⟩ := h
              refine DE.t 2 (v := (Value.pointer (some (a81.add (x58.toNat * 2))))) rfl (by kernel_rfl) (Wn.no rfl) rfl (R.idx (s := r55) sl33 rfl rfl h82 h83 h84) ?_
              refine DE.t 4 (v := (Value.int .u32 (bOr .u32 (167772160 : Int) (Int.tmod p1 (33554432 : Int))))) rfl (by kernel_rfl) (Wn.no rfl) rfl (R.move f67) ?_
              obtain ⟨t85, h86, h⟩ := h
              obtain ⟨t87, h88, h⟩ := h
              refine DE.main 3 (by kernel_rfl) ?_
              refine One.r 3 (v := (Value.agg #[(Value.int .u32 t85), (Value.int .i64 t87)])) rfl (Wn.no rfl) rfl (R.ldA ag27 sz27 rfl rfl (Cs.cons h86 (Cs.cons h88 Cs.nil))) (.inl rfl) ?_
              refine DE.main 5 (by kernel_rfl) ?_
              refine One.c 5 rfl (Wn.no rfl) rfl (R.call bd21 (Ls.cons rfl (Ls.cons rfl Ls.nil)) rfl) (Calls.mono h ?_)
              rintro _ w90 ⟨r89, rfl, h⟩
              refine ⟨_, rfl, trivial, ?_⟩
              refine DE.t 6 (v := (Value.bool r89)) rfl (by kernel_rfl) (Wn.no rfl) rfl (R.move rfl) ?_
              rcases M.ite_use h with ⟨hb91, h⟩ | ⟨hb91, h⟩
              · refine DE.t 7 (v := (Value.int .i64 x57)) rfl (by kernel_rfl) (Wn.yes 6 67 true rfl rfl rfl (congrArg Value.bool hb91)) rfl (R.move f72) ?_
                refine DE.t 8 (v := (Value.bool (decide (x57 < (0 : Int))))) rfl (by kernel_rfl) (Wn.yes 6 67 true rfl rfl rfl (congrArg Value.bool hb91)) rfl (R.lss rfl rfl) ?_
                refine DE.t 9 (v := (Value.bool (decide (x57 < (0 : Int))))) rfl (by kernel_rfl) (Wn.yes 6 67 true rfl rfl rfl (congrArg Value.bool hb91)) rfl (R.move rfl) ?_
                rcases M.ite_use h with ⟨hb92, h⟩ | ⟨hb92, h⟩
                · refine DE.u 10 rfl (by kernel_rfl) (Un.no 9 70 false rfl rfl rfl (congrArg Value.bool hb92)) ?_
                  refine DE.u 11 rfl (by kernel_rfl) (Un.no 9 70 false rfl rfl rfl (congrArg Value.bool hb92)) ?_
                  refine DE.u 12 rfl (by kernel_rfl) (Un.no 9 70 false rfl rfl rfl (congrArg Value.bool hb92)) ?_
                  refine DE.u 13 rfl (by kernel_rfl) (Un.no 9 70 false rfl rfl rfl (congrArg Value.bool hb92)) ?_
                  refine DE.u 14 rfl (by kernel_rfl) (Un.no 9 70 false rfl rfl rfl (congrArg Value.bool hb92)) ?_
                  refine DE.u 15 rfl (by kernel_rfl) (Un.no 9 70 false rfl rfl rfl (congrArg Value.bool hb92)) ?_
                  refine DE.u 16 rfl (by kernel_rfl) (Un.no 9 70 false rfl rfl rfl (congrArg Value.bool hb92)) ?_
                  refine DE.u 17 rfl (by kernel_rfl) (Un.no 9 70 false rfl rfl rfl (congrArg Value.bool hb92)) ?_
                  refine DE.u 18 rfl (by kernel_rfl) (Un.no 9 70 false rfl rfl rfl (congrArg Value.bool hb92)) ?_
                  refine DE.u 19 rfl (by kernel_rfl) (Un.no 9 70 false rfl rfl rfl (congrArg Value.bool hb92)) ?_
                  refine DE.u 20 rfl (by kernel_rfl) (Un.no 9 70 false rfl rfl rfl (congrArg Value.bool hb92)) ?_
                  refine DE.t 21 (v := (Value.bool true)) rfl (by kernel_rfl) (Wn.yes 6 67 true rfl rfl rfl (congrArg Value.bool hb91)) rfl (R.pickT (congrArg Value.bool hb92) rfl) ?_
                  refine DE.t 22 (v := (Value.bool true)) rfl (by kernel_rfl) (Wn.no rfl) rfl (R.pickT (congrArg Value.bool hb91) rfl) ?_
                  refine DE.done (by kernel_rfl) ?_
                  exact ⟨_, h, f67, f68, f69, f70, f71, f72, f73, f74, rfl⟩
                · refine DE.t 10 (v := (SV.v r55)) rfl (by kernel_rfl) (Wn.yes 9 70 false rfl rfl rfl (congrArg Value.bool hb92)) rfl (R.move f73) ?_
                  refine DE.t 11 (v := (Value.int .i64 x58)) rfl (by kernel_rfl) (Wn.yes 9 70 false rfl rfl rfl (congrArg Value.bool hb92)) rfl (R.move f74) ?_
                  obtain ⟨a93, h94, h95, h96, h⟩ := h
                  refine DE.t 12 (v := (Value.pointer (some (a93.add (x58.toNat * 2))))) rfl (by kernel_rfl) (Wn.yes 9 70 false rfl rfl rfl (congrArg Value.bool hb92)) rfl (R.idx (s := r55) sl33 rfl rfl h94 h95 h96) ?_
                  refine DE.t 13 (v := (Value.pointer (some ((a93.add (x58.toNat * 2)).add 1)))) rfl (by kernel_rfl) (Wn.yes 9 70 false rfl rfl rfl (congrArg Value.bool hb92)) rfl (R.fld (off := 1) fa27_1 rfl) ?_
                  refine DE.t 15 (v := (SV.v r55)) rfl (by kernel_rfl) (Wn.yes 9 70 false rfl rfl rfl (congrArg Value.bool hb92)) rfl (R.move f73) ?_
                  refine DE.t 16 (v := (Value.int .i64 x57)) rfl (by kernel_rfl) (Wn.yes 9 70 false rfl rfl rfl (congrArg Value.bool hb92)) rfl (R.move f72) ?_
                  obtain ⟨a97, h98, h99, h100, h⟩ := h
                  refine DE.t 17 (v := (Value.pointer (some (a97.add (x57.toNat * 2))))) rfl (by kernel_rfl) (Wn.yes 9 70 false rfl rfl rfl (congrArg Value.bool hb92)) rfl (R.idx (s := r55) sl33 rfl rfl h98 h99 h100) ?_
                  refine DE.t 18 (v := (Value.pointer (some ((a97.add (x57.toNat * 2)).add 1)))) rfl (by kernel_rfl) (Wn.yes 9 70 false rfl rfl rfl (congrArg Value.bool hb92)) rfl (R.fld (off := 1) fa27_1 rfl) ?_
                  obtain ⟨t101, h102, h⟩ := h
                  refine DE.hold 14 (fun w => w.cell? ((a93.add (x58.toNat * 2)).add 1) = some (Value.int .i64 t101)) (v := (Value.int .i64 t101)) rfl (by kernel_rfl) (Wn.yes 9 70 false rfl rfl rfl (congrArg Value.bool hb92)) rfl h102 (fun w hs => R.ld sc3 rfl hs) ?_
                  obtain ⟨t103, h104, h⟩ := h
                  refine DE.main 19 (by kernel_rfl) ?_
                  refine One.r 19 (v := (Value.int .i64 t103)) rfl (Wn.yes 9 70 false rfl rfl rfl (congrArg Value.bool hb92)) rfl (R.ld sc3 rfl h104) (.inl rfl) ?_
                  refine DE.t 20 (v := (Value.bool (decide (t103 < t101)))) rfl (by kernel_rfl) (Wn.yes 9 70 false rfl rfl rfl (congrArg Value.bool hb92)) rfl (R.gtr rfl rfl) ?_
                  refine DE.t 21 (v := (Value.bool (decide (t103 < t101)))) rfl (by kernel_rfl) (Wn.yes 6 67 true rfl rfl rfl (congrArg Value.bool hb91)) rfl (R.pickF (congrArg Value.bool hb92) rfl) ?_
                  refine DE.t 22 (v := (Value.bool (decide (t103 < t101)))) rfl (by kernel_rfl) (Wn.no rfl) rfl (R.pickT (congrArg Value.bool hb91) rfl) ?_
                  refine DE.done (by kernel_rfl) ?_
                  exact ⟨_, h, f67, f68, f69, f70, f71, f72, f73, f74, rfl⟩
              · refine DE.u 7 rfl (by kernel_rfl) (Un.no 6 67 true rfl rfl rfl (congrArg Value.bool hb91)) ?_
                refine DE.u 8 rfl (by kernel_rfl) (Un.no 6 67 true rfl rfl rfl (congrArg Value.bool hb91)) ?_
                refine DE.u 9 rfl (by kernel_rfl) (Un.no 6 67 true rfl rfl rfl (congrArg Value.bool hb91)) ?_
                refine DE.u 10 rfl (by kernel_rfl) (Un.un 9 70 false rfl rfl rfl rfl) ?_
                refine DE.u 11 rfl (by kernel_rfl) (Un.un 9 70 false rfl rfl rfl rfl) ?_
                refine DE.u 12 rfl (by kernel_rfl) (Un.un 9 70 false rfl rfl rfl rfl) ?_
                refine DE.u 13 rfl (by kernel_rfl) (Un.un 9 70 false rfl rfl rfl rfl) ?_
                refine DE.u 14 rfl (by kernel_rfl) (Un.un 9 70 false rfl rfl rfl rfl) ?_
                refine DE.u 15 rfl (by kernel_rfl) (Un.un 9 70 false rfl rfl rfl rfl) ?_
                refine DE.u 16 rfl (by kernel_rfl) (Un.un 9 70 false rfl rfl rfl rfl) ?_
                refine DE.u 17 rfl (by kernel_rfl) (Un.un 9 70 false rfl rfl rfl rfl) ?_
                refine DE.u 18 rfl (by kernel_rfl) (Un.un 9 70 false rfl rfl rfl rfl) ?_
                refine DE.u 19 rfl (by kernel_rfl) (Un.un 9 70 false rfl rfl rfl rfl) ?_
                refine DE.u 20 rfl (by kernel_rfl) (Un.un 9 70 false rfl rfl rfl rfl) ?_
                refine DE.u 21 rfl (by kernel_rfl) (Un.no 6 67 true rfl rfl rfl (congrArg Value.bool hb91)) ?_
                refine DE.t 22 (v := (Value.bool false)) rfl (by kernel_rfl) (Wn.no rfl) rfl (R.pickF (congrArg Value.bool hb91) rfl) ?_
                refine DE.done (by kernel_rfl) ?_
                exact ⟨_, h, f67, f68, f69, f70, f71, f72, f73, f74, rfl⟩
            · rintro e105 w106 ⟨x79, h, f107, f108, f109, f110, f111, f112, f113, f114, f115⟩
              subst hJ78
              refine WE.condT rfl (b := x79) f115 ?_ ?_
              · intro hb116
                replace h := M.ite_t h hb116
                refine WE.reg ?_
                refine LE.p (v := (Value.int .i64 x58)) (Wn.no rfl) rfl (R.move f114) ?_
                refine LE.p (v := (Value.int .i64 x58)) (Wn.no rfl) rfl (R.assign rfl) ?_
                refine LE.nil ?_
                exact ⟨_, h, f107, f108, f109, f110, f111, rfl, f113, f114⟩
              · intro hb116
                replace h := M.ite_f h hb116
                refine WE.skip ?_
                exact ⟨_, h, f107, f108, f109, f110, f111, f112, f113, f114⟩
          · rintro e117 w118 ⟨x77, h, f119, f120, f121, f122, f123, f124, f125, f126⟩
            subst hJ76
            refine WE.reg ?_
            refine LE.p (v := (Value.int .i64 x58)) (Wn.no rfl) rfl (R.move f126) ?_
            refine LE.p (v := (Value.int .i64 (IntKind.i64.wrap (x58 + (1 : Int))))) (Wn.no rfl) rfl (R.add rfl rfl) ?_
            refine LE.p (v := (Value.int .i64 (IntKind.i64.wrap (x58 + (1 : Int))))) (Wn.no rfl) rfl (R.assign rfl) ?_
            refine LE.nil ?_
            obtain ⟨m65, hm66, h⟩ := h
            exact ⟨m65, hm66, _, _, h, f119, f120, f121, f122, f123, f124, f125, rfl⟩
        · intro hb75
          replace h := M.ite_f h hb75
          refine WE.exit ?_
          refine WE.seq ?_
          refine WE.seq ?_
          obtain ⟨J127, hJ127, h⟩ := M.join_use h
          refine WE.regJ (fun e w => ∃ (x128 : Bool), J127 x128 w ∧ e 1 = (Value.int .u32 (bOr .u32 (167772160 : Int) (Int.tmod p1 (33554432 : Int)))) ∧ e 5 = (Value.pointer r1) ∧ e 7 = (Value.pointer (some b52)) ∧ e 8 = (Value.int .i64 r48) ∧ e 9 = (Value.bool r49) ∧ e 10 = (Value.int .i64 x57) ∧ e 11 = (SV.v r55) ∧ e 101 = (Value.bool x128)) ?_ ?_
          · clear hJ127
            refine LE.p (v := (Value.bool r49)) (Wn.no rfl) rfl (R.move f71) ?_
            refine LE.p (v := (Value.int .i64 x57)) (Wn.no rfl) rfl (R.move f72) ?_
            refine LE.p (v := (Value.bool (decide ((0 : Int) ≤ x57)))) (Wn.no rfl) rfl (R.geq rfl rfl) ?_
            refine LE.p (v := (Value.bool (!(r49 == (decide ((0 : Int) ≤ x57)))))) (Wn.no rfl) rfl (R.bneq bo4 rfl rfl) ?_
            refine LE.p (v := (Value.bool (!(r49 == (decide ((0 : Int) ≤ x57)))))) (Wn.no rfl) rfl (R.move rfl) ?_
            rcases M.ite_use h with ⟨hb129, h⟩ | ⟨hb129, h⟩
            · refine LE.u (Un.no 4 89 false rfl rfl rfl (congrArg Value.bool hb129)) ?_
              refine LE.u (Un.no 4 89 false rfl rfl rfl (congrArg Value.bool hb129)) ?_
              refine LE.u (Un.no 4 89 false rfl rfl rfl (congrArg Value.bool hb129)) ?_
              refine LE.u (Un.un 7 92 true rfl rfl rfl rfl) ?_
              refine LE.u (Un.un 7 92 true rfl rfl rfl rfl) ?_
              refine LE.u (Un.un 7 92 true rfl rfl rfl rfl) ?_
              refine LE.u (Un.un 7 92 true rfl rfl rfl rfl) ?_
              refine LE.u (Un.un 11 96 false rfl rfl rfl rfl) ?_
              refine LE.u (Un.un 11 96 false rfl rfl rfl rfl) ?_
              refine LE.u (Un.un 7 92 true rfl rfl rfl rfl) ?_
              refine LE.u (Un.no 4 89 false rfl rfl rfl (congrArg Value.bool hb129)) ?_
              refine LE.p (v := (Value.bool true)) (Wn.no rfl) rfl (R.pickT (congrArg Value.bool hb129) rfl) ?_
              refine LE.nil ?_
              exact ⟨_, h, f67, f68, f69, f70, f71, f72, f73, rfl⟩
            · refine LE.p (v := (Value.bool r49)) (Wn.yes 4 89 false rfl rfl rfl (congrArg Value.bool hb129)) rfl (R.move f71) ?_
              refine LE.p (v := (Value.bool (!r49))) (Wn.yes 4 89 false rfl rfl rfl (congrArg Value.bool hb129)) rfl (R.not rfl) ?_
              refine LE.p (v := (Value.bool (!r49))) (Wn.yes 4 89 false rfl rfl rfl (congrArg Value.bool hb129)) rfl (R.move rfl) ?_
              rcases M.ite_use h with ⟨hb130, h⟩ | ⟨hb130, h⟩
              · obtain ⟨t131, h132, h⟩ := h
                obtain ⟨t133, h134, h⟩ := h
                refine LE.r (v := (Value.agg #[(Value.int .u32 t131), (Value.int .i64 t133)])) (Wn.yes 7 92 true rfl rfl rfl (congrArg Value.bool hb130)) rfl (R.ldA ag27 sz27 f69 rfl (Cs.cons h132 (Cs.cons h134 Cs.nil))) ?_
                refine LE.p (v := (Value.agg #[(Value.int .u32 (0 : Int)), (Value.int .i64 (0 : Int))])) (Wn.yes 7 92 true rfl rfl rfl (congrArg Value.bool hb130)) rfl (R.bld (by exact Ls.nil) (fun w => bu27_  w)) ?_
                refine LE.p (v := (Value.bool (!((t131 == (0 : Int)) && (t133 == (0 : Int)))))) (Wn.yes 7 92 true rfl rfl rfl (congrArg Value.bool hb130)) rfl (R.neS (fun w => eq27 t131 (0 : Int) t133 (0 : Int) w) sg27 rfl rfl) ?_
                refine LE.p (v := (Value.bool (!((t131 == (0 : Int)) && (t133 == (0 : Int)))))) (Wn.yes 7 92 true rfl rfl rfl (congrArg Value.bool hb130)) rfl (R.move rfl) ?_
                rcases M.ite_use h with ⟨hb135, h⟩ | ⟨hb135, h⟩
                · refine LE.u (Un.no 11 96 false rfl rfl rfl (congrArg Value.bool hb135)) ?_
                  refine LE.u (Un.no 11 96 false rfl rfl rfl (congrArg Value.bool hb135)) ?_
                  refine LE.p (v := (Value.bool true)) (Wn.yes 7 92 true rfl rfl rfl (congrArg Value.bool hb130)) rfl (R.pickT (congrArg Value.bool hb135) rfl) ?_
                  refine LE.p (v := (Value.bool true)) (Wn.yes 4 89 false rfl rfl rfl (congrArg Value.bool hb129)) rfl (R.pickT (congrArg Value.bool hb130) rfl) ?_
                  refine LE.p (v := (Value.bool true)) (Wn.no rfl) rfl (R.pickF (congrArg Value.bool hb129) rfl) ?_
                  refine LE.nil ?_
                  exact ⟨_, h, f67, f68, f69, f70, f71, f72, f73, rfl⟩
                · refine LE.p (v := (Value.int .i64 r48)) (Wn.yes 11 96 false rfl rfl rfl (congrArg Value.bool hb135)) rfl (R.move f70) ?_
                  refine LE.p (v := (Value.bool (r48 != (0 : Int)))) (Wn.yes 11 96 false rfl rfl rfl (congrArg Value.bool hb135)) rfl (R.neq rfl rfl) ?_
                  refine LE.p (v := (Value.bool (r48 != (0 : Int)))) (Wn.yes 7 92 true rfl rfl rfl (congrArg Value.bool hb130)) rfl (R.pickF (congrArg Value.bool hb135) rfl) ?_
                  refine LE.p (v := (Value.bool (r48 != (0 : Int)))) (Wn.yes 4 89 false rfl rfl rfl (congrArg Value.bool hb129)) rfl (R.pickT (congrArg Value.bool hb130) rfl) ?_
                  refine LE.p (v := (Value.bool (r48 != (0 : Int)))) (Wn.no rfl) rfl (R.pickF (congrArg Value.bool hb129) rfl) ?_
                  refine LE.nil ?_
                  exact ⟨_, h, f67, f68, f69, f70, f71, f72, f73, rfl⟩
              · refine LE.u (Un.no 7 92 true rfl rfl rfl (congrArg Value.bool hb130)) ?_
                refine LE.u (Un.no 7 92 true rfl rfl rfl (congrArg Value.bool hb130)) ?_
                refine LE.u (Un.no 7 92 true rfl rfl rfl (congrArg Value.bool hb130)) ?_
                refine LE.u (Un.no 7 92 true rfl rfl rfl (congrArg Value.bool hb130)) ?_
                refine LE.u (Un.un 11 96 false rfl rfl rfl rfl) ?_
                refine LE.u (Un.un 11 96 false rfl rfl rfl rfl) ?_
                refine LE.u (Un.no 7 92 true rfl rfl rfl (congrArg Value.bool hb130)) ?_
                refine LE.p (v := (Value.bool false)) (Wn.yes 4 89 false rfl rfl rfl (congrArg Value.bool hb129)) rfl (R.pickF (congrArg Value.bool hb130) rfl) ?_
                refine LE.p (v := (Value.bool false)) (Wn.no rfl) rfl (R.pickF (congrArg Value.bool hb129) rfl) ?_
                refine LE.nil ?_
                exact ⟨_, h, f67, f68, f69, f70, f71, f72, f73, rfl⟩
          · rintro e136 w137 ⟨x128, h, f138, f139, f140, f141, f142, f143, f144, f145⟩
            subst hJ127
            refine WE.condT rfl (b := x128) f145 ?_ ?_
            · intro hb146
              replace h := M.ite_t h hb146
              refine WE.seq ?_
              refine WE.reg ?_
              refine LE.p (v := (Value.bool false)) (Wn.no rfl) rfl (R.assign rfl) ?_
              refine LE.nil ?_
              refine WE.ret ?_
              exact ⟨_, (Res.tmp rfl Res.nil), _, rfl, h⟩
            · intro hb146
              replace h := M.ite_f h hb146
              refine WE.skip ?_
              refine WE.seq ?_
              refine WE.reg ?_
              refine LE.p (v := (Value.pointer r1)) (Wn.no rfl) rfl (R.move f139) ?_
              refine LE.p (v := (Value.int .u32 (bOr .u32 (167772160 : Int) (Int.tmod p1 (33554432 : Int))))) (Wn.no rfl) rfl (R.move f138) ?_
              refine LE.p (v := (Value.agg #[(Value.int .u32 (bOr .u32 (167772160 : Int) (Int.tmod p1 (33554432 : Int)))), (Value.int .i64 (32 : Int))])) (Wn.no rfl) rfl (R.bld (by exact (Ls.cons (R.Pr rfl) (Ls.cons (R.Pr rfl) Ls.nil))) (fun w => bu27_0_1 (bOr .u32 (167772160 : Int) (Int.tmod p1 (33554432 : Int))) (32 : Int) w)) ?_
              refine LE.c (Wn.no rfl) rfl (R.call bd22 (Ls.cons rfl (Ls.cons rfl Ls.nil)) rfl) (Calls.mono h ?_)
              rintro _ w148 ⟨r147, rfl, h⟩
              refine ⟨_, rfl, ?_⟩
              refine LE.p (v := (SV.v r147)) (Wn.no rfl) rfl (R.assign rfl) ?_
              refine LE.nil ?_
              refine WE.seq ?_
              refine WE.seq ?_
              refine WE.reg ?_
              refine LE.p (v := (Value.bool r49)) (Wn.no rfl) rfl (R.move f142) ?_
              refine LE.p (v := (Value.bool (!r49))) (Wn.no rfl) rfl (R.not rfl) ?_
              refine LE.nil ?_
              refine WE.condT rfl (b := (!r49)) rfl ?_ ?_
              · intro hb149
                replace h := M.ite_t h hb149
                refine WE.seq ?_
                obtain ⟨J150, hJ150, h⟩ := M.join_use h
                refine WE.regJ (fun e w => ∃ (x151 : Bool), J150 x151 w ∧ e 4 = (Value.bool x151)) ?_ ?_
                · clear hJ150
                  refine LE.p (v := (SV.v r147)) (Wn.no rfl) rfl (R.move rfl) ?_
                  refine LE.p (v := (Value.int .i64 (r147.len : Int))) (Wn.no rfl) rfl (R.len sl33 rfl) ?_
                  refine LE.p (v := (Value.bool ((r147.len : Int) == (0 : Int)))) (Wn.no rfl) rfl (R.eql rfl rfl) ?_
                  refine LE.p (v := (Value.bool ((r147.len : Int) == (0 : Int)))) (Wn.no rfl) rfl (R.move rfl) ?_
                  rcases M.ite_use h with ⟨hb152, h⟩ | ⟨hb152, h⟩
                  · refine LE.c (Wn.yes 3 111 true rfl rfl rfl (congrArg Value.bool hb152)) rfl (R.call bd19 Ls.nil rfl) (Calls.mono h ?_)
                    rintro _ w154 ⟨r153, rfl, h⟩
                    refine ⟨_, rfl, ?_⟩
                    refine LE.p (v := (Value.bool r153)) (Wn.no rfl) rfl (R.pickT (congrArg Value.bool hb152) rfl) ?_
                    refine LE.p (v := (Value.bool r153)) (Wn.no rfl) rfl (R.assign rfl) ?_
                    refine LE.nil ?_
                    exact ⟨_, h, rfl⟩
                  · refine LE.u (Un.no 3 111 true rfl rfl rfl (congrArg Value.bool hb152)) ?_
                    refine LE.p (v := (Value.bool false)) (Wn.no rfl) rfl (R.pickF (congrArg Value.bool hb152) rfl) ?_
                    refine LE.p (v := (Value.bool false)) (Wn.no rfl) rfl (R.assign rfl) ?_
                    refine LE.nil ?_
                    exact ⟨_, h, rfl⟩
                · rintro e155 w156 ⟨x151, h, f157⟩
                  subst hJ150
                  refine WE.ret ?_
                  exact ⟨_, (Res.tmp f157 Res.nil), _, rfl, h⟩
              · intro hb149
                replace h := M.ite_f h hb149
                refine WE.skip ?_
                refine WE.seq ?_
                refine WE.reg ?_
                refine LE.p (v := (Value.pointer r1)) (Wn.no rfl) rfl (R.move f139) ?_
                obtain ⟨t158, h159, h⟩ := h
                obtain ⟨t160, h161, h⟩ := h
                refine LE.r (v := (Value.agg #[(Value.int .u32 t158), (Value.int .i64 t160)])) (Wn.no rfl) rfl (R.ldA ag27 sz27 f140 rfl (Cs.cons h159 (Cs.cons h161 Cs.nil))) ?_
                refine LE.c (Wn.no rfl) rfl (R.call bd15 (Ls.cons rfl (Ls.cons rfl Ls.nil)) rfl) (Calls.mono h ?_)
                rintro _ w164 ⟨r162, r163, rfl, h⟩
                refine ⟨_, rfl, ?_⟩
                refine LE.p (v := (Value.tuple #[(Value.int .i64 r162), (Value.bool r163)])) (Wn.no rfl) rfl (R.move rfl) ?_
                refine LE.p (v := (Value.int .i64 r162)) (Wn.no rfl) rfl (R.ext rfl rfl) ?_
                refine LE.p (v := (Value.bool r163)) (Wn.no rfl) rfl (R.ext rfl rfl) ?_
                refine LE.p (v := (Value.int .i64 r162)) (Wn.no rfl) rfl (R.assign rfl) ?_
                refine LE.p (v := (Value.bool r163)) (Wn.no rfl) rfl (R.assign rfl) ?_
                refine LE.nil ?_
                refine WE.seq ?_
                obtain ⟨J165, hJ165, h⟩ := M.join_use h
                refine WE.drawJ (fun e w => ∃ (x166 : Bool), J165 x166 w ∧ e 4 = (Value.bool x166)) mix ?_ ?_
                · clear hJ165
                  obtain ⟨w167, hww167, h⟩ := M.drew_use h
                  rw [← hww167]
                  clear hww167
                  refine DE.t 1 (v := (SV.v r55)) rfl (by kernel_rfl) (Wn.no rfl) rfl (R.move f144) ?_
                  refine DE.t 2 (v := (Value.int .i64 x57)) rfl (by kernel_rfl) (Wn.no rfl) rfl (R.move f143) ?_
                  obtain ⟨a168, h169, h170, h171, h⟩ := h
                  refine DE.t 3 (v := (Value.pointer (some (a168.add (x57.toNat * 2))))) rfl (by kernel_rfl) (Wn.no rfl) rfl (R.idx (s := r55) sl33 rfl rfl h169 h170 h171) ?_
                  obtain ⟨t172, h173, h⟩ := h
                  obtain ⟨t174, h175, h⟩ := h
                  refine DE.hold 0 (fun w => w.cell? b52 = some (Value.int .u32 t172) ∧ w.cell? (b52.add 1) = some (Value.int .i64 t174)) (v := (Value.agg #[(Value.int .u32 t172), (Value.int .i64 t174)])) rfl (by kernel_rfl) (Wn.no rfl) rfl ⟨h173, h175⟩ (fun w hs => R.ldA ag27 sz27 f140 rfl (Cs.cons hs.1 (Cs.cons hs.2 Cs.nil))) ?_
                  obtain ⟨t176, h177, h⟩ := h
                  obtain ⟨t178, h179, h⟩ := h
                  refine DE.main 4 (by kernel_rfl) ?_
                  refine One.r 4 (v := (Value.agg #[(Value.int .u32 t176), (Value.int .i64 t178)])) rfl (Wn.no rfl) rfl (R.ldA ag27 sz27 rfl rfl (Cs.cons h177 (Cs.cons h179 Cs.nil))) (.inl rfl) ?_
                  refine DE.t 5 (v := (Value.bool ((t172 == t176) && (t174 == t178)))) rfl (by kernel_rfl) (Wn.no rfl) rfl (R.eqS (fun w => eq27 t172 t176 t174 t178 w) sg27 rfl rfl) ?_
                  refine DE.t 6 (v := (Value.bool ((t172 == t176) && (t174 == t178)))) rfl (by kernel_rfl) (Wn.no rfl) rfl (R.move rfl) ?_
                  rcases M.ite_use h with ⟨hb180, h⟩ | ⟨hb180, h⟩
                  · refine DE.t 7 (v := (Value.bool r163)) rfl (by kernel_rfl) (Wn.yes 6 126 true rfl rfl rfl (congrArg Value.bool hb180)) rfl (R.move rfl) ?_
                    refine DE.t 8 (v := (Value.bool r163)) rfl (by kernel_rfl) (Wn.no rfl) rfl (R.pickT (congrArg Value.bool hb180) rfl) ?_
                    refine DE.t 9 (v := (Value.bool r163)) rfl (by kernel_rfl) (Wn.no rfl) rfl (R.move rfl) ?_
                    rcases M.ite_use h with ⟨hb181, h⟩ | ⟨hb181, h⟩
                    · refine DE.t 10 (v := (Value.int .i64 r162)) rfl (by kernel_rfl) (Wn.yes 9 129 true rfl rfl rfl (congrArg Value.bool hb181)) rfl (R.move rfl) ?_
                      refine DE.t 11 (v := (Value.int .i64 r48)) rfl (by kernel_rfl) (Wn.yes 9 129 true rfl rfl rfl (congrArg Value.bool hb181)) rfl (R.move f141) ?_
                      refine DE.t 12 (v := (Value.bool (r162 == r48))) rfl (by kernel_rfl) (Wn.yes 9 129 true rfl rfl rfl (congrArg Value.bool hb181)) rfl (R.eql rfl rfl) ?_
                      refine DE.t 13 (v := (Value.bool (r162 == r48))) rfl (by kernel_rfl) (Wn.no rfl) rfl (R.pickT (congrArg Value.bool hb181) rfl) ?_
                      refine DE.t 14 (v := (Value.bool (r162 == r48))) rfl (by kernel_rfl) (Wn.no rfl) rfl (R.move rfl) ?_
                      rcases M.ite_use h with ⟨hb182, h⟩ | ⟨hb182, h⟩
                      · refine DE.t 15 (v := (SV.v r147)) rfl (by kernel_rfl) (Wn.yes 14 134 true rfl rfl rfl (congrArg Value.bool hb182)) rfl (R.move rfl) ?_
                        refine DE.t 16 (v := (Value.int .i64 (r147.len : Int))) rfl (by kernel_rfl) (Wn.yes 14 134 true rfl rfl rfl (congrArg Value.bool hb182)) rfl (R.len sl33 rfl) ?_
                        refine DE.t 17 (v := (Value.bool (decide ((0 : Int) < (r147.len : Int))))) rfl (by kernel_rfl) (Wn.yes 14 134 true rfl rfl rfl (congrArg Value.bool hb182)) rfl (R.gtr rfl rfl) ?_
                        refine DE.t 18 (v := (Value.bool (decide ((0 : Int) < (r147.len : Int))))) rfl (by kernel_rfl) (Wn.no rfl) rfl (R.pickT (congrArg Value.bool hb182) rfl) ?_
                        refine DE.t 19 (v := (Value.bool (decide ((0 : Int) < (r147.len : Int))))) rfl (by kernel_rfl) (Wn.no rfl) rfl (R.move rfl) ?_
                        rcases M.ite_use h with ⟨hb183, h⟩ | ⟨hb183, h⟩
                        · refine DE.t 20 (v := (SV.v r147)) rfl (by kernel_rfl) (Wn.yes 19 139 true rfl rfl rfl (congrArg Value.bool hb183)) rfl (R.move rfl) ?_
                          refine DE.t 21 (v := (SV.v r147)) rfl (by kernel_rfl) (Wn.yes 19 139 true rfl rfl rfl (congrArg Value.bool hb183)) rfl (R.move rfl) ?_
                          refine DE.t 22 (v := (Value.int .i64 (r147.len : Int))) rfl (by kernel_rfl) (Wn.yes 19 139 true rfl rfl rfl (congrArg Value.bool hb183)) rfl (R.len sl33 rfl) ?_
                          refine DE.t 23 (v := (Value.int .i64 (IntKind.i64.wrap ((r147.len : Int) - (1 : Int))))) rfl (by kernel_rfl) (Wn.yes 19 139 true rfl rfl rfl (congrArg Value.bool hb183)) rfl (R.sub rfl rfl) ?_
                          obtain ⟨a184, h185, h186, h187, h⟩ := h
                          refine DE.t 24 (v := (Value.pointer (some (a184.add ((IntKind.i64.wrap ((r147.len : Int) - (1 : Int))).toNat * 2))))) rfl (by kernel_rfl) (Wn.yes 19 139 true rfl rfl rfl (congrArg Value.bool hb183)) rfl (R.idx (s := r147) sl33 rfl rfl h185 h186 h187) ?_
                          obtain ⟨t188, h189, h⟩ := h
                          obtain ⟨t190, h191, h⟩ := h
                          refine DE.hold 25 (fun w => w.cell? (a184.add ((IntKind.i64.wrap ((r147.len : Int) - (1 : Int))).toNat * 2)) = some (Value.int .u32 t188) ∧ w.cell? ((a184.add ((IntKind.i64.wrap ((r147.len : Int) - (1 : Int))).toNat * 2)).add 1) = some (Value.int .i64 t190)) (v := (Value.agg #[(Value.int .u32 t188), (Value.int .i64 t190)])) rfl (by kernel_rfl) (Wn.yes 19 139 true rfl rfl rfl (congrArg Value.bool hb183)) rfl ⟨h189, h191⟩ (fun w hs => R.ldA ag27 sz27 rfl rfl (Cs.cons hs.1 (Cs.cons hs.2 Cs.nil))) ?_
                          obtain ⟨t192, h193, h⟩ := h
                          obtain ⟨t194, h195, h⟩ := h
                          refine DE.main 26 (by kernel_rfl) ?_
                          refine One.r 26 (v := (Value.agg #[(Value.int .u32 t192), (Value.int .i64 t194)])) rfl (Wn.yes 19 139 true rfl rfl rfl (congrArg Value.bool hb183)) rfl (R.ldA ag27 sz27 f140 rfl (Cs.cons h193 (Cs.cons h195 Cs.nil))) (.inl rfl) ?_
                          refine DE.t 27 (v := (Value.bool ((t188 == t192) && (t190 == t194)))) rfl (by kernel_rfl) (Wn.yes 19 139 true rfl rfl rfl (congrArg Value.bool hb183)) rfl (R.eqS (fun w => eq27 t188 t192 t190 t194 w) sg27 rfl rfl) ?_
                          refine DE.t 28 (v := (Value.bool ((t188 == t192) && (t190 == t194)))) rfl (by kernel_rfl) (Wn.no rfl) rfl (R.pickT (congrArg Value.bool hb183) rfl) ?_
                          refine DE.t 29 (v := (Value.bool ((t188 == t192) && (t190 == t194)))) rfl (by kernel_rfl) (Wn.no rfl) rfl (R.move rfl) ?_
                          rcases M.ite_use h with ⟨hb196, h⟩ | ⟨hb196, h⟩
                          · refine DE.main 30 (by kernel_rfl) ?_
                            refine One.c 30 rfl (Wn.yes 29 149 true rfl rfl rfl (congrArg Value.bool hb196)) rfl (R.call bd19 Ls.nil rfl) (Calls.mono h ?_)
                            rintro _ w198 ⟨r197, rfl, h⟩
                            refine ⟨_, rfl, ⟨aftT (by kernel_rfl), aftT (by kernel_rfl), trivial⟩, ?_⟩
                            refine DE.t 31 (v := (Value.bool r197)) rfl (by kernel_rfl) (Wn.no rfl) rfl (R.pickT (congrArg Value.bool hb196) rfl) ?_
                            refine DE.t 32 (v := (Value.bool r197)) rfl (by kernel_rfl) (Wn.no rfl) rfl (R.assign rfl) ?_
                            refine DE.done (by kernel_rfl) ?_
                            exact ⟨_, h, rfl⟩
                          · refine DE.u 30 rfl (by kernel_rfl) (Un.no 29 149 true rfl rfl rfl (congrArg Value.bool hb196)) ?_
                            refine DE.t 31 (v := (Value.bool false)) rfl (by kernel_rfl) (Wn.no rfl) rfl (R.pickF (congrArg Value.bool hb196) rfl) ?_
                            refine DE.t 32 (v := (Value.bool false)) rfl (by kernel_rfl) (Wn.no rfl) rfl (R.assign rfl) ?_
                            refine DE.done (by kernel_rfl) ?_
                            exact ⟨_, h, rfl⟩
                        · refine DE.u 20 rfl (by kernel_rfl) (Un.no 19 139 true rfl rfl rfl (congrArg Value.bool hb183)) ?_
                          refine DE.u 21 rfl (by kernel_rfl) (Un.no 19 139 true rfl rfl rfl (congrArg Value.bool hb183)) ?_
                          refine DE.u 22 rfl (by kernel_rfl) (Un.no 19 139 true rfl rfl rfl (congrArg Value.bool hb183)) ?_
                          refine DE.u 23 rfl (by kernel_rfl) (Un.no 19 139 true rfl rfl rfl (congrArg Value.bool hb183)) ?_
                          refine DE.u 24 rfl (by kernel_rfl) (Un.no 19 139 true rfl rfl rfl (congrArg Value.bool hb183)) ?_
                          refine DE.u 25 rfl (by kernel_rfl) (Un.no 19 139 true rfl rfl rfl (congrArg Value.bool hb183)) ?_
                          refine DE.u 26 rfl (by kernel_rfl) (Un.no 19 139 true rfl rfl rfl (congrArg Value.bool hb183)) ?_
                          refine DE.u 27 rfl (by kernel_rfl) (Un.no 19 139 true rfl rfl rfl (congrArg Value.bool hb183)) ?_
                          refine DE.t 28 (v := (Value.bool false)) rfl (by kernel_rfl) (Wn.no rfl) rfl (R.pickF (congrArg Value.bool hb183) rfl) ?_
                          refine DE.t 29 (v := (Value.bool false)) rfl (by kernel_rfl) (Wn.no rfl) rfl (R.move rfl) ?_
                          refine DE.u 30 rfl (by kernel_rfl) (Un.no 29 149 true rfl rfl rfl rfl) ?_
                          refine DE.t 31 (v := (Value.bool false)) rfl (by kernel_rfl) (Wn.no rfl) rfl (R.pickF rfl rfl) ?_
                          refine DE.t 32 (v := (Value.bool false)) rfl (by kernel_rfl) (Wn.no rfl) rfl (R.assign rfl) ?_
                          refine DE.done (by kernel_rfl) ?_
                          exact ⟨_, h, rfl⟩
                      · refine DE.u 15 rfl (by kernel_rfl) (Un.no 14 134 true rfl rfl rfl (congrArg Value.bool hb182)) ?_
                        refine DE.u 16 rfl (by kernel_rfl) (Un.no 14 134 true rfl rfl rfl (congrArg Value.bool hb182)) ?_
                        refine DE.u 17 rfl (by kernel_rfl) (Un.no 14 134 true rfl rfl rfl (congrArg Value.bool hb182)) ?_
                        refine DE.t 18 (v := (Value.bool false)) rfl (by kernel_rfl) (Wn.no rfl) rfl (R.pickF (congrArg Value.bool hb182) rfl) ?_
                        refine DE.t 19 (v := (Value.bool false)) rfl (by kernel_rfl) (Wn.no rfl) rfl (R.move rfl) ?_
                        refine DE.u 20 rfl (by kernel_rfl) (Un.no 19 139 true rfl rfl rfl rfl) ?_
                        refine DE.u 21 rfl (by kernel_rfl) (Un.no 19 139 true rfl rfl rfl rfl) ?_
                        refine DE.u 22 rfl (by kernel_rfl) (Un.no 19 139 true rfl rfl rfl rfl) ?_
                        refine DE.u 23 rfl (by kernel_rfl) (Un.no 19 139 true rfl rfl rfl rfl) ?_
                        refine DE.u 24 rfl (by kernel_rfl) (Un.no 19 139 true rfl rfl rfl rfl) ?_
                        refine DE.u 25 rfl (by kernel_rfl) (Un.no 19 139 true rfl rfl rfl rfl) ?_
                        refine DE.u 26 rfl (by kernel_rfl) (Un.no 19 139 true rfl rfl rfl rfl) ?_
                        refine DE.u 27 rfl (by kernel_rfl) (Un.no 19 139 true rfl rfl rfl rfl) ?_
                        refine DE.t 28 (v := (Value.bool false)) rfl (by kernel_rfl) (Wn.no rfl) rfl (R.pickF rfl rfl) ?_
                        refine DE.t 29 (v := (Value.bool false)) rfl (by kernel_rfl) (Wn.no rfl) rfl (R.move rfl) ?_
                        refine DE.u 30 rfl (by kernel_rfl) (Un.no 29 149 true rfl rfl rfl rfl) ?_
                        refine DE.t 31 (v := (Value.bool false)) rfl (by kernel_rfl) (Wn.no rfl) rfl (R.pickF rfl rfl) ?_
                        refine DE.t 32 (v := (Value.bool false)) rfl (by kernel_rfl) (Wn.no rfl) rfl (R.assign rfl) ?_
                        refine DE.done (by kernel_rfl) ?_
                        exact ⟨_, h, rfl⟩
                    · refine DE.u 10 rfl (by kernel_rfl) (Un.no 9 129 true rfl rfl rfl (congrArg Value.bool hb181)) ?_
                      refine DE.u 11 rfl (by kernel_rfl) (Un.no 9 129 true rfl rfl rfl (congrArg Value.bool hb181)) ?_
                      refine DE.u 12 rfl (by kernel_rfl) (Un.no 9 129 true rfl rfl rfl (congrArg Value.bool hb181)) ?_
                      refine DE.t 13 (v := (Value.bool false)) rfl (by kernel_rfl) (Wn.no rfl) rfl (R.pickF (congrArg Value.bool hb181) rfl) ?_
                      refine DE.t 14 (v := (Value.bool false)) rfl (by kernel_rfl) (Wn.no rfl) rfl (R.move rfl) ?_
                      refine DE.u 15 rfl (by kernel_rfl) (Un.no 14 134 true rfl rfl rfl rfl) ?_
                      refine DE.u 16 rfl (by kernel_rfl) (Un.no 14 134 true rfl rfl rfl rfl) ?_
                      refine DE.u 17 rfl (by kernel_rfl) (Un.no 14 134 true rfl rfl rfl rfl) ?_
                      refine DE.t 18 (v := (Value.bool false)) rfl (by kernel_rfl) (Wn.no rfl) rfl (R.pickF rfl rfl) ?_
                      refine DE.t 19 (v := (Value.bool false)) rfl (by kernel_rfl) (Wn.no rfl) rfl (R.move rfl) ?_
                      refine DE.u 20 rfl (by kernel_rfl) (Un.no 19 139 true rfl rfl rfl rfl) ?_
                      refine DE.u 21 rfl (by kernel_rfl) (Un.no 19 139 true rfl rfl rfl rfl) ?_
                      refine DE.u 22 rfl (by kernel_rfl) (Un.no 19 139 true rfl rfl rfl rfl) ?_
                      refine DE.u 23 rfl (by kernel_rfl) (Un.no 19 139 true rfl rfl rfl rfl) ?_
                      refine DE.u 24 rfl (by kernel_rfl) (Un.no 19 139 true rfl rfl rfl rfl) ?_
                      refine DE.u 25 rfl (by kernel_rfl) (Un.no 19 139 true rfl rfl rfl rfl) ?_
                      refine DE.u 26 rfl (by kernel_rfl) (Un.no 19 139 true rfl rfl rfl rfl) ?_
                      refine DE.u 27 rfl (by kernel_rfl) (Un.no 19 139 true rfl rfl rfl rfl) ?_
                      refine DE.t 28 (v := (Value.bool false)) rfl (by kernel_rfl) (Wn.no rfl) rfl (R.pickF rfl rfl) ?_
                      refine DE.t 29 (v := (Value.bool false)) rfl (by kernel_rfl) (Wn.no rfl) rfl (R.move rfl) ?_
                      refine DE.u 30 rfl (by kernel_rfl) (Un.no 29 149 true rfl rfl rfl rfl) ?_
                      refine DE.t 31 (v := (Value.bool false)) rfl (by kernel_rfl) (Wn.no rfl) rfl (R.pickF rfl rfl) ?_
                      refine DE.t 32 (v := (Value.bool false)) rfl (by kernel_rfl) (Wn.no rfl) rfl (R.assign rfl) ?_
                      refine DE.done (by kernel_rfl) ?_
                      exact ⟨_, h, rfl⟩
                  · refine DE.u 7 rfl (by kernel_rfl) (Un.no 6 126 true rfl rfl rfl (congrArg Value.bool hb180)) ?_
                    refine DE.t 8 (v := (Value.bool false)) rfl (by kernel_rfl) (Wn.no rfl) rfl (R.pickF (congrArg Value.bool hb180) rfl) ?_
                    refine DE.t 9 (v := (Value.bool false)) rfl (by kernel_rfl) (Wn.no rfl) rfl (R.move rfl) ?_
                    refine DE.u 10 rfl (by kernel_rfl) (Un.no 9 129 true rfl rfl rfl rfl) ?_
                    refine DE.u 11 rfl (by kernel_rfl) (Un.no 9 129 true rfl rfl rfl rfl) ?_
                    refine DE.u 12 rfl (by kernel_rfl) (Un.no 9 129 true rfl rfl rfl rfl) ?_
                    refine DE.t 13 (v := (Value.bool false)) rfl (by kernel_rfl) (Wn.no rfl) rfl (R.pickF rfl rfl) ?_
                    refine DE.t 14 (v := (Value.bool false)) rfl (by kernel_rfl) (Wn.no rfl) rfl (R.move rfl) ?_
                    refine DE.u 15 rfl (by kernel_rfl) (Un.no 14 134 true rfl rfl rfl rfl) ?_
                    refine DE.u 16 rfl (by kernel_rfl) (Un.no 14 134 true rfl rfl rfl rfl) ?_
                    refine DE.u 17 rfl (by kernel_rfl) (Un.no 14 134 true rfl rfl rfl rfl) ?_
                    refine DE.t 18 (v := (Value.bool false)) rfl (by kernel_rfl) (Wn.no rfl) rfl (R.pickF rfl rfl) ?_
                    refine DE.t 19 (v := (Value.bool false)) rfl (by kernel_rfl) (Wn.no rfl) rfl (R.move rfl) ?_
                    refine DE.u 20 rfl (by kernel_rfl) (Un.no 19 139 true rfl rfl rfl rfl) ?_
                    refine DE.u 21 rfl (by kernel_rfl) (Un.no 19 139 true rfl rfl rfl rfl) ?_
                    refine DE.u 22 rfl (by kernel_rfl) (Un.no 19 139 true rfl rfl rfl rfl) ?_
                    refine DE.u 23 rfl (by kernel_rfl) (Un.no 19 139 true rfl rfl rfl rfl) ?_
                    refine DE.u 24 rfl (by kernel_rfl) (Un.no 19 139 true rfl rfl rfl rfl) ?_
                    refine DE.u 25 rfl (by kernel_rfl) (Un.no 19 139 true rfl rfl rfl rfl) ?_
                    refine DE.u 26 rfl (by kernel_rfl) (Un.no 19 139 true rfl rfl rfl rfl) ?_
                    refine DE.u 27 rfl (by kernel_rfl) (Un.no 19 139 true rfl rfl rfl rfl) ?_
                    refine DE.t 28 (v := (Value.bool false)) rfl (by kernel_rfl) (Wn.no rfl) rfl (R.pickF rfl rfl) ?_
                    refine DE.t 29 (v := (Value.bool false)) rfl (by kernel_rfl) (Wn.no rfl) rfl (R.move rfl) ?_
                    refine DE.u 30 rfl (by kernel_rfl) (Un.no 29 149 true rfl rfl rfl rfl) ?_
                    refine DE.t 31 (v := (Value.bool false)) rfl (by kernel_rfl) (Wn.no rfl) rfl (R.pickF rfl rfl) ?_
                    refine DE.t 32 (v := (Value.bool false)) rfl (by kernel_rfl) (Wn.no rfl) rfl (R.assign rfl) ?_
                    refine DE.done (by kernel_rfl) ?_
                    exact ⟨_, h, rfl⟩
                · rintro e199 w200 ⟨x166, h, f201⟩
                  subst hJ165
                  refine WE.ret ?_
                  exact ⟨_, (Res.tmp f201 Res.nil), _, rfl, h⟩
/-- The formula of signpost.signpostlaw3.TrieParts. -/
def F5 (p0 : SV) (p1_0 : Int) (p1_1 : Int) (p1_2 : Int) (p1_3 : Int) (p1_4 : Bool) (K : Bool → World → Prop) (w0 : World) : Prop :=
M.new (.cells #[(Value.int .i64 p1_0), (Value.int .i64 p1_1), (Value.int .i64 p1_2), (Value.int .u32 p1_3), (Value.bool p1_4)] 30) w0 fun b2 w1 =>
Calls Try.prog 10 #[] w1 (R10 fun r3 w4 =>
M.ite (Option.isNone r3) (
K false w4) (
M.loop1 (fun (J7 : Int → World → Prop) (x6 : Int) (w8 : World) => 
M.join (fun (x20 : Bool) (w23 : World) => 
M.ite x20 (
M.drew w23 fun w30 => 
M.idx p0 x6 5 fun a31 =>
M.idx p0 x6 5 fun a35 =>
M.ld (Value.int .u32) ((a31.add (x6.toNat * 5)).add 3) w30 fun t39 =>
M.ld (Value.int .i64) ((a35.add (x6.toNat * 5)).add 1) w30 fun t41 =>
Calls Try.prog 11 #[(Value.int .u32 t39), (Value.int .i64 t41)] w30 (R11 fun r43 r44 w45 =>
Calls Try.prog 12 #[(Value.pointer r3), (Value.agg #[(Value.int .u32 r43), (Value.int .i64 r44)]), (Value.int .i64 x6)] w45 (R12 fun r46 w47 =>
J7 (IntKind.i64.wrap (x6 + (1 : Int))) w47))) (
M.ld (Value.int .u32) (b2.add 3) w23 fun t48 =>
M.ld (Value.int .i64) (b2.add 1) w23 fun t50 =>
Calls Try.prog 11 #[(Value.int .u32 t48), (Value.int .i64 t50)] w23 (R11 fun r52 r53 w54 =>
M.new (.cells #[(Value.int .u32 (0 : Int)), (Value.int .i64 (0 : Int))] 27) w54 fun b56 w55 =>
M.stA b56 [(Value.int .u32 r52), (Value.int .i64 r53)] w55 fun w57 =>
M.ld (Value.int .u32) b56 w57 fun t59 =>
M.ld (Value.int .i64) (b56.add 1) w57 fun t61 =>
Calls Try.prog 23 #[(Value.agg #[(Value.int .u32 t59), (Value.int .i64 t61)]), (Value.bool false)] w57 (R23 fun r63 r64 r65 w66 =>
M.new (.cells #[(Value.int .u32 (0 : Int)), (Value.int .i64 (0 : Int))] 27) w66 fun b68 w67 =>
M.stA b68 [(Value.int .u32 r63), (Value.int .i64 r64)] w67 fun w69 =>
M.ld (Value.int .u32) b56 w69 fun t71 =>
M.ld (Value.int .i64) (b56.add 1) w69 fun t73 =>
Calls Try.prog 23 #[(Value.agg #[(Value.int .u32 t71), (Value.int .i64 t73)]), (Value.bool true)] w69 (R23 fun r75 r76 r77 w78 =>
M.new (.cells #[(Value.int .u32 (0 : Int)), (Value.int .i64 (0 : Int))] 27) w78 fun b80 w79 =>
M.stA b80 [(Value.int .u32 r75), (Value.int .i64 r76)] w79 fun w81 =>
M.join (fun (x84 : SV) (w104 : World) => 
M.drew w104 fun w110 => 
M.ld (Value.int .u32) b68 w110 fun t111 =>
M.ld (Value.int .i64) (b68.add 1) w110 fun t113 =>
M.ld (Value.int .u32) b80 w110 fun t115 =>
M.ld (Value.int .i64) (b80.add 1) w110 fun t117 =>
Calls Try.prog 24 #[(Value.pointer r3), (Value.agg #[(Value.int .u32 t111), (Value.int .i64 t113)])] w110 (R24 fun r119 w120 =>
M.keep (w120.cell? b80 = some (Value.int .u32 t115)) <|
M.keep (w120.cell? (b80.add 1) = some (Value.int .i64 t117)) <|
M.app Try.prog 33 33 33 x84 (SV.v r119) w120 fun s123 w124 =>
M.keep (w124.cell? b80 = some (Value.int .u32 t115)) <|
M.keep (w124.cell? (b80.add 1) = some (Value.int .i64 t117)) <|
Calls Try.prog 24 #[(Value.pointer r3), (Value.agg #[(Value.int .u32 t115), (Value.int .i64 t117)])] w124 (R24 fun r128 w129 =>
M.app Try.prog 33 33 33 s123 (SV.v r128) w129 fun s130 w131 =>
M.ld (Value.int .u32) b56 w131 fun t133 =>
M.ld (Value.int .i64) (b56.add 1) w131 fun t135 =>
Calls Try.prog 24 #[(Value.pointer r3), (Value.agg #[(Value.int .u32 t133), (Value.int .i64 t135)])] w131 (R24 fun r137 w138 =>
Calls Try.prog 17 #[(SV.v r137), (SV.v s130)] w138 (R17 fun r139 w140 =>
M.ite (!r139) (
K false w140) (
M.ld (Value.int .u32) b56 w140 fun t142 =>
M.ld (Value.int .i64) (b56.add 1) w140 fun t144 =>
Calls Try.prog 15 #[(Value.pointer r3), (Value.agg #[(Value.int .u32 t142), (Value.int .i64 t144)])] w140 (R15 fun r146 r147 w148 =>
M.loop1 (fun (J150 : Int → World → Prop) (x149 : Int) (w151 : World) => 
M.ite (decide (x149 < (r137.len : Int))) (
M.idx r137 x149 2 fun a164 =>
M.ld (Value.int .u32) (a164.add (x149.toNat * 2)) w151 fun t168 =>
M.ld (Value.int .i64) ((a164.add (x149.toNat * 2)).add 1) w151 fun t170 =>
Calls Try.prog 22 #[(Value.pointer r3), (Value.agg #[(Value.int .u32 t168), (Value.int .i64 t170)])] w151 (R22 fun r172 w173 =>
M.loop2 (fun (J176 : Bool → Int → World → Prop) (x174 : Bool) (x175 : Int) (w177 : World) => 
M.ite (decide (x175 < (r172.len : Int))) (
M.join (fun (x194 : Bool) (w210 : World) => 
J176 x194 (IntKind.i64.wrap (x175 + (1 : Int))) w210) fun J193 => 
M.drew w177 fun w195 => 
M.ite x174 (
J193 true w195) (
M.idx r172 x175 2 fun a197 =>
M.ld (Value.int .u32) (a197.add (x175.toNat * 2)) w195 fun t201 =>
M.ld (Value.int .i64) ((a197.add (x175.toNat * 2)).add 1) w195 fun t203 =>
M.ld (Value.int .u32) b56 w195 fun t205 =>
M.ld (Value.int .i64) (b56.add 1) w195 fun t207 =>
J193 ((t201 == t205) && (t203 == t207)) w195)) (
M.ite (!(x174 == r147)) (
K false w177) (
J150 (IntKind.i64.wrap (x149 + (1 : Int))) w177))) false (0 : Int) w173)) (
M.join (fun (x221 : Bool) (w232 : World) => 
K x221 w232) fun J220 => 
Calls Try.prog 24 #[(Value.pointer r3), (Value.agg #[(Value.int .u32 (0 : Int)), (Value.int .i64 (0 : Int))])] w151 (R24 fun r222 w223 =>
Calls Try.prog 14 #[(Value.pointer r3)] w223 (R14 fun r224 w225 =>
Calls Try.prog 17 #[(SV.v r222), (SV.v r224)] w225 (R17 fun r226 w227 =>
M.ite r226 (
Calls Try.prog 19 #[] w227 (R19 fun r229 w230 =>
J220 r229 w230)) (
J220 false w227)))))) (0 : Int) w148))))))) fun J83 => 
M.ld (Value.int .u32) b56 w81 fun t85 =>
M.ld (Value.int .i64) (b56.add 1) w81 fun t87 =>
Calls Try.prog 15 #[(Value.pointer r3), (Value.agg #[(Value.int .u32 t85), (Value.int .i64 t87)])] w81 (R15 fun r89 r90 w91 =>
M.ite r90 (
M.ld (Value.int .u32) b56 w91 fun t93 =>
M.ld (Value.int .i64) (b56.add 1) w91 fun t95 =>
M.new (.cells #[(Value.int .u32 t93), (Value.int .i64 t95)] 27) w91 fun b99 w97 =>
M.app Try.prog 33 33 33 SV.nil (SV.v (SV.mk (some b99) 1 1)) w97 fun s100 w101 =>
J83 s100 w101) (
J83 SV.nil w91))))))) fun J19 => 
M.ite (decide (x6 < (p0.len : Int))) (
J19 (decide (x6 < (60 : Int))) w8) (
J19 false w8)) (0 : Int) w4))
theorem F5_ok {w0 : World} {p0 : SV} {p1_0 : Int} {p1_1 : Int} {p1_2 : Int} {p1_3 : Int} {p1_4 : Bool} {K : Bool → World → Prop} (h : F5 p0 p1_0 p1_1 p1_2 p1_3 p1_4 K w0) : Calls Try.prog 5 #[(SV.v p0), (Value.agg #[(Value.int .i64 p1_0), (Value.int .i64 p1_1), (Value.int .i64 p1_2), (Value.int .u32 p1_3), (Value.bool p1_4)])] w0 (R5 K) := by
  refine calls_of_WE (args := [(SV.v p0), (Value.agg #[(Value.int .i64 p1_0), (Value.int .i64 p1_1), (Value.int .i64 p1_2), (Value.int .u32 p1_3), (Value.bool p1_4)])]) (rs := [.tmp 4]) Try.func5 rfl (N := 136) rfl rfl rfl rfl ?_
  refine WE.seq ?_
  refine WE.reg ?_
  obtain ⟨b2, hpb2, w1, hww1, h⟩ := M.new_use h
  refine LE.r (v := (Value.pointer (some b2))) (Wn.no rfl) rfl (R.box (cs := #[(Value.int .i64 p1_0), (Value.int .i64 p1_1), (Value.int .i64 p1_2), (Value.int .u32 p1_3), (Value.bool p1_4)]) rfl rfl hpb2 hww1) ?_
  refine LE.p (v := (Value.bool false)) (Wn.no rfl) rfl (R.assign rfl) ?_
  refine LE.nil ?_
  refine WE.seq ?_
  refine WE.reg ?_
  refine LE.c (Wn.no rfl) rfl (R.call bd10 Ls.nil rfl) (Calls.mono h ?_)
  rintro _ w4 ⟨r3, rfl, h⟩
  refine ⟨_, rfl, ?_⟩
  refine LE.p (v := (Value.pointer r3)) (Wn.no rfl) rfl (R.assign rfl) ?_
  refine LE.nil ?_
  refine WE.seq ?_
  refine WE.seq ?_
  refine WE.reg ?_
  refine LE.p (v := (Value.pointer r3)) (Wn.no rfl) rfl (R.move rfl) ?_
  refine LE.p (v := (Value.bool (Option.isNone r3))) (Wn.no rfl) rfl (R.peqNil pt23 rfl rfl) ?_
  refine LE.nil ?_
  refine WE.condT rfl (b := (Option.isNone r3)) rfl ?_ ?_
  · intro hb5
    replace h := M.ite_t h hb5
    refine WE.seq ?_
    refine WE.reg ?_
    refine LE.p (v := (Value.bool false)) (Wn.no rfl) rfl (R.assign rfl) ?_
    refine LE.nil ?_
    refine WE.ret ?_
    exact ⟨_, (Res.tmp rfl Res.nil), _, rfl, h⟩
  · intro hb5
    replace h := M.ite_f h hb5
    refine WE.skip ?_
    refine WE.seq ?_
    refine WE.seq ?_
    refine WE.reg ?_
    refine LE.p (v := (Value.int .i64 (0 : Int))) (Wn.no rfl) rfl (R.assign rfl) ?_
    refine LE.nil ?_
    refine WE.block ?_
    obtain ⟨I11, ⟨n10, h⟩, hr12⟩ := h
    refine WE.loop (fun n e w => ∃ (x6 : Int), I11 n x6 w ∧ e 0 = (SV.v p0) ∧ e 3 = (Value.pointer (some b2)) ∧ e 5 = (Value.pointer r3) ∧ e 6 = (Value.int .i64 x6)) n10 ⟨_, h, rfl, rfl, rfl, rfl⟩ ?_
    clear h
    rintro n10 e9 w8 ⟨x6, h, f15, f16, f17, f18⟩
    replace h := hr12 n10 x6 w8 h
    refine WE.seq ?_
    refine WE.seq ?_
    obtain ⟨J19, hJ19, h⟩ := M.join_use h
    refine WE.regJ (fun e w => ∃ (x20 : Bool), J19 x20 w ∧ e 0 = (SV.v p0) ∧ e 3 = (Value.pointer (some b2)) ∧ e 5 = (Value.pointer r3) ∧ e 6 = (Value.int .i64 x6) ∧ e 32 = (Value.bool x20)) ?_ ?_
    · clear hJ19
      refine LE.p (v := (Value.int .i64 x6)) (Wn.no rfl) rfl (R.move f18) ?_
      refine LE.p (v := (SV.v p0)) (Wn.no rfl) rfl (R.move f15) ?_
      refine LE.p (v := (Value.int .i64 (p0.len : Int))) (Wn.no rfl) rfl (R.len sl22 rfl) ?_
      refine LE.p (v := (Value.bool (decide (x6 < (p0.len : Int))))) (Wn.no rfl) rfl (R.lss rfl rfl) ?_
      refine LE.p (v := (Value.bool (decide (x6 < (p0.len : Int))))) (Wn.no rfl) rfl (R.move rfl) ?_
      rcases M.ite_use h with ⟨hb21, h⟩ | ⟨hb21, h⟩
      · refine LE.p (v := (Value.int .i64 x6)) (Wn.yes 4 29 true rfl rfl rfl (congrArg Value.bool hb21)) rfl (R.move f18) ?_
        refine LE.p (v := (Value.bool (decide (x6 < (60 : Int))))) (Wn.yes 4 29 true rfl rfl rfl (congrArg Value.bool hb21)) rfl (R.lss rfl rfl) ?_
        refine LE.p (v := (Value.bool (decide (x6 < (60 : Int))))) (Wn.no rfl) rfl (R.pickT (congrArg Value.bool hb21) rfl) ?_
        refine LE.nil ?_
        exact ⟨_, h, f15, f16, f17, f18, rfl⟩
      · refine LE.u (Un.no 4 29 true rfl rfl rfl (congrArg Value.bool hb21)) ?_
        refine LE.u (Un.no 4 29 true rfl rfl rfl (congrArg Value.bool hb21)) ?_
        refine LE.p (v := (Value.bool false)) (Wn.no rfl) rfl (R.pickF (congrArg Value.bool hb21) rfl) ?_
        refine LE.nil ?_
        exact ⟨_, h, f15, f16, f17, f18, rfl⟩
    · rintro e22 w23 ⟨x20, h, f24, f25, f26, f27, f28⟩
      subst hJ19
      refine WE.condT rfl (b := x20) f28 ?_ ?_
      · intro hb29
        replace h := M.ite_t h hb29
        refine WE.skip ?_
        refine WE.seq ?_
        refine WE.block ?_
        refine WE.draw mix ?_
        obtain ⟨w30, hww30, h⟩ := M.drew_use h
        rw [← hww30]
        clear hww30
        refine DE.t 0 (v := (Value.pointer r3)) rfl (by kernel_rfl) (Wn.no rfl) rfl (R.move f26) ?_
        refine DE.t 1 (v := (SV.v p0)) rfl (by kernel_rfl) (Wn.no rfl) rfl (R.move f24) ?_
        refine DE.t 2 (v := (Value.int .i64 x6)) rfl (by kernel_rfl) (Wn.no rfl) rfl (R.move f27) ?_
        obtain ⟨a31, h32, h33, h34, h⟩ := h
        refine DE.t 3 (v := (Value.pointer (some (a31.add (x6.toNat * 5))))) rfl (by kernel_rfl) (Wn.no rfl) rfl (R.idx (s := p0) sl22 rfl rfl h32 h33 h34) ?_
        refine DE.t 4 (v := (Value.pointer (some ((a31.add (x6.toNat * 5)).add 3)))) rfl (by kernel_rfl) (Wn.no rfl) rfl (R.fld (off := 3) fa30_3 rfl) ?_
        refine DE.t 6 (v := (SV.v p0)) rfl (by kernel_rfl) (Wn.no rfl) rfl (R.move f24) ?_
        refine DE.t 7 (v := (Value.int .i64 x6)) rfl (by kernel_rfl) (Wn.no rfl) rfl (R.move f27) ?_
        obtain ⟨a35, h36, h37, h38, h⟩ := h
        refine DE.t 8 (v := (Value.pointer (some (a35.add (x6.toNat * 5))))) rfl (by kernel_rfl) (Wn.no rfl) rfl (R.idx (s := p0) sl22 rfl rfl h36 h37 h38) ?_
        refine DE.t 9 (v := (Value.pointer (some ((a35.add (x6.toNat * 5)).add 1)))) rfl (by kernel_rfl) (Wn.no rfl) rfl (R.fld (off := 1) fa30_1 rfl) ?_
        refine DE.t 12 (v := (Value.int .i64 x6)) rfl (by kernel_rfl) (Wn.no rfl) rfl (R.move f27) ?_
        obtain ⟨t39, h40, h⟩ := h
        refine DE.hold 5 (fun w => w.cell? ((a31.add (x6.toNat * 5)).add 3) = some (Value.int .u32 t39)) (v := (Value.int .u32 t39)) rfl (by kernel_rfl) (Wn.no rfl) rfl h40 (fun w hs => R.ld sc25 rfl hs) ?_
        obtain ⟨t41, h42, h⟩ := h
        refine DE.main 10 (by kernel_rfl) ?_
        refine One.r 10 (v := (Value.int .i64 t41)) rfl (Wn.no rfl) rfl (R.ld sc3 rfl h42) (.inl rfl) ?_
        refine DE.main 11 (by kernel_rfl) ?_
        refine One.c 11 rfl (Wn.no rfl) rfl (R.call bd11 (Ls.cons rfl (Ls.cons rfl Ls.nil)) rfl) (Calls.mono h ?_)
        rintro _ w45 ⟨r43, r44, rfl, h⟩
        refine ⟨_, rfl, ⟨aftT (by kernel_rfl), trivial⟩, ?_⟩
        refine DE.main 13 (by kernel_rfl) ?_
        refine One.c 13 rfl (Wn.no rfl) rfl (R.call bd12 (Ls.cons rfl (Ls.cons rfl (Ls.cons rfl Ls.nil))) rfl) (Calls.mono h ?_)
        rintro _ w47 ⟨r46, rfl, h⟩
        refine ⟨_, rfl, ⟨aftT (by kernel_rfl), trivial⟩, ?_⟩
        refine DE.done (by kernel_rfl) ?_
        refine WE.reg ?_
        refine LE.p (v := (Value.int .i64 x6)) (Wn.no rfl) rfl (R.move f27) ?_
        refine LE.p (v := (Value.int .i64 (IntKind.i64.wrap (x6 + (1 : Int))))) (Wn.no rfl) rfl (R.add rfl rfl) ?_
        refine LE.p (v := (Value.int .i64 (IntKind.i64.wrap (x6 + (1 : Int))))) (Wn.no rfl) rfl (R.assign rfl) ?_
        refine LE.nil ?_
        obtain ⟨m13, hm14, h⟩ := h
        exact ⟨m13, hm14, _, h, f24, f25, f26, rfl⟩
      · intro hb29
        replace h := M.ite_f h hb29
        refine WE.exit ?_
        refine WE.seq ?_
        refine WE.reg ?_
        refine LE.p (v := (Value.pointer (some (b2.add 3)))) (Wn.no rfl) rfl (R.fld (off := 3) fa30_3 f25) ?_
        obtain ⟨t48, h49, h⟩ := h
        refine LE.r (v := (Value.int .u32 t48)) (Wn.no rfl) rfl (R.ld sc25 rfl h49) ?_
        refine LE.p (v := (Value.pointer (some (b2.add 1)))) (Wn.no rfl) rfl (R.fld (off := 1) fa30_1 f25) ?_
        obtain ⟨t50, h51, h⟩ := h
        refine LE.r (v := (Value.int .i64 t50)) (Wn.no rfl) rfl (R.ld sc3 rfl h51) ?_
        refine LE.c (Wn.no rfl) rfl (R.call bd11 (Ls.cons rfl (Ls.cons rfl Ls.nil)) rfl) (Calls.mono h ?_)
        rintro _ w54 ⟨r52, r53, rfl, h⟩
        refine ⟨_, rfl, ?_⟩
        obtain ⟨b56, hpb56, w55, hww55, h⟩ := M.new_use h
        refine LE.r (v := (Value.pointer (some b56))) (Wn.no rfl) rfl (R.alloc (cs := #[(Value.int .u32 (0 : Int)), (Value.int .i64 (0 : Int))]) ze27 rfl hpb56 hww55) ?_
        obtain ⟨w57, hww57, h58, h⟩ := M.stA_use h
        refine LE.s (Wn.no rfl) rfl (R.stA (a := b56) [(Value.int .u32 r52), (Value.int .i64 r53)] sz27 rfl rfl rfl (by simp [Value.oneCell']) h58 hww57) ?_
        refine LE.nil ?_
        refine WE.seq ?_
        refine WE.reg ?_
        obtain ⟨t59, h60, h⟩ := h
        obtain ⟨t61, h62, h⟩ := h
        refine LE.r (v := (Value.agg #[(Value.int .u32 t59), (Value.int .i64 t61)])) (Wn.no rfl) rfl (R.ldA ag27 sz27 rfl rfl (Cs.cons h60 (Cs.cons h62 Cs.nil))) ?_
        refine LE.c (Wn.no rfl) rfl (R.call bd23 (Ls.cons rfl (Ls.cons rfl Ls.nil)) rfl) (Calls.mono h ?_)
        rintro _ w66 ⟨r63, r64, r65, rfl, h⟩
        refine ⟨_, rfl, ?_⟩
        refine LE.p (v := (Value.tuple #[(Value.agg #[(Value.int .u32 r63), (Value.int .i64 r64)]), (Value.bool r65)])) (Wn.no rfl) rfl (R.move rfl) ?_
        refine LE.p (v := (Value.agg #[(Value.int .u32 r63), (Value.int .i64 r64)])) (Wn.no rfl) rfl (R.ext rfl rfl) ?_
        refine LE.p (v := (Value.bool r65)) (Wn.no rfl) rfl (R.ext rfl rfl) ?_
        obtain ⟨b68, hpb68, w67, hww67, h⟩ := M.new_use h
        refine LE.r (v := (Value.pointer (some b68))) (Wn.no rfl) rfl (R.alloc (cs := #[(Value.int .u32 (0 : Int)), (Value.int .i64 (0 : Int))]) ze27 rfl hpb68 hww67) ?_
        obtain ⟨w69, hww69, h70, h⟩ := M.stA_use h
        refine LE.s (Wn.no rfl) rfl (R.stA (a := b68) [(Value.int .u32 r63), (Value.int .i64 r64)] sz27 rfl rfl rfl (by simp [Value.oneCell']) h70 hww69) ?_
        refine LE.p (v := (Value.bool r65)) (Wn.no rfl) rfl (R.assign rfl) ?_
        refine LE.nil ?_
        refine WE.seq ?_
        refine WE.reg ?_
        obtain ⟨t71, h72, h⟩ := h
        obtain ⟨t73, h74, h⟩ := h
        refine LE.r (v := (Value.agg #[(Value.int .u32 t71), (Value.int .i64 t73)])) (Wn.no rfl) rfl (R.ldA ag27 sz27 rfl rfl (Cs.cons h72 (Cs.cons h74 Cs.nil))) ?_
        refine LE.c (Wn.no rfl) rfl (R.call bd23 (Ls.cons rfl (Ls.cons rfl Ls.nil)) rfl) (Calls.mono h ?_)
        rintro _ w78 ⟨r75, r76, r77, rfl, h⟩
        refine ⟨_, rfl, ?_⟩
        refine LE.p (v := (Value.tuple #[(Value.agg #[(Value.int .u32 r75), (Value.int .i64 r76)]), (Value.bool r77)])) (Wn.no rfl) rfl (R.move rfl) ?_
        refine LE.p (v := (Value.agg #[(Value.int .u32 r75), (Value.int .i64 r76)])) (Wn.no rfl) rfl (R.ext rfl rfl) ?_
        refine LE.p (v := (Value.bool r77)) (Wn.no rfl) rfl (R.ext rfl rfl) ?_
        obtain ⟨b80, hpb80, w79, hww79, h⟩ := M.new_use h
        refine LE.r (v := (Value.pointer (some b80))) (Wn.no rfl) rfl (R.alloc (cs := #[(Value.int .u32 (0 : Int)), (Value.int .i64 (0 : Int))]) ze27 rfl hpb80 hww79) ?_
        obtain ⟨w81, hww81, h82, h⟩ := M.stA_use h
        refine LE.s (Wn.no rfl) rfl (R.stA (a := b80) [(Value.int .u32 r75), (Value.int .i64 r76)] sz27 rfl rfl rfl (by simp [Value.oneCell']) h82 hww81) ?_
        refine LE.p (v := (Value.bool r77)) (Wn.no rfl) rfl (R.assign rfl) ?_
        refine LE.nil ?_
        refine WE.seq ?_
        refine WE.reg ?_
        refine LE.p (v := (SV.v SV.nil)) (Wn.no rfl) rfl (R.assign rfl) ?_
        refine LE.nil ?_
        obtain ⟨J83, hJ83, h⟩ := M.join_use h
        refine WE.join (fun e w => ∃ (x84 : SV), J83 x84 w ∧ e 5 = (Value.pointer r3) ∧ e 7 = (Value.pointer (some b56)) ∧ e 8 = (Value.pointer (some b68)) ∧ e 10 = (Value.pointer (some b80)) ∧ e 12 = (SV.v x84)) ?_ ?_
        · clear hJ83
          refine WE.seq ?_
          refine WE.reg ?_
          refine LE.p (v := (Value.pointer r3)) (Wn.no rfl) rfl (R.move f26) ?_
          obtain ⟨t85, h86, h⟩ := h
          obtain ⟨t87, h88, h⟩ := h
          refine LE.r (v := (Value.agg #[(Value.int .u32 t85), (Value.int .i64 t87)])) (Wn.no rfl) rfl (R.ldA ag27 sz27 rfl rfl (Cs.cons h86 (Cs.cons h88 Cs.nil))) ?_
          refine LE.c (Wn.no rfl) rfl (R.call bd15 (Ls.cons rfl (Ls.cons rfl Ls.nil)) rfl) (Calls.mono h ?_)
          rintro _ w91 ⟨r89, r90, rfl, h⟩
          refine ⟨_, rfl, ?_⟩
          refine LE.p (v := (Value.tuple #[(Value.int .i64 r89), (Value.bool r90)])) (Wn.no rfl) rfl (R.move rfl) ?_
          refine LE.p (v := (Value.int .i64 r89)) (Wn.no rfl) rfl (R.ext rfl rfl) ?_
          refine LE.p (v := (Value.bool r90)) (Wn.no rfl) rfl (R.ext rfl rfl) ?_
          refine LE.p (v := (Value.int .i64 r89)) (Wn.no rfl) rfl (R.assign rfl) ?_
          refine LE.p (v := (Value.bool r90)) (Wn.no rfl) rfl (R.assign rfl) ?_
          refine LE.nil ?_
          refine WE.seq ?_
          refine WE.reg ?_
          refine LE.p (v := (Value.bool r90)) (Wn.no rfl) rfl (R.move rfl) ?_
          refine LE.nil ?_
          refine WE.condT rfl (b := r90) rfl ?_ ?_
          · intro hb92
            replace h := M.ite_t h hb92
            refine WE.reg ?_
            refine LE.p (v := (SV.v SV.nil)) (Wn.no rfl) rfl (R.move rfl) ?_
            obtain ⟨t93, h94, h⟩ := h
            obtain ⟨t95, h96, h⟩ := h
            refine LE.r (v := (Value.agg #[(Value.int .u32 t93), (Value.int .i64 t95)])) (Wn.no rfl) rfl (R.ldA ag27 sz27 rfl rfl (Cs.cons h94 (Cs.cons h96 Cs.nil))) ?_
            obtain ⟨b99, hpb99, w97, hww97, h⟩ := M.new_use h
            refine LE.r (v := (SV.v (SV.mk (some b99) 1 1))) (Wn.no rfl) rfl (R.bsl (by exact (Ls.cons (R.Pr rfl) Ls.nil)) (fun w => bs33_1 t93 t95 w) hpb99 hww97) ?_
            obtain ⟨s100, w101, h102, h⟩ := h
            refine LE.r (v := (SV.v s100)) (Wn.no rfl) rfl (R.app (s := SV.nil) (r := s100) rfl rfl h102) ?_
            refine LE.p (v := (SV.v s100)) (Wn.no rfl) rfl (R.assign rfl) ?_
            refine LE.nil ?_
            exact ⟨_, h, f26, rfl, rfl, rfl, rfl⟩
          · intro hb92
            replace h := M.ite_f h hb92
            refine WE.skip ?_
            exact ⟨_, h, f26, rfl, rfl, rfl, rfl⟩
        · rintro e103 w104 ⟨x84, h, f105, f106, f107, f108, f109⟩
          subst hJ83
          refine WE.seq ?_
          refine WE.draw mix ?_
          obtain ⟨w110, hww110, h⟩ := M.drew_use h
          rw [← hww110]
          clear hww110
          refine DE.t 0 (v := (SV.v x84)) rfl (by kernel_rfl) (Wn.no rfl) rfl (R.move f109) ?_
          refine DE.t 1 (v := (Value.pointer r3)) rfl (by kernel_rfl) (Wn.no rfl) rfl (R.move f105) ?_
          refine DE.t 5 (v := (Value.pointer r3)) rfl (by kernel_rfl) (Wn.no rfl) rfl (R.move f105) ?_
          obtain ⟨t111, h112, h⟩ := h
          obtain ⟨t113, h114, h⟩ := h
          refine DE.hold 2 (fun w => w.cell? b68 = some (Value.int .u32 t111) ∧ w.cell? (b68.add 1) = some (Value.int .i64 t113)) (v := (Value.agg #[(Value.int .u32 t111), (Value.int .i64 t113)])) rfl (by kernel_rfl) (Wn.no rfl) rfl ⟨h112, h114⟩ (fun w hs => R.ldA ag27 sz27 f107 rfl (Cs.cons hs.1 (Cs.cons hs.2 Cs.nil))) ?_
          obtain ⟨t115, h116, h⟩ := h
          obtain ⟨t117, h118, h⟩ := h
          refine DE.hold 6 (fun w => w.cell? b80 = some (Value.int .u32 t115) ∧ w.cell? (b80.add 1) = some (Value.int .i64 t117)) (v := (Value.agg #[(Value.int .u32 t115), (Value.int .i64 t117)])) rfl (by kernel_rfl) (Wn.no rfl) rfl ⟨h116, h118⟩ (fun w hs => R.ldA ag27 sz27 f108 rfl (Cs.cons hs.1 (Cs.cons hs.2 Cs.nil))) ?_
          refine DE.main 3 (by kernel_rfl) ?_
          refine One.c 3 rfl (Wn.no rfl) rfl (R.call bd24 (Ls.cons rfl (Ls.cons rfl Ls.nil)) rfl) (Calls.mono h ?_)
          rintro _ w120 ⟨r119, rfl, h⟩
          obtain ⟨k121, h⟩ := h
          obtain ⟨k122, h⟩ := h
          refine ⟨_, rfl, ⟨fun _ => ⟨k121, k122⟩, aftT (by kernel_rfl), trivial⟩, ?_⟩
          obtain ⟨s123, w124, h125, h⟩ := h
          obtain ⟨k126, h⟩ := h
          obtain ⟨k127, h⟩ := h
          refine DE.main 4 (by kernel_rfl) ?_
          refine One.r 4 (v := (SV.v s123)) rfl (Wn.no rfl) rfl (R.app (s := x84) (r := s123) rfl rfl h125) (.inr ⟨fun _ => ⟨k126, k127⟩, aftT (by kernel_rfl), trivial⟩) ?_
          refine DE.main 7 (by kernel_rfl) ?_
          refine One.c 7 rfl (Wn.no rfl) rfl (R.call bd24 (Ls.cons rfl (Ls.cons rfl Ls.nil)) rfl) (Calls.mono h ?_)
          rintro _ w129 ⟨r128, rfl, h⟩
          refine ⟨_, rfl, ⟨aftT (by kernel_rfl), aftT (by kernel_rfl), trivial⟩, ?_⟩
          obtain ⟨s130, w131, h132, h⟩ := h
          refine DE.main 8 (by kernel_rfl) ?_
          refine One.r 8 (v := (SV.v s130)) rfl (Wn.no rfl) rfl (R.app (s := s123) (r := s130) rfl rfl h132) (.inr ⟨aftT (by kernel_rfl), aftT (by kernel_rfl), trivial⟩) ?_
          refine DE.t 9 (v := (SV.v s130)) rfl (by kernel_rfl) (Wn.no rfl) rfl (R.assign rfl) ?_
          refine DE.done (by kernel_rfl) ?_
          refine WE.seq ?_
          refine WE.reg ?_
          refine LE.p (v := (Value.pointer r3)) (Wn.no rfl) rfl (R.move f105) ?_
          obtain ⟨t133, h134, h⟩ := h
          obtain ⟨t135, h136, h⟩ := h
          refine LE.r (v := (Value.agg #[(Value.int .u32 t133), (Value.int .i64 t135)])) (Wn.no rfl) rfl (R.ldA ag27 sz27 f106 rfl (Cs.cons h134 (Cs.cons h136 Cs.nil))) ?_
          refine LE.c (Wn.no rfl) rfl (R.call bd24 (Ls.cons rfl (Ls.cons rfl Ls.nil)) rfl) (Calls.mono h ?_)
          rintro _ w138 ⟨r137, rfl, h⟩
          refine ⟨_, rfl, ?_⟩
          refine LE.p (v := (SV.v r137)) (Wn.no rfl) rfl (R.assign rfl) ?_
          refine LE.nil ?_
          refine WE.seq ?_
          refine WE.seq ?_
          refine WE.reg ?_
          refine LE.p (v := (SV.v r137)) (Wn.no rfl) rfl (R.move rfl) ?_
          refine LE.p (v := (SV.v s130)) (Wn.no rfl) rfl (R.move rfl) ?_
          refine LE.c (Wn.no rfl) rfl (R.call bd17 (Ls.cons rfl (Ls.cons rfl Ls.nil)) rfl) (Calls.mono h ?_)
          rintro _ w140 ⟨r139, rfl, h⟩
          refine ⟨_, rfl, ?_⟩
          refine LE.p (v := (Value.bool (!r139))) (Wn.no rfl) rfl (R.not rfl) ?_
          refine LE.nil ?_
          refine WE.condT rfl (b := (!r139)) rfl ?_ ?_
          · intro hb141
            replace h := M.ite_t h hb141
            refine WE.seq ?_
            refine WE.reg ?_
            refine LE.p (v := (Value.bool false)) (Wn.no rfl) rfl (R.assign rfl) ?_
            refine LE.nil ?_
            refine WE.ret ?_
            exact ⟨_, (Res.tmp rfl Res.nil), _, rfl, h⟩
          · intro hb141
            replace h := M.ite_f h hb141
            refine WE.skip ?_
            refine WE.seq ?_
            refine WE.reg ?_
            refine LE.p (v := (Value.pointer r3)) (Wn.no rfl) rfl (R.move f105) ?_
            obtain ⟨t142, h143, h⟩ := h
            obtain ⟨t144, h145, h⟩ := h
            refine LE.r (v := (Value.agg #[(Value.int .u32 t142), (Value.int .i64 t144)])) (Wn.no rfl) rfl (R.ldA ag27 sz27 f106 rfl (Cs.cons h143 (Cs.cons h145 Cs.nil))) ?_
            refine LE.c (Wn.no rfl) rfl (R.call bd15 (Ls.cons rfl (Ls.cons rfl Ls.nil)) rfl) (Calls.mono h ?_)
            rintro _ w148 ⟨r146, r147, rfl, h⟩
            refine ⟨_, rfl, ?_⟩
            refine LE.p (v := (Value.tuple #[(Value.int .i64 r146), (Value.bool r147)])) (Wn.no rfl) rfl (R.move rfl) ?_
            refine LE.p (v := (Value.int .i64 r146)) (Wn.no rfl) rfl (R.ext rfl rfl) ?_
            refine LE.p (v := (Value.bool r147)) (Wn.no rfl) rfl (R.ext rfl rfl) ?_
            refine LE.p (v := (Value.int .i64 r146)) (Wn.no rfl) rfl (R.assign rfl) ?_
            refine LE.p (v := (Value.bool r147)) (Wn.no rfl) rfl (R.assign rfl) ?_
            refine LE.nil ?_
            refine WE.seq ?_
            refine WE.seq ?_
            refine WE.reg ?_
            refine LE.p (v := (Value.int .i64 (0 : Int))) (Wn.no rfl) rfl (R.assign rfl) ?_
            refine LE.nil ?_
            refine WE.block ?_
            obtain ⟨I154, ⟨n153, h⟩, hr155⟩ := h
            refine WE.loop (fun n e w => ∃ (x149 : Int), I154 n x149 w ∧ e 5 = (Value.pointer r3) ∧ e 7 = (Value.pointer (some b56)) ∧ e 15 = (SV.v r137) ∧ e 17 = (Value.bool r147) ∧ e 18 = (Value.int .i64 x149)) n153 ⟨_, h, f105, f106, rfl, rfl, rfl⟩ ?_
            clear h
            rintro n153 e152 w151 ⟨x149, h, f158, f159, f160, f161, f162⟩
            replace h := hr155 n153 x149 w151 h
            refine WE.seq ?_
            refine WE.seq ?_
            refine WE.reg ?_
            refine LE.p (v := (Value.int .i64 x149)) (Wn.no rfl) rfl (R.move f162) ?_
            refine LE.p (v := (SV.v r137)) (Wn.no rfl) rfl (R.move f160) ?_
            refine LE.p (v := (Value.int .i64 (r137.len : Int))) (Wn.no rfl) rfl (R.len sl33 rfl) ?_
            refine LE.p (v := (Value.bool (decide (x149 < (r137.len : Int))))) (Wn.no rfl) rfl (R.lss rfl rfl) ?_
            refine LE.nil ?_
            refine WE.condT rfl (b := (decide (x149 < (r137.len : Int)))) rfl ?_ ?_
            · intro hb163
              replace h := M.ite_t h hb163
              refine WE.skip ?_
              refine WE.seq ?_
              refine WE.block ?_
              refine WE.seq ?_
              refine WE.reg ?_
              refine LE.p (v := (Value.pointer r3)) (Wn.no rfl) rfl (R.move f158) ?_
              refine LE.p (v := (SV.v r137)) (Wn.no rfl) rfl (R.move f160) ?_
              refine LE.p (v := (Value.int .i64 x149)) (Wn.no rfl) rfl (R.move f162) ?_
              obtain ⟨a164, h165, h166, h167, h⟩ := h
              refine LE.p (v := (Value.pointer (some (a164.add (x149.toNat * 2))))) (Wn.no rfl) rfl (R.idx (s := r137) sl33 rfl rfl h165 h166 h167) ?_
              obtain ⟨t168, h169, h⟩ := h
              obtain ⟨t170, h171, h⟩ := h
              refine LE.r (v := (Value.agg #[(Value.int .u32 t168), (Value.int .i64 t170)])) (Wn.no rfl) rfl (R.ldA ag27 sz27 rfl rfl (Cs.cons h169 (Cs.cons h171 Cs.nil))) ?_
              refine LE.c (Wn.no rfl) rfl (R.call bd22 (Ls.cons rfl (Ls.cons rfl Ls.nil)) rfl) (Calls.mono h ?_)
              rintro _ w173 ⟨r172, rfl, h⟩
              refine ⟨_, rfl, ?_⟩
              refine LE.p (v := (SV.v r172)) (Wn.no rfl) rfl (R.assign rfl) ?_
              refine LE.nil ?_
              refine WE.seq ?_
              refine WE.reg ?_
              refine LE.p (v := (Value.bool false)) (Wn.no rfl) rfl (R.assign rfl) ?_
              refine LE.nil ?_
              refine WE.seq ?_
              refine WE.seq ?_
              refine WE.reg ?_
              refine LE.p (v := (Value.int .i64 (0 : Int))) (Wn.no rfl) rfl (R.assign rfl) ?_
              refine LE.nil ?_
              refine WE.block ?_
              obtain ⟨I180, ⟨n179, h⟩, hr181⟩ := h
              refine WE.loop (fun n e w => ∃ (x174 : Bool) (x175 : Int), I180 n x174 x175 w ∧ e 5 = (Value.pointer r3) ∧ e 7 = (Value.pointer (some b56)) ∧ e 15 = (SV.v r137) ∧ e 17 = (Value.bool r147) ∧ e 18 = (Value.int .i64 x149) ∧ e 19 = (SV.v r172) ∧ e 20 = (Value.bool x174) ∧ e 21 = (Value.int .i64 x175)) n179 ⟨_, _, h, f158, f159, f160, f161, f162, rfl, rfl, rfl⟩ ?_
              clear h
              rintro n179 e178 w177 ⟨x174, x175, h, f184, f185, f186, f187, f188, f189, f190, f191⟩
              replace h := hr181 n179 x174 x175 w177 h
              refine WE.seq ?_
              refine WE.seq ?_
              refine WE.reg ?_
              refine LE.p (v := (Value.int .i64 x175)) (Wn.no rfl) rfl (R.move f191) ?_
              refine LE.p (v := (SV.v r172)) (Wn.no rfl) rfl (R.move f189) ?_
              refine LE.p (v := (Value.int .i64 (r172.len : Int))) (Wn.no rfl) rfl (R.len sl33 rfl) ?_
              refine LE.p (v := (Value.bool (decide (x175 < (r172.len : Int))))) (Wn.no rfl) rfl (R.lss rfl rfl) ?_
              refine LE.nil ?_
              refine WE.condT rfl (b := (decide (x175 < (r172.len : Int)))) rfl ?_ ?_
              · intro hb192
                replace h := M.ite_t h hb192
                refine WE.skip ?_
                refine WE.seq ?_
                refine WE.block ?_
                obtain ⟨J193, hJ193, h⟩ := M.join_use h
                refine WE.drawJ (fun e w => ∃ (x194 : Bool), J193 x194 w ∧ e 5 = (Value.pointer r3) ∧ e 7 = (Value.pointer (some b56)) ∧ e 15 = (SV.v r137) ∧ e 17 = (Value.bool r147) ∧ e 18 = (Value.int .i64 x149) ∧ e 19 = (SV.v r172) ∧ e 20 = (Value.bool x194) ∧ e 21 = (Value.int .i64 x175)) mix ?_ ?_
                · clear hJ193
                  obtain ⟨w195, hww195, h⟩ := M.drew_use h
                  rw [← hww195]
                  clear hww195
                  refine DE.t 0 (v := (Value.bool x174)) rfl (by kernel_rfl) (Wn.no rfl) rfl (R.move f190) ?_
                  refine DE.t 1 (v := (Value.bool x174)) rfl (by kernel_rfl) (Wn.no rfl) rfl (R.move rfl) ?_
                  rcases M.ite_use h with ⟨hb196, h⟩ | ⟨hb196, h⟩
                  · refine DE.u 2 rfl (by kernel_rfl) (Un.no 1 116 false rfl rfl rfl (congrArg Value.bool hb196)) ?_
                    refine DE.u 3 rfl (by kernel_rfl) (Un.no 1 116 false rfl rfl rfl (congrArg Value.bool hb196)) ?_
                    refine DE.u 4 rfl (by kernel_rfl) (Un.no 1 116 false rfl rfl rfl (congrArg Value.bool hb196)) ?_
                    refine DE.u 5 rfl (by kernel_rfl) (Un.no 1 116 false rfl rfl rfl (congrArg Value.bool hb196)) ?_
                    refine DE.u 6 rfl (by kernel_rfl) (Un.no 1 116 false rfl rfl rfl (congrArg Value.bool hb196)) ?_
                    refine DE.u 7 rfl (by kernel_rfl) (Un.no 1 116 false rfl rfl rfl (congrArg Value.bool hb196)) ?_
                    refine DE.t 8 (v := (Value.bool true)) rfl (by kernel_rfl) (Wn.no rfl) rfl (R.pickT (congrArg Value.bool hb196) rfl) ?_
                    refine DE.t 9 (v := (Value.bool true)) rfl (by kernel_rfl) (Wn.no rfl) rfl (R.assign rfl) ?_
                    refine DE.done (by kernel_rfl) ?_
                    exact ⟨_, h, f184, f185, f186, f187, f188, f189, rfl, f191⟩
                  · refine DE.t 2 (v := (SV.v r172)) rfl (by kernel_rfl) (Wn.yes 1 116 false rfl rfl rfl (congrArg Value.bool hb196)) rfl (R.move f189) ?_
                    refine DE.t 3 (v := (Value.int .i64 x175)) rfl (by kernel_rfl) (Wn.yes 1 116 false rfl rfl rfl (congrArg Value.bool hb196)) rfl (R.move f191) ?_
                    obtain ⟨a197, h198, h199, h200, h⟩ := h
                    refine DE.t 4 (v := (Value.pointer (some (a197.add (x175.toNat * 2))))) rfl (by kernel_rfl) (Wn.yes 1 116 false rfl rfl rfl (congrArg Value.bool hb196)) rfl (R.idx (s := r172) sl33 rfl rfl h198 h199 h200) ?_
                    obtain ⟨t201, h202, h⟩ := h
                    obtain ⟨t203, h204, h⟩ := h
                    refine DE.hold 5 (fun w => w.cell? (a197.add (x175.toNat * 2)) = some (Value.int .u32 t201) ∧ w.cell? ((a197.add (x175.toNat * 2)).add 1) = some (Value.int .i64 t203)) (v := (Value.agg #[(Value.int .u32 t201), (Value.int .i64 t203)])) rfl (by kernel_rfl) (Wn.yes 1 116 false rfl rfl rfl (congrArg Value.bool hb196)) rfl ⟨h202, h204⟩ (fun w hs => R.ldA ag27 sz27 rfl rfl (Cs.cons hs.1 (Cs.cons hs.2 Cs.nil))) ?_
                    obtain ⟨t205, h206, h⟩ := h
                    obtain ⟨t207, h208, h⟩ := h
                    refine DE.main 6 (by kernel_rfl) ?_
                    refine One.r 6 (v := (Value.agg #[(Value.int .u32 t205), (Value.int .i64 t207)])) rfl (Wn.yes 1 116 false rfl rfl rfl (congrArg Value.bool hb196)) rfl (R.ldA ag27 sz27 f185 rfl (Cs.cons h206 (Cs.cons h208 Cs.nil))) (.inl rfl) ?_
                    refine DE.t 7 (v := (Value.bool ((t201 == t205) && (t203 == t207)))) rfl (by kernel_rfl) (Wn.yes 1 116 false rfl rfl rfl (congrArg Value.bool hb196)) rfl (R.eqS (fun w => eq27 t201 t205 t203 t207 w) sg27 rfl rfl) ?_
                    refine DE.t 8 (v := (Value.bool ((t201 == t205) && (t203 == t207)))) rfl (by kernel_rfl) (Wn.no rfl) rfl (R.pickF (congrArg Value.bool hb196) rfl) ?_
                    refine DE.t 9 (v := (Value.bool ((t201 == t205) && (t203 == t207)))) rfl (by kernel_rfl) (Wn.no rfl) rfl (R.assign rfl) ?_
                    refine DE.done (by kernel_rfl) ?_
                    exact ⟨_, h, f184, f185, f186, f187, f188, f189, rfl, f191⟩
                · rintro e209 w210 ⟨x194, h, f211, f212, f213, f214, f215, f216, f217, f218⟩
                  subst hJ193
                  refine WE.reg ?_
                  refine LE.p (v := (Value.int .i64 x175)) (Wn.no rfl) rfl (R.move f218) ?_
                  refine LE.p (v := (Value.int .i64 (IntKind.i64.wrap (x175 + (1 : Int))))) (Wn.no rfl) rfl (R.add rfl rfl) ?_
                  refine LE.p (v := (Value.int .i64 (IntKind.i64.wrap (x175 + (1 : Int))))) (Wn.no rfl) rfl (R.assign rfl) ?_
                  refine LE.nil ?_
                  obtain ⟨m182, hm183, h⟩ := h
                  exact ⟨m182, hm183, _, _, h, f211, f212, f213, f214, f215, f216, f217, rfl⟩
              · intro hb192
                replace h := M.ite_f h hb192
                refine WE.exit ?_
                refine WE.seq ?_
                refine WE.reg ?_
                refine LE.p (v := (Value.bool x174)) (Wn.no rfl) rfl (R.move f190) ?_
                refine LE.p (v := (Value.bool r147)) (Wn.no rfl) rfl (R.move f187) ?_
                refine LE.p (v := (Value.bool (!(x174 == r147)))) (Wn.no rfl) rfl (R.bneq bo4 rfl rfl) ?_
                refine LE.nil ?_
                refine WE.condT rfl (b := (!(x174 == r147))) rfl ?_ ?_
                · intro hb219
                  replace h := M.ite_t h hb219
                  refine WE.seq ?_
                  refine WE.reg ?_
                  refine LE.p (v := (Value.bool false)) (Wn.no rfl) rfl (R.assign rfl) ?_
                  refine LE.nil ?_
                  refine WE.ret ?_
                  exact ⟨_, (Res.tmp rfl Res.nil), _, rfl, h⟩
                · intro hb219
                  replace h := M.ite_f h hb219
                  refine WE.skip ?_
                  refine WE.reg ?_
                  refine LE.p (v := (Value.int .i64 x149)) (Wn.no rfl) rfl (R.move f188) ?_
                  refine LE.p (v := (Value.int .i64 (IntKind.i64.wrap (x149 + (1 : Int))))) (Wn.no rfl) rfl (R.add rfl rfl) ?_
                  refine LE.p (v := (Value.int .i64 (IntKind.i64.wrap (x149 + (1 : Int))))) (Wn.no rfl) rfl (R.assign rfl) ?_
                  refine LE.nil ?_
                  obtain ⟨m156, hm157, h⟩ := h
                  exact ⟨m156, hm157, _, h, f184, f185, f186, f187, rfl⟩
            · intro hb163
              replace h := M.ite_f h hb163
              refine WE.exit ?_
              refine WE.seq ?_
              obtain ⟨J220, hJ220, h⟩ := M.join_use h
              refine WE.regJ (fun e w => ∃ (x221 : Bool), J220 x221 w ∧ e 4 = (Value.bool x221)) ?_ ?_
              · clear hJ220
                refine LE.p (v := (Value.pointer r3)) (Wn.no rfl) rfl (R.move f158) ?_
                refine LE.p (v := (Value.agg #[(Value.int .u32 (0 : Int)), (Value.int .i64 (0 : Int))])) (Wn.no rfl) rfl (R.bld (by exact Ls.nil) (fun w => bu27_  w)) ?_
                refine LE.c (Wn.no rfl) rfl (R.call bd24 (Ls.cons rfl (Ls.cons rfl Ls.nil)) rfl) (Calls.mono h ?_)
                rintro _ w223 ⟨r222, rfl, h⟩
                refine ⟨_, rfl, ?_⟩
                refine LE.p (v := (Value.pointer r3)) (Wn.no rfl) rfl (R.move f158) ?_
                refine LE.c (Wn.no rfl) rfl (R.call bd14 (Ls.cons rfl Ls.nil) rfl) (Calls.mono h ?_)
                rintro _ w225 ⟨r224, rfl, h⟩
                refine ⟨_, rfl, ?_⟩
                refine LE.c (Wn.no rfl) rfl (R.call bd17 (Ls.cons rfl (Ls.cons rfl Ls.nil)) rfl) (Calls.mono h ?_)
                rintro _ w227 ⟨r226, rfl, h⟩
                refine ⟨_, rfl, ?_⟩
                refine LE.p (v := (Value.bool r226)) (Wn.no rfl) rfl (R.move rfl) ?_
                rcases M.ite_use h with ⟨hb228, h⟩ | ⟨hb228, h⟩
                · refine LE.c (Wn.yes 6 133 true rfl rfl rfl (congrArg Value.bool hb228)) rfl (R.call bd19 Ls.nil rfl) (Calls.mono h ?_)
                  rintro _ w230 ⟨r229, rfl, h⟩
                  refine ⟨_, rfl, ?_⟩
                  refine LE.p (v := (Value.bool r229)) (Wn.no rfl) rfl (R.pickT (congrArg Value.bool hb228) rfl) ?_
                  refine LE.p (v := (Value.bool r229)) (Wn.no rfl) rfl (R.assign rfl) ?_
                  refine LE.nil ?_
                  exact ⟨_, h, rfl⟩
                · refine LE.u (Un.no 6 133 true rfl rfl rfl (congrArg Value.bool hb228)) ?_
                  refine LE.p (v := (Value.bool false)) (Wn.no rfl) rfl (R.pickF (congrArg Value.bool hb228) rfl) ?_
                  refine LE.p (v := (Value.bool false)) (Wn.no rfl) rfl (R.assign rfl) ?_
                  refine LE.nil ?_
                  exact ⟨_, h, rfl⟩
              · rintro e231 w232 ⟨x221, h, f233⟩
                subst hJ220
                refine WE.ret ?_
                exact ⟨_, (Res.tmp f233 Res.nil), _, rfl, h⟩
end Go.Proofs.Ytjjjomeemfmihaa
