/-
  Printed by gen.py: the formula of each function, and that it holds of the function.
-/
import Derived.Test.YtfcgkkgdnagmcaaTy
namespace Go.Proofs.Ytfcgkkgdnagmcaa
set_option linter.unusedVariables false
set_option linter.unusedSimpArgs false
open Go.Sp
set_option linter.unusedVariables false
/-- The formula of signpost.signpostlaw8.NlriNumbers. -/
def F3  (K : Bool → World → Prop) (w0 : World) : Prop :=
M.loop1 (fun (J2 : Int → World → Prop) (x1 : Int) (w3 : World) => 
M.ite (decide (x1 < (35 : Int))) (
Calls Try.prog 7 #[(Value.int .u32 (4294967295 : Int)), (Value.int .i64 x1)] w3 (R7 fun r12 r13 w14 =>
M.new (.cells #[(Value.int .u32 (0 : Int)), (Value.int .i64 (0 : Int))] 24) w14 fun b16 w15 =>
M.stA b16 [(Value.int .u32 r12), (Value.int .i64 x1)] w15 fun w17 =>
M.join (fun (x20 : Bool) (w37 : World) => 
M.ite x20 (
K false w37) (
M.new (.cells #[(Value.int .u8 (IntKind.u8.wrap x1))] 5) w37 fun b43 w41 =>
M.new (.cells #[(Value.int .u8 (255 : Int)), (Value.int .u8 (255 : Int)), (Value.int .u8 (255 : Int)), (Value.int .u8 (255 : Int))] 5) w41 fun b46 w44 =>
M.app Try.prog 28 28 28 (SV.mk (some b43) 1 1) (SV.v (SV.mk (some b46) 4 4)) w44 fun s47 w48 =>
M.loop1 (fun (J51 : Int → World → Prop) (x50 : Int) (w52 : World) => 
M.ite (decide (x50 ≤ (5 : Int))) (
M.bnd (0 : Int) x50 s47 <|
Calls Try.prog 9 #[(SV.v (SV.sub s47 (Int.toNat (0 : Int)) (Int.toNat x50) 1))] w52 (R9 fun r67 w68 =>
M.ite (!r67) (
K false w68) (
J51 (IntKind.i64.wrap (x50 + (1 : Int))) w68))) (
J2 (IntKind.i64.wrap (x1 + (1 : Int))) w52)) (0 : Int) w48)) fun J19 => 
M.ld (Value.int .u32) b16 w17 fun t21 =>
M.ld (Value.int .i64) (b16.add 1) w17 fun t23 =>
M.new (.cells #[(Value.int .u32 t21), (Value.int .i64 t23), (Value.int .u32 (0 : Int)), (Value.int .i64 (0 : Int))] 24) w17 fun b27 w25 =>
Calls Try.prog 8 #[(SV.v (SV.mk (some b27) 2 2))] w25 (R8 fun r28 w29 =>
M.ite (!r28) (
J19 true w29) (
M.new (.cells #[(Value.int .u32 (1 : Int)), (Value.int .i64 x1)] 24) w29 fun b33 w31 =>
Calls Try.prog 8 #[(SV.v (SV.mk (some b33) 1 1))] w31 (R8 fun r34 w35 =>
J19 (!r34) w35))))) (
M.join (fun (x71 : Bool) (w78 : World) => 
K x71 w78) fun J70 => 
Calls Try.prog 9 #[(SV.v SV.nil)] w3 (R9 fun r72 w73 =>
M.ite r72 (
Calls Try.prog 10 #[] w73 (R10 fun r75 w76 =>
J70 r75 w76)) (
J70 false w73)))) (-1 : Int) w0
theorem F3_ok {w0 : World}  {K : Bool → World → Prop} (h : F3 K w0) : Calls Try.prog 3 #[] w0 (R3 K) := by
  refine calls_of_WE (args := []) (rs := [.tmp 0]) Try.func3 rfl (N := 44) rfl rfl rfl rfl ?_
  refine WE.seq ?_
  refine WE.reg ?_
  refine LE.p (v := (Value.bool false)) (Wn.no rfl) rfl (R.assign rfl) ?_
  refine LE.nil ?_
  refine WE.seq ?_
  refine WE.seq ?_
  refine WE.reg ?_
  refine LE.p (v := (Value.int .i64 (-1 : Int))) (Wn.no rfl) rfl (R.assign rfl) ?_
  refine LE.nil ?_
  refine WE.block ?_
  obtain ⟨I6, ⟨n5, h⟩, hr7⟩ := h
  refine WE.loop (fun n e w => ∃ (x1 : Int), I6 n x1 w ∧ e 1 = (Value.int .i64 x1)) n5 ⟨_, h, rfl⟩ ?_
  clear h
  rintro n5 e4 w3 ⟨x1, h, f10⟩
  replace h := hr7 n5 x1 w3 h
  refine WE.seq ?_
  refine WE.seq ?_
  refine WE.reg ?_
  refine LE.p (v := (Value.int .i64 x1)) (Wn.no rfl) rfl (R.move f10) ?_
  refine LE.p (v := (Value.bool (decide (x1 < (35 : Int))))) (Wn.no rfl) rfl (R.lss rfl rfl) ?_
  refine LE.nil ?_
  refine WE.condT rfl (b := (decide (x1 < (35 : Int)))) rfl ?_ ?_
  · intro hb11
    replace h := M.ite_t h hb11
    refine WE.skip ?_
    refine WE.seq ?_
    refine WE.block ?_
    refine WE.seq ?_
    refine WE.reg ?_
    refine LE.p (v := (Value.int .i64 x1)) (Wn.no rfl) rfl (R.move f10) ?_
    refine LE.c (Wn.no rfl) rfl (R.call bd7 (Ls.cons rfl (Ls.cons rfl Ls.nil)) rfl) (Calls.mono h ?_)
    rintro _ w14 ⟨r12, r13, rfl, h⟩
    refine ⟨_, rfl, ?_⟩
    refine LE.p (v := (Value.int .u32 r12)) (Wn.no rfl) rfl (R.fieldS ps24_0 rfl rfl) ?_
    refine LE.p (v := (Value.int .i64 x1)) (Wn.no rfl) rfl (R.move f10) ?_
    refine LE.p (v := (Value.agg #[(Value.int .u32 r12), (Value.int .i64 x1)])) (Wn.no rfl) rfl (R.bld (by exact (Ls.cons (R.Pr rfl) (Ls.cons (R.Pr rfl) Ls.nil))) (fun w => bu24_0_1 r12 x1 w)) ?_
    obtain ⟨b16, hpb16, w15, hww15, h⟩ := M.new_use h
    refine LE.r (v := (Value.pointer (some b16))) (Wn.no rfl) rfl (R.alloc (cs := #[(Value.int .u32 (0 : Int)), (Value.int .i64 (0 : Int))]) ze24 rfl hpb16 hww15) ?_
    obtain ⟨w17, hww17, h18, h⟩ := M.stA_use h
    refine LE.s (Wn.no rfl) rfl (R.stA (a := b16) [(Value.int .u32 r12), (Value.int .i64 x1)] sz24 rfl rfl rfl (by simp [Value.oneCell']) h18 hww17) ?_
    refine LE.nil ?_
    refine WE.seq ?_
    refine WE.seq ?_
    obtain ⟨J19, hJ19, h⟩ := M.join_use h
    refine WE.regJ (fun e w => ∃ (x20 : Bool), J19 x20 w ∧ e 1 = (Value.int .i64 x1) ∧ e 25 = (Value.bool x20)) ?_ ?_
    · clear hJ19
      obtain ⟨t21, h22, h⟩ := h
      obtain ⟨t23, h24, h⟩ := h
      refine LE.r (v := (Value.agg #[(Value.int .u32 t21), (Value.int .i64 t23)])) (Wn.no rfl) rfl (R.ldA ag24 sz24 rfl rfl (Cs.cons h22 (Cs.cons h24 Cs.nil))) ?_
      refine LE.p (v := (Value.agg #[(Value.int .u32 (0 : Int)), (Value.int .i64 (0 : Int))])) (Wn.no rfl) rfl (R.bld (by exact Ls.nil) (fun w => bu24_  w)) ?_
      obtain ⟨b27, hpb27, w25, hww25, h⟩ := M.new_use h
      refine LE.r (v := (SV.v (SV.mk (some b27) 2 2))) (Wn.no rfl) rfl (R.bsl (by exact (Ls.cons (R.Pr rfl) (Ls.cons (R.Pr rfl) Ls.nil))) (fun w => bs27_2 t21 t23 (0 : Int) (0 : Int) w) hpb27 hww25) ?_
      refine LE.c (Wn.no rfl) rfl (R.call bd8 (Ls.cons rfl Ls.nil) rfl) (Calls.mono h ?_)
      rintro _ w29 ⟨r28, rfl, h⟩
      refine ⟨_, rfl, ?_⟩
      refine LE.p (v := (Value.bool (!r28))) (Wn.no rfl) rfl (R.not rfl) ?_
      refine LE.p (v := (Value.bool (!r28))) (Wn.no rfl) rfl (R.move rfl) ?_
      rcases M.ite_use h with ⟨hb30, h⟩ | ⟨hb30, h⟩
      · refine LE.u (Un.no 5 19 false rfl rfl rfl (congrArg Value.bool hb30)) ?_
        refine LE.u (Un.no 5 19 false rfl rfl rfl (congrArg Value.bool hb30)) ?_
        refine LE.u (Un.no 5 19 false rfl rfl rfl (congrArg Value.bool hb30)) ?_
        refine LE.u (Un.no 5 19 false rfl rfl rfl (congrArg Value.bool hb30)) ?_
        refine LE.u (Un.no 5 19 false rfl rfl rfl (congrArg Value.bool hb30)) ?_
        refine LE.p (v := (Value.bool true)) (Wn.no rfl) rfl (R.pickT (congrArg Value.bool hb30) rfl) ?_
        refine LE.nil ?_
        exact ⟨_, h, f10, rfl⟩
      · refine LE.p (v := (Value.int .i64 x1)) (Wn.yes 5 19 false rfl rfl rfl (congrArg Value.bool hb30)) rfl (R.move f10) ?_
        refine LE.p (v := (Value.agg #[(Value.int .u32 (1 : Int)), (Value.int .i64 x1)])) (Wn.yes 5 19 false rfl rfl rfl (congrArg Value.bool hb30)) rfl (R.bld (by exact (Ls.cons (R.Pr rfl) (Ls.cons (R.Pr rfl) Ls.nil))) (fun w => bu24_0_1 (1 : Int) x1 w)) ?_
        obtain ⟨b33, hpb33, w31, hww31, h⟩ := M.new_use h
        refine LE.r (v := (SV.v (SV.mk (some b33) 1 1))) (Wn.yes 5 19 false rfl rfl rfl (congrArg Value.bool hb30)) rfl (R.bsl (by exact (Ls.cons (R.Pr rfl) Ls.nil)) (fun w => bs27_1 (1 : Int) x1 w) hpb33 hww31) ?_
        refine LE.c (Wn.yes 5 19 false rfl rfl rfl (congrArg Value.bool hb30)) rfl (R.call bd8 (Ls.cons rfl Ls.nil) rfl) (Calls.mono h ?_)
        rintro _ w35 ⟨r34, rfl, h⟩
        refine ⟨_, rfl, ?_⟩
        refine LE.p (v := (Value.bool (!r34))) (Wn.yes 5 19 false rfl rfl rfl (congrArg Value.bool hb30)) rfl (R.not rfl) ?_
        refine LE.p (v := (Value.bool (!r34))) (Wn.no rfl) rfl (R.pickF (congrArg Value.bool hb30) rfl) ?_
        refine LE.nil ?_
        exact ⟨_, h, f10, rfl⟩
    · rintro e36 w37 ⟨x20, h, f38, f39⟩
      subst hJ19
      refine WE.condT rfl (b := x20) f39 ?_ ?_
      · intro hb40
        replace h := M.ite_t h hb40
        refine WE.seq ?_
        refine WE.reg ?_
        refine LE.p (v := (Value.bool false)) (Wn.no rfl) rfl (R.assign rfl) ?_
        refine LE.nil ?_
        refine WE.ret ?_
        exact ⟨_, (Res.tmp rfl Res.nil), _, rfl, h⟩
      · intro hb40
        replace h := M.ite_f h hb40
        refine WE.skip ?_
        refine WE.seq ?_
        refine WE.reg ?_
        refine LE.p (v := (Value.int .i64 x1)) (Wn.no rfl) rfl (R.move f38) ?_
        refine LE.p (v := (Value.int .u8 (IntKind.u8.wrap x1))) (Wn.no rfl) rfl (R.conv in5 in3 rfl) ?_
        obtain ⟨b43, hpb43, w41, hww41, h⟩ := M.new_use h
        refine LE.r (v := (SV.v (SV.mk (some b43) 1 1))) (Wn.no rfl) rfl (R.bsl (by exact (Ls.cons (R.Pr rfl) Ls.nil)) (fun w => bs28_1 (IntKind.u8.wrap x1) w) hpb43 hww41) ?_
        obtain ⟨b46, hpb46, w44, hww44, h⟩ := M.new_use h
        refine LE.r (v := (SV.v (SV.mk (some b46) 4 4))) (Wn.no rfl) rfl (R.bsl (by exact (Ls.cons (R.Pr rfl) (Ls.cons (R.Pr rfl) (Ls.cons (R.Pr rfl) (Ls.cons (R.Pr rfl) Ls.nil))))) (fun w => bs28_4 (255 : Int) (255 : Int) (255 : Int) (255 : Int) w) hpb46 hww44) ?_
        obtain ⟨s47, w48, h49, h⟩ := h
        refine LE.r (v := (SV.v s47)) (Wn.no rfl) rfl (R.app (s := (SV.mk (some b43) 1 1)) (r := s47) rfl rfl h49) ?_
        refine LE.p (v := (SV.v s47)) (Wn.no rfl) rfl (R.assign rfl) ?_
        refine LE.nil ?_
        refine WE.seq ?_
        refine WE.reg ?_
        refine LE.p (v := (Value.int .i64 (0 : Int))) (Wn.no rfl) rfl (R.assign rfl) ?_
        refine LE.nil ?_
        refine WE.block ?_
        obtain ⟨I55, ⟨n54, h⟩, hr56⟩ := h
        refine WE.loop (fun n e w => ∃ (x50 : Int), I55 n x50 w ∧ e 1 = (Value.int .i64 x1) ∧ e 3 = (SV.v s47) ∧ e 4 = (Value.int .i64 x50)) n54 ⟨_, h, f38, rfl, rfl⟩ ?_
        clear h
        rintro n54 e53 w52 ⟨x50, h, f59, f60, f61⟩
        replace h := hr56 n54 x50 w52 h
        refine WE.seq ?_
        refine WE.seq ?_
        refine WE.reg ?_
        refine LE.p (v := (Value.int .i64 x50)) (Wn.no rfl) rfl (R.move f61) ?_
        refine LE.p (v := (Value.bool (decide (x50 ≤ (5 : Int))))) (Wn.no rfl) rfl (R.leq rfl rfl) ?_
        refine LE.nil ?_
        refine WE.condT rfl (b := (decide (x50 ≤ (5 : Int)))) rfl ?_ ?_
        · intro hb62
          replace h := M.ite_t h hb62
          refine WE.skip ?_
          refine WE.seq ?_
          refine WE.block ?_
          refine WE.seq ?_
          refine WE.reg ?_
          refine LE.p (v := (SV.v s47)) (Wn.no rfl) rfl (R.move f60) ?_
          refine LE.p (v := (Value.int .i64 x50)) (Wn.no rfl) rfl (R.move f61) ?_
          obtain ⟨h63, h64, h65, h⟩ := h
          refine LE.p (v := (SV.v (SV.sub s47 (Int.toNat (0 : Int)) (Int.toNat x50) 1))) (Wn.no rfl) rfl (R.slc (s := s47) (lo := (0 : Int)) (hi := x50) _ _ sl28 rfl rfl rfl h63 h64 h65) ?_
          refine LE.c (Wn.no rfl) rfl (R.call bd9 (Ls.cons rfl Ls.nil) rfl) (Calls.mono h ?_)
          rintro _ w68 ⟨r67, rfl, h⟩
          refine ⟨_, rfl, ?_⟩
          refine LE.p (v := (Value.bool (!r67))) (Wn.no rfl) rfl (R.not rfl) ?_
          refine LE.nil ?_
          refine WE.condT rfl (b := (!r67)) rfl ?_ ?_
          · intro hb69
            replace h := M.ite_t h hb69
            refine WE.seq ?_
            refine WE.reg ?_
            refine LE.p (v := (Value.bool false)) (Wn.no rfl) rfl (R.assign rfl) ?_
            refine LE.nil ?_
            refine WE.ret ?_
            exact ⟨_, (Res.tmp rfl Res.nil), _, rfl, h⟩
          · intro hb69
            replace h := M.ite_f h hb69
            refine WE.skip ?_
            refine WE.reg ?_
            refine LE.p (v := (Value.int .i64 x50)) (Wn.no rfl) rfl (R.move f61) ?_
            refine LE.p (v := (Value.int .i64 (IntKind.i64.wrap (x50 + (1 : Int))))) (Wn.no rfl) rfl (R.add rfl rfl) ?_
            refine LE.p (v := (Value.int .i64 (IntKind.i64.wrap (x50 + (1 : Int))))) (Wn.no rfl) rfl (R.assign rfl) ?_
            refine LE.nil ?_
            obtain ⟨m57, hm58, h⟩ := h
            exact ⟨m57, hm58, _, h, f59, f60, rfl⟩
        · intro hb62
          replace h := M.ite_f h hb62
          refine WE.exit ?_
          refine WE.reg ?_
          refine LE.p (v := (Value.int .i64 x1)) (Wn.no rfl) rfl (R.move f59) ?_
          refine LE.p (v := (Value.int .i64 (IntKind.i64.wrap (x1 + (1 : Int))))) (Wn.no rfl) rfl (R.add rfl rfl) ?_
          refine LE.p (v := (Value.int .i64 (IntKind.i64.wrap (x1 + (1 : Int))))) (Wn.no rfl) rfl (R.assign rfl) ?_
          refine LE.nil ?_
          obtain ⟨m8, hm9, h⟩ := h
          exact ⟨m8, hm9, _, h, rfl⟩
  · intro hb11
    replace h := M.ite_f h hb11
    refine WE.exit ?_
    refine WE.seq ?_
    obtain ⟨J70, hJ70, h⟩ := M.join_use h
    refine WE.regJ (fun e w => ∃ (x71 : Bool), J70 x71 w ∧ e 0 = (Value.bool x71)) ?_ ?_
    · clear hJ70
      refine LE.c (Wn.no rfl) rfl (R.call bd9 (Ls.cons rfl Ls.nil) rfl) (Calls.mono h ?_)
      rintro _ w73 ⟨r72, rfl, h⟩
      refine ⟨_, rfl, ?_⟩
      refine LE.p (v := (Value.bool r72)) (Wn.no rfl) rfl (R.move rfl) ?_
      rcases M.ite_use h with ⟨hb74, h⟩ | ⟨hb74, h⟩
      · refine LE.c (Wn.yes 1 41 true rfl rfl rfl (congrArg Value.bool hb74)) rfl (R.call bd10 Ls.nil rfl) (Calls.mono h ?_)
        rintro _ w76 ⟨r75, rfl, h⟩
        refine ⟨_, rfl, ?_⟩
        refine LE.p (v := (Value.bool r75)) (Wn.no rfl) rfl (R.pickT (congrArg Value.bool hb74) rfl) ?_
        refine LE.p (v := (Value.bool r75)) (Wn.no rfl) rfl (R.assign rfl) ?_
        refine LE.nil ?_
        exact ⟨_, h, rfl⟩
      · refine LE.u (Un.no 1 41 true rfl rfl rfl (congrArg Value.bool hb74)) ?_
        refine LE.p (v := (Value.bool false)) (Wn.no rfl) rfl (R.pickF (congrArg Value.bool hb74) rfl) ?_
        refine LE.p (v := (Value.bool false)) (Wn.no rfl) rfl (R.assign rfl) ?_
        refine LE.nil ?_
        exact ⟨_, h, rfl⟩
    · rintro e77 w78 ⟨x71, h, f79⟩
      subst hJ70
      refine WE.ret ?_
      exact ⟨_, (Res.tmp f79 Res.nil), _, rfl, h⟩
/-- The formula of signpost.signpostlaw8.NlriTells. -/
def F4 (p0 : SV) (p1 : SV) (p2 : SV) (p3 : Int) (p4 : Int) (K : Bool → World → Prop) (w0 : World) : Prop :=
Calls Try.prog 11 #[(SV.v p0), (SV.v p1)] w0 (R11 fun r1 w2 =>
Calls Try.prog 12 #[(SV.v r1)] w2 (R12 fun r3 w4 =>
Calls Try.prog 13 #[(SV.v r3)] w4 (R13 fun r5 r6 w7 =>
M.join (fun (x9 : Bool) (w24 : World) => 
M.ite x9 (
K false w24) (
M.join (fun (w48 : World) => 
M.join (fun (x51 : Bool) (w58 : World) => 
K x51 w58) fun J50 => 
Calls Try.prog 9 #[(SV.v r5)] w48 (R9 fun r52 w53 =>
M.ite r52 (
Calls Try.prog 10 #[] w53 (R10 fun r55 w56 =>
J50 r55 w56)) (
J50 false w53))) fun J30 => 
M.ite (decide ((0 : Int) < (r5.len : Int))) (
Calls Try.prog 15 #[(Value.int .i64 p3), (Value.int .i64 (0 : Int)), (Value.int .i64 (IntKind.i64.wrap ((r5.len : Int) - (1 : Int))))] w24 (R15 fun r32 w33 =>
M.idx r5 r32 1 fun a34 =>
M.ld (Value.int .u8) (a34.add (r32.toNat * 1)) w33 fun t38 =>
M.idx r5 r32 1 fun a40 =>
M.st (a40.add (r32.toNat * 1)) (Value.int .u8 (bXor .u8 t38 p4)) w33 fun w44 =>
J30 w44)) (
J30 w24))) fun J8 => 
Calls Try.prog 8 #[(SV.v r1)] w7 (R8 fun r10 w11 =>
M.ite (!r10) (
J8 true w11) (
Calls Try.prog 8 #[(SV.v r3)] w11 (R8 fun r13 w14 =>
M.ite (!r13) (
J8 true w14) (
Calls Try.prog 14 #[(SV.v p2), (Value.int .i64 (200 : Int))] w14 (R14 fun r16 w17 =>
Calls Try.prog 9 #[(SV.v r16)] w17 (R9 fun r18 w19 =>
M.ite (!r18) (
J8 true w19) (
Calls Try.prog 9 #[(SV.v r5)] w19 (R9 fun r21 w22 =>
J8 (!r21) w22)))))))))))
theorem F4_ok {w0 : World} {p0 : SV} {p1 : SV} {p2 : SV} {p3 : Int} {p4 : Int} {K : Bool → World → Prop} (h : F4 p0 p1 p2 p3 p4 K w0) : Calls Try.prog 4 #[(SV.v p0), (SV.v p1), (SV.v p2), (Value.int .i64 p3), (Value.int .u8 p4)] w0 (R4 K) := by
  refine calls_of_WE (args := [(SV.v p0), (SV.v p1), (SV.v p2), (Value.int .i64 p3), (Value.int .u8 p4)]) (rs := [.tmp 10]) Try.func4 rfl (N := 63) rfl rfl rfl rfl ?_
  refine WE.seq ?_
  refine WE.reg ?_
  refine LE.p (v := (Value.bool false)) (Wn.no rfl) rfl (R.assign rfl) ?_
  refine LE.nil ?_
  refine WE.seq ?_
  refine WE.reg ?_
  refine LE.p (v := (SV.v p0)) (Wn.no rfl) rfl (R.move rfl) ?_
  refine LE.p (v := (SV.v p1)) (Wn.no rfl) rfl (R.move rfl) ?_
  refine LE.c (Wn.no rfl) rfl (R.call bd11 (Ls.cons rfl (Ls.cons rfl Ls.nil)) rfl) (Calls.mono h ?_)
  rintro _ w2 ⟨r1, rfl, h⟩
  refine ⟨_, rfl, ?_⟩
  refine LE.p (v := (SV.v r1)) (Wn.no rfl) rfl (R.assign rfl) ?_
  refine LE.nil ?_
  refine WE.seq ?_
  refine WE.reg ?_
  refine LE.p (v := (SV.v r1)) (Wn.no rfl) rfl (R.move rfl) ?_
  refine LE.c (Wn.no rfl) rfl (R.call bd12 (Ls.cons rfl Ls.nil) rfl) (Calls.mono h ?_)
  rintro _ w4 ⟨r3, rfl, h⟩
  refine ⟨_, rfl, ?_⟩
  refine LE.p (v := (SV.v r3)) (Wn.no rfl) rfl (R.assign rfl) ?_
  refine LE.nil ?_
  refine WE.seq ?_
  refine WE.reg ?_
  refine LE.p (v := (SV.v r3)) (Wn.no rfl) rfl (R.move rfl) ?_
  refine LE.c (Wn.no rfl) rfl (R.call bd13 (Ls.cons rfl Ls.nil) rfl) (Calls.mono h ?_)
  rintro _ w7 ⟨r5, r6, rfl, h⟩
  refine ⟨_, rfl, ?_⟩
  refine LE.p (v := (Value.tuple #[(SV.v r5), (Value.bool r6)])) (Wn.no rfl) rfl (R.move rfl) ?_
  refine LE.p (v := (SV.v r5)) (Wn.no rfl) rfl (R.ext rfl rfl) ?_
  refine LE.p (v := (Value.bool r6)) (Wn.no rfl) rfl (R.ext rfl rfl) ?_
  refine LE.p (v := (SV.v r5)) (Wn.no rfl) rfl (R.assign rfl) ?_
  refine LE.p (v := (Value.bool r6)) (Wn.no rfl) rfl (R.assign rfl) ?_
  refine LE.nil ?_
  refine WE.seq ?_
  refine WE.seq ?_
  obtain ⟨J8, hJ8, h⟩ := M.join_use h
  refine WE.regJ (fun e w => ∃ (x9 : Bool), J8 x9 w ∧ e 3 = (Value.int .i64 p3) ∧ e 4 = (Value.int .u8 p4) ∧ e 13 = (SV.v r5) ∧ e 43 = (Value.bool x9)) ?_ ?_
  · clear hJ8
    refine LE.p (v := (SV.v r1)) (Wn.no rfl) rfl (R.move rfl) ?_
    refine LE.c (Wn.no rfl) rfl (R.call bd8 (Ls.cons rfl Ls.nil) rfl) (Calls.mono h ?_)
    rintro _ w11 ⟨r10, rfl, h⟩
    refine ⟨_, rfl, ?_⟩
    refine LE.p (v := (Value.bool (!r10))) (Wn.no rfl) rfl (R.not rfl) ?_
    refine LE.p (v := (Value.bool (!r10))) (Wn.no rfl) rfl (R.move rfl) ?_
    rcases M.ite_use h with ⟨hb12, h⟩ | ⟨hb12, h⟩
    · refine LE.u (Un.no 3 28 false rfl rfl rfl (congrArg Value.bool hb12)) ?_
      refine LE.u (Un.no 3 28 false rfl rfl rfl (congrArg Value.bool hb12)) ?_
      refine LE.u (Un.no 3 28 false rfl rfl rfl (congrArg Value.bool hb12)) ?_
      refine LE.p (v := (Value.bool true)) (Wn.no rfl) rfl (R.pickT (congrArg Value.bool hb12) rfl) ?_
      refine LE.p (v := (Value.bool true)) (Wn.no rfl) rfl (R.move rfl) ?_
      refine LE.u (Un.no 8 33 false rfl rfl rfl rfl) ?_
      refine LE.u (Un.no 8 33 false rfl rfl rfl rfl) ?_
      refine LE.u (Un.no 8 33 false rfl rfl rfl rfl) ?_
      refine LE.u (Un.no 8 33 false rfl rfl rfl rfl) ?_
      refine LE.p (v := (Value.bool true)) (Wn.no rfl) rfl (R.pickT rfl rfl) ?_
      refine LE.p (v := (Value.bool true)) (Wn.no rfl) rfl (R.move rfl) ?_
      refine LE.u (Un.no 14 39 false rfl rfl rfl rfl) ?_
      refine LE.u (Un.no 14 39 false rfl rfl rfl rfl) ?_
      refine LE.u (Un.no 14 39 false rfl rfl rfl rfl) ?_
      refine LE.p (v := (Value.bool true)) (Wn.no rfl) rfl (R.pickT rfl rfl) ?_
      refine LE.nil ?_
      exact ⟨_, h, rfl, rfl, rfl, rfl⟩
    · refine LE.p (v := (SV.v r3)) (Wn.yes 3 28 false rfl rfl rfl (congrArg Value.bool hb12)) rfl (R.move rfl) ?_
      refine LE.c (Wn.yes 3 28 false rfl rfl rfl (congrArg Value.bool hb12)) rfl (R.call bd8 (Ls.cons rfl Ls.nil) rfl) (Calls.mono h ?_)
      rintro _ w14 ⟨r13, rfl, h⟩
      refine ⟨_, rfl, ?_⟩
      refine LE.p (v := (Value.bool (!r13))) (Wn.yes 3 28 false rfl rfl rfl (congrArg Value.bool hb12)) rfl (R.not rfl) ?_
      refine LE.p (v := (Value.bool (!r13))) (Wn.no rfl) rfl (R.pickF (congrArg Value.bool hb12) rfl) ?_
      refine LE.p (v := (Value.bool (!r13))) (Wn.no rfl) rfl (R.move rfl) ?_
      rcases M.ite_use h with ⟨hb15, h⟩ | ⟨hb15, h⟩
      · refine LE.u (Un.no 8 33 false rfl rfl rfl (congrArg Value.bool hb15)) ?_
        refine LE.u (Un.no 8 33 false rfl rfl rfl (congrArg Value.bool hb15)) ?_
        refine LE.u (Un.no 8 33 false rfl rfl rfl (congrArg Value.bool hb15)) ?_
        refine LE.u (Un.no 8 33 false rfl rfl rfl (congrArg Value.bool hb15)) ?_
        refine LE.p (v := (Value.bool true)) (Wn.no rfl) rfl (R.pickT (congrArg Value.bool hb15) rfl) ?_
        refine LE.p (v := (Value.bool true)) (Wn.no rfl) rfl (R.move rfl) ?_
        refine LE.u (Un.no 14 39 false rfl rfl rfl rfl) ?_
        refine LE.u (Un.no 14 39 false rfl rfl rfl rfl) ?_
        refine LE.u (Un.no 14 39 false rfl rfl rfl rfl) ?_
        refine LE.p (v := (Value.bool true)) (Wn.no rfl) rfl (R.pickT rfl rfl) ?_
        refine LE.nil ?_
        exact ⟨_, h, rfl, rfl, rfl, rfl⟩
      · refine LE.p (v := (SV.v p2)) (Wn.yes 8 33 false rfl rfl rfl (congrArg Value.bool hb15)) rfl (R.move rfl) ?_
        refine LE.c (Wn.yes 8 33 false rfl rfl rfl (congrArg Value.bool hb15)) rfl (R.call bd14 (Ls.cons rfl (Ls.cons rfl Ls.nil)) rfl) (Calls.mono h ?_)
        rintro _ w17 ⟨r16, rfl, h⟩
        refine ⟨_, rfl, ?_⟩
        refine LE.c (Wn.yes 8 33 false rfl rfl rfl (congrArg Value.bool hb15)) rfl (R.call bd9 (Ls.cons rfl Ls.nil) rfl) (Calls.mono h ?_)
        rintro _ w19 ⟨r18, rfl, h⟩
        refine ⟨_, rfl, ?_⟩
        refine LE.p (v := (Value.bool (!r18))) (Wn.yes 8 33 false rfl rfl rfl (congrArg Value.bool hb15)) rfl (R.not rfl) ?_
        refine LE.p (v := (Value.bool (!r18))) (Wn.no rfl) rfl (R.pickF (congrArg Value.bool hb15) rfl) ?_
        refine LE.p (v := (Value.bool (!r18))) (Wn.no rfl) rfl (R.move rfl) ?_
        rcases M.ite_use h with ⟨hb20, h⟩ | ⟨hb20, h⟩
        · refine LE.u (Un.no 14 39 false rfl rfl rfl (congrArg Value.bool hb20)) ?_
          refine LE.u (Un.no 14 39 false rfl rfl rfl (congrArg Value.bool hb20)) ?_
          refine LE.u (Un.no 14 39 false rfl rfl rfl (congrArg Value.bool hb20)) ?_
          refine LE.p (v := (Value.bool true)) (Wn.no rfl) rfl (R.pickT (congrArg Value.bool hb20) rfl) ?_
          refine LE.nil ?_
          exact ⟨_, h, rfl, rfl, rfl, rfl⟩
        · refine LE.p (v := (SV.v r5)) (Wn.yes 14 39 false rfl rfl rfl (congrArg Value.bool hb20)) rfl (R.move rfl) ?_
          refine LE.c (Wn.yes 14 39 false rfl rfl rfl (congrArg Value.bool hb20)) rfl (R.call bd9 (Ls.cons rfl Ls.nil) rfl) (Calls.mono h ?_)
          rintro _ w22 ⟨r21, rfl, h⟩
          refine ⟨_, rfl, ?_⟩
          refine LE.p (v := (Value.bool (!r21))) (Wn.yes 14 39 false rfl rfl rfl (congrArg Value.bool hb20)) rfl (R.not rfl) ?_
          refine LE.p (v := (Value.bool (!r21))) (Wn.no rfl) rfl (R.pickF (congrArg Value.bool hb20) rfl) ?_
          refine LE.nil ?_
          exact ⟨_, h, rfl, rfl, rfl, rfl⟩
  · rintro e23 w24 ⟨x9, h, f25, f26, f27, f28⟩
    subst hJ8
    refine WE.condT rfl (b := x9) f28 ?_ ?_
    · intro hb29
      replace h := M.ite_t h hb29
      refine WE.seq ?_
      refine WE.reg ?_
      refine LE.p (v := (Value.bool false)) (Wn.no rfl) rfl (R.assign rfl) ?_
      refine LE.nil ?_
      refine WE.ret ?_
      exact ⟨_, (Res.tmp rfl Res.nil), _, rfl, h⟩
    · intro hb29
      replace h := M.ite_f h hb29
      refine WE.skip ?_
      obtain ⟨J30, hJ30, h⟩ := M.join_use h
      refine WE.join (fun e w => J30 w ∧ e 13 = (SV.v r5)) ?_ ?_
      · clear hJ30
        refine WE.seq ?_
        refine WE.reg ?_
        refine LE.p (v := (SV.v r5)) (Wn.no rfl) rfl (R.move f27) ?_
        refine LE.p (v := (Value.int .i64 (r5.len : Int))) (Wn.no rfl) rfl (R.len sl28 rfl) ?_
        refine LE.p (v := (Value.bool (decide ((0 : Int) < (r5.len : Int))))) (Wn.no rfl) rfl (R.gtr rfl rfl) ?_
        refine LE.nil ?_
        refine WE.condT rfl (b := (decide ((0 : Int) < (r5.len : Int)))) rfl ?_ ?_
        · intro hb31
          replace h := M.ite_t h hb31
          refine WE.reg ?_
          refine LE.p (v := (SV.v r5)) (Wn.no rfl) rfl (R.move f27) ?_
          refine LE.p (v := (Value.int .i64 p3)) (Wn.no rfl) rfl (R.move f25) ?_
          refine LE.p (v := (SV.v r5)) (Wn.no rfl) rfl (R.move f27) ?_
          refine LE.p (v := (Value.int .i64 (r5.len : Int))) (Wn.no rfl) rfl (R.len sl28 rfl) ?_
          refine LE.p (v := (Value.int .i64 (IntKind.i64.wrap ((r5.len : Int) - (1 : Int))))) (Wn.no rfl) rfl (R.sub rfl rfl) ?_
          refine LE.c (Wn.no rfl) rfl (R.call bd15 (Ls.cons rfl (Ls.cons rfl (Ls.cons rfl Ls.nil))) rfl) (Calls.mono h ?_)
          rintro _ w33 ⟨r32, rfl, h⟩
          refine ⟨_, rfl, ?_⟩
          obtain ⟨a34, h35, h36, h37, h⟩ := h
          refine LE.p (v := (Value.pointer (some (a34.add (r32.toNat * 1))))) (Wn.no rfl) rfl (R.idx (s := r5) sl28 rfl rfl h35 h36 h37) ?_
          obtain ⟨t38, h39, h⟩ := h
          refine LE.r (v := (Value.int .u8 t38)) (Wn.no rfl) rfl (R.ld sc5 rfl h39) ?_
          refine LE.p (v := (Value.int .u8 p4)) (Wn.no rfl) rfl (R.move f26) ?_
          refine LE.p (v := (Value.int .u8 (bXor .u8 t38 p4))) (Wn.no rfl) rfl (R.xor rfl rfl) ?_
          obtain ⟨a40, h41, h42, h43, h⟩ := h
          refine LE.p (v := (Value.pointer (some (a40.add (r32.toNat * 1))))) (Wn.no rfl) rfl (R.idx (s := r5) sl28 rfl rfl h41 h42 h43) ?_
          obtain ⟨w44, hww44, h45, h46, h⟩ := M.st_use h
          refine LE.s (Wn.no rfl) rfl (R.st (a := (a40.add (r32.toNat * 1))) (v := (Value.int .u8 (bXor .u8 t38 p4))) sz5 rfl rfl rfl rfl h45 h46 hww44) ?_
          refine LE.nil ?_
          exact ⟨h, f27⟩
        · intro hb31
          replace h := M.ite_f h hb31
          refine WE.skip ?_
          exact ⟨h, f27⟩
      · rintro e47 w48 ⟨h, f49⟩
        subst hJ30
        refine WE.seq ?_
        obtain ⟨J50, hJ50, h⟩ := M.join_use h
        refine WE.regJ (fun e w => ∃ (x51 : Bool), J50 x51 w ∧ e 10 = (Value.bool x51)) ?_ ?_
        · clear hJ50
          refine LE.p (v := (SV.v r5)) (Wn.no rfl) rfl (R.move f49) ?_
          refine LE.c (Wn.no rfl) rfl (R.call bd9 (Ls.cons rfl Ls.nil) rfl) (Calls.mono h ?_)
          rintro _ w53 ⟨r52, rfl, h⟩
          refine ⟨_, rfl, ?_⟩
          refine LE.p (v := (Value.bool r52)) (Wn.no rfl) rfl (R.move rfl) ?_
          rcases M.ite_use h with ⟨hb54, h⟩ | ⟨hb54, h⟩
          · refine LE.c (Wn.yes 2 60 true rfl rfl rfl (congrArg Value.bool hb54)) rfl (R.call bd10 Ls.nil rfl) (Calls.mono h ?_)
            rintro _ w56 ⟨r55, rfl, h⟩
            refine ⟨_, rfl, ?_⟩
            refine LE.p (v := (Value.bool r55)) (Wn.no rfl) rfl (R.pickT (congrArg Value.bool hb54) rfl) ?_
            refine LE.p (v := (Value.bool r55)) (Wn.no rfl) rfl (R.assign rfl) ?_
            refine LE.nil ?_
            exact ⟨_, h, rfl⟩
          · refine LE.u (Un.no 2 60 true rfl rfl rfl (congrArg Value.bool hb54)) ?_
            refine LE.p (v := (Value.bool false)) (Wn.no rfl) rfl (R.pickF (congrArg Value.bool hb54) rfl) ?_
            refine LE.p (v := (Value.bool false)) (Wn.no rfl) rfl (R.assign rfl) ?_
            refine LE.nil ?_
            exact ⟨_, h, rfl⟩
        · rintro e57 w58 ⟨x51, h, f59⟩
          subst hJ50
          refine WE.ret ?_
          exact ⟨_, (Res.tmp f59 Res.nil), _, rfl, h⟩
/-- The formula of signpost.signpostlaw8.NlriBack. -/
def F5 (p0 : SV) (p1 : SV) (p2 : Int) (K : Bool → World → Prop) (w0 : World) : Prop :=
Calls Try.prog 11 #[(SV.v p0), (SV.v p1)] w0 (R11 fun r1 w2 =>
Calls Try.prog 12 #[(SV.v r1)] w2 (R12 fun r3 w4 =>
Calls Try.prog 16 #[(SV.v r3)] w4 (R16 fun r5 r6 w7 =>
Calls Try.prog 17 #[(SV.v r5)] w7 (R17 fun r8 r9 w10 =>
M.loop2 (fun (J13 : Int → Int → World → Prop) (x11 : Int) (x12 : Int) (w14 : World) => 
M.ite (decide (x12 < (r3.len : Int))) (
M.idx r3 x12 2 fun a30 =>
M.ld (Value.int .u32) (a30.add (x12.toNat * 2)) w14 fun t34 =>
M.ld (Value.int .i64) ((a30.add (x12.toNat * 2)).add 1) w14 fun t36 =>
Calls Try.prog 18 #[(Value.agg #[(Value.int .u32 t34), (Value.int .i64 t36)])] w14 (R18 fun r38 w39 =>
J13 (IntKind.i64.wrap (x11 + r38)) (IntKind.i64.wrap (x12 + (1 : Int))) w39)) (
Calls Try.prog 15 #[(Value.int .i64 p2), (Value.int .i64 (0 : Int)), (Value.int .i64 (r3.len : Int))] w14 (R15 fun r40 w41 =>
M.bnd (0 : Int) r40 r3 <|
Calls Try.prog 16 #[(SV.v (SV.sub r3 (Int.toNat (0 : Int)) (Int.toNat r40) 2))] w41 (R16 fun r46 r47 w48 =>
M.bnd r40 (r3.len : Int) r3 <|
Calls Try.prog 16 #[(SV.v (SV.sub r3 (Int.toNat r40) (Int.toNat (r3.len : Int)) 2))] w48 (R16 fun r53 r54 w55 =>
M.join (fun (x57 : Bool) (w77 : World) => 
K x57 w77) fun J56 => 
M.ite (r6 == (0 : Int)) (
M.ite r9 (
Calls Try.prog 19 #[(SV.v r3), (SV.v r8)] w55 (R19 fun r60 w61 =>
M.ite r60 (
M.ite ((r5.len : Int) == x11) (
M.ite (r47 == (0 : Int)) (
M.ite (r54 == (0 : Int)) (
M.b2s Try.prog 28 9 r46 w61 fun t66 =>
M.b2s Try.prog 28 9 r53 w61 fun t68 =>
M.cat t66 t68 <|
M.b2s Try.prog 28 9 r5 w61 fun t71 =>
M.ite ((t66 ++ t68).toList == t71.toList) (
Calls Try.prog 10 #[] w61 (R10 fun r74 w75 =>
J56 r74 w75)) (
J56 false w61)) (
J56 false w61)) (
J56 false w61)) (
J56 false w61)) (
J56 false w61))) (
J56 false w55)) (
J56 false w55)))))) (0 : Int) (0 : Int) w10))))
theorem F5_ok {w0 : World} {p0 : SV} {p1 : SV} {p2 : Int} {K : Bool → World → Prop} (h : F5 p0 p1 p2 K w0) : Calls Try.prog 5 #[(SV.v p0), (SV.v p1), (Value.int .i64 p2)] w0 (R5 K) := by
  refine calls_of_WE (args := [(SV.v p0), (SV.v p1), (Value.int .i64 p2)]) (rs := [.tmp 6]) Try.func5 rfl (N := 101) rfl rfl rfl rfl ?_
  refine WE.seq ?_
  refine WE.reg ?_
  refine LE.p (v := (Value.bool false)) (Wn.no rfl) rfl (R.assign rfl) ?_
  refine LE.nil ?_
  refine WE.seq ?_
  refine WE.reg ?_
  refine LE.p (v := (SV.v p0)) (Wn.no rfl) rfl (R.move rfl) ?_
  refine LE.p (v := (SV.v p1)) (Wn.no rfl) rfl (R.move rfl) ?_
  refine LE.c (Wn.no rfl) rfl (R.call bd11 (Ls.cons rfl (Ls.cons rfl Ls.nil)) rfl) (Calls.mono h ?_)
  rintro _ w2 ⟨r1, rfl, h⟩
  refine ⟨_, rfl, ?_⟩
  refine LE.c (Wn.no rfl) rfl (R.call bd12 (Ls.cons rfl Ls.nil) rfl) (Calls.mono h ?_)
  rintro _ w4 ⟨r3, rfl, h⟩
  refine ⟨_, rfl, ?_⟩
  refine LE.p (v := (SV.v r3)) (Wn.no rfl) rfl (R.assign rfl) ?_
  refine LE.nil ?_
  refine WE.seq ?_
  refine WE.reg ?_
  refine LE.p (v := (SV.v r3)) (Wn.no rfl) rfl (R.move rfl) ?_
  refine LE.c (Wn.no rfl) rfl (R.call bd16 (Ls.cons rfl Ls.nil) rfl) (Calls.mono h ?_)
  rintro _ w7 ⟨r5, r6, rfl, h⟩
  refine ⟨_, rfl, ?_⟩
  refine LE.p (v := (Value.tuple #[(SV.v r5), (Value.int .i64 r6)])) (Wn.no rfl) rfl (R.move rfl) ?_
  refine LE.p (v := (SV.v r5)) (Wn.no rfl) rfl (R.ext rfl rfl) ?_
  refine LE.p (v := (Value.int .i64 r6)) (Wn.no rfl) rfl (R.ext rfl rfl) ?_
  refine LE.p (v := (SV.v r5)) (Wn.no rfl) rfl (R.assign rfl) ?_
  refine LE.p (v := (Value.int .i64 r6)) (Wn.no rfl) rfl (R.assign rfl) ?_
  refine LE.nil ?_
  refine WE.seq ?_
  refine WE.reg ?_
  refine LE.p (v := (SV.v r5)) (Wn.no rfl) rfl (R.move rfl) ?_
  refine LE.c (Wn.no rfl) rfl (R.call bd17 (Ls.cons rfl Ls.nil) rfl) (Calls.mono h ?_)
  rintro _ w10 ⟨r8, r9, rfl, h⟩
  refine ⟨_, rfl, ?_⟩
  refine LE.p (v := (Value.tuple #[(SV.v r8), (Value.bool r9)])) (Wn.no rfl) rfl (R.move rfl) ?_
  refine LE.p (v := (SV.v r8)) (Wn.no rfl) rfl (R.ext rfl rfl) ?_
  refine LE.p (v := (Value.bool r9)) (Wn.no rfl) rfl (R.ext rfl rfl) ?_
  refine LE.p (v := (SV.v r8)) (Wn.no rfl) rfl (R.assign rfl) ?_
  refine LE.p (v := (Value.bool r9)) (Wn.no rfl) rfl (R.assign rfl) ?_
  refine LE.nil ?_
  refine WE.seq ?_
  refine WE.reg ?_
  refine LE.p (v := (Value.int .i64 (0 : Int))) (Wn.no rfl) rfl (R.assign rfl) ?_
  refine LE.nil ?_
  refine WE.seq ?_
  refine WE.seq ?_
  refine WE.reg ?_
  refine LE.p (v := (Value.int .i64 (0 : Int))) (Wn.no rfl) rfl (R.assign rfl) ?_
  refine LE.nil ?_
  refine WE.block ?_
  obtain ⟨I17, ⟨n16, h⟩, hr18⟩ := h
  refine WE.loop (fun n e w => ∃ (x11 : Int) (x12 : Int), I17 n x11 x12 w ∧ e 2 = (Value.int .i64 p2) ∧ e 7 = (SV.v r3) ∧ e 8 = (SV.v r5) ∧ e 9 = (Value.int .i64 r6) ∧ e 10 = (SV.v r8) ∧ e 11 = (Value.bool r9) ∧ e 12 = (Value.int .i64 x11) ∧ e 13 = (Value.int .i64 x12)) n16 ⟨_, _, h, rfl, rfl, rfl, rfl, rfl, rfl, rfl, rfl⟩ ?_
  clear h
  rintro n16 e15 w14 ⟨x11, x12, h, f21, f22, f23, f24, f25, f26, f27, f28⟩
  replace h := hr18 n16 x11 x12 w14 h
  refine WE.seq ?_
  refine WE.seq ?_
  refine WE.reg ?_
  refine LE.p (v := (Value.int .i64 x12)) (Wn.no rfl) rfl (R.move f28) ?_
  refine LE.p (v := (SV.v r3)) (Wn.no rfl) rfl (R.move f22) ?_
  refine LE.p (v := (Value.int .i64 (r3.len : Int))) (Wn.no rfl) rfl (R.len sl27 rfl) ?_
  refine LE.p (v := (Value.bool (decide (x12 < (r3.len : Int))))) (Wn.no rfl) rfl (R.lss rfl rfl) ?_
  refine LE.nil ?_
  refine WE.condT rfl (b := (decide (x12 < (r3.len : Int)))) rfl ?_ ?_
  · intro hb29
    replace h := M.ite_t h hb29
    refine WE.skip ?_
    refine WE.seq ?_
    refine WE.block ?_
    refine WE.reg ?_
    refine LE.p (v := (Value.int .i64 x11)) (Wn.no rfl) rfl (R.move f27) ?_
    refine LE.p (v := (SV.v r3)) (Wn.no rfl) rfl (R.move f22) ?_
    refine LE.p (v := (Value.int .i64 x12)) (Wn.no rfl) rfl (R.move f28) ?_
    obtain ⟨a30, h31, h32, h33, h⟩ := h
    refine LE.p (v := (Value.pointer (some (a30.add (x12.toNat * 2))))) (Wn.no rfl) rfl (R.idx (s := r3) sl27 rfl rfl h31 h32 h33) ?_
    obtain ⟨t34, h35, h⟩ := h
    obtain ⟨t36, h37, h⟩ := h
    refine LE.r (v := (Value.agg #[(Value.int .u32 t34), (Value.int .i64 t36)])) (Wn.no rfl) rfl (R.ldA ag24 sz24 rfl rfl (Cs.cons h35 (Cs.cons h37 Cs.nil))) ?_
    refine LE.c (Wn.no rfl) rfl (R.call bd18 (Ls.cons rfl Ls.nil) rfl) (Calls.mono h ?_)
    rintro _ w39 ⟨r38, rfl, h⟩
    refine ⟨_, rfl, ?_⟩
    refine LE.p (v := (Value.int .i64 (IntKind.i64.wrap (x11 + r38)))) (Wn.no rfl) rfl (R.add rfl rfl) ?_
    refine LE.p (v := (Value.int .i64 (IntKind.i64.wrap (x11 + r38)))) (Wn.no rfl) rfl (R.assign rfl) ?_
    refine LE.nil ?_
    refine WE.reg ?_
    refine LE.p (v := (Value.int .i64 x12)) (Wn.no rfl) rfl (R.move f28) ?_
    refine LE.p (v := (Value.int .i64 (IntKind.i64.wrap (x12 + (1 : Int))))) (Wn.no rfl) rfl (R.add rfl rfl) ?_
    refine LE.p (v := (Value.int .i64 (IntKind.i64.wrap (x12 + (1 : Int))))) (Wn.no rfl) rfl (R.assign rfl) ?_
    refine LE.nil ?_
    obtain ⟨m19, hm20, h⟩ := h
    exact ⟨m19, hm20, _, _, h, f21, f22, f23, f24, f25, f26, rfl, rfl⟩
  · intro hb29
    replace h := M.ite_f h hb29
    refine WE.exit ?_
    refine WE.seq ?_
    refine WE.reg ?_
    refine LE.p (v := (Value.int .i64 p2)) (Wn.no rfl) rfl (R.move f21) ?_
    refine LE.p (v := (SV.v r3)) (Wn.no rfl) rfl (R.move f22) ?_
    refine LE.p (v := (Value.int .i64 (r3.len : Int))) (Wn.no rfl) rfl (R.len sl27 rfl) ?_
    refine LE.c (Wn.no rfl) rfl (R.call bd15 (Ls.cons rfl (Ls.cons rfl (Ls.cons rfl Ls.nil))) rfl) (Calls.mono h ?_)
    rintro _ w41 ⟨r40, rfl, h⟩
    refine ⟨_, rfl, ?_⟩
    refine LE.p (v := (Value.int .i64 r40)) (Wn.no rfl) rfl (R.assign rfl) ?_
    refine LE.nil ?_
    refine WE.seq ?_
    refine WE.reg ?_
    refine LE.p (v := (SV.v r3)) (Wn.no rfl) rfl (R.move f22) ?_
    refine LE.p (v := (Value.int .i64 r40)) (Wn.no rfl) rfl (R.move rfl) ?_
    obtain ⟨h42, h43, h44, h⟩ := h
    refine LE.p (v := (SV.v (SV.sub r3 (Int.toNat (0 : Int)) (Int.toNat r40) 2))) (Wn.no rfl) rfl (R.slc (s := r3) (lo := (0 : Int)) (hi := r40) _ _ sl27 rfl rfl rfl h42 h43 h44) ?_
    refine LE.c (Wn.no rfl) rfl (R.call bd16 (Ls.cons rfl Ls.nil) rfl) (Calls.mono h ?_)
    rintro _ w48 ⟨r46, r47, rfl, h⟩
    refine ⟨_, rfl, ?_⟩
    refine LE.p (v := (Value.tuple #[(SV.v r46), (Value.int .i64 r47)])) (Wn.no rfl) rfl (R.move rfl) ?_
    refine LE.p (v := (SV.v r46)) (Wn.no rfl) rfl (R.ext rfl rfl) ?_
    refine LE.p (v := (Value.int .i64 r47)) (Wn.no rfl) rfl (R.ext rfl rfl) ?_
    refine LE.p (v := (SV.v r46)) (Wn.no rfl) rfl (R.assign rfl) ?_
    refine LE.p (v := (Value.int .i64 r47)) (Wn.no rfl) rfl (R.assign rfl) ?_
    refine LE.nil ?_
    refine WE.seq ?_
    refine WE.reg ?_
    refine LE.p (v := (SV.v r3)) (Wn.no rfl) rfl (R.move f22) ?_
    refine LE.p (v := (Value.int .i64 r40)) (Wn.no rfl) rfl (R.move rfl) ?_
    obtain ⟨h49, h50, h51, h⟩ := h
    refine LE.p (v := (SV.v (SV.sub r3 (Int.toNat r40) (Int.toNat (r3.len : Int)) 2))) (Wn.no rfl) rfl (R.slc (s := r3) (lo := r40) (hi := (r3.len : Int)) _ _ sl27 rfl rfl rfl h49 h50 h51) ?_
    refine LE.c (Wn.no rfl) rfl (R.call bd16 (Ls.cons rfl Ls.nil) rfl) (Calls.mono h ?_)
    rintro _ w55 ⟨r53, r54, rfl, h⟩
    refine ⟨_, rfl, ?_⟩
    refine LE.p (v := (Value.tuple #[(SV.v r53), (Value.int .i64 r54)])) (Wn.no rfl) rfl (R.move rfl) ?_
    refine LE.p (v := (SV.v r53)) (Wn.no rfl) rfl (R.ext rfl rfl) ?_
    refine LE.p (v := (Value.int .i64 r54)) (Wn.no rfl) rfl (R.ext rfl rfl) ?_
    refine LE.p (v := (SV.v r53)) (Wn.no rfl) rfl (R.assign rfl) ?_
    refine LE.p (v := (Value.int .i64 r54)) (Wn.no rfl) rfl (R.assign rfl) ?_
    refine LE.nil ?_
    refine WE.seq ?_
    obtain ⟨J56, hJ56, h⟩ := M.join_use h
    refine WE.regJ (fun e w => ∃ (x57 : Bool), J56 x57 w ∧ e 6 = (Value.bool x57)) ?_ ?_
    · clear hJ56
      refine LE.p (v := (Value.int .i64 r6)) (Wn.no rfl) rfl (R.move f24) ?_
      refine LE.p (v := (Value.bool (r6 == (0 : Int)))) (Wn.no rfl) rfl (R.eql rfl rfl) ?_
      refine LE.p (v := (Value.bool (r6 == (0 : Int)))) (Wn.no rfl) rfl (R.move rfl) ?_
      rcases M.ite_use h with ⟨hb58, h⟩ | ⟨hb58, h⟩
      · refine LE.p (v := (Value.bool r9)) (Wn.yes 2 66 true rfl rfl rfl (congrArg Value.bool hb58)) rfl (R.move f26) ?_
        refine LE.p (v := (Value.bool r9)) (Wn.no rfl) rfl (R.pickT (congrArg Value.bool hb58) rfl) ?_
        refine LE.p (v := (Value.bool r9)) (Wn.no rfl) rfl (R.move rfl) ?_
        rcases M.ite_use h with ⟨hb59, h⟩ | ⟨hb59, h⟩
        · refine LE.p (v := (SV.v r3)) (Wn.yes 5 69 true rfl rfl rfl (congrArg Value.bool hb59)) rfl (R.move f22) ?_
          refine LE.p (v := (SV.v r8)) (Wn.yes 5 69 true rfl rfl rfl (congrArg Value.bool hb59)) rfl (R.move f25) ?_
          refine LE.c (Wn.yes 5 69 true rfl rfl rfl (congrArg Value.bool hb59)) rfl (R.call bd19 (Ls.cons rfl (Ls.cons rfl Ls.nil)) rfl) (Calls.mono h ?_)
          rintro _ w61 ⟨r60, rfl, h⟩
          refine ⟨_, rfl, ?_⟩
          refine LE.p (v := (Value.bool r60)) (Wn.no rfl) rfl (R.pickT (congrArg Value.bool hb59) rfl) ?_
          refine LE.p (v := (Value.bool r60)) (Wn.no rfl) rfl (R.move rfl) ?_
          rcases M.ite_use h with ⟨hb62, h⟩ | ⟨hb62, h⟩
          · refine LE.p (v := (SV.v r5)) (Wn.yes 10 74 true rfl rfl rfl (congrArg Value.bool hb62)) rfl (R.move f23) ?_
            refine LE.p (v := (Value.int .i64 (r5.len : Int))) (Wn.yes 10 74 true rfl rfl rfl (congrArg Value.bool hb62)) rfl (R.len sl28 rfl) ?_
            refine LE.p (v := (Value.int .i64 x11)) (Wn.yes 10 74 true rfl rfl rfl (congrArg Value.bool hb62)) rfl (R.move f27) ?_
            refine LE.p (v := (Value.bool ((r5.len : Int) == x11))) (Wn.yes 10 74 true rfl rfl rfl (congrArg Value.bool hb62)) rfl (R.eql rfl rfl) ?_
            refine LE.p (v := (Value.bool ((r5.len : Int) == x11))) (Wn.no rfl) rfl (R.pickT (congrArg Value.bool hb62) rfl) ?_
            refine LE.p (v := (Value.bool ((r5.len : Int) == x11))) (Wn.no rfl) rfl (R.move rfl) ?_
            rcases M.ite_use h with ⟨hb63, h⟩ | ⟨hb63, h⟩
            · refine LE.p (v := (Value.int .i64 r47)) (Wn.yes 16 80 true rfl rfl rfl (congrArg Value.bool hb63)) rfl (R.move rfl) ?_
              refine LE.p (v := (Value.bool (r47 == (0 : Int)))) (Wn.yes 16 80 true rfl rfl rfl (congrArg Value.bool hb63)) rfl (R.eql rfl rfl) ?_
              refine LE.p (v := (Value.bool (r47 == (0 : Int)))) (Wn.no rfl) rfl (R.pickT (congrArg Value.bool hb63) rfl) ?_
              refine LE.p (v := (Value.bool (r47 == (0 : Int)))) (Wn.no rfl) rfl (R.move rfl) ?_
              rcases M.ite_use h with ⟨hb64, h⟩ | ⟨hb64, h⟩
              · refine LE.p (v := (Value.int .i64 r54)) (Wn.yes 20 84 true rfl rfl rfl (congrArg Value.bool hb64)) rfl (R.move rfl) ?_
                refine LE.p (v := (Value.bool (r54 == (0 : Int)))) (Wn.yes 20 84 true rfl rfl rfl (congrArg Value.bool hb64)) rfl (R.eql rfl rfl) ?_
                refine LE.p (v := (Value.bool (r54 == (0 : Int)))) (Wn.no rfl) rfl (R.pickT (congrArg Value.bool hb64) rfl) ?_
                refine LE.p (v := (Value.bool (r54 == (0 : Int)))) (Wn.no rfl) rfl (R.move rfl) ?_
                rcases M.ite_use h with ⟨hb65, h⟩ | ⟨hb65, h⟩
                · refine LE.p (v := (SV.v r46)) (Wn.yes 24 88 true rfl rfl rfl (congrArg Value.bool hb65)) rfl (R.move rfl) ?_
                  obtain ⟨t66, h67, h⟩ := h
                  refine LE.r (v := (Value.string t66)) (Wn.yes 24 88 true rfl rfl rfl (congrArg Value.bool hb65)) rfl (R.b2s (s := r46) h67 rfl) ?_
                  refine LE.p (v := (SV.v r53)) (Wn.yes 24 88 true rfl rfl rfl (congrArg Value.bool hb65)) rfl (R.move rfl) ?_
                  obtain ⟨t68, h69, h⟩ := h
                  refine LE.r (v := (Value.string t68)) (Wn.yes 24 88 true rfl rfl rfl (congrArg Value.bool hb65)) rfl (R.b2s (s := r53) h69 rfl) ?_
                  obtain ⟨h70, h⟩ := h
                  refine LE.p (v := (Value.string (t66 ++ t68))) (Wn.yes 24 88 true rfl rfl rfl (congrArg Value.bool hb65)) rfl (R.sadd rfl rfl h70) ?_
                  refine LE.p (v := (SV.v r5)) (Wn.yes 24 88 true rfl rfl rfl (congrArg Value.bool hb65)) rfl (R.move f23) ?_
                  obtain ⟨t71, h72, h⟩ := h
                  refine LE.r (v := (Value.string t71)) (Wn.yes 24 88 true rfl rfl rfl (congrArg Value.bool hb65)) rfl (R.b2s (s := r5) h72 rfl) ?_
                  refine LE.p (v := (Value.bool ((t66 ++ t68).toList == t71.toList))) (Wn.yes 24 88 true rfl rfl rfl (congrArg Value.bool hb65)) rfl (R.seql rfl rfl) ?_
                  refine LE.p (v := (Value.bool ((t66 ++ t68).toList == t71.toList))) (Wn.no rfl) rfl (R.pickT (congrArg Value.bool hb65) rfl) ?_
                  refine LE.p (v := (Value.bool ((t66 ++ t68).toList == t71.toList))) (Wn.no rfl) rfl (R.move rfl) ?_
                  rcases M.ite_use h with ⟨hb73, h⟩ | ⟨hb73, h⟩
                  · refine LE.c (Wn.yes 34 98 true rfl rfl rfl (congrArg Value.bool hb73)) rfl (R.call bd10 Ls.nil rfl) (Calls.mono h ?_)
                    rintro _ w75 ⟨r74, rfl, h⟩
                    refine ⟨_, rfl, ?_⟩
                    refine LE.p (v := (Value.bool r74)) (Wn.no rfl) rfl (R.pickT (congrArg Value.bool hb73) rfl) ?_
                    refine LE.p (v := (Value.bool r74)) (Wn.no rfl) rfl (R.assign rfl) ?_
                    refine LE.nil ?_
                    exact ⟨_, h, rfl⟩
                  · refine LE.u (Un.no 34 98 true rfl rfl rfl (congrArg Value.bool hb73)) ?_
                    refine LE.p (v := (Value.bool false)) (Wn.no rfl) rfl (R.pickF (congrArg Value.bool hb73) rfl) ?_
                    refine LE.p (v := (Value.bool false)) (Wn.no rfl) rfl (R.assign rfl) ?_
                    refine LE.nil ?_
                    exact ⟨_, h, rfl⟩
                · refine LE.u (Un.no 24 88 true rfl rfl rfl (congrArg Value.bool hb65)) ?_
                  refine LE.u (Un.no 24 88 true rfl rfl rfl (congrArg Value.bool hb65)) ?_
                  refine LE.u (Un.no 24 88 true rfl rfl rfl (congrArg Value.bool hb65)) ?_
                  refine LE.u (Un.no 24 88 true rfl rfl rfl (congrArg Value.bool hb65)) ?_
                  refine LE.u (Un.no 24 88 true rfl rfl rfl (congrArg Value.bool hb65)) ?_
                  refine LE.u (Un.no 24 88 true rfl rfl rfl (congrArg Value.bool hb65)) ?_
                  refine LE.u (Un.no 24 88 true rfl rfl rfl (congrArg Value.bool hb65)) ?_
                  refine LE.u (Un.no 24 88 true rfl rfl rfl (congrArg Value.bool hb65)) ?_
                  refine LE.p (v := (Value.bool false)) (Wn.no rfl) rfl (R.pickF (congrArg Value.bool hb65) rfl) ?_
                  refine LE.p (v := (Value.bool false)) (Wn.no rfl) rfl (R.move rfl) ?_
                  refine LE.u (Un.no 34 98 true rfl rfl rfl rfl) ?_
                  refine LE.p (v := (Value.bool false)) (Wn.no rfl) rfl (R.pickF rfl rfl) ?_
                  refine LE.p (v := (Value.bool false)) (Wn.no rfl) rfl (R.assign rfl) ?_
                  refine LE.nil ?_
                  exact ⟨_, h, rfl⟩
              · refine LE.u (Un.no 20 84 true rfl rfl rfl (congrArg Value.bool hb64)) ?_
                refine LE.u (Un.no 20 84 true rfl rfl rfl (congrArg Value.bool hb64)) ?_
                refine LE.p (v := (Value.bool false)) (Wn.no rfl) rfl (R.pickF (congrArg Value.bool hb64) rfl) ?_
                refine LE.p (v := (Value.bool false)) (Wn.no rfl) rfl (R.move rfl) ?_
                refine LE.u (Un.no 24 88 true rfl rfl rfl rfl) ?_
                refine LE.u (Un.no 24 88 true rfl rfl rfl rfl) ?_
                refine LE.u (Un.no 24 88 true rfl rfl rfl rfl) ?_
                refine LE.u (Un.no 24 88 true rfl rfl rfl rfl) ?_
                refine LE.u (Un.no 24 88 true rfl rfl rfl rfl) ?_
                refine LE.u (Un.no 24 88 true rfl rfl rfl rfl) ?_
                refine LE.u (Un.no 24 88 true rfl rfl rfl rfl) ?_
                refine LE.u (Un.no 24 88 true rfl rfl rfl rfl) ?_
                refine LE.p (v := (Value.bool false)) (Wn.no rfl) rfl (R.pickF rfl rfl) ?_
                refine LE.p (v := (Value.bool false)) (Wn.no rfl) rfl (R.move rfl) ?_
                refine LE.u (Un.no 34 98 true rfl rfl rfl rfl) ?_
                refine LE.p (v := (Value.bool false)) (Wn.no rfl) rfl (R.pickF rfl rfl) ?_
                refine LE.p (v := (Value.bool false)) (Wn.no rfl) rfl (R.assign rfl) ?_
                refine LE.nil ?_
                exact ⟨_, h, rfl⟩
            · refine LE.u (Un.no 16 80 true rfl rfl rfl (congrArg Value.bool hb63)) ?_
              refine LE.u (Un.no 16 80 true rfl rfl rfl (congrArg Value.bool hb63)) ?_
              refine LE.p (v := (Value.bool false)) (Wn.no rfl) rfl (R.pickF (congrArg Value.bool hb63) rfl) ?_
              refine LE.p (v := (Value.bool false)) (Wn.no rfl) rfl (R.move rfl) ?_
              refine LE.u (Un.no 20 84 true rfl rfl rfl rfl) ?_
              refine LE.u (Un.no 20 84 true rfl rfl rfl rfl) ?_
              refine LE.p (v := (Value.bool false)) (Wn.no rfl) rfl (R.pickF rfl rfl) ?_
              refine LE.p (v := (Value.bool false)) (Wn.no rfl) rfl (R.move rfl) ?_
              refine LE.u (Un.no 24 88 true rfl rfl rfl rfl) ?_
              refine LE.u (Un.no 24 88 true rfl rfl rfl rfl) ?_
              refine LE.u (Un.no 24 88 true rfl rfl rfl rfl) ?_
              refine LE.u (Un.no 24 88 true rfl rfl rfl rfl) ?_
              refine LE.u (Un.no 24 88 true rfl rfl rfl rfl) ?_
              refine LE.u (Un.no 24 88 true rfl rfl rfl rfl) ?_
              refine LE.u (Un.no 24 88 true rfl rfl rfl rfl) ?_
              refine LE.u (Un.no 24 88 true rfl rfl rfl rfl) ?_
              refine LE.p (v := (Value.bool false)) (Wn.no rfl) rfl (R.pickF rfl rfl) ?_
              refine LE.p (v := (Value.bool false)) (Wn.no rfl) rfl (R.move rfl) ?_
              refine LE.u (Un.no 34 98 true rfl rfl rfl rfl) ?_
              refine LE.p (v := (Value.bool false)) (Wn.no rfl) rfl (R.pickF rfl rfl) ?_
              refine LE.p (v := (Value.bool false)) (Wn.no rfl) rfl (R.assign rfl) ?_
              refine LE.nil ?_
              exact ⟨_, h, rfl⟩
          · refine LE.u (Un.no 10 74 true rfl rfl rfl (congrArg Value.bool hb62)) ?_
            refine LE.u (Un.no 10 74 true rfl rfl rfl (congrArg Value.bool hb62)) ?_
            refine LE.u (Un.no 10 74 true rfl rfl rfl (congrArg Value.bool hb62)) ?_
            refine LE.u (Un.no 10 74 true rfl rfl rfl (congrArg Value.bool hb62)) ?_
            refine LE.p (v := (Value.bool false)) (Wn.no rfl) rfl (R.pickF (congrArg Value.bool hb62) rfl) ?_
            refine LE.p (v := (Value.bool false)) (Wn.no rfl) rfl (R.move rfl) ?_
            refine LE.u (Un.no 16 80 true rfl rfl rfl rfl) ?_
            refine LE.u (Un.no 16 80 true rfl rfl rfl rfl) ?_
            refine LE.p (v := (Value.bool false)) (Wn.no rfl) rfl (R.pickF rfl rfl) ?_
            refine LE.p (v := (Value.bool false)) (Wn.no rfl) rfl (R.move rfl) ?_
            refine LE.u (Un.no 20 84 true rfl rfl rfl rfl) ?_
            refine LE.u (Un.no 20 84 true rfl rfl rfl rfl) ?_
            refine LE.p (v := (Value.bool false)) (Wn.no rfl) rfl (R.pickF rfl rfl) ?_
            refine LE.p (v := (Value.bool false)) (Wn.no rfl) rfl (R.move rfl) ?_
            refine LE.u (Un.no 24 88 true rfl rfl rfl rfl) ?_
            refine LE.u (Un.no 24 88 true rfl rfl rfl rfl) ?_
            refine LE.u (Un.no 24 88 true rfl rfl rfl rfl) ?_
            refine LE.u (Un.no 24 88 true rfl rfl rfl rfl) ?_
            refine LE.u (Un.no 24 88 true rfl rfl rfl rfl) ?_
            refine LE.u (Un.no 24 88 true rfl rfl rfl rfl) ?_
            refine LE.u (Un.no 24 88 true rfl rfl rfl rfl) ?_
            refine LE.u (Un.no 24 88 true rfl rfl rfl rfl) ?_
            refine LE.p (v := (Value.bool false)) (Wn.no rfl) rfl (R.pickF rfl rfl) ?_
            refine LE.p (v := (Value.bool false)) (Wn.no rfl) rfl (R.move rfl) ?_
            refine LE.u (Un.no 34 98 true rfl rfl rfl rfl) ?_
            refine LE.p (v := (Value.bool false)) (Wn.no rfl) rfl (R.pickF rfl rfl) ?_
            refine LE.p (v := (Value.bool false)) (Wn.no rfl) rfl (R.assign rfl) ?_
            refine LE.nil ?_
            exact ⟨_, h, rfl⟩
        · refine LE.u (Un.no 5 69 true rfl rfl rfl (congrArg Value.bool hb59)) ?_
          refine LE.u (Un.no 5 69 true rfl rfl rfl (congrArg Value.bool hb59)) ?_
          refine LE.u (Un.no 5 69 true rfl rfl rfl (congrArg Value.bool hb59)) ?_
          refine LE.p (v := (Value.bool false)) (Wn.no rfl) rfl (R.pickF (congrArg Value.bool hb59) rfl) ?_
          refine LE.p (v := (Value.bool false)) (Wn.no rfl) rfl (R.move rfl) ?_
          refine LE.u (Un.no 10 74 true rfl rfl rfl rfl) ?_
          refine LE.u (Un.no 10 74 true rfl rfl rfl rfl) ?_
          refine LE.u (Un.no 10 74 true rfl rfl rfl rfl) ?_
          refine LE.u (Un.no 10 74 true rfl rfl rfl rfl) ?_
          refine LE.p (v := (Value.bool false)) (Wn.no rfl) rfl (R.pickF rfl rfl) ?_
          refine LE.p (v := (Value.bool false)) (Wn.no rfl) rfl (R.move rfl) ?_
          refine LE.u (Un.no 16 80 true rfl rfl rfl rfl) ?_
          refine LE.u (Un.no 16 80 true rfl rfl rfl rfl) ?_
          refine LE.p (v := (Value.bool false)) (Wn.no rfl) rfl (R.pickF rfl rfl) ?_
          refine LE.p (v := (Value.bool false)) (Wn.no rfl) rfl (R.move rfl) ?_
          refine LE.u (Un.no 20 84 true rfl rfl rfl rfl) ?_
          refine LE.u (Un.no 20 84 true rfl rfl rfl rfl) ?_
          refine LE.p (v := (Value.bool false)) (Wn.no rfl) rfl (R.pickF rfl rfl) ?_
          refine LE.p (v := (Value.bool false)) (Wn.no rfl) rfl (R.move rfl) ?_
          refine LE.u (Un.no 24 88 true rfl rfl rfl rfl) ?_
          refine LE.u (Un.no 24 88 true rfl rfl rfl rfl) ?_
          refine LE.u (Un.no 24 88 true rfl rfl rfl rfl) ?_
          refine LE.u (Un.no 24 88 true rfl rfl rfl rfl) ?_
          refine LE.u (Un.no 24 88 true rfl rfl rfl rfl) ?_
          refine LE.u (Un.no 24 88 true rfl rfl rfl rfl) ?_
          refine LE.u (Un.no 24 88 true rfl rfl rfl rfl) ?_
          refine LE.u (Un.no 24 88 true rfl rfl rfl rfl) ?_
          refine LE.p (v := (Value.bool false)) (Wn.no rfl) rfl (R.pickF rfl rfl) ?_
          refine LE.p (v := (Value.bool false)) (Wn.no rfl) rfl (R.move rfl) ?_
          refine LE.u (Un.no 34 98 true rfl rfl rfl rfl) ?_
          refine LE.p (v := (Value.bool false)) (Wn.no rfl) rfl (R.pickF rfl rfl) ?_
          refine LE.p (v := (Value.bool false)) (Wn.no rfl) rfl (R.assign rfl) ?_
          refine LE.nil ?_
          exact ⟨_, h, rfl⟩
      · refine LE.u (Un.no 2 66 true rfl rfl rfl (congrArg Value.bool hb58)) ?_
        refine LE.p (v := (Value.bool false)) (Wn.no rfl) rfl (R.pickF (congrArg Value.bool hb58) rfl) ?_
        refine LE.p (v := (Value.bool false)) (Wn.no rfl) rfl (R.move rfl) ?_
        refine LE.u (Un.no 5 69 true rfl rfl rfl rfl) ?_
        refine LE.u (Un.no 5 69 true rfl rfl rfl rfl) ?_
        refine LE.u (Un.no 5 69 true rfl rfl rfl rfl) ?_
        refine LE.p (v := (Value.bool false)) (Wn.no rfl) rfl (R.pickF rfl rfl) ?_
        refine LE.p (v := (Value.bool false)) (Wn.no rfl) rfl (R.move rfl) ?_
        refine LE.u (Un.no 10 74 true rfl rfl rfl rfl) ?_
        refine LE.u (Un.no 10 74 true rfl rfl rfl rfl) ?_
        refine LE.u (Un.no 10 74 true rfl rfl rfl rfl) ?_
        refine LE.u (Un.no 10 74 true rfl rfl rfl rfl) ?_
        refine LE.p (v := (Value.bool false)) (Wn.no rfl) rfl (R.pickF rfl rfl) ?_
        refine LE.p (v := (Value.bool false)) (Wn.no rfl) rfl (R.move rfl) ?_
        refine LE.u (Un.no 16 80 true rfl rfl rfl rfl) ?_
        refine LE.u (Un.no 16 80 true rfl rfl rfl rfl) ?_
        refine LE.p (v := (Value.bool false)) (Wn.no rfl) rfl (R.pickF rfl rfl) ?_
        refine LE.p (v := (Value.bool false)) (Wn.no rfl) rfl (R.move rfl) ?_
        refine LE.u (Un.no 20 84 true rfl rfl rfl rfl) ?_
        refine LE.u (Un.no 20 84 true rfl rfl rfl rfl) ?_
        refine LE.p (v := (Value.bool false)) (Wn.no rfl) rfl (R.pickF rfl rfl) ?_
        refine LE.p (v := (Value.bool false)) (Wn.no rfl) rfl (R.move rfl) ?_
        refine LE.u (Un.no 24 88 true rfl rfl rfl rfl) ?_
        refine LE.u (Un.no 24 88 true rfl rfl rfl rfl) ?_
        refine LE.u (Un.no 24 88 true rfl rfl rfl rfl) ?_
        refine LE.u (Un.no 24 88 true rfl rfl rfl rfl) ?_
        refine LE.u (Un.no 24 88 true rfl rfl rfl rfl) ?_
        refine LE.u (Un.no 24 88 true rfl rfl rfl rfl) ?_
        refine LE.u (Un.no 24 88 true rfl rfl rfl rfl) ?_
        refine LE.u (Un.no 24 88 true rfl rfl rfl rfl) ?_
        refine LE.p (v := (Value.bool false)) (Wn.no rfl) rfl (R.pickF rfl rfl) ?_
        refine LE.p (v := (Value.bool false)) (Wn.no rfl) rfl (R.move rfl) ?_
        refine LE.u (Un.no 34 98 true rfl rfl rfl rfl) ?_
        refine LE.p (v := (Value.bool false)) (Wn.no rfl) rfl (R.pickF rfl rfl) ?_
        refine LE.p (v := (Value.bool false)) (Wn.no rfl) rfl (R.assign rfl) ?_
        refine LE.nil ?_
        exact ⟨_, h, rfl⟩
    · rintro e76 w77 ⟨x57, h, f78⟩
      subst hJ56
      refine WE.ret ?_
      exact ⟨_, (Res.tmp f78 Res.nil), _, rfl, h⟩
/-- The formula of signpost.signpostlaw8.NlriBits. -/
def F6 (p0 : Int) (p1 : Int) (p2 : Int) (p3 : Int) (K : Bool → World → Prop) (w0 : World) : Prop :=
Calls Try.prog 20 #[(Value.int .u32 p0), (Value.int .i64 p1)] w0 (R20 fun r1 r2 w3 =>
M.new (.cells #[(Value.int .u32 (0 : Int)), (Value.int .i64 (0 : Int))] 24) w3 fun b5 w4 =>
M.stA b5 [(Value.int .u32 r1), (Value.int .i64 r2)] w4 fun w6 =>
M.ld (Value.int .u32) b5 w6 fun t8 =>
M.ld (Value.int .i64) (b5.add 1) w6 fun t10 =>
M.new (.cells #[(Value.int .u32 t8), (Value.int .i64 t10)] 24) w6 fun b14 w12 =>
Calls Try.prog 16 #[(SV.v (SV.mk (some b14) 1 1))] w12 (R16 fun r15 r16 w17 =>
M.join (fun (x19 : Bool) (w29 : World) => 
M.ite x19 (
K false w29) (
M.new (.cells #[] 5) w29 fun b38 w36 =>
M.app Try.prog 28 28 28 (SV.mk (some b38) 0 0) (SV.v r15) w36 fun s39 w40 =>
M.join (fun (w64 : World) => 
Calls Try.prog 17 #[(SV.v s39)] w64 (R17 fun r69 r70 w71 =>
M.join (fun (x73 : Bool) (w90 : World) => 
M.ite x73 (
K false w90) (
M.join (fun (w114 : World) => 
Calls Try.prog 10 #[] w114 (R10 fun r115 w116 =>
K r115 w116)) fun J95 => 
M.ite (decide ((1 : Int) < (r15.len : Int))) (
Calls Try.prog 15 #[(Value.int .i64 p3), (Value.int .i64 (1 : Int)), (Value.int .i64 (IntKind.i64.wrap ((r15.len : Int) - (1 : Int))))] w90 (R15 fun r97 w98 =>
M.bnd (0 : Int) r97 r15 <|
Calls Try.prog 17 #[(SV.v (SV.sub r15 (Int.toNat (0 : Int)) (Int.toNat r97) 1))] w98 (R17 fun r103 r104 w105 =>
M.join (fun (x107 : Bool) (w110 : World) => 
M.ite x107 (
K false w110) (
J95 w110)) fun J106 => 
M.ite r104 (
J106 true w105) (
J106 (decide ((0 : Int) < (r103.len : Int))) w105)))) (
J95 w90))) fun J72 => 
M.drew w71 fun w74 => 
M.ite (!r70) (
J72 true w74) (
M.ite ((r69.len : Int) != (1 : Int)) (
J72 true w74) (
M.idx r69 (0 : Int) 2 fun a77 =>
M.ld (Value.int .u32) (a77.add ((0 : Int).toNat * 2)) w74 fun t81 =>
M.ld (Value.int .i64) ((a77.add ((0 : Int).toNat * 2)).add 1) w74 fun t83 =>
M.ld (Value.int .u32) b5 w74 fun t85 =>
M.ld (Value.int .i64) (b5.add 1) w74 fun t87 =>
J72 (!((t81 == t85) && (t83 == t87))) w74)))) fun J42 => 
M.ld (Value.int .i64) (b5.add 1) w40 fun t43 =>
M.ite ((Int.tmod t43 (8 : Int)) != (0 : Int)) (
M.drew w40 fun w46 => 
M.idx s39 (IntKind.i64.wrap ((s39.len : Int) - (1 : Int))) 1 fun a47 =>
M.ld (Value.int .u8) (a47.add ((IntKind.i64.wrap ((s39.len : Int) - (1 : Int))).toNat * 1)) w46 fun t51 =>
M.ld (Value.int .i64) (b5.add 1) w46 fun t53 =>
M.sh (IntKind.u64.wrap (Int.tmod t53 (8 : Int))) <|
M.idx s39 (IntKind.i64.wrap ((s39.len : Int) - (1 : Int))) 1 fun a56 =>
M.st (a56.add ((IntKind.i64.wrap ((s39.len : Int) - (1 : Int))).toNat * 1)) (Value.int .u8 (bOr .u8 t51 (bAnd .u8 p2 (bShr .u8 (255 : Int) (IntKind.u64.wrap (Int.tmod t53 (8 : Int))))))) w46 fun w60 =>
J42 w60) (
J42 w40))) fun J18 => 
M.ite (r16 != (0 : Int)) (
J18 true w17) (
M.ite (decide ((r15.len : Int) < (1 : Int))) (
J18 true w17) (
M.ld (Value.int .u32) b5 w17 fun t22 =>
M.ld (Value.int .i64) (b5.add 1) w17 fun t24 =>
Calls Try.prog 18 #[(Value.agg #[(Value.int .u32 t22), (Value.int .i64 t24)])] w17 (R18 fun r26 w27 =>
J18 ((r15.len : Int) != r26) w27)))))
theorem F6_ok {w0 : World} {p0 : Int} {p1 : Int} {p2 : Int} {p3 : Int} {K : Bool → World → Prop} (h : F6 p0 p1 p2 p3 K w0) : Calls Try.prog 6 #[(Value.int .u32 p0), (Value.int .i64 p1), (Value.int .u8 p2), (Value.int .i64 p3)] w0 (R6 K) := by
  refine calls_of_WE (args := [(Value.int .u32 p0), (Value.int .i64 p1), (Value.int .u8 p2), (Value.int .i64 p3)]) (rs := [.tmp 8]) Try.func6 rfl (N := 102) rfl rfl rfl rfl ?_
  refine WE.seq ?_
  refine WE.reg ?_
  refine LE.p (v := (Value.bool false)) (Wn.no rfl) rfl (R.assign rfl) ?_
  refine LE.nil ?_
  refine WE.seq ?_
  refine WE.reg ?_
  refine LE.p (v := (Value.int .u32 p0)) (Wn.no rfl) rfl (R.move rfl) ?_
  refine LE.p (v := (Value.int .i64 p1)) (Wn.no rfl) rfl (R.move rfl) ?_
  refine LE.c (Wn.no rfl) rfl (R.call bd20 (Ls.cons rfl (Ls.cons rfl Ls.nil)) rfl) (Calls.mono h ?_)
  rintro _ w3 ⟨r1, r2, rfl, h⟩
  refine ⟨_, rfl, ?_⟩
  obtain ⟨b5, hpb5, w4, hww4, h⟩ := M.new_use h
  refine LE.r (v := (Value.pointer (some b5))) (Wn.no rfl) rfl (R.alloc (cs := #[(Value.int .u32 (0 : Int)), (Value.int .i64 (0 : Int))]) ze24 rfl hpb5 hww4) ?_
  obtain ⟨w6, hww6, h7, h⟩ := M.stA_use h
  refine LE.s (Wn.no rfl) rfl (R.stA (a := b5) [(Value.int .u32 r1), (Value.int .i64 r2)] sz24 rfl rfl rfl (by simp [Value.oneCell']) h7 hww6) ?_
  refine LE.nil ?_
  refine WE.seq ?_
  refine WE.reg ?_
  obtain ⟨t8, h9, h⟩ := h
  obtain ⟨t10, h11, h⟩ := h
  refine LE.r (v := (Value.agg #[(Value.int .u32 t8), (Value.int .i64 t10)])) (Wn.no rfl) rfl (R.ldA ag24 sz24 rfl rfl (Cs.cons h9 (Cs.cons h11 Cs.nil))) ?_
  obtain ⟨b14, hpb14, w12, hww12, h⟩ := M.new_use h
  refine LE.r (v := (SV.v (SV.mk (some b14) 1 1))) (Wn.no rfl) rfl (R.bsl (by exact (Ls.cons (R.Pr rfl) Ls.nil)) (fun w => bs27_1 t8 t10 w) hpb14 hww12) ?_
  refine LE.c (Wn.no rfl) rfl (R.call bd16 (Ls.cons rfl Ls.nil) rfl) (Calls.mono h ?_)
  rintro _ w17 ⟨r15, r16, rfl, h⟩
  refine ⟨_, rfl, ?_⟩
  refine LE.p (v := (Value.tuple #[(SV.v r15), (Value.int .i64 r16)])) (Wn.no rfl) rfl (R.move rfl) ?_
  refine LE.p (v := (SV.v r15)) (Wn.no rfl) rfl (R.ext rfl rfl) ?_
  refine LE.p (v := (Value.int .i64 r16)) (Wn.no rfl) rfl (R.ext rfl rfl) ?_
  refine LE.p (v := (SV.v r15)) (Wn.no rfl) rfl (R.assign rfl) ?_
  refine LE.p (v := (Value.int .i64 r16)) (Wn.no rfl) rfl (R.assign rfl) ?_
  refine LE.nil ?_
  refine WE.seq ?_
  refine WE.seq ?_
  obtain ⟨J18, hJ18, h⟩ := M.join_use h
  refine WE.regJ (fun e w => ∃ (x19 : Bool), J18 x19 w ∧ e 2 = (Value.int .u8 p2) ∧ e 3 = (Value.int .i64 p3) ∧ e 9 = (Value.pointer (some b5)) ∧ e 10 = (SV.v r15) ∧ e 39 = (Value.bool x19)) ?_ ?_
  · clear hJ18
    refine LE.p (v := (Value.int .i64 r16)) (Wn.no rfl) rfl (R.move rfl) ?_
    refine LE.p (v := (Value.bool (r16 != (0 : Int)))) (Wn.no rfl) rfl (R.neq rfl rfl) ?_
    refine LE.p (v := (Value.bool (r16 != (0 : Int)))) (Wn.no rfl) rfl (R.move rfl) ?_
    rcases M.ite_use h with ⟨hb20, h⟩ | ⟨hb20, h⟩
    · refine LE.u (Un.no 2 28 false rfl rfl rfl (congrArg Value.bool hb20)) ?_
      refine LE.u (Un.no 2 28 false rfl rfl rfl (congrArg Value.bool hb20)) ?_
      refine LE.u (Un.no 2 28 false rfl rfl rfl (congrArg Value.bool hb20)) ?_
      refine LE.p (v := (Value.bool true)) (Wn.no rfl) rfl (R.pickT (congrArg Value.bool hb20) rfl) ?_
      refine LE.p (v := (Value.bool true)) (Wn.no rfl) rfl (R.move rfl) ?_
      refine LE.u (Un.no 7 33 false rfl rfl rfl rfl) ?_
      refine LE.u (Un.no 7 33 false rfl rfl rfl rfl) ?_
      refine LE.u (Un.no 7 33 false rfl rfl rfl rfl) ?_
      refine LE.u (Un.no 7 33 false rfl rfl rfl rfl) ?_
      refine LE.u (Un.no 7 33 false rfl rfl rfl rfl) ?_
      refine LE.p (v := (Value.bool true)) (Wn.no rfl) rfl (R.pickT rfl rfl) ?_
      refine LE.nil ?_
      exact ⟨_, h, rfl, rfl, rfl, rfl, rfl⟩
    · refine LE.p (v := (SV.v r15)) (Wn.yes 2 28 false rfl rfl rfl (congrArg Value.bool hb20)) rfl (R.move rfl) ?_
      refine LE.p (v := (Value.int .i64 (r15.len : Int))) (Wn.yes 2 28 false rfl rfl rfl (congrArg Value.bool hb20)) rfl (R.len sl28 rfl) ?_
      refine LE.p (v := (Value.bool (decide ((r15.len : Int) < (1 : Int))))) (Wn.yes 2 28 false rfl rfl rfl (congrArg Value.bool hb20)) rfl (R.lss rfl rfl) ?_
      refine LE.p (v := (Value.bool (decide ((r15.len : Int) < (1 : Int))))) (Wn.no rfl) rfl (R.pickF (congrArg Value.bool hb20) rfl) ?_
      refine LE.p (v := (Value.bool (decide ((r15.len : Int) < (1 : Int))))) (Wn.no rfl) rfl (R.move rfl) ?_
      rcases M.ite_use h with ⟨hb21, h⟩ | ⟨hb21, h⟩
      · refine LE.u (Un.no 7 33 false rfl rfl rfl (congrArg Value.bool hb21)) ?_
        refine LE.u (Un.no 7 33 false rfl rfl rfl (congrArg Value.bool hb21)) ?_
        refine LE.u (Un.no 7 33 false rfl rfl rfl (congrArg Value.bool hb21)) ?_
        refine LE.u (Un.no 7 33 false rfl rfl rfl (congrArg Value.bool hb21)) ?_
        refine LE.u (Un.no 7 33 false rfl rfl rfl (congrArg Value.bool hb21)) ?_
        refine LE.p (v := (Value.bool true)) (Wn.no rfl) rfl (R.pickT (congrArg Value.bool hb21) rfl) ?_
        refine LE.nil ?_
        exact ⟨_, h, rfl, rfl, rfl, rfl, rfl⟩
      · refine LE.p (v := (SV.v r15)) (Wn.yes 7 33 false rfl rfl rfl (congrArg Value.bool hb21)) rfl (R.move rfl) ?_
        refine LE.p (v := (Value.int .i64 (r15.len : Int))) (Wn.yes 7 33 false rfl rfl rfl (congrArg Value.bool hb21)) rfl (R.len sl28 rfl) ?_
        obtain ⟨t22, h23, h⟩ := h
        obtain ⟨t24, h25, h⟩ := h
        refine LE.r (v := (Value.agg #[(Value.int .u32 t22), (Value.int .i64 t24)])) (Wn.yes 7 33 false rfl rfl rfl (congrArg Value.bool hb21)) rfl (R.ldA ag24 sz24 rfl rfl (Cs.cons h23 (Cs.cons h25 Cs.nil))) ?_
        refine LE.c (Wn.yes 7 33 false rfl rfl rfl (congrArg Value.bool hb21)) rfl (R.call bd18 (Ls.cons rfl Ls.nil) rfl) (Calls.mono h ?_)
        rintro _ w27 ⟨r26, rfl, h⟩
        refine ⟨_, rfl, ?_⟩
        refine LE.p (v := (Value.bool ((r15.len : Int) != r26))) (Wn.yes 7 33 false rfl rfl rfl (congrArg Value.bool hb21)) rfl (R.neq rfl rfl) ?_
        refine LE.p (v := (Value.bool ((r15.len : Int) != r26))) (Wn.no rfl) rfl (R.pickF (congrArg Value.bool hb21) rfl) ?_
        refine LE.nil ?_
        exact ⟨_, h, rfl, rfl, rfl, rfl, rfl⟩
  · rintro e28 w29 ⟨x19, h, f30, f31, f32, f33, f34⟩
    subst hJ18
    refine WE.condT rfl (b := x19) f34 ?_ ?_
    · intro hb35
      replace h := M.ite_t h hb35
      refine WE.seq ?_
      refine WE.reg ?_
      refine LE.p (v := (Value.bool false)) (Wn.no rfl) rfl (R.assign rfl) ?_
      refine LE.nil ?_
      refine WE.ret ?_
      exact ⟨_, (Res.tmp rfl Res.nil), _, rfl, h⟩
    · intro hb35
      replace h := M.ite_f h hb35
      refine WE.skip ?_
      refine WE.seq ?_
      refine WE.reg ?_
      obtain ⟨b38, hpb38, w36, hww36, h⟩ := M.new_use h
      refine LE.r (v := (SV.v (SV.mk (some b38) 0 0))) (Wn.no rfl) rfl (R.bsl (by exact Ls.nil) (fun w => bs28_0  w) hpb38 hww36) ?_
      refine LE.p (v := (SV.v r15)) (Wn.no rfl) rfl (R.move f33) ?_
      obtain ⟨s39, w40, h41, h⟩ := h
      refine LE.r (v := (SV.v s39)) (Wn.no rfl) rfl (R.app (s := (SV.mk (some b38) 0 0)) (r := s39) rfl rfl h41) ?_
      refine LE.p (v := (SV.v s39)) (Wn.no rfl) rfl (R.assign rfl) ?_
      refine LE.nil ?_
      obtain ⟨J42, hJ42, h⟩ := M.join_use h
      refine WE.join (fun e w => J42 w ∧ e 3 = (Value.int .i64 p3) ∧ e 9 = (Value.pointer (some b5)) ∧ e 10 = (SV.v r15) ∧ e 12 = (SV.v s39)) ?_ ?_
      · clear hJ42
        refine WE.seq ?_
        refine WE.reg ?_
        refine LE.p (v := (Value.pointer (some (b5.add 1)))) (Wn.no rfl) rfl (R.fld (off := 1) fa24_1 f32) ?_
        obtain ⟨t43, h44, h⟩ := h
        refine LE.r (v := (Value.int .i64 t43)) (Wn.no rfl) rfl (R.ld sc3 rfl h44) ?_
        refine LE.p (v := (Value.int .i64 (Int.tmod t43 (8 : Int)))) (Wn.no rfl) rfl (R.rem rfl rfl (by decide)) ?_
        refine LE.p (v := (Value.bool ((Int.tmod t43 (8 : Int)) != (0 : Int)))) (Wn.no rfl) rfl (R.neq rfl rfl) ?_
        refine LE.nil ?_
        refine WE.condT rfl (b := ((Int.tmod t43 (8 : Int)) != (0 : Int))) rfl ?_ ?_
        · intro hb45
          replace h := M.ite_t h hb45
          refine WE.draw mix ?_
          obtain ⟨w46, hww46, h⟩ := M.drew_use h
          rw [← hww46]
          clear hww46
          refine DE.t 0 (v := (SV.v s39)) rfl (by kernel_rfl) (Wn.no rfl) rfl (R.move rfl) ?_
          refine DE.t 1 (v := (SV.v s39)) rfl (by kernel_rfl) (Wn.no rfl) rfl (R.move rfl) ?_
          refine DE.t 2 (v := (Value.int .i64 (s39.len : Int))) rfl (by kernel_rfl) (Wn.no rfl) rfl (R.len sl28 rfl) ?_
          refine DE.t 3 (v := (Value.int .i64 (IntKind.i64.wrap ((s39.len : Int) - (1 : Int))))) rfl (by kernel_rfl) (Wn.no rfl) rfl (R.sub rfl rfl) ?_
          obtain ⟨a47, h48, h49, h50, h⟩ := h
          refine DE.t 4 (v := (Value.pointer (some (a47.add ((IntKind.i64.wrap ((s39.len : Int) - (1 : Int))).toNat * 1))))) rfl (by kernel_rfl) (Wn.no rfl) rfl (R.idx (s := s39) sl28 rfl rfl h48 h49 h50) ?_
          refine DE.t 6 (v := (Value.int .u8 p2)) rfl (by kernel_rfl) (Wn.no rfl) rfl (R.move f30) ?_
          refine DE.t 7 (v := (Value.pointer (some (b5.add 1)))) rfl (by kernel_rfl) (Wn.no rfl) rfl (R.fld (off := 1) fa24_1 f32) ?_
          obtain ⟨t51, h52, h⟩ := h
          refine DE.hold 5 (fun w => w.cell? (a47.add ((IntKind.i64.wrap ((s39.len : Int) - (1 : Int))).toNat * 1)) = some (Value.int .u8 t51)) (v := (Value.int .u8 t51)) rfl (by kernel_rfl) (Wn.no rfl) rfl h52 (fun w hs => R.ld sc5 rfl hs) ?_
          obtain ⟨t53, h54, h⟩ := h
          refine DE.main 8 (by kernel_rfl) ?_
          refine One.r 8 (v := (Value.int .i64 t53)) rfl (Wn.no rfl) rfl (R.ld sc3 rfl h54) (.inl rfl) ?_
          refine DE.t 9 (v := (Value.int .i64 (Int.tmod t53 (8 : Int)))) rfl (by kernel_rfl) (Wn.no rfl) rfl (R.rem rfl rfl (by decide)) ?_
          refine DE.t 10 (v := (Value.int .u64 (IntKind.u64.wrap (Int.tmod t53 (8 : Int))))) rfl (by kernel_rfl) (Wn.no rfl) rfl (R.conv in48 in3 rfl) ?_
          obtain ⟨h55, h⟩ := h
          refine DE.t 11 (v := (Value.int .u8 (bShr .u8 (255 : Int) (IntKind.u64.wrap (Int.tmod t53 (8 : Int)))))) rfl (by kernel_rfl) (Wn.no rfl) rfl (R.shr rfl rfl h55) ?_
          refine DE.t 12 (v := (Value.int .u8 (bAnd .u8 p2 (bShr .u8 (255 : Int) (IntKind.u64.wrap (Int.tmod t53 (8 : Int))))))) rfl (by kernel_rfl) (Wn.no rfl) rfl (R.and rfl rfl) ?_
          refine DE.t 13 (v := (Value.int .u8 (bOr .u8 t51 (bAnd .u8 p2 (bShr .u8 (255 : Int) (IntKind.u64.wrap (Int.tmod t53 (8 : Int)))))))) rfl (by kernel_rfl) (Wn.no rfl) rfl (R.or rfl rfl) ?_
          obtain ⟨a56, h57, h58, h59, h⟩ := h
          refine DE.t 14 (v := (Value.pointer (some (a56.add ((IntKind.i64.wrap ((s39.len : Int) - (1 : Int))).toNat * 1))))) rfl (by kernel_rfl) (Wn.no rfl) rfl (R.idx (s := s39) sl28 rfl rfl h57 h58 h59) ?_
          obtain ⟨w60, hww60, h61, h62, h⟩ := M.st_use h
          refine DE.main 15 (by kernel_rfl) ?_
          refine One.s 15 rfl (Wn.no rfl) rfl (R.st (a := (a56.add ((IntKind.i64.wrap ((s39.len : Int) - (1 : Int))).toNat * 1))) (v := (Value.int .u8 (bOr .u8 t51 (bAnd .u8 p2 (bShr .u8 (255 : Int) (IntKind.u64.wrap (Int.tmod t53 (8 : Int)))))))) sz5 rfl rfl rfl rfl h61 h62 hww60) ⟨aftT (by kernel_rfl), trivial⟩ ?_
          refine DE.done (by kernel_rfl) ?_
          exact ⟨h, f31, f32, f33, rfl⟩
        · intro hb45
          replace h := M.ite_f h hb45
          refine WE.skip ?_
          exact ⟨h, f31, f32, f33, rfl⟩
      · rintro e63 w64 ⟨h, f65, f66, f67, f68⟩
        subst hJ42
        refine WE.seq ?_
        refine WE.reg ?_
        refine LE.p (v := (SV.v s39)) (Wn.no rfl) rfl (R.move f68) ?_
        refine LE.c (Wn.no rfl) rfl (R.call bd17 (Ls.cons rfl Ls.nil) rfl) (Calls.mono h ?_)
        rintro _ w71 ⟨r69, r70, rfl, h⟩
        refine ⟨_, rfl, ?_⟩
        refine LE.p (v := (Value.tuple #[(SV.v r69), (Value.bool r70)])) (Wn.no rfl) rfl (R.move rfl) ?_
        refine LE.p (v := (SV.v r69)) (Wn.no rfl) rfl (R.ext rfl rfl) ?_
        refine LE.p (v := (Value.bool r70)) (Wn.no rfl) rfl (R.ext rfl rfl) ?_
        refine LE.p (v := (SV.v r69)) (Wn.no rfl) rfl (R.assign rfl) ?_
        refine LE.p (v := (Value.bool r70)) (Wn.no rfl) rfl (R.assign rfl) ?_
        refine LE.nil ?_
        refine WE.seq ?_
        refine WE.seq ?_
        obtain ⟨J72, hJ72, h⟩ := M.join_use h
        refine WE.drawJ (fun e w => ∃ (x73 : Bool), J72 x73 w ∧ e 3 = (Value.int .i64 p3) ∧ e 10 = (SV.v r15) ∧ e 80 = (Value.bool x73)) mix ?_ ?_
        · clear hJ72
          obtain ⟨w74, hww74, h⟩ := M.drew_use h
          rw [← hww74]
          clear hww74
          refine DE.t 0 (v := (Value.bool r70)) rfl (by kernel_rfl) (Wn.no rfl) rfl (R.move rfl) ?_
          refine DE.t 1 (v := (Value.bool (!r70))) rfl (by kernel_rfl) (Wn.no rfl) rfl (R.not rfl) ?_
          refine DE.t 2 (v := (Value.bool (!r70))) rfl (by kernel_rfl) (Wn.no rfl) rfl (R.move rfl) ?_
          rcases M.ite_use h with ⟨hb75, h⟩ | ⟨hb75, h⟩
          · refine DE.u 3 rfl (by kernel_rfl) (Un.no 2 69 false rfl rfl rfl (congrArg Value.bool hb75)) ?_
            refine DE.u 4 rfl (by kernel_rfl) (Un.no 2 69 false rfl rfl rfl (congrArg Value.bool hb75)) ?_
            refine DE.u 5 rfl (by kernel_rfl) (Un.no 2 69 false rfl rfl rfl (congrArg Value.bool hb75)) ?_
            refine DE.t 6 (v := (Value.bool true)) rfl (by kernel_rfl) (Wn.no rfl) rfl (R.pickT (congrArg Value.bool hb75) rfl) ?_
            refine DE.t 7 (v := (Value.bool true)) rfl (by kernel_rfl) (Wn.no rfl) rfl (R.move rfl) ?_
            refine DE.u 8 rfl (by kernel_rfl) (Un.no 7 74 false rfl rfl rfl rfl) ?_
            refine DE.u 9 rfl (by kernel_rfl) (Un.no 7 74 false rfl rfl rfl rfl) ?_
            refine DE.u 10 rfl (by kernel_rfl) (Un.no 7 74 false rfl rfl rfl rfl) ?_
            refine DE.u 11 rfl (by kernel_rfl) (Un.no 7 74 false rfl rfl rfl rfl) ?_
            refine DE.u 12 rfl (by kernel_rfl) (Un.no 7 74 false rfl rfl rfl rfl) ?_
            refine DE.t 13 (v := (Value.bool true)) rfl (by kernel_rfl) (Wn.no rfl) rfl (R.pickT rfl rfl) ?_
            refine DE.done (by kernel_rfl) ?_
            exact ⟨_, h, f65, f67, rfl⟩
          · refine DE.t 3 (v := (SV.v r69)) rfl (by kernel_rfl) (Wn.yes 2 69 false rfl rfl rfl (congrArg Value.bool hb75)) rfl (R.move rfl) ?_
            refine DE.t 4 (v := (Value.int .i64 (r69.len : Int))) rfl (by kernel_rfl) (Wn.yes 2 69 false rfl rfl rfl (congrArg Value.bool hb75)) rfl (R.len sl27 rfl) ?_
            refine DE.t 5 (v := (Value.bool ((r69.len : Int) != (1 : Int)))) rfl (by kernel_rfl) (Wn.yes 2 69 false rfl rfl rfl (congrArg Value.bool hb75)) rfl (R.neq rfl rfl) ?_
            refine DE.t 6 (v := (Value.bool ((r69.len : Int) != (1 : Int)))) rfl (by kernel_rfl) (Wn.no rfl) rfl (R.pickF (congrArg Value.bool hb75) rfl) ?_
            refine DE.t 7 (v := (Value.bool ((r69.len : Int) != (1 : Int)))) rfl (by kernel_rfl) (Wn.no rfl) rfl (R.move rfl) ?_
            rcases M.ite_use h with ⟨hb76, h⟩ | ⟨hb76, h⟩
            · refine DE.u 8 rfl (by kernel_rfl) (Un.no 7 74 false rfl rfl rfl (congrArg Value.bool hb76)) ?_
              refine DE.u 9 rfl (by kernel_rfl) (Un.no 7 74 false rfl rfl rfl (congrArg Value.bool hb76)) ?_
              refine DE.u 10 rfl (by kernel_rfl) (Un.no 7 74 false rfl rfl rfl (congrArg Value.bool hb76)) ?_
              refine DE.u 11 rfl (by kernel_rfl) (Un.no 7 74 false rfl rfl rfl (congrArg Value.bool hb76)) ?_
              refine DE.u 12 rfl (by kernel_rfl) (Un.no 7 74 false rfl rfl rfl (congrArg Value.bool hb76)) ?_
              refine DE.t 13 (v := (Value.bool true)) rfl (by kernel_rfl) (Wn.no rfl) rfl (R.pickT (congrArg Value.bool hb76) rfl) ?_
              refine DE.done (by kernel_rfl) ?_
              exact ⟨_, h, f65, f67, rfl⟩
            · refine DE.t 8 (v := (SV.v r69)) rfl (by kernel_rfl) (Wn.yes 7 74 false rfl rfl rfl (congrArg Value.bool hb76)) rfl (R.move rfl) ?_
              obtain ⟨a77, h78, h79, h80, h⟩ := h
              refine DE.t 9 (v := (Value.pointer (some (a77.add ((0 : Int).toNat * 2))))) rfl (by kernel_rfl) (Wn.yes 7 74 false rfl rfl rfl (congrArg Value.bool hb76)) rfl (R.idx (s := r69) sl27 rfl rfl h78 h79 h80) ?_
              obtain ⟨t81, h82, h⟩ := h
              obtain ⟨t83, h84, h⟩ := h
              refine DE.hold 10 (fun w => w.cell? (a77.add ((0 : Int).toNat * 2)) = some (Value.int .u32 t81) ∧ w.cell? ((a77.add ((0 : Int).toNat * 2)).add 1) = some (Value.int .i64 t83)) (v := (Value.agg #[(Value.int .u32 t81), (Value.int .i64 t83)])) rfl (by kernel_rfl) (Wn.yes 7 74 false rfl rfl rfl (congrArg Value.bool hb76)) rfl ⟨h82, h84⟩ (fun w hs => R.ldA ag24 sz24 rfl rfl (Cs.cons hs.1 (Cs.cons hs.2 Cs.nil))) ?_
              obtain ⟨t85, h86, h⟩ := h
              obtain ⟨t87, h88, h⟩ := h
              refine DE.main 11 (by kernel_rfl) ?_
              refine One.r 11 (v := (Value.agg #[(Value.int .u32 t85), (Value.int .i64 t87)])) rfl (Wn.yes 7 74 false rfl rfl rfl (congrArg Value.bool hb76)) rfl (R.ldA ag24 sz24 f66 rfl (Cs.cons h86 (Cs.cons h88 Cs.nil))) (.inl rfl) ?_
              refine DE.t 12 (v := (Value.bool (!((t81 == t85) && (t83 == t87))))) rfl (by kernel_rfl) (Wn.yes 7 74 false rfl rfl rfl (congrArg Value.bool hb76)) rfl (R.neS (fun w => eq24 t81 t85 t83 t87 w) sg24 rfl rfl) ?_
              refine DE.t 13 (v := (Value.bool (!((t81 == t85) && (t83 == t87))))) rfl (by kernel_rfl) (Wn.no rfl) rfl (R.pickF (congrArg Value.bool hb76) rfl) ?_
              refine DE.done (by kernel_rfl) ?_
              exact ⟨_, h, f65, f67, rfl⟩
        · rintro e89 w90 ⟨x73, h, f91, f92, f93⟩
          subst hJ72
          refine WE.condT rfl (b := x73) f93 ?_ ?_
          · intro hb94
            replace h := M.ite_t h hb94
            refine WE.seq ?_
            refine WE.reg ?_
            refine LE.p (v := (Value.bool false)) (Wn.no rfl) rfl (R.assign rfl) ?_
            refine LE.nil ?_
            refine WE.ret ?_
            exact ⟨_, (Res.tmp rfl Res.nil), _, rfl, h⟩
          · intro hb94
            replace h := M.ite_f h hb94
            refine WE.skip ?_
            obtain ⟨J95, hJ95, h⟩ := M.join_use h
            refine WE.join (fun e w => J95 w) ?_ ?_
            · clear hJ95
              refine WE.seq ?_
              refine WE.reg ?_
              refine LE.p (v := (SV.v r15)) (Wn.no rfl) rfl (R.move f92) ?_
              refine LE.p (v := (Value.int .i64 (r15.len : Int))) (Wn.no rfl) rfl (R.len sl28 rfl) ?_
              refine LE.p (v := (Value.bool (decide ((1 : Int) < (r15.len : Int))))) (Wn.no rfl) rfl (R.gtr rfl rfl) ?_
              refine LE.nil ?_
              refine WE.condT rfl (b := (decide ((1 : Int) < (r15.len : Int)))) rfl ?_ ?_
              · intro hb96
                replace h := M.ite_t h hb96
                refine WE.seq ?_
                refine WE.reg ?_
                refine LE.p (v := (SV.v r15)) (Wn.no rfl) rfl (R.move f92) ?_
                refine LE.p (v := (Value.int .i64 p3)) (Wn.no rfl) rfl (R.move f91) ?_
                refine LE.p (v := (SV.v r15)) (Wn.no rfl) rfl (R.move f92) ?_
                refine LE.p (v := (Value.int .i64 (r15.len : Int))) (Wn.no rfl) rfl (R.len sl28 rfl) ?_
                refine LE.p (v := (Value.int .i64 (IntKind.i64.wrap ((r15.len : Int) - (1 : Int))))) (Wn.no rfl) rfl (R.sub rfl rfl) ?_
                refine LE.c (Wn.no rfl) rfl (R.call bd15 (Ls.cons rfl (Ls.cons rfl (Ls.cons rfl Ls.nil))) rfl) (Calls.mono h ?_)
                rintro _ w98 ⟨r97, rfl, h⟩
                refine ⟨_, rfl, ?_⟩
                obtain ⟨h99, h100, h101, h⟩ := h
                refine LE.p (v := (SV.v (SV.sub r15 (Int.toNat (0 : Int)) (Int.toNat r97) 1))) (Wn.no rfl) rfl (R.slc (s := r15) (lo := (0 : Int)) (hi := r97) _ _ sl28 rfl rfl rfl h99 h100 h101) ?_
                refine LE.c (Wn.no rfl) rfl (R.call bd17 (Ls.cons rfl Ls.nil) rfl) (Calls.mono h ?_)
                rintro _ w105 ⟨r103, r104, rfl, h⟩
                refine ⟨_, rfl, ?_⟩
                refine LE.p (v := (Value.tuple #[(SV.v r103), (Value.bool r104)])) (Wn.no rfl) rfl (R.move rfl) ?_
                refine LE.p (v := (SV.v r103)) (Wn.no rfl) rfl (R.ext rfl rfl) ?_
                refine LE.p (v := (Value.bool r104)) (Wn.no rfl) rfl (R.ext rfl rfl) ?_
                refine LE.p (v := (SV.v r103)) (Wn.no rfl) rfl (R.assign rfl) ?_
                refine LE.p (v := (Value.bool r104)) (Wn.no rfl) rfl (R.assign rfl) ?_
                refine LE.nil ?_
                refine WE.seq ?_
                obtain ⟨J106, hJ106, h⟩ := M.join_use h
                refine WE.regJ (fun e w => ∃ (x107 : Bool), J106 x107 w ∧ e 100 = (Value.bool x107)) ?_ ?_
                · clear hJ106
                  refine LE.p (v := (Value.bool r104)) (Wn.no rfl) rfl (R.move rfl) ?_
                  refine LE.p (v := (Value.bool r104)) (Wn.no rfl) rfl (R.move rfl) ?_
                  rcases M.ite_use h with ⟨hb108, h⟩ | ⟨hb108, h⟩
                  · refine LE.u (Un.no 1 96 false rfl rfl rfl (congrArg Value.bool hb108)) ?_
                    refine LE.u (Un.no 1 96 false rfl rfl rfl (congrArg Value.bool hb108)) ?_
                    refine LE.u (Un.no 1 96 false rfl rfl rfl (congrArg Value.bool hb108)) ?_
                    refine LE.p (v := (Value.bool true)) (Wn.no rfl) rfl (R.pickT (congrArg Value.bool hb108) rfl) ?_
                    refine LE.nil ?_
                    exact ⟨_, h, rfl⟩
                  · refine LE.p (v := (SV.v r103)) (Wn.yes 1 96 false rfl rfl rfl (congrArg Value.bool hb108)) rfl (R.move rfl) ?_
                    refine LE.p (v := (Value.int .i64 (r103.len : Int))) (Wn.yes 1 96 false rfl rfl rfl (congrArg Value.bool hb108)) rfl (R.len sl27 rfl) ?_
                    refine LE.p (v := (Value.bool (decide ((0 : Int) < (r103.len : Int))))) (Wn.yes 1 96 false rfl rfl rfl (congrArg Value.bool hb108)) rfl (R.gtr rfl rfl) ?_
                    refine LE.p (v := (Value.bool (decide ((0 : Int) < (r103.len : Int))))) (Wn.no rfl) rfl (R.pickF (congrArg Value.bool hb108) rfl) ?_
                    refine LE.nil ?_
                    exact ⟨_, h, rfl⟩
                · rintro e109 w110 ⟨x107, h, f111⟩
                  subst hJ106
                  refine WE.condT rfl (b := x107) f111 ?_ ?_
                  · intro hb112
                    replace h := M.ite_t h hb112
                    refine WE.seq ?_
                    refine WE.reg ?_
                    refine LE.p (v := (Value.bool false)) (Wn.no rfl) rfl (R.assign rfl) ?_
                    refine LE.nil ?_
                    refine WE.ret ?_
                    exact ⟨_, (Res.tmp rfl Res.nil), _, rfl, h⟩
                  · intro hb112
                    replace h := M.ite_f h hb112
                    refine WE.skip ?_
                    exact h
              · intro hb96
                replace h := M.ite_f h hb96
                refine WE.skip ?_
                exact h
            · rintro e113 w114 h
              subst hJ95
              refine WE.seq ?_
              refine WE.reg ?_
              refine LE.c (Wn.no rfl) rfl (R.call bd10 Ls.nil rfl) (Calls.mono h ?_)
              rintro _ w116 ⟨r115, rfl, h⟩
              refine ⟨_, rfl, ?_⟩
              refine LE.p (v := (Value.bool r115)) (Wn.no rfl) rfl (R.assign rfl) ?_
              refine LE.nil ?_
              refine WE.ret ?_
              exact ⟨_, (Res.tmp rfl Res.nil), _, rfl, h⟩
/-- The formula of signpost.signpostref1.Of. -/
def F7 (p0 : Int) (p1 : Int) (K : Int → Int → World → Prop) (w0 : World) : Prop :=
M.new (.cells #[(Value.int .u32 (0 : Int)), (Value.int .i64 (0 : Int))] 24) w0 fun b2 w1 =>
M.join (fun (x4 : Int) (w7 : World) => 
M.join (fun (x12 : Int) (w15 : World) => 
Calls Try.prog 21 #[(Value.int .i64 x12)] w15 (R21 fun r19 w20 =>
M.stA b2 [(Value.int .u32 (bAnd .u32 p0 r19)), (Value.int .i64 x12)] w20 fun w21 =>
M.ld (Value.int .u32) b2 w21 fun t23 =>
M.ld (Value.int .i64) (b2.add 1) w21 fun t25 =>
K t23 t25 w21)) fun J11 => 
M.ite (decide ((32 : Int) < x4)) (
J11 (32 : Int) w7) (
J11 x4 w7)) fun J3 => 
M.ite (decide (p1 < (0 : Int))) (
J3 (0 : Int) w1) (
J3 p1 w1)
theorem F7_ok {w0 : World} {p0 : Int} {p1 : Int} {K : Int → Int → World → Prop} (h : F7 p0 p1 K w0) : Calls Try.prog 7 #[(Value.int .u32 p0), (Value.int .i64 p1)] w0 (R7 K) := by
  refine calls_of_WE (args := [(Value.int .u32 p0), (Value.int .i64 p1)]) (rs := [.cell 4 24]) Try.func7 rfl (N := 15) rfl rfl rfl rfl ?_
  refine WE.seq ?_
  refine WE.reg ?_
  obtain ⟨b2, hpb2, w1, hww1, h⟩ := M.new_use h
  refine LE.r (v := (Value.pointer (some b2))) (Wn.no rfl) rfl (R.alloc (cs := #[(Value.int .u32 (0 : Int)), (Value.int .i64 (0 : Int))]) ze24 rfl hpb2 hww1) ?_
  refine LE.nil ?_
  obtain ⟨J3, hJ3, h⟩ := M.join_use h
  refine WE.join (fun e w => ∃ (x4 : Int), J3 x4 w ∧ e 0 = (Value.int .u32 p0) ∧ e 1 = (Value.int .i64 x4) ∧ e 4 = (Value.pointer (some b2))) ?_ ?_
  · clear hJ3
    refine WE.seq ?_
    refine WE.reg ?_
    refine LE.p (v := (Value.int .i64 p1)) (Wn.no rfl) rfl (R.move rfl) ?_
    refine LE.p (v := (Value.bool (decide (p1 < (0 : Int))))) (Wn.no rfl) rfl (R.lss rfl rfl) ?_
    refine LE.nil ?_
    refine WE.condT rfl (b := (decide (p1 < (0 : Int)))) rfl ?_ ?_
    · intro hb5
      replace h := M.ite_t h hb5
      refine WE.reg ?_
      refine LE.p (v := (Value.int .i64 (0 : Int))) (Wn.no rfl) rfl (R.assign rfl) ?_
      refine LE.nil ?_
      exact ⟨_, h, rfl, rfl, rfl⟩
    · intro hb5
      replace h := M.ite_f h hb5
      refine WE.skip ?_
      exact ⟨_, h, rfl, rfl, rfl⟩
  · rintro e6 w7 ⟨x4, h, f8, f9, f10⟩
    subst hJ3
    obtain ⟨J11, hJ11, h⟩ := M.join_use h
    refine WE.join (fun e w => ∃ (x12 : Int), J11 x12 w ∧ e 0 = (Value.int .u32 p0) ∧ e 1 = (Value.int .i64 x12) ∧ e 4 = (Value.pointer (some b2))) ?_ ?_
    · clear hJ11
      refine WE.seq ?_
      refine WE.reg ?_
      refine LE.p (v := (Value.int .i64 x4)) (Wn.no rfl) rfl (R.move f9) ?_
      refine LE.p (v := (Value.bool (decide ((32 : Int) < x4)))) (Wn.no rfl) rfl (R.gtr rfl rfl) ?_
      refine LE.nil ?_
      refine WE.condT rfl (b := (decide ((32 : Int) < x4))) rfl ?_ ?_
      · intro hb13
        replace h := M.ite_t h hb13
        refine WE.reg ?_
        refine LE.p (v := (Value.int .i64 (32 : Int))) (Wn.no rfl) rfl (R.assign rfl) ?_
        refine LE.nil ?_
        exact ⟨_, h, f8, rfl, f10⟩
      · intro hb13
        replace h := M.ite_f h hb13
        refine WE.skip ?_
        exact ⟨_, h, f8, f9, f10⟩
    · rintro e14 w15 ⟨x12, h, f16, f17, f18⟩
      subst hJ11
      refine WE.seq ?_
      refine WE.reg ?_
      refine LE.p (v := (Value.int .u32 p0)) (Wn.no rfl) rfl (R.move f16) ?_
      refine LE.p (v := (Value.int .i64 x12)) (Wn.no rfl) rfl (R.move f17) ?_
      refine LE.c (Wn.no rfl) rfl (R.call bd21 (Ls.cons rfl Ls.nil) rfl) (Calls.mono h ?_)
      rintro _ w20 ⟨r19, rfl, h⟩
      refine ⟨_, rfl, ?_⟩
      refine LE.p (v := (Value.int .u32 (bAnd .u32 p0 r19))) (Wn.no rfl) rfl (R.and rfl rfl) ?_
      refine LE.p (v := (Value.int .i64 x12)) (Wn.no rfl) rfl (R.move f17) ?_
      refine LE.p (v := (Value.agg #[(Value.int .u32 (bAnd .u32 p0 r19)), (Value.int .i64 x12)])) (Wn.no rfl) rfl (R.bld (by exact (Ls.cons (R.Pr rfl) (Ls.cons (R.Pr rfl) Ls.nil))) (fun w => bu24_0_1 (bAnd .u32 p0 r19) x12 w)) ?_
      obtain ⟨w21, hww21, h22, h⟩ := M.stA_use h
      refine LE.s (Wn.no rfl) rfl (R.stA (a := b2) [(Value.int .u32 (bAnd .u32 p0 r19)), (Value.int .i64 x12)] sz24 f18 rfl rfl (by simp [Value.oneCell']) h22 hww21) ?_
      refine LE.nil ?_
      refine WE.ret ?_
      obtain ⟨t23, h24, h⟩ := h
      obtain ⟨t25, h26, h⟩ := h
      exact ⟨_, (Res.cell f18 (R.ldCellA ag24 sz24 rfl (Cs.cons h24 (Cs.cons h26 Cs.nil))) Res.nil), _, _, rfl, h⟩
/-- The formula of signpost.signpostlaw8.same. -/
def F8 (p0 : SV) (K : Bool → World → Prop) (w0 : World) : Prop :=
Calls Try.prog 16 #[(SV.v p0)] w0 (R16 fun r1 r2 w3 =>
Calls Try.prog 13 #[(SV.v p0)] w3 (R13 fun r4 r5 w6 =>
M.loop1 (fun (J8 : Int → World → Prop) (x7 : Int) (w9 : World) => 
M.ite (decide (x7 < (p0.len : Int))) (
M.drew w9 fun w23 => 
M.idx p0 x7 2 fun a24 =>
M.idx p0 x7 2 fun a28 =>
M.ld (Value.int .u32) (a24.add (x7.toNat * 2)) w23 fun t32 =>
M.ld (Value.int .i64) ((a24.add (x7.toNat * 2)).add 1) w23 fun t34 =>
M.ld (Value.int .u32) (a28.add (x7.toNat * 2)) w23 fun t36 =>
M.ld (Value.int .i64) ((a28.add (x7.toNat * 2)).add 1) w23 fun t38 =>
Calls Try.prog 18 #[(Value.agg #[(Value.int .u32 t32), (Value.int .i64 t34)])] w23 (R18 fun r40 w41 =>
M.keep (w41.cell? (a28.add (x7.toNat * 2)) = some (Value.int .u32 t36)) <|
M.keep (w41.cell? ((a28.add (x7.toNat * 2)).add 1) = some (Value.int .i64 t38)) <|
Calls Try.prog 22 #[(Value.agg #[(Value.int .u32 t36), (Value.int .i64 t38)])] w41 (R22 fun r44 w45 =>
M.ite (r40 != r44) (
K false w45) (
J8 (IntKind.i64.wrap (x7 + (1 : Int))) w45)))) (
M.join (fun (x48 : Bool) (w57 : World) => 
K x48 w57) fun J47 => 
M.b2s Try.prog 28 9 r1 w9 fun t49 =>
M.b2s Try.prog 28 9 r4 w9 fun t51 =>
M.ite (t49.toList == t51.toList) (
M.ite ((r2 == (0 : Int)) == r5) (
M.ite r5 (
J47 true w9) (
J47 (r2 == (12 : Int)) w9)) (
J47 false w9)) (
J47 false w9))) (0 : Int) w6))
theorem F8_ok {w0 : World} {p0 : SV} {K : Bool → World → Prop} (h : F8 p0 K w0) : Calls Try.prog 8 #[(SV.v p0)] w0 (R8 K) := by
  refine calls_of_WE (args := [(SV.v p0)]) (rs := [.tmp 2]) Try.func8 rfl (N := 53) rfl rfl rfl rfl ?_
  refine WE.seq ?_
  refine WE.reg ?_
  refine LE.p (v := (Value.bool false)) (Wn.no rfl) rfl (R.assign rfl) ?_
  refine LE.nil ?_
  refine WE.seq ?_
  refine WE.reg ?_
  refine LE.p (v := (SV.v p0)) (Wn.no rfl) rfl (R.move rfl) ?_
  refine LE.c (Wn.no rfl) rfl (R.call bd16 (Ls.cons rfl Ls.nil) rfl) (Calls.mono h ?_)
  rintro _ w3 ⟨r1, r2, rfl, h⟩
  refine ⟨_, rfl, ?_⟩
  refine LE.p (v := (Value.tuple #[(SV.v r1), (Value.int .i64 r2)])) (Wn.no rfl) rfl (R.move rfl) ?_
  refine LE.p (v := (SV.v r1)) (Wn.no rfl) rfl (R.ext rfl rfl) ?_
  refine LE.p (v := (Value.int .i64 r2)) (Wn.no rfl) rfl (R.ext rfl rfl) ?_
  refine LE.p (v := (SV.v r1)) (Wn.no rfl) rfl (R.assign rfl) ?_
  refine LE.p (v := (Value.int .i64 r2)) (Wn.no rfl) rfl (R.assign rfl) ?_
  refine LE.nil ?_
  refine WE.seq ?_
  refine WE.reg ?_
  refine LE.p (v := (SV.v p0)) (Wn.no rfl) rfl (R.move rfl) ?_
  refine LE.c (Wn.no rfl) rfl (R.call bd13 (Ls.cons rfl Ls.nil) rfl) (Calls.mono h ?_)
  rintro _ w6 ⟨r4, r5, rfl, h⟩
  refine ⟨_, rfl, ?_⟩
  refine LE.p (v := (Value.tuple #[(SV.v r4), (Value.bool r5)])) (Wn.no rfl) rfl (R.move rfl) ?_
  refine LE.p (v := (SV.v r4)) (Wn.no rfl) rfl (R.ext rfl rfl) ?_
  refine LE.p (v := (Value.bool r5)) (Wn.no rfl) rfl (R.ext rfl rfl) ?_
  refine LE.p (v := (SV.v r4)) (Wn.no rfl) rfl (R.assign rfl) ?_
  refine LE.p (v := (Value.bool r5)) (Wn.no rfl) rfl (R.assign rfl) ?_
  refine LE.nil ?_
  refine WE.seq ?_
  refine WE.seq ?_
  refine WE.reg ?_
  refine LE.p (v := (Value.int .i64 (0 : Int))) (Wn.no rfl) rfl (R.assign rfl) ?_
  refine LE.nil ?_
  refine WE.block ?_
  obtain ⟨I12, ⟨n11, h⟩, hr13⟩ := h
  refine WE.loop (fun n e w => ∃ (x7 : Int), I12 n x7 w ∧ e 0 = (SV.v p0) ∧ e 3 = (SV.v r1) ∧ e 4 = (Value.int .i64 r2) ∧ e 5 = (SV.v r4) ∧ e 6 = (Value.bool r5) ∧ e 7 = (Value.int .i64 x7)) n11 ⟨_, h, rfl, rfl, rfl, rfl, rfl, rfl⟩ ?_
  clear h
  rintro n11 e10 w9 ⟨x7, h, f16, f17, f18, f19, f20, f21⟩
  replace h := hr13 n11 x7 w9 h
  refine WE.seq ?_
  refine WE.seq ?_
  refine WE.reg ?_
  refine LE.p (v := (Value.int .i64 x7)) (Wn.no rfl) rfl (R.move f21) ?_
  refine LE.p (v := (SV.v p0)) (Wn.no rfl) rfl (R.move f16) ?_
  refine LE.p (v := (Value.int .i64 (p0.len : Int))) (Wn.no rfl) rfl (R.len sl27 rfl) ?_
  refine LE.p (v := (Value.bool (decide (x7 < (p0.len : Int))))) (Wn.no rfl) rfl (R.lss rfl rfl) ?_
  refine LE.nil ?_
  refine WE.condT rfl (b := (decide (x7 < (p0.len : Int)))) rfl ?_ ?_
  · intro hb22
    replace h := M.ite_t h hb22
    refine WE.skip ?_
    refine WE.seq ?_
    refine WE.block ?_
    refine WE.seq ?_
    refine WE.draw mix ?_
    obtain ⟨w23, hww23, h⟩ := M.drew_use h
    rw [← hww23]
    clear hww23
    refine DE.t 0 (v := (SV.v p0)) rfl (by kernel_rfl) (Wn.no rfl) rfl (R.move f16) ?_
    refine DE.t 1 (v := (Value.int .i64 x7)) rfl (by kernel_rfl) (Wn.no rfl) rfl (R.move f21) ?_
    obtain ⟨a24, h25, h26, h27, h⟩ := h
    refine DE.t 2 (v := (Value.pointer (some (a24.add (x7.toNat * 2))))) rfl (by kernel_rfl) (Wn.no rfl) rfl (R.idx (s := p0) sl27 rfl rfl h25 h26 h27) ?_
    refine DE.t 5 (v := (SV.v p0)) rfl (by kernel_rfl) (Wn.no rfl) rfl (R.move f16) ?_
    refine DE.t 6 (v := (Value.int .i64 x7)) rfl (by kernel_rfl) (Wn.no rfl) rfl (R.move f21) ?_
    obtain ⟨a28, h29, h30, h31, h⟩ := h
    refine DE.t 7 (v := (Value.pointer (some (a28.add (x7.toNat * 2))))) rfl (by kernel_rfl) (Wn.no rfl) rfl (R.idx (s := p0) sl27 rfl rfl h29 h30 h31) ?_
    obtain ⟨t32, h33, h⟩ := h
    obtain ⟨t34, h35, h⟩ := h
    refine DE.hold 3 (fun w => w.cell? (a24.add (x7.toNat * 2)) = some (Value.int .u32 t32) ∧ w.cell? ((a24.add (x7.toNat * 2)).add 1) = some (Value.int .i64 t34)) (v := (Value.agg #[(Value.int .u32 t32), (Value.int .i64 t34)])) rfl (by kernel_rfl) (Wn.no rfl) rfl ⟨h33, h35⟩ (fun w hs => R.ldA ag24 sz24 rfl rfl (Cs.cons hs.1 (Cs.cons hs.2 Cs.nil))) ?_
    obtain ⟨t36, h37, h⟩ := h
    obtain ⟨t38, h39, h⟩ := h
    refine DE.hold 8 (fun w => w.cell? (a28.add (x7.toNat * 2)) = some (Value.int .u32 t36) ∧ w.cell? ((a28.add (x7.toNat * 2)).add 1) = some (Value.int .i64 t38)) (v := (Value.agg #[(Value.int .u32 t36), (Value.int .i64 t38)])) rfl (by kernel_rfl) (Wn.no rfl) rfl ⟨h37, h39⟩ (fun w hs => R.ldA ag24 sz24 rfl rfl (Cs.cons hs.1 (Cs.cons hs.2 Cs.nil))) ?_
    refine DE.main 4 (by kernel_rfl) ?_
    refine One.c 4 rfl (Wn.no rfl) rfl (R.call bd18 (Ls.cons rfl Ls.nil) rfl) (Calls.mono h ?_)
    rintro _ w41 ⟨r40, rfl, h⟩
    obtain ⟨k42, h⟩ := h
    obtain ⟨k43, h⟩ := h
    refine ⟨_, rfl, ⟨fun _ => ⟨k42, k43⟩, aftT (by kernel_rfl), trivial⟩, ?_⟩
    refine DE.main 9 (by kernel_rfl) ?_
    refine One.c 9 rfl (Wn.no rfl) rfl (R.call bd22 (Ls.cons rfl Ls.nil) rfl) (Calls.mono h ?_)
    rintro _ w45 ⟨r44, rfl, h⟩
    refine ⟨_, rfl, ⟨aftT (by kernel_rfl), aftT (by kernel_rfl), trivial⟩, ?_⟩
    refine DE.t 10 (v := (Value.bool (r40 != r44))) rfl (by kernel_rfl) (Wn.no rfl) rfl (R.neq rfl rfl) ?_
    refine DE.done (by kernel_rfl) ?_
    refine WE.condT rfl (b := (r40 != r44)) rfl ?_ ?_
    · intro hb46
      replace h := M.ite_t h hb46
      refine WE.seq ?_
      refine WE.reg ?_
      refine LE.p (v := (Value.bool false)) (Wn.no rfl) rfl (R.assign rfl) ?_
      refine LE.nil ?_
      refine WE.ret ?_
      exact ⟨_, (Res.tmp rfl Res.nil), _, rfl, h⟩
    · intro hb46
      replace h := M.ite_f h hb46
      refine WE.skip ?_
      refine WE.reg ?_
      refine LE.p (v := (Value.int .i64 x7)) (Wn.no rfl) rfl (R.move f21) ?_
      refine LE.p (v := (Value.int .i64 (IntKind.i64.wrap (x7 + (1 : Int))))) (Wn.no rfl) rfl (R.add rfl rfl) ?_
      refine LE.p (v := (Value.int .i64 (IntKind.i64.wrap (x7 + (1 : Int))))) (Wn.no rfl) rfl (R.assign rfl) ?_
      refine LE.nil ?_
      obtain ⟨m14, hm15, h⟩ := h
      exact ⟨m14, hm15, _, h, f16, f17, f18, f19, f20, rfl⟩
  · intro hb22
    replace h := M.ite_f h hb22
    refine WE.exit ?_
    refine WE.seq ?_
    obtain ⟨J47, hJ47, h⟩ := M.join_use h
    refine WE.regJ (fun e w => ∃ (x48 : Bool), J47 x48 w ∧ e 2 = (Value.bool x48)) ?_ ?_
    · clear hJ47
      refine LE.p (v := (SV.v r1)) (Wn.no rfl) rfl (R.move f17) ?_
      obtain ⟨t49, h50, h⟩ := h
      refine LE.r (v := (Value.string t49)) (Wn.no rfl) rfl (R.b2s (s := r1) h50 rfl) ?_
      refine LE.p (v := (SV.v r4)) (Wn.no rfl) rfl (R.move f19) ?_
      obtain ⟨t51, h52, h⟩ := h
      refine LE.r (v := (Value.string t51)) (Wn.no rfl) rfl (R.b2s (s := r4) h52 rfl) ?_
      refine LE.p (v := (Value.bool (t49.toList == t51.toList))) (Wn.no rfl) rfl (R.seql rfl rfl) ?_
      refine LE.p (v := (Value.bool (t49.toList == t51.toList))) (Wn.no rfl) rfl (R.move rfl) ?_
      rcases M.ite_use h with ⟨hb53, h⟩ | ⟨hb53, h⟩
      · refine LE.p (v := (Value.int .i64 r2)) (Wn.yes 5 40 true rfl rfl rfl (congrArg Value.bool hb53)) rfl (R.move f18) ?_
        refine LE.p (v := (Value.bool (r2 == (0 : Int)))) (Wn.yes 5 40 true rfl rfl rfl (congrArg Value.bool hb53)) rfl (R.eql rfl rfl) ?_
        refine LE.p (v := (Value.bool r5)) (Wn.yes 5 40 true rfl rfl rfl (congrArg Value.bool hb53)) rfl (R.move f20) ?_
        refine LE.p (v := (Value.bool ((r2 == (0 : Int)) == r5))) (Wn.yes 5 40 true rfl rfl rfl (congrArg Value.bool hb53)) rfl (R.beql bo4 rfl rfl) ?_
        refine LE.p (v := (Value.bool ((r2 == (0 : Int)) == r5))) (Wn.no rfl) rfl (R.pickT (congrArg Value.bool hb53) rfl) ?_
        refine LE.p (v := (Value.bool ((r2 == (0 : Int)) == r5))) (Wn.no rfl) rfl (R.move rfl) ?_
        rcases M.ite_use h with ⟨hb54, h⟩ | ⟨hb54, h⟩
        · refine LE.p (v := (Value.bool r5)) (Wn.yes 11 46 true rfl rfl rfl (congrArg Value.bool hb54)) rfl (R.move f20) ?_
          refine LE.p (v := (Value.bool r5)) (Wn.yes 11 46 true rfl rfl rfl (congrArg Value.bool hb54)) rfl (R.move rfl) ?_
          rcases M.ite_use h with ⟨hb55, h⟩ | ⟨hb55, h⟩
          · refine LE.u (Un.no 13 48 false rfl rfl rfl (congrArg Value.bool hb55)) ?_
            refine LE.u (Un.no 13 48 false rfl rfl rfl (congrArg Value.bool hb55)) ?_
            refine LE.p (v := (Value.bool true)) (Wn.yes 11 46 true rfl rfl rfl (congrArg Value.bool hb54)) rfl (R.pickT (congrArg Value.bool hb55) rfl) ?_
            refine LE.p (v := (Value.bool true)) (Wn.no rfl) rfl (R.pickT (congrArg Value.bool hb54) rfl) ?_
            refine LE.p (v := (Value.bool true)) (Wn.no rfl) rfl (R.assign rfl) ?_
            refine LE.nil ?_
            exact ⟨_, h, rfl⟩
          · refine LE.p (v := (Value.int .i64 r2)) (Wn.yes 13 48 false rfl rfl rfl (congrArg Value.bool hb55)) rfl (R.move f18) ?_
            refine LE.p (v := (Value.bool (r2 == (12 : Int)))) (Wn.yes 13 48 false rfl rfl rfl (congrArg Value.bool hb55)) rfl (R.eql rfl rfl) ?_
            refine LE.p (v := (Value.bool (r2 == (12 : Int)))) (Wn.yes 11 46 true rfl rfl rfl (congrArg Value.bool hb54)) rfl (R.pickF (congrArg Value.bool hb55) rfl) ?_
            refine LE.p (v := (Value.bool (r2 == (12 : Int)))) (Wn.no rfl) rfl (R.pickT (congrArg Value.bool hb54) rfl) ?_
            refine LE.p (v := (Value.bool (r2 == (12 : Int)))) (Wn.no rfl) rfl (R.assign rfl) ?_
            refine LE.nil ?_
            exact ⟨_, h, rfl⟩
        · refine LE.u (Un.no 11 46 true rfl rfl rfl (congrArg Value.bool hb54)) ?_
          refine LE.u (Un.no 11 46 true rfl rfl rfl (congrArg Value.bool hb54)) ?_
          refine LE.u (Un.un 13 48 false rfl rfl rfl rfl) ?_
          refine LE.u (Un.un 13 48 false rfl rfl rfl rfl) ?_
          refine LE.u (Un.no 11 46 true rfl rfl rfl (congrArg Value.bool hb54)) ?_
          refine LE.p (v := (Value.bool false)) (Wn.no rfl) rfl (R.pickF (congrArg Value.bool hb54) rfl) ?_
          refine LE.p (v := (Value.bool false)) (Wn.no rfl) rfl (R.assign rfl) ?_
          refine LE.nil ?_
          exact ⟨_, h, rfl⟩
      · refine LE.u (Un.no 5 40 true rfl rfl rfl (congrArg Value.bool hb53)) ?_
        refine LE.u (Un.no 5 40 true rfl rfl rfl (congrArg Value.bool hb53)) ?_
        refine LE.u (Un.no 5 40 true rfl rfl rfl (congrArg Value.bool hb53)) ?_
        refine LE.u (Un.no 5 40 true rfl rfl rfl (congrArg Value.bool hb53)) ?_
        refine LE.p (v := (Value.bool false)) (Wn.no rfl) rfl (R.pickF (congrArg Value.bool hb53) rfl) ?_
        refine LE.p (v := (Value.bool false)) (Wn.no rfl) rfl (R.move rfl) ?_
        refine LE.u (Un.no 11 46 true rfl rfl rfl rfl) ?_
        refine LE.u (Un.no 11 46 true rfl rfl rfl rfl) ?_
        refine LE.u (Un.un 13 48 false rfl rfl rfl rfl) ?_
        refine LE.u (Un.un 13 48 false rfl rfl rfl rfl) ?_
        refine LE.u (Un.no 11 46 true rfl rfl rfl rfl) ?_
        refine LE.p (v := (Value.bool false)) (Wn.no rfl) rfl (R.pickF rfl rfl) ?_
        refine LE.p (v := (Value.bool false)) (Wn.no rfl) rfl (R.assign rfl) ?_
        refine LE.nil ?_
        exact ⟨_, h, rfl⟩
    · rintro e56 w57 ⟨x48, h, f58⟩
      subst hJ47
      refine WE.ret ?_
      exact ⟨_, (Res.tmp f58 Res.nil), _, rfl, h⟩
/-- The formula of signpost.signpostlaw8.read. -/
def F9 (p0 : SV) (K : Bool → World → Prop) (w0 : World) : Prop :=
Calls Try.prog 17 #[(SV.v p0)] w0 (R17 fun r1 r2 w3 =>
Calls Try.prog 23 #[(SV.v p0)] w3 (R23 fun r4 r5 w6 =>
M.join (fun (x8 : Bool) (w13 : World) => 
K x8 w13) fun J7 => 
Calls Try.prog 19 #[(SV.v r1), (SV.v r4)] w6 (R19 fun r9 w10 =>
M.ite r9 (
J7 (r2 == r5) w10) (
J7 false w10))))
theorem F9_ok {w0 : World} {p0 : SV} {K : Bool → World → Prop} (h : F9 p0 K w0) : Calls Try.prog 9 #[(SV.v p0)] w0 (R9 K) := by
  refine calls_of_WE (args := [(SV.v p0)]) (rs := [.tmp 2]) Try.func9 rfl (N := 25) rfl rfl rfl rfl ?_
  refine WE.seq ?_
  refine WE.reg ?_
  refine LE.p (v := (Value.bool false)) (Wn.no rfl) rfl (R.assign rfl) ?_
  refine LE.nil ?_
  refine WE.seq ?_
  refine WE.reg ?_
  refine LE.p (v := (SV.v p0)) (Wn.no rfl) rfl (R.move rfl) ?_
  refine LE.c (Wn.no rfl) rfl (R.call bd17 (Ls.cons rfl Ls.nil) rfl) (Calls.mono h ?_)
  rintro _ w3 ⟨r1, r2, rfl, h⟩
  refine ⟨_, rfl, ?_⟩
  refine LE.p (v := (Value.tuple #[(SV.v r1), (Value.bool r2)])) (Wn.no rfl) rfl (R.move rfl) ?_
  refine LE.p (v := (SV.v r1)) (Wn.no rfl) rfl (R.ext rfl rfl) ?_
  refine LE.p (v := (Value.bool r2)) (Wn.no rfl) rfl (R.ext rfl rfl) ?_
  refine LE.p (v := (SV.v r1)) (Wn.no rfl) rfl (R.assign rfl) ?_
  refine LE.p (v := (Value.bool r2)) (Wn.no rfl) rfl (R.assign rfl) ?_
  refine LE.nil ?_
  refine WE.seq ?_
  refine WE.reg ?_
  refine LE.p (v := (SV.v p0)) (Wn.no rfl) rfl (R.move rfl) ?_
  refine LE.c (Wn.no rfl) rfl (R.call bd23 (Ls.cons rfl Ls.nil) rfl) (Calls.mono h ?_)
  rintro _ w6 ⟨r4, r5, rfl, h⟩
  refine ⟨_, rfl, ?_⟩
  refine LE.p (v := (Value.tuple #[(SV.v r4), (Value.bool r5)])) (Wn.no rfl) rfl (R.move rfl) ?_
  refine LE.p (v := (SV.v r4)) (Wn.no rfl) rfl (R.ext rfl rfl) ?_
  refine LE.p (v := (Value.bool r5)) (Wn.no rfl) rfl (R.ext rfl rfl) ?_
  refine LE.p (v := (SV.v r4)) (Wn.no rfl) rfl (R.assign rfl) ?_
  refine LE.p (v := (Value.bool r5)) (Wn.no rfl) rfl (R.assign rfl) ?_
  refine LE.nil ?_
  refine WE.seq ?_
  obtain ⟨J7, hJ7, h⟩ := M.join_use h
  refine WE.regJ (fun e w => ∃ (x8 : Bool), J7 x8 w ∧ e 2 = (Value.bool x8)) ?_ ?_
  · clear hJ7
    refine LE.p (v := (SV.v r1)) (Wn.no rfl) rfl (R.move rfl) ?_
    refine LE.p (v := (SV.v r4)) (Wn.no rfl) rfl (R.move rfl) ?_
    refine LE.c (Wn.no rfl) rfl (R.call bd19 (Ls.cons rfl (Ls.cons rfl Ls.nil)) rfl) (Calls.mono h ?_)
    rintro _ w10 ⟨r9, rfl, h⟩
    refine ⟨_, rfl, ?_⟩
    refine LE.p (v := (Value.bool r9)) (Wn.no rfl) rfl (R.move rfl) ?_
    rcases M.ite_use h with ⟨hb11, h⟩ | ⟨hb11, h⟩
    · refine LE.p (v := (Value.bool r2)) (Wn.yes 3 20 true rfl rfl rfl (congrArg Value.bool hb11)) rfl (R.move rfl) ?_
      refine LE.p (v := (Value.bool r5)) (Wn.yes 3 20 true rfl rfl rfl (congrArg Value.bool hb11)) rfl (R.move rfl) ?_
      refine LE.p (v := (Value.bool (r2 == r5))) (Wn.yes 3 20 true rfl rfl rfl (congrArg Value.bool hb11)) rfl (R.beql bo4 rfl rfl) ?_
      refine LE.p (v := (Value.bool (r2 == r5))) (Wn.no rfl) rfl (R.pickT (congrArg Value.bool hb11) rfl) ?_
      refine LE.p (v := (Value.bool (r2 == r5))) (Wn.no rfl) rfl (R.assign rfl) ?_
      refine LE.nil ?_
      exact ⟨_, h, rfl⟩
    · refine LE.u (Un.no 3 20 true rfl rfl rfl (congrArg Value.bool hb11)) ?_
      refine LE.u (Un.no 3 20 true rfl rfl rfl (congrArg Value.bool hb11)) ?_
      refine LE.u (Un.no 3 20 true rfl rfl rfl (congrArg Value.bool hb11)) ?_
      refine LE.p (v := (Value.bool false)) (Wn.no rfl) rfl (R.pickF (congrArg Value.bool hb11) rfl) ?_
      refine LE.p (v := (Value.bool false)) (Wn.no rfl) rfl (R.assign rfl) ?_
      refine LE.nil ?_
      exact ⟨_, h, rfl⟩
  · rintro e12 w13 ⟨x8, h, f14⟩
    subst hJ7
    refine WE.ret ?_
    exact ⟨_, (Res.tmp f14 Res.nil), _, rfl, h⟩
/-- The formula of signpost.signpostlaw8.known. -/
def F10  (K : Bool → World → Prop) (w0 : World) : Prop :=
M.new (.cells #[(Value.int .u32 (167772160 : Int)), (Value.int .i64 (8 : Int)), (Value.int .u32 (0 : Int)), (Value.int .i64 (0 : Int))] 24) w0 fun b3 w1 =>
Calls Try.prog 16 #[(SV.v (SV.mk (some b3) 2 2))] w1 (R16 fun r4 r5 w6 =>
M.new (.cells #[(Value.int .u8 (8 : Int)), (Value.int .u8 (10 : Int))] 5) w6 fun b9 w7 =>
Calls Try.prog 17 #[(SV.v (SV.mk (some b9) 2 2))] w7 (R17 fun r10 r11 w12 =>
M.new (.cells #[(Value.int .u8 (33 : Int)), (Value.int .u8 (1 : Int)), (Value.int .u8 (2 : Int)), (Value.int .u8 (3 : Int)), (Value.int .u8 (4 : Int)), (Value.int .u8 (5 : Int))] 5) w12 fun b15 w13 =>
Calls Try.prog 17 #[(SV.v (SV.mk (some b15) 6 6))] w13 (R17 fun r16 r17 w18 =>
M.join (fun (x20 : Bool) (w37 : World) => 
K x20 w37) fun J19 => 
M.b2s Try.prog 28 9 r4 w18 fun t21 =>
M.ite (t21.toList == str0.toList) (
M.ite (r5 == (0 : Int)) (
M.ite r11 (
M.ite ((r10.len : Int) == (1 : Int)) (
M.idx r10 (0 : Int) 2 fun a27 =>
M.ld (Value.int .u32) (a27.add ((0 : Int).toNat * 2)) w18 fun t31 =>
M.ld (Value.int .i64) ((a27.add ((0 : Int).toNat * 2)).add 1) w18 fun t33 =>
M.ite ((t31 == (167772160 : Int)) && (t33 == (8 : Int))) (
J19 (!r17) w18) (
J19 false w18)) (
J19 false w18)) (
J19 false w18)) (
J19 false w18)) (
J19 false w18))))
theorem F10_ok {w0 : World}  {K : Bool → World → Prop} (h : F10 K w0) : Calls Try.prog 10 #[] w0 (R10 K) := by
  refine calls_of_WE (args := []) (rs := [.tmp 0]) Try.func10 rfl (N := 50) rfl rfl rfl rfl ?_
  refine WE.seq ?_
  refine WE.reg ?_
  refine LE.p (v := (Value.bool false)) (Wn.no rfl) rfl (R.assign rfl) ?_
  refine LE.nil ?_
  refine WE.seq ?_
  refine WE.reg ?_
  refine LE.p (v := (Value.agg #[(Value.int .u32 (167772160 : Int)), (Value.int .i64 (8 : Int))])) (Wn.no rfl) rfl (R.bld (by exact (Ls.cons (R.Pr rfl) (Ls.cons (R.Pr rfl) Ls.nil))) (fun w => bu24_0_1 (167772160 : Int) (8 : Int) w)) ?_
  refine LE.p (v := (Value.agg #[(Value.int .u32 (0 : Int)), (Value.int .i64 (0 : Int))])) (Wn.no rfl) rfl (R.bld (by exact Ls.nil) (fun w => bu24_  w)) ?_
  obtain ⟨b3, hpb3, w1, hww1, h⟩ := M.new_use h
  refine LE.r (v := (SV.v (SV.mk (some b3) 2 2))) (Wn.no rfl) rfl (R.bsl (by exact (Ls.cons (R.Pr rfl) (Ls.cons (R.Pr rfl) Ls.nil))) (fun w => bs27_2 (167772160 : Int) (8 : Int) (0 : Int) (0 : Int) w) hpb3 hww1) ?_
  refine LE.c (Wn.no rfl) rfl (R.call bd16 (Ls.cons rfl Ls.nil) rfl) (Calls.mono h ?_)
  rintro _ w6 ⟨r4, r5, rfl, h⟩
  refine ⟨_, rfl, ?_⟩
  refine LE.p (v := (Value.tuple #[(SV.v r4), (Value.int .i64 r5)])) (Wn.no rfl) rfl (R.move rfl) ?_
  refine LE.p (v := (SV.v r4)) (Wn.no rfl) rfl (R.ext rfl rfl) ?_
  refine LE.p (v := (Value.int .i64 r5)) (Wn.no rfl) rfl (R.ext rfl rfl) ?_
  refine LE.p (v := (SV.v r4)) (Wn.no rfl) rfl (R.assign rfl) ?_
  refine LE.p (v := (Value.int .i64 r5)) (Wn.no rfl) rfl (R.assign rfl) ?_
  refine LE.nil ?_
  refine WE.seq ?_
  refine WE.reg ?_
  obtain ⟨b9, hpb9, w7, hww7, h⟩ := M.new_use h
  refine LE.r (v := (SV.v (SV.mk (some b9) 2 2))) (Wn.no rfl) rfl (R.bsl (by exact (Ls.cons (R.Pr rfl) (Ls.cons (R.Pr rfl) Ls.nil))) (fun w => bs28_2 (8 : Int) (10 : Int) w) hpb9 hww7) ?_
  refine LE.c (Wn.no rfl) rfl (R.call bd17 (Ls.cons rfl Ls.nil) rfl) (Calls.mono h ?_)
  rintro _ w12 ⟨r10, r11, rfl, h⟩
  refine ⟨_, rfl, ?_⟩
  refine LE.p (v := (Value.tuple #[(SV.v r10), (Value.bool r11)])) (Wn.no rfl) rfl (R.move rfl) ?_
  refine LE.p (v := (SV.v r10)) (Wn.no rfl) rfl (R.ext rfl rfl) ?_
  refine LE.p (v := (Value.bool r11)) (Wn.no rfl) rfl (R.ext rfl rfl) ?_
  refine LE.p (v := (SV.v r10)) (Wn.no rfl) rfl (R.assign rfl) ?_
  refine LE.p (v := (Value.bool r11)) (Wn.no rfl) rfl (R.assign rfl) ?_
  refine LE.nil ?_
  refine WE.seq ?_
  refine WE.reg ?_
  obtain ⟨b15, hpb15, w13, hww13, h⟩ := M.new_use h
  refine LE.r (v := (SV.v (SV.mk (some b15) 6 6))) (Wn.no rfl) rfl (R.bsl (by exact (Ls.cons (R.Pr rfl) (Ls.cons (R.Pr rfl) (Ls.cons (R.Pr rfl) (Ls.cons (R.Pr rfl) (Ls.cons (R.Pr rfl) (Ls.cons (R.Pr rfl) Ls.nil))))))) (fun w => bs28_6 (33 : Int) (1 : Int) (2 : Int) (3 : Int) (4 : Int) (5 : Int) w) hpb15 hww13) ?_
  refine LE.c (Wn.no rfl) rfl (R.call bd17 (Ls.cons rfl Ls.nil) rfl) (Calls.mono h ?_)
  rintro _ w18 ⟨r16, r17, rfl, h⟩
  refine ⟨_, rfl, ?_⟩
  refine LE.p (v := (Value.tuple #[(SV.v r16), (Value.bool r17)])) (Wn.no rfl) rfl (R.move rfl) ?_
  refine LE.p (v := (SV.v r16)) (Wn.no rfl) rfl (R.ext rfl rfl) ?_
  refine LE.p (v := (Value.bool r17)) (Wn.no rfl) rfl (R.ext rfl rfl) ?_
  refine LE.p (v := (SV.v r16)) (Wn.no rfl) rfl (R.assign rfl) ?_
  refine LE.p (v := (Value.bool r17)) (Wn.no rfl) rfl (R.assign rfl) ?_
  refine LE.nil ?_
  refine WE.seq ?_
  obtain ⟨J19, hJ19, h⟩ := M.join_use h
  refine WE.regJ (fun e w => ∃ (x20 : Bool), J19 x20 w ∧ e 0 = (Value.bool x20)) ?_ ?_
  · clear hJ19
    refine LE.p (v := (SV.v r4)) (Wn.no rfl) rfl (R.move rfl) ?_
    obtain ⟨t21, h22, h⟩ := h
    refine LE.r (v := (Value.string t21)) (Wn.no rfl) rfl (R.b2s (s := r4) h22 rfl) ?_
    refine LE.p (v := (Value.bool (t21.toList == str0.toList))) (Wn.no rfl) rfl (R.seql rfl rfl) ?_
    refine LE.p (v := (Value.bool (t21.toList == str0.toList))) (Wn.no rfl) rfl (R.move rfl) ?_
    rcases M.ite_use h with ⟨hb23, h⟩ | ⟨hb23, h⟩
    · refine LE.p (v := (Value.int .i64 r5)) (Wn.yes 3 27 true rfl rfl rfl (congrArg Value.bool hb23)) rfl (R.move rfl) ?_
      refine LE.p (v := (Value.bool (r5 == (0 : Int)))) (Wn.yes 3 27 true rfl rfl rfl (congrArg Value.bool hb23)) rfl (R.eql rfl rfl) ?_
      refine LE.p (v := (Value.bool (r5 == (0 : Int)))) (Wn.no rfl) rfl (R.pickT (congrArg Value.bool hb23) rfl) ?_
      refine LE.p (v := (Value.bool (r5 == (0 : Int)))) (Wn.no rfl) rfl (R.move rfl) ?_
      rcases M.ite_use h with ⟨hb24, h⟩ | ⟨hb24, h⟩
      · refine LE.p (v := (Value.bool r11)) (Wn.yes 7 31 true rfl rfl rfl (congrArg Value.bool hb24)) rfl (R.move rfl) ?_
        refine LE.p (v := (Value.bool r11)) (Wn.no rfl) rfl (R.pickT (congrArg Value.bool hb24) rfl) ?_
        refine LE.p (v := (Value.bool r11)) (Wn.no rfl) rfl (R.move rfl) ?_
        rcases M.ite_use h with ⟨hb25, h⟩ | ⟨hb25, h⟩
        · refine LE.p (v := (SV.v r10)) (Wn.yes 10 34 true rfl rfl rfl (congrArg Value.bool hb25)) rfl (R.move rfl) ?_
          refine LE.p (v := (Value.int .i64 (r10.len : Int))) (Wn.yes 10 34 true rfl rfl rfl (congrArg Value.bool hb25)) rfl (R.len sl27 rfl) ?_
          refine LE.p (v := (Value.bool ((r10.len : Int) == (1 : Int)))) (Wn.yes 10 34 true rfl rfl rfl (congrArg Value.bool hb25)) rfl (R.eql rfl rfl) ?_
          refine LE.p (v := (Value.bool ((r10.len : Int) == (1 : Int)))) (Wn.no rfl) rfl (R.pickT (congrArg Value.bool hb25) rfl) ?_
          refine LE.p (v := (Value.bool ((r10.len : Int) == (1 : Int)))) (Wn.no rfl) rfl (R.move rfl) ?_
          rcases M.ite_use h with ⟨hb26, h⟩ | ⟨hb26, h⟩
          · refine LE.p (v := (SV.v r10)) (Wn.yes 15 39 true rfl rfl rfl (congrArg Value.bool hb26)) rfl (R.move rfl) ?_
            obtain ⟨a27, h28, h29, h30, h⟩ := h
            refine LE.p (v := (Value.pointer (some (a27.add ((0 : Int).toNat * 2))))) (Wn.yes 15 39 true rfl rfl rfl (congrArg Value.bool hb26)) rfl (R.idx (s := r10) sl27 rfl rfl h28 h29 h30) ?_
            obtain ⟨t31, h32, h⟩ := h
            obtain ⟨t33, h34, h⟩ := h
            refine LE.r (v := (Value.agg #[(Value.int .u32 t31), (Value.int .i64 t33)])) (Wn.yes 15 39 true rfl rfl rfl (congrArg Value.bool hb26)) rfl (R.ldA ag24 sz24 rfl rfl (Cs.cons h32 (Cs.cons h34 Cs.nil))) ?_
            refine LE.p (v := (Value.agg #[(Value.int .u32 (167772160 : Int)), (Value.int .i64 (8 : Int))])) (Wn.yes 15 39 true rfl rfl rfl (congrArg Value.bool hb26)) rfl (R.bld (by exact (Ls.cons (R.Pr rfl) (Ls.cons (R.Pr rfl) Ls.nil))) (fun w => bu24_0_1 (167772160 : Int) (8 : Int) w)) ?_
            refine LE.p (v := (Value.bool ((t31 == (167772160 : Int)) && (t33 == (8 : Int))))) (Wn.yes 15 39 true rfl rfl rfl (congrArg Value.bool hb26)) rfl (R.eqS (fun w => eq24 t31 (167772160 : Int) t33 (8 : Int) w) sg24 rfl rfl) ?_
            refine LE.p (v := (Value.bool ((t31 == (167772160 : Int)) && (t33 == (8 : Int))))) (Wn.no rfl) rfl (R.pickT (congrArg Value.bool hb26) rfl) ?_
            refine LE.p (v := (Value.bool ((t31 == (167772160 : Int)) && (t33 == (8 : Int))))) (Wn.no rfl) rfl (R.move rfl) ?_
            rcases M.ite_use h with ⟨hb35, h⟩ | ⟨hb35, h⟩
            · refine LE.p (v := (Value.bool r17)) (Wn.yes 22 46 true rfl rfl rfl (congrArg Value.bool hb35)) rfl (R.move rfl) ?_
              refine LE.p (v := (Value.bool (!r17))) (Wn.yes 22 46 true rfl rfl rfl (congrArg Value.bool hb35)) rfl (R.not rfl) ?_
              refine LE.p (v := (Value.bool (!r17))) (Wn.no rfl) rfl (R.pickT (congrArg Value.bool hb35) rfl) ?_
              refine LE.p (v := (Value.bool (!r17))) (Wn.no rfl) rfl (R.assign rfl) ?_
              refine LE.nil ?_
              exact ⟨_, h, rfl⟩
            · refine LE.u (Un.no 22 46 true rfl rfl rfl (congrArg Value.bool hb35)) ?_
              refine LE.u (Un.no 22 46 true rfl rfl rfl (congrArg Value.bool hb35)) ?_
              refine LE.p (v := (Value.bool false)) (Wn.no rfl) rfl (R.pickF (congrArg Value.bool hb35) rfl) ?_
              refine LE.p (v := (Value.bool false)) (Wn.no rfl) rfl (R.assign rfl) ?_
              refine LE.nil ?_
              exact ⟨_, h, rfl⟩
          · refine LE.u (Un.no 15 39 true rfl rfl rfl (congrArg Value.bool hb26)) ?_
            refine LE.u (Un.no 15 39 true rfl rfl rfl (congrArg Value.bool hb26)) ?_
            refine LE.u (Un.no 15 39 true rfl rfl rfl (congrArg Value.bool hb26)) ?_
            refine LE.u (Un.no 15 39 true rfl rfl rfl (congrArg Value.bool hb26)) ?_
            refine LE.u (Un.no 15 39 true rfl rfl rfl (congrArg Value.bool hb26)) ?_
            refine LE.p (v := (Value.bool false)) (Wn.no rfl) rfl (R.pickF (congrArg Value.bool hb26) rfl) ?_
            refine LE.p (v := (Value.bool false)) (Wn.no rfl) rfl (R.move rfl) ?_
            refine LE.u (Un.no 22 46 true rfl rfl rfl rfl) ?_
            refine LE.u (Un.no 22 46 true rfl rfl rfl rfl) ?_
            refine LE.p (v := (Value.bool false)) (Wn.no rfl) rfl (R.pickF rfl rfl) ?_
            refine LE.p (v := (Value.bool false)) (Wn.no rfl) rfl (R.assign rfl) ?_
            refine LE.nil ?_
            exact ⟨_, h, rfl⟩
        · refine LE.u (Un.no 10 34 true rfl rfl rfl (congrArg Value.bool hb25)) ?_
          refine LE.u (Un.no 10 34 true rfl rfl rfl (congrArg Value.bool hb25)) ?_
          refine LE.u (Un.no 10 34 true rfl rfl rfl (congrArg Value.bool hb25)) ?_
          refine LE.p (v := (Value.bool false)) (Wn.no rfl) rfl (R.pickF (congrArg Value.bool hb25) rfl) ?_
          refine LE.p (v := (Value.bool false)) (Wn.no rfl) rfl (R.move rfl) ?_
          refine LE.u (Un.no 15 39 true rfl rfl rfl rfl) ?_
          refine LE.u (Un.no 15 39 true rfl rfl rfl rfl) ?_
          refine LE.u (Un.no 15 39 true rfl rfl rfl rfl) ?_
          refine LE.u (Un.no 15 39 true rfl rfl rfl rfl) ?_
          refine LE.u (Un.no 15 39 true rfl rfl rfl rfl) ?_
          refine LE.p (v := (Value.bool false)) (Wn.no rfl) rfl (R.pickF rfl rfl) ?_
          refine LE.p (v := (Value.bool false)) (Wn.no rfl) rfl (R.move rfl) ?_
          refine LE.u (Un.no 22 46 true rfl rfl rfl rfl) ?_
          refine LE.u (Un.no 22 46 true rfl rfl rfl rfl) ?_
          refine LE.p (v := (Value.bool false)) (Wn.no rfl) rfl (R.pickF rfl rfl) ?_
          refine LE.p (v := (Value.bool false)) (Wn.no rfl) rfl (R.assign rfl) ?_
          refine LE.nil ?_
          exact ⟨_, h, rfl⟩
      · refine LE.u (Un.no 7 31 true rfl rfl rfl (congrArg Value.bool hb24)) ?_
        refine LE.p (v := (Value.bool false)) (Wn.no rfl) rfl (R.pickF (congrArg Value.bool hb24) rfl) ?_
        refine LE.p (v := (Value.bool false)) (Wn.no rfl) rfl (R.move rfl) ?_
        refine LE.u (Un.no 10 34 true rfl rfl rfl rfl) ?_
        refine LE.u (Un.no 10 34 true rfl rfl rfl rfl) ?_
        refine LE.u (Un.no 10 34 true rfl rfl rfl rfl) ?_
        refine LE.p (v := (Value.bool false)) (Wn.no rfl) rfl (R.pickF rfl rfl) ?_
        refine LE.p (v := (Value.bool false)) (Wn.no rfl) rfl (R.move rfl) ?_
        refine LE.u (Un.no 15 39 true rfl rfl rfl rfl) ?_
        refine LE.u (Un.no 15 39 true rfl rfl rfl rfl) ?_
        refine LE.u (Un.no 15 39 true rfl rfl rfl rfl) ?_
        refine LE.u (Un.no 15 39 true rfl rfl rfl rfl) ?_
        refine LE.u (Un.no 15 39 true rfl rfl rfl rfl) ?_
        refine LE.p (v := (Value.bool false)) (Wn.no rfl) rfl (R.pickF rfl rfl) ?_
        refine LE.p (v := (Value.bool false)) (Wn.no rfl) rfl (R.move rfl) ?_
        refine LE.u (Un.no 22 46 true rfl rfl rfl rfl) ?_
        refine LE.u (Un.no 22 46 true rfl rfl rfl rfl) ?_
        refine LE.p (v := (Value.bool false)) (Wn.no rfl) rfl (R.pickF rfl rfl) ?_
        refine LE.p (v := (Value.bool false)) (Wn.no rfl) rfl (R.assign rfl) ?_
        refine LE.nil ?_
        exact ⟨_, h, rfl⟩
    · refine LE.u (Un.no 3 27 true rfl rfl rfl (congrArg Value.bool hb23)) ?_
      refine LE.u (Un.no 3 27 true rfl rfl rfl (congrArg Value.bool hb23)) ?_
      refine LE.p (v := (Value.bool false)) (Wn.no rfl) rfl (R.pickF (congrArg Value.bool hb23) rfl) ?_
      refine LE.p (v := (Value.bool false)) (Wn.no rfl) rfl (R.move rfl) ?_
      refine LE.u (Un.no 7 31 true rfl rfl rfl rfl) ?_
      refine LE.p (v := (Value.bool false)) (Wn.no rfl) rfl (R.pickF rfl rfl) ?_
      refine LE.p (v := (Value.bool false)) (Wn.no rfl) rfl (R.move rfl) ?_
      refine LE.u (Un.no 10 34 true rfl rfl rfl rfl) ?_
      refine LE.u (Un.no 10 34 true rfl rfl rfl rfl) ?_
      refine LE.u (Un.no 10 34 true rfl rfl rfl rfl) ?_
      refine LE.p (v := (Value.bool false)) (Wn.no rfl) rfl (R.pickF rfl rfl) ?_
      refine LE.p (v := (Value.bool false)) (Wn.no rfl) rfl (R.move rfl) ?_
      refine LE.u (Un.no 15 39 true rfl rfl rfl rfl) ?_
      refine LE.u (Un.no 15 39 true rfl rfl rfl rfl) ?_
      refine LE.u (Un.no 15 39 true rfl rfl rfl rfl) ?_
      refine LE.u (Un.no 15 39 true rfl rfl rfl rfl) ?_
      refine LE.u (Un.no 15 39 true rfl rfl rfl rfl) ?_
      refine LE.p (v := (Value.bool false)) (Wn.no rfl) rfl (R.pickF rfl rfl) ?_
      refine LE.p (v := (Value.bool false)) (Wn.no rfl) rfl (R.move rfl) ?_
      refine LE.u (Un.no 22 46 true rfl rfl rfl rfl) ?_
      refine LE.u (Un.no 22 46 true rfl rfl rfl rfl) ?_
      refine LE.p (v := (Value.bool false)) (Wn.no rfl) rfl (R.pickF rfl rfl) ?_
      refine LE.p (v := (Value.bool false)) (Wn.no rfl) rfl (R.assign rfl) ?_
      refine LE.nil ?_
      exact ⟨_, h, rfl⟩
  · rintro e36 w37 ⟨x20, h, f38⟩
    subst hJ19
    refine WE.ret ?_
    exact ⟨_, (Res.tmp f38 Res.nil), _, rfl, h⟩
/-- The formula of signpost.signpostlaw8.prefixes. -/
def F11 (p0 : SV) (p1 : SV) (K : SV → World → Prop) (w0 : World) : Prop :=
M.loop2 (fun (J3 : SV → Int → World → Prop) (x1 : SV) (x2 : Int) (w4 : World) => 
M.join (fun (x16 : Bool) (w20 : World) => 
M.ite x16 (
M.drew w20 fun w27 => 
M.idx p0 x2 1 fun a28 =>
M.idx p1 x2 1 fun a32 =>
M.ld (Value.int .u32) (a28.add (x2.toNat * 1)) w27 fun t36 =>
M.ld (Value.int .i64) (a32.add (x2.toNat * 1)) w27 fun t38 =>
M.new (.cells #[(Value.int .u32 t36), (Value.int .i64 t38)] 24) w27 fun b42 w40 =>
M.app Try.prog 27 27 27 x1 (SV.v (SV.mk (some b42) 1 1)) w40 fun s43 w44 =>
J3 s43 (IntKind.i64.wrap (x2 + (1 : Int))) w44) (
K x1 w20)) fun J15 => 
M.ite (decide (x2 < (p0.len : Int))) (
M.ite (decide (x2 < (p1.len : Int))) (
J15 (decide (x2 < (40 : Int))) w4) (
J15 false w4)) (
J15 false w4)) SV.nil (0 : Int) w0
theorem F11_ok {w0 : World} {p0 : SV} {p1 : SV} {K : SV → World → Prop} (h : F11 p0 p1 K w0) : Calls Try.prog 11 #[(SV.v p0), (SV.v p1)] w0 (R11 K) := by
  refine calls_of_WE (args := [(SV.v p0), (SV.v p1)]) (rs := [.tmp 4]) Try.func11 rfl (N := 36) rfl rfl rfl rfl ?_
  refine WE.seq ?_
  refine WE.reg ?_
  refine LE.p (v := (SV.v SV.nil)) (Wn.no rfl) rfl (R.assign rfl) ?_
  refine LE.nil ?_
  refine WE.seq ?_
  refine WE.reg ?_
  refine LE.p (v := (SV.v SV.nil)) (Wn.no rfl) rfl (R.assign rfl) ?_
  refine LE.nil ?_
  refine WE.seq ?_
  refine WE.seq ?_
  refine WE.reg ?_
  refine LE.p (v := (Value.int .i64 (0 : Int))) (Wn.no rfl) rfl (R.assign rfl) ?_
  refine LE.nil ?_
  refine WE.block ?_
  obtain ⟨I7, ⟨n6, h⟩, hr8⟩ := h
  refine WE.loop (fun n e w => ∃ (x1 : SV) (x2 : Int), I7 n x1 x2 w ∧ e 0 = (SV.v p0) ∧ e 1 = (SV.v p1) ∧ e 5 = (SV.v x1) ∧ e 6 = (Value.int .i64 x2)) n6 ⟨_, _, h, rfl, rfl, rfl, rfl⟩ ?_
  clear h
  rintro n6 e5 w4 ⟨x1, x2, h, f11, f12, f13, f14⟩
  replace h := hr8 n6 x1 x2 w4 h
  refine WE.seq ?_
  refine WE.seq ?_
  obtain ⟨J15, hJ15, h⟩ := M.join_use h
  refine WE.regJ (fun e w => ∃ (x16 : Bool), J15 x16 w ∧ e 0 = (SV.v p0) ∧ e 1 = (SV.v p1) ∧ e 5 = (SV.v x1) ∧ e 6 = (Value.int .i64 x2) ∧ e 20 = (Value.bool x16)) ?_ ?_
  · clear hJ15
    refine LE.p (v := (Value.int .i64 x2)) (Wn.no rfl) rfl (R.move f14) ?_
    refine LE.p (v := (SV.v p0)) (Wn.no rfl) rfl (R.move f11) ?_
    refine LE.p (v := (Value.int .i64 (p0.len : Int))) (Wn.no rfl) rfl (R.len sl31 rfl) ?_
    refine LE.p (v := (Value.bool (decide (x2 < (p0.len : Int))))) (Wn.no rfl) rfl (R.lss rfl rfl) ?_
    refine LE.p (v := (Value.bool (decide (x2 < (p0.len : Int))))) (Wn.no rfl) rfl (R.move rfl) ?_
    rcases M.ite_use h with ⟨hb17, h⟩ | ⟨hb17, h⟩
    · refine LE.p (v := (Value.int .i64 x2)) (Wn.yes 4 11 true rfl rfl rfl (congrArg Value.bool hb17)) rfl (R.move f14) ?_
      refine LE.p (v := (SV.v p1)) (Wn.yes 4 11 true rfl rfl rfl (congrArg Value.bool hb17)) rfl (R.move f12) ?_
      refine LE.p (v := (Value.int .i64 (p1.len : Int))) (Wn.yes 4 11 true rfl rfl rfl (congrArg Value.bool hb17)) rfl (R.len sl32 rfl) ?_
      refine LE.p (v := (Value.bool (decide (x2 < (p1.len : Int))))) (Wn.yes 4 11 true rfl rfl rfl (congrArg Value.bool hb17)) rfl (R.lss rfl rfl) ?_
      refine LE.p (v := (Value.bool (decide (x2 < (p1.len : Int))))) (Wn.no rfl) rfl (R.pickT (congrArg Value.bool hb17) rfl) ?_
      refine LE.p (v := (Value.bool (decide (x2 < (p1.len : Int))))) (Wn.no rfl) rfl (R.move rfl) ?_
      rcases M.ite_use h with ⟨hb18, h⟩ | ⟨hb18, h⟩
      · refine LE.p (v := (Value.int .i64 x2)) (Wn.yes 10 17 true rfl rfl rfl (congrArg Value.bool hb18)) rfl (R.move f14) ?_
        refine LE.p (v := (Value.bool (decide (x2 < (40 : Int))))) (Wn.yes 10 17 true rfl rfl rfl (congrArg Value.bool hb18)) rfl (R.lss rfl rfl) ?_
        refine LE.p (v := (Value.bool (decide (x2 < (40 : Int))))) (Wn.no rfl) rfl (R.pickT (congrArg Value.bool hb18) rfl) ?_
        refine LE.nil ?_
        exact ⟨_, h, f11, f12, f13, f14, rfl⟩
      · refine LE.u (Un.no 10 17 true rfl rfl rfl (congrArg Value.bool hb18)) ?_
        refine LE.u (Un.no 10 17 true rfl rfl rfl (congrArg Value.bool hb18)) ?_
        refine LE.p (v := (Value.bool false)) (Wn.no rfl) rfl (R.pickF (congrArg Value.bool hb18) rfl) ?_
        refine LE.nil ?_
        exact ⟨_, h, f11, f12, f13, f14, rfl⟩
    · refine LE.u (Un.no 4 11 true rfl rfl rfl (congrArg Value.bool hb17)) ?_
      refine LE.u (Un.no 4 11 true rfl rfl rfl (congrArg Value.bool hb17)) ?_
      refine LE.u (Un.no 4 11 true rfl rfl rfl (congrArg Value.bool hb17)) ?_
      refine LE.u (Un.no 4 11 true rfl rfl rfl (congrArg Value.bool hb17)) ?_
      refine LE.p (v := (Value.bool false)) (Wn.no rfl) rfl (R.pickF (congrArg Value.bool hb17) rfl) ?_
      refine LE.p (v := (Value.bool false)) (Wn.no rfl) rfl (R.move rfl) ?_
      refine LE.u (Un.no 10 17 true rfl rfl rfl rfl) ?_
      refine LE.u (Un.no 10 17 true rfl rfl rfl rfl) ?_
      refine LE.p (v := (Value.bool false)) (Wn.no rfl) rfl (R.pickF rfl rfl) ?_
      refine LE.nil ?_
      exact ⟨_, h, f11, f12, f13, f14, rfl⟩
  · rintro e19 w20 ⟨x16, h, f21, f22, f23, f24, f25⟩
    subst hJ15
    refine WE.condT rfl (b := x16) f25 ?_ ?_
    · intro hb26
      replace h := M.ite_t h hb26
      refine WE.skip ?_
      refine WE.seq ?_
      refine WE.block ?_
      refine WE.draw mix ?_
      obtain ⟨w27, hww27, h⟩ := M.drew_use h
      rw [← hww27]
      clear hww27
      refine DE.t 0 (v := (SV.v x1)) rfl (by kernel_rfl) (Wn.no rfl) rfl (R.move f23) ?_
      refine DE.t 1 (v := (SV.v p0)) rfl (by kernel_rfl) (Wn.no rfl) rfl (R.move f21) ?_
      refine DE.t 2 (v := (Value.int .i64 x2)) rfl (by kernel_rfl) (Wn.no rfl) rfl (R.move f24) ?_
      obtain ⟨a28, h29, h30, h31, h⟩ := h
      refine DE.t 3 (v := (Value.pointer (some (a28.add (x2.toNat * 1))))) rfl (by kernel_rfl) (Wn.no rfl) rfl (R.idx (s := p0) sl31 rfl rfl h29 h30 h31) ?_
      refine DE.t 5 (v := (SV.v p1)) rfl (by kernel_rfl) (Wn.no rfl) rfl (R.move f22) ?_
      refine DE.t 6 (v := (Value.int .i64 x2)) rfl (by kernel_rfl) (Wn.no rfl) rfl (R.move f24) ?_
      obtain ⟨a32, h33, h34, h35, h⟩ := h
      refine DE.t 7 (v := (Value.pointer (some (a32.add (x2.toNat * 1))))) rfl (by kernel_rfl) (Wn.no rfl) rfl (R.idx (s := p1) sl32 rfl rfl h33 h34 h35) ?_
      obtain ⟨t36, h37, h⟩ := h
      refine DE.hold 4 (fun w => w.cell? (a28.add (x2.toNat * 1)) = some (Value.int .u32 t36)) (v := (Value.int .u32 t36)) rfl (by kernel_rfl) (Wn.no rfl) rfl h37 (fun w hs => R.ld sc22 rfl hs) ?_
      obtain ⟨t38, h39, h⟩ := h
      refine DE.main 8 (by kernel_rfl) ?_
      refine One.r 8 (v := (Value.int .i64 t38)) rfl (Wn.no rfl) rfl (R.ld sc3 rfl h39) (.inl rfl) ?_
      refine DE.t 9 (v := (Value.agg #[(Value.int .u32 t36), (Value.int .i64 t38)])) rfl (by kernel_rfl) (Wn.no rfl) rfl (R.bld (by exact (Ls.cons (R.Pr rfl) (Ls.cons (R.Pr rfl) Ls.nil))) (fun w => bu24_0_1 t36 t38 w)) ?_
      obtain ⟨b42, hpb42, w40, hww40, h⟩ := M.new_use h
      refine DE.main 10 (by kernel_rfl) ?_
      refine One.r 10 (v := (SV.v (SV.mk (some b42) 1 1))) rfl (Wn.no rfl) rfl (R.bsl (by exact (Ls.cons (R.Pr rfl) Ls.nil)) (fun w => bs27_1 t36 t38 w) hpb42 hww40) (.inr ⟨aftT (by kernel_rfl), trivial⟩) ?_
      obtain ⟨s43, w44, h45, h⟩ := h
      refine DE.main 11 (by kernel_rfl) ?_
      refine One.r 11 (v := (SV.v s43)) rfl (Wn.no rfl) rfl (R.app (s := x1) (r := s43) rfl rfl h45) (.inr ⟨aftT (by kernel_rfl), trivial⟩) ?_
      refine DE.t 12 (v := (SV.v s43)) rfl (by kernel_rfl) (Wn.no rfl) rfl (R.assign rfl) ?_
      refine DE.done (by kernel_rfl) ?_
      refine WE.reg ?_
      refine LE.p (v := (Value.int .i64 x2)) (Wn.no rfl) rfl (R.move f24) ?_
      refine LE.p (v := (Value.int .i64 (IntKind.i64.wrap (x2 + (1 : Int))))) (Wn.no rfl) rfl (R.add rfl rfl) ?_
      refine LE.p (v := (Value.int .i64 (IntKind.i64.wrap (x2 + (1 : Int))))) (Wn.no rfl) rfl (R.assign rfl) ?_
      refine LE.nil ?_
      obtain ⟨m9, hm10, h⟩ := h
      exact ⟨m9, hm10, _, _, h, f21, f22, rfl, rfl⟩
    · intro hb26
      replace h := M.ite_f h hb26
      refine WE.exit ?_
      refine WE.seq ?_
      refine WE.reg ?_
      refine LE.p (v := (SV.v x1)) (Wn.no rfl) rfl (R.move f23) ?_
      refine LE.p (v := (SV.v x1)) (Wn.no rfl) rfl (R.assign rfl) ?_
      refine LE.nil ?_
      refine WE.ret ?_
      exact ⟨_, (Res.tmp rfl Res.nil), _, rfl, h⟩
/-- The formula of signpost.signpostlaw8.tame. -/
def F12 (p0 : SV) (K : SV → World → Prop) (w0 : World) : Prop :=
M.loop2 (fun (J3 : SV → Int → World → Prop) (x1 : SV) (x2 : Int) (w4 : World) => 
M.ite (decide (x2 < (p0.len : Int))) (
M.drew w4 fun w15 => 
M.idx p0 x2 2 fun a16 =>
M.idx p0 x2 2 fun a20 =>
M.ld (Value.int .u32) (a16.add (x2.toNat * 2)) w15 fun t24 =>
M.ld (Value.int .i64) ((a20.add (x2.toNat * 2)).add 1) w15 fun t26 =>
Calls Try.prog 20 #[(Value.int .u32 t24), (Value.int .i64 t26)] w15 (R20 fun r28 r29 w30 =>
M.new (.cells #[(Value.int .u32 r28), (Value.int .i64 r29)] 24) w30 fun b33 w31 =>
M.app Try.prog 27 27 27 x1 (SV.v (SV.mk (some b33) 1 1)) w31 fun s34 w35 =>
J3 s34 (IntKind.i64.wrap (x2 + (1 : Int))) w35)) (
K x1 w4)) SV.nil (0 : Int) w0
theorem F12_ok {w0 : World} {p0 : SV} {K : SV → World → Prop} (h : F12 p0 K w0) : Calls Try.prog 12 #[(SV.v p0)] w0 (R12 K) := by
  refine calls_of_WE (args := [(SV.v p0)]) (rs := [.tmp 2]) Try.func12 rfl (N := 26) rfl rfl rfl rfl ?_
  refine WE.seq ?_
  refine WE.reg ?_
  refine LE.p (v := (SV.v SV.nil)) (Wn.no rfl) rfl (R.assign rfl) ?_
  refine LE.nil ?_
  refine WE.seq ?_
  refine WE.reg ?_
  refine LE.p (v := (SV.v SV.nil)) (Wn.no rfl) rfl (R.assign rfl) ?_
  refine LE.nil ?_
  refine WE.seq ?_
  refine WE.seq ?_
  refine WE.reg ?_
  refine LE.p (v := (Value.int .i64 (0 : Int))) (Wn.no rfl) rfl (R.assign rfl) ?_
  refine LE.nil ?_
  refine WE.block ?_
  obtain ⟨I7, ⟨n6, h⟩, hr8⟩ := h
  refine WE.loop (fun n e w => ∃ (x1 : SV) (x2 : Int), I7 n x1 x2 w ∧ e 0 = (SV.v p0) ∧ e 3 = (SV.v x1) ∧ e 4 = (Value.int .i64 x2)) n6 ⟨_, _, h, rfl, rfl, rfl⟩ ?_
  clear h
  rintro n6 e5 w4 ⟨x1, x2, h, f11, f12, f13⟩
  replace h := hr8 n6 x1 x2 w4 h
  refine WE.seq ?_
  refine WE.seq ?_
  refine WE.reg ?_
  refine LE.p (v := (Value.int .i64 x2)) (Wn.no rfl) rfl (R.move f13) ?_
  refine LE.p (v := (SV.v p0)) (Wn.no rfl) rfl (R.move f11) ?_
  refine LE.p (v := (Value.int .i64 (p0.len : Int))) (Wn.no rfl) rfl (R.len sl27 rfl) ?_
  refine LE.p (v := (Value.bool (decide (x2 < (p0.len : Int))))) (Wn.no rfl) rfl (R.lss rfl rfl) ?_
  refine LE.nil ?_
  refine WE.condT rfl (b := (decide (x2 < (p0.len : Int)))) rfl ?_ ?_
  · intro hb14
    replace h := M.ite_t h hb14
    refine WE.skip ?_
    refine WE.seq ?_
    refine WE.block ?_
    refine WE.draw mix ?_
    obtain ⟨w15, hww15, h⟩ := M.drew_use h
    rw [← hww15]
    clear hww15
    refine DE.t 0 (v := (SV.v x1)) rfl (by kernel_rfl) (Wn.no rfl) rfl (R.move f12) ?_
    refine DE.t 1 (v := (SV.v p0)) rfl (by kernel_rfl) (Wn.no rfl) rfl (R.move f11) ?_
    refine DE.t 2 (v := (Value.int .i64 x2)) rfl (by kernel_rfl) (Wn.no rfl) rfl (R.move f13) ?_
    obtain ⟨a16, h17, h18, h19, h⟩ := h
    refine DE.t 3 (v := (Value.pointer (some (a16.add (x2.toNat * 2))))) rfl (by kernel_rfl) (Wn.no rfl) rfl (R.idx (s := p0) sl27 rfl rfl h17 h18 h19) ?_
    refine DE.t 4 (v := (Value.pointer (some (a16.add (x2.toNat * 2))))) rfl (by kernel_rfl) (Wn.no rfl) rfl (R.fld (off := 0) fa24_0 rfl) ?_
    refine DE.t 6 (v := (SV.v p0)) rfl (by kernel_rfl) (Wn.no rfl) rfl (R.move f11) ?_
    refine DE.t 7 (v := (Value.int .i64 x2)) rfl (by kernel_rfl) (Wn.no rfl) rfl (R.move f13) ?_
    obtain ⟨a20, h21, h22, h23, h⟩ := h
    refine DE.t 8 (v := (Value.pointer (some (a20.add (x2.toNat * 2))))) rfl (by kernel_rfl) (Wn.no rfl) rfl (R.idx (s := p0) sl27 rfl rfl h21 h22 h23) ?_
    refine DE.t 9 (v := (Value.pointer (some ((a20.add (x2.toNat * 2)).add 1)))) rfl (by kernel_rfl) (Wn.no rfl) rfl (R.fld (off := 1) fa24_1 rfl) ?_
    obtain ⟨t24, h25, h⟩ := h
    refine DE.hold 5 (fun w => w.cell? (a16.add (x2.toNat * 2)) = some (Value.int .u32 t24)) (v := (Value.int .u32 t24)) rfl (by kernel_rfl) (Wn.no rfl) rfl h25 (fun w hs => R.ld sc22 rfl hs) ?_
    obtain ⟨t26, h27, h⟩ := h
    refine DE.main 10 (by kernel_rfl) ?_
    refine One.r 10 (v := (Value.int .i64 t26)) rfl (Wn.no rfl) rfl (R.ld sc3 rfl h27) (.inl rfl) ?_
    refine DE.main 11 (by kernel_rfl) ?_
    refine One.c 11 rfl (Wn.no rfl) rfl (R.call bd20 (Ls.cons rfl (Ls.cons rfl Ls.nil)) rfl) (Calls.mono h ?_)
    rintro _ w30 ⟨r28, r29, rfl, h⟩
    refine ⟨_, rfl, ⟨aftT (by kernel_rfl), trivial⟩, ?_⟩
    obtain ⟨b33, hpb33, w31, hww31, h⟩ := M.new_use h
    refine DE.main 12 (by kernel_rfl) ?_
    refine One.r 12 (v := (SV.v (SV.mk (some b33) 1 1))) rfl (Wn.no rfl) rfl (R.bsl (by exact (Ls.cons (R.Pr rfl) Ls.nil)) (fun w => bs27_1 r28 r29 w) hpb33 hww31) (.inr ⟨aftT (by kernel_rfl), trivial⟩) ?_
    obtain ⟨s34, w35, h36, h⟩ := h
    refine DE.main 13 (by kernel_rfl) ?_
    refine One.r 13 (v := (SV.v s34)) rfl (Wn.no rfl) rfl (R.app (s := x1) (r := s34) rfl rfl h36) (.inr ⟨aftT (by kernel_rfl), trivial⟩) ?_
    refine DE.t 14 (v := (SV.v s34)) rfl (by kernel_rfl) (Wn.no rfl) rfl (R.assign rfl) ?_
    refine DE.done (by kernel_rfl) ?_
    refine WE.reg ?_
    refine LE.p (v := (Value.int .i64 x2)) (Wn.no rfl) rfl (R.move f13) ?_
    refine LE.p (v := (Value.int .i64 (IntKind.i64.wrap (x2 + (1 : Int))))) (Wn.no rfl) rfl (R.add rfl rfl) ?_
    refine LE.p (v := (Value.int .i64 (IntKind.i64.wrap (x2 + (1 : Int))))) (Wn.no rfl) rfl (R.assign rfl) ?_
    refine LE.nil ?_
    obtain ⟨m9, hm10, h⟩ := h
    exact ⟨m9, hm10, _, _, h, f11, rfl, rfl⟩
  · intro hb14
    replace h := M.ite_f h hb14
    refine WE.exit ?_
    refine WE.seq ?_
    refine WE.reg ?_
    refine LE.p (v := (SV.v x1)) (Wn.no rfl) rfl (R.move f12) ?_
    refine LE.p (v := (SV.v x1)) (Wn.no rfl) rfl (R.assign rfl) ?_
    refine LE.nil ?_
    refine WE.ret ?_
    exact ⟨_, (Res.tmp rfl Res.nil), _, rfl, h⟩
/-- The formula of signpost.signpostref8.Encode. -/
def F13 (p0 : SV) (K : SV → Bool → World → Prop) (w0 : World) : Prop :=
M.loop2 (fun (J3 : SV → Int → World → Prop) (x1 : SV) (x2 : Int) (w4 : World) => 
M.ite (decide (x2 < (p0.len : Int))) (
M.idx p0 x2 2 fun a15 =>
M.ld (Value.int .u32) (a15.add (x2.toNat * 2)) w4 fun t19 =>
M.ld (Value.int .i64) ((a15.add (x2.toNat * 2)).add 1) w4 fun t21 =>
Calls Try.prog 24 #[(Value.agg #[(Value.int .u32 t19), (Value.int .i64 t21)])] w4 (R24 fun r23 w24 =>
M.ite (!r23) (
K SV.nil false w24) (
M.drew w24 fun w26 => 
M.idx p0 x2 2 fun a27 =>
M.idx p0 x2 2 fun a31 =>
M.idx p0 x2 2 fun a35 =>
M.ld (Value.int .i64) ((a27.add (x2.toNat * 2)).add 1) w26 fun t39 =>
M.ld (Value.int .u32) (a31.add (x2.toNat * 2)) w26 fun t41 =>
M.ld (Value.int .u32) (a35.add (x2.toNat * 2)) w26 fun t43 =>
M.ld (Value.int .i64) ((a35.add (x2.toNat * 2)).add 1) w26 fun t45 =>
M.new (.cells #[(Value.int .u8 (IntKind.u8.wrap t39))] 5) w26 fun b49 w47 =>
M.keep (w47.cell? (a35.add (x2.toNat * 2)) = some (Value.int .u32 t43)) <|
M.keep (w47.cell? ((a35.add (x2.toNat * 2)).add 1) = some (Value.int .i64 t45)) <|
M.keep (w47.cell? (a31.add (x2.toNat * 2)) = some (Value.int .u32 t41)) <|
M.app Try.prog 28 28 28 x1 (SV.v (SV.mk (some b49) 1 1)) w47 fun s53 w54 =>
M.keep (w54.cell? (a35.add (x2.toNat * 2)) = some (Value.int .u32 t43)) <|
M.keep (w54.cell? ((a35.add (x2.toNat * 2)).add 1) = some (Value.int .i64 t45)) <|
M.keep (w54.cell? (a31.add (x2.toNat * 2)) = some (Value.int .u32 t41)) <|
Calls Try.prog 25 #[(SV.v SV.nil), (Value.int .u32 t41)] w54 (R25 fun r59 w60 =>
M.keep (w60.cell? (a35.add (x2.toNat * 2)) = some (Value.int .u32 t43)) <|
M.keep (w60.cell? ((a35.add (x2.toNat * 2)).add 1) = some (Value.int .i64 t45)) <|
Calls Try.prog 22 #[(Value.agg #[(Value.int .u32 t43), (Value.int .i64 t45)])] w60 (R22 fun r63 w64 =>
M.bnd (0 : Int) (IntKind.i64.wrap (r63 - (1 : Int))) r59 <|
M.app Try.prog 28 28 28 s53 (SV.v (SV.sub r59 (Int.toNat (0 : Int)) (Int.toNat (IntKind.i64.wrap (r63 - (1 : Int)))) 1)) w64 fun s69 w70 =>
J3 s69 (IntKind.i64.wrap (x2 + (1 : Int))) w70))))) (
K x1 true w4)) SV.nil (0 : Int) w0
theorem F13_ok {w0 : World} {p0 : SV} {K : SV → Bool → World → Prop} (h : F13 p0 K w0) : Calls Try.prog 13 #[(SV.v p0)] w0 (R13 K) := by
  refine calls_of_WE (args := [(SV.v p0)]) (rs := [.tmp 2, .tmp 3]) Try.func13 rfl (N := 42) rfl rfl rfl rfl ?_
  refine WE.seq ?_
  refine WE.reg ?_
  refine LE.p (v := (SV.v SV.nil)) (Wn.no rfl) rfl (R.assign rfl) ?_
  refine LE.p (v := (Value.bool false)) (Wn.no rfl) rfl (R.assign rfl) ?_
  refine LE.nil ?_
  refine WE.seq ?_
  refine WE.reg ?_
  refine LE.p (v := (SV.v SV.nil)) (Wn.no rfl) rfl (R.assign rfl) ?_
  refine LE.nil ?_
  refine WE.seq ?_
  refine WE.seq ?_
  refine WE.reg ?_
  refine LE.p (v := (Value.int .i64 (0 : Int))) (Wn.no rfl) rfl (R.assign rfl) ?_
  refine LE.nil ?_
  refine WE.block ?_
  obtain ⟨I7, ⟨n6, h⟩, hr8⟩ := h
  refine WE.loop (fun n e w => ∃ (x1 : SV) (x2 : Int), I7 n x1 x2 w ∧ e 0 = (SV.v p0) ∧ e 4 = (SV.v x1) ∧ e 5 = (Value.int .i64 x2)) n6 ⟨_, _, h, rfl, rfl, rfl⟩ ?_
  clear h
  rintro n6 e5 w4 ⟨x1, x2, h, f11, f12, f13⟩
  replace h := hr8 n6 x1 x2 w4 h
  refine WE.seq ?_
  refine WE.seq ?_
  refine WE.reg ?_
  refine LE.p (v := (Value.int .i64 x2)) (Wn.no rfl) rfl (R.move f13) ?_
  refine LE.p (v := (SV.v p0)) (Wn.no rfl) rfl (R.move f11) ?_
  refine LE.p (v := (Value.int .i64 (p0.len : Int))) (Wn.no rfl) rfl (R.len sl27 rfl) ?_
  refine LE.p (v := (Value.bool (decide (x2 < (p0.len : Int))))) (Wn.no rfl) rfl (R.lss rfl rfl) ?_
  refine LE.nil ?_
  refine WE.condT rfl (b := (decide (x2 < (p0.len : Int)))) rfl ?_ ?_
  · intro hb14
    replace h := M.ite_t h hb14
    refine WE.skip ?_
    refine WE.seq ?_
    refine WE.block ?_
    refine WE.seq ?_
    refine WE.seq ?_
    refine WE.reg ?_
    refine LE.p (v := (SV.v p0)) (Wn.no rfl) rfl (R.move f11) ?_
    refine LE.p (v := (Value.int .i64 x2)) (Wn.no rfl) rfl (R.move f13) ?_
    obtain ⟨a15, h16, h17, h18, h⟩ := h
    refine LE.p (v := (Value.pointer (some (a15.add (x2.toNat * 2))))) (Wn.no rfl) rfl (R.idx (s := p0) sl27 rfl rfl h16 h17 h18) ?_
    obtain ⟨t19, h20, h⟩ := h
    obtain ⟨t21, h22, h⟩ := h
    refine LE.r (v := (Value.agg #[(Value.int .u32 t19), (Value.int .i64 t21)])) (Wn.no rfl) rfl (R.ldA ag24 sz24 rfl rfl (Cs.cons h20 (Cs.cons h22 Cs.nil))) ?_
    refine LE.c (Wn.no rfl) rfl (R.call bd24 (Ls.cons rfl Ls.nil) rfl) (Calls.mono h ?_)
    rintro _ w24 ⟨r23, rfl, h⟩
    refine ⟨_, rfl, ?_⟩
    refine LE.p (v := (Value.bool (!r23))) (Wn.no rfl) rfl (R.not rfl) ?_
    refine LE.nil ?_
    refine WE.condT rfl (b := (!r23)) rfl ?_ ?_
    · intro hb25
      replace h := M.ite_t h hb25
      refine WE.seq ?_
      refine WE.reg ?_
      refine LE.p (v := (SV.v SV.nil)) (Wn.no rfl) rfl (R.assign rfl) ?_
      refine LE.p (v := (Value.bool false)) (Wn.no rfl) rfl (R.assign rfl) ?_
      refine LE.nil ?_
      refine WE.ret ?_
      exact ⟨_, (Res.tmp rfl (Res.tmp rfl Res.nil)), _, _, rfl, h⟩
    · intro hb25
      replace h := M.ite_f h hb25
      refine WE.skip ?_
      refine WE.draw mix ?_
      obtain ⟨w26, hww26, h⟩ := M.drew_use h
      rw [← hww26]
      clear hww26
      refine DE.t 0 (v := (SV.v x1)) rfl (by kernel_rfl) (Wn.no rfl) rfl (R.move f12) ?_
      refine DE.t 1 (v := (SV.v p0)) rfl (by kernel_rfl) (Wn.no rfl) rfl (R.move f11) ?_
      refine DE.t 2 (v := (Value.int .i64 x2)) rfl (by kernel_rfl) (Wn.no rfl) rfl (R.move f13) ?_
      obtain ⟨a27, h28, h29, h30, h⟩ := h
      refine DE.t 3 (v := (Value.pointer (some (a27.add (x2.toNat * 2))))) rfl (by kernel_rfl) (Wn.no rfl) rfl (R.idx (s := p0) sl27 rfl rfl h28 h29 h30) ?_
      refine DE.t 4 (v := (Value.pointer (some ((a27.add (x2.toNat * 2)).add 1)))) rfl (by kernel_rfl) (Wn.no rfl) rfl (R.fld (off := 1) fa24_1 rfl) ?_
      refine DE.t 9 (v := (SV.v p0)) rfl (by kernel_rfl) (Wn.no rfl) rfl (R.move f11) ?_
      refine DE.t 10 (v := (Value.int .i64 x2)) rfl (by kernel_rfl) (Wn.no rfl) rfl (R.move f13) ?_
      obtain ⟨a31, h32, h33, h34, h⟩ := h
      refine DE.t 11 (v := (Value.pointer (some (a31.add (x2.toNat * 2))))) rfl (by kernel_rfl) (Wn.no rfl) rfl (R.idx (s := p0) sl27 rfl rfl h32 h33 h34) ?_
      refine DE.t 12 (v := (Value.pointer (some (a31.add (x2.toNat * 2))))) rfl (by kernel_rfl) (Wn.no rfl) rfl (R.fld (off := 0) fa24_0 rfl) ?_
      refine DE.t 15 (v := (SV.v p0)) rfl (by kernel_rfl) (Wn.no rfl) rfl (R.move f11) ?_
      refine DE.t 16 (v := (Value.int .i64 x2)) rfl (by kernel_rfl) (Wn.no rfl) rfl (R.move f13) ?_
      obtain ⟨a35, h36, h37, h38, h⟩ := h
      refine DE.t 17 (v := (Value.pointer (some (a35.add (x2.toNat * 2))))) rfl (by kernel_rfl) (Wn.no rfl) rfl (R.idx (s := p0) sl27 rfl rfl h36 h37 h38) ?_
      obtain ⟨t39, h40, h⟩ := h
      refine DE.hold 5 (fun w => w.cell? ((a27.add (x2.toNat * 2)).add 1) = some (Value.int .i64 t39)) (v := (Value.int .i64 t39)) rfl (by kernel_rfl) (Wn.no rfl) rfl h40 (fun w hs => R.ld sc3 rfl hs) ?_
      refine DE.t 6 (v := (Value.int .u8 (IntKind.u8.wrap t39))) rfl (by kernel_rfl) (Wn.no rfl) rfl (R.conv in5 in3 rfl) ?_
      obtain ⟨t41, h42, h⟩ := h
      refine DE.hold 13 (fun w => w.cell? (a31.add (x2.toNat * 2)) = some (Value.int .u32 t41)) (v := (Value.int .u32 t41)) rfl (by kernel_rfl) (Wn.no rfl) rfl h42 (fun w hs => R.ld sc22 rfl hs) ?_
      obtain ⟨t43, h44, h⟩ := h
      obtain ⟨t45, h46, h⟩ := h
      refine DE.hold 18 (fun w => w.cell? (a35.add (x2.toNat * 2)) = some (Value.int .u32 t43) ∧ w.cell? ((a35.add (x2.toNat * 2)).add 1) = some (Value.int .i64 t45)) (v := (Value.agg #[(Value.int .u32 t43), (Value.int .i64 t45)])) rfl (by kernel_rfl) (Wn.no rfl) rfl ⟨h44, h46⟩ (fun w hs => R.ldA ag24 sz24 rfl rfl (Cs.cons hs.1 (Cs.cons hs.2 Cs.nil))) ?_
      obtain ⟨b49, hpb49, w47, hww47, h⟩ := M.new_use h
      obtain ⟨k50, h⟩ := h
      obtain ⟨k51, h⟩ := h
      obtain ⟨k52, h⟩ := h
      refine DE.main 7 (by kernel_rfl) ?_
      refine One.r 7 (v := (SV.v (SV.mk (some b49) 1 1))) rfl (Wn.no rfl) rfl (R.bsl (by exact (Ls.cons (R.Pr rfl) Ls.nil)) (fun w => bs28_1 (IntKind.u8.wrap t39) w) hpb49 hww47) (.inr ⟨fun _ => ⟨k50, k51⟩, fun _ => k52, aftT (by kernel_rfl), trivial⟩) ?_
      obtain ⟨s53, w54, h55, h⟩ := h
      obtain ⟨k56, h⟩ := h
      obtain ⟨k57, h⟩ := h
      obtain ⟨k58, h⟩ := h
      refine DE.main 8 (by kernel_rfl) ?_
      refine One.r 8 (v := (SV.v s53)) rfl (Wn.no rfl) rfl (R.app (s := x1) (r := s53) rfl rfl h55) (.inr ⟨fun _ => ⟨k56, k57⟩, fun _ => k58, aftT (by kernel_rfl), trivial⟩) ?_
      refine DE.main 14 (by kernel_rfl) ?_
      refine One.c 14 rfl (Wn.no rfl) rfl (R.call bd25 (Ls.cons rfl (Ls.cons rfl Ls.nil)) rfl) (Calls.mono h ?_)
      rintro _ w60 ⟨r59, rfl, h⟩
      obtain ⟨k61, h⟩ := h
      obtain ⟨k62, h⟩ := h
      refine ⟨_, rfl, ⟨fun _ => ⟨k61, k62⟩, aftT (by kernel_rfl), aftT (by kernel_rfl), trivial⟩, ?_⟩
      refine DE.main 19 (by kernel_rfl) ?_
      refine One.c 19 rfl (Wn.no rfl) rfl (R.call bd22 (Ls.cons rfl Ls.nil) rfl) (Calls.mono h ?_)
      rintro _ w64 ⟨r63, rfl, h⟩
      refine ⟨_, rfl, ⟨aftT (by kernel_rfl), aftT (by kernel_rfl), aftT (by kernel_rfl), trivial⟩, ?_⟩
      refine DE.t 20 (v := (Value.int .i64 (IntKind.i64.wrap (r63 - (1 : Int))))) rfl (by kernel_rfl) (Wn.no rfl) rfl (R.sub rfl rfl) ?_
      obtain ⟨h65, h66, h67, h⟩ := h
      refine DE.t 21 (v := (SV.v (SV.sub r59 (Int.toNat (0 : Int)) (Int.toNat (IntKind.i64.wrap (r63 - (1 : Int)))) 1))) rfl (by kernel_rfl) (Wn.no rfl) rfl (R.slc (s := r59) (lo := (0 : Int)) (hi := (IntKind.i64.wrap (r63 - (1 : Int)))) _ _ sl28 rfl rfl rfl h65 h66 h67) ?_
      obtain ⟨s69, w70, h71, h⟩ := h
      refine DE.main 22 (by kernel_rfl) ?_
      refine One.r 22 (v := (SV.v s69)) rfl (Wn.no rfl) rfl (R.app (s := s53) (r := s69) rfl rfl h71) (.inr ⟨aftT (by kernel_rfl), aftT (by kernel_rfl), aftT (by kernel_rfl), trivial⟩) ?_
      refine DE.t 23 (v := (SV.v s69)) rfl (by kernel_rfl) (Wn.no rfl) rfl (R.assign rfl) ?_
      refine DE.done (by kernel_rfl) ?_
      refine WE.reg ?_
      refine LE.p (v := (Value.int .i64 x2)) (Wn.no rfl) rfl (R.move f13) ?_
      refine LE.p (v := (Value.int .i64 (IntKind.i64.wrap (x2 + (1 : Int))))) (Wn.no rfl) rfl (R.add rfl rfl) ?_
      refine LE.p (v := (Value.int .i64 (IntKind.i64.wrap (x2 + (1 : Int))))) (Wn.no rfl) rfl (R.assign rfl) ?_
      refine LE.nil ?_
      obtain ⟨m9, hm10, h⟩ := h
      exact ⟨m9, hm10, _, _, h, f11, rfl, rfl⟩
  · intro hb14
    replace h := M.ite_f h hb14
    refine WE.exit ?_
    refine WE.seq ?_
    refine WE.reg ?_
    refine LE.p (v := (SV.v x1)) (Wn.no rfl) rfl (R.move f12) ?_
    refine LE.p (v := (SV.v x1)) (Wn.no rfl) rfl (R.assign rfl) ?_
    refine LE.p (v := (Value.bool true)) (Wn.no rfl) rfl (R.assign rfl) ?_
    refine LE.nil ?_
    refine WE.ret ?_
    exact ⟨_, (Res.tmp rfl (Res.tmp rfl Res.nil)), _, _, rfl, h⟩
/-- The formula of signpost.signpostkeep.Cut. -/
def F14 (p0 : SV) (p1 : Int) (K : SV → World → Prop) (w0 : World) : Prop :=
M.ite (decide (p1 < (p0.len : Int))) (
M.bnd (0 : Int) p1 p0 <|
K (SV.sub p0 (Int.toNat (0 : Int)) (Int.toNat p1) 1) w0) (
K p0 w0)
theorem F14_ok {w0 : World} {p0 : SV} {p1 : Int} {K : SV → World → Prop} (h : F14 p0 p1 K w0) : Calls Try.prog 14 #[(SV.v p0), (Value.int .i64 p1)] w0 (R14 K) := by
  refine calls_of_WE (args := [(SV.v p0), (Value.int .i64 p1)]) (rs := [.tmp 4]) Try.func14 rfl (N := 13) rfl rfl rfl rfl ?_
  refine WE.seq ?_
  refine WE.reg ?_
  refine LE.p (v := (SV.v SV.nil)) (Wn.no rfl) rfl (R.assign rfl) ?_
  refine LE.nil ?_
  refine WE.seq ?_
  refine WE.seq ?_
  refine WE.reg ?_
  refine LE.p (v := (SV.v p0)) (Wn.no rfl) rfl (R.move rfl) ?_
  refine LE.p (v := (Value.int .i64 (p0.len : Int))) (Wn.no rfl) rfl (R.len sl28 rfl) ?_
  refine LE.p (v := (Value.int .i64 p1)) (Wn.no rfl) rfl (R.move rfl) ?_
  refine LE.p (v := (Value.bool (decide (p1 < (p0.len : Int))))) (Wn.no rfl) rfl (R.gtr rfl rfl) ?_
  refine LE.nil ?_
  refine WE.condT rfl (b := (decide (p1 < (p0.len : Int)))) rfl ?_ ?_
  · intro hb1
    replace h := M.ite_t h hb1
    refine WE.seq ?_
    refine WE.reg ?_
    refine LE.p (v := (SV.v p0)) (Wn.no rfl) rfl (R.move rfl) ?_
    refine LE.p (v := (Value.int .i64 p1)) (Wn.no rfl) rfl (R.move rfl) ?_
    obtain ⟨h2, h3, h4, h⟩ := h
    refine LE.p (v := (SV.v (SV.sub p0 (Int.toNat (0 : Int)) (Int.toNat p1) 1))) (Wn.no rfl) rfl (R.slc (s := p0) (lo := (0 : Int)) (hi := p1) _ _ sl28 rfl rfl rfl h2 h3 h4) ?_
    refine LE.p (v := (SV.v (SV.sub p0 (Int.toNat (0 : Int)) (Int.toNat p1) 1))) (Wn.no rfl) rfl (R.assign rfl) ?_
    refine LE.nil ?_
    refine WE.ret ?_
    exact ⟨_, (Res.tmp rfl Res.nil), _, rfl, h⟩
  · intro hb1
    replace h := M.ite_f h hb1
    refine WE.skip ?_
    refine WE.seq ?_
    refine WE.reg ?_
    refine LE.p (v := (SV.v p0)) (Wn.no rfl) rfl (R.move rfl) ?_
    refine LE.p (v := (SV.v p0)) (Wn.no rfl) rfl (R.assign rfl) ?_
    refine LE.nil ?_
    refine WE.ret ?_
    exact ⟨_, (Res.tmp rfl Res.nil), _, rfl, h⟩
/-- The formula of signpost.signpostbook.Within. -/
def F15 (p0 : Int) (p1 : Int) (p2 : Int) (K : Int → World → Prop) (w0 : World) : Prop :=
M.nz (IntKind.i64.wrap ((IntKind.i64.wrap (p2 - p1)) + (1 : Int))) <|
M.join (fun (x3 : Int) (w6 : World) => 
K (IntKind.i64.wrap (p1 + x3)) w6) fun J2 => 
M.ite (decide ((Int.tmod p0 (IntKind.i64.wrap ((IntKind.i64.wrap (p2 - p1)) + (1 : Int)))) < (0 : Int))) (
J2 (IntKind.i64.wrap ((IntKind.i64.wrap ((IntKind.i64.wrap ((Int.tmod p0 (IntKind.i64.wrap ((IntKind.i64.wrap (p2 - p1)) + (1 : Int)))) + p2)) - p1)) + (1 : Int))) w0) (
J2 (Int.tmod p0 (IntKind.i64.wrap ((IntKind.i64.wrap (p2 - p1)) + (1 : Int)))) w0)
theorem F15_ok {w0 : World} {p0 : Int} {p1 : Int} {p2 : Int} {K : Int → World → Prop} (h : F15 p0 p1 p2 K w0) : Calls Try.prog 15 #[(Value.int .i64 p0), (Value.int .i64 p1), (Value.int .i64 p2)] w0 (R15 K) := by
  refine calls_of_WE (args := [(Value.int .i64 p0), (Value.int .i64 p1), (Value.int .i64 p2)]) (rs := [.tmp 6]) Try.func15 rfl (N := 24) rfl rfl rfl rfl ?_
  refine WE.seq ?_
  refine WE.reg ?_
  refine LE.p (v := (Value.int .i64 (0 : Int))) (Wn.no rfl) rfl (R.assign rfl) ?_
  refine LE.nil ?_
  refine WE.seq ?_
  refine WE.reg ?_
  refine LE.p (v := (Value.int .i64 p0)) (Wn.no rfl) rfl (R.move rfl) ?_
  refine LE.p (v := (Value.int .i64 p2)) (Wn.no rfl) rfl (R.move rfl) ?_
  refine LE.p (v := (Value.int .i64 p1)) (Wn.no rfl) rfl (R.move rfl) ?_
  refine LE.p (v := (Value.int .i64 (IntKind.i64.wrap (p2 - p1)))) (Wn.no rfl) rfl (R.sub rfl rfl) ?_
  refine LE.p (v := (Value.int .i64 (IntKind.i64.wrap ((IntKind.i64.wrap (p2 - p1)) + (1 : Int))))) (Wn.no rfl) rfl (R.add rfl rfl) ?_
  obtain ⟨h1, h⟩ := h
  refine LE.p (v := (Value.int .i64 (Int.tmod p0 (IntKind.i64.wrap ((IntKind.i64.wrap (p2 - p1)) + (1 : Int)))))) (Wn.no rfl) rfl (R.rem rfl rfl h1) ?_
  refine LE.p (v := (Value.int .i64 (Int.tmod p0 (IntKind.i64.wrap ((IntKind.i64.wrap (p2 - p1)) + (1 : Int)))))) (Wn.no rfl) rfl (R.assign rfl) ?_
  refine LE.nil ?_
  obtain ⟨J2, hJ2, h⟩ := M.join_use h
  refine WE.join (fun e w => ∃ (x3 : Int), J2 x3 w ∧ e 0 = (Value.int .i64 x3) ∧ e 1 = (Value.int .i64 p1)) ?_ ?_
  · clear hJ2
    refine WE.seq ?_
    refine WE.reg ?_
    refine LE.p (v := (Value.int .i64 (Int.tmod p0 (IntKind.i64.wrap ((IntKind.i64.wrap (p2 - p1)) + (1 : Int)))))) (Wn.no rfl) rfl (R.move rfl) ?_
    refine LE.p (v := (Value.bool (decide ((Int.tmod p0 (IntKind.i64.wrap ((IntKind.i64.wrap (p2 - p1)) + (1 : Int)))) < (0 : Int))))) (Wn.no rfl) rfl (R.lss rfl rfl) ?_
    refine LE.nil ?_
    refine WE.condT rfl (b := (decide ((Int.tmod p0 (IntKind.i64.wrap ((IntKind.i64.wrap (p2 - p1)) + (1 : Int)))) < (0 : Int)))) rfl ?_ ?_
    · intro hb4
      replace h := M.ite_t h hb4
      refine WE.reg ?_
      refine LE.p (v := (Value.int .i64 (Int.tmod p0 (IntKind.i64.wrap ((IntKind.i64.wrap (p2 - p1)) + (1 : Int)))))) (Wn.no rfl) rfl (R.move rfl) ?_
      refine LE.p (v := (Value.int .i64 p2)) (Wn.no rfl) rfl (R.move rfl) ?_
      refine LE.p (v := (Value.int .i64 (IntKind.i64.wrap ((Int.tmod p0 (IntKind.i64.wrap ((IntKind.i64.wrap (p2 - p1)) + (1 : Int)))) + p2)))) (Wn.no rfl) rfl (R.add rfl rfl) ?_
      refine LE.p (v := (Value.int .i64 p1)) (Wn.no rfl) rfl (R.move rfl) ?_
      refine LE.p (v := (Value.int .i64 (IntKind.i64.wrap ((IntKind.i64.wrap ((Int.tmod p0 (IntKind.i64.wrap ((IntKind.i64.wrap (p2 - p1)) + (1 : Int)))) + p2)) - p1)))) (Wn.no rfl) rfl (R.sub rfl rfl) ?_
      refine LE.p (v := (Value.int .i64 (IntKind.i64.wrap ((IntKind.i64.wrap ((IntKind.i64.wrap ((Int.tmod p0 (IntKind.i64.wrap ((IntKind.i64.wrap (p2 - p1)) + (1 : Int)))) + p2)) - p1)) + (1 : Int))))) (Wn.no rfl) rfl (R.add rfl rfl) ?_
      refine LE.p (v := (Value.int .i64 (IntKind.i64.wrap ((IntKind.i64.wrap ((IntKind.i64.wrap ((Int.tmod p0 (IntKind.i64.wrap ((IntKind.i64.wrap (p2 - p1)) + (1 : Int)))) + p2)) - p1)) + (1 : Int))))) (Wn.no rfl) rfl (R.assign rfl) ?_
      refine LE.nil ?_
      exact ⟨_, h, rfl, rfl⟩
    · intro hb4
      replace h := M.ite_f h hb4
      refine WE.skip ?_
      exact ⟨_, h, rfl, rfl⟩
  · rintro e5 w6 ⟨x3, h, f7, f8⟩
    subst hJ2
    refine WE.seq ?_
    refine WE.reg ?_
    refine LE.p (v := (Value.int .i64 p1)) (Wn.no rfl) rfl (R.move f8) ?_
    refine LE.p (v := (Value.int .i64 x3)) (Wn.no rfl) rfl (R.move f7) ?_
    refine LE.p (v := (Value.int .i64 (IntKind.i64.wrap (p1 + x3)))) (Wn.no rfl) rfl (R.add rfl rfl) ?_
    refine LE.p (v := (Value.int .i64 (IntKind.i64.wrap (p1 + x3)))) (Wn.no rfl) rfl (R.assign rfl) ?_
    refine LE.nil ?_
    refine WE.ret ?_
    exact ⟨_, (Res.tmp rfl Res.nil), _, rfl, h⟩
/-- The formula of signpost.nlri.Encode. -/
def F16 (p0 : SV) (K : SV → Int → World → Prop) (w0 : World) : Prop :=
Calls Try.prog 26 #[] w0 (R26 fun r1 w2 =>
M.loop1 (fun (J4 : Int → World → Prop) (x3 : Int) (w5 : World) => 
M.ite (decide (x3 < (p0.len : Int))) (
M.idx p0 x3 2 fun a17 =>
M.ld (Value.int .u32) (a17.add (x3.toNat * 2)) w5 fun t21 =>
M.ld (Value.int .i64) ((a17.add (x3.toNat * 2)).add 1) w5 fun t23 =>
M.new (.cells #[(Value.int .u32 (0 : Int)), (Value.int .i64 (0 : Int))] 24) w5 fun b26 w25 =>
M.stA b26 [(Value.int .u32 t21), (Value.int .i64 t23)] w25 fun w27 =>
M.ld (Value.int .u32) b26 w27 fun t29 =>
M.ld (Value.int .i64) (b26.add 1) w27 fun t31 =>
Calls Try.prog 27 #[(Value.agg #[(Value.int .u32 t29), (Value.int .i64 t31)])] w27 (R27 fun r33 w34 =>
M.ite (!r33) (
K SV.nil (12 : Int) w34) (
M.ld (Value.int .i64) (b26.add 1) w34 fun t36 =>
Calls Try.prog 28 #[(Value.pointer r1), (Value.int .i64 t36)] w34 (R28 fun w38 =>
M.ld (Value.int .u32) b26 w38 fun t39 =>
M.ld (Value.int .i64) (b26.add 1) w38 fun t41 =>
Calls Try.prog 18 #[(Value.agg #[(Value.int .u32 t39), (Value.int .i64 t41)])] w38 (R18 fun r43 w44 =>
M.loop1 (fun (J46 : Int → World → Prop) (x45 : Int) (w47 : World) => 
M.ite (decide (x45 < (IntKind.i64.wrap (r43 - (1 : Int))))) (
M.ld (Value.int .u32) b26 w47 fun t62 =>
M.sh (IntKind.i64.wrap ((32 : Int) - (IntKind.i64.wrap ((8 : Int) * (IntKind.i64.wrap (x45 + (1 : Int))))))) <|
Calls Try.prog 28 #[(Value.pointer r1), (Value.int .i64 (IntKind.i64.wrap (bShr .u32 t62 (IntKind.i64.wrap ((32 : Int) - (IntKind.i64.wrap ((8 : Int) * (IntKind.i64.wrap (x45 + (1 : Int))))))))))] w47 (R28 fun w65 =>
J46 (IntKind.i64.wrap (x45 + (1 : Int))) w65)) (
J4 (IntKind.i64.wrap (x3 + (1 : Int))) w47)) (0 : Int) w44))))) (
Calls Try.prog 29 #[(Value.pointer r1)] w5 (R29 fun r66 w67 =>
K r66 (0 : Int) w67))) (0 : Int) w2)
theorem F16_ok {w0 : World} {p0 : SV} {K : SV → Int → World → Prop} (h : F16 p0 K w0) : Calls Try.prog 16 #[(SV.v p0)] w0 (R16 K) := by
  refine calls_of_WE (args := [(SV.v p0)]) (rs := [.tmp 2, .tmp 3]) Try.func16 rfl (N := 42) rfl rfl rfl rfl ?_
  refine WE.seq ?_
  refine WE.reg ?_
  refine LE.p (v := (SV.v SV.nil)) (Wn.no rfl) rfl (R.assign rfl) ?_
  refine LE.p (v := (Value.int .i64 (0 : Int))) (Wn.no rfl) rfl (R.assign rfl) ?_
  refine LE.nil ?_
  refine WE.seq ?_
  refine WE.reg ?_
  refine LE.c (Wn.no rfl) rfl (R.call bd26 Ls.nil rfl) (Calls.mono h ?_)
  rintro _ w2 ⟨r1, rfl, h⟩
  refine ⟨_, rfl, ?_⟩
  refine LE.p (v := (Value.pointer r1)) (Wn.no rfl) rfl (R.assign rfl) ?_
  refine LE.nil ?_
  refine WE.seq ?_
  refine WE.seq ?_
  refine WE.reg ?_
  refine LE.p (v := (SV.v p0)) (Wn.no rfl) rfl (R.move rfl) ?_
  refine LE.p (v := (Value.int .i64 (p0.len : Int))) (Wn.no rfl) rfl (R.len sl27 rfl) ?_
  refine LE.p (v := (Value.int .i64 (0 : Int))) (Wn.no rfl) rfl (R.move rfl) ?_
  refine LE.nil ?_
  refine WE.block ?_
  obtain ⟨I8, ⟨n7, h⟩, hr9⟩ := h
  refine WE.loop (fun n e w => ∃ (x3 : Int), I8 n x3 w ∧ e 4 = (Value.pointer r1) ∧ e 9 = (SV.v p0) ∧ e 10 = (Value.int .i64 (p0.len : Int)) ∧ e 11 = (Value.int .i64 x3)) n7 ⟨_, h, rfl, rfl, rfl, rfl⟩ ?_
  clear h
  rintro n7 e6 w5 ⟨x3, h, f12, f13, f14, f15⟩
  replace h := hr9 n7 x3 w5 h
  refine WE.seq ?_
  refine WE.reg ?_
  refine LE.p (v := (Value.bool (decide (x3 < (p0.len : Int))))) (Wn.no rfl) rfl (R.lss f15 f14) ?_
  refine LE.nil ?_
  refine WE.seq ?_
  refine WE.condT rfl (b := (decide (x3 < (p0.len : Int)))) rfl ?_ ?_
  · intro hb16
    replace h := M.ite_t h hb16
    refine WE.skip ?_
    refine WE.seq ?_
    refine WE.block ?_
    refine WE.seq ?_
    refine WE.reg ?_
    obtain ⟨a17, h18, h19, h20, h⟩ := h
    refine LE.p (v := (Value.pointer (some (a17.add (x3.toNat * 2))))) (Wn.no rfl) rfl (R.idx (s := p0) sl27 f13 f15 h18 h19 h20) ?_
    obtain ⟨t21, h22, h⟩ := h
    obtain ⟨t23, h24, h⟩ := h
    refine LE.r (v := (Value.agg #[(Value.int .u32 t21), (Value.int .i64 t23)])) (Wn.no rfl) rfl (R.ldA ag24 sz24 rfl rfl (Cs.cons h22 (Cs.cons h24 Cs.nil))) ?_
    obtain ⟨b26, hpb26, w25, hww25, h⟩ := M.new_use h
    refine LE.r (v := (Value.pointer (some b26))) (Wn.no rfl) rfl (R.alloc (cs := #[(Value.int .u32 (0 : Int)), (Value.int .i64 (0 : Int))]) ze24 rfl hpb26 hww25) ?_
    obtain ⟨w27, hww27, h28, h⟩ := M.stA_use h
    refine LE.s (Wn.no rfl) rfl (R.stA (a := b26) [(Value.int .u32 t21), (Value.int .i64 t23)] sz24 rfl rfl rfl (by simp [Value.oneCell']) h28 hww27) ?_
    refine LE.nil ?_
    refine WE.seq ?_
    refine WE.seq ?_
    refine WE.reg ?_
    obtain ⟨t29, h30, h⟩ := h
    obtain ⟨t31, h32, h⟩ := h
    refine LE.r (v := (Value.agg #[(Value.int .u32 t29), (Value.int .i64 t31)])) (Wn.no rfl) rfl (R.ldA ag24 sz24 rfl rfl (Cs.cons h30 (Cs.cons h32 Cs.nil))) ?_
    refine LE.c (Wn.no rfl) rfl (R.call bd27 (Ls.cons rfl Ls.nil) rfl) (Calls.mono h ?_)
    rintro _ w34 ⟨r33, rfl, h⟩
    refine ⟨_, rfl, ?_⟩
    refine LE.p (v := (Value.bool (!r33))) (Wn.no rfl) rfl (R.not rfl) ?_
    refine LE.nil ?_
    refine WE.condT rfl (b := (!r33)) rfl ?_ ?_
    · intro hb35
      replace h := M.ite_t h hb35
      refine WE.seq ?_
      refine WE.reg ?_
      refine LE.p (v := (SV.v SV.nil)) (Wn.no rfl) rfl (R.assign rfl) ?_
      refine LE.p (v := (Value.int .i64 (12 : Int))) (Wn.no rfl) rfl (R.assign rfl) ?_
      refine LE.nil ?_
      refine WE.ret ?_
      exact ⟨_, (Res.tmp rfl (Res.tmp rfl Res.nil)), _, _, rfl, h⟩
    · intro hb35
      replace h := M.ite_f h hb35
      refine WE.skip ?_
      refine WE.seq ?_
      refine WE.reg ?_
      refine LE.p (v := (Value.pointer r1)) (Wn.no rfl) rfl (R.move f12) ?_
      refine LE.p (v := (Value.pointer (some (b26.add 1)))) (Wn.no rfl) rfl (R.fld (off := 1) fa24_1 rfl) ?_
      obtain ⟨t36, h37, h⟩ := h
      refine LE.r (v := (Value.int .i64 t36)) (Wn.no rfl) rfl (R.ld sc3 rfl h37) ?_
      refine LE.c (Wn.no rfl) rfl (R.call bd28 (Ls.cons rfl (Ls.cons rfl Ls.nil)) rfl) (Calls.mono h ?_)
      rintro _ w38 ⟨rfl, h⟩
      refine ⟨_, rfl, ?_⟩
      refine LE.nil ?_
      refine WE.seq ?_
      refine WE.reg ?_
      obtain ⟨t39, h40, h⟩ := h
      obtain ⟨t41, h42, h⟩ := h
      refine LE.r (v := (Value.agg #[(Value.int .u32 t39), (Value.int .i64 t41)])) (Wn.no rfl) rfl (R.ldA ag24 sz24 rfl rfl (Cs.cons h40 (Cs.cons h42 Cs.nil))) ?_
      refine LE.c (Wn.no rfl) rfl (R.call bd18 (Ls.cons rfl Ls.nil) rfl) (Calls.mono h ?_)
      rintro _ w44 ⟨r43, rfl, h⟩
      refine ⟨_, rfl, ?_⟩
      refine LE.p (v := (Value.int .i64 (IntKind.i64.wrap (r43 - (1 : Int))))) (Wn.no rfl) rfl (R.sub rfl rfl) ?_
      refine LE.p (v := (Value.int .i64 (0 : Int))) (Wn.no rfl) rfl (R.move rfl) ?_
      refine LE.nil ?_
      refine WE.block ?_
      obtain ⟨I50, ⟨n49, h⟩, hr51⟩ := h
      refine WE.loop (fun n e w => ∃ (x45 : Int), I50 n x45 w ∧ e 4 = (Value.pointer r1) ∧ e 6 = (Value.pointer (some b26)) ∧ e 9 = (SV.v p0) ∧ e 10 = (Value.int .i64 (p0.len : Int)) ∧ e 11 = (Value.int .i64 x3) ∧ e 24 = (Value.int .i64 (IntKind.i64.wrap (r43 - (1 : Int)))) ∧ e 25 = (Value.int .i64 x45)) n49 ⟨_, h, f12, rfl, f13, f14, f15, rfl, rfl⟩ ?_
      clear h
      rintro n49 e48 w47 ⟨x45, h, f54, f55, f56, f57, f58, f59, f60⟩
      replace h := hr51 n49 x45 w47 h
      refine WE.seq ?_
      refine WE.reg ?_
      refine LE.p (v := (Value.bool (decide (x45 < (IntKind.i64.wrap (r43 - (1 : Int))))))) (Wn.no rfl) rfl (R.lss f60 f59) ?_
      refine LE.nil ?_
      refine WE.seq ?_
      refine WE.condT rfl (b := (decide (x45 < (IntKind.i64.wrap (r43 - (1 : Int)))))) rfl ?_ ?_
      · intro hb61
        replace h := M.ite_t h hb61
        refine WE.skip ?_
        refine WE.seq ?_
        refine WE.block ?_
        refine WE.seq ?_
        refine WE.reg ?_
        refine LE.p (v := (Value.int .i64 x45)) (Wn.no rfl) rfl (R.move f60) ?_
        refine LE.p (v := (Value.int .i64 x45)) (Wn.no rfl) rfl (R.assign rfl) ?_
        refine LE.nil ?_
        refine WE.reg ?_
        refine LE.p (v := (Value.pointer r1)) (Wn.no rfl) rfl (R.move f54) ?_
        refine LE.p (v := (Value.pointer (some b26))) (Wn.no rfl) rfl (R.fld (off := 0) fa24_0 f55) ?_
        obtain ⟨t62, h63, h⟩ := h
        refine LE.r (v := (Value.int .u32 t62)) (Wn.no rfl) rfl (R.ld sc22 rfl h63) ?_
        refine LE.p (v := (Value.int .i64 x45)) (Wn.no rfl) rfl (R.move rfl) ?_
        refine LE.p (v := (Value.int .i64 (IntKind.i64.wrap (x45 + (1 : Int))))) (Wn.no rfl) rfl (R.add rfl rfl) ?_
        refine LE.p (v := (Value.int .i64 (IntKind.i64.wrap ((8 : Int) * (IntKind.i64.wrap (x45 + (1 : Int))))))) (Wn.no rfl) rfl (R.mul rfl rfl) ?_
        refine LE.p (v := (Value.int .i64 (IntKind.i64.wrap ((32 : Int) - (IntKind.i64.wrap ((8 : Int) * (IntKind.i64.wrap (x45 + (1 : Int))))))))) (Wn.no rfl) rfl (R.sub rfl rfl) ?_
        obtain ⟨h64, h⟩ := h
        refine LE.p (v := (Value.int .u32 (bShr .u32 t62 (IntKind.i64.wrap ((32 : Int) - (IntKind.i64.wrap ((8 : Int) * (IntKind.i64.wrap (x45 + (1 : Int)))))))))) (Wn.no rfl) rfl (R.shr rfl rfl h64) ?_
        refine LE.p (v := (Value.int .i64 (IntKind.i64.wrap (bShr .u32 t62 (IntKind.i64.wrap ((32 : Int) - (IntKind.i64.wrap ((8 : Int) * (IntKind.i64.wrap (x45 + (1 : Int))))))))))) (Wn.no rfl) rfl (R.conv in3 in22 rfl) ?_
        refine LE.c (Wn.no rfl) rfl (R.call bd28 (Ls.cons rfl (Ls.cons rfl Ls.nil)) rfl) (Calls.mono h ?_)
        rintro _ w65 ⟨rfl, h⟩
        refine ⟨_, rfl, ?_⟩
        refine LE.nil ?_
        refine WE.reg ?_
        refine LE.p (v := (Value.int .i64 (IntKind.i64.wrap (x45 + (1 : Int))))) (Wn.no rfl) rfl (R.add f60 rfl) ?_
        refine LE.p (v := (Value.int .i64 (IntKind.i64.wrap (x45 + (1 : Int))))) (Wn.no rfl) rfl (R.move rfl) ?_
        refine LE.nil ?_
        obtain ⟨m52, hm53, h⟩ := h
        exact ⟨m52, hm53, _, h, f54, f55, f56, f57, f58, f59, rfl⟩
      · intro hb61
        replace h := M.ite_f h hb61
        refine WE.exit ?_
        refine WE.reg ?_
        refine LE.p (v := (Value.int .i64 (IntKind.i64.wrap (x3 + (1 : Int))))) (Wn.no rfl) rfl (R.add f58 rfl) ?_
        refine LE.p (v := (Value.int .i64 (IntKind.i64.wrap (x3 + (1 : Int))))) (Wn.no rfl) rfl (R.move rfl) ?_
        refine LE.nil ?_
        obtain ⟨m10, hm11, h⟩ := h
        exact ⟨m10, hm11, _, h, f54, f56, f57, rfl⟩
  · intro hb16
    replace h := M.ite_f h hb16
    refine WE.exit ?_
    refine WE.seq ?_
    refine WE.reg ?_
    refine LE.p (v := (Value.pointer r1)) (Wn.no rfl) rfl (R.move f12) ?_
    refine LE.c (Wn.no rfl) rfl (R.call bd29 (Ls.cons rfl Ls.nil) rfl) (Calls.mono h ?_)
    rintro _ w67 ⟨r66, rfl, h⟩
    refine ⟨_, rfl, ?_⟩
    refine LE.p (v := (SV.v r66)) (Wn.no rfl) rfl (R.assign rfl) ?_
    refine LE.p (v := (Value.int .i64 (0 : Int))) (Wn.no rfl) rfl (R.assign rfl) ?_
    refine LE.nil ?_
    refine WE.ret ?_
    exact ⟨_, (Res.tmp rfl (Res.tmp rfl Res.nil)), _, _, rfl, h⟩
/-- The formula of signpost.nlri.Decode. -/
def F17 (p0 : SV) (K : SV → Bool → World → Prop) (w0 : World) : Prop :=
Calls Try.prog 30 #[(SV.v p0)] w0 (R30 fun r1 w2 =>
M.loop1 (fun (J4 : SV → World → Prop) (x3 : SV) (w5 : World) => 
Calls Try.prog 31 #[(Value.pointer r1)] w5 (R31 fun r14 w15 =>
M.ite (decide ((0 : Int) < r14)) (
Calls Try.prog 32 #[(Value.pointer r1)] w15 (R32 fun r17 w18 =>
M.ite (decide ((32 : Int) < r17)) (
K SV.nil false w18) (
Calls Try.prog 33 #[(Value.pointer r1), (Value.int .i64 (IntKind.i64.wrap (Int.tdiv (IntKind.i64.wrap ((IntKind.i64.wrap (r17 + (8 : Int))) - (1 : Int))) (8 : Int))))] w18 (R33 fun r20 w21 =>
M.loop2 (fun (J24 : Int → Int → World → Prop) (x22 : Int) (x23 : Int) (w25 : World) => 
M.ite (decide (x23 < (r20.len : Int))) (
M.idx r20 x23 1 fun a40 =>
M.ld (Value.int .u8) (a40.add (x23.toNat * 1)) w25 fun t44 =>
M.sh (IntKind.i64.wrap ((32 : Int) - (IntKind.i64.wrap ((8 : Int) * (IntKind.i64.wrap (x23 + (1 : Int))))))) <|
J24 (bOr .u32 x22 (bShl .u32 (IntKind.u32.wrap t44) (IntKind.i64.wrap ((32 : Int) - (IntKind.i64.wrap ((8 : Int) * (IntKind.i64.wrap (x23 + (1 : Int))))))))) (IntKind.i64.wrap (x23 + (1 : Int))) w25) (
Calls Try.prog 34 #[(Value.int .u32 x22), (Value.int .i64 r17)] w25 (R34 fun r47 r48 w49 =>
M.new (.cells #[(Value.int .u32 r47), (Value.int .i64 r48)] 24) w49 fun b52 w50 =>
M.app Try.prog 27 27 27 x3 (SV.v (SV.mk (some b52) 1 1)) w50 fun s53 w54 =>
J4 s53 w54))) (0 : Int) (0 : Int) w21)))) (
Calls Try.prog 35 #[(Value.pointer r1)] w15 (R35 fun r56 w57 =>
M.ite (!r56) (
K SV.nil false w57) (
K x3 true w57))))) SV.nil w2)
theorem F17_ok {w0 : World} {p0 : SV} {K : SV → Bool → World → Prop} (h : F17 p0 K w0) : Calls Try.prog 17 #[(SV.v p0)] w0 (R17 K) := by
  refine calls_of_WE (args := [(SV.v p0)]) (rs := [.tmp 2, .tmp 3]) Try.func17 rfl (N := 51) rfl rfl rfl rfl ?_
  refine WE.seq ?_
  refine WE.reg ?_
  refine LE.p (v := (SV.v SV.nil)) (Wn.no rfl) rfl (R.assign rfl) ?_
  refine LE.p (v := (Value.bool false)) (Wn.no rfl) rfl (R.assign rfl) ?_
  refine LE.nil ?_
  refine WE.seq ?_
  refine WE.reg ?_
  refine LE.p (v := (SV.v p0)) (Wn.no rfl) rfl (R.move rfl) ?_
  refine LE.c (Wn.no rfl) rfl (R.call bd30 (Ls.cons rfl Ls.nil) rfl) (Calls.mono h ?_)
  rintro _ w2 ⟨r1, rfl, h⟩
  refine ⟨_, rfl, ?_⟩
  refine LE.p (v := (Value.pointer r1)) (Wn.no rfl) rfl (R.assign rfl) ?_
  refine LE.nil ?_
  refine WE.seq ?_
  refine WE.reg ?_
  refine LE.p (v := (SV.v SV.nil)) (Wn.no rfl) rfl (R.assign rfl) ?_
  refine LE.nil ?_
  refine WE.seq ?_
  refine WE.block ?_
  obtain ⟨I8, ⟨n7, h⟩, hr9⟩ := h
  refine WE.loop (fun n e w => ∃ (x3 : SV), I8 n x3 w ∧ e 4 = (Value.pointer r1) ∧ e 5 = (SV.v x3)) n7 ⟨_, h, rfl, rfl⟩ ?_
  clear h
  rintro n7 e6 w5 ⟨x3, h, f12, f13⟩
  replace h := hr9 n7 x3 w5 h
  refine WE.seq ?_
  refine WE.seq ?_
  refine WE.reg ?_
  refine LE.p (v := (Value.pointer r1)) (Wn.no rfl) rfl (R.move f12) ?_
  refine LE.c (Wn.no rfl) rfl (R.call bd31 (Ls.cons rfl Ls.nil) rfl) (Calls.mono h ?_)
  rintro _ w15 ⟨r14, rfl, h⟩
  refine ⟨_, rfl, ?_⟩
  refine LE.p (v := (Value.bool (decide ((0 : Int) < r14)))) (Wn.no rfl) rfl (R.gtr rfl rfl) ?_
  refine LE.nil ?_
  refine WE.condT rfl (b := (decide ((0 : Int) < r14))) rfl ?_ ?_
  · intro hb16
    replace h := M.ite_t h hb16
    refine WE.skip ?_
    refine WE.block ?_
    refine WE.seq ?_
    refine WE.reg ?_
    refine LE.p (v := (Value.pointer r1)) (Wn.no rfl) rfl (R.move f12) ?_
    refine LE.c (Wn.no rfl) rfl (R.call bd32 (Ls.cons rfl Ls.nil) rfl) (Calls.mono h ?_)
    rintro _ w18 ⟨r17, rfl, h⟩
    refine ⟨_, rfl, ?_⟩
    refine LE.p (v := (Value.int .i64 r17)) (Wn.no rfl) rfl (R.assign rfl) ?_
    refine LE.nil ?_
    refine WE.seq ?_
    refine WE.reg ?_
    refine LE.p (v := (Value.int .u32 (0 : Int))) (Wn.no rfl) rfl (R.assign rfl) ?_
    refine LE.nil ?_
    refine WE.seq ?_
    refine WE.seq ?_
    refine WE.reg ?_
    refine LE.p (v := (Value.int .i64 r17)) (Wn.no rfl) rfl (R.move rfl) ?_
    refine LE.p (v := (Value.bool (decide ((32 : Int) < r17)))) (Wn.no rfl) rfl (R.gtr rfl rfl) ?_
    refine LE.nil ?_
    refine WE.condT rfl (b := (decide ((32 : Int) < r17))) rfl ?_ ?_
    · intro hb19
      replace h := M.ite_t h hb19
      refine WE.seq ?_
      refine WE.reg ?_
      refine LE.p (v := (SV.v SV.nil)) (Wn.no rfl) rfl (R.assign rfl) ?_
      refine LE.p (v := (Value.bool false)) (Wn.no rfl) rfl (R.assign rfl) ?_
      refine LE.nil ?_
      refine WE.ret ?_
      exact ⟨_, (Res.tmp rfl (Res.tmp rfl Res.nil)), _, _, rfl, h⟩
    · intro hb19
      replace h := M.ite_f h hb19
      refine WE.skip ?_
      refine WE.seq ?_
      refine WE.seq ?_
      refine WE.reg ?_
      refine LE.p (v := (Value.pointer r1)) (Wn.no rfl) rfl (R.move f12) ?_
      refine LE.p (v := (Value.int .i64 r17)) (Wn.no rfl) rfl (R.move rfl) ?_
      refine LE.p (v := (Value.int .i64 (IntKind.i64.wrap (r17 + (8 : Int))))) (Wn.no rfl) rfl (R.add rfl rfl) ?_
      refine LE.p (v := (Value.int .i64 (IntKind.i64.wrap ((IntKind.i64.wrap (r17 + (8 : Int))) - (1 : Int))))) (Wn.no rfl) rfl (R.sub rfl rfl) ?_
      refine LE.p (v := (Value.int .i64 (IntKind.i64.wrap (Int.tdiv (IntKind.i64.wrap ((IntKind.i64.wrap (r17 + (8 : Int))) - (1 : Int))) (8 : Int))))) (Wn.no rfl) rfl (R.quo rfl rfl (by decide)) ?_
      refine LE.c (Wn.no rfl) rfl (R.call bd33 (Ls.cons rfl (Ls.cons rfl Ls.nil)) rfl) (Calls.mono h ?_)
      rintro _ w21 ⟨r20, rfl, h⟩
      refine ⟨_, rfl, ?_⟩
      refine LE.p (v := (Value.int .i64 (r20.len : Int))) (Wn.no rfl) rfl (R.len sl28 rfl) ?_
      refine LE.p (v := (Value.int .i64 (0 : Int))) (Wn.no rfl) rfl (R.move rfl) ?_
      refine LE.nil ?_
      refine WE.block ?_
      obtain ⟨I28, ⟨n27, h⟩, hr29⟩ := h
      refine WE.loop (fun n e w => ∃ (x22 : Int) (x23 : Int), I28 n x22 x23 w ∧ e 4 = (Value.pointer r1) ∧ e 5 = (SV.v x3) ∧ e 6 = (Value.int .i64 r17) ∧ e 7 = (Value.int .u32 x22) ∧ e 24 = (SV.v r20) ∧ e 25 = (Value.int .i64 (r20.len : Int)) ∧ e 26 = (Value.int .i64 x23)) n27 ⟨_, _, h, f12, f13, rfl, rfl, rfl, rfl, rfl⟩ ?_
      clear h
      rintro n27 e26 w25 ⟨x22, x23, h, f32, f33, f34, f35, f36, f37, f38⟩
      replace h := hr29 n27 x22 x23 w25 h
      refine WE.seq ?_
      refine WE.reg ?_
      refine LE.p (v := (Value.bool (decide (x23 < (r20.len : Int))))) (Wn.no rfl) rfl (R.lss f38 f37) ?_
      refine LE.nil ?_
      refine WE.seq ?_
      refine WE.condT rfl (b := (decide (x23 < (r20.len : Int)))) rfl ?_ ?_
      · intro hb39
        replace h := M.ite_t h hb39
        refine WE.skip ?_
        refine WE.seq ?_
        refine WE.block ?_
        refine WE.seq ?_
        refine WE.reg ?_
        refine LE.p (v := (Value.int .i64 x23)) (Wn.no rfl) rfl (R.move f38) ?_
        obtain ⟨a40, h41, h42, h43, h⟩ := h
        refine LE.p (v := (Value.pointer (some (a40.add (x23.toNat * 1))))) (Wn.no rfl) rfl (R.idx (s := r20) sl28 f36 f38 h41 h42 h43) ?_
        obtain ⟨t44, h45, h⟩ := h
        refine LE.r (v := (Value.int .u8 t44)) (Wn.no rfl) rfl (R.ld sc5 rfl h45) ?_
        refine LE.p (v := (Value.int .i64 x23)) (Wn.no rfl) rfl (R.assign rfl) ?_
        refine LE.p (v := (Value.int .u8 t44)) (Wn.no rfl) rfl (R.assign rfl) ?_
        refine LE.nil ?_
        refine WE.reg ?_
        refine LE.p (v := (Value.int .u32 x22)) (Wn.no rfl) rfl (R.move f35) ?_
        refine LE.p (v := (Value.int .u8 t44)) (Wn.no rfl) rfl (R.move rfl) ?_
        refine LE.p (v := (Value.int .u32 (IntKind.u32.wrap t44))) (Wn.no rfl) rfl (R.conv in22 in5 rfl) ?_
        refine LE.p (v := (Value.int .i64 x23)) (Wn.no rfl) rfl (R.move rfl) ?_
        refine LE.p (v := (Value.int .i64 (IntKind.i64.wrap (x23 + (1 : Int))))) (Wn.no rfl) rfl (R.add rfl rfl) ?_
        refine LE.p (v := (Value.int .i64 (IntKind.i64.wrap ((8 : Int) * (IntKind.i64.wrap (x23 + (1 : Int))))))) (Wn.no rfl) rfl (R.mul rfl rfl) ?_
        refine LE.p (v := (Value.int .i64 (IntKind.i64.wrap ((32 : Int) - (IntKind.i64.wrap ((8 : Int) * (IntKind.i64.wrap (x23 + (1 : Int))))))))) (Wn.no rfl) rfl (R.sub rfl rfl) ?_
        obtain ⟨h46, h⟩ := h
        refine LE.p (v := (Value.int .u32 (bShl .u32 (IntKind.u32.wrap t44) (IntKind.i64.wrap ((32 : Int) - (IntKind.i64.wrap ((8 : Int) * (IntKind.i64.wrap (x23 + (1 : Int)))))))))) (Wn.no rfl) rfl (R.shl rfl rfl h46) ?_
        refine LE.p (v := (Value.int .u32 (bOr .u32 x22 (bShl .u32 (IntKind.u32.wrap t44) (IntKind.i64.wrap ((32 : Int) - (IntKind.i64.wrap ((8 : Int) * (IntKind.i64.wrap (x23 + (1 : Int))))))))))) (Wn.no rfl) rfl (R.or rfl rfl) ?_
        refine LE.p (v := (Value.int .u32 (bOr .u32 x22 (bShl .u32 (IntKind.u32.wrap t44) (IntKind.i64.wrap ((32 : Int) - (IntKind.i64.wrap ((8 : Int) * (IntKind.i64.wrap (x23 + (1 : Int))))))))))) (Wn.no rfl) rfl (R.assign rfl) ?_
        refine LE.nil ?_
        refine WE.reg ?_
        refine LE.p (v := (Value.int .i64 (IntKind.i64.wrap (x23 + (1 : Int))))) (Wn.no rfl) rfl (R.add f38 rfl) ?_
        refine LE.p (v := (Value.int .i64 (IntKind.i64.wrap (x23 + (1 : Int))))) (Wn.no rfl) rfl (R.move rfl) ?_
        refine LE.nil ?_
        obtain ⟨m30, hm31, h⟩ := h
        exact ⟨m30, hm31, _, _, h, f32, f33, f34, rfl, f36, f37, rfl⟩
      · intro hb39
        replace h := M.ite_f h hb39
        refine WE.exit ?_
        refine WE.reg ?_
        refine LE.p (v := (SV.v x3)) (Wn.no rfl) rfl (R.move f33) ?_
        refine LE.p (v := (Value.int .u32 x22)) (Wn.no rfl) rfl (R.move f35) ?_
        refine LE.p (v := (Value.int .i64 r17)) (Wn.no rfl) rfl (R.move f34) ?_
        refine LE.c (Wn.no rfl) rfl (R.call bd34 (Ls.cons rfl (Ls.cons rfl Ls.nil)) rfl) (Calls.mono h ?_)
        rintro _ w49 ⟨r47, r48, rfl, h⟩
        refine ⟨_, rfl, ?_⟩
        obtain ⟨b52, hpb52, w50, hww50, h⟩ := M.new_use h
        refine LE.r (v := (SV.v (SV.mk (some b52) 1 1))) (Wn.no rfl) rfl (R.bsl (by exact (Ls.cons (R.Pr rfl) Ls.nil)) (fun w => bs27_1 r47 r48 w) hpb52 hww50) ?_
        obtain ⟨s53, w54, h55, h⟩ := h
        refine LE.r (v := (SV.v s53)) (Wn.no rfl) rfl (R.app (s := x3) (r := s53) rfl rfl h55) ?_
        refine LE.p (v := (SV.v s53)) (Wn.no rfl) rfl (R.assign rfl) ?_
        refine LE.nil ?_
        obtain ⟨m10, hm11, h⟩ := h
        exact ⟨m10, hm11, _, h, f32, rfl⟩
  · intro hb16
    replace h := M.ite_f h hb16
    refine WE.exit ?_
    refine WE.seq ?_
    refine WE.seq ?_
    refine WE.reg ?_
    refine LE.p (v := (Value.pointer r1)) (Wn.no rfl) rfl (R.move f12) ?_
    refine LE.c (Wn.no rfl) rfl (R.call bd35 (Ls.cons rfl Ls.nil) rfl) (Calls.mono h ?_)
    rintro _ w57 ⟨r56, rfl, h⟩
    refine ⟨_, rfl, ?_⟩
    refine LE.p (v := (Value.bool (!r56))) (Wn.no rfl) rfl (R.not rfl) ?_
    refine LE.nil ?_
    refine WE.condT rfl (b := (!r56)) rfl ?_ ?_
    · intro hb58
      replace h := M.ite_t h hb58
      refine WE.seq ?_
      refine WE.reg ?_
      refine LE.p (v := (SV.v SV.nil)) (Wn.no rfl) rfl (R.assign rfl) ?_
      refine LE.p (v := (Value.bool false)) (Wn.no rfl) rfl (R.assign rfl) ?_
      refine LE.nil ?_
      refine WE.ret ?_
      exact ⟨_, (Res.tmp rfl (Res.tmp rfl Res.nil)), _, _, rfl, h⟩
    · intro hb58
      replace h := M.ite_f h hb58
      refine WE.skip ?_
      refine WE.seq ?_
      refine WE.reg ?_
      refine LE.p (v := (SV.v x3)) (Wn.no rfl) rfl (R.move f13) ?_
      refine LE.p (v := (SV.v x3)) (Wn.no rfl) rfl (R.assign rfl) ?_
      refine LE.p (v := (Value.bool true)) (Wn.no rfl) rfl (R.assign rfl) ?_
      refine LE.nil ?_
      refine WE.ret ?_
      exact ⟨_, (Res.tmp rfl (Res.tmp rfl Res.nil)), _, _, rfl, h⟩
/-- The formula of signpost.nlri.Size. -/
def F18 (p0_0 : Int) (p0_1 : Int) (K : Int → World → Prop) (w0 : World) : Prop :=
M.new (.cells #[(Value.int .u32 p0_0), (Value.int .i64 p0_1)] 24) w0 fun b2 w1 =>
M.ld (Value.int .u32) b2 w1 fun t3 =>
M.ld (Value.int .i64) (b2.add 1) w1 fun t5 =>
Calls Try.prog 27 #[(Value.agg #[(Value.int .u32 t3), (Value.int .i64 t5)])] w1 (R27 fun r7 w8 =>
M.ite (!r7) (
K (0 : Int) w8) (
M.ld (Value.int .i64) (b2.add 1) w8 fun t10 =>
K (IntKind.i64.wrap ((1 : Int) + (IntKind.i64.wrap (Int.tdiv (IntKind.i64.wrap ((IntKind.i64.wrap (t10 + (8 : Int))) - (1 : Int))) (8 : Int))))) w8))
theorem F18_ok {w0 : World} {p0_0 : Int} {p0_1 : Int} {K : Int → World → Prop} (h : F18 p0_0 p0_1 K w0) : Calls Try.prog 18 #[(Value.agg #[(Value.int .u32 p0_0), (Value.int .i64 p0_1)])] w0 (R18 K) := by
  refine calls_of_WE (args := [(Value.agg #[(Value.int .u32 p0_0), (Value.int .i64 p0_1)])]) (rs := [.tmp 2]) Try.func18 rfl (N := 12) rfl rfl rfl rfl ?_
  refine WE.seq ?_
  refine WE.reg ?_
  obtain ⟨b2, hpb2, w1, hww1, h⟩ := M.new_use h
  refine LE.r (v := (Value.pointer (some b2))) (Wn.no rfl) rfl (R.box (cs := #[(Value.int .u32 p0_0), (Value.int .i64 p0_1)]) rfl rfl hpb2 hww1) ?_
  refine LE.p (v := (Value.int .i64 (0 : Int))) (Wn.no rfl) rfl (R.assign rfl) ?_
  refine LE.nil ?_
  refine WE.seq ?_
  refine WE.seq ?_
  refine WE.reg ?_
  obtain ⟨t3, h4, h⟩ := h
  obtain ⟨t5, h6, h⟩ := h
  refine LE.r (v := (Value.agg #[(Value.int .u32 t3), (Value.int .i64 t5)])) (Wn.no rfl) rfl (R.ldA ag24 sz24 rfl rfl (Cs.cons h4 (Cs.cons h6 Cs.nil))) ?_
  refine LE.c (Wn.no rfl) rfl (R.call bd27 (Ls.cons rfl Ls.nil) rfl) (Calls.mono h ?_)
  rintro _ w8 ⟨r7, rfl, h⟩
  refine ⟨_, rfl, ?_⟩
  refine LE.p (v := (Value.bool (!r7))) (Wn.no rfl) rfl (R.not rfl) ?_
  refine LE.nil ?_
  refine WE.condT rfl (b := (!r7)) rfl ?_ ?_
  · intro hb9
    replace h := M.ite_t h hb9
    refine WE.seq ?_
    refine WE.reg ?_
    refine LE.p (v := (Value.int .i64 (0 : Int))) (Wn.no rfl) rfl (R.assign rfl) ?_
    refine LE.nil ?_
    refine WE.ret ?_
    exact ⟨_, (Res.tmp rfl Res.nil), _, rfl, h⟩
  · intro hb9
    replace h := M.ite_f h hb9
    refine WE.skip ?_
    refine WE.seq ?_
    refine WE.reg ?_
    refine LE.p (v := (Value.pointer (some (b2.add 1)))) (Wn.no rfl) rfl (R.fld (off := 1) fa24_1 rfl) ?_
    obtain ⟨t10, h11, h⟩ := h
    refine LE.r (v := (Value.int .i64 t10)) (Wn.no rfl) rfl (R.ld sc3 rfl h11) ?_
    refine LE.p (v := (Value.int .i64 (IntKind.i64.wrap (t10 + (8 : Int))))) (Wn.no rfl) rfl (R.add rfl rfl) ?_
    refine LE.p (v := (Value.int .i64 (IntKind.i64.wrap ((IntKind.i64.wrap (t10 + (8 : Int))) - (1 : Int))))) (Wn.no rfl) rfl (R.sub rfl rfl) ?_
    refine LE.p (v := (Value.int .i64 (IntKind.i64.wrap (Int.tdiv (IntKind.i64.wrap ((IntKind.i64.wrap (t10 + (8 : Int))) - (1 : Int))) (8 : Int))))) (Wn.no rfl) rfl (R.quo rfl rfl (by decide)) ?_
    refine LE.p (v := (Value.int .i64 (IntKind.i64.wrap ((1 : Int) + (IntKind.i64.wrap (Int.tdiv (IntKind.i64.wrap ((IntKind.i64.wrap (t10 + (8 : Int))) - (1 : Int))) (8 : Int))))))) (Wn.no rfl) rfl (R.add rfl rfl) ?_
    refine LE.p (v := (Value.int .i64 (IntKind.i64.wrap ((1 : Int) + (IntKind.i64.wrap (Int.tdiv (IntKind.i64.wrap ((IntKind.i64.wrap (t10 + (8 : Int))) - (1 : Int))) (8 : Int))))))) (Wn.no rfl) rfl (R.assign rfl) ?_
    refine LE.nil ?_
    refine WE.ret ?_
    exact ⟨_, (Res.tmp rfl Res.nil), _, rfl, h⟩
end Go.Proofs.Ytfcgkkgdnagmcaa
