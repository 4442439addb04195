/-
  Printed by gen.py: the formula of each function, and that it holds of the function.
-/
import Derived.Test.YtmgigplbclkpaaaTy
namespace Go.Proofs.Ytmgigplbclkpaaa
set_option linter.unusedVariables false
set_option linter.unusedSimpArgs false
open Go.Sp
set_option linter.unusedVariables false
/-- The formula of signpost.signpostlaw17.DecideTells. -/
def F3 (p0 : SV) (K : Bool → World → Prop) (w0 : World) : Prop :=
M.join (fun (x2 : Bool) (w16 : World) => 
K x2 w16) fun J1 => 
Calls Try.prog 10 #[(SV.v p0), (Value.bool false)] w0 (R10 fun r3 w4 =>
Calls Try.prog 9 #[(SV.v r3)] w4 (R9 fun r5 w6 =>
M.ite r5 (
Calls Try.prog 10 #[(SV.v p0), (Value.bool true)] w6 (R10 fun r8 w9 =>
Calls Try.prog 9 #[(SV.v r8)] w9 (R9 fun r10 w11 =>
M.ite r10 (
Calls Try.prog 11 #[] w11 (R11 fun r13 w14 =>
J1 r13 w14)) (
J1 false w11)))) (
J1 false w6)))
theorem F3_ok {w0 : World} {p0 : SV} {K : Bool → World → Prop} (h : F3 p0 K w0) : Calls Try.prog 3 #[(SV.v p0)] w0 (R3 K) := by
  refine calls_of_WE (args := [(SV.v p0)]) (rs := [.tmp 2]) Try.func3 rfl (N := 14) rfl rfl rfl rfl ?_
  refine WE.seq ?_
  refine WE.reg ?_
  refine LE.p (v := (Value.bool false)) (Wn.no rfl) rfl (R.assign rfl) ?_
  refine LE.nil ?_
  refine WE.seq ?_
  obtain ⟨J1, hJ1, h⟩ := M.join_use h
  refine WE.regJ (fun e w => ∃ (x2 : Bool), J1 x2 w ∧ e 2 = (Value.bool x2)) ?_ ?_
  · clear hJ1
    refine LE.p (v := (SV.v p0)) (Wn.no rfl) rfl (R.move rfl) ?_
    refine LE.c (Wn.no rfl) rfl (R.call bd10 (Ls.cons rfl (Ls.cons rfl Ls.nil)) rfl) (Calls.mono h ?_)
    rintro _ w4 ⟨r3, rfl, h⟩
    refine ⟨_, rfl, ?_⟩
    refine LE.c (Wn.no rfl) rfl (R.call bd9 (Ls.cons rfl Ls.nil) rfl) (Calls.mono h ?_)
    rintro _ w6 ⟨r5, rfl, h⟩
    refine ⟨_, rfl, ?_⟩
    refine LE.p (v := (Value.bool r5)) (Wn.no rfl) rfl (R.move rfl) ?_
    rcases M.ite_use h with ⟨hb7, h⟩ | ⟨hb7, h⟩
    · refine LE.p (v := (SV.v p0)) (Wn.yes 3 6 true rfl rfl rfl (congrArg Value.bool hb7)) rfl (R.move rfl) ?_
      refine LE.c (Wn.yes 3 6 true rfl rfl rfl (congrArg Value.bool hb7)) rfl (R.call bd10 (Ls.cons rfl (Ls.cons rfl Ls.nil)) rfl) (Calls.mono h ?_)
      rintro _ w9 ⟨r8, rfl, h⟩
      refine ⟨_, rfl, ?_⟩
      refine LE.c (Wn.yes 3 6 true rfl rfl rfl (congrArg Value.bool hb7)) rfl (R.call bd9 (Ls.cons rfl Ls.nil) rfl) (Calls.mono h ?_)
      rintro _ w11 ⟨r10, rfl, h⟩
      refine ⟨_, rfl, ?_⟩
      refine LE.p (v := (Value.bool r10)) (Wn.no rfl) rfl (R.pickT (congrArg Value.bool hb7) rfl) ?_
      refine LE.p (v := (Value.bool r10)) (Wn.no rfl) rfl (R.move rfl) ?_
      rcases M.ite_use h with ⟨hb12, h⟩ | ⟨hb12, h⟩
      · refine LE.c (Wn.yes 8 11 true rfl rfl rfl (congrArg Value.bool hb12)) rfl (R.call bd11 Ls.nil rfl) (Calls.mono h ?_)
        rintro _ w14 ⟨r13, rfl, h⟩
        refine ⟨_, rfl, ?_⟩
        refine LE.p (v := (Value.bool r13)) (Wn.no rfl) rfl (R.pickT (congrArg Value.bool hb12) rfl) ?_
        refine LE.p (v := (Value.bool r13)) (Wn.no rfl) rfl (R.assign rfl) ?_
        refine LE.nil ?_
        exact ⟨_, h, rfl⟩
      · refine LE.u (Un.no 8 11 true rfl rfl rfl (congrArg Value.bool hb12)) ?_
        refine LE.p (v := (Value.bool false)) (Wn.no rfl) rfl (R.pickF (congrArg Value.bool hb12) rfl) ?_
        refine LE.p (v := (Value.bool false)) (Wn.no rfl) rfl (R.assign rfl) ?_
        refine LE.nil ?_
        exact ⟨_, h, rfl⟩
    · refine LE.u (Un.no 3 6 true rfl rfl rfl (congrArg Value.bool hb7)) ?_
      refine LE.u (Un.no 3 6 true rfl rfl rfl (congrArg Value.bool hb7)) ?_
      refine LE.u (Un.no 3 6 true rfl rfl rfl (congrArg Value.bool hb7)) ?_
      refine LE.p (v := (Value.bool false)) (Wn.no rfl) rfl (R.pickF (congrArg Value.bool hb7) rfl) ?_
      refine LE.p (v := (Value.bool false)) (Wn.no rfl) rfl (R.move rfl) ?_
      refine LE.u (Un.no 8 11 true rfl rfl rfl rfl) ?_
      refine LE.p (v := (Value.bool false)) (Wn.no rfl) rfl (R.pickF rfl rfl) ?_
      refine LE.p (v := (Value.bool false)) (Wn.no rfl) rfl (R.assign rfl) ?_
      refine LE.nil ?_
      exact ⟨_, h, rfl⟩
  · rintro e15 w16 ⟨x2, h, f17⟩
    subst hJ1
    refine WE.ret ?_
    exact ⟨_, (Res.tmp f17 Res.nil), _, rfl, h⟩
/-- The formula of signpost.signpostlaw17.DecideRules. -/
def F4 (p0 : SV) (p1 : Int) (K : Bool → World → Prop) (w0 : World) : Prop :=
Calls Try.prog 10 #[(SV.v p0), (Value.bool true)] w0 (R10 fun r1 w2 =>
M.loop1 (fun (J4 : Int → World → Prop) (x3 : Int) (w5 : World) => 
M.ite (decide (x3 < (r1.len : Int))) (
M.idx r1 x3 14 fun a16 =>
M.st ((a16.add (x3.toNat * 14)).add 1) (Value.int .u32 (IntKind.u32.wrap (IntKind.i64.wrap ((10 : Int) + x3)))) w5 fun w20 =>
J4 (IntKind.i64.wrap (x3 + (1 : Int))) w20) (
Calls Try.prog 12 #[(SV.v r1), (Value.int .i64 (0 : Int))] w5 (R12 fun r23 w24 =>
M.ite ((r23.len : Int) != (r1.len : Int)) (
K false w24) (
M.loop2 (fun (J28 : SV → Int → World → Prop) (x26 : SV) (x27 : Int) (w29 : World) => 
M.ite (decide (x27 ≤ (7 : Int))) (
Calls Try.prog 12 #[(SV.v r1), (Value.int .i64 x27)] w29 (R12 fun r41 w42 =>
M.join (fun (x44 : Bool) (w50 : World) => 
M.ite x44 (
K false w50) (
M.loop2 (fun (J60 : Int → Int → World → Prop) (x58 : Int) (x59 : Int) (w61 : World) => 
M.ite (decide (x59 < (r41.len : Int))) (
M.loop1 (fun (J77 : Int → World → Prop) (x76 : Int) (w78 : World) => 
M.join (fun (x93 : Bool) (w109 : World) => 
M.ite x93 (
J77 (IntKind.i64.wrap (x76 + (1 : Int))) w109) (
M.ite (x76 == (x26.len : Int)) (
K false w109) (
J60 x76 (IntKind.i64.wrap (x59 + (1 : Int))) w109))) fun J92 => 
M.drew w78 fun w94 => 
M.ite (decide (x76 < (x26.len : Int))) (
M.idx x26 x76 1 fun a96 =>
M.idx r41 x59 1 fun a100 =>
M.ld (Value.int .i64) (a96.add (x76.toNat * 1)) w94 fun t104 =>
M.ld (Value.int .i64) (a100.add (x59.toNat * 1)) w94 fun t106 =>
J92 (t104 != t106) w94) (
J92 false w94)) x58 w61) (
J28 r41 (IntKind.i64.wrap (x27 + (1 : Int))) w61)) (0 : Int) (0 : Int) w50)) fun J43 => 
M.ite (decide ((0 : Int) < (r1.len : Int))) (
M.ite ((r41.len : Int) == (0 : Int)) (
J43 true w42) (
M.ite (x27 == (7 : Int)) (
J43 (decide ((1 : Int) < (r41.len : Int))) w42) (
J43 false w42))) (
M.ite (x27 == (7 : Int)) (
J43 (decide ((1 : Int) < (r41.len : Int))) w42) (
J43 false w42)))) (
Calls Try.prog 13 #[(SV.v r1)] w29 (R13 fun r120 r121 w122 =>
M.ite (!r121) (
M.join (fun (x125 : Bool) (w130 : World) => 
K x125 w130) fun J124 => 
M.ite ((r1.len : Int) == (0 : Int)) (
Calls Try.prog 11 #[] w122 (R11 fun r127 w128 =>
J124 r127 w128)) (
J124 false w122)) (
Calls Try.prog 14 #[(Value.int .i64 p1), (Value.int .i64 (0 : Int)), (Value.int .i64 (IntKind.i64.wrap ((r1.len : Int) - (1 : Int))))] w122 (R14 fun r132 w133 =>
M.drew w133 fun w134 => 
M.bnd r132 (r1.len : Int) r1 <|
M.bnd (0 : Int) r132 r1 <|
M.new (.cells #[] 37) w134 fun b145 w143 =>
M.app Try.prog 24 24 24 (SV.mk (some b145) 0 0) (SV.v (SV.sub r1 (Int.toNat r132) (Int.toNat (r1.len : Int)) 14)) w143 fun s146 w147 =>
M.app Try.prog 24 24 24 s146 (SV.v (SV.sub r1 (Int.toNat (0 : Int)) (Int.toNat r132) 14)) w147 fun s149 w150 =>
Calls Try.prog 13 #[(SV.v s149)] w150 (R13 fun r152 r153 w154 =>
M.join (fun (x156 : Bool) (w182 : World) => 
K x156 w182) fun J155 => 
M.drew w154 fun w157 => 
M.ite r153 (
M.idx x26 (0 : Int) 1 fun a159 =>
M.ld (Value.int .i64) (a159.add ((0 : Int).toNat * 1)) w157 fun t163 =>
M.ite (t163 == r120) (
M.idx s149 r152 14 fun a166 =>
M.idx r1 r120 14 fun a170 =>
M.ld (Value.int .u32) ((a166.add (r152.toNat * 14)).add 1) w157 fun t174 =>
M.ld (Value.int .u32) ((a170.add (r120.toNat * 14)).add 1) w157 fun t176 =>
M.ite (t174 == t176) (
Calls Try.prog 11 #[] w157 (R11 fun r179 w180 =>
J155 r179 w180)) (
J155 false w157)) (
J155 false w157)) (
J155 false w157))))))) r23 (1 : Int) w24)))) (0 : Int) w2)
theorem F4_ok {w0 : World} {p0 : SV} {p1 : Int} {K : Bool → World → Prop} (h : F4 p0 p1 K w0) : Calls Try.prog 4 #[(SV.v p0), (Value.int .i64 p1)] w0 (R4 K) := by
  refine calls_of_WE (args := [(SV.v p0), (Value.int .i64 p1)]) (rs := [.tmp 4]) Try.func4 rfl (N := 151) rfl rfl rfl rfl ?_
  refine WE.seq ?_
  refine WE.reg ?_
  refine LE.p (v := (Value.bool false)) (Wn.no rfl) rfl (R.assign rfl) ?_
  refine LE.nil ?_
  refine WE.seq ?_
  refine WE.reg ?_
  refine LE.p (v := (SV.v p0)) (Wn.no rfl) rfl (R.move rfl) ?_
  refine LE.c (Wn.no rfl) rfl (R.call bd10 (Ls.cons rfl (Ls.cons rfl Ls.nil)) rfl) (Calls.mono h ?_)
  rintro _ w2 ⟨r1, rfl, h⟩
  refine ⟨_, rfl, ?_⟩
  refine LE.p (v := (SV.v r1)) (Wn.no rfl) rfl (R.assign rfl) ?_
  refine LE.nil ?_
  refine WE.seq ?_
  refine WE.seq ?_
  refine WE.reg ?_
  refine LE.p (v := (Value.int .i64 (0 : Int))) (Wn.no rfl) rfl (R.assign rfl) ?_
  refine LE.nil ?_
  refine WE.block ?_
  obtain ⟨I8, ⟨n7, h⟩, hr9⟩ := h
  refine WE.loop (fun n e w => ∃ (x3 : Int), I8 n x3 w ∧ e 1 = (Value.int .i64 p1) ∧ e 5 = (SV.v r1) ∧ e 6 = (Value.int .i64 x3)) n7 ⟨_, h, rfl, rfl, rfl⟩ ?_
  clear h
  rintro n7 e6 w5 ⟨x3, h, f12, f13, f14⟩
  replace h := hr9 n7 x3 w5 h
  refine WE.seq ?_
  refine WE.seq ?_
  refine WE.reg ?_
  refine LE.p (v := (Value.int .i64 x3)) (Wn.no rfl) rfl (R.move f14) ?_
  refine LE.p (v := (SV.v r1)) (Wn.no rfl) rfl (R.move f13) ?_
  refine LE.p (v := (Value.int .i64 (r1.len : Int))) (Wn.no rfl) rfl (R.len sl24 rfl) ?_
  refine LE.p (v := (Value.bool (decide (x3 < (r1.len : Int))))) (Wn.no rfl) rfl (R.lss rfl rfl) ?_
  refine LE.nil ?_
  refine WE.condT rfl (b := (decide (x3 < (r1.len : Int)))) rfl ?_ ?_
  · intro hb15
    replace h := M.ite_t h hb15
    refine WE.skip ?_
    refine WE.seq ?_
    refine WE.block ?_
    refine WE.reg ?_
    refine LE.p (v := (SV.v r1)) (Wn.no rfl) rfl (R.move f13) ?_
    refine LE.p (v := (Value.int .i64 x3)) (Wn.no rfl) rfl (R.move f14) ?_
    refine LE.p (v := (Value.int .i64 x3)) (Wn.no rfl) rfl (R.move f14) ?_
    refine LE.p (v := (Value.int .i64 (IntKind.i64.wrap ((10 : Int) + x3)))) (Wn.no rfl) rfl (R.add rfl rfl) ?_
    refine LE.p (v := (Value.int .u32 (IntKind.u32.wrap (IntKind.i64.wrap ((10 : Int) + x3))))) (Wn.no rfl) rfl (R.conv in28 in3 rfl) ?_
    obtain ⟨a16, h17, h18, h19, h⟩ := h
    refine LE.p (v := (Value.pointer (some (a16.add (x3.toNat * 14))))) (Wn.no rfl) rfl (R.idx (s := r1) sl24 rfl rfl h17 h18 h19) ?_
    refine LE.p (v := (Value.pointer (some (a16.add (x3.toNat * 14))))) (Wn.no rfl) rfl (R.fld (off := 0) fa37_0 rfl) ?_
    refine LE.p (v := (Value.pointer (some ((a16.add (x3.toNat * 14)).add 1)))) (Wn.no rfl) rfl (R.fld (off := 1) fa34_1 rfl) ?_
    obtain ⟨w20, hww20, h21, h22, h⟩ := M.st_use h
    refine LE.s (Wn.no rfl) rfl (R.st (a := ((a16.add (x3.toNat * 14)).add 1)) (v := (Value.int .u32 (IntKind.u32.wrap (IntKind.i64.wrap ((10 : Int) + x3))))) sz28 rfl rfl rfl rfl h21 h22 hww20) ?_
    refine LE.nil ?_
    refine WE.reg ?_
    refine LE.p (v := (Value.int .i64 x3)) (Wn.no rfl) rfl (R.move f14) ?_
    refine LE.p (v := (Value.int .i64 (IntKind.i64.wrap (x3 + (1 : Int))))) (Wn.no rfl) rfl (R.add rfl rfl) ?_
    refine LE.p (v := (Value.int .i64 (IntKind.i64.wrap (x3 + (1 : Int))))) (Wn.no rfl) rfl (R.assign rfl) ?_
    refine LE.nil ?_
    obtain ⟨m10, hm11, h⟩ := h
    exact ⟨m10, hm11, _, h, f12, f13, rfl⟩
  · intro hb15
    replace h := M.ite_f h hb15
    refine WE.exit ?_
    refine WE.seq ?_
    refine WE.reg ?_
    refine LE.p (v := (SV.v r1)) (Wn.no rfl) rfl (R.move f13) ?_
    refine LE.c (Wn.no rfl) rfl (R.call bd12 (Ls.cons rfl (Ls.cons rfl Ls.nil)) rfl) (Calls.mono h ?_)
    rintro _ w24 ⟨r23, rfl, h⟩
    refine ⟨_, rfl, ?_⟩
    refine LE.p (v := (SV.v r23)) (Wn.no rfl) rfl (R.assign rfl) ?_
    refine LE.nil ?_
    refine WE.seq ?_
    refine WE.seq ?_
    refine WE.reg ?_
    refine LE.p (v := (SV.v r23)) (Wn.no rfl) rfl (R.move rfl) ?_
    refine LE.p (v := (Value.int .i64 (r23.len : Int))) (Wn.no rfl) rfl (R.len sl38 rfl) ?_
    refine LE.p (v := (SV.v r1)) (Wn.no rfl) rfl (R.move f13) ?_
    refine LE.p (v := (Value.int .i64 (r1.len : Int))) (Wn.no rfl) rfl (R.len sl24 rfl) ?_
    refine LE.p (v := (Value.bool ((r23.len : Int) != (r1.len : Int)))) (Wn.no rfl) rfl (R.neq rfl rfl) ?_
    refine LE.nil ?_
    refine WE.condT rfl (b := ((r23.len : Int) != (r1.len : Int))) rfl ?_ ?_
    · intro hb25
      replace h := M.ite_t h hb25
      refine WE.seq ?_
      refine WE.reg ?_
      refine LE.p (v := (Value.bool false)) (Wn.no rfl) rfl (R.assign rfl) ?_
      refine LE.nil ?_
      refine WE.ret ?_
      exact ⟨_, (Res.tmp rfl Res.nil), _, rfl, h⟩
    · intro hb25
      replace h := M.ite_f h hb25
      refine WE.skip ?_
      refine WE.seq ?_
      refine WE.seq ?_
      refine WE.reg ?_
      refine LE.p (v := (Value.int .i64 (1 : Int))) (Wn.no rfl) rfl (R.assign rfl) ?_
      refine LE.nil ?_
      refine WE.block ?_
      obtain ⟨I32, ⟨n31, h⟩, hr33⟩ := h
      refine WE.loop (fun n e w => ∃ (x26 : SV) (x27 : Int), I32 n x26 x27 w ∧ e 1 = (Value.int .i64 p1) ∧ e 5 = (SV.v r1) ∧ e 7 = (SV.v x26) ∧ e 8 = (Value.int .i64 x27)) n31 ⟨_, _, h, f12, f13, rfl, rfl⟩ ?_
      clear h
      rintro n31 e30 w29 ⟨x26, x27, h, f36, f37, f38, f39⟩
      replace h := hr33 n31 x26 x27 w29 h
      refine WE.seq ?_
      refine WE.seq ?_
      refine WE.reg ?_
      refine LE.p (v := (Value.int .i64 x27)) (Wn.no rfl) rfl (R.move f39) ?_
      refine LE.p (v := (Value.bool (decide (x27 ≤ (7 : Int))))) (Wn.no rfl) rfl (R.leq rfl rfl) ?_
      refine LE.nil ?_
      refine WE.condT rfl (b := (decide (x27 ≤ (7 : Int)))) rfl ?_ ?_
      · intro hb40
        replace h := M.ite_t h hb40
        refine WE.skip ?_
        refine WE.seq ?_
        refine WE.block ?_
        refine WE.seq ?_
        refine WE.reg ?_
        refine LE.p (v := (SV.v r1)) (Wn.no rfl) rfl (R.move f37) ?_
        refine LE.p (v := (Value.int .i64 x27)) (Wn.no rfl) rfl (R.move f39) ?_
        refine LE.c (Wn.no rfl) rfl (R.call bd12 (Ls.cons rfl (Ls.cons rfl Ls.nil)) rfl) (Calls.mono h ?_)
        rintro _ w42 ⟨r41, rfl, h⟩
        refine ⟨_, rfl, ?_⟩
        refine LE.p (v := (SV.v r41)) (Wn.no rfl) rfl (R.assign rfl) ?_
        refine LE.nil ?_
        refine WE.seq ?_
        refine WE.seq ?_
        obtain ⟨J43, hJ43, h⟩ := M.join_use h
        refine WE.regJ (fun e w => ∃ (x44 : Bool), J43 x44 w ∧ e 1 = (Value.int .i64 p1) ∧ e 5 = (SV.v r1) ∧ e 7 = (SV.v x26) ∧ e 8 = (Value.int .i64 x27) ∧ e 9 = (SV.v r41) ∧ e 64 = (Value.bool x44)) ?_ ?_
        · clear hJ43
          refine LE.p (v := (SV.v r1)) (Wn.no rfl) rfl (R.move f37) ?_
          refine LE.p (v := (Value.int .i64 (r1.len : Int))) (Wn.no rfl) rfl (R.len sl24 rfl) ?_
          refine LE.p (v := (Value.bool (decide ((0 : Int) < (r1.len : Int))))) (Wn.no rfl) rfl (R.gtr rfl rfl) ?_
          refine LE.p (v := (Value.bool (decide ((0 : Int) < (r1.len : Int))))) (Wn.no rfl) rfl (R.move rfl) ?_
          rcases M.ite_use h with ⟨hb45, h⟩ | ⟨hb45, h⟩
          · refine LE.p (v := (SV.v r41)) (Wn.yes 3 51 true rfl rfl rfl (congrArg Value.bool hb45)) rfl (R.move rfl) ?_
            refine LE.p (v := (Value.int .i64 (r41.len : Int))) (Wn.yes 3 51 true rfl rfl rfl (congrArg Value.bool hb45)) rfl (R.len sl38 rfl) ?_
            refine LE.p (v := (Value.bool ((r41.len : Int) == (0 : Int)))) (Wn.yes 3 51 true rfl rfl rfl (congrArg Value.bool hb45)) rfl (R.eql rfl rfl) ?_
            refine LE.p (v := (Value.bool ((r41.len : Int) == (0 : Int)))) (Wn.no rfl) rfl (R.pickT (congrArg Value.bool hb45) rfl) ?_
            refine LE.p (v := (Value.bool ((r41.len : Int) == (0 : Int)))) (Wn.no rfl) rfl (R.move rfl) ?_
            rcases M.ite_use h with ⟨hb46, h⟩ | ⟨hb46, h⟩
            · refine LE.u (Un.no 8 56 false rfl rfl rfl (congrArg Value.bool hb46)) ?_
              refine LE.u (Un.no 8 56 false rfl rfl rfl (congrArg Value.bool hb46)) ?_
              refine LE.u (Un.no 8 56 false rfl rfl rfl (congrArg Value.bool hb46)) ?_
              refine LE.u (Un.un 11 59 true rfl rfl rfl rfl) ?_
              refine LE.u (Un.un 11 59 true rfl rfl rfl rfl) ?_
              refine LE.u (Un.un 11 59 true rfl rfl rfl rfl) ?_
              refine LE.u (Un.no 8 56 false rfl rfl rfl (congrArg Value.bool hb46)) ?_
              refine LE.p (v := (Value.bool true)) (Wn.no rfl) rfl (R.pickT (congrArg Value.bool hb46) rfl) ?_
              refine LE.nil ?_
              exact ⟨_, h, f36, f37, f38, f39, rfl, rfl⟩
            · refine LE.p (v := (Value.int .i64 x27)) (Wn.yes 8 56 false rfl rfl rfl (congrArg Value.bool hb46)) rfl (R.move f39) ?_
              refine LE.p (v := (Value.bool (x27 == (7 : Int)))) (Wn.yes 8 56 false rfl rfl rfl (congrArg Value.bool hb46)) rfl (R.eql rfl rfl) ?_
              refine LE.p (v := (Value.bool (x27 == (7 : Int)))) (Wn.yes 8 56 false rfl rfl rfl (congrArg Value.bool hb46)) rfl (R.move rfl) ?_
              rcases M.ite_use h with ⟨hb47, h⟩ | ⟨hb47, h⟩
              · refine LE.p (v := (SV.v r41)) (Wn.yes 11 59 true rfl rfl rfl (congrArg Value.bool hb47)) rfl (R.move rfl) ?_
                refine LE.p (v := (Value.int .i64 (r41.len : Int))) (Wn.yes 11 59 true rfl rfl rfl (congrArg Value.bool hb47)) rfl (R.len sl38 rfl) ?_
                refine LE.p (v := (Value.bool (decide ((1 : Int) < (r41.len : Int))))) (Wn.yes 11 59 true rfl rfl rfl (congrArg Value.bool hb47)) rfl (R.gtr rfl rfl) ?_
                refine LE.p (v := (Value.bool (decide ((1 : Int) < (r41.len : Int))))) (Wn.yes 8 56 false rfl rfl rfl (congrArg Value.bool hb46)) rfl (R.pickT (congrArg Value.bool hb47) rfl) ?_
                refine LE.p (v := (Value.bool (decide ((1 : Int) < (r41.len : Int))))) (Wn.no rfl) rfl (R.pickF (congrArg Value.bool hb46) rfl) ?_
                refine LE.nil ?_
                exact ⟨_, h, f36, f37, f38, f39, rfl, rfl⟩
              · refine LE.u (Un.no 11 59 true rfl rfl rfl (congrArg Value.bool hb47)) ?_
                refine LE.u (Un.no 11 59 true rfl rfl rfl (congrArg Value.bool hb47)) ?_
                refine LE.u (Un.no 11 59 true rfl rfl rfl (congrArg Value.bool hb47)) ?_
                refine LE.p (v := (Value.bool false)) (Wn.yes 8 56 false rfl rfl rfl (congrArg Value.bool hb46)) rfl (R.pickF (congrArg Value.bool hb47) rfl) ?_
                refine LE.p (v := (Value.bool false)) (Wn.no rfl) rfl (R.pickF (congrArg Value.bool hb46) rfl) ?_
                refine LE.nil ?_
                exact ⟨_, h, f36, f37, f38, f39, rfl, rfl⟩
          · refine LE.u (Un.no 3 51 true rfl rfl rfl (congrArg Value.bool hb45)) ?_
            refine LE.u (Un.no 3 51 true rfl rfl rfl (congrArg Value.bool hb45)) ?_
            refine LE.u (Un.no 3 51 true rfl rfl rfl (congrArg Value.bool hb45)) ?_
            refine LE.p (v := (Value.bool false)) (Wn.no rfl) rfl (R.pickF (congrArg Value.bool hb45) rfl) ?_
            refine LE.p (v := (Value.bool false)) (Wn.no rfl) rfl (R.move rfl) ?_
            refine LE.p (v := (Value.int .i64 x27)) (Wn.yes 8 56 false rfl rfl rfl rfl) rfl (R.move f39) ?_
            refine LE.p (v := (Value.bool (x27 == (7 : Int)))) (Wn.yes 8 56 false rfl rfl rfl rfl) rfl (R.eql rfl rfl) ?_
            refine LE.p (v := (Value.bool (x27 == (7 : Int)))) (Wn.yes 8 56 false rfl rfl rfl rfl) rfl (R.move rfl) ?_
            rcases M.ite_use h with ⟨hb48, h⟩ | ⟨hb48, h⟩
            · refine LE.p (v := (SV.v r41)) (Wn.yes 11 59 true rfl rfl rfl (congrArg Value.bool hb48)) rfl (R.move rfl) ?_
              refine LE.p (v := (Value.int .i64 (r41.len : Int))) (Wn.yes 11 59 true rfl rfl rfl (congrArg Value.bool hb48)) rfl (R.len sl38 rfl) ?_
              refine LE.p (v := (Value.bool (decide ((1 : Int) < (r41.len : Int))))) (Wn.yes 11 59 true rfl rfl rfl (congrArg Value.bool hb48)) rfl (R.gtr rfl rfl) ?_
              refine LE.p (v := (Value.bool (decide ((1 : Int) < (r41.len : Int))))) (Wn.yes 8 56 false rfl rfl rfl rfl) rfl (R.pickT (congrArg Value.bool hb48) rfl) ?_
              refine LE.p (v := (Value.bool (decide ((1 : Int) < (r41.len : Int))))) (Wn.no rfl) rfl (R.pickF rfl rfl) ?_
              refine LE.nil ?_
              exact ⟨_, h, f36, f37, f38, f39, rfl, rfl⟩
            · refine LE.u (Un.no 11 59 true rfl rfl rfl (congrArg Value.bool hb48)) ?_
              refine LE.u (Un.no 11 59 true rfl rfl rfl (congrArg Value.bool hb48)) ?_
              refine LE.u (Un.no 11 59 true rfl rfl rfl (congrArg Value.bool hb48)) ?_
              refine LE.p (v := (Value.bool false)) (Wn.yes 8 56 false rfl rfl rfl rfl) rfl (R.pickF (congrArg Value.bool hb48) rfl) ?_
              refine LE.p (v := (Value.bool false)) (Wn.no rfl) rfl (R.pickF rfl rfl) ?_
              refine LE.nil ?_
              exact ⟨_, h, f36, f37, f38, f39, rfl, rfl⟩
        · rintro e49 w50 ⟨x44, h, f51, f52, f53, f54, f55, f56⟩
          subst hJ43
          refine WE.condT rfl (b := x44) f56 ?_ ?_
          · intro hb57
            replace h := M.ite_t h hb57
            refine WE.seq ?_
            refine WE.reg ?_
            refine LE.p (v := (Value.bool false)) (Wn.no rfl) rfl (R.assign rfl) ?_
            refine LE.nil ?_
            refine WE.ret ?_
            exact ⟨_, (Res.tmp rfl Res.nil), _, rfl, h⟩
          · intro hb57
            replace h := M.ite_f h hb57
            refine WE.skip ?_
            refine WE.seq ?_
            refine WE.reg ?_
            refine LE.p (v := (Value.int .i64 (0 : Int))) (Wn.no rfl) rfl (R.assign rfl) ?_
            refine LE.nil ?_
            refine WE.seq ?_
            refine WE.seq ?_
            refine WE.reg ?_
            refine LE.p (v := (Value.int .i64 (0 : Int))) (Wn.no rfl) rfl (R.assign rfl) ?_
            refine LE.nil ?_
            refine WE.block ?_
            obtain ⟨I64, ⟨n63, h⟩, hr65⟩ := h
            refine WE.loop (fun n e w => ∃ (x58 : Int) (x59 : Int), I64 n x58 x59 w ∧ e 1 = (Value.int .i64 p1) ∧ e 5 = (SV.v r1) ∧ e 7 = (SV.v x26) ∧ e 8 = (Value.int .i64 x27) ∧ e 9 = (SV.v r41) ∧ e 10 = (Value.int .i64 x58) ∧ e 11 = (Value.int .i64 x59)) n63 ⟨_, _, h, f51, f52, f53, f54, f55, rfl, rfl⟩ ?_
            clear h
            rintro n63 e62 w61 ⟨x58, x59, h, f68, f69, f70, f71, f72, f73, f74⟩
            replace h := hr65 n63 x58 x59 w61 h
            refine WE.seq ?_
            refine WE.seq ?_
            refine WE.reg ?_
            refine LE.p (v := (Value.int .i64 x59)) (Wn.no rfl) rfl (R.move f74) ?_
            refine LE.p (v := (SV.v r41)) (Wn.no rfl) rfl (R.move f72) ?_
            refine LE.p (v := (Value.int .i64 (r41.len : Int))) (Wn.no rfl) rfl (R.len sl38 rfl) ?_
            refine LE.p (v := (Value.bool (decide (x59 < (r41.len : Int))))) (Wn.no rfl) rfl (R.lss rfl rfl) ?_
            refine LE.nil ?_
            refine WE.condT rfl (b := (decide (x59 < (r41.len : Int)))) rfl ?_ ?_
            · intro hb75
              replace h := M.ite_t h hb75
              refine WE.skip ?_
              refine WE.seq ?_
              refine WE.block ?_
              refine WE.seq ?_
              refine WE.block ?_
              obtain ⟨I81, ⟨n80, h⟩, hr82⟩ := h
              refine WE.loop (fun n e w => ∃ (x76 : Int), I81 n x76 w ∧ e 1 = (Value.int .i64 p1) ∧ e 5 = (SV.v r1) ∧ e 7 = (SV.v x26) ∧ e 8 = (Value.int .i64 x27) ∧ e 9 = (SV.v r41) ∧ e 10 = (Value.int .i64 x76) ∧ e 11 = (Value.int .i64 x59)) n80 ⟨_, h, f68, f69, f70, f71, f72, f73, f74⟩ ?_
              clear h
              rintro n80 e79 w78 ⟨x76, h, f85, f86, f87, f88, f89, f90, f91⟩
              replace h := hr82 n80 x76 w78 h
              refine WE.seq ?_
              refine WE.seq ?_
              obtain ⟨J92, hJ92, h⟩ := M.join_use h
              refine WE.drawJ (fun e w => ∃ (x93 : Bool), J92 x93 w ∧ e 1 = (Value.int .i64 p1) ∧ e 5 = (SV.v r1) ∧ e 7 = (SV.v x26) ∧ e 8 = (Value.int .i64 x27) ∧ e 9 = (SV.v r41) ∧ e 10 = (Value.int .i64 x76) ∧ e 11 = (Value.int .i64 x59) ∧ e 85 = (Value.bool x93)) mix ?_ ?_
              · clear hJ92
                obtain ⟨w94, hww94, h⟩ := M.drew_use h
                rw [← hww94]
                clear hww94
                refine DE.t 0 (v := (Value.int .i64 x76)) rfl (by kernel_rfl) (Wn.no rfl) rfl (R.move f90) ?_
                refine DE.t 1 (v := (SV.v x26)) rfl (by kernel_rfl) (Wn.no rfl) rfl (R.move f87) ?_
                refine DE.t 2 (v := (Value.int .i64 (x26.len : Int))) rfl (by kernel_rfl) (Wn.no rfl) rfl (R.len sl38 rfl) ?_
                refine DE.t 3 (v := (Value.bool (decide (x76 < (x26.len : Int))))) rfl (by kernel_rfl) (Wn.no rfl) rfl (R.lss rfl rfl) ?_
                refine DE.t 4 (v := (Value.bool (decide (x76 < (x26.len : Int))))) rfl (by kernel_rfl) (Wn.no rfl) rfl (R.move rfl) ?_
                rcases M.ite_use h with ⟨hb95, h⟩ | ⟨hb95, h⟩
                · refine DE.t 5 (v := (SV.v x26)) rfl (by kernel_rfl) (Wn.yes 4 75 true rfl rfl rfl (congrArg Value.bool hb95)) rfl (R.move f87) ?_
                  refine DE.t 6 (v := (Value.int .i64 x76)) rfl (by kernel_rfl) (Wn.yes 4 75 true rfl rfl rfl (congrArg Value.bool hb95)) rfl (R.move f90) ?_
                  obtain ⟨a96, h97, h98, h99, h⟩ := h
                  refine DE.t 7 (v := (Value.pointer (some (a96.add (x76.toNat * 1))))) rfl (by kernel_rfl) (Wn.yes 4 75 true rfl rfl rfl (congrArg Value.bool hb95)) rfl (R.idx (s := x26) sl38 rfl rfl h97 h98 h99) ?_
                  refine DE.t 9 (v := (SV.v r41)) rfl (by kernel_rfl) (Wn.yes 4 75 true rfl rfl rfl (congrArg Value.bool hb95)) rfl (R.move f89) ?_
                  refine DE.t 10 (v := (Value.int .i64 x59)) rfl (by kernel_rfl) (Wn.yes 4 75 true rfl rfl rfl (congrArg Value.bool hb95)) rfl (R.move f91) ?_
                  obtain ⟨a100, h101, h102, h103, h⟩ := h
                  refine DE.t 11 (v := (Value.pointer (some (a100.add (x59.toNat * 1))))) rfl (by kernel_rfl) (Wn.yes 4 75 true rfl rfl rfl (congrArg Value.bool hb95)) rfl (R.idx (s := r41) sl38 rfl rfl h101 h102 h103) ?_
                  obtain ⟨t104, h105, h⟩ := h
                  refine DE.hold 8 (fun w => w.cell? (a96.add (x76.toNat * 1)) = some (Value.int .i64 t104)) (v := (Value.int .i64 t104)) rfl (by kernel_rfl) (Wn.yes 4 75 true rfl rfl rfl (congrArg Value.bool hb95)) rfl h105 (fun w hs => R.ld sc3 rfl hs) ?_
                  obtain ⟨t106, h107, h⟩ := h
                  refine DE.main 12 (by kernel_rfl) ?_
                  refine One.r 12 (v := (Value.int .i64 t106)) rfl (Wn.yes 4 75 true rfl rfl rfl (congrArg Value.bool hb95)) rfl (R.ld sc3 rfl h107) (.inl rfl) ?_
                  refine DE.t 13 (v := (Value.bool (t104 != t106))) rfl (by kernel_rfl) (Wn.yes 4 75 true rfl rfl rfl (congrArg Value.bool hb95)) rfl (R.neq rfl rfl) ?_
                  refine DE.t 14 (v := (Value.bool (t104 != t106))) rfl (by kernel_rfl) (Wn.no rfl) rfl (R.pickT (congrArg Value.bool hb95) rfl) ?_
                  refine DE.done (by kernel_rfl) ?_
                  exact ⟨_, h, f85, f86, f87, f88, f89, f90, f91, rfl⟩
                · refine DE.u 5 rfl (by kernel_rfl) (Un.no 4 75 true rfl rfl rfl (congrArg Value.bool hb95)) ?_
                  refine DE.u 6 rfl (by kernel_rfl) (Un.no 4 75 true rfl rfl rfl (congrArg Value.bool hb95)) ?_
                  refine DE.u 7 rfl (by kernel_rfl) (Un.no 4 75 true rfl rfl rfl (congrArg Value.bool hb95)) ?_
                  refine DE.u 8 rfl (by kernel_rfl) (Un.no 4 75 true rfl rfl rfl (congrArg Value.bool hb95)) ?_
                  refine DE.u 9 rfl (by kernel_rfl) (Un.no 4 75 true rfl rfl rfl (congrArg Value.bool hb95)) ?_
                  refine DE.u 10 rfl (by kernel_rfl) (Un.no 4 75 true rfl rfl rfl (congrArg Value.bool hb95)) ?_
                  refine DE.u 11 rfl (by kernel_rfl) (Un.no 4 75 true rfl rfl rfl (congrArg Value.bool hb95)) ?_
                  refine DE.u 12 rfl (by kernel_rfl) (Un.no 4 75 true rfl rfl rfl (congrArg Value.bool hb95)) ?_
                  refine DE.u 13 rfl (by kernel_rfl) (Un.no 4 75 true rfl rfl rfl (congrArg Value.bool hb95)) ?_
                  refine DE.t 14 (v := (Value.bool false)) rfl (by kernel_rfl) (Wn.no rfl) rfl (R.pickF (congrArg Value.bool hb95) rfl) ?_
                  refine DE.done (by kernel_rfl) ?_
                  exact ⟨_, h, f85, f86, f87, f88, f89, f90, f91, rfl⟩
              · rintro e108 w109 ⟨x93, h, f110, f111, f112, f113, f114, f115, f116, f117⟩
                subst hJ92
                refine WE.condT rfl (b := x93) f117 ?_ ?_
                · intro hb118
                  replace h := M.ite_t h hb118
                  refine WE.skip ?_
                  refine WE.block ?_
                  refine WE.reg ?_
                  refine LE.p (v := (Value.int .i64 x76)) (Wn.no rfl) rfl (R.move f115) ?_
                  refine LE.p (v := (Value.int .i64 (IntKind.i64.wrap (x76 + (1 : Int))))) (Wn.no rfl) rfl (R.add rfl rfl) ?_
                  refine LE.p (v := (Value.int .i64 (IntKind.i64.wrap (x76 + (1 : Int))))) (Wn.no rfl) rfl (R.assign rfl) ?_
                  refine LE.nil ?_
                  obtain ⟨m83, hm84, h⟩ := h
                  exact ⟨m83, hm84, _, h, f110, f111, f112, f113, f114, rfl, f116⟩
                · intro hb118
                  replace h := M.ite_f h hb118
                  refine WE.exit ?_
                  refine WE.seq ?_
                  refine WE.reg ?_
                  refine LE.p (v := (Value.int .i64 x76)) (Wn.no rfl) rfl (R.move f115) ?_
                  refine LE.p (v := (SV.v x26)) (Wn.no rfl) rfl (R.move f112) ?_
                  refine LE.p (v := (Value.int .i64 (x26.len : Int))) (Wn.no rfl) rfl (R.len sl38 rfl) ?_
                  refine LE.p (v := (Value.bool (x76 == (x26.len : Int)))) (Wn.no rfl) rfl (R.eql rfl rfl) ?_
                  refine LE.nil ?_
                  refine WE.condT rfl (b := (x76 == (x26.len : Int))) rfl ?_ ?_
                  · intro hb119
                    replace h := M.ite_t h hb119
                    refine WE.seq ?_
                    refine WE.reg ?_
                    refine LE.p (v := (Value.bool false)) (Wn.no rfl) rfl (R.assign rfl) ?_
                    refine LE.nil ?_
                    refine WE.ret ?_
                    exact ⟨_, (Res.tmp rfl Res.nil), _, rfl, h⟩
                  · intro hb119
                    replace h := M.ite_f h hb119
                    refine WE.skip ?_
                    refine WE.reg ?_
                    refine LE.p (v := (Value.int .i64 x59)) (Wn.no rfl) rfl (R.move f116) ?_
                    refine LE.p (v := (Value.int .i64 (IntKind.i64.wrap (x59 + (1 : Int))))) (Wn.no rfl) rfl (R.add rfl rfl) ?_
                    refine LE.p (v := (Value.int .i64 (IntKind.i64.wrap (x59 + (1 : Int))))) (Wn.no rfl) rfl (R.assign rfl) ?_
                    refine LE.nil ?_
                    obtain ⟨m66, hm67, h⟩ := h
                    exact ⟨m66, hm67, _, _, h, f110, f111, f112, f113, f114, f115, rfl⟩
            · intro hb75
              replace h := M.ite_f h hb75
              refine WE.exit ?_
              refine WE.reg ?_
              refine LE.p (v := (SV.v r41)) (Wn.no rfl) rfl (R.move f72) ?_
              refine LE.p (v := (SV.v r41)) (Wn.no rfl) rfl (R.assign rfl) ?_
              refine LE.nil ?_
              refine WE.reg ?_
              refine LE.p (v := (Value.int .i64 x27)) (Wn.no rfl) rfl (R.move f71) ?_
              refine LE.p (v := (Value.int .i64 (IntKind.i64.wrap (x27 + (1 : Int))))) (Wn.no rfl) rfl (R.add rfl rfl) ?_
              refine LE.p (v := (Value.int .i64 (IntKind.i64.wrap (x27 + (1 : Int))))) (Wn.no rfl) rfl (R.assign rfl) ?_
              refine LE.nil ?_
              obtain ⟨m34, hm35, h⟩ := h
              exact ⟨m34, hm35, _, _, h, f68, f69, rfl, rfl⟩
      · intro hb40
        replace h := M.ite_f h hb40
        refine WE.exit ?_
        refine WE.seq ?_
        refine WE.reg ?_
        refine LE.p (v := (SV.v r1)) (Wn.no rfl) rfl (R.move f37) ?_
        refine LE.c (Wn.no rfl) rfl (R.call bd13 (Ls.cons rfl Ls.nil) rfl) (Calls.mono h ?_)
        rintro _ w122 ⟨r120, r121, rfl, h⟩
        refine ⟨_, rfl, ?_⟩
        refine LE.p (v := (Value.tuple #[(Value.int .i64 r120), (Value.bool r121)])) (Wn.no rfl) rfl (R.move rfl) ?_
        refine LE.p (v := (Value.int .i64 r120)) (Wn.no rfl) rfl (R.ext rfl rfl) ?_
        refine LE.p (v := (Value.bool r121)) (Wn.no rfl) rfl (R.ext rfl rfl) ?_
        refine LE.p (v := (Value.int .i64 r120)) (Wn.no rfl) rfl (R.assign rfl) ?_
        refine LE.p (v := (Value.bool r121)) (Wn.no rfl) rfl (R.assign rfl) ?_
        refine LE.nil ?_
        refine WE.seq ?_
        refine WE.seq ?_
        refine WE.reg ?_
        refine LE.p (v := (Value.bool r121)) (Wn.no rfl) rfl (R.move rfl) ?_
        refine LE.p (v := (Value.bool (!r121))) (Wn.no rfl) rfl (R.not rfl) ?_
        refine LE.nil ?_
        refine WE.condT rfl (b := (!r121)) rfl ?_ ?_
        · intro hb123
          replace h := M.ite_t h hb123
          refine WE.seq ?_
          obtain ⟨J124, hJ124, h⟩ := M.join_use h
          refine WE.regJ (fun e w => ∃ (x125 : Bool), J124 x125 w ∧ e 4 = (Value.bool x125)) ?_ ?_
          · clear hJ124
            refine LE.p (v := (SV.v r1)) (Wn.no rfl) rfl (R.move f37) ?_
            refine LE.p (v := (Value.int .i64 (r1.len : Int))) (Wn.no rfl) rfl (R.len sl24 rfl) ?_
            refine LE.p (v := (Value.bool ((r1.len : Int) == (0 : Int)))) (Wn.no rfl) rfl (R.eql rfl rfl) ?_
            refine LE.p (v := (Value.bool ((r1.len : Int) == (0 : Int)))) (Wn.no rfl) rfl (R.move rfl) ?_
            rcases M.ite_use h with ⟨hb126, h⟩ | ⟨hb126, h⟩
            · refine LE.c (Wn.yes 3 103 true rfl rfl rfl (congrArg Value.bool hb126)) rfl (R.call bd11 Ls.nil rfl) (Calls.mono h ?_)
              rintro _ w128 ⟨r127, rfl, h⟩
              refine ⟨_, rfl, ?_⟩
              refine LE.p (v := (Value.bool r127)) (Wn.no rfl) rfl (R.pickT (congrArg Value.bool hb126) rfl) ?_
              refine LE.p (v := (Value.bool r127)) (Wn.no rfl) rfl (R.assign rfl) ?_
              refine LE.nil ?_
              exact ⟨_, h, rfl⟩
            · refine LE.u (Un.no 3 103 true rfl rfl rfl (congrArg Value.bool hb126)) ?_
              refine LE.p (v := (Value.bool false)) (Wn.no rfl) rfl (R.pickF (congrArg Value.bool hb126) rfl) ?_
              refine LE.p (v := (Value.bool false)) (Wn.no rfl) rfl (R.assign rfl) ?_
              refine LE.nil ?_
              exact ⟨_, h, rfl⟩
          · rintro e129 w130 ⟨x125, h, f131⟩
            subst hJ124
            refine WE.ret ?_
            exact ⟨_, (Res.tmp f131 Res.nil), _, rfl, h⟩
        · intro hb123
          replace h := M.ite_f h hb123
          refine WE.skip ?_
          refine WE.seq ?_
          refine WE.reg ?_
          refine LE.p (v := (Value.int .i64 p1)) (Wn.no rfl) rfl (R.move f36) ?_
          refine LE.p (v := (SV.v r1)) (Wn.no rfl) rfl (R.move f37) ?_
          refine LE.p (v := (Value.int .i64 (r1.len : Int))) (Wn.no rfl) rfl (R.len sl24 rfl) ?_
          refine LE.p (v := (Value.int .i64 (IntKind.i64.wrap ((r1.len : Int) - (1 : Int))))) (Wn.no rfl) rfl (R.sub rfl rfl) ?_
          refine LE.c (Wn.no rfl) rfl (R.call bd14 (Ls.cons rfl (Ls.cons rfl (Ls.cons rfl Ls.nil))) rfl) (Calls.mono h ?_)
          rintro _ w133 ⟨r132, rfl, h⟩
          refine ⟨_, rfl, ?_⟩
          refine LE.p (v := (Value.int .i64 r132)) (Wn.no rfl) rfl (R.assign rfl) ?_
          refine LE.nil ?_
          refine WE.seq ?_
          refine WE.draw mix ?_
          obtain ⟨w134, hww134, h⟩ := M.drew_use h
          rw [← hww134]
          clear hww134
          refine DE.t 1 (v := (SV.v r1)) rfl (by kernel_rfl) (Wn.no rfl) rfl (R.move f37) ?_
          refine DE.t 2 (v := (Value.int .i64 r132)) rfl (by kernel_rfl) (Wn.no rfl) rfl (R.move rfl) ?_
          obtain ⟨h135, h136, h137, h⟩ := h
          refine DE.t 3 (v := (SV.v (SV.sub r1 (Int.toNat r132) (Int.toNat (r1.len : Int)) 14))) rfl (by kernel_rfl) (Wn.no rfl) rfl (R.slc (s := r1) (lo := r132) (hi := (r1.len : Int)) _ _ sl24 rfl rfl rfl h135 h136 h137) ?_
          refine DE.t 5 (v := (SV.v r1)) rfl (by kernel_rfl) (Wn.no rfl) rfl (R.move f37) ?_
          refine DE.t 6 (v := (Value.int .i64 r132)) rfl (by kernel_rfl) (Wn.no rfl) rfl (R.move rfl) ?_
          obtain ⟨h139, h140, h141, h⟩ := h
          refine DE.t 7 (v := (SV.v (SV.sub r1 (Int.toNat (0 : Int)) (Int.toNat r132) 14))) rfl (by kernel_rfl) (Wn.no rfl) rfl (R.slc (s := r1) (lo := (0 : Int)) (hi := r132) _ _ sl24 rfl rfl rfl h139 h140 h141) ?_
          obtain ⟨b145, hpb145, w143, hww143, h⟩ := M.new_use h
          refine DE.main 0 (by kernel_rfl) ?_
          refine One.r 0 (v := (SV.v (SV.mk (some b145) 0 0))) rfl (Wn.no rfl) rfl (R.bsl (by exact Ls.nil) (fun w => bs24_0  w) hpb145 hww143) (.inr trivial) ?_
          obtain ⟨s146, w147, h148, h⟩ := h
          refine DE.main 4 (by kernel_rfl) ?_
          refine One.r 4 (v := (SV.v s146)) rfl (Wn.no rfl) rfl (R.app (s := (SV.mk (some b145) 0 0)) (r := s146) rfl rfl h148) (.inr trivial) ?_
          obtain ⟨s149, w150, h151, h⟩ := h
          refine DE.main 8 (by kernel_rfl) ?_
          refine One.r 8 (v := (SV.v s149)) rfl (Wn.no rfl) rfl (R.app (s := s146) (r := s149) rfl rfl h151) (.inr trivial) ?_
          refine DE.t 9 (v := (SV.v s149)) rfl (by kernel_rfl) (Wn.no rfl) rfl (R.assign rfl) ?_
          refine DE.done (by kernel_rfl) ?_
          refine WE.seq ?_
          refine WE.reg ?_
          refine LE.p (v := (SV.v s149)) (Wn.no rfl) rfl (R.move rfl) ?_
          refine LE.c (Wn.no rfl) rfl (R.call bd13 (Ls.cons rfl Ls.nil) rfl) (Calls.mono h ?_)
          rintro _ w154 ⟨r152, r153, rfl, h⟩
          refine ⟨_, rfl, ?_⟩
          refine LE.p (v := (Value.tuple #[(Value.int .i64 r152), (Value.bool r153)])) (Wn.no rfl) rfl (R.move rfl) ?_
          refine LE.p (v := (Value.int .i64 r152)) (Wn.no rfl) rfl (R.ext rfl rfl) ?_
          refine LE.p (v := (Value.bool r153)) (Wn.no rfl) rfl (R.ext rfl rfl) ?_
          refine LE.p (v := (Value.int .i64 r152)) (Wn.no rfl) rfl (R.assign rfl) ?_
          refine LE.p (v := (Value.bool r153)) (Wn.no rfl) rfl (R.assign rfl) ?_
          refine LE.nil ?_
          refine WE.seq ?_
          obtain ⟨J155, hJ155, h⟩ := M.join_use h
          refine WE.drawJ (fun e w => ∃ (x156 : Bool), J155 x156 w ∧ e 4 = (Value.bool x156)) mix ?_ ?_
          · clear hJ155
            obtain ⟨w157, hww157, h⟩ := M.drew_use h
            rw [← hww157]
            clear hww157
            refine DE.t 0 (v := (Value.bool r153)) rfl (by kernel_rfl) (Wn.no rfl) rfl (R.move rfl) ?_
            refine DE.t 1 (v := (Value.bool r153)) rfl (by kernel_rfl) (Wn.no rfl) rfl (R.move rfl) ?_
            rcases M.ite_use h with ⟨hb158, h⟩ | ⟨hb158, h⟩
            · refine DE.t 2 (v := (SV.v x26)) rfl (by kernel_rfl) (Wn.yes 1 126 true rfl rfl rfl (congrArg Value.bool hb158)) rfl (R.move f38) ?_
              obtain ⟨a159, h160, h161, h162, h⟩ := h
              refine DE.t 3 (v := (Value.pointer (some (a159.add ((0 : Int).toNat * 1))))) rfl (by kernel_rfl) (Wn.yes 1 126 true rfl rfl rfl (congrArg Value.bool hb158)) rfl (R.idx (s := x26) sl38 rfl rfl h160 h161 h162) ?_
              refine DE.t 5 (v := (Value.int .i64 r120)) rfl (by kernel_rfl) (Wn.yes 1 126 true rfl rfl rfl (congrArg Value.bool hb158)) rfl (R.move rfl) ?_
              obtain ⟨t163, h164, h⟩ := h
              refine DE.main 4 (by kernel_rfl) ?_
              refine One.r 4 (v := (Value.int .i64 t163)) rfl (Wn.yes 1 126 true rfl rfl rfl (congrArg Value.bool hb158)) rfl (R.ld sc3 rfl h164) (.inl rfl) ?_
              refine DE.t 6 (v := (Value.bool (t163 == r120))) rfl (by kernel_rfl) (Wn.yes 1 126 true rfl rfl rfl (congrArg Value.bool hb158)) rfl (R.eql rfl rfl) ?_
              refine DE.t 7 (v := (Value.bool (t163 == r120))) rfl (by kernel_rfl) (Wn.no rfl) rfl (R.pickT (congrArg Value.bool hb158) rfl) ?_
              refine DE.t 8 (v := (Value.bool (t163 == r120))) rfl (by kernel_rfl) (Wn.no rfl) rfl (R.move rfl) ?_
              rcases M.ite_use h with ⟨hb165, h⟩ | ⟨hb165, h⟩
              · refine DE.t 9 (v := (SV.v s149)) rfl (by kernel_rfl) (Wn.yes 8 133 true rfl rfl rfl (congrArg Value.bool hb165)) rfl (R.move rfl) ?_
                refine DE.t 10 (v := (Value.int .i64 r152)) rfl (by kernel_rfl) (Wn.yes 8 133 true rfl rfl rfl (congrArg Value.bool hb165)) rfl (R.move rfl) ?_
                obtain ⟨a166, h167, h168, h169, h⟩ := h
                refine DE.t 11 (v := (Value.pointer (some (a166.add (r152.toNat * 14))))) rfl (by kernel_rfl) (Wn.yes 8 133 true rfl rfl rfl (congrArg Value.bool hb165)) rfl (R.idx (s := s149) sl24 rfl rfl h167 h168 h169) ?_
                refine DE.t 12 (v := (Value.pointer (some (a166.add (r152.toNat * 14))))) rfl (by kernel_rfl) (Wn.yes 8 133 true rfl rfl rfl (congrArg Value.bool hb165)) rfl (R.fld (off := 0) fa37_0 rfl) ?_
                refine DE.t 13 (v := (Value.pointer (some ((a166.add (r152.toNat * 14)).add 1)))) rfl (by kernel_rfl) (Wn.yes 8 133 true rfl rfl rfl (congrArg Value.bool hb165)) rfl (R.fld (off := 1) fa34_1 rfl) ?_
                refine DE.t 15 (v := (SV.v r1)) rfl (by kernel_rfl) (Wn.yes 8 133 true rfl rfl rfl (congrArg Value.bool hb165)) rfl (R.move f37) ?_
                refine DE.t 16 (v := (Value.int .i64 r120)) rfl (by kernel_rfl) (Wn.yes 8 133 true rfl rfl rfl (congrArg Value.bool hb165)) rfl (R.move rfl) ?_
                obtain ⟨a170, h171, h172, h173, h⟩ := h
                refine DE.t 17 (v := (Value.pointer (some (a170.add (r120.toNat * 14))))) rfl (by kernel_rfl) (Wn.yes 8 133 true rfl rfl rfl (congrArg Value.bool hb165)) rfl (R.idx (s := r1) sl24 rfl rfl h171 h172 h173) ?_
                refine DE.t 18 (v := (Value.pointer (some (a170.add (r120.toNat * 14))))) rfl (by kernel_rfl) (Wn.yes 8 133 true rfl rfl rfl (congrArg Value.bool hb165)) rfl (R.fld (off := 0) fa37_0 rfl) ?_
                refine DE.t 19 (v := (Value.pointer (some ((a170.add (r120.toNat * 14)).add 1)))) rfl (by kernel_rfl) (Wn.yes 8 133 true rfl rfl rfl (congrArg Value.bool hb165)) rfl (R.fld (off := 1) fa34_1 rfl) ?_
                obtain ⟨t174, h175, h⟩ := h
                refine DE.hold 14 (fun w => w.cell? ((a166.add (r152.toNat * 14)).add 1) = some (Value.int .u32 t174)) (v := (Value.int .u32 t174)) rfl (by kernel_rfl) (Wn.yes 8 133 true rfl rfl rfl (congrArg Value.bool hb165)) rfl h175 (fun w hs => R.ld sc28 rfl hs) ?_
                obtain ⟨t176, h177, h⟩ := h
                refine DE.main 20 (by kernel_rfl) ?_
                refine One.r 20 (v := (Value.int .u32 t176)) rfl (Wn.yes 8 133 true rfl rfl rfl (congrArg Value.bool hb165)) rfl (R.ld sc28 rfl h177) (.inl rfl) ?_
                refine DE.t 21 (v := (Value.bool (t174 == t176))) rfl (by kernel_rfl) (Wn.yes 8 133 true rfl rfl rfl (congrArg Value.bool hb165)) rfl (R.eql rfl rfl) ?_
                refine DE.t 22 (v := (Value.bool (t174 == t176))) rfl (by kernel_rfl) (Wn.no rfl) rfl (R.pickT (congrArg Value.bool hb165) rfl) ?_
                refine DE.t 23 (v := (Value.bool (t174 == t176))) rfl (by kernel_rfl) (Wn.no rfl) rfl (R.move rfl) ?_
                rcases M.ite_use h with ⟨hb178, h⟩ | ⟨hb178, h⟩
                · refine DE.main 24 (by kernel_rfl) ?_
                  refine One.c 24 rfl (Wn.yes 23 148 true rfl rfl rfl (congrArg Value.bool hb178)) rfl (R.call bd11 Ls.nil rfl) (Calls.mono h ?_)
                  rintro _ w180 ⟨r179, rfl, h⟩
                  refine ⟨_, rfl, ⟨aftT (by kernel_rfl), trivial⟩, ?_⟩
                  refine DE.t 25 (v := (Value.bool r179)) rfl (by kernel_rfl) (Wn.no rfl) rfl (R.pickT (congrArg Value.bool hb178) rfl) ?_
                  refine DE.t 26 (v := (Value.bool r179)) rfl (by kernel_rfl) (Wn.no rfl) rfl (R.assign rfl) ?_
                  refine DE.done (by kernel_rfl) ?_
                  exact ⟨_, h, rfl⟩
                · refine DE.u 24 rfl (by kernel_rfl) (Un.no 23 148 true rfl rfl rfl (congrArg Value.bool hb178)) ?_
                  refine DE.t 25 (v := (Value.bool false)) rfl (by kernel_rfl) (Wn.no rfl) rfl (R.pickF (congrArg Value.bool hb178) rfl) ?_
                  refine DE.t 26 (v := (Value.bool false)) rfl (by kernel_rfl) (Wn.no rfl) rfl (R.assign rfl) ?_
                  refine DE.done (by kernel_rfl) ?_
                  exact ⟨_, h, rfl⟩
              · refine DE.u 9 rfl (by kernel_rfl) (Un.no 8 133 true rfl rfl rfl (congrArg Value.bool hb165)) ?_
                refine DE.u 10 rfl (by kernel_rfl) (Un.no 8 133 true rfl rfl rfl (congrArg Value.bool hb165)) ?_
                refine DE.u 11 rfl (by kernel_rfl) (Un.no 8 133 true rfl rfl rfl (congrArg Value.bool hb165)) ?_
                refine DE.u 12 rfl (by kernel_rfl) (Un.no 8 133 true rfl rfl rfl (congrArg Value.bool hb165)) ?_
                refine DE.u 13 rfl (by kernel_rfl) (Un.no 8 133 true rfl rfl rfl (congrArg Value.bool hb165)) ?_
                refine DE.u 14 rfl (by kernel_rfl) (Un.no 8 133 true rfl rfl rfl (congrArg Value.bool hb165)) ?_
                refine DE.u 15 rfl (by kernel_rfl) (Un.no 8 133 true rfl rfl rfl (congrArg Value.bool hb165)) ?_
                refine DE.u 16 rfl (by kernel_rfl) (Un.no 8 133 true rfl rfl rfl (congrArg Value.bool hb165)) ?_
                refine DE.u 17 rfl (by kernel_rfl) (Un.no 8 133 true rfl rfl rfl (congrArg Value.bool hb165)) ?_
                refine DE.u 18 rfl (by kernel_rfl) (Un.no 8 133 true rfl rfl rfl (congrArg Value.bool hb165)) ?_
                refine DE.u 19 rfl (by kernel_rfl) (Un.no 8 133 true rfl rfl rfl (congrArg Value.bool hb165)) ?_
                refine DE.u 20 rfl (by kernel_rfl) (Un.no 8 133 true rfl rfl rfl (congrArg Value.bool hb165)) ?_
                refine DE.u 21 rfl (by kernel_rfl) (Un.no 8 133 true rfl rfl rfl (congrArg Value.bool hb165)) ?_
                refine DE.t 22 (v := (Value.bool false)) rfl (by kernel_rfl) (Wn.no rfl) rfl (R.pickF (congrArg Value.bool hb165) rfl) ?_
                refine DE.t 23 (v := (Value.bool false)) rfl (by kernel_rfl) (Wn.no rfl) rfl (R.move rfl) ?_
                refine DE.u 24 rfl (by kernel_rfl) (Un.no 23 148 true rfl rfl rfl rfl) ?_
                refine DE.t 25 (v := (Value.bool false)) rfl (by kernel_rfl) (Wn.no rfl) rfl (R.pickF rfl rfl) ?_
                refine DE.t 26 (v := (Value.bool false)) rfl (by kernel_rfl) (Wn.no rfl) rfl (R.assign rfl) ?_
                refine DE.done (by kernel_rfl) ?_
                exact ⟨_, h, rfl⟩
            · refine DE.u 2 rfl (by kernel_rfl) (Un.no 1 126 true rfl rfl rfl (congrArg Value.bool hb158)) ?_
              refine DE.u 3 rfl (by kernel_rfl) (Un.no 1 126 true rfl rfl rfl (congrArg Value.bool hb158)) ?_
              refine DE.u 4 rfl (by kernel_rfl) (Un.no 1 126 true rfl rfl rfl (congrArg Value.bool hb158)) ?_
              refine DE.u 5 rfl (by kernel_rfl) (Un.no 1 126 true rfl rfl rfl (congrArg Value.bool hb158)) ?_
              refine DE.u 6 rfl (by kernel_rfl) (Un.no 1 126 true rfl rfl rfl (congrArg Value.bool hb158)) ?_
              refine DE.t 7 (v := (Value.bool false)) rfl (by kernel_rfl) (Wn.no rfl) rfl (R.pickF (congrArg Value.bool hb158) rfl) ?_
              refine DE.t 8 (v := (Value.bool false)) rfl (by kernel_rfl) (Wn.no rfl) rfl (R.move rfl) ?_
              refine DE.u 9 rfl (by kernel_rfl) (Un.no 8 133 true rfl rfl rfl rfl) ?_
              refine DE.u 10 rfl (by kernel_rfl) (Un.no 8 133 true rfl rfl rfl rfl) ?_
              refine DE.u 11 rfl (by kernel_rfl) (Un.no 8 133 true rfl rfl rfl rfl) ?_
              refine DE.u 12 rfl (by kernel_rfl) (Un.no 8 133 true rfl rfl rfl rfl) ?_
              refine DE.u 13 rfl (by kernel_rfl) (Un.no 8 133 true rfl rfl rfl rfl) ?_
              refine DE.u 14 rfl (by kernel_rfl) (Un.no 8 133 true rfl rfl rfl rfl) ?_
              refine DE.u 15 rfl (by kernel_rfl) (Un.no 8 133 true rfl rfl rfl rfl) ?_
              refine DE.u 16 rfl (by kernel_rfl) (Un.no 8 133 true rfl rfl rfl rfl) ?_
              refine DE.u 17 rfl (by kernel_rfl) (Un.no 8 133 true rfl rfl rfl rfl) ?_
              refine DE.u 18 rfl (by kernel_rfl) (Un.no 8 133 true rfl rfl rfl rfl) ?_
              refine DE.u 19 rfl (by kernel_rfl) (Un.no 8 133 true rfl rfl rfl rfl) ?_
              refine DE.u 20 rfl (by kernel_rfl) (Un.no 8 133 true rfl rfl rfl rfl) ?_
              refine DE.u 21 rfl (by kernel_rfl) (Un.no 8 133 true rfl rfl rfl rfl) ?_
              refine DE.t 22 (v := (Value.bool false)) rfl (by kernel_rfl) (Wn.no rfl) rfl (R.pickF rfl rfl) ?_
              refine DE.t 23 (v := (Value.bool false)) rfl (by kernel_rfl) (Wn.no rfl) rfl (R.move rfl) ?_
              refine DE.u 24 rfl (by kernel_rfl) (Un.no 23 148 true rfl rfl rfl rfl) ?_
              refine DE.t 25 (v := (Value.bool false)) rfl (by kernel_rfl) (Wn.no rfl) rfl (R.pickF rfl rfl) ?_
              refine DE.t 26 (v := (Value.bool false)) rfl (by kernel_rfl) (Wn.no rfl) rfl (R.assign rfl) ?_
              refine DE.done (by kernel_rfl) ?_
              exact ⟨_, h, rfl⟩
          · rintro e181 w182 ⟨x156, h, f183⟩
            subst hJ155
            refine WE.ret ?_
            exact ⟨_, (Res.tmp f183 Res.nil), _, rfl, h⟩
/-- The formula of signpost.signpostlaw17.DecideLosers. -/
def F5 (p0 : SV) (K : Bool → World → Prop) (w0 : World) : Prop :=
Calls Try.prog 10 #[(SV.v p0), (Value.bool true)] w0 (R10 fun r1 w2 =>
M.loop1 (fun (J4 : Int → World → Prop) (x3 : Int) (w5 : World) => 
M.ite (decide (x3 < (r1.len : Int))) (
M.idx r1 x3 14 fun a15 =>
M.st ((a15.add (x3.toNat * 14)).add 1) (Value.int .u32 (IntKind.u32.wrap (IntKind.i64.wrap ((10 : Int) + x3)))) w5 fun w19 =>
J4 (IntKind.i64.wrap (x3 + (1 : Int))) w19) (
Calls Try.prog 13 #[(SV.v r1)] w5 (R13 fun r22 r23 w24 =>
M.ite (!r23) (
Calls Try.prog 11 #[] w24 (R11 fun r26 w27 =>
K r26 w27)) (
M.loop1 (fun (J29 : Int → World → Prop) (x28 : Int) (w30 : World) => 
M.ite (decide (x28 < (r1.len : Int))) (
M.join (fun (w148 : World) => 
J29 (IntKind.i64.wrap (x28 + (1 : Int))) w148) fun J41 => 
M.join (fun (x43 : Bool) (w97 : World) => 
M.ite x43 (
J41 w97) (
M.drew w97 fun w103 => 
M.bnd (0 : Int) x28 r1 <|
M.bnd (IntKind.i64.wrap (x28 + (1 : Int))) (r1.len : Int) r1 <|
M.new (.cells #[] 37) w103 fun b114 w112 =>
M.app Try.prog 24 24 24 (SV.mk (some b114) 0 0) (SV.v (SV.sub r1 (Int.toNat (0 : Int)) (Int.toNat x28) 14)) w112 fun s115 w116 =>
M.app Try.prog 24 24 24 s115 (SV.v (SV.sub r1 (Int.toNat (IntKind.i64.wrap (x28 + (1 : Int)))) (Int.toNat (r1.len : Int)) 14)) w116 fun s118 w119 =>
Calls Try.prog 13 #[(SV.v s118)] w119 (R13 fun r121 r122 w123 =>
M.join (fun (x125 : Bool) (w141 : World) => 
M.ite x125 (
K false w141) (
J41 w141)) fun J124 => 
M.drew w123 fun w126 => 
M.ite (!r122) (
J124 true w126) (
M.idx s118 r121 14 fun a128 =>
M.idx r1 r22 14 fun a132 =>
M.ld (Value.int .u32) ((a128.add (r121.toNat * 14)).add 1) w126 fun t136 =>
M.ld (Value.int .u32) ((a132.add (r22.toNat * 14)).add 1) w126 fun t138 =>
J124 (t136 != t138) w126)))) fun J42 => 
M.drew w30 fun w44 => 
M.idx r1 x28 14 fun a45 =>
M.idx r1 r22 14 fun a49 =>
∃ (t53 : Int) (t54 : SV) (t55 : Int) (t56 : Bool) (t57 : Int) (t58 : Bool) (t59 : Int) (t60 : Bool) (t61 : SV), Cs w44 ((a45.add (x28.toNat * 14)).add 4) 0 [(Value.int .i64 t53), (SV.v t54), (Value.int .u32 t55), (Value.bool t56), (Value.int .u32 t57), (Value.bool t58), (Value.int .u32 t59), (Value.bool t60), (SV.v t61)] ∧
∃ (t63 : Int) (t64 : SV) (t65 : Int) (t66 : Bool) (t67 : Int) (t68 : Bool) (t69 : Int) (t70 : Bool) (t71 : SV), Cs w44 ((a49.add (r22.toNat * 14)).add 4) 0 [(Value.int .i64 t63), (SV.v t64), (Value.int .u32 t65), (Value.bool t66), (Value.int .u32 t67), (Value.bool t68), (Value.int .u32 t69), (Value.bool t70), (SV.v t71)] ∧
Calls Try.prog 15 #[(Value.agg #[(Value.int .i64 t53), (SV.v t54), (Value.int .u32 t55), (Value.bool t56), (Value.int .u32 t57), (Value.bool t58), (Value.int .u32 t59), (Value.bool t60), (SV.v t61)])] w44 (R15 fun r73 w74 =>
M.keep (Cs w74 ((a49.add (r22.toNat * 14)).add 4) 0 [(Value.int .i64 t63), (SV.v t64), (Value.int .u32 t65), (Value.bool t66), (Value.int .u32 t67), (Value.bool t68), (Value.int .u32 t69), (Value.bool t70), (SV.v t71)]) <|
Calls Try.prog 15 #[(Value.agg #[(Value.int .i64 t63), (SV.v t64), (Value.int .u32 t65), (Value.bool t66), (Value.int .u32 t67), (Value.bool t68), (Value.int .u32 t69), (Value.bool t70), (SV.v t71)])] w74 (R15 fun r76 w77 =>
M.ite (decide (r76 ≤ r73)) (
M.idx r1 x28 14 fun a79 =>
M.idx r1 r22 14 fun a83 =>
M.ld SV.v (((a79.add (x28.toNat * 14)).add 4).add 1) w77 fun t87 =>
M.ld SV.v (((a83.add (r22.toNat * 14)).add 4).add 1) w77 fun t89 =>
Calls Try.prog 16 #[(SV.v t87)] w77 (R16 fun r91 w92 =>
M.keep (w92.cell? (((a83.add (r22.toNat * 14)).add 4).add 1) = some (SV.v t89)) <|
Calls Try.prog 16 #[(SV.v t89)] w92 (R16 fun r94 w95 =>
J42 (decide (r91 ≤ r94)) w95))) (
J42 false w77)))) (
Calls Try.prog 11 #[] w30 (R11 fun r152 w153 =>
K r152 w153))) (0 : Int) w24)))) (0 : Int) w2)
theorem F5_ok {w0 : World} {p0 : SV} {K : Bool → World → Prop} (h : F5 p0 K w0) : Calls Try.prog 5 #[(SV.v p0)] w0 (R5 K) := by
  refine calls_of_WE (args := [(SV.v p0)]) (rs := [.tmp 2]) Try.func5 rfl (N := 108) rfl rfl rfl rfl ?_
  refine WE.seq ?_
  refine WE.reg ?_
  refine LE.p (v := (Value.bool false)) (Wn.no rfl) rfl (R.assign rfl) ?_
  refine LE.nil ?_
  refine WE.seq ?_
  refine WE.reg ?_
  refine LE.p (v := (SV.v p0)) (Wn.no rfl) rfl (R.move rfl) ?_
  refine LE.c (Wn.no rfl) rfl (R.call bd10 (Ls.cons rfl (Ls.cons rfl Ls.nil)) rfl) (Calls.mono h ?_)
  rintro _ w2 ⟨r1, rfl, h⟩
  refine ⟨_, rfl, ?_⟩
  refine LE.p (v := (SV.v r1)) (Wn.no rfl) rfl (R.assign rfl) ?_
  refine LE.nil ?_
  refine WE.seq ?_
  refine WE.seq ?_
  refine WE.reg ?_
  refine LE.p (v := (Value.int .i64 (0 : Int))) (Wn.no rfl) rfl (R.assign rfl) ?_
  refine LE.nil ?_
  refine WE.block ?_
  obtain ⟨I8, ⟨n7, h⟩, hr9⟩ := h
  refine WE.loop (fun n e w => ∃ (x3 : Int), I8 n x3 w ∧ e 3 = (SV.v r1) ∧ e 4 = (Value.int .i64 x3)) n7 ⟨_, h, rfl, rfl⟩ ?_
  clear h
  rintro n7 e6 w5 ⟨x3, h, f12, f13⟩
  replace h := hr9 n7 x3 w5 h
  refine WE.seq ?_
  refine WE.seq ?_
  refine WE.reg ?_
  refine LE.p (v := (Value.int .i64 x3)) (Wn.no rfl) rfl (R.move f13) ?_
  refine LE.p (v := (SV.v r1)) (Wn.no rfl) rfl (R.move f12) ?_
  refine LE.p (v := (Value.int .i64 (r1.len : Int))) (Wn.no rfl) rfl (R.len sl24 rfl) ?_
  refine LE.p (v := (Value.bool (decide (x3 < (r1.len : Int))))) (Wn.no rfl) rfl (R.lss rfl rfl) ?_
  refine LE.nil ?_
  refine WE.condT rfl (b := (decide (x3 < (r1.len : Int)))) rfl ?_ ?_
  · intro hb14
    replace h := M.ite_t h hb14
    refine WE.skip ?_
    refine WE.seq ?_
    refine WE.block ?_
    refine WE.reg ?_
    refine LE.p (v := (SV.v r1)) (Wn.no rfl) rfl (R.move f12) ?_
    refine LE.p (v := (Value.int .i64 x3)) (Wn.no rfl) rfl (R.move f13) ?_
    refine LE.p (v := (Value.int .i64 x3)) (Wn.no rfl) rfl (R.move f13) ?_
    refine LE.p (v := (Value.int .i64 (IntKind.i64.wrap ((10 : Int) + x3)))) (Wn.no rfl) rfl (R.add rfl rfl) ?_
    refine LE.p (v := (Value.int .u32 (IntKind.u32.wrap (IntKind.i64.wrap ((10 : Int) + x3))))) (Wn.no rfl) rfl (R.conv in28 in3 rfl) ?_
    obtain ⟨a15, h16, h17, h18, h⟩ := h
    refine LE.p (v := (Value.pointer (some (a15.add (x3.toNat * 14))))) (Wn.no rfl) rfl (R.idx (s := r1) sl24 rfl rfl h16 h17 h18) ?_
    refine LE.p (v := (Value.pointer (some (a15.add (x3.toNat * 14))))) (Wn.no rfl) rfl (R.fld (off := 0) fa37_0 rfl) ?_
    refine LE.p (v := (Value.pointer (some ((a15.add (x3.toNat * 14)).add 1)))) (Wn.no rfl) rfl (R.fld (off := 1) fa34_1 rfl) ?_
    obtain ⟨w19, hww19, h20, h21, h⟩ := M.st_use h
    refine LE.s (Wn.no rfl) rfl (R.st (a := ((a15.add (x3.toNat * 14)).add 1)) (v := (Value.int .u32 (IntKind.u32.wrap (IntKind.i64.wrap ((10 : Int) + x3))))) sz28 rfl rfl rfl rfl h20 h21 hww19) ?_
    refine LE.nil ?_
    refine WE.reg ?_
    refine LE.p (v := (Value.int .i64 x3)) (Wn.no rfl) rfl (R.move f13) ?_
    refine LE.p (v := (Value.int .i64 (IntKind.i64.wrap (x3 + (1 : Int))))) (Wn.no rfl) rfl (R.add rfl rfl) ?_
    refine LE.p (v := (Value.int .i64 (IntKind.i64.wrap (x3 + (1 : Int))))) (Wn.no rfl) rfl (R.assign rfl) ?_
    refine LE.nil ?_
    obtain ⟨m10, hm11, h⟩ := h
    exact ⟨m10, hm11, _, h, f12, rfl⟩
  · intro hb14
    replace h := M.ite_f h hb14
    refine WE.exit ?_
    refine WE.seq ?_
    refine WE.reg ?_
    refine LE.p (v := (SV.v r1)) (Wn.no rfl) rfl (R.move f12) ?_
    refine LE.c (Wn.no rfl) rfl (R.call bd13 (Ls.cons rfl Ls.nil) rfl) (Calls.mono h ?_)
    rintro _ w24 ⟨r22, r23, rfl, h⟩
    refine ⟨_, rfl, ?_⟩
    refine LE.p (v := (Value.tuple #[(Value.int .i64 r22), (Value.bool r23)])) (Wn.no rfl) rfl (R.move rfl) ?_
    refine LE.p (v := (Value.int .i64 r22)) (Wn.no rfl) rfl (R.ext rfl rfl) ?_
    refine LE.p (v := (Value.bool r23)) (Wn.no rfl) rfl (R.ext rfl rfl) ?_
    refine LE.p (v := (Value.int .i64 r22)) (Wn.no rfl) rfl (R.assign rfl) ?_
    refine LE.p (v := (Value.bool r23)) (Wn.no rfl) rfl (R.assign rfl) ?_
    refine LE.nil ?_
    refine WE.seq ?_
    refine WE.seq ?_
    refine WE.reg ?_
    refine LE.p (v := (Value.bool r23)) (Wn.no rfl) rfl (R.move rfl) ?_
    refine LE.p (v := (Value.bool (!r23))) (Wn.no rfl) rfl (R.not rfl) ?_
    refine LE.nil ?_
    refine WE.condT rfl (b := (!r23)) rfl ?_ ?_
    · intro hb25
      replace h := M.ite_t h hb25
      refine WE.seq ?_
      refine WE.reg ?_
      refine LE.c (Wn.no rfl) rfl (R.call bd11 Ls.nil rfl) (Calls.mono h ?_)
      rintro _ w27 ⟨r26, rfl, h⟩
      refine ⟨_, rfl, ?_⟩
      refine LE.p (v := (Value.bool r26)) (Wn.no rfl) rfl (R.assign rfl) ?_
      refine LE.nil ?_
      refine WE.ret ?_
      exact ⟨_, (Res.tmp rfl Res.nil), _, rfl, h⟩
    · intro hb25
      replace h := M.ite_f h hb25
      refine WE.skip ?_
      refine WE.seq ?_
      refine WE.seq ?_
      refine WE.reg ?_
      refine LE.p (v := (Value.int .i64 (0 : Int))) (Wn.no rfl) rfl (R.assign rfl) ?_
      refine LE.nil ?_
      refine WE.block ?_
      obtain ⟨I33, ⟨n32, h⟩, hr34⟩ := h
      refine WE.loop (fun n e w => ∃ (x28 : Int), I33 n x28 w ∧ e 3 = (SV.v r1) ∧ e 5 = (Value.int .i64 r22) ∧ e 7 = (Value.int .i64 x28)) n32 ⟨_, h, f12, rfl, rfl⟩ ?_
      clear h
      rintro n32 e31 w30 ⟨x28, h, f37, f38, f39⟩
      replace h := hr34 n32 x28 w30 h
      refine WE.seq ?_
      refine WE.seq ?_
      refine WE.reg ?_
      refine LE.p (v := (Value.int .i64 x28)) (Wn.no rfl) rfl (R.move f39) ?_
      refine LE.p (v := (SV.v r1)) (Wn.no rfl) rfl (R.move f37) ?_
      refine LE.p (v := (Value.int .i64 (r1.len : Int))) (Wn.no rfl) rfl (R.len sl24 rfl) ?_
      refine LE.p (v := (Value.bool (decide (x28 < (r1.len : Int))))) (Wn.no rfl) rfl (R.lss rfl rfl) ?_
      refine LE.nil ?_
      refine WE.condT rfl (b := (decide (x28 < (r1.len : Int)))) rfl ?_ ?_
      · intro hb40
        replace h := M.ite_t h hb40
        refine WE.skip ?_
        refine WE.seq ?_
        obtain ⟨J41, hJ41, h⟩ := M.join_use h
        refine WE.blkJ (fun e w => J41 w ∧ e 3 = (SV.v r1) ∧ e 5 = (Value.int .i64 r22) ∧ e 7 = (Value.int .i64 x28)) ?_ ?_
        · clear hJ41
          refine WE.seq ?_
          refine WE.seq ?_
          obtain ⟨J42, hJ42, h⟩ := M.join_use h
          refine WE.drawJ (fun e w => ∃ (x43 : Bool), J42 x43 w ∧ e 3 = (SV.v r1) ∧ e 5 = (Value.int .i64 r22) ∧ e 7 = (Value.int .i64 x28) ∧ e 74 = (Value.bool x43)) mix ?_ ?_
          · clear hJ42
            obtain ⟨w44, hww44, h⟩ := M.drew_use h
            rw [← hww44]
            clear hww44
            refine DE.t 0 (v := (SV.v r1)) rfl (by kernel_rfl) (Wn.no rfl) rfl (R.move f37) ?_
            refine DE.t 1 (v := (Value.int .i64 x28)) rfl (by kernel_rfl) (Wn.no rfl) rfl (R.move f39) ?_
            obtain ⟨a45, h46, h47, h48, h⟩ := h
            refine DE.t 2 (v := (Value.pointer (some (a45.add (x28.toNat * 14))))) rfl (by kernel_rfl) (Wn.no rfl) rfl (R.idx (s := r1) sl24 rfl rfl h46 h47 h48) ?_
            refine DE.t 3 (v := (Value.pointer (some (a45.add (x28.toNat * 14))))) rfl (by kernel_rfl) (Wn.no rfl) rfl (R.fld (off := 0) fa37_0 rfl) ?_
            refine DE.t 4 (v := (Value.pointer (some ((a45.add (x28.toNat * 14)).add 4)))) rfl (by kernel_rfl) (Wn.no rfl) rfl (R.fld (off := 4) fa34_4 rfl) ?_
            refine DE.t 7 (v := (SV.v r1)) rfl (by kernel_rfl) (Wn.no rfl) rfl (R.move f37) ?_
            refine DE.t 8 (v := (Value.int .i64 r22)) rfl (by kernel_rfl) (Wn.no rfl) rfl (R.move f38) ?_
            obtain ⟨a49, h50, h51, h52, h⟩ := h
            refine DE.t 9 (v := (Value.pointer (some (a49.add (r22.toNat * 14))))) rfl (by kernel_rfl) (Wn.no rfl) rfl (R.idx (s := r1) sl24 rfl rfl h50 h51 h52) ?_
            refine DE.t 10 (v := (Value.pointer (some (a49.add (r22.toNat * 14))))) rfl (by kernel_rfl) (Wn.no rfl) rfl (R.fld (off := 0) fa37_0 rfl) ?_
            refine DE.t 11 (v := (Value.pointer (some ((a49.add (r22.toNat * 14)).add 4)))) rfl (by kernel_rfl) (Wn.no rfl) rfl (R.fld (off := 4) fa34_4 rfl) ?_
            obtain ⟨t53, t54, t55, t56, t57, t58, t59, t60, t61, h62, h⟩ := h
            refine DE.hold 5 (fun w => Cs w ((a45.add (x28.toNat * 14)).add 4) 0 [(Value.int .i64 t53), (SV.v t54), (Value.int .u32 t55), (Value.bool t56), (Value.int .u32 t57), (Value.bool t58), (Value.int .u32 t59), (Value.bool t60), (SV.v t61)]) (v := (Value.agg #[(Value.int .i64 t53), (SV.v t54), (Value.int .u32 t55), (Value.bool t56), (Value.int .u32 t57), (Value.bool t58), (Value.int .u32 t59), (Value.bool t60), (SV.v t61)])) rfl (by kernel_rfl) (Wn.no rfl) rfl h62 (fun w hs => R.ldA ag32 sz32 rfl rfl hs) ?_
            obtain ⟨t63, t64, t65, t66, t67, t68, t69, t70, t71, h72, h⟩ := h
            refine DE.hold 12 (fun w => Cs w ((a49.add (r22.toNat * 14)).add 4) 0 [(Value.int .i64 t63), (SV.v t64), (Value.int .u32 t65), (Value.bool t66), (Value.int .u32 t67), (Value.bool t68), (Value.int .u32 t69), (Value.bool t70), (SV.v t71)]) (v := (Value.agg #[(Value.int .i64 t63), (SV.v t64), (Value.int .u32 t65), (Value.bool t66), (Value.int .u32 t67), (Value.bool t68), (Value.int .u32 t69), (Value.bool t70), (SV.v t71)])) rfl (by kernel_rfl) (Wn.no rfl) rfl h72 (fun w hs => R.ldA ag32 sz32 rfl rfl hs) ?_
            refine DE.main 6 (by kernel_rfl) ?_
            refine One.c 6 rfl (Wn.no rfl) rfl (R.call bd15 (Ls.cons rfl Ls.nil) rfl) (Calls.mono h ?_)
            rintro _ w74 ⟨r73, rfl, h⟩
            obtain ⟨k75, h⟩ := h
            refine ⟨_, rfl, ⟨fun _ => k75, aftT (by kernel_rfl), trivial⟩, ?_⟩
            refine DE.main 13 (by kernel_rfl) ?_
            refine One.c 13 rfl (Wn.no rfl) rfl (R.call bd15 (Ls.cons rfl Ls.nil) rfl) (Calls.mono h ?_)
            rintro _ w77 ⟨r76, rfl, h⟩
            refine ⟨_, rfl, ⟨aftT (by kernel_rfl), aftT (by kernel_rfl), trivial⟩, ?_⟩
            refine DE.t 14 (v := (Value.bool (decide (r76 ≤ r73)))) rfl (by kernel_rfl) (Wn.no rfl) rfl (R.geq rfl rfl) ?_
            refine DE.t 15 (v := (Value.bool (decide (r76 ≤ r73)))) rfl (by kernel_rfl) (Wn.no rfl) rfl (R.move rfl) ?_
            rcases M.ite_use h with ⟨hb78, h⟩ | ⟨hb78, h⟩
            · refine DE.t 16 (v := (SV.v r1)) rfl (by kernel_rfl) (Wn.yes 15 56 true rfl rfl rfl (congrArg Value.bool hb78)) rfl (R.move f37) ?_
              refine DE.t 17 (v := (Value.int .i64 x28)) rfl (by kernel_rfl) (Wn.yes 15 56 true rfl rfl rfl (congrArg Value.bool hb78)) rfl (R.move f39) ?_
              obtain ⟨a79, h80, h81, h82, h⟩ := h
              refine DE.t 18 (v := (Value.pointer (some (a79.add (x28.toNat * 14))))) rfl (by kernel_rfl) (Wn.yes 15 56 true rfl rfl rfl (congrArg Value.bool hb78)) rfl (R.idx (s := r1) sl24 rfl rfl h80 h81 h82) ?_
              refine DE.t 19 (v := (Value.pointer (some (a79.add (x28.toNat * 14))))) rfl (by kernel_rfl) (Wn.yes 15 56 true rfl rfl rfl (congrArg Value.bool hb78)) rfl (R.fld (off := 0) fa37_0 rfl) ?_
              refine DE.t 20 (v := (Value.pointer (some ((a79.add (x28.toNat * 14)).add 4)))) rfl (by kernel_rfl) (Wn.yes 15 56 true rfl rfl rfl (congrArg Value.bool hb78)) rfl (R.fld (off := 4) fa34_4 rfl) ?_
              refine DE.t 21 (v := (Value.pointer (some (((a79.add (x28.toNat * 14)).add 4).add 1)))) rfl (by kernel_rfl) (Wn.yes 15 56 true rfl rfl rfl (congrArg Value.bool hb78)) rfl (R.fld (off := 1) fa32_1 rfl) ?_
              refine DE.t 24 (v := (SV.v r1)) rfl (by kernel_rfl) (Wn.yes 15 56 true rfl rfl rfl (congrArg Value.bool hb78)) rfl (R.move f37) ?_
              refine DE.t 25 (v := (Value.int .i64 r22)) rfl (by kernel_rfl) (Wn.yes 15 56 true rfl rfl rfl (congrArg Value.bool hb78)) rfl (R.move f38) ?_
              obtain ⟨a83, h84, h85, h86, h⟩ := h
              refine DE.t 26 (v := (Value.pointer (some (a83.add (r22.toNat * 14))))) rfl (by kernel_rfl) (Wn.yes 15 56 true rfl rfl rfl (congrArg Value.bool hb78)) rfl (R.idx (s := r1) sl24 rfl rfl h84 h85 h86) ?_
              refine DE.t 27 (v := (Value.pointer (some (a83.add (r22.toNat * 14))))) rfl (by kernel_rfl) (Wn.yes 15 56 true rfl rfl rfl (congrArg Value.bool hb78)) rfl (R.fld (off := 0) fa37_0 rfl) ?_
              refine DE.t 28 (v := (Value.pointer (some ((a83.add (r22.toNat * 14)).add 4)))) rfl (by kernel_rfl) (Wn.yes 15 56 true rfl rfl rfl (congrArg Value.bool hb78)) rfl (R.fld (off := 4) fa34_4 rfl) ?_
              refine DE.t 29 (v := (Value.pointer (some (((a83.add (r22.toNat * 14)).add 4).add 1)))) rfl (by kernel_rfl) (Wn.yes 15 56 true rfl rfl rfl (congrArg Value.bool hb78)) rfl (R.fld (off := 1) fa32_1 rfl) ?_
              obtain ⟨t87, h88, h⟩ := h
              refine DE.hold 22 (fun w => w.cell? (((a79.add (x28.toNat * 14)).add 4).add 1) = some (SV.v t87)) (v := (SV.v t87)) rfl (by kernel_rfl) (Wn.yes 15 56 true rfl rfl rfl (congrArg Value.bool hb78)) rfl h88 (fun w hs => R.ld sc29 rfl hs) ?_
              obtain ⟨t89, h90, h⟩ := h
              refine DE.hold 30 (fun w => w.cell? (((a83.add (r22.toNat * 14)).add 4).add 1) = some (SV.v t89)) (v := (SV.v t89)) rfl (by kernel_rfl) (Wn.yes 15 56 true rfl rfl rfl (congrArg Value.bool hb78)) rfl h90 (fun w hs => R.ld sc29 rfl hs) ?_
              refine DE.main 23 (by kernel_rfl) ?_
              refine One.c 23 rfl (Wn.yes 15 56 true rfl rfl rfl (congrArg Value.bool hb78)) rfl (R.call bd16 (Ls.cons rfl Ls.nil) rfl) (Calls.mono h ?_)
              rintro _ w92 ⟨r91, rfl, h⟩
              obtain ⟨k93, h⟩ := h
              refine ⟨_, rfl, ⟨fun _ => k93, aftT (by kernel_rfl), aftT (by kernel_rfl), aftT (by kernel_rfl), trivial⟩, ?_⟩
              refine DE.main 31 (by kernel_rfl) ?_
              refine One.c 31 rfl (Wn.yes 15 56 true rfl rfl rfl (congrArg Value.bool hb78)) rfl (R.call bd16 (Ls.cons rfl Ls.nil) rfl) (Calls.mono h ?_)
              rintro _ w95 ⟨r94, rfl, h⟩
              refine ⟨_, rfl, ⟨aftT (by kernel_rfl), aftT (by kernel_rfl), aftT (by kernel_rfl), aftT (by kernel_rfl), trivial⟩, ?_⟩
              refine DE.t 32 (v := (Value.bool (decide (r91 ≤ r94)))) rfl (by kernel_rfl) (Wn.yes 15 56 true rfl rfl rfl (congrArg Value.bool hb78)) rfl (R.leq rfl rfl) ?_
              refine DE.t 33 (v := (Value.bool (decide (r91 ≤ r94)))) rfl (by kernel_rfl) (Wn.no rfl) rfl (R.pickT (congrArg Value.bool hb78) rfl) ?_
              refine DE.done (by kernel_rfl) ?_
              exact ⟨_, h, f37, f38, f39, rfl⟩
            · refine DE.u 16 rfl (by kernel_rfl) (Un.no 15 56 true rfl rfl rfl (congrArg Value.bool hb78)) ?_
              refine DE.u 17 rfl (by kernel_rfl) (Un.no 15 56 true rfl rfl rfl (congrArg Value.bool hb78)) ?_
              refine DE.u 18 rfl (by kernel_rfl) (Un.no 15 56 true rfl rfl rfl (congrArg Value.bool hb78)) ?_
              refine DE.u 19 rfl (by kernel_rfl) (Un.no 15 56 true rfl rfl rfl (congrArg Value.bool hb78)) ?_
              refine DE.u 20 rfl (by kernel_rfl) (Un.no 15 56 true rfl rfl rfl (congrArg Value.bool hb78)) ?_
              refine DE.u 21 rfl (by kernel_rfl) (Un.no 15 56 true rfl rfl rfl (congrArg Value.bool hb78)) ?_
              refine DE.u 22 rfl (by kernel_rfl) (Un.no 15 56 true rfl rfl rfl (congrArg Value.bool hb78)) ?_
              refine DE.u 23 rfl (by kernel_rfl) (Un.no 15 56 true rfl rfl rfl (congrArg Value.bool hb78)) ?_
              refine DE.u 24 rfl (by kernel_rfl) (Un.no 15 56 true rfl rfl rfl (congrArg Value.bool hb78)) ?_
              refine DE.u 25 rfl (by kernel_rfl) (Un.no 15 56 true rfl rfl rfl (congrArg Value.bool hb78)) ?_
              refine DE.u 26 rfl (by kernel_rfl) (Un.no 15 56 true rfl rfl rfl (congrArg Value.bool hb78)) ?_
              refine DE.u 27 rfl (by kernel_rfl) (Un.no 15 56 true rfl rfl rfl (congrArg Value.bool hb78)) ?_
              refine DE.u 28 rfl (by kernel_rfl) (Un.no 15 56 true rfl rfl rfl (congrArg Value.bool hb78)) ?_
              refine DE.u 29 rfl (by kernel_rfl) (Un.no 15 56 true rfl rfl rfl (congrArg Value.bool hb78)) ?_
              refine DE.u 30 rfl (by kernel_rfl) (Un.no 15 56 true rfl rfl rfl (congrArg Value.bool hb78)) ?_
              refine DE.u 31 rfl (by kernel_rfl) (Un.no 15 56 true rfl rfl rfl (congrArg Value.bool hb78)) ?_
              refine DE.u 32 rfl (by kernel_rfl) (Un.no 15 56 true rfl rfl rfl (congrArg Value.bool hb78)) ?_
              refine DE.t 33 (v := (Value.bool false)) rfl (by kernel_rfl) (Wn.no rfl) rfl (R.pickF (congrArg Value.bool hb78) rfl) ?_
              refine DE.done (by kernel_rfl) ?_
              exact ⟨_, h, f37, f38, f39, rfl⟩
          · rintro e96 w97 ⟨x43, h, f98, f99, f100, f101⟩
            subst hJ42
            refine WE.condT rfl (b := x43) f101 ?_ ?_
            · intro hb102
              replace h := M.ite_t h hb102
              refine WE.exit ?_
              exact ⟨h, f98, f99, f100⟩
            · intro hb102
              replace h := M.ite_f h hb102
              refine WE.skip ?_
              refine WE.seq ?_
              refine WE.draw mix ?_
              obtain ⟨w103, hww103, h⟩ := M.drew_use h
              rw [← hww103]
              clear hww103
              refine DE.t 1 (v := (SV.v r1)) rfl (by kernel_rfl) (Wn.no rfl) rfl (R.move f98) ?_
              refine DE.t 2 (v := (Value.int .i64 x28)) rfl (by kernel_rfl) (Wn.no rfl) rfl (R.move f100) ?_
              obtain ⟨h104, h105, h106, h⟩ := h
              refine DE.t 3 (v := (SV.v (SV.sub r1 (Int.toNat (0 : Int)) (Int.toNat x28) 14))) rfl (by kernel_rfl) (Wn.no rfl) rfl (R.slc (s := r1) (lo := (0 : Int)) (hi := x28) _ _ sl24 rfl rfl rfl h104 h105 h106) ?_
              refine DE.t 5 (v := (SV.v r1)) rfl (by kernel_rfl) (Wn.no rfl) rfl (R.move f98) ?_
              refine DE.t 6 (v := (Value.int .i64 x28)) rfl (by kernel_rfl) (Wn.no rfl) rfl (R.move f100) ?_
              refine DE.t 7 (v := (Value.int .i64 (IntKind.i64.wrap (x28 + (1 : Int))))) rfl (by kernel_rfl) (Wn.no rfl) rfl (R.add rfl rfl) ?_
              obtain ⟨h108, h109, h110, h⟩ := h
              refine DE.t 8 (v := (SV.v (SV.sub r1 (Int.toNat (IntKind.i64.wrap (x28 + (1 : Int)))) (Int.toNat (r1.len : Int)) 14))) rfl (by kernel_rfl) (Wn.no rfl) rfl (R.slc (s := r1) (lo := (IntKind.i64.wrap (x28 + (1 : Int)))) (hi := (r1.len : Int)) _ _ sl24 rfl rfl rfl h108 h109 h110) ?_
              obtain ⟨b114, hpb114, w112, hww112, h⟩ := M.new_use h
              refine DE.main 0 (by kernel_rfl) ?_
              refine One.r 0 (v := (SV.v (SV.mk (some b114) 0 0))) rfl (Wn.no rfl) rfl (R.bsl (by exact Ls.nil) (fun w => bs24_0  w) hpb114 hww112) (.inr trivial) ?_
              obtain ⟨s115, w116, h117, h⟩ := h
              refine DE.main 4 (by kernel_rfl) ?_
              refine One.r 4 (v := (SV.v s115)) rfl (Wn.no rfl) rfl (R.app (s := (SV.mk (some b114) 0 0)) (r := s115) rfl rfl h117) (.inr trivial) ?_
              obtain ⟨s118, w119, h120, h⟩ := h
              refine DE.main 9 (by kernel_rfl) ?_
              refine One.r 9 (v := (SV.v s118)) rfl (Wn.no rfl) rfl (R.app (s := s115) (r := s118) rfl rfl h120) (.inr trivial) ?_
              refine DE.t 10 (v := (SV.v s118)) rfl (by kernel_rfl) (Wn.no rfl) rfl (R.assign rfl) ?_
              refine DE.done (by kernel_rfl) ?_
              refine WE.seq ?_
              refine WE.reg ?_
              refine LE.p (v := (SV.v s118)) (Wn.no rfl) rfl (R.move rfl) ?_
              refine LE.c (Wn.no rfl) rfl (R.call bd13 (Ls.cons rfl Ls.nil) rfl) (Calls.mono h ?_)
              rintro _ w123 ⟨r121, r122, rfl, h⟩
              refine ⟨_, rfl, ?_⟩
              refine LE.p (v := (Value.tuple #[(Value.int .i64 r121), (Value.bool r122)])) (Wn.no rfl) rfl (R.move rfl) ?_
              refine LE.p (v := (Value.int .i64 r121)) (Wn.no rfl) rfl (R.ext rfl rfl) ?_
              refine LE.p (v := (Value.bool r122)) (Wn.no rfl) rfl (R.ext rfl rfl) ?_
              refine LE.p (v := (Value.int .i64 r121)) (Wn.no rfl) rfl (R.assign rfl) ?_
              refine LE.p (v := (Value.bool r122)) (Wn.no rfl) rfl (R.assign rfl) ?_
              refine LE.nil ?_
              refine WE.seq ?_
              obtain ⟨J124, hJ124, h⟩ := M.join_use h
              refine WE.drawJ (fun e w => ∃ (x125 : Bool), J124 x125 w ∧ e 3 = (SV.v r1) ∧ e 5 = (Value.int .i64 r22) ∧ e 7 = (Value.int .i64 x28) ∧ e 106 = (Value.bool x125)) mix ?_ ?_
              · clear hJ124
                obtain ⟨w126, hww126, h⟩ := M.drew_use h
                rw [← hww126]
                clear hww126
                refine DE.t 0 (v := (Value.bool r122)) rfl (by kernel_rfl) (Wn.no rfl) rfl (R.move rfl) ?_
                refine DE.t 1 (v := (Value.bool (!r122))) rfl (by kernel_rfl) (Wn.no rfl) rfl (R.not rfl) ?_
                refine DE.t 2 (v := (Value.bool (!r122))) rfl (by kernel_rfl) (Wn.no rfl) rfl (R.move rfl) ?_
                rcases M.ite_use h with ⟨hb127, h⟩ | ⟨hb127, h⟩
                · refine DE.u 3 rfl (by kernel_rfl) (Un.no 2 92 false rfl rfl rfl (congrArg Value.bool hb127)) ?_
                  refine DE.u 4 rfl (by kernel_rfl) (Un.no 2 92 false rfl rfl rfl (congrArg Value.bool hb127)) ?_
                  refine DE.u 5 rfl (by kernel_rfl) (Un.no 2 92 false rfl rfl rfl (congrArg Value.bool hb127)) ?_
                  refine DE.u 6 rfl (by kernel_rfl) (Un.no 2 92 false rfl rfl rfl (congrArg Value.bool hb127)) ?_
                  refine DE.u 7 rfl (by kernel_rfl) (Un.no 2 92 false rfl rfl rfl (congrArg Value.bool hb127)) ?_
                  refine DE.u 8 rfl (by kernel_rfl) (Un.no 2 92 false rfl rfl rfl (congrArg Value.bool hb127)) ?_
                  refine DE.u 9 rfl (by kernel_rfl) (Un.no 2 92 false rfl rfl rfl (congrArg Value.bool hb127)) ?_
                  refine DE.u 10 rfl (by kernel_rfl) (Un.no 2 92 false rfl rfl rfl (congrArg Value.bool hb127)) ?_
                  refine DE.u 11 rfl (by kernel_rfl) (Un.no 2 92 false rfl rfl rfl (congrArg Value.bool hb127)) ?_
                  refine DE.u 12 rfl (by kernel_rfl) (Un.no 2 92 false rfl rfl rfl (congrArg Value.bool hb127)) ?_
                  refine DE.u 13 rfl (by kernel_rfl) (Un.no 2 92 false rfl rfl rfl (congrArg Value.bool hb127)) ?_
                  refine DE.u 14 rfl (by kernel_rfl) (Un.no 2 92 false rfl rfl rfl (congrArg Value.bool hb127)) ?_
                  refine DE.u 15 rfl (by kernel_rfl) (Un.no 2 92 false rfl rfl rfl (congrArg Value.bool hb127)) ?_
                  refine DE.t 16 (v := (Value.bool true)) rfl (by kernel_rfl) (Wn.no rfl) rfl (R.pickT (congrArg Value.bool hb127) rfl) ?_
                  refine DE.done (by kernel_rfl) ?_
                  exact ⟨_, h, f98, f99, f100, rfl⟩
                · refine DE.t 3 (v := (SV.v s118)) rfl (by kernel_rfl) (Wn.yes 2 92 false rfl rfl rfl (congrArg Value.bool hb127)) rfl (R.move rfl) ?_
                  refine DE.t 4 (v := (Value.int .i64 r121)) rfl (by kernel_rfl) (Wn.yes 2 92 false rfl rfl rfl (congrArg Value.bool hb127)) rfl (R.move rfl) ?_
                  obtain ⟨a128, h129, h130, h131, h⟩ := h
                  refine DE.t 5 (v := (Value.pointer (some (a128.add (r121.toNat * 14))))) rfl (by kernel_rfl) (Wn.yes 2 92 false rfl rfl rfl (congrArg Value.bool hb127)) rfl (R.idx (s := s118) sl24 rfl rfl h129 h130 h131) ?_
                  refine DE.t 6 (v := (Value.pointer (some (a128.add (r121.toNat * 14))))) rfl (by kernel_rfl) (Wn.yes 2 92 false rfl rfl rfl (congrArg Value.bool hb127)) rfl (R.fld (off := 0) fa37_0 rfl) ?_
                  refine DE.t 7 (v := (Value.pointer (some ((a128.add (r121.toNat * 14)).add 1)))) rfl (by kernel_rfl) (Wn.yes 2 92 false rfl rfl rfl (congrArg Value.bool hb127)) rfl (R.fld (off := 1) fa34_1 rfl) ?_
                  refine DE.t 9 (v := (SV.v r1)) rfl (by kernel_rfl) (Wn.yes 2 92 false rfl rfl rfl (congrArg Value.bool hb127)) rfl (R.move f98) ?_
                  refine DE.t 10 (v := (Value.int .i64 r22)) rfl (by kernel_rfl) (Wn.yes 2 92 false rfl rfl rfl (congrArg Value.bool hb127)) rfl (R.move f99) ?_
                  obtain ⟨a132, h133, h134, h135, h⟩ := h
                  refine DE.t 11 (v := (Value.pointer (some (a132.add (r22.toNat * 14))))) rfl (by kernel_rfl) (Wn.yes 2 92 false rfl rfl rfl (congrArg Value.bool hb127)) rfl (R.idx (s := r1) sl24 rfl rfl h133 h134 h135) ?_
                  refine DE.t 12 (v := (Value.pointer (some (a132.add (r22.toNat * 14))))) rfl (by kernel_rfl) (Wn.yes 2 92 false rfl rfl rfl (congrArg Value.bool hb127)) rfl (R.fld (off := 0) fa37_0 rfl) ?_
                  refine DE.t 13 (v := (Value.pointer (some ((a132.add (r22.toNat * 14)).add 1)))) rfl (by kernel_rfl) (Wn.yes 2 92 false rfl rfl rfl (congrArg Value.bool hb127)) rfl (R.fld (off := 1) fa34_1 rfl) ?_
                  obtain ⟨t136, h137, h⟩ := h
                  refine DE.hold 8 (fun w => w.cell? ((a128.add (r121.toNat * 14)).add 1) = some (Value.int .u32 t136)) (v := (Value.int .u32 t136)) rfl (by kernel_rfl) (Wn.yes 2 92 false rfl rfl rfl (congrArg Value.bool hb127)) rfl h137 (fun w hs => R.ld sc28 rfl hs) ?_
                  obtain ⟨t138, h139, h⟩ := h
                  refine DE.main 14 (by kernel_rfl) ?_
                  refine One.r 14 (v := (Value.int .u32 t138)) rfl (Wn.yes 2 92 false rfl rfl rfl (congrArg Value.bool hb127)) rfl (R.ld sc28 rfl h139) (.inl rfl) ?_
                  refine DE.t 15 (v := (Value.bool (t136 != t138))) rfl (by kernel_rfl) (Wn.yes 2 92 false rfl rfl rfl (congrArg Value.bool hb127)) rfl (R.neq rfl rfl) ?_
                  refine DE.t 16 (v := (Value.bool (t136 != t138))) rfl (by kernel_rfl) (Wn.no rfl) rfl (R.pickF (congrArg Value.bool hb127) rfl) ?_
                  refine DE.done (by kernel_rfl) ?_
                  exact ⟨_, h, f98, f99, f100, rfl⟩
              · rintro e140 w141 ⟨x125, h, f142, f143, f144, f145⟩
                subst hJ124
                refine WE.condT rfl (b := x125) f145 ?_ ?_
                · intro hb146
                  replace h := M.ite_t h hb146
                  refine WE.seq ?_
                  refine WE.reg ?_
                  refine LE.p (v := (Value.bool false)) (Wn.no rfl) rfl (R.assign rfl) ?_
                  refine LE.nil ?_
                  refine WE.ret ?_
                  exact ⟨_, (Res.tmp rfl Res.nil), _, rfl, h⟩
                · intro hb146
                  replace h := M.ite_f h hb146
                  refine WE.skip ?_
                  exact ⟨h, f142, f143, f144⟩
        · rintro e147 w148 ⟨h, f149, f150, f151⟩
          subst hJ41
          refine WE.reg ?_
          refine LE.p (v := (Value.int .i64 x28)) (Wn.no rfl) rfl (R.move f151) ?_
          refine LE.p (v := (Value.int .i64 (IntKind.i64.wrap (x28 + (1 : Int))))) (Wn.no rfl) rfl (R.add rfl rfl) ?_
          refine LE.p (v := (Value.int .i64 (IntKind.i64.wrap (x28 + (1 : Int))))) (Wn.no rfl) rfl (R.assign rfl) ?_
          refine LE.nil ?_
          obtain ⟨m35, hm36, h⟩ := h
          exact ⟨m35, hm36, _, h, f149, f150, rfl⟩
      · intro hb40
        replace h := M.ite_f h hb40
        refine WE.exit ?_
        refine WE.seq ?_
        refine WE.reg ?_
        refine LE.c (Wn.no rfl) rfl (R.call bd11 Ls.nil rfl) (Calls.mono h ?_)
        rintro _ w153 ⟨r152, rfl, h⟩
        refine ⟨_, rfl, ?_⟩
        refine LE.p (v := (Value.bool r152)) (Wn.no rfl) rfl (R.assign rfl) ?_
        refine LE.nil ?_
        refine WE.ret ?_
        exact ⟨_, (Res.tmp rfl Res.nil), _, rfl, h⟩
/-- The formula of signpost.signpostlaw17.DecidePairs. -/
def F6 (p0 : SV) (K : Bool → World → Prop) (w0 : World) : Prop :=
Calls Try.prog 10 #[(SV.v p0), (Value.bool true)] w0 (R10 fun r1 w2 =>
M.loop1 (fun (J4 : Int → World → Prop) (x3 : Int) (w5 : World) => 
M.ite (decide ((IntKind.i64.wrap (x3 + (1 : Int))) < (r1.len : Int))) (
M.join (fun (x17 : Addr) (x18 : Addr) (w85 : World) => 
M.st (x17.add 1) (Value.int .u32 (1 : Int)) w85 fun w91 =>
M.st (x18.add 1) (Value.int .u32 (2 : Int)) w91 fun w94 =>
M.join (fun (w112 : World) => 
M.loop2 (fun (J120 : Int → Int → World → Prop) (x118 : Int) (x119 : Int) (w121 : World) => 
M.ite (decide (x119 ≤ (7 : Int))) (
M.drew w121 fun w136 => 
∃ (t137 : Int) (t138 : Int) (t139 : Int) (t140 : Bool) (t141 : Int) (t142 : SV) (t143 : Int) (t144 : Bool) (t145 : Int) (t146 : Bool) (t147 : Int) (t148 : Bool) (t149 : SV) (t150 : Nat), Cs w136 x17 0 [(Value.int .i64 t137), (Value.int .u32 t138), (Value.int .u32 t139), (Value.bool t140), (Value.int .i64 t141), (SV.v t142), (Value.int .u32 t143), (Value.bool t144), (Value.int .u32 t145), (Value.bool t146), (Value.int .u32 t147), (Value.bool t148), (SV.v t149), (Value.float .f64 t150)] ∧
∃ (t152 : Int) (t153 : Int) (t154 : Int) (t155 : Bool) (t156 : Int) (t157 : SV) (t158 : Int) (t159 : Bool) (t160 : Int) (t161 : Bool) (t162 : Int) (t163 : Bool) (t164 : SV) (t165 : Nat), Cs w136 x18 0 [(Value.int .i64 t152), (Value.int .u32 t153), (Value.int .u32 t154), (Value.bool t155), (Value.int .i64 t156), (SV.v t157), (Value.int .u32 t158), (Value.bool t159), (Value.int .u32 t160), (Value.bool t161), (Value.int .u32 t162), (Value.bool t163), (SV.v t164), (Value.float .f64 t165)] ∧
∃ (t167 : Int) (t168 : Int) (t169 : Int) (t170 : Bool) (t171 : Int) (t172 : SV) (t173 : Int) (t174 : Bool) (t175 : Int) (t176 : Bool) (t177 : Int) (t178 : Bool) (t179 : SV) (t180 : Nat), Cs w136 x18 0 [(Value.int .i64 t167), (Value.int .u32 t168), (Value.int .u32 t169), (Value.bool t170), (Value.int .i64 t171), (SV.v t172), (Value.int .u32 t173), (Value.bool t174), (Value.int .u32 t175), (Value.bool t176), (Value.int .u32 t177), (Value.bool t178), (SV.v t179), (Value.float .f64 t180)] ∧
∃ (t182 : Int) (t183 : Int) (t184 : Int) (t185 : Bool) (t186 : Int) (t187 : SV) (t188 : Int) (t189 : Bool) (t190 : Int) (t191 : Bool) (t192 : Int) (t193 : Bool) (t194 : SV) (t195 : Nat), Cs w136 x17 0 [(Value.int .i64 t182), (Value.int .u32 t183), (Value.int .u32 t184), (Value.bool t185), (Value.int .i64 t186), (SV.v t187), (Value.int .u32 t188), (Value.bool t189), (Value.int .u32 t190), (Value.bool t191), (Value.int .u32 t192), (Value.bool t193), (SV.v t194), (Value.float .f64 t195)] ∧
Calls Try.prog 17 #[(Value.agg #[(Value.int .i64 t137), (Value.int .u32 t138), (Value.int .u32 t139), (Value.bool t140), (Value.int .i64 t141), (SV.v t142), (Value.int .u32 t143), (Value.bool t144), (Value.int .u32 t145), (Value.bool t146), (Value.int .u32 t147), (Value.bool t148), (SV.v t149), (Value.float .f64 t150)]), (Value.agg #[(Value.int .i64 t152), (Value.int .u32 t153), (Value.int .u32 t154), (Value.bool t155), (Value.int .i64 t156), (SV.v t157), (Value.int .u32 t158), (Value.bool t159), (Value.int .u32 t160), (Value.bool t161), (Value.int .u32 t162), (Value.bool t163), (SV.v t164), (Value.float .f64 t165)]), (Value.int .i64 x119)] w136 (R17 fun r197 w198 =>
M.keep (Cs w198 x17 0 [(Value.int .i64 t182), (Value.int .u32 t183), (Value.int .u32 t184), (Value.bool t185), (Value.int .i64 t186), (SV.v t187), (Value.int .u32 t188), (Value.bool t189), (Value.int .u32 t190), (Value.bool t191), (Value.int .u32 t192), (Value.bool t193), (SV.v t194), (Value.float .f64 t195)]) <|
M.keep (Cs w198 x18 0 [(Value.int .i64 t167), (Value.int .u32 t168), (Value.int .u32 t169), (Value.bool t170), (Value.int .i64 t171), (SV.v t172), (Value.int .u32 t173), (Value.bool t174), (Value.int .u32 t175), (Value.bool t176), (Value.int .u32 t177), (Value.bool t178), (SV.v t179), (Value.float .f64 t180)]) <|
Calls Try.prog 17 #[(Value.agg #[(Value.int .i64 t167), (Value.int .u32 t168), (Value.int .u32 t169), (Value.bool t170), (Value.int .i64 t171), (SV.v t172), (Value.int .u32 t173), (Value.bool t174), (Value.int .u32 t175), (Value.bool t176), (Value.int .u32 t177), (Value.bool t178), (SV.v t179), (Value.float .f64 t180)]), (Value.agg #[(Value.int .i64 t182), (Value.int .u32 t183), (Value.int .u32 t184), (Value.bool t185), (Value.int .i64 t186), (SV.v t187), (Value.int .u32 t188), (Value.bool t189), (Value.int .u32 t190), (Value.bool t191), (Value.int .u32 t192), (Value.bool t193), (SV.v t194), (Value.float .f64 t195)]), (Value.int .i64 x119)] w198 (R17 fun r201 w202 =>
M.join (fun (x204 : Int) (w207 : World) => 
M.join (fun (x219 : Int) (w222 : World) => 
M.join (fun (x234 : Bool) (w240 : World) => 
M.ite x234 (
K false w240) (
J120 x219 (IntKind.i64.wrap (x119 + (1 : Int))) w240)) fun J233 => 
M.ite r197 (
M.ite r201 (
J233 true w222) (
M.ite (x118 != (0 : Int)) (
J233 (x219 != x118) w222) (
J233 false w222))) (
M.ite (x118 != (0 : Int)) (
J233 (x219 != x118) w222) (
J233 false w222))) fun J218 => 
M.ite r201 (
J218 (2 : Int) w207) (
J218 x204 w207)) fun J203 => 
M.ite r197 (
J203 (1 : Int) w202) (
J203 (0 : Int) w202)))) (
∃ (t250 : Int) (t251 : Int) (t252 : Int) (t253 : Bool) (t254 : Int) (t255 : SV) (t256 : Int) (t257 : Bool) (t258 : Int) (t259 : Bool) (t260 : Int) (t261 : Bool) (t262 : SV) (t263 : Nat), Cs w121 x17 0 [(Value.int .i64 t250), (Value.int .u32 t251), (Value.int .u32 t252), (Value.bool t253), (Value.int .i64 t254), (SV.v t255), (Value.int .u32 t256), (Value.bool t257), (Value.int .u32 t258), (Value.bool t259), (Value.int .u32 t260), (Value.bool t261), (SV.v t262), (Value.float .f64 t263)] ∧
∃ (t265 : Int) (t266 : Int) (t267 : Int) (t268 : Bool) (t269 : Int) (t270 : SV) (t271 : Int) (t272 : Bool) (t273 : Int) (t274 : Bool) (t275 : Int) (t276 : Bool) (t277 : SV) (t278 : Nat), Cs w121 x18 0 [(Value.int .i64 t265), (Value.int .u32 t266), (Value.int .u32 t267), (Value.bool t268), (Value.int .i64 t269), (SV.v t270), (Value.int .u32 t271), (Value.bool t272), (Value.int .u32 t273), (Value.bool t274), (Value.int .u32 t275), (Value.bool t276), (SV.v t277), (Value.float .f64 t278)] ∧
M.new (.cells #[(Value.int .i64 t250), (Value.int .u32 t251), (Value.int .u32 t252), (Value.bool t253), (Value.int .i64 t254), (SV.v t255), (Value.int .u32 t256), (Value.bool t257), (Value.int .u32 t258), (Value.bool t259), (Value.int .u32 t260), (Value.bool t261), (SV.v t262), (Value.float .f64 t263), (Value.int .i64 t265), (Value.int .u32 t266), (Value.int .u32 t267), (Value.bool t268), (Value.int .i64 t269), (SV.v t270), (Value.int .u32 t271), (Value.bool t272), (Value.int .u32 t273), (Value.bool t274), (Value.int .u32 t275), (Value.bool t276), (SV.v t277), (Value.float .f64 t278)] 37) w121 fun b282 w280 =>
Calls Try.prog 13 #[(SV.v (SV.mk (some b282) 2 2))] w280 (R13 fun r283 r284 w285 =>
M.join (fun (x287 : Bool) (w291 : World) => 
M.ite x287 (
K false w291) (
J4 (IntKind.i64.wrap (x3 + (1 : Int))) w291)) fun J286 => 
M.ite (!r284) (
J286 true w285) (
M.ite (x118 == (0 : Int)) (
J286 true w285) (
J286 (r283 != (IntKind.i64.wrap (x118 - (1 : Int)))) w285))))) (0 : Int) (0 : Int) w112) fun J97 => 
M.idx p0 x3 13 fun a98 =>
M.ld Value.bool ((a98.add (x3.toNat * 13)).add 2) w94 fun t102 =>
M.ite t102 (
M.st (x17.add 1) (Value.int .u32 (2 : Int)) w94 fun w105 =>
M.st (x18.add 1) (Value.int .u32 (1 : Int)) w105 fun w108 =>
J97 w108) (
J97 w94)) fun J16 => 
M.drew w5 fun w19 => 
M.idx r1 x3 14 fun a20 =>
M.idx r1 (IntKind.i64.wrap (x3 + (1 : Int))) 14 fun a24 =>
∃ (t28 : Int) (t29 : Int) (t30 : Int) (t31 : Bool) (t32 : Int) (t33 : SV) (t34 : Int) (t35 : Bool) (t36 : Int) (t37 : Bool) (t38 : Int) (t39 : Bool) (t40 : SV) (t41 : Nat), Cs w19 (a20.add (x3.toNat * 14)) 0 [(Value.int .i64 t28), (Value.int .u32 t29), (Value.int .u32 t30), (Value.bool t31), (Value.int .i64 t32), (SV.v t33), (Value.int .u32 t34), (Value.bool t35), (Value.int .u32 t36), (Value.bool t37), (Value.int .u32 t38), (Value.bool t39), (SV.v t40), (Value.float .f64 t41)] ∧
∃ (t43 : Int) (t44 : Int) (t45 : Int) (t46 : Bool) (t47 : Int) (t48 : SV) (t49 : Int) (t50 : Bool) (t51 : Int) (t52 : Bool) (t53 : Int) (t54 : Bool) (t55 : SV) (t56 : Nat), Cs w19 (a24.add ((IntKind.i64.wrap (x3 + (1 : Int))).toNat * 14)) 0 [(Value.int .i64 t43), (Value.int .u32 t44), (Value.int .u32 t45), (Value.bool t46), (Value.int .i64 t47), (SV.v t48), (Value.int .u32 t49), (Value.bool t50), (Value.int .u32 t51), (Value.bool t52), (Value.int .u32 t53), (Value.bool t54), (SV.v t55), (Value.float .f64 t56)] ∧
M.both (
M.new (.cells #[(Value.int .i64 (0 : Int)), (Value.int .u32 (0 : Int)), (Value.int .u32 (0 : Int)), (Value.bool false), (Value.int .i64 (0 : Int)), (SV.v SV.nil), (Value.int .u32 (0 : Int)), (Value.bool false), (Value.int .u32 (0 : Int)), (Value.bool false), (Value.int .u32 (0 : Int)), (Value.bool false), (SV.v SV.nil), (Value.float .f64 (0 : Nat))] 37) w19 fun b59 w58 =>
M.keep (Cs w58 (a24.add ((IntKind.i64.wrap (x3 + (1 : Int))).toNat * 14)) 0 [(Value.int .i64 t43), (Value.int .u32 t44), (Value.int .u32 t45), (Value.bool t46), (Value.int .i64 t47), (SV.v t48), (Value.int .u32 t49), (Value.bool t50), (Value.int .u32 t51), (Value.bool t52), (Value.int .u32 t53), (Value.bool t54), (SV.v t55), (Value.float .f64 t56)]) <|
M.keep (Cs w58 (a20.add (x3.toNat * 14)) 0 [(Value.int .i64 t28), (Value.int .u32 t29), (Value.int .u32 t30), (Value.bool t31), (Value.int .i64 t32), (SV.v t33), (Value.int .u32 t34), (Value.bool t35), (Value.int .u32 t36), (Value.bool t37), (Value.int .u32 t38), (Value.bool t39), (SV.v t40), (Value.float .f64 t41)]) <|
M.new (.cells #[(Value.int .i64 (0 : Int)), (Value.int .u32 (0 : Int)), (Value.int .u32 (0 : Int)), (Value.bool false), (Value.int .i64 (0 : Int)), (SV.v SV.nil), (Value.int .u32 (0 : Int)), (Value.bool false), (Value.int .u32 (0 : Int)), (Value.bool false), (Value.int .u32 (0 : Int)), (Value.bool false), (SV.v SV.nil), (Value.float .f64 (0 : Nat))] 37) w58 fun b63 w62 =>
M.keep (Cs w62 (a24.add ((IntKind.i64.wrap (x3 + (1 : Int))).toNat * 14)) 0 [(Value.int .i64 t43), (Value.int .u32 t44), (Value.int .u32 t45), (Value.bool t46), (Value.int .i64 t47), (SV.v t48), (Value.int .u32 t49), (Value.bool t50), (Value.int .u32 t51), (Value.bool t52), (Value.int .u32 t53), (Value.bool t54), (SV.v t55), (Value.float .f64 t56)]) <|
M.keep (Cs w62 (a20.add (x3.toNat * 14)) 0 [(Value.int .i64 t28), (Value.int .u32 t29), (Value.int .u32 t30), (Value.bool t31), (Value.int .i64 t32), (SV.v t33), (Value.int .u32 t34), (Value.bool t35), (Value.int .u32 t36), (Value.bool t37), (Value.int .u32 t38), (Value.bool t39), (SV.v t40), (Value.float .f64 t41)]) <|
M.stA b59 [(Value.int .i64 t28), (Value.int .u32 t29), (Value.int .u32 t30), (Value.bool t31), (Value.int .i64 t32), (SV.v t33), (Value.int .u32 t34), (Value.bool t35), (Value.int .u32 t36), (Value.bool t37), (Value.int .u32 t38), (Value.bool t39), (SV.v t40), (Value.float .f64 t41)] w62 fun w66 =>
M.keep (Cs w66 (a24.add ((IntKind.i64.wrap (x3 + (1 : Int))).toNat * 14)) 0 [(Value.int .i64 t43), (Value.int .u32 t44), (Value.int .u32 t45), (Value.bool t46), (Value.int .i64 t47), (SV.v t48), (Value.int .u32 t49), (Value.bool t50), (Value.int .u32 t51), (Value.bool t52), (Value.int .u32 t53), (Value.bool t54), (SV.v t55), (Value.float .f64 t56)]) <|
M.stA b63 [(Value.int .i64 t43), (Value.int .u32 t44), (Value.int .u32 t45), (Value.bool t46), (Value.int .i64 t47), (SV.v t48), (Value.int .u32 t49), (Value.bool t50), (Value.int .u32 t51), (Value.bool t52), (Value.int .u32 t53), (Value.bool t54), (SV.v t55), (Value.float .f64 t56)] w66 fun w69 =>
J16 b59 b63 w69) (
M.new (.cells #[(Value.int .i64 (0 : Int)), (Value.int .u32 (0 : Int)), (Value.int .u32 (0 : Int)), (Value.bool false), (Value.int .i64 (0 : Int)), (SV.v SV.nil), (Value.int .u32 (0 : Int)), (Value.bool false), (Value.int .u32 (0 : Int)), (Value.bool false), (Value.int .u32 (0 : Int)), (Value.bool false), (SV.v SV.nil), (Value.float .f64 (0 : Nat))] 37) w19 fun b72 w71 =>
M.keep (Cs w71 (a24.add ((IntKind.i64.wrap (x3 + (1 : Int))).toNat * 14)) 0 [(Value.int .i64 t43), (Value.int .u32 t44), (Value.int .u32 t45), (Value.bool t46), (Value.int .i64 t47), (SV.v t48), (Value.int .u32 t49), (Value.bool t50), (Value.int .u32 t51), (Value.bool t52), (Value.int .u32 t53), (Value.bool t54), (SV.v t55), (Value.float .f64 t56)]) <|
M.keep (Cs w71 (a20.add (x3.toNat * 14)) 0 [(Value.int .i64 t28), (Value.int .u32 t29), (Value.int .u32 t30), (Value.bool t31), (Value.int .i64 t32), (SV.v t33), (Value.int .u32 t34), (Value.bool t35), (Value.int .u32 t36), (Value.bool t37), (Value.int .u32 t38), (Value.bool t39), (SV.v t40), (Value.float .f64 t41)]) <|
M.new (.cells #[(Value.int .i64 (0 : Int)), (Value.int .u32 (0 : Int)), (Value.int .u32 (0 : Int)), (Value.bool false), (Value.int .i64 (0 : Int)), (SV.v SV.nil), (Value.int .u32 (0 : Int)), (Value.bool false), (Value.int .u32 (0 : Int)), (Value.bool false), (Value.int .u32 (0 : Int)), (Value.bool false), (SV.v SV.nil), (Value.float .f64 (0 : Nat))] 37) w71 fun b76 w75 =>
M.keep (Cs w75 (a24.add ((IntKind.i64.wrap (x3 + (1 : Int))).toNat * 14)) 0 [(Value.int .i64 t43), (Value.int .u32 t44), (Value.int .u32 t45), (Value.bool t46), (Value.int .i64 t47), (SV.v t48), (Value.int .u32 t49), (Value.bool t50), (Value.int .u32 t51), (Value.bool t52), (Value.int .u32 t53), (Value.bool t54), (SV.v t55), (Value.float .f64 t56)]) <|
M.keep (Cs w75 (a20.add (x3.toNat * 14)) 0 [(Value.int .i64 t28), (Value.int .u32 t29), (Value.int .u32 t30), (Value.bool t31), (Value.int .i64 t32), (SV.v t33), (Value.int .u32 t34), (Value.bool t35), (Value.int .u32 t36), (Value.bool t37), (Value.int .u32 t38), (Value.bool t39), (SV.v t40), (Value.float .f64 t41)]) <|
M.stA b76 [(Value.int .i64 t28), (Value.int .u32 t29), (Value.int .u32 t30), (Value.bool t31), (Value.int .i64 t32), (SV.v t33), (Value.int .u32 t34), (Value.bool t35), (Value.int .u32 t36), (Value.bool t37), (Value.int .u32 t38), (Value.bool t39), (SV.v t40), (Value.float .f64 t41)] w75 fun w79 =>
M.keep (Cs w79 (a24.add ((IntKind.i64.wrap (x3 + (1 : Int))).toNat * 14)) 0 [(Value.int .i64 t43), (Value.int .u32 t44), (Value.int .u32 t45), (Value.bool t46), (Value.int .i64 t47), (SV.v t48), (Value.int .u32 t49), (Value.bool t50), (Value.int .u32 t51), (Value.bool t52), (Value.int .u32 t53), (Value.bool t54), (SV.v t55), (Value.float .f64 t56)]) <|
M.stA b72 [(Value.int .i64 t43), (Value.int .u32 t44), (Value.int .u32 t45), (Value.bool t46), (Value.int .i64 t47), (SV.v t48), (Value.int .u32 t49), (Value.bool t50), (Value.int .u32 t51), (Value.bool t52), (Value.int .u32 t53), (Value.bool t54), (SV.v t55), (Value.float .f64 t56)] w79 fun w82 =>
J16 b76 b72 w82)) (
Calls Try.prog 11 #[] w5 (R11 fun r297 w298 =>
K r297 w298))) (0 : Int) w2)
theorem F6_ok {w0 : World} {p0 : SV} {K : Bool → World → Prop} (h : F6 p0 K w0) : Calls Try.prog 6 #[(SV.v p0)] w0 (R6 K) := by
  refine calls_of_WE (args := [(SV.v p0)]) (rs := [.tmp 2]) Try.func6 rfl (N := 93) rfl rfl rfl rfl ?_
  refine WE.seq ?_
  refine WE.reg ?_
  refine LE.p (v := (Value.bool false)) (Wn.no rfl) rfl (R.assign rfl) ?_
  refine LE.nil ?_
  refine WE.seq ?_
  refine WE.reg ?_
  refine LE.p (v := (SV.v p0)) (Wn.no rfl) rfl (R.move rfl) ?_
  refine LE.c (Wn.no rfl) rfl (R.call bd10 (Ls.cons rfl (Ls.cons rfl Ls.nil)) rfl) (Calls.mono h ?_)
  rintro _ w2 ⟨r1, rfl, h⟩
  refine ⟨_, rfl, ?_⟩
  refine LE.p (v := (SV.v r1)) (Wn.no rfl) rfl (R.assign rfl) ?_
  refine LE.nil ?_
  refine WE.seq ?_
  refine WE.seq ?_
  refine WE.reg ?_
  refine LE.p (v := (Value.int .i64 (0 : Int))) (Wn.no rfl) rfl (R.assign rfl) ?_
  refine LE.nil ?_
  refine WE.block ?_
  obtain ⟨I8, ⟨n7, h⟩, hr9⟩ := h
  refine WE.loop (fun n e w => ∃ (x3 : Int), I8 n x3 w ∧ e 0 = (SV.v p0) ∧ e 3 = (SV.v r1) ∧ e 4 = (Value.int .i64 x3)) n7 ⟨_, h, rfl, rfl, rfl⟩ ?_
  clear h
  rintro n7 e6 w5 ⟨x3, h, f12, f13, f14⟩
  replace h := hr9 n7 x3 w5 h
  refine WE.seq ?_
  refine WE.seq ?_
  refine WE.reg ?_
  refine LE.p (v := (Value.int .i64 x3)) (Wn.no rfl) rfl (R.move f14) ?_
  refine LE.p (v := (Value.int .i64 (IntKind.i64.wrap (x3 + (1 : Int))))) (Wn.no rfl) rfl (R.add rfl rfl) ?_
  refine LE.p (v := (SV.v r1)) (Wn.no rfl) rfl (R.move f13) ?_
  refine LE.p (v := (Value.int .i64 (r1.len : Int))) (Wn.no rfl) rfl (R.len sl24 rfl) ?_
  refine LE.p (v := (Value.bool (decide ((IntKind.i64.wrap (x3 + (1 : Int))) < (r1.len : Int))))) (Wn.no rfl) rfl (R.lss rfl rfl) ?_
  refine LE.nil ?_
  refine WE.condT rfl (b := (decide ((IntKind.i64.wrap (x3 + (1 : Int))) < (r1.len : Int)))) rfl ?_ ?_
  · intro hb15
    replace h := M.ite_t h hb15
    refine WE.skip ?_
    refine WE.seq ?_
    refine WE.block ?_
    refine WE.seq ?_
    obtain ⟨J16, hJ16, h⟩ := M.join_use h
    refine WE.drawJ (fun e w => ∃ (x17 : Addr) (x18 : Addr), J16 x17 x18 w ∧ e 0 = (SV.v p0) ∧ e 3 = (SV.v r1) ∧ e 4 = (Value.int .i64 x3) ∧ e 5 = (Value.pointer (some x17)) ∧ e 6 = (Value.pointer (some x18))) mix ?_ ?_
    · clear hJ16
      obtain ⟨w19, hww19, h⟩ := M.drew_use h
      rw [← hww19]
      clear hww19
      refine DE.t 0 (v := (SV.v r1)) rfl (by kernel_rfl) (Wn.no rfl) rfl (R.move f13) ?_
      refine DE.t 1 (v := (Value.int .i64 x3)) rfl (by kernel_rfl) (Wn.no rfl) rfl (R.move f14) ?_
      obtain ⟨a20, h21, h22, h23, h⟩ := h
      refine DE.t 2 (v := (Value.pointer (some (a20.add (x3.toNat * 14))))) rfl (by kernel_rfl) (Wn.no rfl) rfl (R.idx (s := r1) sl24 rfl rfl h21 h22 h23) ?_
      refine DE.t 4 (v := (SV.v r1)) rfl (by kernel_rfl) (Wn.no rfl) rfl (R.move f13) ?_
      refine DE.t 5 (v := (Value.int .i64 x3)) rfl (by kernel_rfl) (Wn.no rfl) rfl (R.move f14) ?_
      refine DE.t 6 (v := (Value.int .i64 (IntKind.i64.wrap (x3 + (1 : Int))))) rfl (by kernel_rfl) (Wn.no rfl) rfl (R.add rfl rfl) ?_
      obtain ⟨a24, h25, h26, h27, h⟩ := h
      refine DE.t 7 (v := (Value.pointer (some (a24.add ((IntKind.i64.wrap (x3 + (1 : Int))).toNat * 14))))) rfl (by kernel_rfl) (Wn.no rfl) rfl (R.idx (s := r1) sl24 rfl rfl h25 h26 h27) ?_
      obtain ⟨t28, t29, t30, t31, t32, t33, t34, t35, t36, t37, t38, t39, t40, t41, h42, h⟩ := h
      refine DE.hold 3 (fun w => Cs w (a20.add (x3.toNat * 14)) 0 [(Value.int .i64 t28), (Value.int .u32 t29), (Value.int .u32 t30), (Value.bool t31), (Value.int .i64 t32), (SV.v t33), (Value.int .u32 t34), (Value.bool t35), (Value.int .u32 t36), (Value.bool t37), (Value.int .u32 t38), (Value.bool t39), (SV.v t40), (Value.float .f64 t41)]) (v := (Value.agg #[(Value.int .i64 t28), (Value.int .u32 t29), (Value.int .u32 t30), (Value.bool t31), (Value.int .i64 t32), (SV.v t33), (Value.int .u32 t34), (Value.bool t35), (Value.int .u32 t36), (Value.bool t37), (Value.int .u32 t38), (Value.bool t39), (SV.v t40), (Value.float .f64 t41)])) rfl (by kernel_rfl) (Wn.no rfl) rfl h42 (fun w hs => R.ldA ag37 sz37 rfl rfl hs) ?_
      obtain ⟨t43, t44, t45, t46, t47, t48, t49, t50, t51, t52, t53, t54, t55, t56, h57, h⟩ := h
      refine DE.hold 8 (fun w => Cs w (a24.add ((IntKind.i64.wrap (x3 + (1 : Int))).toNat * 14)) 0 [(Value.int .i64 t43), (Value.int .u32 t44), (Value.int .u32 t45), (Value.bool t46), (Value.int .i64 t47), (SV.v t48), (Value.int .u32 t49), (Value.bool t50), (Value.int .u32 t51), (Value.bool t52), (Value.int .u32 t53), (Value.bool t54), (SV.v t55), (Value.float .f64 t56)]) (v := (Value.agg #[(Value.int .i64 t43), (Value.int .u32 t44), (Value.int .u32 t45), (Value.bool t46), (Value.int .i64 t47), (SV.v t48), (Value.int .u32 t49), (Value.bool t50), (Value.int .u32 t51), (Value.bool t52), (Value.int .u32 t53), (Value.bool t54), (SV.v t55), (Value.float .f64 t56)])) rfl (by kernel_rfl) (Wn.no rfl) rfl h57 (fun w hs => R.ldA ag37 sz37 rfl rfl hs) ?_
      refine DE.main2 9 10 (by kernel_rfl) ?_ ?_
      · replace h := h.1
        obtain ⟨b59, hpb59, w58, hww58, h⟩ := M.new_use h
        obtain ⟨k60, h⟩ := h
        obtain ⟨k61, h⟩ := h
        refine One.r 9 (v := (Value.pointer (some b59))) rfl (Wn.no rfl) rfl (R.alloc (cs := #[(Value.int .i64 (0 : Int)), (Value.int .u32 (0 : Int)), (Value.int .u32 (0 : Int)), (Value.bool false), (Value.int .i64 (0 : Int)), (SV.v SV.nil), (Value.int .u32 (0 : Int)), (Value.bool false), (Value.int .u32 (0 : Int)), (Value.bool false), (Value.int .u32 (0 : Int)), (Value.bool false), (SV.v SV.nil), (Value.float .f64 (0 : Nat))]) ze37 rfl hpb59 hww58) (.inr ⟨fun _ => k60, fun _ => k61, trivial⟩) ?_
        obtain ⟨b63, hpb63, w62, hww62, h⟩ := M.new_use h
        obtain ⟨k64, h⟩ := h
        obtain ⟨k65, h⟩ := h
        refine DE.main 10 (by kernel_rfl) ?_
        refine One.r 10 (v := (Value.pointer (some b63))) rfl (Wn.no rfl) rfl (R.alloc (cs := #[(Value.int .i64 (0 : Int)), (Value.int .u32 (0 : Int)), (Value.int .u32 (0 : Int)), (Value.bool false), (Value.int .i64 (0 : Int)), (SV.v SV.nil), (Value.int .u32 (0 : Int)), (Value.bool false), (Value.int .u32 (0 : Int)), (Value.bool false), (Value.int .u32 (0 : Int)), (Value.bool false), (SV.v SV.nil), (Value.float .f64 (0 : Nat))]) ze37 rfl hpb63 hww62) (.inr ⟨fun _ => k64, fun _ => k65, trivial⟩) ?_
        obtain ⟨w66, hww66, h67, h⟩ := M.stA_use h
        obtain ⟨k68, h⟩ := h
        refine DE.main 11 (by kernel_rfl) ?_
        refine One.s 11 rfl (Wn.no rfl) rfl (R.stA (a := b59) [(Value.int .i64 t28), (Value.int .u32 t29), (Value.int .u32 t30), (Value.bool t31), (Value.int .i64 t32), (SV.v t33), (Value.int .u32 t34), (Value.bool t35), (Value.int .u32 t36), (Value.bool t37), (Value.int .u32 t38), (Value.bool t39), (SV.v t40), (Value.float .f64 t41)] sz37 rfl rfl rfl (by simp [Value.oneCell']) h67 hww66) ⟨fun _ => k68, aftT (by kernel_rfl), trivial⟩ ?_
        obtain ⟨w69, hww69, h70, h⟩ := M.stA_use h
        refine DE.main 12 (by kernel_rfl) ?_
        refine One.s 12 rfl (Wn.no rfl) rfl (R.stA (a := b63) [(Value.int .i64 t43), (Value.int .u32 t44), (Value.int .u32 t45), (Value.bool t46), (Value.int .i64 t47), (SV.v t48), (Value.int .u32 t49), (Value.bool t50), (Value.int .u32 t51), (Value.bool t52), (Value.int .u32 t53), (Value.bool t54), (SV.v t55), (Value.float .f64 t56)] sz37 rfl rfl rfl (by simp [Value.oneCell']) h70 hww69) ⟨aftT (by kernel_rfl), aftT (by kernel_rfl), trivial⟩ ?_
        refine DE.done (by kernel_rfl) ?_
        exact ⟨_, _, h, f12, f13, f14, rfl, rfl⟩
      · replace h := h.2
        obtain ⟨b72, hpb72, w71, hww71, h⟩ := M.new_use h
        obtain ⟨k73, h⟩ := h
        obtain ⟨k74, h⟩ := h
        refine One.r 10 (v := (Value.pointer (some b72))) rfl (Wn.no rfl) rfl (R.alloc (cs := #[(Value.int .i64 (0 : Int)), (Value.int .u32 (0 : Int)), (Value.int .u32 (0 : Int)), (Value.bool false), (Value.int .i64 (0 : Int)), (SV.v SV.nil), (Value.int .u32 (0 : Int)), (Value.bool false), (Value.int .u32 (0 : Int)), (Value.bool false), (Value.int .u32 (0 : Int)), (Value.bool false), (SV.v SV.nil), (Value.float .f64 (0 : Nat))]) ze37 rfl hpb72 hww71) (.inr ⟨fun _ => k73, fun _ => k74, trivial⟩) ?_
        obtain ⟨b76, hpb76, w75, hww75, h⟩ := M.new_use h
        obtain ⟨k77, h⟩ := h
        obtain ⟨k78, h⟩ := h
        refine DE.main 9 (by kernel_rfl) ?_
        refine One.r 9 (v := (Value.pointer (some b76))) rfl (Wn.no rfl) rfl (R.alloc (cs := #[(Value.int .i64 (0 : Int)), (Value.int .u32 (0 : Int)), (Value.int .u32 (0 : Int)), (Value.bool false), (Value.int .i64 (0 : Int)), (SV.v SV.nil), (Value.int .u32 (0 : Int)), (Value.bool false), (Value.int .u32 (0 : Int)), (Value.bool false), (Value.int .u32 (0 : Int)), (Value.bool false), (SV.v SV.nil), (Value.float .f64 (0 : Nat))]) ze37 rfl hpb76 hww75) (.inr ⟨fun _ => k77, fun _ => k78, trivial⟩) ?_
        obtain ⟨w79, hww79, h80, h⟩ := M.stA_use h
        obtain ⟨k81, h⟩ := h
        refine DE.main 11 (by kernel_rfl) ?_
        refine One.s 11 rfl (Wn.no rfl) rfl (R.stA (a := b76) [(Value.int .i64 t28), (Value.int .u32 t29), (Value.int .u32 t30), (Value.bool t31), (Value.int .i64 t32), (SV.v t33), (Value.int .u32 t34), (Value.bool t35), (Value.int .u32 t36), (Value.bool t37), (Value.int .u32 t38), (Value.bool t39), (SV.v t40), (Value.float .f64 t41)] sz37 rfl rfl rfl (by simp [Value.oneCell']) h80 hww79) ⟨fun _ => k81, aftT (by kernel_rfl), trivial⟩ ?_
        obtain ⟨w82, hww82, h83, h⟩ := M.stA_use h
        refine DE.main 12 (by kernel_rfl) ?_
        refine One.s 12 rfl (Wn.no rfl) rfl (R.stA (a := b72) [(Value.int .i64 t43), (Value.int .u32 t44), (Value.int .u32 t45), (Value.bool t46), (Value.int .i64 t47), (SV.v t48), (Value.int .u32 t49), (Value.bool t50), (Value.int .u32 t51), (Value.bool t52), (Value.int .u32 t53), (Value.bool t54), (SV.v t55), (Value.float .f64 t56)] sz37 rfl rfl rfl (by simp [Value.oneCell']) h83 hww82) ⟨aftT (by kernel_rfl), aftT (by kernel_rfl), trivial⟩ ?_
        refine DE.done (by kernel_rfl) ?_
        exact ⟨_, _, h, f12, f13, f14, rfl, rfl⟩
    · rintro e84 w85 ⟨x17, x18, h, f86, f87, f88, f89, f90⟩
      subst hJ16
      refine WE.seq ?_
      refine WE.reg ?_
      refine LE.p (v := (Value.pointer (some x17))) (Wn.no rfl) rfl (R.fld (off := 0) fa37_0 f89) ?_
      refine LE.p (v := (Value.pointer (some (x17.add 1)))) (Wn.no rfl) rfl (R.fld (off := 1) fa34_1 rfl) ?_
      obtain ⟨w91, hww91, h92, h93, h⟩ := M.st_use h
      refine LE.s (Wn.no rfl) rfl (R.st (a := (x17.add 1)) (v := (Value.int .u32 (1 : Int))) sz28 rfl rfl rfl rfl h92 h93 hww91) ?_
      refine LE.p (v := (Value.pointer (some x18))) (Wn.no rfl) rfl (R.fld (off := 0) fa37_0 f90) ?_
      refine LE.p (v := (Value.pointer (some (x18.add 1)))) (Wn.no rfl) rfl (R.fld (off := 1) fa34_1 rfl) ?_
      obtain ⟨w94, hww94, h95, h96, h⟩ := M.st_use h
      refine LE.s (Wn.no rfl) rfl (R.st (a := (x18.add 1)) (v := (Value.int .u32 (2 : Int))) sz28 rfl rfl rfl rfl h95 h96 hww94) ?_
      refine LE.nil ?_
      obtain ⟨J97, hJ97, h⟩ := M.join_use h
      refine WE.join (fun e w => J97 w ∧ e 0 = (SV.v p0) ∧ e 3 = (SV.v r1) ∧ e 4 = (Value.int .i64 x3) ∧ e 5 = (Value.pointer (some x17)) ∧ e 6 = (Value.pointer (some x18))) ?_ ?_
      · clear hJ97
        refine WE.seq ?_
        refine WE.reg ?_
        refine LE.p (v := (SV.v p0)) (Wn.no rfl) rfl (R.move f86) ?_
        refine LE.p (v := (Value.int .i64 x3)) (Wn.no rfl) rfl (R.move f88) ?_
        obtain ⟨a98, h99, h100, h101, h⟩ := h
        refine LE.p (v := (Value.pointer (some (a98.add (x3.toNat * 13))))) (Wn.no rfl) rfl (R.idx (s := p0) sl22 rfl rfl h99 h100 h101) ?_
        refine LE.p (v := (Value.pointer (some ((a98.add (x3.toNat * 13)).add 2)))) (Wn.no rfl) rfl (R.fld (off := 2) fa47_2 rfl) ?_
        obtain ⟨t102, h103, h⟩ := h
        refine LE.r (v := (Value.bool t102)) (Wn.no rfl) rfl (R.ld sc4 rfl h103) ?_
        refine LE.nil ?_
        refine WE.condT rfl (b := t102) rfl ?_ ?_
        · intro hb104
          replace h := M.ite_t h hb104
          refine WE.reg ?_
          refine LE.p (v := (Value.pointer (some x17))) (Wn.no rfl) rfl (R.fld (off := 0) fa37_0 f89) ?_
          refine LE.p (v := (Value.pointer (some (x17.add 1)))) (Wn.no rfl) rfl (R.fld (off := 1) fa34_1 rfl) ?_
          obtain ⟨w105, hww105, h106, h107, h⟩ := M.st_use h
          refine LE.s (Wn.no rfl) rfl (R.st (a := (x17.add 1)) (v := (Value.int .u32 (2 : Int))) sz28 rfl rfl rfl rfl h106 h107 hww105) ?_
          refine LE.p (v := (Value.pointer (some x18))) (Wn.no rfl) rfl (R.fld (off := 0) fa37_0 f90) ?_
          refine LE.p (v := (Value.pointer (some (x18.add 1)))) (Wn.no rfl) rfl (R.fld (off := 1) fa34_1 rfl) ?_
          obtain ⟨w108, hww108, h109, h110, h⟩ := M.st_use h
          refine LE.s (Wn.no rfl) rfl (R.st (a := (x18.add 1)) (v := (Value.int .u32 (1 : Int))) sz28 rfl rfl rfl rfl h109 h110 hww108) ?_
          refine LE.nil ?_
          exact ⟨h, f86, f87, f88, f89, f90⟩
        · intro hb104
          replace h := M.ite_f h hb104
          refine WE.skip ?_
          exact ⟨h, f86, f87, f88, f89, f90⟩
      · rintro e111 w112 ⟨h, f113, f114, f115, f116, f117⟩
        subst hJ97
        refine WE.seq ?_
        refine WE.reg ?_
        refine LE.p (v := (Value.int .i64 (0 : Int))) (Wn.no rfl) rfl (R.assign rfl) ?_
        refine LE.nil ?_
        refine WE.seq ?_
        refine WE.seq ?_
        refine WE.reg ?_
        refine LE.p (v := (Value.int .i64 (0 : Int))) (Wn.no rfl) rfl (R.assign rfl) ?_
        refine LE.nil ?_
        refine WE.block ?_
        obtain ⟨I124, ⟨n123, h⟩, hr125⟩ := h
        refine WE.loop (fun n e w => ∃ (x118 : Int) (x119 : Int), I124 n x118 x119 w ∧ e 0 = (SV.v p0) ∧ e 3 = (SV.v r1) ∧ e 4 = (Value.int .i64 x3) ∧ e 5 = (Value.pointer (some x17)) ∧ e 6 = (Value.pointer (some x18)) ∧ e 7 = (Value.int .i64 x118) ∧ e 8 = (Value.int .i64 x119)) n123 ⟨_, _, h, f113, f114, f115, f116, f117, rfl, rfl⟩ ?_
        clear h
        rintro n123 e122 w121 ⟨x118, x119, h, f128, f129, f130, f131, f132, f133, f134⟩
        replace h := hr125 n123 x118 x119 w121 h
        refine WE.seq ?_
        refine WE.seq ?_
        refine WE.reg ?_
        refine LE.p (v := (Value.int .i64 x119)) (Wn.no rfl) rfl (R.move f134) ?_
        refine LE.p (v := (Value.bool (decide (x119 ≤ (7 : Int))))) (Wn.no rfl) rfl (R.leq rfl rfl) ?_
        refine LE.nil ?_
        refine WE.condT rfl (b := (decide (x119 ≤ (7 : Int)))) rfl ?_ ?_
        · intro hb135
          replace h := M.ite_t h hb135
          refine WE.skip ?_
          refine WE.seq ?_
          refine WE.block ?_
          refine WE.seq ?_
          refine WE.draw mix ?_
          obtain ⟨w136, hww136, h⟩ := M.drew_use h
          rw [← hww136]
          clear hww136
          refine DE.t 2 (v := (Value.int .i64 x119)) rfl (by kernel_rfl) (Wn.no rfl) rfl (R.move f134) ?_
          refine DE.t 6 (v := (Value.int .i64 x119)) rfl (by kernel_rfl) (Wn.no rfl) rfl (R.move f134) ?_
          obtain ⟨t137, t138, t139, t140, t141, t142, t143, t144, t145, t146, t147, t148, t149, t150, h151, h⟩ := h
          refine DE.hold 0 (fun w => Cs w x17 0 [(Value.int .i64 t137), (Value.int .u32 t138), (Value.int .u32 t139), (Value.bool t140), (Value.int .i64 t141), (SV.v t142), (Value.int .u32 t143), (Value.bool t144), (Value.int .u32 t145), (Value.bool t146), (Value.int .u32 t147), (Value.bool t148), (SV.v t149), (Value.float .f64 t150)]) (v := (Value.agg #[(Value.int .i64 t137), (Value.int .u32 t138), (Value.int .u32 t139), (Value.bool t140), (Value.int .i64 t141), (SV.v t142), (Value.int .u32 t143), (Value.bool t144), (Value.int .u32 t145), (Value.bool t146), (Value.int .u32 t147), (Value.bool t148), (SV.v t149), (Value.float .f64 t150)])) rfl (by kernel_rfl) (Wn.no rfl) rfl h151 (fun w hs => R.ldA ag37 sz37 f131 rfl hs) ?_
          obtain ⟨t152, t153, t154, t155, t156, t157, t158, t159, t160, t161, t162, t163, t164, t165, h166, h⟩ := h
          refine DE.hold 1 (fun w => Cs w x18 0 [(Value.int .i64 t152), (Value.int .u32 t153), (Value.int .u32 t154), (Value.bool t155), (Value.int .i64 t156), (SV.v t157), (Value.int .u32 t158), (Value.bool t159), (Value.int .u32 t160), (Value.bool t161), (Value.int .u32 t162), (Value.bool t163), (SV.v t164), (Value.float .f64 t165)]) (v := (Value.agg #[(Value.int .i64 t152), (Value.int .u32 t153), (Value.int .u32 t154), (Value.bool t155), (Value.int .i64 t156), (SV.v t157), (Value.int .u32 t158), (Value.bool t159), (Value.int .u32 t160), (Value.bool t161), (Value.int .u32 t162), (Value.bool t163), (SV.v t164), (Value.float .f64 t165)])) rfl (by kernel_rfl) (Wn.no rfl) rfl h166 (fun w hs => R.ldA ag37 sz37 f132 rfl hs) ?_
          obtain ⟨t167, t168, t169, t170, t171, t172, t173, t174, t175, t176, t177, t178, t179, t180, h181, h⟩ := h
          refine DE.hold 4 (fun w => Cs w x18 0 [(Value.int .i64 t167), (Value.int .u32 t168), (Value.int .u32 t169), (Value.bool t170), (Value.int .i64 t171), (SV.v t172), (Value.int .u32 t173), (Value.bool t174), (Value.int .u32 t175), (Value.bool t176), (Value.int .u32 t177), (Value.bool t178), (SV.v t179), (Value.float .f64 t180)]) (v := (Value.agg #[(Value.int .i64 t167), (Value.int .u32 t168), (Value.int .u32 t169), (Value.bool t170), (Value.int .i64 t171), (SV.v t172), (Value.int .u32 t173), (Value.bool t174), (Value.int .u32 t175), (Value.bool t176), (Value.int .u32 t177), (Value.bool t178), (SV.v t179), (Value.float .f64 t180)])) rfl (by kernel_rfl) (Wn.no rfl) rfl h181 (fun w hs => R.ldA ag37 sz37 f132 rfl hs) ?_
          obtain ⟨t182, t183, t184, t185, t186, t187, t188, t189, t190, t191, t192, t193, t194, t195, h196, h⟩ := h
          refine DE.hold 5 (fun w => Cs w x17 0 [(Value.int .i64 t182), (Value.int .u32 t183), (Value.int .u32 t184), (Value.bool t185), (Value.int .i64 t186), (SV.v t187), (Value.int .u32 t188), (Value.bool t189), (Value.int .u32 t190), (Value.bool t191), (Value.int .u32 t192), (Value.bool t193), (SV.v t194), (Value.float .f64 t195)]) (v := (Value.agg #[(Value.int .i64 t182), (Value.int .u32 t183), (Value.int .u32 t184), (Value.bool t185), (Value.int .i64 t186), (SV.v t187), (Value.int .u32 t188), (Value.bool t189), (Value.int .u32 t190), (Value.bool t191), (Value.int .u32 t192), (Value.bool t193), (SV.v t194), (Value.float .f64 t195)])) rfl (by kernel_rfl) (Wn.no rfl) rfl h196 (fun w hs => R.ldA ag37 sz37 f131 rfl hs) ?_
          refine DE.main 3 (by kernel_rfl) ?_
          refine One.c 3 rfl (Wn.no rfl) rfl (R.call bd17 (Ls.cons rfl (Ls.cons rfl (Ls.cons rfl Ls.nil))) rfl) (Calls.mono h ?_)
          rintro _ w198 ⟨r197, rfl, h⟩
          obtain ⟨k199, h⟩ := h
          obtain ⟨k200, h⟩ := h
          refine ⟨_, rfl, ⟨fun _ => k199, fun _ => k200, aftT (by kernel_rfl), aftT (by kernel_rfl), trivial⟩, ?_⟩
          refine DE.main 7 (by kernel_rfl) ?_
          refine One.c 7 rfl (Wn.no rfl) rfl (R.call bd17 (Ls.cons rfl (Ls.cons rfl (Ls.cons rfl Ls.nil))) rfl) (Calls.mono h ?_)
          rintro _ w202 ⟨r201, rfl, h⟩
          refine ⟨_, rfl, ⟨aftT (by kernel_rfl), aftT (by kernel_rfl), aftT (by kernel_rfl), aftT (by kernel_rfl), trivial⟩, ?_⟩
          refine DE.t 8 (v := (Value.bool r197)) rfl (by kernel_rfl) (Wn.no rfl) rfl (R.assign rfl) ?_
          refine DE.t 9 (v := (Value.bool r201)) rfl (by kernel_rfl) (Wn.no rfl) rfl (R.assign rfl) ?_
          refine DE.done (by kernel_rfl) ?_
          refine WE.seq ?_
          refine WE.reg ?_
          refine LE.p (v := (Value.int .i64 (0 : Int))) (Wn.no rfl) rfl (R.assign rfl) ?_
          refine LE.nil ?_
          obtain ⟨J203, hJ203, h⟩ := M.join_use h
          refine WE.join (fun e w => ∃ (x204 : Int), J203 x204 w ∧ e 0 = (SV.v p0) ∧ e 3 = (SV.v r1) ∧ e 4 = (Value.int .i64 x3) ∧ e 5 = (Value.pointer (some x17)) ∧ e 6 = (Value.pointer (some x18)) ∧ e 7 = (Value.int .i64 x118) ∧ e 8 = (Value.int .i64 x119) ∧ e 9 = (Value.bool r197) ∧ e 10 = (Value.bool r201) ∧ e 11 = (Value.int .i64 x204)) ?_ ?_
          · clear hJ203
            refine WE.seq ?_
            refine WE.reg ?_
            refine LE.p (v := (Value.bool r197)) (Wn.no rfl) rfl (R.move rfl) ?_
            refine LE.nil ?_
            refine WE.condT rfl (b := r197) rfl ?_ ?_
            · intro hb205
              replace h := M.ite_t h hb205
              refine WE.reg ?_
              refine LE.p (v := (Value.int .i64 (1 : Int))) (Wn.no rfl) rfl (R.assign rfl) ?_
              refine LE.nil ?_
              exact ⟨_, h, f128, f129, f130, f131, f132, f133, f134, rfl, rfl, rfl⟩
            · intro hb205
              replace h := M.ite_f h hb205
              refine WE.skip ?_
              exact ⟨_, h, f128, f129, f130, f131, f132, f133, f134, rfl, rfl, rfl⟩
          · rintro e206 w207 ⟨x204, h, f208, f209, f210, f211, f212, f213, f214, f215, f216, f217⟩
            subst hJ203
            obtain ⟨J218, hJ218, h⟩ := M.join_use h
            refine WE.join (fun e w => ∃ (x219 : Int), J218 x219 w ∧ e 0 = (SV.v p0) ∧ e 3 = (SV.v r1) ∧ e 4 = (Value.int .i64 x3) ∧ e 5 = (Value.pointer (some x17)) ∧ e 6 = (Value.pointer (some x18)) ∧ e 7 = (Value.int .i64 x118) ∧ e 8 = (Value.int .i64 x119) ∧ e 9 = (Value.bool r197) ∧ e 10 = (Value.bool r201) ∧ e 11 = (Value.int .i64 x219)) ?_ ?_
            · clear hJ218
              refine WE.seq ?_
              refine WE.reg ?_
              refine LE.p (v := (Value.bool r201)) (Wn.no rfl) rfl (R.move f216) ?_
              refine LE.nil ?_
              refine WE.condT rfl (b := r201) rfl ?_ ?_
              · intro hb220
                replace h := M.ite_t h hb220
                refine WE.reg ?_
                refine LE.p (v := (Value.int .i64 (2 : Int))) (Wn.no rfl) rfl (R.assign rfl) ?_
                refine LE.nil ?_
                exact ⟨_, h, f208, f209, f210, f211, f212, f213, f214, f215, f216, rfl⟩
              · intro hb220
                replace h := M.ite_f h hb220
                refine WE.skip ?_
                exact ⟨_, h, f208, f209, f210, f211, f212, f213, f214, f215, f216, f217⟩
            · rintro e221 w222 ⟨x219, h, f223, f224, f225, f226, f227, f228, f229, f230, f231, f232⟩
              subst hJ218
              refine WE.seq ?_
              refine WE.seq ?_
              obtain ⟨J233, hJ233, h⟩ := M.join_use h
              refine WE.regJ (fun e w => ∃ (x234 : Bool), J233 x234 w ∧ e 0 = (SV.v p0) ∧ e 3 = (SV.v r1) ∧ e 4 = (Value.int .i64 x3) ∧ e 5 = (Value.pointer (some x17)) ∧ e 6 = (Value.pointer (some x18)) ∧ e 8 = (Value.int .i64 x119) ∧ e 11 = (Value.int .i64 x219) ∧ e 71 = (Value.bool x234)) ?_ ?_
              · clear hJ233
                refine LE.p (v := (Value.bool r197)) (Wn.no rfl) rfl (R.move f230) ?_
                refine LE.p (v := (Value.bool r197)) (Wn.no rfl) rfl (R.move rfl) ?_
                rcases M.ite_use h with ⟨hb235, h⟩ | ⟨hb235, h⟩
                · refine LE.p (v := (Value.bool r201)) (Wn.yes 1 60 true rfl rfl rfl (congrArg Value.bool hb235)) rfl (R.move f231) ?_
                  refine LE.p (v := (Value.bool r201)) (Wn.no rfl) rfl (R.pickT (congrArg Value.bool hb235) rfl) ?_
                  refine LE.p (v := (Value.bool r201)) (Wn.no rfl) rfl (R.move rfl) ?_
                  rcases M.ite_use h with ⟨hb236, h⟩ | ⟨hb236, h⟩
                  · refine LE.u (Un.no 4 63 false rfl rfl rfl (congrArg Value.bool hb236)) ?_
                    refine LE.u (Un.no 4 63 false rfl rfl rfl (congrArg Value.bool hb236)) ?_
                    refine LE.u (Un.no 4 63 false rfl rfl rfl (congrArg Value.bool hb236)) ?_
                    refine LE.u (Un.un 7 66 true rfl rfl rfl rfl) ?_
                    refine LE.u (Un.un 7 66 true rfl rfl rfl rfl) ?_
                    refine LE.u (Un.un 7 66 true rfl rfl rfl rfl) ?_
                    refine LE.u (Un.no 4 63 false rfl rfl rfl (congrArg Value.bool hb236)) ?_
                    refine LE.p (v := (Value.bool true)) (Wn.no rfl) rfl (R.pickT (congrArg Value.bool hb236) rfl) ?_
                    refine LE.nil ?_
                    exact ⟨_, h, f223, f224, f225, f226, f227, f229, f232, rfl⟩
                  · refine LE.p (v := (Value.int .i64 x118)) (Wn.yes 4 63 false rfl rfl rfl (congrArg Value.bool hb236)) rfl (R.move f228) ?_
                    refine LE.p (v := (Value.bool (x118 != (0 : Int)))) (Wn.yes 4 63 false rfl rfl rfl (congrArg Value.bool hb236)) rfl (R.neq rfl rfl) ?_
                    refine LE.p (v := (Value.bool (x118 != (0 : Int)))) (Wn.yes 4 63 false rfl rfl rfl (congrArg Value.bool hb236)) rfl (R.move rfl) ?_
                    rcases M.ite_use h with ⟨hb237, h⟩ | ⟨hb237, h⟩
                    · refine LE.p (v := (Value.int .i64 x219)) (Wn.yes 7 66 true rfl rfl rfl (congrArg Value.bool hb237)) rfl (R.move f232) ?_
                      refine LE.p (v := (Value.int .i64 x118)) (Wn.yes 7 66 true rfl rfl rfl (congrArg Value.bool hb237)) rfl (R.move f228) ?_
                      refine LE.p (v := (Value.bool (x219 != x118))) (Wn.yes 7 66 true rfl rfl rfl (congrArg Value.bool hb237)) rfl (R.neq rfl rfl) ?_
                      refine LE.p (v := (Value.bool (x219 != x118))) (Wn.yes 4 63 false rfl rfl rfl (congrArg Value.bool hb236)) rfl (R.pickT (congrArg Value.bool hb237) rfl) ?_
                      refine LE.p (v := (Value.bool (x219 != x118))) (Wn.no rfl) rfl (R.pickF (congrArg Value.bool hb236) rfl) ?_
                      refine LE.nil ?_
                      exact ⟨_, h, f223, f224, f225, f226, f227, f229, f232, rfl⟩
                    · refine LE.u (Un.no 7 66 true rfl rfl rfl (congrArg Value.bool hb237)) ?_
                      refine LE.u (Un.no 7 66 true rfl rfl rfl (congrArg Value.bool hb237)) ?_
                      refine LE.u (Un.no 7 66 true rfl rfl rfl (congrArg Value.bool hb237)) ?_
                      refine LE.p (v := (Value.bool false)) (Wn.yes 4 63 false rfl rfl rfl (congrArg Value.bool hb236)) rfl (R.pickF (congrArg Value.bool hb237) rfl) ?_
                      refine LE.p (v := (Value.bool false)) (Wn.no rfl) rfl (R.pickF (congrArg Value.bool hb236) rfl) ?_
                      refine LE.nil ?_
                      exact ⟨_, h, f223, f224, f225, f226, f227, f229, f232, rfl⟩
                · refine LE.u (Un.no 1 60 true rfl rfl rfl (congrArg Value.bool hb235)) ?_
                  refine LE.p (v := (Value.bool false)) (Wn.no rfl) rfl (R.pickF (congrArg Value.bool hb235) rfl) ?_
                  refine LE.p (v := (Value.bool false)) (Wn.no rfl) rfl (R.move rfl) ?_
                  refine LE.p (v := (Value.int .i64 x118)) (Wn.yes 4 63 false rfl rfl rfl rfl) rfl (R.move f228) ?_
                  refine LE.p (v := (Value.bool (x118 != (0 : Int)))) (Wn.yes 4 63 false rfl rfl rfl rfl) rfl (R.neq rfl rfl) ?_
                  refine LE.p (v := (Value.bool (x118 != (0 : Int)))) (Wn.yes 4 63 false rfl rfl rfl rfl) rfl (R.move rfl) ?_
                  rcases M.ite_use h with ⟨hb238, h⟩ | ⟨hb238, h⟩
                  · refine LE.p (v := (Value.int .i64 x219)) (Wn.yes 7 66 true rfl rfl rfl (congrArg Value.bool hb238)) rfl (R.move f232) ?_
                    refine LE.p (v := (Value.int .i64 x118)) (Wn.yes 7 66 true rfl rfl rfl (congrArg Value.bool hb238)) rfl (R.move f228) ?_
                    refine LE.p (v := (Value.bool (x219 != x118))) (Wn.yes 7 66 true rfl rfl rfl (congrArg Value.bool hb238)) rfl (R.neq rfl rfl) ?_
                    refine LE.p (v := (Value.bool (x219 != x118))) (Wn.yes 4 63 false rfl rfl rfl rfl) rfl (R.pickT (congrArg Value.bool hb238) rfl) ?_
                    refine LE.p (v := (Value.bool (x219 != x118))) (Wn.no rfl) rfl (R.pickF rfl rfl) ?_
                    refine LE.nil ?_
                    exact ⟨_, h, f223, f224, f225, f226, f227, f229, f232, rfl⟩
                  · refine LE.u (Un.no 7 66 true rfl rfl rfl (congrArg Value.bool hb238)) ?_
                    refine LE.u (Un.no 7 66 true rfl rfl rfl (congrArg Value.bool hb238)) ?_
                    refine LE.u (Un.no 7 66 true rfl rfl rfl (congrArg Value.bool hb238)) ?_
                    refine LE.p (v := (Value.bool false)) (Wn.yes 4 63 false rfl rfl rfl rfl) rfl (R.pickF (congrArg Value.bool hb238) rfl) ?_
                    refine LE.p (v := (Value.bool false)) (Wn.no rfl) rfl (R.pickF rfl rfl) ?_
                    refine LE.nil ?_
                    exact ⟨_, h, f223, f224, f225, f226, f227, f229, f232, rfl⟩
              · rintro e239 w240 ⟨x234, h, f241, f242, f243, f244, f245, f246, f247, f248⟩
                subst hJ233
                refine WE.condT rfl (b := x234) f248 ?_ ?_
                · intro hb249
                  replace h := M.ite_t h hb249
                  refine WE.seq ?_
                  refine WE.reg ?_
                  refine LE.p (v := (Value.bool false)) (Wn.no rfl) rfl (R.assign rfl) ?_
                  refine LE.nil ?_
                  refine WE.ret ?_
                  exact ⟨_, (Res.tmp rfl Res.nil), _, rfl, h⟩
                · intro hb249
                  replace h := M.ite_f h hb249
                  refine WE.skip ?_
                  refine WE.reg ?_
                  refine LE.p (v := (Value.int .i64 x219)) (Wn.no rfl) rfl (R.move f247) ?_
                  refine LE.p (v := (Value.int .i64 x219)) (Wn.no rfl) rfl (R.assign rfl) ?_
                  refine LE.nil ?_
                  refine WE.reg ?_
                  refine LE.p (v := (Value.int .i64 x119)) (Wn.no rfl) rfl (R.move f246) ?_
                  refine LE.p (v := (Value.int .i64 (IntKind.i64.wrap (x119 + (1 : Int))))) (Wn.no rfl) rfl (R.add rfl rfl) ?_
                  refine LE.p (v := (Value.int .i64 (IntKind.i64.wrap (x119 + (1 : Int))))) (Wn.no rfl) rfl (R.assign rfl) ?_
                  refine LE.nil ?_
                  obtain ⟨m126, hm127, h⟩ := h
                  exact ⟨m126, hm127, _, _, h, f241, f242, f243, f244, f245, rfl, rfl⟩
        · intro hb135
          replace h := M.ite_f h hb135
          refine WE.exit ?_
          refine WE.seq ?_
          refine WE.reg ?_
          obtain ⟨t250, t251, t252, t253, t254, t255, t256, t257, t258, t259, t260, t261, t262, t263, h264, h⟩ := h
          refine LE.r (v := (Value.agg #[(Value.int .i64 t250), (Value.int .u32 t251), (Value.int .u32 t252), (Value.bool t253), (Value.int .i64 t254), (SV.v t255), (Value.int .u32 t256), (Value.bool t257), (Value.int .u32 t258), (Value.bool t259), (Value.int .u32 t260), (Value.bool t261), (SV.v t262), (Value.float .f64 t263)])) (Wn.no rfl) rfl (R.ldA ag37 sz37 f131 rfl h264) ?_
          obtain ⟨t265, t266, t267, t268, t269, t270, t271, t272, t273, t274, t275, t276, t277, t278, h279, h⟩ := h
          refine LE.r (v := (Value.agg #[(Value.int .i64 t265), (Value.int .u32 t266), (Value.int .u32 t267), (Value.bool t268), (Value.int .i64 t269), (SV.v t270), (Value.int .u32 t271), (Value.bool t272), (Value.int .u32 t273), (Value.bool t274), (Value.int .u32 t275), (Value.bool t276), (SV.v t277), (Value.float .f64 t278)])) (Wn.no rfl) rfl (R.ldA ag37 sz37 f132 rfl h279) ?_
          obtain ⟨b282, hpb282, w280, hww280, h⟩ := M.new_use h
          refine LE.r (v := (SV.v (SV.mk (some b282) 2 2))) (Wn.no rfl) rfl (R.bsl (by exact (Ls.cons (R.Pr rfl) (Ls.cons (R.Pr rfl) Ls.nil))) (fun w => bs24_2 t250 t251 t252 t253 t254 t255 t256 t257 t258 t259 t260 t261 t262 t263 t265 t266 t267 t268 t269 t270 t271 t272 t273 t274 t275 t276 t277 t278 w) hpb282 hww280) ?_
          refine LE.c (Wn.no rfl) rfl (R.call bd13 (Ls.cons rfl Ls.nil) rfl) (Calls.mono h ?_)
          rintro _ w285 ⟨r283, r284, rfl, h⟩
          refine ⟨_, rfl, ?_⟩
          refine LE.p (v := (Value.tuple #[(Value.int .i64 r283), (Value.bool r284)])) (Wn.no rfl) rfl (R.move rfl) ?_
          refine LE.p (v := (Value.int .i64 r283)) (Wn.no rfl) rfl (R.ext rfl rfl) ?_
          refine LE.p (v := (Value.bool r284)) (Wn.no rfl) rfl (R.ext rfl rfl) ?_
          refine LE.p (v := (Value.int .i64 r283)) (Wn.no rfl) rfl (R.assign rfl) ?_
          refine LE.p (v := (Value.bool r284)) (Wn.no rfl) rfl (R.assign rfl) ?_
          refine LE.nil ?_
          refine WE.seq ?_
          obtain ⟨J286, hJ286, h⟩ := M.join_use h
          refine WE.regJ (fun e w => ∃ (x287 : Bool), J286 x287 w ∧ e 0 = (SV.v p0) ∧ e 3 = (SV.v r1) ∧ e 4 = (Value.int .i64 x3) ∧ e 91 = (Value.bool x287)) ?_ ?_
          · clear hJ286
            refine LE.p (v := (Value.bool r284)) (Wn.no rfl) rfl (R.move rfl) ?_
            refine LE.p (v := (Value.bool (!r284))) (Wn.no rfl) rfl (R.not rfl) ?_
            refine LE.p (v := (Value.bool (!r284))) (Wn.no rfl) rfl (R.move rfl) ?_
            rcases M.ite_use h with ⟨hb288, h⟩ | ⟨hb288, h⟩
            · refine LE.u (Un.no 2 82 false rfl rfl rfl (congrArg Value.bool hb288)) ?_
              refine LE.u (Un.no 2 82 false rfl rfl rfl (congrArg Value.bool hb288)) ?_
              refine LE.p (v := (Value.bool true)) (Wn.no rfl) rfl (R.pickT (congrArg Value.bool hb288) rfl) ?_
              refine LE.p (v := (Value.bool true)) (Wn.no rfl) rfl (R.move rfl) ?_
              refine LE.u (Un.no 6 86 false rfl rfl rfl rfl) ?_
              refine LE.u (Un.no 6 86 false rfl rfl rfl rfl) ?_
              refine LE.u (Un.no 6 86 false rfl rfl rfl rfl) ?_
              refine LE.u (Un.no 6 86 false rfl rfl rfl rfl) ?_
              refine LE.p (v := (Value.bool true)) (Wn.no rfl) rfl (R.pickT rfl rfl) ?_
              refine LE.nil ?_
              exact ⟨_, h, f128, f129, f130, rfl⟩
            · refine LE.p (v := (Value.int .i64 x118)) (Wn.yes 2 82 false rfl rfl rfl (congrArg Value.bool hb288)) rfl (R.move f133) ?_
              refine LE.p (v := (Value.bool (x118 == (0 : Int)))) (Wn.yes 2 82 false rfl rfl rfl (congrArg Value.bool hb288)) rfl (R.eql rfl rfl) ?_
              refine LE.p (v := (Value.bool (x118 == (0 : Int)))) (Wn.no rfl) rfl (R.pickF (congrArg Value.bool hb288) rfl) ?_
              refine LE.p (v := (Value.bool (x118 == (0 : Int)))) (Wn.no rfl) rfl (R.move rfl) ?_
              rcases M.ite_use h with ⟨hb289, h⟩ | ⟨hb289, h⟩
              · refine LE.u (Un.no 6 86 false rfl rfl rfl (congrArg Value.bool hb289)) ?_
                refine LE.u (Un.no 6 86 false rfl rfl rfl (congrArg Value.bool hb289)) ?_
                refine LE.u (Un.no 6 86 false rfl rfl rfl (congrArg Value.bool hb289)) ?_
                refine LE.u (Un.no 6 86 false rfl rfl rfl (congrArg Value.bool hb289)) ?_
                refine LE.p (v := (Value.bool true)) (Wn.no rfl) rfl (R.pickT (congrArg Value.bool hb289) rfl) ?_
                refine LE.nil ?_
                exact ⟨_, h, f128, f129, f130, rfl⟩
              · refine LE.p (v := (Value.int .i64 r283)) (Wn.yes 6 86 false rfl rfl rfl (congrArg Value.bool hb289)) rfl (R.move rfl) ?_
                refine LE.p (v := (Value.int .i64 x118)) (Wn.yes 6 86 false rfl rfl rfl (congrArg Value.bool hb289)) rfl (R.move f133) ?_
                refine LE.p (v := (Value.int .i64 (IntKind.i64.wrap (x118 - (1 : Int))))) (Wn.yes 6 86 false rfl rfl rfl (congrArg Value.bool hb289)) rfl (R.sub rfl rfl) ?_
                refine LE.p (v := (Value.bool (r283 != (IntKind.i64.wrap (x118 - (1 : Int)))))) (Wn.yes 6 86 false rfl rfl rfl (congrArg Value.bool hb289)) rfl (R.neq rfl rfl) ?_
                refine LE.p (v := (Value.bool (r283 != (IntKind.i64.wrap (x118 - (1 : Int)))))) (Wn.no rfl) rfl (R.pickF (congrArg Value.bool hb289) rfl) ?_
                refine LE.nil ?_
                exact ⟨_, h, f128, f129, f130, rfl⟩
          · rintro e290 w291 ⟨x287, h, f292, f293, f294, f295⟩
            subst hJ286
            refine WE.condT rfl (b := x287) f295 ?_ ?_
            · intro hb296
              replace h := M.ite_t h hb296
              refine WE.seq ?_
              refine WE.reg ?_
              refine LE.p (v := (Value.bool false)) (Wn.no rfl) rfl (R.assign rfl) ?_
              refine LE.nil ?_
              refine WE.ret ?_
              exact ⟨_, (Res.tmp rfl Res.nil), _, rfl, h⟩
            · intro hb296
              replace h := M.ite_f h hb296
              refine WE.skip ?_
              refine WE.reg ?_
              refine LE.p (v := (Value.int .i64 x3)) (Wn.no rfl) rfl (R.move f294) ?_
              refine LE.p (v := (Value.int .i64 (IntKind.i64.wrap (x3 + (1 : Int))))) (Wn.no rfl) rfl (R.add rfl rfl) ?_
              refine LE.p (v := (Value.int .i64 (IntKind.i64.wrap (x3 + (1 : Int))))) (Wn.no rfl) rfl (R.assign rfl) ?_
              refine LE.nil ?_
              obtain ⟨m10, hm11, h⟩ := h
              exact ⟨m10, hm11, _, h, f292, f293, rfl⟩
  · intro hb15
    replace h := M.ite_f h hb15
    refine WE.exit ?_
    refine WE.seq ?_
    refine WE.reg ?_
    refine LE.c (Wn.no rfl) rfl (R.call bd11 Ls.nil rfl) (Calls.mono h ?_)
    rintro _ w298 ⟨r297, rfl, h⟩
    refine ⟨_, rfl, ?_⟩
    refine LE.p (v := (Value.bool r297)) (Wn.no rfl) rfl (R.assign rfl) ?_
    refine LE.nil ?_
    refine WE.ret ?_
    exact ⟨_, (Res.tmp rfl Res.nil), _, rfl, h⟩
end Go.Proofs.Ytmgigplbclkpaaa
