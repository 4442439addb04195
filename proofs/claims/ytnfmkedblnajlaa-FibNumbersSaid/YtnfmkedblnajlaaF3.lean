/-
  Printed by gen.py: the formula of each function, and that it holds of the function.
-/
import Derived.Test.YtnfmkedblnajlaaTy
namespace Go.Proofs.Ytnfmkedblnajlaa
set_option linter.unusedVariables false
set_option linter.unusedSimpArgs false
open Go.Sp
set_option linter.unusedVariables false
/-- The formula of (*signpost.trie.Trie).Match. -/
def F28 (p0 : Option Addr) (p1 : Int) (K : Int → Int → Int → Bool → World → Prop) (w0 : World) : Prop :=
M.new (.cells #[(Value.int .u32 (0 : Int)), (Value.int .i64 (0 : Int))] 33) w0 fun b2 w1 =>
Calls Try.prog 43 #[(Value.pointer p0), (Value.int .u32 p1), (Value.int .i64 (32 : Int))] w1 (R43 fun r3 w4 =>
M.ite ((r3.len : Int) == (0 : Int)) (
M.stA b2 [(Value.int .u32 (0 : Int)), (Value.int .i64 (0 : Int))] w4 fun w6 =>
M.ld (Value.int .u32) b2 w6 fun t8 =>
M.ld (Value.int .i64) (b2.add 1) w6 fun t10 =>
K t8 t10 (0 : Int) false w6) (
M.idx r3 (IntKind.i64.wrap ((r3.len : Int) - (1 : Int))) 2 fun a12 =>
M.ld (Value.int .u32) (a12.add ((IntKind.i64.wrap ((r3.len : Int) - (1 : Int))).toNat * 2)) w4 fun t16 =>
M.ld (Value.int .i64) ((a12.add ((IntKind.i64.wrap ((r3.len : Int) - (1 : Int))).toNat * 2)).add 1) w4 fun t18 =>
M.new (.cells #[(Value.int .u32 (0 : Int)), (Value.int .i64 (0 : Int))] 33) w4 fun b21 w20 =>
M.stA b21 [(Value.int .u32 t16), (Value.int .i64 t18)] w20 fun w22 =>
M.ld (Value.int .u32) b21 w22 fun t24 =>
M.ld (Value.int .i64) (b21.add 1) w22 fun t26 =>
Calls Try.prog 44 #[(Value.pointer p0), (Value.agg #[(Value.int .u32 t24), (Value.int .i64 t26)])] w22 (R44 fun r28 r29 w30 =>
M.ld (Value.int .u32) b21 w30 fun t31 =>
M.ld (Value.int .i64) (b21.add 1) w30 fun t33 =>
M.stA b2 [(Value.int .u32 t31), (Value.int .i64 t33)] w30 fun w35 =>
M.ld (Value.int .u32) b2 w35 fun t37 =>
M.ld (Value.int .i64) (b2.add 1) w35 fun t39 =>
K t37 t39 r28 true w35)))
theorem F28_ok {w0 : World} {p0 : Option Addr} {p1 : Int} {K : Int → Int → Int → Bool → World → Prop} (h : F28 p0 p1 K w0) : Calls Try.prog 28 #[(Value.pointer p0), (Value.int .u32 p1)] w0 (R28 K) := by
  refine calls_of_WE (args := [(Value.pointer p0), (Value.int .u32 p1)]) (rs := [.cell 4 33, .tmp 5, .tmp 6]) Try.func28 rfl (N := 32) rfl rfl rfl rfl ?_
  refine WE.seq ?_
  refine WE.reg ?_
  obtain ⟨b2, hpb2, w1, hww1, h⟩ := M.new_use h
  refine LE.r (v := (Value.pointer (some b2))) (Wn.no rfl) rfl (R.alloc (cs := #[(Value.int .u32 (0 : Int)), (Value.int .i64 (0 : Int))]) ze33 rfl hpb2 hww1) ?_
  refine LE.p (v := (Value.int .i64 (0 : Int))) (Wn.no rfl) rfl (R.assign rfl) ?_
  refine LE.p (v := (Value.bool false)) (Wn.no rfl) rfl (R.assign rfl) ?_
  refine LE.nil ?_
  refine WE.seq ?_
  refine WE.reg ?_
  refine LE.p (v := (Value.pointer p0)) (Wn.no rfl) rfl (R.move rfl) ?_
  refine LE.p (v := (Value.int .u32 p1)) (Wn.no rfl) rfl (R.move rfl) ?_
  refine LE.c (Wn.no rfl) rfl (R.call bd43 (Ls.cons rfl (Ls.cons rfl (Ls.cons rfl Ls.nil))) rfl) (Calls.mono h ?_)
  rintro _ w4 ⟨r3, rfl, h⟩
  refine ⟨_, rfl, ?_⟩
  refine LE.p (v := (SV.v r3)) (Wn.no rfl) rfl (R.assign rfl) ?_
  refine LE.nil ?_
  refine WE.seq ?_
  refine WE.seq ?_
  refine WE.reg ?_
  refine LE.p (v := (SV.v r3)) (Wn.no rfl) rfl (R.move rfl) ?_
  refine LE.p (v := (Value.int .i64 (r3.len : Int))) (Wn.no rfl) rfl (R.len sl69 rfl) ?_
  refine LE.p (v := (Value.bool ((r3.len : Int) == (0 : Int)))) (Wn.no rfl) rfl (R.eql rfl rfl) ?_
  refine LE.nil ?_
  refine WE.condT rfl (b := ((r3.len : Int) == (0 : Int))) rfl ?_ ?_
  · intro hb5
    replace h := M.ite_t h hb5
    refine WE.seq ?_
    refine WE.reg ?_
    refine LE.p (v := (Value.agg #[(Value.int .u32 (0 : Int)), (Value.int .i64 (0 : Int))])) (Wn.no rfl) rfl (R.bld (by exact Ls.nil) (fun w => bu33_  w)) ?_
    obtain ⟨w6, hww6, h7, h⟩ := M.stA_use h
    refine LE.s (Wn.no rfl) rfl (R.stA (a := b2) [(Value.int .u32 (0 : Int)), (Value.int .i64 (0 : Int))] sz33 rfl rfl rfl (by simp [Value.oneCell']) h7 hww6) ?_
    refine LE.p (v := (Value.int .i64 (0 : Int))) (Wn.no rfl) rfl (R.assign rfl) ?_
    refine LE.p (v := (Value.bool false)) (Wn.no rfl) rfl (R.assign rfl) ?_
    refine LE.nil ?_
    refine WE.ret ?_
    obtain ⟨t8, h9, h⟩ := h
    obtain ⟨t10, h11, h⟩ := h
    exact ⟨_, (Res.cell rfl (R.ldCellA ag33 sz33 rfl (Cs.cons h9 (Cs.cons h11 Cs.nil))) (Res.tmp rfl (Res.tmp rfl Res.nil))), _, _, _, _, rfl, h⟩
  · intro hb5
    replace h := M.ite_f h hb5
    refine WE.skip ?_
    refine WE.seq ?_
    refine WE.reg ?_
    refine LE.p (v := (SV.v r3)) (Wn.no rfl) rfl (R.move rfl) ?_
    refine LE.p (v := (SV.v r3)) (Wn.no rfl) rfl (R.move rfl) ?_
    refine LE.p (v := (Value.int .i64 (r3.len : Int))) (Wn.no rfl) rfl (R.len sl69 rfl) ?_
    refine LE.p (v := (Value.int .i64 (IntKind.i64.wrap ((r3.len : Int) - (1 : Int))))) (Wn.no rfl) rfl (R.sub rfl rfl) ?_
    obtain ⟨a12, h13, h14, h15, h⟩ := h
    refine LE.p (v := (Value.pointer (some (a12.add ((IntKind.i64.wrap ((r3.len : Int) - (1 : Int))).toNat * 2))))) (Wn.no rfl) rfl (R.idx (s := r3) sl69 rfl rfl h13 h14 h15) ?_
    obtain ⟨t16, h17, h⟩ := h
    obtain ⟨t18, h19, h⟩ := h
    refine LE.r (v := (Value.agg #[(Value.int .u32 t16), (Value.int .i64 t18)])) (Wn.no rfl) rfl (R.ldA ag33 sz33 rfl rfl (Cs.cons h17 (Cs.cons h19 Cs.nil))) ?_
    obtain ⟨b21, hpb21, w20, hww20, h⟩ := M.new_use h
    refine LE.r (v := (Value.pointer (some b21))) (Wn.no rfl) rfl (R.alloc (cs := #[(Value.int .u32 (0 : Int)), (Value.int .i64 (0 : Int))]) ze33 rfl hpb21 hww20) ?_
    obtain ⟨w22, hww22, h23, h⟩ := M.stA_use h
    refine LE.s (Wn.no rfl) rfl (R.stA (a := b21) [(Value.int .u32 t16), (Value.int .i64 t18)] sz33 rfl rfl rfl (by simp [Value.oneCell']) h23 hww22) ?_
    refine LE.nil ?_
    refine WE.seq ?_
    refine WE.reg ?_
    refine LE.p (v := (Value.pointer p0)) (Wn.no rfl) rfl (R.move rfl) ?_
    obtain ⟨t24, h25, h⟩ := h
    obtain ⟨t26, h27, h⟩ := h
    refine LE.r (v := (Value.agg #[(Value.int .u32 t24), (Value.int .i64 t26)])) (Wn.no rfl) rfl (R.ldA ag33 sz33 rfl rfl (Cs.cons h25 (Cs.cons h27 Cs.nil))) ?_
    refine LE.c (Wn.no rfl) rfl (R.call bd44 (Ls.cons rfl (Ls.cons rfl Ls.nil)) rfl) (Calls.mono h ?_)
    rintro _ w30 ⟨r28, r29, rfl, h⟩
    refine ⟨_, rfl, ?_⟩
    refine LE.p (v := (Value.tuple #[(Value.int .i64 r28), (Value.bool r29)])) (Wn.no rfl) rfl (R.move rfl) ?_
    refine LE.p (v := (Value.int .i64 r28)) (Wn.no rfl) rfl (R.ext rfl rfl) ?_
    refine LE.p (v := (Value.bool r29)) (Wn.no rfl) rfl (R.ext rfl rfl) ?_
    refine LE.p (v := (Value.int .i64 r28)) (Wn.no rfl) rfl (R.assign rfl) ?_
    refine LE.p (v := (Value.bool r29)) (Wn.no rfl) rfl (R.assign rfl) ?_
    refine LE.nil ?_
    refine WE.seq ?_
    refine WE.reg ?_
    obtain ⟨t31, h32, h⟩ := h
    obtain ⟨t33, h34, h⟩ := h
    refine LE.r (v := (Value.agg #[(Value.int .u32 t31), (Value.int .i64 t33)])) (Wn.no rfl) rfl (R.ldA ag33 sz33 rfl rfl (Cs.cons h32 (Cs.cons h34 Cs.nil))) ?_
    refine LE.p (v := (Value.int .i64 r28)) (Wn.no rfl) rfl (R.move rfl) ?_
    obtain ⟨w35, hww35, h36, h⟩ := M.stA_use h
    refine LE.s (Wn.no rfl) rfl (R.stA (a := b2) [(Value.int .u32 t31), (Value.int .i64 t33)] sz33 rfl rfl rfl (by simp [Value.oneCell']) h36 hww35) ?_
    refine LE.p (v := (Value.int .i64 r28)) (Wn.no rfl) rfl (R.assign rfl) ?_
    refine LE.p (v := (Value.bool true)) (Wn.no rfl) rfl (R.assign rfl) ?_
    refine LE.nil ?_
    refine WE.ret ?_
    obtain ⟨t37, h38, h⟩ := h
    obtain ⟨t39, h40, h⟩ := h
    exact ⟨_, (Res.cell rfl (R.ldCellA ag33 sz33 rfl (Cs.cons h38 (Cs.cons h40 Cs.nil))) (Res.tmp rfl (Res.tmp rfl Res.nil))), _, _, _, _, rfl, h⟩
/-- The formula of signpost.signpostref1.Mask. -/
def F29 (p0 : Int) (K : Int → World → Prop) (w0 : World) : Prop :=
M.loop2 (fun (J3 : Int → Int → World → Prop) (x1 : Int) (x2 : Int) (w4 : World) => 
M.join (fun (x15 : Bool) (w18 : World) => 
M.ite x15 (
M.sh (IntKind.u64.wrap (IntKind.i64.wrap ((31 : Int) - x2))) <|
J3 (bOr .u32 x1 (bShl .u32 (1 : Int) (IntKind.u64.wrap (IntKind.i64.wrap ((31 : Int) - x2))))) (IntKind.i64.wrap (x2 + (1 : Int))) w18) (
K x1 w18)) fun J14 => 
M.ite (decide (x2 < p0)) (
J14 (decide (x2 < (32 : Int))) w4) (
J14 false w4)) (0 : Int) (0 : Int) w0
theorem F29_ok {w0 : World} {p0 : Int} {K : Int → World → Prop} (h : F29 p0 K w0) : Calls Try.prog 29 #[(Value.int .i64 p0)] w0 (R29 K) := by
  refine calls_of_WE (args := [(Value.int .i64 p0)]) (rs := [.tmp 2]) Try.func29 rfl (N := 21) rfl rfl rfl rfl ?_
  refine WE.seq ?_
  refine WE.reg ?_
  refine LE.p (v := (Value.int .u32 (0 : Int))) (Wn.no rfl) rfl (R.assign rfl) ?_
  refine LE.nil ?_
  refine WE.seq ?_
  refine WE.reg ?_
  refine LE.p (v := (Value.int .u32 (0 : Int))) (Wn.no rfl) rfl (R.assign rfl) ?_
  refine LE.nil ?_
  refine WE.seq ?_
  refine WE.seq ?_
  refine WE.reg ?_
  refine LE.p (v := (Value.int .i64 (0 : Int))) (Wn.no rfl) rfl (R.assign rfl) ?_
  refine LE.nil ?_
  refine WE.block ?_
  obtain ⟨I7, ⟨n6, h⟩, hr8⟩ := h
  refine WE.loop (fun n e w => ∃ (x1 : Int) (x2 : Int), I7 n x1 x2 w ∧ e 0 = (Value.int .i64 p0) ∧ e 3 = (Value.int .u32 x1) ∧ e 4 = (Value.int .i64 x2)) n6 ⟨_, _, h, rfl, rfl, rfl⟩ ?_
  clear h
  rintro n6 e5 w4 ⟨x1, x2, h, f11, f12, f13⟩
  replace h := hr8 n6 x1 x2 w4 h
  refine WE.seq ?_
  refine WE.seq ?_
  obtain ⟨J14, hJ14, h⟩ := M.join_use h
  refine WE.regJ (fun e w => ∃ (x15 : Bool), J14 x15 w ∧ e 0 = (Value.int .i64 p0) ∧ e 3 = (Value.int .u32 x1) ∧ e 4 = (Value.int .i64 x2) ∧ e 11 = (Value.bool x15)) ?_ ?_
  · clear hJ14
    refine LE.p (v := (Value.int .i64 x2)) (Wn.no rfl) rfl (R.move f13) ?_
    refine LE.p (v := (Value.int .i64 p0)) (Wn.no rfl) rfl (R.move f11) ?_
    refine LE.p (v := (Value.bool (decide (x2 < p0)))) (Wn.no rfl) rfl (R.lss rfl rfl) ?_
    refine LE.p (v := (Value.bool (decide (x2 < p0)))) (Wn.no rfl) rfl (R.move rfl) ?_
    rcases M.ite_use h with ⟨hb16, h⟩ | ⟨hb16, h⟩
    · refine LE.p (v := (Value.int .i64 x2)) (Wn.yes 3 8 true rfl rfl rfl (congrArg Value.bool hb16)) rfl (R.move f13) ?_
      refine LE.p (v := (Value.bool (decide (x2 < (32 : Int))))) (Wn.yes 3 8 true rfl rfl rfl (congrArg Value.bool hb16)) rfl (R.lss rfl rfl) ?_
      refine LE.p (v := (Value.bool (decide (x2 < (32 : Int))))) (Wn.no rfl) rfl (R.pickT (congrArg Value.bool hb16) rfl) ?_
      refine LE.nil ?_
      exact ⟨_, h, f11, f12, f13, rfl⟩
    · refine LE.u (Un.no 3 8 true rfl rfl rfl (congrArg Value.bool hb16)) ?_
      refine LE.u (Un.no 3 8 true rfl rfl rfl (congrArg Value.bool hb16)) ?_
      refine LE.p (v := (Value.bool false)) (Wn.no rfl) rfl (R.pickF (congrArg Value.bool hb16) rfl) ?_
      refine LE.nil ?_
      exact ⟨_, h, f11, f12, f13, rfl⟩
  · rintro e17 w18 ⟨x15, h, f19, f20, f21, f22⟩
    subst hJ14
    refine WE.condT rfl (b := x15) f22 ?_ ?_
    · intro hb23
      replace h := M.ite_t h hb23
      refine WE.skip ?_
      refine WE.seq ?_
      refine WE.block ?_
      refine WE.reg ?_
      refine LE.p (v := (Value.int .u32 x1)) (Wn.no rfl) rfl (R.move f20) ?_
      refine LE.p (v := (Value.int .i64 x2)) (Wn.no rfl) rfl (R.move f21) ?_
      refine LE.p (v := (Value.int .i64 (IntKind.i64.wrap ((31 : Int) - x2)))) (Wn.no rfl) rfl (R.sub rfl rfl) ?_
      refine LE.p (v := (Value.int .u64 (IntKind.u64.wrap (IntKind.i64.wrap ((31 : Int) - x2))))) (Wn.no rfl) rfl (R.conv in89 in3 rfl) ?_
      obtain ⟨h24, h⟩ := h
      refine LE.p (v := (Value.int .u32 (bShl .u32 (1 : Int) (IntKind.u64.wrap (IntKind.i64.wrap ((31 : Int) - x2)))))) (Wn.no rfl) rfl (R.shl rfl rfl h24) ?_
      refine LE.p (v := (Value.int .u32 (bOr .u32 x1 (bShl .u32 (1 : Int) (IntKind.u64.wrap (IntKind.i64.wrap ((31 : Int) - x2))))))) (Wn.no rfl) rfl (R.or rfl rfl) ?_
      refine LE.p (v := (Value.int .u32 (bOr .u32 x1 (bShl .u32 (1 : Int) (IntKind.u64.wrap (IntKind.i64.wrap ((31 : Int) - x2))))))) (Wn.no rfl) rfl (R.assign rfl) ?_
      refine LE.nil ?_
      refine WE.reg ?_
      refine LE.p (v := (Value.int .i64 x2)) (Wn.no rfl) rfl (R.move f21) ?_
      refine LE.p (v := (Value.int .i64 (IntKind.i64.wrap (x2 + (1 : Int))))) (Wn.no rfl) rfl (R.add rfl rfl) ?_
      refine LE.p (v := (Value.int .i64 (IntKind.i64.wrap (x2 + (1 : Int))))) (Wn.no rfl) rfl (R.assign rfl) ?_
      refine LE.nil ?_
      obtain ⟨m9, hm10, h⟩ := h
      exact ⟨m9, hm10, _, _, h, f19, rfl, rfl⟩
    · intro hb23
      replace h := M.ite_f h hb23
      refine WE.exit ?_
      refine WE.seq ?_
      refine WE.reg ?_
      refine LE.p (v := (Value.int .u32 x1)) (Wn.no rfl) rfl (R.move f20) ?_
      refine LE.p (v := (Value.int .u32 x1)) (Wn.no rfl) rfl (R.assign rfl) ?_
      refine LE.nil ?_
      refine WE.ret ?_
      exact ⟨_, (Res.tmp rfl Res.nil), _, rfl, h⟩
/-- The formula of (*signpost.trie.Trie).All. -/
def F30 (p0 : Option Addr) (K : SV → World → Prop) (w0 : World) : Prop :=
Calls Try.prog 45 #[(Value.pointer p0), (Value.agg #[(Value.int .u32 (0 : Int)), (Value.int .i64 (0 : Int))])] w0 (R45 fun r1 w2 =>
K r1 w2)
theorem F30_ok {w0 : World} {p0 : Option Addr} {K : SV → World → Prop} (h : F30 p0 K w0) : Calls Try.prog 30 #[(Value.pointer p0)] w0 (R30 K) := by
  refine calls_of_WE (args := [(Value.pointer p0)]) (rs := [.tmp 2]) Try.func30 rfl (N := 6) rfl rfl rfl rfl ?_
  refine WE.seq ?_
  refine WE.reg ?_
  refine LE.p (v := (SV.v SV.nil)) (Wn.no rfl) rfl (R.assign rfl) ?_
  refine LE.nil ?_
  refine WE.seq ?_
  refine WE.reg ?_
  refine LE.p (v := (Value.pointer p0)) (Wn.no rfl) rfl (R.move rfl) ?_
  refine LE.p (v := (Value.agg #[(Value.int .u32 (0 : Int)), (Value.int .i64 (0 : Int))])) (Wn.no rfl) rfl (R.bld (by exact Ls.nil) (fun w => bu33_  w)) ?_
  refine LE.c (Wn.no rfl) rfl (R.call bd45 (Ls.cons rfl (Ls.cons rfl Ls.nil)) rfl) (Calls.mono h ?_)
  rintro _ w2 ⟨r1, rfl, h⟩
  refine ⟨_, rfl, ?_⟩
  refine LE.p (v := (SV.v r1)) (Wn.no rfl) rfl (R.assign rfl) ?_
  refine LE.nil ?_
  refine WE.ret ?_
  exact ⟨_, (Res.tmp rfl Res.nil), _, rfl, h⟩
/-- The formula of (*signpost.trie.Trie).Cut. -/
def F31 (p0 : Option Addr) (p1_0 : Int) (p1_1 : Int) (K : Bool → World → Prop) (w0 : World) : Prop :=
M.new (.cells #[(Value.int .u32 p1_0), (Value.int .i64 p1_1)] 33) w0 fun b2 w1 =>
M.ld (Value.int .u32) b2 w1 fun t3 =>
M.ld (Value.int .i64) (b2.add 1) w1 fun t5 =>
Calls Try.prog 44 #[(Value.pointer p0), (Value.agg #[(Value.int .u32 t3), (Value.int .i64 t5)])] w1 (R44 fun r7 r8 w9 =>
M.ite (!r8) (
K false w9) (
M.nil p0 fun a11 =>
M.ld (Value.int .i64) (b2.add 1) w9 fun t13 =>
M.loop3 (fun (J18 : SV → Option Addr → Int → World → Prop) (x15 : SV) (x16 : Option Addr) (x17 : Int) (w19 : World) => 
M.ite (decide (x17 < t13)) (
M.new (.cells #[(Value.pointer x16)] 80) w19 fun b35 w33 =>
M.app Try.prog 94 94 94 x15 (SV.v (SV.mk (some b35) 1 1)) w33 fun s36 w37 =>
M.drew w37 fun w39 => 
M.nil x16 fun a40 =>
M.ld (Value.int .u32) b2 w39 fun t42 =>
Calls Try.prog 42 #[(Value.int .u32 t42), (Value.int .i64 x17)] w39 (R42 fun r44 w45 =>
M.inb r44 2 <|
M.ld Value.pointer (a40.add (r44.toNat * 1)) w45 fun t48 =>
J18 s36 t48 (IntKind.i64.wrap (x17 + (1 : Int))) w45)) (
M.nil x16 fun a50 =>
M.st (a50.add 2) (Value.bool false) w19 fun w52 =>
M.nil x16 fun a55 =>
M.st (a55.add 3) (Value.int .i64 (0 : Int)) w52 fun w57 =>
M.nil p0 fun a60 =>
M.ld (Value.int .i64) (a60.add 4) w57 fun t62 =>
M.nil p0 fun a64 =>
M.st (a64.add 4) (Value.int .i64 (IntKind.i64.wrap (t62 - (1 : Int)))) w57 fun w66 =>
M.ld (Value.int .i64) (b2.add 1) w66 fun t69 =>
M.join (fun (w118 : World) => 
K true w118) fun J71 => 
M.loop1 (fun (J73 : Int → World → Prop) (x72 : Int) (w74 : World) => 
M.ite (decide ((0 : Int) ≤ x72)) (
M.ld (Value.int .u32) b2 w74 fun t85 =>
Calls Try.prog 42 #[(Value.int .u32 t85), (Value.int .i64 x72)] w74 (R42 fun r87 w88 =>
M.idx x15 x72 1 fun a89 =>
M.ld Value.pointer (a89.add (x72.toNat * 1)) w88 fun t93 =>
M.nil t93 fun a95 =>
M.inb r87 2 <|
M.ld Value.pointer (a95.add (r87.toNat * 1)) w88 fun t99 =>
Calls Try.prog 46 #[(Value.pointer t99)] w88 (R46 fun r101 w102 =>
M.ite (!r101) (
J71 w102) (
M.idx x15 x72 1 fun a104 =>
M.ld Value.pointer (a104.add (x72.toNat * 1)) w102 fun t108 =>
M.nil t108 fun a110 =>
M.inb r87 2 <|
M.st (a110.add (r87.toNat * 1)) (Value.pointer (none : Option Addr)) w102 fun w114 =>
J73 (IntKind.i64.wrap (x72 - (1 : Int))) w114)))) (
J71 w74)) (IntKind.i64.wrap (t69 - (1 : Int))) w66)) SV.nil (some a11) (0 : Int) w9))
theorem F31_ok {w0 : World} {p0 : Option Addr} {p1_0 : Int} {p1_1 : Int} {K : Bool → World → Prop} (h : F31 p0 p1_0 p1_1 K w0) : Calls Try.prog 31 #[(Value.pointer p0), (Value.agg #[(Value.int .u32 p1_0), (Value.int .i64 p1_1)])] w0 (R31 K) := by
  refine calls_of_WE (args := [(Value.pointer p0), (Value.agg #[(Value.int .u32 p1_0), (Value.int .i64 p1_1)])]) (rs := [.tmp 4]) Try.func31 rfl (N := 85) rfl rfl rfl rfl ?_
  refine WE.seq ?_
  refine WE.reg ?_
  obtain ⟨b2, hpb2, w1, hww1, h⟩ := M.new_use h
  refine LE.r (v := (Value.pointer (some b2))) (Wn.no rfl) rfl (R.box (cs := #[(Value.int .u32 p1_0), (Value.int .i64 p1_1)]) rfl rfl hpb2 hww1) ?_
  refine LE.p (v := (Value.bool false)) (Wn.no rfl) rfl (R.assign rfl) ?_
  refine LE.nil ?_
  refine WE.scope ?_
  refine WE.seq ?_
  refine WE.seq ?_
  refine WE.reg ?_
  refine LE.p (v := (Value.pointer p0)) (Wn.no rfl) rfl (R.move rfl) ?_
  obtain ⟨t3, h4, h⟩ := h
  obtain ⟨t5, h6, h⟩ := h
  refine LE.r (v := (Value.agg #[(Value.int .u32 t3), (Value.int .i64 t5)])) (Wn.no rfl) rfl (R.ldA ag33 sz33 rfl rfl (Cs.cons h4 (Cs.cons h6 Cs.nil))) ?_
  refine LE.c (Wn.no rfl) rfl (R.call bd44 (Ls.cons rfl (Ls.cons rfl Ls.nil)) rfl) (Calls.mono h ?_)
  rintro _ w9 ⟨r7, r8, rfl, h⟩
  refine ⟨_, rfl, ?_⟩
  refine LE.p (v := (Value.tuple #[(Value.int .i64 r7), (Value.bool r8)])) (Wn.no rfl) rfl (R.move rfl) ?_
  refine LE.p (v := (Value.int .i64 r7)) (Wn.no rfl) rfl (R.ext rfl rfl) ?_
  refine LE.p (v := (Value.bool r8)) (Wn.no rfl) rfl (R.ext rfl rfl) ?_
  refine LE.p (v := (Value.int .i64 r7)) (Wn.no rfl) rfl (R.assign rfl) ?_
  refine LE.p (v := (Value.bool r8)) (Wn.no rfl) rfl (R.assign rfl) ?_
  refine LE.nil ?_
  refine WE.seq ?_
  refine WE.reg ?_
  refine LE.p (v := (Value.bool r8)) (Wn.no rfl) rfl (R.move rfl) ?_
  refine LE.p (v := (Value.bool (!r8))) (Wn.no rfl) rfl (R.not rfl) ?_
  refine LE.nil ?_
  refine WE.condT rfl (b := (!r8)) rfl ?_ ?_
  · intro hb10
    replace h := M.ite_t h hb10
    refine WE.seq ?_
    refine WE.reg ?_
    refine LE.p (v := (Value.bool false)) (Wn.no rfl) rfl (R.assign rfl) ?_
    refine LE.nil ?_
    refine WE.ret ?_
    exact ⟨_, (Res.tmp rfl Res.nil), _, rfl, h⟩
  · intro hb10
    replace h := M.ite_f h hb10
    refine WE.skip ?_
    refine WE.seq ?_
    refine WE.reg ?_
    refine LE.p (v := (SV.v SV.nil)) (Wn.no rfl) rfl (R.assign rfl) ?_
    refine LE.nil ?_
    refine WE.seq ?_
    refine WE.reg ?_
    refine LE.p (v := (Value.pointer p0)) (Wn.no rfl) rfl (R.move rfl) ?_
    obtain ⟨a11, h12, h⟩ := h
    refine LE.p (v := (Value.pointer (some a11))) (Wn.no rfl) rfl (R.nilC (congrArg Value.pointer h12)) ?_
    refine LE.p (v := (Value.pointer (some a11))) (Wn.no rfl) rfl (R.fld (off := 0) fa85_0 rfl) ?_
    refine LE.p (v := (Value.pointer (some a11))) (Wn.no rfl) rfl (R.assign rfl) ?_
    refine LE.nil ?_
    refine WE.seq ?_
    refine WE.seq ?_
    refine WE.reg ?_
    refine LE.p (v := (Value.pointer (some (b2.add 1)))) (Wn.no rfl) rfl (R.fld (off := 1) fa33_1 rfl) ?_
    obtain ⟨t13, h14, h⟩ := h
    refine LE.r (v := (Value.int .i64 t13)) (Wn.no rfl) rfl (R.ld sc3 rfl h14) ?_
    refine LE.p (v := (Value.int .i64 (0 : Int))) (Wn.no rfl) rfl (R.move rfl) ?_
    refine LE.nil ?_
    refine WE.block ?_
    obtain ⟨I22, ⟨n21, h⟩, hr23⟩ := h
    refine WE.loop (fun n e w => ∃ (x15 : SV) (x16 : Option Addr) (x17 : Int), I22 n x15 x16 x17 w ∧ e 0 = (Value.pointer p0) ∧ e 3 = (Value.pointer (some b2)) ∧ e 7 = (SV.v x15) ∧ e 8 = (Value.pointer x16) ∧ e 24 = (Value.int .i64 t13) ∧ e 25 = (Value.int .i64 x17)) n21 ⟨_, _, _, h, rfl, rfl, rfl, rfl, rfl, rfl⟩ ?_
    clear h
    rintro n21 e20 w19 ⟨x15, x16, x17, h, f26, f27, f28, f29, f30, f31⟩
    replace h := hr23 n21 x15 x16 x17 w19 h
    refine WE.seq ?_
    refine WE.reg ?_
    refine LE.p (v := (Value.bool (decide (x17 < t13)))) (Wn.no rfl) rfl (R.lss f31 f30) ?_
    refine LE.nil ?_
    refine WE.seq ?_
    refine WE.condT rfl (b := (decide (x17 < t13))) rfl ?_ ?_
    · intro hb32
      replace h := M.ite_t h hb32
      refine WE.skip ?_
      refine WE.seq ?_
      refine WE.block ?_
      refine WE.seq ?_
      refine WE.reg ?_
      refine LE.p (v := (Value.int .i64 x17)) (Wn.no rfl) rfl (R.move f31) ?_
      refine LE.p (v := (Value.int .i64 x17)) (Wn.no rfl) rfl (R.assign rfl) ?_
      refine LE.nil ?_
      refine WE.seq ?_
      refine WE.reg ?_
      refine LE.p (v := (SV.v x15)) (Wn.no rfl) rfl (R.move f28) ?_
      refine LE.p (v := (Value.pointer x16)) (Wn.no rfl) rfl (R.move f29) ?_
      obtain ⟨b35, hpb35, w33, hww33, h⟩ := M.new_use h
      refine LE.r (v := (SV.v (SV.mk (some b35) 1 1))) (Wn.no rfl) rfl (R.bsl (by exact (Ls.cons (R.Pr rfl) Ls.nil)) (fun w => bs94_1 x16 w) hpb35 hww33) ?_
      obtain ⟨s36, w37, h38, h⟩ := h
      refine LE.r (v := (SV.v s36)) (Wn.no rfl) rfl (R.app (s := x15) (r := s36) rfl rfl h38) ?_
      refine LE.p (v := (SV.v s36)) (Wn.no rfl) rfl (R.assign rfl) ?_
      refine LE.nil ?_
      refine WE.draw mix ?_
      obtain ⟨w39, hww39, h⟩ := M.drew_use h
      rw [← hww39]
      clear hww39
      refine DE.t 0 (v := (Value.pointer x16)) rfl (by kernel_rfl) (Wn.no rfl) rfl (R.move f29) ?_
      refine DE.t 1 (v := (Value.pointer (some b2))) rfl (by kernel_rfl) (Wn.no rfl) rfl (R.fld (off := 0) fa33_0 f27) ?_
      refine DE.t 3 (v := (Value.int .i64 x17)) rfl (by kernel_rfl) (Wn.no rfl) rfl (R.move rfl) ?_
      obtain ⟨a40, h41, h⟩ := h
      refine DE.t 5 (v := (Value.pointer (some a40))) rfl (by kernel_rfl) (Wn.no rfl) rfl (R.nilC (congrArg Value.pointer h41)) ?_
      refine DE.t 6 (v := (Value.pointer (some a40))) rfl (by kernel_rfl) (Wn.no rfl) rfl (R.fld (off := 0) fa83_0 rfl) ?_
      obtain ⟨t42, h43, h⟩ := h
      refine DE.main 2 (by kernel_rfl) ?_
      refine One.r 2 (v := (Value.int .u32 t42)) rfl (Wn.no rfl) rfl (R.ld sc23 rfl h43) (.inl rfl) ?_
      refine DE.main 4 (by kernel_rfl) ?_
      refine One.c 4 rfl (Wn.no rfl) rfl (R.call bd42 (Ls.cons rfl (Ls.cons rfl Ls.nil)) rfl) (Calls.mono h ?_)
      rintro _ w45 ⟨r44, rfl, h⟩
      refine ⟨_, rfl, trivial, ?_⟩
      obtain ⟨h46, h47, h⟩ := h
      refine DE.t 7 (v := (Value.pointer (some (a40.add (r44.toNat * 1))))) rfl (by kernel_rfl) (Wn.no rfl) rfl (R.idxArr ar81 rfl rfl h46 h47) ?_
      obtain ⟨t48, h49, h⟩ := h
      refine DE.main 8 (by kernel_rfl) ?_
      refine One.r 8 (v := (Value.pointer t48)) rfl (Wn.no rfl) rfl (R.ld sc80 rfl h49) (.inl rfl) ?_
      refine DE.t 9 (v := (Value.pointer t48)) rfl (by kernel_rfl) (Wn.no rfl) rfl (R.assign rfl) ?_
      refine DE.done (by kernel_rfl) ?_
      refine WE.reg ?_
      refine LE.p (v := (Value.int .i64 (IntKind.i64.wrap (x17 + (1 : Int))))) (Wn.no rfl) rfl (R.add f31 rfl) ?_
      refine LE.p (v := (Value.int .i64 (IntKind.i64.wrap (x17 + (1 : Int))))) (Wn.no rfl) rfl (R.move rfl) ?_
      refine LE.nil ?_
      obtain ⟨m24, hm25, h⟩ := h
      exact ⟨m24, hm25, _, _, _, h, f26, f27, rfl, rfl, f30, rfl⟩
    · intro hb32
      replace h := M.ite_f h hb32
      refine WE.exit ?_
      refine WE.seq ?_
      refine WE.reg ?_
      refine LE.p (v := (Value.pointer x16)) (Wn.no rfl) rfl (R.move f29) ?_
      refine LE.p (v := (Value.pointer x16)) (Wn.no rfl) rfl (R.move f29) ?_
      obtain ⟨a50, h51, h⟩ := h
      refine LE.p (v := (Value.pointer (some a50))) (Wn.no rfl) rfl (R.nilC (congrArg Value.pointer h51)) ?_
      refine LE.p (v := (Value.pointer (some (a50.add 2)))) (Wn.no rfl) rfl (R.fld (off := 2) fa83_1 rfl) ?_
      obtain ⟨w52, hww52, h53, h54, h⟩ := M.st_use h
      refine LE.s (Wn.no rfl) rfl (R.st (a := (a50.add 2)) (v := (Value.bool false)) sz4 rfl rfl rfl rfl h53 h54 hww52) ?_
      obtain ⟨a55, h56, h⟩ := h
      refine LE.p (v := (Value.pointer (some a55))) (Wn.no rfl) rfl (R.nilC (congrArg Value.pointer h56)) ?_
      refine LE.p (v := (Value.pointer (some (a55.add 3)))) (Wn.no rfl) rfl (R.fld (off := 3) fa83_2 rfl) ?_
      obtain ⟨w57, hww57, h58, h59, h⟩ := M.st_use h
      refine LE.s (Wn.no rfl) rfl (R.st (a := (a55.add 3)) (v := (Value.int .i64 (0 : Int))) sz3 rfl rfl rfl rfl h58 h59 hww57) ?_
      refine LE.nil ?_
      refine WE.seq ?_
      refine WE.reg ?_
      refine LE.p (v := (Value.pointer p0)) (Wn.no rfl) rfl (R.move f26) ?_
      obtain ⟨a60, h61, h⟩ := h
      refine LE.p (v := (Value.pointer (some a60))) (Wn.no rfl) rfl (R.nilC (congrArg Value.pointer h61)) ?_
      refine LE.p (v := (Value.pointer (some (a60.add 4)))) (Wn.no rfl) rfl (R.fld (off := 4) fa85_1 rfl) ?_
      obtain ⟨t62, h63, h⟩ := h
      refine LE.r (v := (Value.int .i64 t62)) (Wn.no rfl) rfl (R.ld sc3 rfl h63) ?_
      refine LE.p (v := (Value.int .i64 (IntKind.i64.wrap (t62 - (1 : Int))))) (Wn.no rfl) rfl (R.sub rfl rfl) ?_
      obtain ⟨a64, h65, h⟩ := h
      refine LE.p (v := (Value.pointer (some a64))) (Wn.no rfl) rfl (R.nilC (congrArg Value.pointer h65)) ?_
      refine LE.p (v := (Value.pointer (some (a64.add 4)))) (Wn.no rfl) rfl (R.fld (off := 4) fa85_1 rfl) ?_
      obtain ⟨w66, hww66, h67, h68, h⟩ := M.st_use h
      refine LE.s (Wn.no rfl) rfl (R.st (a := (a64.add 4)) (v := (Value.int .i64 (IntKind.i64.wrap (t62 - (1 : Int))))) sz3 rfl rfl rfl rfl h67 h68 hww66) ?_
      refine LE.nil ?_
      refine WE.seq ?_
      refine WE.label ?_
      refine WE.seq ?_
      refine WE.seq ?_
      refine WE.reg ?_
      refine LE.p (v := (Value.pointer (some (b2.add 1)))) (Wn.no rfl) rfl (R.fld (off := 1) fa33_1 f27) ?_
      obtain ⟨t69, h70, h⟩ := h
      refine LE.r (v := (Value.int .i64 t69)) (Wn.no rfl) rfl (R.ld sc3 rfl h70) ?_
      refine LE.p (v := (Value.int .i64 (IntKind.i64.wrap (t69 - (1 : Int))))) (Wn.no rfl) rfl (R.sub rfl rfl) ?_
      refine LE.p (v := (Value.int .i64 (IntKind.i64.wrap (t69 - (1 : Int))))) (Wn.no rfl) rfl (R.assign rfl) ?_
      refine LE.nil ?_
      obtain ⟨J71, hJ71, h⟩ := M.join_use h
      refine WE.blkJ (fun e w => J71 w) ?_ ?_
      · clear hJ71
        obtain ⟨I77, ⟨n76, h⟩, hr78⟩ := h
        refine WE.loop (fun n e w => ∃ (x72 : Int), I77 n x72 w ∧ e 3 = (Value.pointer (some b2)) ∧ e 7 = (SV.v x15) ∧ e 10 = (Value.int .i64 x72)) n76 ⟨_, h, f27, f28, rfl⟩ ?_
        clear h
        rintro n76 e75 w74 ⟨x72, h, f81, f82, f83⟩
        replace h := hr78 n76 x72 w74 h
        refine WE.seq ?_
        refine WE.seq ?_
        refine WE.reg ?_
        refine LE.p (v := (Value.int .i64 x72)) (Wn.no rfl) rfl (R.move f83) ?_
        refine LE.p (v := (Value.bool (decide ((0 : Int) ≤ x72)))) (Wn.no rfl) rfl (R.geq rfl rfl) ?_
        refine LE.nil ?_
        refine WE.condT rfl (b := (decide ((0 : Int) ≤ x72))) rfl ?_ ?_
        · intro hb84
          replace h := M.ite_t h hb84
          refine WE.skip ?_
          refine WE.seq ?_
          refine WE.block ?_
          refine WE.seq ?_
          refine WE.reg ?_
          refine LE.p (v := (Value.pointer (some b2))) (Wn.no rfl) rfl (R.fld (off := 0) fa33_0 f81) ?_
          obtain ⟨t85, h86, h⟩ := h
          refine LE.r (v := (Value.int .u32 t85)) (Wn.no rfl) rfl (R.ld sc23 rfl h86) ?_
          refine LE.p (v := (Value.int .i64 x72)) (Wn.no rfl) rfl (R.move f83) ?_
          refine LE.c (Wn.no rfl) rfl (R.call bd42 (Ls.cons rfl (Ls.cons rfl Ls.nil)) rfl) (Calls.mono h ?_)
          rintro _ w88 ⟨r87, rfl, h⟩
          refine ⟨_, rfl, ?_⟩
          refine LE.p (v := (Value.int .i64 r87)) (Wn.no rfl) rfl (R.assign rfl) ?_
          refine LE.nil ?_
          refine WE.seq ?_
          refine WE.seq ?_
          refine WE.reg ?_
          refine LE.p (v := (SV.v x15)) (Wn.no rfl) rfl (R.move f82) ?_
          refine LE.p (v := (Value.int .i64 x72)) (Wn.no rfl) rfl (R.move f83) ?_
          obtain ⟨a89, h90, h91, h92, h⟩ := h
          refine LE.p (v := (Value.pointer (some (a89.add (x72.toNat * 1))))) (Wn.no rfl) rfl (R.idx (s := x15) sl94 rfl rfl h90 h91 h92) ?_
          obtain ⟨t93, h94, h⟩ := h
          refine LE.r (v := (Value.pointer t93)) (Wn.no rfl) rfl (R.ld sc80 rfl h94) ?_
          refine LE.p (v := (Value.int .i64 r87)) (Wn.no rfl) rfl (R.move rfl) ?_
          obtain ⟨a95, h96, h⟩ := h
          refine LE.p (v := (Value.pointer (some a95))) (Wn.no rfl) rfl (R.nilC (congrArg Value.pointer h96)) ?_
          refine LE.p (v := (Value.pointer (some a95))) (Wn.no rfl) rfl (R.fld (off := 0) fa83_0 rfl) ?_
          obtain ⟨h97, h98, h⟩ := h
          refine LE.p (v := (Value.pointer (some (a95.add (r87.toNat * 1))))) (Wn.no rfl) rfl (R.idxArr ar81 rfl rfl h97 h98) ?_
          obtain ⟨t99, h100, h⟩ := h
          refine LE.r (v := (Value.pointer t99)) (Wn.no rfl) rfl (R.ld sc80 rfl h100) ?_
          refine LE.c (Wn.no rfl) rfl (R.call bd46 (Ls.cons rfl Ls.nil) rfl) (Calls.mono h ?_)
          rintro _ w102 ⟨r101, rfl, h⟩
          refine ⟨_, rfl, ?_⟩
          refine LE.p (v := (Value.bool (!r101))) (Wn.no rfl) rfl (R.not rfl) ?_
          refine LE.nil ?_
          refine WE.condT rfl (b := (!r101)) rfl ?_ ?_
          · intro hb103
            replace h := M.ite_t h hb103
            refine WE.exit ?_
            exact h
          · intro hb103
            replace h := M.ite_f h hb103
            refine WE.skip ?_
            refine WE.reg ?_
            refine LE.p (v := (SV.v x15)) (Wn.no rfl) rfl (R.move f82) ?_
            refine LE.p (v := (Value.int .i64 x72)) (Wn.no rfl) rfl (R.move f83) ?_
            obtain ⟨a104, h105, h106, h107, h⟩ := h
            refine LE.p (v := (Value.pointer (some (a104.add (x72.toNat * 1))))) (Wn.no rfl) rfl (R.idx (s := x15) sl94 rfl rfl h105 h106 h107) ?_
            obtain ⟨t108, h109, h⟩ := h
            refine LE.r (v := (Value.pointer t108)) (Wn.no rfl) rfl (R.ld sc80 rfl h109) ?_
            refine LE.p (v := (Value.int .i64 r87)) (Wn.no rfl) rfl (R.move rfl) ?_
            obtain ⟨a110, h111, h⟩ := h
            refine LE.p (v := (Value.pointer (some a110))) (Wn.no rfl) rfl (R.nilC (congrArg Value.pointer h111)) ?_
            refine LE.p (v := (Value.pointer (some a110))) (Wn.no rfl) rfl (R.fld (off := 0) fa83_0 rfl) ?_
            obtain ⟨h112, h113, h⟩ := h
            refine LE.p (v := (Value.pointer (some (a110.add (r87.toNat * 1))))) (Wn.no rfl) rfl (R.idxArr ar81 rfl rfl h112 h113) ?_
            obtain ⟨w114, hww114, h115, h116, h⟩ := M.st_use h
            refine LE.s (Wn.no rfl) rfl (R.st (a := (a110.add (r87.toNat * 1))) (v := (Value.pointer (none : Option Addr))) sz80 rfl rfl rfl rfl h115 h116 hww114) ?_
            refine LE.nil ?_
            refine WE.reg ?_
            refine LE.p (v := (Value.int .i64 x72)) (Wn.no rfl) rfl (R.move f83) ?_
            refine LE.p (v := (Value.int .i64 (IntKind.i64.wrap (x72 - (1 : Int))))) (Wn.no rfl) rfl (R.sub rfl rfl) ?_
            refine LE.p (v := (Value.int .i64 (IntKind.i64.wrap (x72 - (1 : Int))))) (Wn.no rfl) rfl (R.assign rfl) ?_
            refine LE.nil ?_
            obtain ⟨m79, hm80, h⟩ := h
            exact ⟨m79, hm80, _, h, f81, f82, rfl⟩
        · intro hb84
          replace h := M.ite_f h hb84
          refine WE.exit ?_
          exact h
      · rintro e117 w118 h
        subst hJ71
        refine WE.seq ?_
        refine WE.reg ?_
        refine LE.p (v := (Value.bool true)) (Wn.no rfl) rfl (R.assign rfl) ?_
        refine LE.nil ?_
        refine WE.ret ?_
        exact ⟨_, (Res.tmp rfl Res.nil), _, rfl, h⟩
/-- The formula of (*signpost.signpostlaw25.played).at. -/
def F32 (p0 : Option Addr) (p1_0 : Int) (p1_1 : Int) (K : Int → World → Prop) (w0 : World) : Prop :=
M.new (.cells #[(Value.int .u32 p1_0), (Value.int .i64 p1_1)] 33) w0 fun b2 w1 =>
M.loop1 (fun (J4 : Int → World → Prop) (x3 : Int) (w5 : World) => 
M.nil p0 fun a15 =>
M.ld SV.v a15 w5 fun t17 =>
M.ite (decide (x3 < (t17.len : Int))) (
M.drew w5 fun w20 => 
M.nil p0 fun a21 =>
M.ld SV.v a21 w20 fun t23 =>
M.idx t23 x3 3 fun a25 =>
M.ld (Value.int .u32) (a25.add (x3.toNat * 3)) w20 fun t29 =>
M.ld (Value.int .i64) ((a25.add (x3.toNat * 3)).add 1) w20 fun t31 =>
M.ld (Value.int .u32) b2 w20 fun t33 =>
M.ld (Value.int .i64) (b2.add 1) w20 fun t35 =>
M.ite ((t29 == t33) && (t31 == t35)) (
K x3 w20) (
J4 (IntKind.i64.wrap (x3 + (1 : Int))) w20)) (
K (-1 : Int) w5)) (0 : Int) w1
theorem F32_ok {w0 : World} {p0 : Option Addr} {p1_0 : Int} {p1_1 : Int} {K : Int → World → Prop} (h : F32 p0 p1_0 p1_1 K w0) : Calls Try.prog 32 #[(Value.pointer p0), (Value.agg #[(Value.int .u32 p1_0), (Value.int .i64 p1_1)])] w0 (R32 K) := by
  refine calls_of_WE (args := [(Value.pointer p0), (Value.agg #[(Value.int .u32 p1_0), (Value.int .i64 p1_1)])]) (rs := [.tmp 4]) Try.func32 rfl (N := 26) rfl rfl rfl rfl ?_
  refine WE.seq ?_
  refine WE.reg ?_
  obtain ⟨b2, hpb2, w1, hww1, h⟩ := M.new_use h
  refine LE.r (v := (Value.pointer (some b2))) (Wn.no rfl) rfl (R.box (cs := #[(Value.int .u32 p1_0), (Value.int .i64 p1_1)]) rfl rfl hpb2 hww1) ?_
  refine LE.p (v := (Value.int .i64 (0 : Int))) (Wn.no rfl) rfl (R.assign rfl) ?_
  refine LE.nil ?_
  refine WE.seq ?_
  refine WE.seq ?_
  refine WE.reg ?_
  refine LE.p (v := (Value.int .i64 (0 : Int))) (Wn.no rfl) rfl (R.assign rfl) ?_
  refine LE.nil ?_
  refine WE.block ?_
  obtain ⟨I8, ⟨n7, h⟩, hr9⟩ := h
  refine WE.loop (fun n e w => ∃ (x3 : Int), I8 n x3 w ∧ e 0 = (Value.pointer p0) ∧ e 3 = (Value.pointer (some b2)) ∧ e 5 = (Value.int .i64 x3)) n7 ⟨_, h, rfl, rfl, rfl⟩ ?_
  clear h
  rintro n7 e6 w5 ⟨x3, h, f12, f13, f14⟩
  replace h := hr9 n7 x3 w5 h
  refine WE.seq ?_
  refine WE.seq ?_
  refine WE.reg ?_
  refine LE.p (v := (Value.int .i64 x3)) (Wn.no rfl) rfl (R.move f14) ?_
  refine LE.p (v := (Value.pointer p0)) (Wn.no rfl) rfl (R.move f12) ?_
  obtain ⟨a15, h16, h⟩ := h
  refine LE.p (v := (Value.pointer (some a15))) (Wn.no rfl) rfl (R.nilC (congrArg Value.pointer h16)) ?_
  refine LE.p (v := (Value.pointer (some a15))) (Wn.no rfl) rfl (R.fld (off := 0) fa53_0 rfl) ?_
  obtain ⟨t17, h18, h⟩ := h
  refine LE.r (v := (SV.v t17)) (Wn.no rfl) rfl (R.ld sc45 rfl h18) ?_
  refine LE.p (v := (Value.int .i64 (t17.len : Int))) (Wn.no rfl) rfl (R.len sl45 rfl) ?_
  refine LE.p (v := (Value.bool (decide (x3 < (t17.len : Int))))) (Wn.no rfl) rfl (R.lss rfl rfl) ?_
  refine LE.nil ?_
  refine WE.condT rfl (b := (decide (x3 < (t17.len : Int)))) rfl ?_ ?_
  · intro hb19
    replace h := M.ite_t h hb19
    refine WE.skip ?_
    refine WE.seq ?_
    refine WE.block ?_
    refine WE.seq ?_
    refine WE.draw mix ?_
    obtain ⟨w20, hww20, h⟩ := M.drew_use h
    rw [← hww20]
    clear hww20
    refine DE.t 0 (v := (Value.pointer p0)) rfl (by kernel_rfl) (Wn.no rfl) rfl (R.move f12) ?_
    obtain ⟨a21, h22, h⟩ := h
    refine DE.t 1 (v := (Value.pointer (some a21))) rfl (by kernel_rfl) (Wn.no rfl) rfl (R.nilC (congrArg Value.pointer h22)) ?_
    refine DE.t 2 (v := (Value.pointer (some a21))) rfl (by kernel_rfl) (Wn.no rfl) rfl (R.fld (off := 0) fa53_0 rfl) ?_
    refine DE.t 4 (v := (Value.int .i64 x3)) rfl (by kernel_rfl) (Wn.no rfl) rfl (R.move f14) ?_
    obtain ⟨t23, h24, h⟩ := h
    refine DE.hold 3 (fun w => w.cell? a21 = some (SV.v t23)) (v := (SV.v t23)) rfl (by kernel_rfl) (Wn.no rfl) rfl h24 (fun w hs => R.ld sc45 rfl hs) ?_
    obtain ⟨a25, h26, h27, h28, h⟩ := h
    refine DE.t 5 (v := (Value.pointer (some (a25.add (x3.toNat * 3))))) rfl (by kernel_rfl) (Wn.no rfl) rfl (R.idx (s := t23) sl45 rfl rfl h26 h27 h28) ?_
    refine DE.t 6 (v := (Value.pointer (some (a25.add (x3.toNat * 3))))) rfl (by kernel_rfl) (Wn.no rfl) rfl (R.fld (off := 0) fa35_0 rfl) ?_
    obtain ⟨t29, h30, h⟩ := h
    obtain ⟨t31, h32, h⟩ := h
    refine DE.hold 7 (fun w => w.cell? (a25.add (x3.toNat * 3)) = some (Value.int .u32 t29) ∧ w.cell? ((a25.add (x3.toNat * 3)).add 1) = some (Value.int .i64 t31)) (v := (Value.agg #[(Value.int .u32 t29), (Value.int .i64 t31)])) rfl (by kernel_rfl) (Wn.no rfl) rfl ⟨h30, h32⟩ (fun w hs => R.ldA ag33 sz33 rfl rfl (Cs.cons hs.1 (Cs.cons hs.2 Cs.nil))) ?_
    obtain ⟨t33, h34, h⟩ := h
    obtain ⟨t35, h36, h⟩ := h
    refine DE.main 8 (by kernel_rfl) ?_
    refine One.r 8 (v := (Value.agg #[(Value.int .u32 t33), (Value.int .i64 t35)])) rfl (Wn.no rfl) rfl (R.ldA ag33 sz33 f13 rfl (Cs.cons h34 (Cs.cons h36 Cs.nil))) (.inl rfl) ?_
    refine DE.t 9 (v := (Value.bool ((t29 == t33) && (t31 == t35)))) rfl (by kernel_rfl) (Wn.no rfl) rfl (R.eqS (fun w => eq33 t29 t33 t31 t35 w) sg33 rfl rfl) ?_
    refine DE.done (by kernel_rfl) ?_
    refine WE.condT rfl (b := ((t29 == t33) && (t31 == t35))) rfl ?_ ?_
    · intro hb37
      replace h := M.ite_t h hb37
      refine WE.seq ?_
      refine WE.reg ?_
      refine LE.p (v := (Value.int .i64 x3)) (Wn.no rfl) rfl (R.move f14) ?_
      refine LE.p (v := (Value.int .i64 x3)) (Wn.no rfl) rfl (R.assign rfl) ?_
      refine LE.nil ?_
      refine WE.ret ?_
      exact ⟨_, (Res.tmp rfl Res.nil), _, rfl, h⟩
    · intro hb37
      replace h := M.ite_f h hb37
      refine WE.skip ?_
      refine WE.reg ?_
      refine LE.p (v := (Value.int .i64 x3)) (Wn.no rfl) rfl (R.move f14) ?_
      refine LE.p (v := (Value.int .i64 (IntKind.i64.wrap (x3 + (1 : Int))))) (Wn.no rfl) rfl (R.add rfl rfl) ?_
      refine LE.p (v := (Value.int .i64 (IntKind.i64.wrap (x3 + (1 : Int))))) (Wn.no rfl) rfl (R.assign rfl) ?_
      refine LE.nil ?_
      obtain ⟨m10, hm11, h⟩ := h
      exact ⟨m10, hm11, _, h, f12, f13, rfl⟩
  · intro hb19
    replace h := M.ite_f h hb19
    refine WE.exit ?_
    refine WE.seq ?_
    refine WE.reg ?_
    refine LE.p (v := (Value.int .i64 (-1 : Int))) (Wn.no rfl) rfl (R.assign rfl) ?_
    refine LE.nil ?_
    refine WE.ret ?_
    exact ⟨_, (Res.tmp rfl Res.nil), _, rfl, h⟩
/-- The formula of signpost.signpostref24.Right. -/
def F33 (p0 : SV) (K : Bool → World → Prop) (w0 : World) : Prop :=
M.ite (decide ((4096 : Int) < (p0.len : Int))) (
K false w0) (
M.loop1 (fun (J3 : Int → World → Prop) (x2 : Int) (w4 : World) => 
M.ite (decide (x2 < (p0.len : Int))) (
M.idx p0 x2 3 fun a14 =>
M.ld SV.v ((a14.add (x2.toNat * 3)).add 2) w4 fun t18 =>
M.join (fun (x21 : Bool) (w55 : World) => 
M.ite x21 (
K false w55) (
M.loop1 (fun (J62 : Int → World → Prop) (x61 : Int) (w63 : World) => 
M.ite (decide (x61 < (t18.len : Int))) (
M.join (fun (x76 : Bool) (w120 : World) => 
M.ite x76 (
K false w120) (
J62 (IntKind.i64.wrap (x61 + (1 : Int))) w120)) fun J75 => 
M.drew w63 fun w77 => 
M.idx t18 x61 2 fun a78 =>
M.ld (Value.int .i64) (a78.add (x61.toNat * 2)) w77 fun t82 =>
M.ite (decide (t82 < (0 : Int))) (
J75 true w77) (
M.idx t18 x61 2 fun a85 =>
M.ld (Value.int .i64) (a85.add (x61.toNat * 2)) w77 fun t89 =>
M.ite (decide ((255 : Int) < t89)) (
J75 true w77) (
M.idx t18 x61 2 fun a92 =>
M.ld (Value.int .i64) ((a92.add (x61.toNat * 2)).add 1) w77 fun t96 =>
M.ite (decide (t96 < (1 : Int))) (
J75 true w77) (
M.idx t18 x61 2 fun a99 =>
M.ld (Value.int .i64) ((a99.add (x61.toNat * 2)).add 1) w77 fun t103 =>
M.ite (decide ((16 : Int) < t103)) (
J75 true w77) (
M.ite (decide ((0 : Int) < x61)) (
M.idx t18 (IntKind.i64.wrap (x61 - (1 : Int))) 2 fun a107 =>
M.idx t18 x61 2 fun a111 =>
M.ld (Value.int .i64) (a107.add ((IntKind.i64.wrap (x61 - (1 : Int))).toNat * 2)) w77 fun t115 =>
M.ld (Value.int .i64) (a111.add (x61.toNat * 2)) w77 fun t117 =>
J75 (decide (t117 ≤ t115)) w77) (
J75 false w77)))))) (
J3 (IntKind.i64.wrap (x2 + (1 : Int))) w63)) (0 : Int) w55)) fun J20 => 
M.drew w4 fun w22 => 
M.idx p0 x2 3 fun a23 =>
M.ld (Value.int .u32) (a23.add (x2.toNat * 3)) w22 fun t27 =>
M.ld (Value.int .i64) ((a23.add (x2.toNat * 3)).add 1) w22 fun t29 =>
Calls Try.prog 47 #[(Value.agg #[(Value.int .u32 t27), (Value.int .i64 t29)])] w22 (R47 fun r31 w32 =>
M.ite (!r31) (
J20 true w32) (
M.ite (decide ((0 : Int) < x2)) (
M.idx p0 (IntKind.i64.wrap (x2 - (1 : Int))) 3 fun a35 =>
M.idx p0 x2 3 fun a39 =>
M.ld (Value.int .u32) (a35.add ((IntKind.i64.wrap (x2 - (1 : Int))).toNat * 3)) w32 fun t43 =>
M.ld (Value.int .i64) ((a35.add ((IntKind.i64.wrap (x2 - (1 : Int))).toNat * 3)).add 1) w32 fun t45 =>
M.ld (Value.int .u32) (a39.add (x2.toNat * 3)) w32 fun t47 =>
M.ld (Value.int .i64) ((a39.add (x2.toNat * 3)).add 1) w32 fun t49 =>
Calls Try.prog 48 #[(Value.agg #[(Value.int .u32 t43), (Value.int .i64 t45)]), (Value.agg #[(Value.int .u32 t47), (Value.int .i64 t49)])] w32 (R48 fun r51 w52 =>
M.ite (!r51) (
J20 true w52) (
J20 (decide ((16 : Int) < (t18.len : Int))) w52))) (
J20 (decide ((16 : Int) < (t18.len : Int))) w32)))) (
K true w4)) (0 : Int) w0)
theorem F33_ok {w0 : World} {p0 : SV} {K : Bool → World → Prop} (h : F33 p0 K w0) : Calls Try.prog 33 #[(SV.v p0)] w0 (R33 K) := by
  refine calls_of_WE (args := [(SV.v p0)]) (rs := [.tmp 2]) Try.func33 rfl (N := 105) rfl rfl rfl rfl ?_
  refine WE.seq ?_
  refine WE.reg ?_
  refine LE.p (v := (Value.bool false)) (Wn.no rfl) rfl (R.assign rfl) ?_
  refine LE.nil ?_
  refine WE.seq ?_
  refine WE.seq ?_
  refine WE.reg ?_
  refine LE.p (v := (SV.v p0)) (Wn.no rfl) rfl (R.move rfl) ?_
  refine LE.p (v := (Value.int .i64 (p0.len : Int))) (Wn.no rfl) rfl (R.len sl45 rfl) ?_
  refine LE.p (v := (Value.bool (decide ((4096 : Int) < (p0.len : Int))))) (Wn.no rfl) rfl (R.gtr rfl rfl) ?_
  refine LE.nil ?_
  refine WE.condT rfl (b := (decide ((4096 : Int) < (p0.len : Int)))) rfl ?_ ?_
  · intro hb1
    replace h := M.ite_t h hb1
    refine WE.seq ?_
    refine WE.reg ?_
    refine LE.p (v := (Value.bool false)) (Wn.no rfl) rfl (R.assign rfl) ?_
    refine LE.nil ?_
    refine WE.ret ?_
    exact ⟨_, (Res.tmp rfl Res.nil), _, rfl, h⟩
  · intro hb1
    replace h := M.ite_f h hb1
    refine WE.skip ?_
    refine WE.seq ?_
    refine WE.seq ?_
    refine WE.reg ?_
    refine LE.p (v := (Value.int .i64 (0 : Int))) (Wn.no rfl) rfl (R.assign rfl) ?_
    refine LE.nil ?_
    refine WE.block ?_
    obtain ⟨I7, ⟨n6, h⟩, hr8⟩ := h
    refine WE.loop (fun n e w => ∃ (x2 : Int), I7 n x2 w ∧ e 0 = (SV.v p0) ∧ e 3 = (Value.int .i64 x2)) n6 ⟨_, h, rfl, rfl⟩ ?_
    clear h
    rintro n6 e5 w4 ⟨x2, h, f11, f12⟩
    replace h := hr8 n6 x2 w4 h
    refine WE.seq ?_
    refine WE.seq ?_
    refine WE.reg ?_
    refine LE.p (v := (Value.int .i64 x2)) (Wn.no rfl) rfl (R.move f12) ?_
    refine LE.p (v := (SV.v p0)) (Wn.no rfl) rfl (R.move f11) ?_
    refine LE.p (v := (Value.int .i64 (p0.len : Int))) (Wn.no rfl) rfl (R.len sl45 rfl) ?_
    refine LE.p (v := (Value.bool (decide (x2 < (p0.len : Int))))) (Wn.no rfl) rfl (R.lss rfl rfl) ?_
    refine LE.nil ?_
    refine WE.condT rfl (b := (decide (x2 < (p0.len : Int)))) rfl ?_ ?_
    · intro hb13
      replace h := M.ite_t h hb13
      refine WE.skip ?_
      refine WE.seq ?_
      refine WE.block ?_
      refine WE.seq ?_
      refine WE.reg ?_
      refine LE.p (v := (SV.v p0)) (Wn.no rfl) rfl (R.move f11) ?_
      refine LE.p (v := (Value.int .i64 x2)) (Wn.no rfl) rfl (R.move f12) ?_
      obtain ⟨a14, h15, h16, h17, h⟩ := h
      refine LE.p (v := (Value.pointer (some (a14.add (x2.toNat * 3))))) (Wn.no rfl) rfl (R.idx (s := p0) sl45 rfl rfl h15 h16 h17) ?_
      refine LE.p (v := (Value.pointer (some ((a14.add (x2.toNat * 3)).add 2)))) (Wn.no rfl) rfl (R.fld (off := 2) fa35_1 rfl) ?_
      obtain ⟨t18, h19, h⟩ := h
      refine LE.r (v := (SV.v t18)) (Wn.no rfl) rfl (R.ld sc28 rfl h19) ?_
      refine LE.p (v := (SV.v t18)) (Wn.no rfl) rfl (R.assign rfl) ?_
      refine LE.nil ?_
      refine WE.seq ?_
      refine WE.seq ?_
      obtain ⟨J20, hJ20, h⟩ := M.join_use h
      refine WE.drawJ (fun e w => ∃ (x21 : Bool), J20 x21 w ∧ e 0 = (SV.v p0) ∧ e 3 = (Value.int .i64 x2) ∧ e 4 = (SV.v t18) ∧ e 50 = (Value.bool x21)) mix ?_ ?_
      · clear hJ20
        obtain ⟨w22, hww22, h⟩ := M.drew_use h
        rw [← hww22]
        clear hww22
        refine DE.t 0 (v := (SV.v p0)) rfl (by kernel_rfl) (Wn.no rfl) rfl (R.move f11) ?_
        refine DE.t 1 (v := (Value.int .i64 x2)) rfl (by kernel_rfl) (Wn.no rfl) rfl (R.move f12) ?_
        obtain ⟨a23, h24, h25, h26, h⟩ := h
        refine DE.t 2 (v := (Value.pointer (some (a23.add (x2.toNat * 3))))) rfl (by kernel_rfl) (Wn.no rfl) rfl (R.idx (s := p0) sl45 rfl rfl h24 h25 h26) ?_
        refine DE.t 3 (v := (Value.pointer (some (a23.add (x2.toNat * 3))))) rfl (by kernel_rfl) (Wn.no rfl) rfl (R.fld (off := 0) fa35_0 rfl) ?_
        obtain ⟨t27, h28, h⟩ := h
        obtain ⟨t29, h30, h⟩ := h
        refine DE.main 4 (by kernel_rfl) ?_
        refine One.r 4 (v := (Value.agg #[(Value.int .u32 t27), (Value.int .i64 t29)])) rfl (Wn.no rfl) rfl (R.ldA ag33 sz33 rfl rfl (Cs.cons h28 (Cs.cons h30 Cs.nil))) (.inl rfl) ?_
        refine DE.main 5 (by kernel_rfl) ?_
        refine One.c 5 rfl (Wn.no rfl) rfl (R.call bd47 (Ls.cons rfl Ls.nil) rfl) (Calls.mono h ?_)
        rintro _ w32 ⟨r31, rfl, h⟩
        refine ⟨_, rfl, trivial, ?_⟩
        refine DE.t 6 (v := (Value.bool (!r31))) rfl (by kernel_rfl) (Wn.no rfl) rfl (R.not rfl) ?_
        refine DE.t 7 (v := (Value.bool (!r31))) rfl (by kernel_rfl) (Wn.no rfl) rfl (R.move rfl) ?_
        rcases M.ite_use h with ⟨hb33, h⟩ | ⟨hb33, h⟩
        · refine DE.u 8 rfl (by kernel_rfl) (Un.no 7 27 false rfl rfl rfl (congrArg Value.bool hb33)) ?_
          refine DE.u 9 rfl (by kernel_rfl) (Un.no 7 27 false rfl rfl rfl (congrArg Value.bool hb33)) ?_
          refine DE.u 10 rfl (by kernel_rfl) (Un.no 7 27 false rfl rfl rfl (congrArg Value.bool hb33)) ?_
          refine DE.u 11 rfl (by kernel_rfl) (Un.un 10 30 true rfl rfl rfl rfl) ?_
          refine DE.u 12 rfl (by kernel_rfl) (Un.un 10 30 true rfl rfl rfl rfl) ?_
          refine DE.u 13 rfl (by kernel_rfl) (Un.un 10 30 true rfl rfl rfl rfl) ?_
          refine DE.u 14 rfl (by kernel_rfl) (Un.un 10 30 true rfl rfl rfl rfl) ?_
          refine DE.u 15 rfl (by kernel_rfl) (Un.un 10 30 true rfl rfl rfl rfl) ?_
          refine DE.u 16 rfl (by kernel_rfl) (Un.un 10 30 true rfl rfl rfl rfl) ?_
          refine DE.u 17 rfl (by kernel_rfl) (Un.un 10 30 true rfl rfl rfl rfl) ?_
          refine DE.u 18 rfl (by kernel_rfl) (Un.un 10 30 true rfl rfl rfl rfl) ?_
          refine DE.u 19 rfl (by kernel_rfl) (Un.un 10 30 true rfl rfl rfl rfl) ?_
          refine DE.u 20 rfl (by kernel_rfl) (Un.un 10 30 true rfl rfl rfl rfl) ?_
          refine DE.u 21 rfl (by kernel_rfl) (Un.un 10 30 true rfl rfl rfl rfl) ?_
          refine DE.u 22 rfl (by kernel_rfl) (Un.un 10 30 true rfl rfl rfl rfl) ?_
          refine DE.u 23 rfl (by kernel_rfl) (Un.un 10 30 true rfl rfl rfl rfl) ?_
          refine DE.u 24 rfl (by kernel_rfl) (Un.no 7 27 false rfl rfl rfl (congrArg Value.bool hb33)) ?_
          refine DE.t 25 (v := (Value.bool true)) rfl (by kernel_rfl) (Wn.no rfl) rfl (R.pickT (congrArg Value.bool hb33) rfl) ?_
          refine DE.t 26 (v := (Value.bool true)) rfl (by kernel_rfl) (Wn.no rfl) rfl (R.move rfl) ?_
          refine DE.u 27 rfl (by kernel_rfl) (Un.no 26 46 false rfl rfl rfl rfl) ?_
          refine DE.u 28 rfl (by kernel_rfl) (Un.no 26 46 false rfl rfl rfl rfl) ?_
          refine DE.u 29 rfl (by kernel_rfl) (Un.no 26 46 false rfl rfl rfl rfl) ?_
          refine DE.t 30 (v := (Value.bool true)) rfl (by kernel_rfl) (Wn.no rfl) rfl (R.pickT rfl rfl) ?_
          refine DE.done (by kernel_rfl) ?_
          exact ⟨_, h, f11, f12, rfl, rfl⟩
        · refine DE.t 8 (v := (Value.int .i64 x2)) rfl (by kernel_rfl) (Wn.yes 7 27 false rfl rfl rfl (congrArg Value.bool hb33)) rfl (R.move f12) ?_
          refine DE.t 9 (v := (Value.bool (decide ((0 : Int) < x2)))) rfl (by kernel_rfl) (Wn.yes 7 27 false rfl rfl rfl (congrArg Value.bool hb33)) rfl (R.gtr rfl rfl) ?_
          refine DE.t 10 (v := (Value.bool (decide ((0 : Int) < x2)))) rfl (by kernel_rfl) (Wn.yes 7 27 false rfl rfl rfl (congrArg Value.bool hb33)) rfl (R.move rfl) ?_
          rcases M.ite_use h with ⟨hb34, h⟩ | ⟨hb34, h⟩
          · refine DE.t 11 (v := (SV.v p0)) rfl (by kernel_rfl) (Wn.yes 10 30 true rfl rfl rfl (congrArg Value.bool hb34)) rfl (R.move f11) ?_
            refine DE.t 12 (v := (Value.int .i64 x2)) rfl (by kernel_rfl) (Wn.yes 10 30 true rfl rfl rfl (congrArg Value.bool hb34)) rfl (R.move f12) ?_
            refine DE.t 13 (v := (Value.int .i64 (IntKind.i64.wrap (x2 - (1 : Int))))) rfl (by kernel_rfl) (Wn.yes 10 30 true rfl rfl rfl (congrArg Value.bool hb34)) rfl (R.sub rfl rfl) ?_
            obtain ⟨a35, h36, h37, h38, h⟩ := h
            refine DE.t 14 (v := (Value.pointer (some (a35.add ((IntKind.i64.wrap (x2 - (1 : Int))).toNat * 3))))) rfl (by kernel_rfl) (Wn.yes 10 30 true rfl rfl rfl (congrArg Value.bool hb34)) rfl (R.idx (s := p0) sl45 rfl rfl h36 h37 h38) ?_
            refine DE.t 15 (v := (Value.pointer (some (a35.add ((IntKind.i64.wrap (x2 - (1 : Int))).toNat * 3))))) rfl (by kernel_rfl) (Wn.yes 10 30 true rfl rfl rfl (congrArg Value.bool hb34)) rfl (R.fld (off := 0) fa35_0 rfl) ?_
            refine DE.t 17 (v := (SV.v p0)) rfl (by kernel_rfl) (Wn.yes 10 30 true rfl rfl rfl (congrArg Value.bool hb34)) rfl (R.move f11) ?_
            refine DE.t 18 (v := (Value.int .i64 x2)) rfl (by kernel_rfl) (Wn.yes 10 30 true rfl rfl rfl (congrArg Value.bool hb34)) rfl (R.move f12) ?_
            obtain ⟨a39, h40, h41, h42, h⟩ := h
            refine DE.t 19 (v := (Value.pointer (some (a39.add (x2.toNat * 3))))) rfl (by kernel_rfl) (Wn.yes 10 30 true rfl rfl rfl (congrArg Value.bool hb34)) rfl (R.idx (s := p0) sl45 rfl rfl h40 h41 h42) ?_
            refine DE.t 20 (v := (Value.pointer (some (a39.add (x2.toNat * 3))))) rfl (by kernel_rfl) (Wn.yes 10 30 true rfl rfl rfl (congrArg Value.bool hb34)) rfl (R.fld (off := 0) fa35_0 rfl) ?_
            obtain ⟨t43, h44, h⟩ := h
            obtain ⟨t45, h46, h⟩ := h
            refine DE.hold 16 (fun w => w.cell? (a35.add ((IntKind.i64.wrap (x2 - (1 : Int))).toNat * 3)) = some (Value.int .u32 t43) ∧ w.cell? ((a35.add ((IntKind.i64.wrap (x2 - (1 : Int))).toNat * 3)).add 1) = some (Value.int .i64 t45)) (v := (Value.agg #[(Value.int .u32 t43), (Value.int .i64 t45)])) rfl (by kernel_rfl) (Wn.yes 10 30 true rfl rfl rfl (congrArg Value.bool hb34)) rfl ⟨h44, h46⟩ (fun w hs => R.ldA ag33 sz33 rfl rfl (Cs.cons hs.1 (Cs.cons hs.2 Cs.nil))) ?_
            obtain ⟨t47, h48, h⟩ := h
            obtain ⟨t49, h50, h⟩ := h
            refine DE.main 21 (by kernel_rfl) ?_
            refine One.r 21 (v := (Value.agg #[(Value.int .u32 t47), (Value.int .i64 t49)])) rfl (Wn.yes 10 30 true rfl rfl rfl (congrArg Value.bool hb34)) rfl (R.ldA ag33 sz33 rfl rfl (Cs.cons h48 (Cs.cons h50 Cs.nil))) (.inl rfl) ?_
            refine DE.main 22 (by kernel_rfl) ?_
            refine One.c 22 rfl (Wn.yes 10 30 true rfl rfl rfl (congrArg Value.bool hb34)) rfl (R.call bd48 (Ls.cons rfl (Ls.cons rfl Ls.nil)) rfl) (Calls.mono h ?_)
            rintro _ w52 ⟨r51, rfl, h⟩
            refine ⟨_, rfl, ⟨aftT (by kernel_rfl), trivial⟩, ?_⟩
            refine DE.t 23 (v := (Value.bool (!r51))) rfl (by kernel_rfl) (Wn.yes 10 30 true rfl rfl rfl (congrArg Value.bool hb34)) rfl (R.not rfl) ?_
            refine DE.t 24 (v := (Value.bool (!r51))) rfl (by kernel_rfl) (Wn.yes 7 27 false rfl rfl rfl (congrArg Value.bool hb33)) rfl (R.pickT (congrArg Value.bool hb34) rfl) ?_
            refine DE.t 25 (v := (Value.bool (!r51))) rfl (by kernel_rfl) (Wn.no rfl) rfl (R.pickF (congrArg Value.bool hb33) rfl) ?_
            refine DE.t 26 (v := (Value.bool (!r51))) rfl (by kernel_rfl) (Wn.no rfl) rfl (R.move rfl) ?_
            rcases M.ite_use h with ⟨hb53, h⟩ | ⟨hb53, h⟩
            · refine DE.u 27 rfl (by kernel_rfl) (Un.no 26 46 false rfl rfl rfl (congrArg Value.bool hb53)) ?_
              refine DE.u 28 rfl (by kernel_rfl) (Un.no 26 46 false rfl rfl rfl (congrArg Value.bool hb53)) ?_
              refine DE.u 29 rfl (by kernel_rfl) (Un.no 26 46 false rfl rfl rfl (congrArg Value.bool hb53)) ?_
              refine DE.t 30 (v := (Value.bool true)) rfl (by kernel_rfl) (Wn.no rfl) rfl (R.pickT (congrArg Value.bool hb53) rfl) ?_
              refine DE.done (by kernel_rfl) ?_
              exact ⟨_, h, f11, f12, rfl, rfl⟩
            · refine DE.t 27 (v := (SV.v t18)) rfl (by kernel_rfl) (Wn.yes 26 46 false rfl rfl rfl (congrArg Value.bool hb53)) rfl (R.move rfl) ?_
              refine DE.t 28 (v := (Value.int .i64 (t18.len : Int))) rfl (by kernel_rfl) (Wn.yes 26 46 false rfl rfl rfl (congrArg Value.bool hb53)) rfl (R.len sl28 rfl) ?_
              refine DE.t 29 (v := (Value.bool (decide ((16 : Int) < (t18.len : Int))))) rfl (by kernel_rfl) (Wn.yes 26 46 false rfl rfl rfl (congrArg Value.bool hb53)) rfl (R.gtr rfl rfl) ?_
              refine DE.t 30 (v := (Value.bool (decide ((16 : Int) < (t18.len : Int))))) rfl (by kernel_rfl) (Wn.no rfl) rfl (R.pickF (congrArg Value.bool hb53) rfl) ?_
              refine DE.done (by kernel_rfl) ?_
              exact ⟨_, h, f11, f12, rfl, rfl⟩
          · refine DE.u 11 rfl (by kernel_rfl) (Un.no 10 30 true rfl rfl rfl (congrArg Value.bool hb34)) ?_
            refine DE.u 12 rfl (by kernel_rfl) (Un.no 10 30 true rfl rfl rfl (congrArg Value.bool hb34)) ?_
            refine DE.u 13 rfl (by kernel_rfl) (Un.no 10 30 true rfl rfl rfl (congrArg Value.bool hb34)) ?_
            refine DE.u 14 rfl (by kernel_rfl) (Un.no 10 30 true rfl rfl rfl (congrArg Value.bool hb34)) ?_
            refine DE.u 15 rfl (by kernel_rfl) (Un.no 10 30 true rfl rfl rfl (congrArg Value.bool hb34)) ?_
            refine DE.u 16 rfl (by kernel_rfl) (Un.no 10 30 true rfl rfl rfl (congrArg Value.bool hb34)) ?_
            refine DE.u 17 rfl (by kernel_rfl) (Un.no 10 30 true rfl rfl rfl (congrArg Value.bool hb34)) ?_
            refine DE.u 18 rfl (by kernel_rfl) (Un.no 10 30 true rfl rfl rfl (congrArg Value.bool hb34)) ?_
            refine DE.u 19 rfl (by kernel_rfl) (Un.no 10 30 true rfl rfl rfl (congrArg Value.bool hb34)) ?_
            refine DE.u 20 rfl (by kernel_rfl) (Un.no 10 30 true rfl rfl rfl (congrArg Value.bool hb34)) ?_
            refine DE.u 21 rfl (by kernel_rfl) (Un.no 10 30 true rfl rfl rfl (congrArg Value.bool hb34)) ?_
            refine DE.u 22 rfl (by kernel_rfl) (Un.no 10 30 true rfl rfl rfl (congrArg Value.bool hb34)) ?_
            refine DE.u 23 rfl (by kernel_rfl) (Un.no 10 30 true rfl rfl rfl (congrArg Value.bool hb34)) ?_
            refine DE.t 24 (v := (Value.bool false)) rfl (by kernel_rfl) (Wn.yes 7 27 false rfl rfl rfl (congrArg Value.bool hb33)) rfl (R.pickF (congrArg Value.bool hb34) rfl) ?_
            refine DE.t 25 (v := (Value.bool false)) rfl (by kernel_rfl) (Wn.no rfl) rfl (R.pickF (congrArg Value.bool hb33) rfl) ?_
            refine DE.t 26 (v := (Value.bool false)) rfl (by kernel_rfl) (Wn.no rfl) rfl (R.move rfl) ?_
            refine DE.t 27 (v := (SV.v t18)) rfl (by kernel_rfl) (Wn.yes 26 46 false rfl rfl rfl rfl) rfl (R.move rfl) ?_
            refine DE.t 28 (v := (Value.int .i64 (t18.len : Int))) rfl (by kernel_rfl) (Wn.yes 26 46 false rfl rfl rfl rfl) rfl (R.len sl28 rfl) ?_
            refine DE.t 29 (v := (Value.bool (decide ((16 : Int) < (t18.len : Int))))) rfl (by kernel_rfl) (Wn.yes 26 46 false rfl rfl rfl rfl) rfl (R.gtr rfl rfl) ?_
            refine DE.t 30 (v := (Value.bool (decide ((16 : Int) < (t18.len : Int))))) rfl (by kernel_rfl) (Wn.no rfl) rfl (R.pickF rfl rfl) ?_
            refine DE.done (by kernel_rfl) ?_
            exact ⟨_, h, f11, f12, rfl, rfl⟩
      · rintro e54 w55 ⟨x21, h, f56, f57, f58, f59⟩
        subst hJ20
        refine WE.condT rfl (b := x21) f59 ?_ ?_
        · intro hb60
          replace h := M.ite_t h hb60
          refine WE.seq ?_
          refine WE.reg ?_
          refine LE.p (v := (Value.bool false)) (Wn.no rfl) rfl (R.assign rfl) ?_
          refine LE.nil ?_
          refine WE.ret ?_
          exact ⟨_, (Res.tmp rfl Res.nil), _, rfl, h⟩
        · intro hb60
          replace h := M.ite_f h hb60
          refine WE.skip ?_
          refine WE.seq ?_
          refine WE.reg ?_
          refine LE.p (v := (Value.int .i64 (0 : Int))) (Wn.no rfl) rfl (R.assign rfl) ?_
          refine LE.nil ?_
          refine WE.block ?_
          obtain ⟨I66, ⟨n65, h⟩, hr67⟩ := h
          refine WE.loop (fun n e w => ∃ (x61 : Int), I66 n x61 w ∧ e 0 = (SV.v p0) ∧ e 3 = (Value.int .i64 x2) ∧ e 4 = (SV.v t18) ∧ e 5 = (Value.int .i64 x61)) n65 ⟨_, h, f56, f57, f58, rfl⟩ ?_
          clear h
          rintro n65 e64 w63 ⟨x61, h, f70, f71, f72, f73⟩
          replace h := hr67 n65 x61 w63 h
          refine WE.seq ?_
          refine WE.seq ?_
          refine WE.reg ?_
          refine LE.p (v := (Value.int .i64 x61)) (Wn.no rfl) rfl (R.move f73) ?_
          refine LE.p (v := (SV.v t18)) (Wn.no rfl) rfl (R.move f72) ?_
          refine LE.p (v := (Value.int .i64 (t18.len : Int))) (Wn.no rfl) rfl (R.len sl28 rfl) ?_
          refine LE.p (v := (Value.bool (decide (x61 < (t18.len : Int))))) (Wn.no rfl) rfl (R.lss rfl rfl) ?_
          refine LE.nil ?_
          refine WE.condT rfl (b := (decide (x61 < (t18.len : Int)))) rfl ?_ ?_
          · intro hb74
            replace h := M.ite_t h hb74
            refine WE.skip ?_
            refine WE.seq ?_
            refine WE.block ?_
            refine WE.seq ?_
            obtain ⟨J75, hJ75, h⟩ := M.join_use h
            refine WE.drawJ (fun e w => ∃ (x76 : Bool), J75 x76 w ∧ e 0 = (SV.v p0) ∧ e 3 = (Value.int .i64 x2) ∧ e 4 = (SV.v t18) ∧ e 5 = (Value.int .i64 x61) ∧ e 104 = (Value.bool x76)) mix ?_ ?_
            · clear hJ75
              obtain ⟨w77, hww77, h⟩ := M.drew_use h
              rw [← hww77]
              clear hww77
              refine DE.t 0 (v := (SV.v t18)) rfl (by kernel_rfl) (Wn.no rfl) rfl (R.move f72) ?_
              refine DE.t 1 (v := (Value.int .i64 x61)) rfl (by kernel_rfl) (Wn.no rfl) rfl (R.move f73) ?_
              obtain ⟨a78, h79, h80, h81, h⟩ := h
              refine DE.t 2 (v := (Value.pointer (some (a78.add (x61.toNat * 2))))) rfl (by kernel_rfl) (Wn.no rfl) rfl (R.idx (s := t18) sl28 rfl rfl h79 h80 h81) ?_
              refine DE.t 3 (v := (Value.pointer (some (a78.add (x61.toNat * 2))))) rfl (by kernel_rfl) (Wn.no rfl) rfl (R.fld (off := 0) fa55_0 rfl) ?_
              obtain ⟨t82, h83, h⟩ := h
              refine DE.main 4 (by kernel_rfl) ?_
              refine One.r 4 (v := (Value.int .i64 t82)) rfl (Wn.no rfl) rfl (R.ld sc3 rfl h83) (.inl rfl) ?_
              refine DE.t 5 (v := (Value.bool (decide (t82 < (0 : Int))))) rfl (by kernel_rfl) (Wn.no rfl) rfl (R.lss rfl rfl) ?_
              refine DE.t 6 (v := (Value.bool (decide (t82 < (0 : Int))))) rfl (by kernel_rfl) (Wn.no rfl) rfl (R.move rfl) ?_
              rcases M.ite_use h with ⟨hb84, h⟩ | ⟨hb84, h⟩
              · refine DE.u 7 rfl (by kernel_rfl) (Un.no 6 63 false rfl rfl rfl (congrArg Value.bool hb84)) ?_
                refine DE.u 8 rfl (by kernel_rfl) (Un.no 6 63 false rfl rfl rfl (congrArg Value.bool hb84)) ?_
                refine DE.u 9 rfl (by kernel_rfl) (Un.no 6 63 false rfl rfl rfl (congrArg Value.bool hb84)) ?_
                refine DE.u 10 rfl (by kernel_rfl) (Un.no 6 63 false rfl rfl rfl (congrArg Value.bool hb84)) ?_
                refine DE.u 11 rfl (by kernel_rfl) (Un.no 6 63 false rfl rfl rfl (congrArg Value.bool hb84)) ?_
                refine DE.u 12 rfl (by kernel_rfl) (Un.no 6 63 false rfl rfl rfl (congrArg Value.bool hb84)) ?_
                refine DE.t 13 (v := (Value.bool true)) rfl (by kernel_rfl) (Wn.no rfl) rfl (R.pickT (congrArg Value.bool hb84) rfl) ?_
                refine DE.t 14 (v := (Value.bool true)) rfl (by kernel_rfl) (Wn.no rfl) rfl (R.move rfl) ?_
                refine DE.u 15 rfl (by kernel_rfl) (Un.no 14 71 false rfl rfl rfl rfl) ?_
                refine DE.u 16 rfl (by kernel_rfl) (Un.no 14 71 false rfl rfl rfl rfl) ?_
                refine DE.u 17 rfl (by kernel_rfl) (Un.no 14 71 false rfl rfl rfl rfl) ?_
                refine DE.u 18 rfl (by kernel_rfl) (Un.no 14 71 false rfl rfl rfl rfl) ?_
                refine DE.u 19 rfl (by kernel_rfl) (Un.no 14 71 false rfl rfl rfl rfl) ?_
                refine DE.u 20 rfl (by kernel_rfl) (Un.no 14 71 false rfl rfl rfl rfl) ?_
                refine DE.t 21 (v := (Value.bool true)) rfl (by kernel_rfl) (Wn.no rfl) rfl (R.pickT rfl rfl) ?_
                refine DE.t 22 (v := (Value.bool true)) rfl (by kernel_rfl) (Wn.no rfl) rfl (R.move rfl) ?_
                refine DE.u 23 rfl (by kernel_rfl) (Un.no 22 79 false rfl rfl rfl rfl) ?_
                refine DE.u 24 rfl (by kernel_rfl) (Un.no 22 79 false rfl rfl rfl rfl) ?_
                refine DE.u 25 rfl (by kernel_rfl) (Un.no 22 79 false rfl rfl rfl rfl) ?_
                refine DE.u 26 rfl (by kernel_rfl) (Un.no 22 79 false rfl rfl rfl rfl) ?_
                refine DE.u 27 rfl (by kernel_rfl) (Un.no 22 79 false rfl rfl rfl rfl) ?_
                refine DE.u 28 rfl (by kernel_rfl) (Un.no 22 79 false rfl rfl rfl rfl) ?_
                refine DE.t 29 (v := (Value.bool true)) rfl (by kernel_rfl) (Wn.no rfl) rfl (R.pickT rfl rfl) ?_
                refine DE.t 30 (v := (Value.bool true)) rfl (by kernel_rfl) (Wn.no rfl) rfl (R.move rfl) ?_
                refine DE.u 31 rfl (by kernel_rfl) (Un.no 30 87 false rfl rfl rfl rfl) ?_
                refine DE.u 32 rfl (by kernel_rfl) (Un.no 30 87 false rfl rfl rfl rfl) ?_
                refine DE.u 33 rfl (by kernel_rfl) (Un.no 30 87 false rfl rfl rfl rfl) ?_
                refine DE.u 34 rfl (by kernel_rfl) (Un.un 33 90 true rfl rfl rfl rfl) ?_
                refine DE.u 35 rfl (by kernel_rfl) (Un.un 33 90 true rfl rfl rfl rfl) ?_
                refine DE.u 36 rfl (by kernel_rfl) (Un.un 33 90 true rfl rfl rfl rfl) ?_
                refine DE.u 37 rfl (by kernel_rfl) (Un.un 33 90 true rfl rfl rfl rfl) ?_
                refine DE.u 38 rfl (by kernel_rfl) (Un.un 33 90 true rfl rfl rfl rfl) ?_
                refine DE.u 39 rfl (by kernel_rfl) (Un.un 33 90 true rfl rfl rfl rfl) ?_
                refine DE.u 40 rfl (by kernel_rfl) (Un.un 33 90 true rfl rfl rfl rfl) ?_
                refine DE.u 41 rfl (by kernel_rfl) (Un.un 33 90 true rfl rfl rfl rfl) ?_
                refine DE.u 42 rfl (by kernel_rfl) (Un.un 33 90 true rfl rfl rfl rfl) ?_
                refine DE.u 43 rfl (by kernel_rfl) (Un.un 33 90 true rfl rfl rfl rfl) ?_
                refine DE.u 44 rfl (by kernel_rfl) (Un.un 33 90 true rfl rfl rfl rfl) ?_
                refine DE.u 45 rfl (by kernel_rfl) (Un.un 33 90 true rfl rfl rfl rfl) ?_
                refine DE.u 46 rfl (by kernel_rfl) (Un.no 30 87 false rfl rfl rfl rfl) ?_
                refine DE.t 47 (v := (Value.bool true)) rfl (by kernel_rfl) (Wn.no rfl) rfl (R.pickT rfl rfl) ?_
                refine DE.done (by kernel_rfl) ?_
                exact ⟨_, h, f70, f71, f72, f73, rfl⟩
              · refine DE.t 7 (v := (SV.v t18)) rfl (by kernel_rfl) (Wn.yes 6 63 false rfl rfl rfl (congrArg Value.bool hb84)) rfl (R.move f72) ?_
                refine DE.t 8 (v := (Value.int .i64 x61)) rfl (by kernel_rfl) (Wn.yes 6 63 false rfl rfl rfl (congrArg Value.bool hb84)) rfl (R.move f73) ?_
                obtain ⟨a85, h86, h87, h88, h⟩ := h
                refine DE.t 9 (v := (Value.pointer (some (a85.add (x61.toNat * 2))))) rfl (by kernel_rfl) (Wn.yes 6 63 false rfl rfl rfl (congrArg Value.bool hb84)) rfl (R.idx (s := t18) sl28 rfl rfl h86 h87 h88) ?_
                refine DE.t 10 (v := (Value.pointer (some (a85.add (x61.toNat * 2))))) rfl (by kernel_rfl) (Wn.yes 6 63 false rfl rfl rfl (congrArg Value.bool hb84)) rfl (R.fld (off := 0) fa55_0 rfl) ?_
                obtain ⟨t89, h90, h⟩ := h
                refine DE.main 11 (by kernel_rfl) ?_
                refine One.r 11 (v := (Value.int .i64 t89)) rfl (Wn.yes 6 63 false rfl rfl rfl (congrArg Value.bool hb84)) rfl (R.ld sc3 rfl h90) (.inl rfl) ?_
                refine DE.t 12 (v := (Value.bool (decide ((255 : Int) < t89)))) rfl (by kernel_rfl) (Wn.yes 6 63 false rfl rfl rfl (congrArg Value.bool hb84)) rfl (R.gtr rfl rfl) ?_
                refine DE.t 13 (v := (Value.bool (decide ((255 : Int) < t89)))) rfl (by kernel_rfl) (Wn.no rfl) rfl (R.pickF (congrArg Value.bool hb84) rfl) ?_
                refine DE.t 14 (v := (Value.bool (decide ((255 : Int) < t89)))) rfl (by kernel_rfl) (Wn.no rfl) rfl (R.move rfl) ?_
                rcases M.ite_use h with ⟨hb91, h⟩ | ⟨hb91, h⟩
                · refine DE.u 15 rfl (by kernel_rfl) (Un.no 14 71 false rfl rfl rfl (congrArg Value.bool hb91)) ?_
                  refine DE.u 16 rfl (by kernel_rfl) (Un.no 14 71 false rfl rfl rfl (congrArg Value.bool hb91)) ?_
                  refine DE.u 17 rfl (by kernel_rfl) (Un.no 14 71 false rfl rfl rfl (congrArg Value.bool hb91)) ?_
                  refine DE.u 18 rfl (by kernel_rfl) (Un.no 14 71 false rfl rfl rfl (congrArg Value.bool hb91)) ?_
                  refine DE.u 19 rfl (by kernel_rfl) (Un.no 14 71 false rfl rfl rfl (congrArg Value.bool hb91)) ?_
                  refine DE.u 20 rfl (by kernel_rfl) (Un.no 14 71 false rfl rfl rfl (congrArg Value.bool hb91)) ?_
                  refine DE.t 21 (v := (Value.bool true)) rfl (by kernel_rfl) (Wn.no rfl) rfl (R.pickT (congrArg Value.bool hb91) rfl) ?_
                  refine DE.t 22 (v := (Value.bool true)) rfl (by kernel_rfl) (Wn.no rfl) rfl (R.move rfl) ?_
                  refine DE.u 23 rfl (by kernel_rfl) (Un.no 22 79 false rfl rfl rfl rfl) ?_
                  refine DE.u 24 rfl (by kernel_rfl) (Un.no 22 79 false rfl rfl rfl rfl) ?_
                  refine DE.u 25 rfl (by kernel_rfl) (Un.no 22 79 false rfl rfl rfl rfl) ?_
                  refine DE.u 26 rfl (by kernel_rfl) (Un.no 22 79 false rfl rfl rfl rfl) ?_
                  refine DE.u 27 rfl (by kernel_rfl) (Un.no 22 79 false rfl rfl rfl rfl) ?_
                  refine DE.u 28 rfl (by kernel_rfl) (Un.no 22 79 false rfl rfl rfl rfl) ?_
                  refine DE.t 29 (v := (Value.bool true)) rfl (by kernel_rfl) (Wn.no rfl) rfl (R.pickT rfl rfl) ?_
                  refine DE.t 30 (v := (Value.bool true)) rfl (by kernel_rfl) (Wn.no rfl) rfl (R.move rfl) ?_
                  refine DE.u 31 rfl (by kernel_rfl) (Un.no 30 87 false rfl rfl rfl rfl) ?_
                  refine DE.u 32 rfl (by kernel_rfl) (Un.no 30 87 false rfl rfl rfl rfl) ?_
                  refine DE.u 33 rfl (by kernel_rfl) (Un.no 30 87 false rfl rfl rfl rfl) ?_
                  refine DE.u 34 rfl (by kernel_rfl) (Un.un 33 90 true rfl rfl rfl rfl) ?_
                  refine DE.u 35 rfl (by kernel_rfl) (Un.un 33 90 true rfl rfl rfl rfl) ?_
                  refine DE.u 36 rfl (by kernel_rfl) (Un.un 33 90 true rfl rfl rfl rfl) ?_
                  refine DE.u 37 rfl (by kernel_rfl) (Un.un 33 90 true rfl rfl rfl rfl) ?_
                  refine DE.u 38 rfl (by kernel_rfl) (Un.un 33 90 true rfl rfl rfl rfl) ?_
                  refine DE.u 39 rfl (by kernel_rfl) (Un.un 33 90 true rfl rfl rfl rfl) ?_
                  refine DE.u 40 rfl (by kernel_rfl) (Un.un 33 90 true rfl rfl rfl rfl) ?_
                  refine DE.u 41 rfl (by kernel_rfl) (Un.un 33 90 true rfl rfl rfl rfl) ?_
                  refine DE.u 42 rfl (by kernel_rfl) (Un.un 33 90 true rfl rfl rfl rfl) ?_
                  refine DE.u 43 rfl (by kernel_rfl) (Un.un 33 90 true rfl rfl rfl rfl) ?_
                  refine DE.u 44 rfl (by kernel_rfl) (Un.un 33 90 true rfl rfl rfl rfl) ?_
                  refine DE.u 45 rfl (by kernel_rfl) (Un.un 33 90 true rfl rfl rfl rfl) ?_
                  refine DE.u 46 rfl (by kernel_rfl) (Un.no 30 87 false rfl rfl rfl rfl) ?_
                  refine DE.t 47 (v := (Value.bool true)) rfl (by kernel_rfl) (Wn.no rfl) rfl (R.pickT rfl rfl) ?_
                  refine DE.done (by kernel_rfl) ?_
                  exact ⟨_, h, f70, f71, f72, f73, rfl⟩
                · refine DE.t 15 (v := (SV.v t18)) rfl (by kernel_rfl) (Wn.yes 14 71 false rfl rfl rfl (congrArg Value.bool hb91)) rfl (R.move f72) ?_
                  refine DE.t 16 (v := (Value.int .i64 x61)) rfl (by kernel_rfl) (Wn.yes 14 71 false rfl rfl rfl (congrArg Value.bool hb91)) rfl (R.move f73) ?_
                  obtain ⟨a92, h93, h94, h95, h⟩ := h
                  refine DE.t 17 (v := (Value.pointer (some (a92.add (x61.toNat * 2))))) rfl (by kernel_rfl) (Wn.yes 14 71 false rfl rfl rfl (congrArg Value.bool hb91)) rfl (R.idx (s := t18) sl28 rfl rfl h93 h94 h95) ?_
                  refine DE.t 18 (v := (Value.pointer (some ((a92.add (x61.toNat * 2)).add 1)))) rfl (by kernel_rfl) (Wn.yes 14 71 false rfl rfl rfl (congrArg Value.bool hb91)) rfl (R.fld (off := 1) fa55_1 rfl) ?_
                  obtain ⟨t96, h97, h⟩ := h
                  refine DE.main 19 (by kernel_rfl) ?_
                  refine One.r 19 (v := (Value.int .i64 t96)) rfl (Wn.yes 14 71 false rfl rfl rfl (congrArg Value.bool hb91)) rfl (R.ld sc3 rfl h97) (.inl rfl) ?_
                  refine DE.t 20 (v := (Value.bool (decide (t96 < (1 : Int))))) rfl (by kernel_rfl) (Wn.yes 14 71 false rfl rfl rfl (congrArg Value.bool hb91)) rfl (R.lss rfl rfl) ?_
                  refine DE.t 21 (v := (Value.bool (decide (t96 < (1 : Int))))) rfl (by kernel_rfl) (Wn.no rfl) rfl (R.pickF (congrArg Value.bool hb91) rfl) ?_
                  refine DE.t 22 (v := (Value.bool (decide (t96 < (1 : Int))))) rfl (by kernel_rfl) (Wn.no rfl) rfl (R.move rfl) ?_
                  rcases M.ite_use h with ⟨hb98, h⟩ | ⟨hb98, h⟩
                  · refine DE.u 23 rfl (by kernel_rfl) (Un.no 22 79 false rfl rfl rfl (congrArg Value.bool hb98)) ?_
                    refine DE.u 24 rfl (by kernel_rfl) (Un.no 22 79 false rfl rfl rfl (congrArg Value.bool hb98)) ?_
                    refine DE.u 25 rfl (by kernel_rfl) (Un.no 22 79 false rfl rfl rfl (congrArg Value.bool hb98)) ?_
                    refine DE.u 26 rfl (by kernel_rfl) (Un.no 22 79 false rfl rfl rfl (congrArg Value.bool hb98)) ?_
                    refine DE.u 27 rfl (by kernel_rfl) (Un.no 22 79 false rfl rfl rfl (congrArg Value.bool hb98)) ?_
                    refine DE.u 28 rfl (by kernel_rfl) (Un.no 22 79 false rfl rfl rfl (congrArg Value.bool hb98)) ?_
                    refine DE.t 29 (v := (Value.bool true)) rfl (by kernel_rfl) (Wn.no rfl) rfl (R.pickT (congrArg Value.bool hb98) rfl) ?_
                    refine DE.t 30 (v := (Value.bool true)) rfl (by kernel_rfl) (Wn.no rfl) rfl (R.move rfl) ?_
                    refine DE.u 31 rfl (by kernel_rfl) (Un.no 30 87 false rfl rfl rfl rfl) ?_
                    refine DE.u 32 rfl (by kernel_rfl) (Un.no 30 87 false rfl rfl rfl rfl) ?_
                    refine DE.u 33 rfl (by kernel_rfl) (Un.no 30 87 false rfl rfl rfl rfl) ?_
                    refine DE.u 34 rfl (by kernel_rfl) (Un.un 33 90 true rfl rfl rfl rfl) ?_
                    refine DE.u 35 rfl (by kernel_rfl) (Un.un 33 90 true rfl rfl rfl rfl) ?_
                    refine DE.u 36 rfl (by kernel_rfl) (Un.un 33 90 true rfl rfl rfl rfl) ?_
                    refine DE.u 37 rfl (by kernel_rfl) (Un.un 33 90 true rfl rfl rfl rfl) ?_
                    refine DE.u 38 rfl (by kernel_rfl) (Un.un 33 90 true rfl rfl rfl rfl) ?_
                    refine DE.u 39 rfl (by kernel_rfl) (Un.un 33 90 true rfl rfl rfl rfl) ?_
                    refine DE.u 40 rfl (by kernel_rfl) (Un.un 33 90 true rfl rfl rfl rfl) ?_
                    refine DE.u 41 rfl (by kernel_rfl) (Un.un 33 90 true rfl rfl rfl rfl) ?_
                    refine DE.u 42 rfl (by kernel_rfl) (Un.un 33 90 true rfl rfl rfl rfl) ?_
                    refine DE.u 43 rfl (by kernel_rfl) (Un.un 33 90 true rfl rfl rfl rfl) ?_
                    refine DE.u 44 rfl (by kernel_rfl) (Un.un 33 90 true rfl rfl rfl rfl) ?_
                    refine DE.u 45 rfl (by kernel_rfl) (Un.un 33 90 true rfl rfl rfl rfl) ?_
                    refine DE.u 46 rfl (by kernel_rfl) (Un.no 30 87 false rfl rfl rfl rfl) ?_
                    refine DE.t 47 (v := (Value.bool true)) rfl (by kernel_rfl) (Wn.no rfl) rfl (R.pickT rfl rfl) ?_
                    refine DE.done (by kernel_rfl) ?_
                    exact ⟨_, h, f70, f71, f72, f73, rfl⟩
                  · refine DE.t 23 (v := (SV.v t18)) rfl (by kernel_rfl) (Wn.yes 22 79 false rfl rfl rfl (congrArg Value.bool hb98)) rfl (R.move f72) ?_
                    refine DE.t 24 (v := (Value.int .i64 x61)) rfl (by kernel_rfl) (Wn.yes 22 79 false rfl rfl rfl (congrArg Value.bool hb98)) rfl (R.move f73) ?_
                    obtain ⟨a99, h100, h101, h102, h⟩ := h
                    refine DE.t 25 (v := (Value.pointer (some (a99.add (x61.toNat * 2))))) rfl (by kernel_rfl) (Wn.yes 22 79 false rfl rfl rfl (congrArg Value.bool hb98)) rfl (R.idx (s := t18) sl28 rfl rfl h100 h101 h102) ?_
                    refine DE.t 26 (v := (Value.pointer (some ((a99.add (x61.toNat * 2)).add 1)))) rfl (by kernel_rfl) (Wn.yes 22 79 false rfl rfl rfl (congrArg Value.bool hb98)) rfl (R.fld (off := 1) fa55_1 rfl) ?_
                    obtain ⟨t103, h104, h⟩ := h
                    refine DE.main 27 (by kernel_rfl) ?_
                    refine One.r 27 (v := (Value.int .i64 t103)) rfl (Wn.yes 22 79 false rfl rfl rfl (congrArg Value.bool hb98)) rfl (R.ld sc3 rfl h104) (.inl rfl) ?_
                    refine DE.t 28 (v := (Value.bool (decide ((16 : Int) < t103)))) rfl (by kernel_rfl) (Wn.yes 22 79 false rfl rfl rfl (congrArg Value.bool hb98)) rfl (R.gtr rfl rfl) ?_
                    refine DE.t 29 (v := (Value.bool (decide ((16 : Int) < t103)))) rfl (by kernel_rfl) (Wn.no rfl) rfl (R.pickF (congrArg Value.bool hb98) rfl) ?_
                    refine DE.t 30 (v := (Value.bool (decide ((16 : Int) < t103)))) rfl (by kernel_rfl) (Wn.no rfl) rfl (R.move rfl) ?_
                    rcases M.ite_use h with ⟨hb105, h⟩ | ⟨hb105, h⟩
                    · refine DE.u 31 rfl (by kernel_rfl) (Un.no 30 87 false rfl rfl rfl (congrArg Value.bool hb105)) ?_
                      refine DE.u 32 rfl (by kernel_rfl) (Un.no 30 87 false rfl rfl rfl (congrArg Value.bool hb105)) ?_
                      refine DE.u 33 rfl (by kernel_rfl) (Un.no 30 87 false rfl rfl rfl (congrArg Value.bool hb105)) ?_
                      refine DE.u 34 rfl (by kernel_rfl) (Un.un 33 90 true rfl rfl rfl rfl) ?_
                      refine DE.u 35 rfl (by kernel_rfl) (Un.un 33 90 true rfl rfl rfl rfl) ?_
                      refine DE.u 36 rfl (by kernel_rfl) (Un.un 33 90 true rfl rfl rfl rfl) ?_
                      refine DE.u 37 rfl (by kernel_rfl) (Un.un 33 90 true rfl rfl rfl rfl) ?_
                      refine DE.u 38 rfl (by kernel_rfl) (Un.un 33 90 true rfl rfl rfl rfl) ?_
                      refine DE.u 39 rfl (by kernel_rfl) (Un.un 33 90 true rfl rfl rfl rfl) ?_
                      refine DE.u 40 rfl (by kernel_rfl) (Un.un 33 90 true rfl rfl rfl rfl) ?_
                      refine DE.u 41 rfl (by kernel_rfl) (Un.un 33 90 true rfl rfl rfl rfl) ?_
                      refine DE.u 42 rfl (by kernel_rfl) (Un.un 33 90 true rfl rfl rfl rfl) ?_
                      refine DE.u 43 rfl (by kernel_rfl) (Un.un 33 90 true rfl rfl rfl rfl) ?_
                      refine DE.u 44 rfl (by kernel_rfl) (Un.un 33 90 true rfl rfl rfl rfl) ?_
                      refine DE.u 45 rfl (by kernel_rfl) (Un.un 33 90 true rfl rfl rfl rfl) ?_
                      refine DE.u 46 rfl (by kernel_rfl) (Un.no 30 87 false rfl rfl rfl (congrArg Value.bool hb105)) ?_
                      refine DE.t 47 (v := (Value.bool true)) rfl (by kernel_rfl) (Wn.no rfl) rfl (R.pickT (congrArg Value.bool hb105) rfl) ?_
                      refine DE.done (by kernel_rfl) ?_
                      exact ⟨_, h, f70, f71, f72, f73, rfl⟩
                    · refine DE.t 31 (v := (Value.int .i64 x61)) rfl (by kernel_rfl) (Wn.yes 30 87 false rfl rfl rfl (congrArg Value.bool hb105)) rfl (R.move f73) ?_
                      refine DE.t 32 (v := (Value.bool (decide ((0 : Int) < x61)))) rfl (by kernel_rfl) (Wn.yes 30 87 false rfl rfl rfl (congrArg Value.bool hb105)) rfl (R.gtr rfl rfl) ?_
                      refine DE.t 33 (v := (Value.bool (decide ((0 : Int) < x61)))) rfl (by kernel_rfl) (Wn.yes 30 87 false rfl rfl rfl (congrArg Value.bool hb105)) rfl (R.move rfl) ?_
                      rcases M.ite_use h with ⟨hb106, h⟩ | ⟨hb106, h⟩
                      · refine DE.t 34 (v := (SV.v t18)) rfl (by kernel_rfl) (Wn.yes 33 90 true rfl rfl rfl (congrArg Value.bool hb106)) rfl (R.move f72) ?_
                        refine DE.t 35 (v := (Value.int .i64 x61)) rfl (by kernel_rfl) (Wn.yes 33 90 true rfl rfl rfl (congrArg Value.bool hb106)) rfl (R.move f73) ?_
                        refine DE.t 36 (v := (Value.int .i64 (IntKind.i64.wrap (x61 - (1 : Int))))) rfl (by kernel_rfl) (Wn.yes 33 90 true rfl rfl rfl (congrArg Value.bool hb106)) rfl (R.sub rfl rfl) ?_
                        obtain ⟨a107, h108, h109, h110, h⟩ := h
                        refine DE.t 37 (v := (Value.pointer (some (a107.add ((IntKind.i64.wrap (x61 - (1 : Int))).toNat * 2))))) rfl (by kernel_rfl) (Wn.yes 33 90 true rfl rfl rfl (congrArg Value.bool hb106)) rfl (R.idx (s := t18) sl28 rfl rfl h108 h109 h110) ?_
                        refine DE.t 38 (v := (Value.pointer (some (a107.add ((IntKind.i64.wrap (x61 - (1 : Int))).toNat * 2))))) rfl (by kernel_rfl) (Wn.yes 33 90 true rfl rfl rfl (congrArg Value.bool hb106)) rfl (R.fld (off := 0) fa55_0 rfl) ?_
                        refine DE.t 40 (v := (SV.v t18)) rfl (by kernel_rfl) (Wn.yes 33 90 true rfl rfl rfl (congrArg Value.bool hb106)) rfl (R.move f72) ?_
                        refine DE.t 41 (v := (Value.int .i64 x61)) rfl (by kernel_rfl) (Wn.yes 33 90 true rfl rfl rfl (congrArg Value.bool hb106)) rfl (R.move f73) ?_
                        obtain ⟨a111, h112, h113, h114, h⟩ := h
                        refine DE.t 42 (v := (Value.pointer (some (a111.add (x61.toNat * 2))))) rfl (by kernel_rfl) (Wn.yes 33 90 true rfl rfl rfl (congrArg Value.bool hb106)) rfl (R.idx (s := t18) sl28 rfl rfl h112 h113 h114) ?_
                        refine DE.t 43 (v := (Value.pointer (some (a111.add (x61.toNat * 2))))) rfl (by kernel_rfl) (Wn.yes 33 90 true rfl rfl rfl (congrArg Value.bool hb106)) rfl (R.fld (off := 0) fa55_0 rfl) ?_
                        obtain ⟨t115, h116, h⟩ := h
                        refine DE.hold 39 (fun w => w.cell? (a107.add ((IntKind.i64.wrap (x61 - (1 : Int))).toNat * 2)) = some (Value.int .i64 t115)) (v := (Value.int .i64 t115)) rfl (by kernel_rfl) (Wn.yes 33 90 true rfl rfl rfl (congrArg Value.bool hb106)) rfl h116 (fun w hs => R.ld sc3 rfl hs) ?_
                        obtain ⟨t117, h118, h⟩ := h
                        refine DE.main 44 (by kernel_rfl) ?_
                        refine One.r 44 (v := (Value.int .i64 t117)) rfl (Wn.yes 33 90 true rfl rfl rfl (congrArg Value.bool hb106)) rfl (R.ld sc3 rfl h118) (.inl rfl) ?_
                        refine DE.t 45 (v := (Value.bool (decide (t117 ≤ t115)))) rfl (by kernel_rfl) (Wn.yes 33 90 true rfl rfl rfl (congrArg Value.bool hb106)) rfl (R.geq rfl rfl) ?_
                        refine DE.t 46 (v := (Value.bool (decide (t117 ≤ t115)))) rfl (by kernel_rfl) (Wn.yes 30 87 false rfl rfl rfl (congrArg Value.bool hb105)) rfl (R.pickT (congrArg Value.bool hb106) rfl) ?_
                        refine DE.t 47 (v := (Value.bool (decide (t117 ≤ t115)))) rfl (by kernel_rfl) (Wn.no rfl) rfl (R.pickF (congrArg Value.bool hb105) rfl) ?_
                        refine DE.done (by kernel_rfl) ?_
                        exact ⟨_, h, f70, f71, f72, f73, rfl⟩
                      · refine DE.u 34 rfl (by kernel_rfl) (Un.no 33 90 true rfl rfl rfl (congrArg Value.bool hb106)) ?_
                        refine DE.u 35 rfl (by kernel_rfl) (Un.no 33 90 true rfl rfl rfl (congrArg Value.bool hb106)) ?_
                        refine DE.u 36 rfl (by kernel_rfl) (Un.no 33 90 true rfl rfl rfl (congrArg Value.bool hb106)) ?_
                        refine DE.u 37 rfl (by kernel_rfl) (Un.no 33 90 true rfl rfl rfl (congrArg Value.bool hb106)) ?_
                        refine DE.u 38 rfl (by kernel_rfl) (Un.no 33 90 true rfl rfl rfl (congrArg Value.bool hb106)) ?_
                        refine DE.u 39 rfl (by kernel_rfl) (Un.no 33 90 true rfl rfl rfl (congrArg Value.bool hb106)) ?_
                        refine DE.u 40 rfl (by kernel_rfl) (Un.no 33 90 true rfl rfl rfl (congrArg Value.bool hb106)) ?_
                        refine DE.u 41 rfl (by kernel_rfl) (Un.no 33 90 true rfl rfl rfl (congrArg Value.bool hb106)) ?_
                        refine DE.u 42 rfl (by kernel_rfl) (Un.no 33 90 true rfl rfl rfl (congrArg Value.bool hb106)) ?_
                        refine DE.u 43 rfl (by kernel_rfl) (Un.no 33 90 true rfl rfl rfl (congrArg Value.bool hb106)) ?_
                        refine DE.u 44 rfl (by kernel_rfl) (Un.no 33 90 true rfl rfl rfl (congrArg Value.bool hb106)) ?_
                        refine DE.u 45 rfl (by kernel_rfl) (Un.no 33 90 true rfl rfl rfl (congrArg Value.bool hb106)) ?_
                        refine DE.t 46 (v := (Value.bool false)) rfl (by kernel_rfl) (Wn.yes 30 87 false rfl rfl rfl (congrArg Value.bool hb105)) rfl (R.pickF (congrArg Value.bool hb106) rfl) ?_
                        refine DE.t 47 (v := (Value.bool false)) rfl (by kernel_rfl) (Wn.no rfl) rfl (R.pickF (congrArg Value.bool hb105) rfl) ?_
                        refine DE.done (by kernel_rfl) ?_
                        exact ⟨_, h, f70, f71, f72, f73, rfl⟩
            · rintro e119 w120 ⟨x76, h, f121, f122, f123, f124, f125⟩
              subst hJ75
              refine WE.condT rfl (b := x76) f125 ?_ ?_
              · intro hb126
                replace h := M.ite_t h hb126
                refine WE.seq ?_
                refine WE.reg ?_
                refine LE.p (v := (Value.bool false)) (Wn.no rfl) rfl (R.assign rfl) ?_
                refine LE.nil ?_
                refine WE.ret ?_
                exact ⟨_, (Res.tmp rfl Res.nil), _, rfl, h⟩
              · intro hb126
                replace h := M.ite_f h hb126
                refine WE.skip ?_
                refine WE.reg ?_
                refine LE.p (v := (Value.int .i64 x61)) (Wn.no rfl) rfl (R.move f124) ?_
                refine LE.p (v := (Value.int .i64 (IntKind.i64.wrap (x61 + (1 : Int))))) (Wn.no rfl) rfl (R.add rfl rfl) ?_
                refine LE.p (v := (Value.int .i64 (IntKind.i64.wrap (x61 + (1 : Int))))) (Wn.no rfl) rfl (R.assign rfl) ?_
                refine LE.nil ?_
                obtain ⟨m68, hm69, h⟩ := h
                exact ⟨m68, hm69, _, h, f121, f122, f123, rfl⟩
          · intro hb74
            replace h := M.ite_f h hb74
            refine WE.exit ?_
            refine WE.reg ?_
            refine LE.p (v := (Value.int .i64 x2)) (Wn.no rfl) rfl (R.move f71) ?_
            refine LE.p (v := (Value.int .i64 (IntKind.i64.wrap (x2 + (1 : Int))))) (Wn.no rfl) rfl (R.add rfl rfl) ?_
            refine LE.p (v := (Value.int .i64 (IntKind.i64.wrap (x2 + (1 : Int))))) (Wn.no rfl) rfl (R.assign rfl) ?_
            refine LE.nil ?_
            obtain ⟨m9, hm10, h⟩ := h
            exact ⟨m9, hm10, _, h, f70, rfl⟩
    · intro hb13
      replace h := M.ite_f h hb13
      refine WE.exit ?_
      refine WE.seq ?_
      refine WE.reg ?_
      refine LE.p (v := (Value.bool true)) (Wn.no rfl) rfl (R.assign rfl) ?_
      refine LE.nil ?_
      refine WE.ret ?_
      exact ⟨_, (Res.tmp rfl Res.nil), _, rfl, h⟩
/-- The formula of signpost.signpostref26.Do. -/
def F34 (p0 : SV) (p1_0 : Bool) (p1_1 : Int) (p1_2 : Int) (p1_3 : SV) (K : SV → World → Prop) (w0 : World) : Prop :=
M.new (.cells #[(Value.bool p1_0), (Value.int .u32 p1_1), (Value.int .i64 p1_2), (SV.v p1_3)] 74) w0 fun b2 w1 =>
M.ld Value.bool b2 w1 fun t3 =>
M.loop3 (fun (J8 : SV → Bool → Int → World → Prop) (x5 : SV) (x6 : Bool) (x7 : Int) (w9 : World) => 
M.ite (decide (x7 < (p0.len : Int))) (
M.join (fun (x23 : SV) (x24 : Bool) (w101 : World) => 
J8 x23 x24 (IntKind.i64.wrap (x7 + (1 : Int))) w101) fun J22 => 
M.join (fun (x26 : SV) (x27 : Bool) (w66 : World) => 
M.drew w66 fun w72 => 
M.idx p0 x7 3 fun a73 =>
M.ld (Value.int .u32) (a73.add (x7.toNat * 3)) w72 fun t77 =>
M.ld (Value.int .i64) ((a73.add (x7.toNat * 3)).add 1) w72 fun t79 =>
M.ld (Value.int .u32) (b2.add 1) w72 fun t81 =>
M.ld (Value.int .i64) ((b2.add 1).add 1) w72 fun t83 =>
M.ite (!((t77 == t81) && (t79 == t83))) (
M.idx p0 x7 3 fun a86 =>
∃ (t90 : Int) (t91 : Int) (t92 : SV), Cs w72 (a86.add (x7.toNat * 3)) 0 [(Value.int .u32 t90), (Value.int .i64 t91), (SV.v t92)] ∧
M.new (.cells #[(Value.int .u32 t90), (Value.int .i64 t91), (SV.v t92)] 35) w72 fun b96 w94 =>
M.app Try.prog 45 45 45 x26 (SV.v (SV.mk (some b96) 1 1)) w94 fun s97 w98 =>
J22 s97 x27 w98) (
J22 x26 x27 w72)) fun J25 => 
M.join (fun (x29 : Bool) (w47 : World) => 
M.ite x29 (
∃ (t55 : Int) (t56 : Int) (t57 : SV), Cs w47 (b2.add 1) 0 [(Value.int .u32 t55), (Value.int .i64 t56), (SV.v t57)] ∧
M.new (.cells #[(Value.int .u32 t55), (Value.int .i64 t56), (SV.v t57)] 35) w47 fun b61 w59 =>
M.app Try.prog 45 45 45 x5 (SV.v (SV.mk (some b61) 1 1)) w59 fun s62 w63 =>
J25 s62 true w63) (
J25 x5 x6 w47)) fun J28 => 
M.drew w9 fun w30 => 
M.ite (!x6) (
M.idx p0 x7 3 fun a32 =>
M.ld (Value.int .u32) (b2.add 1) w30 fun t36 =>
M.ld (Value.int .i64) ((b2.add 1).add 1) w30 fun t38 =>
M.ld (Value.int .u32) (a32.add (x7.toNat * 3)) w30 fun t40 =>
M.ld (Value.int .i64) ((a32.add (x7.toNat * 3)).add 1) w30 fun t42 =>
Calls Try.prog 48 #[(Value.agg #[(Value.int .u32 t36), (Value.int .i64 t38)]), (Value.agg #[(Value.int .u32 t40), (Value.int .i64 t42)])] w30 (R48 fun r44 w45 =>
J28 r44 w45)) (
J28 false w30)) (
M.join (fun (x108 : SV) (w121 : World) => 
K x108 w121) fun J107 => 
M.ite (!x6) (
∃ (t110 : Int) (t111 : Int) (t112 : SV), Cs w9 (b2.add 1) 0 [(Value.int .u32 t110), (Value.int .i64 t111), (SV.v t112)] ∧
M.new (.cells #[(Value.int .u32 t110), (Value.int .i64 t111), (SV.v t112)] 35) w9 fun b116 w114 =>
M.app Try.prog 45 45 45 x5 (SV.v (SV.mk (some b116) 1 1)) w114 fun s117 w118 =>
J107 s117 w118) (
J107 x5 w9))) SV.nil t3 (0 : Int) w1
theorem F34_ok {w0 : World} {p0 : SV} {p1_0 : Bool} {p1_1 : Int} {p1_2 : Int} {p1_3 : SV} {K : SV → World → Prop} (h : F34 p0 p1_0 p1_1 p1_2 p1_3 K w0) : Calls Try.prog 34 #[(SV.v p0), (Value.agg #[(Value.bool p1_0), (Value.int .u32 p1_1), (Value.int .i64 p1_2), (SV.v p1_3)])] w0 (R34 K) := by
  refine calls_of_WE (args := [(SV.v p0), (Value.agg #[(Value.bool p1_0), (Value.int .u32 p1_1), (Value.int .i64 p1_2), (SV.v p1_3)])]) (rs := [.tmp 4]) Try.func34 rfl (N := 58) rfl rfl rfl rfl ?_
  refine WE.seq ?_
  refine WE.reg ?_
  obtain ⟨b2, hpb2, w1, hww1, h⟩ := M.new_use h
  refine LE.r (v := (Value.pointer (some b2))) (Wn.no rfl) rfl (R.box (cs := #[(Value.bool p1_0), (Value.int .u32 p1_1), (Value.int .i64 p1_2), (SV.v p1_3)]) rfl rfl hpb2 hww1) ?_
  refine LE.p (v := (SV.v SV.nil)) (Wn.no rfl) rfl (R.assign rfl) ?_
  refine LE.nil ?_
  refine WE.seq ?_
  refine WE.reg ?_
  refine LE.p (v := (SV.v SV.nil)) (Wn.no rfl) rfl (R.assign rfl) ?_
  refine LE.nil ?_
  refine WE.seq ?_
  refine WE.reg ?_
  refine LE.p (v := (Value.pointer (some b2))) (Wn.no rfl) rfl (R.fld (off := 0) fa74_0 rfl) ?_
  obtain ⟨t3, h4, h⟩ := h
  refine LE.r (v := (Value.bool t3)) (Wn.no rfl) rfl (R.ld sc4 rfl h4) ?_
  refine LE.p (v := (Value.bool t3)) (Wn.no rfl) rfl (R.assign rfl) ?_
  refine LE.nil ?_
  refine WE.seq ?_
  refine WE.seq ?_
  refine WE.reg ?_
  refine LE.p (v := (Value.int .i64 (0 : Int))) (Wn.no rfl) rfl (R.assign rfl) ?_
  refine LE.nil ?_
  refine WE.block ?_
  obtain ⟨I12, ⟨n11, h⟩, hr13⟩ := h
  refine WE.loop (fun n e w => ∃ (x5 : SV) (x6 : Bool) (x7 : Int), I12 n x5 x6 x7 w ∧ e 0 = (SV.v p0) ∧ e 3 = (Value.pointer (some b2)) ∧ e 5 = (SV.v x5) ∧ e 6 = (Value.bool x6) ∧ e 7 = (Value.int .i64 x7)) n11 ⟨_, _, _, h, rfl, rfl, rfl, rfl, rfl⟩ ?_
  clear h
  rintro n11 e10 w9 ⟨x5, x6, x7, h, f16, f17, f18, f19, f20⟩
  replace h := hr13 n11 x5 x6 x7 w9 h
  refine WE.seq ?_
  refine WE.seq ?_
  refine WE.reg ?_
  refine LE.p (v := (Value.int .i64 x7)) (Wn.no rfl) rfl (R.move f20) ?_
  refine LE.p (v := (SV.v p0)) (Wn.no rfl) rfl (R.move f16) ?_
  refine LE.p (v := (Value.int .i64 (p0.len : Int))) (Wn.no rfl) rfl (R.len sl45 rfl) ?_
  refine LE.p (v := (Value.bool (decide (x7 < (p0.len : Int))))) (Wn.no rfl) rfl (R.lss rfl rfl) ?_
  refine LE.nil ?_
  refine WE.condT rfl (b := (decide (x7 < (p0.len : Int)))) rfl ?_ ?_
  · intro hb21
    replace h := M.ite_t h hb21
    refine WE.skip ?_
    refine WE.seq ?_
    obtain ⟨J22, hJ22, h⟩ := M.join_use h
    refine WE.blkJ (fun e w => ∃ (x23 : SV) (x24 : Bool), J22 x23 x24 w ∧ e 0 = (SV.v p0) ∧ e 3 = (Value.pointer (some b2)) ∧ e 5 = (SV.v x23) ∧ e 6 = (Value.bool x24) ∧ e 7 = (Value.int .i64 x7)) ?_ ?_
    · clear hJ22
      obtain ⟨J25, hJ25, h⟩ := M.join_use h
      refine WE.join (fun e w => ∃ (x26 : SV) (x27 : Bool), J25 x26 x27 w ∧ e 0 = (SV.v p0) ∧ e 3 = (Value.pointer (some b2)) ∧ e 5 = (SV.v x26) ∧ e 6 = (Value.bool x27) ∧ e 7 = (Value.int .i64 x7)) ?_ ?_
      · clear hJ25
        refine WE.seq ?_
        obtain ⟨J28, hJ28, h⟩ := M.join_use h
        refine WE.drawJ (fun e w => ∃ (x29 : Bool), J28 x29 w ∧ e 0 = (SV.v p0) ∧ e 3 = (Value.pointer (some b2)) ∧ e 5 = (SV.v x5) ∧ e 6 = (Value.bool x6) ∧ e 7 = (Value.int .i64 x7) ∧ e 28 = (Value.bool x29)) mix ?_ ?_
        · clear hJ28
          obtain ⟨w30, hww30, h⟩ := M.drew_use h
          rw [← hww30]
          clear hww30
          refine DE.t 0 (v := (Value.bool x6)) rfl (by kernel_rfl) (Wn.no rfl) rfl (R.move f19) ?_
          refine DE.t 1 (v := (Value.bool (!x6))) rfl (by kernel_rfl) (Wn.no rfl) rfl (R.not rfl) ?_
          refine DE.t 2 (v := (Value.bool (!x6))) rfl (by kernel_rfl) (Wn.no rfl) rfl (R.move rfl) ?_
          rcases M.ite_use h with ⟨hb31, h⟩ | ⟨hb31, h⟩
          · refine DE.t 3 (v := (Value.pointer (some (b2.add 1)))) rfl (by kernel_rfl) (Wn.yes 2 18 true rfl rfl rfl (congrArg Value.bool hb31)) rfl (R.fld (off := 1) fa74_1 f17) ?_
            refine DE.t 4 (v := (Value.pointer (some (b2.add 1)))) rfl (by kernel_rfl) (Wn.yes 2 18 true rfl rfl rfl (congrArg Value.bool hb31)) rfl (R.fld (off := 0) fa35_0 rfl) ?_
            refine DE.t 6 (v := (SV.v p0)) rfl (by kernel_rfl) (Wn.yes 2 18 true rfl rfl rfl (congrArg Value.bool hb31)) rfl (R.move f16) ?_
            refine DE.t 7 (v := (Value.int .i64 x7)) rfl (by kernel_rfl) (Wn.yes 2 18 true rfl rfl rfl (congrArg Value.bool hb31)) rfl (R.move f20) ?_
            obtain ⟨a32, h33, h34, h35, h⟩ := h
            refine DE.t 8 (v := (Value.pointer (some (a32.add (x7.toNat * 3))))) rfl (by kernel_rfl) (Wn.yes 2 18 true rfl rfl rfl (congrArg Value.bool hb31)) rfl (R.idx (s := p0) sl45 rfl rfl h33 h34 h35) ?_
            refine DE.t 9 (v := (Value.pointer (some (a32.add (x7.toNat * 3))))) rfl (by kernel_rfl) (Wn.yes 2 18 true rfl rfl rfl (congrArg Value.bool hb31)) rfl (R.fld (off := 0) fa35_0 rfl) ?_
            obtain ⟨t36, h37, h⟩ := h
            obtain ⟨t38, h39, h⟩ := h
            refine DE.hold 5 (fun w => w.cell? (b2.add 1) = some (Value.int .u32 t36) ∧ w.cell? ((b2.add 1).add 1) = some (Value.int .i64 t38)) (v := (Value.agg #[(Value.int .u32 t36), (Value.int .i64 t38)])) rfl (by kernel_rfl) (Wn.yes 2 18 true rfl rfl rfl (congrArg Value.bool hb31)) rfl ⟨h37, h39⟩ (fun w hs => R.ldA ag33 sz33 rfl rfl (Cs.cons hs.1 (Cs.cons hs.2 Cs.nil))) ?_
            obtain ⟨t40, h41, h⟩ := h
            obtain ⟨t42, h43, h⟩ := h
            refine DE.main 10 (by kernel_rfl) ?_
            refine One.r 10 (v := (Value.agg #[(Value.int .u32 t40), (Value.int .i64 t42)])) rfl (Wn.yes 2 18 true rfl rfl rfl (congrArg Value.bool hb31)) rfl (R.ldA ag33 sz33 rfl rfl (Cs.cons h41 (Cs.cons h43 Cs.nil))) (.inl rfl) ?_
            refine DE.main 11 (by kernel_rfl) ?_
            refine One.c 11 rfl (Wn.yes 2 18 true rfl rfl rfl (congrArg Value.bool hb31)) rfl (R.call bd48 (Ls.cons rfl (Ls.cons rfl Ls.nil)) rfl) (Calls.mono h ?_)
            rintro _ w45 ⟨r44, rfl, h⟩
            refine ⟨_, rfl, ⟨aftT (by kernel_rfl), trivial⟩, ?_⟩
            refine DE.t 12 (v := (Value.bool r44)) rfl (by kernel_rfl) (Wn.no rfl) rfl (R.pickT (congrArg Value.bool hb31) rfl) ?_
            refine DE.done (by kernel_rfl) ?_
            exact ⟨_, h, f16, f17, f18, f19, f20, rfl⟩
          · refine DE.u 3 rfl (by kernel_rfl) (Un.no 2 18 true rfl rfl rfl (congrArg Value.bool hb31)) ?_
            refine DE.u 4 rfl (by kernel_rfl) (Un.no 2 18 true rfl rfl rfl (congrArg Value.bool hb31)) ?_
            refine DE.u 5 rfl (by kernel_rfl) (Un.no 2 18 true rfl rfl rfl (congrArg Value.bool hb31)) ?_
            refine DE.u 6 rfl (by kernel_rfl) (Un.no 2 18 true rfl rfl rfl (congrArg Value.bool hb31)) ?_
            refine DE.u 7 rfl (by kernel_rfl) (Un.no 2 18 true rfl rfl rfl (congrArg Value.bool hb31)) ?_
            refine DE.u 8 rfl (by kernel_rfl) (Un.no 2 18 true rfl rfl rfl (congrArg Value.bool hb31)) ?_
            refine DE.u 9 rfl (by kernel_rfl) (Un.no 2 18 true rfl rfl rfl (congrArg Value.bool hb31)) ?_
            refine DE.u 10 rfl (by kernel_rfl) (Un.no 2 18 true rfl rfl rfl (congrArg Value.bool hb31)) ?_
            refine DE.u 11 rfl (by kernel_rfl) (Un.no 2 18 true rfl rfl rfl (congrArg Value.bool hb31)) ?_
            refine DE.t 12 (v := (Value.bool false)) rfl (by kernel_rfl) (Wn.no rfl) rfl (R.pickF (congrArg Value.bool hb31) rfl) ?_
            refine DE.done (by kernel_rfl) ?_
            exact ⟨_, h, f16, f17, f18, f19, f20, rfl⟩
        · rintro e46 w47 ⟨x29, h, f48, f49, f50, f51, f52, f53⟩
          subst hJ28
          refine WE.condT rfl (b := x29) f53 ?_ ?_
          · intro hb54
            replace h := M.ite_t h hb54
            refine WE.seq ?_
            refine WE.reg ?_
            refine LE.p (v := (SV.v x5)) (Wn.no rfl) rfl (R.move f50) ?_
            refine LE.p (v := (Value.pointer (some (b2.add 1)))) (Wn.no rfl) rfl (R.fld (off := 1) fa74_1 f49) ?_
            obtain ⟨t55, t56, t57, h58, h⟩ := h
            refine LE.r (v := (Value.agg #[(Value.int .u32 t55), (Value.int .i64 t56), (SV.v t57)])) (Wn.no rfl) rfl (R.ldA ag35 sz35 rfl rfl h58) ?_
            obtain ⟨b61, hpb61, w59, hww59, h⟩ := M.new_use h
            refine LE.r (v := (SV.v (SV.mk (some b61) 1 1))) (Wn.no rfl) rfl (R.bsl (by exact (Ls.cons (R.Pr rfl) Ls.nil)) (fun w => bs45_1 t55 t56 t57 w) hpb61 hww59) ?_
            obtain ⟨s62, w63, h64, h⟩ := h
            refine LE.r (v := (SV.v s62)) (Wn.no rfl) rfl (R.app (s := x5) (r := s62) rfl rfl h64) ?_
            refine LE.p (v := (SV.v s62)) (Wn.no rfl) rfl (R.assign rfl) ?_
            refine LE.nil ?_
            refine WE.reg ?_
            refine LE.p (v := (Value.bool true)) (Wn.no rfl) rfl (R.assign rfl) ?_
            refine LE.nil ?_
            exact ⟨_, _, h, f48, f49, rfl, rfl, f52⟩
          · intro hb54
            replace h := M.ite_f h hb54
            refine WE.skip ?_
            exact ⟨_, _, h, f48, f49, f50, f51, f52⟩
      · rintro e65 w66 ⟨x26, x27, h, f67, f68, f69, f70, f71⟩
        subst hJ25
        refine WE.seq ?_
        refine WE.draw mix ?_
        obtain ⟨w72, hww72, h⟩ := M.drew_use h
        rw [← hww72]
        clear hww72
        refine DE.t 0 (v := (SV.v p0)) rfl (by kernel_rfl) (Wn.no rfl) rfl (R.move f67) ?_
        refine DE.t 1 (v := (Value.int .i64 x7)) rfl (by kernel_rfl) (Wn.no rfl) rfl (R.move f71) ?_
        obtain ⟨a73, h74, h75, h76, h⟩ := h
        refine DE.t 2 (v := (Value.pointer (some (a73.add (x7.toNat * 3))))) rfl (by kernel_rfl) (Wn.no rfl) rfl (R.idx (s := p0) sl45 rfl rfl h74 h75 h76) ?_
        refine DE.t 3 (v := (Value.pointer (some (a73.add (x7.toNat * 3))))) rfl (by kernel_rfl) (Wn.no rfl) rfl (R.fld (off := 0) fa35_0 rfl) ?_
        refine DE.t 5 (v := (Value.pointer (some (b2.add 1)))) rfl (by kernel_rfl) (Wn.no rfl) rfl (R.fld (off := 1) fa74_1 f68) ?_
        refine DE.t 6 (v := (Value.pointer (some (b2.add 1)))) rfl (by kernel_rfl) (Wn.no rfl) rfl (R.fld (off := 0) fa35_0 rfl) ?_
        obtain ⟨t77, h78, h⟩ := h
        obtain ⟨t79, h80, h⟩ := h
        refine DE.hold 4 (fun w => w.cell? (a73.add (x7.toNat * 3)) = some (Value.int .u32 t77) ∧ w.cell? ((a73.add (x7.toNat * 3)).add 1) = some (Value.int .i64 t79)) (v := (Value.agg #[(Value.int .u32 t77), (Value.int .i64 t79)])) rfl (by kernel_rfl) (Wn.no rfl) rfl ⟨h78, h80⟩ (fun w hs => R.ldA ag33 sz33 rfl rfl (Cs.cons hs.1 (Cs.cons hs.2 Cs.nil))) ?_
        obtain ⟨t81, h82, h⟩ := h
        obtain ⟨t83, h84, h⟩ := h
        refine DE.main 7 (by kernel_rfl) ?_
        refine One.r 7 (v := (Value.agg #[(Value.int .u32 t81), (Value.int .i64 t83)])) rfl (Wn.no rfl) rfl (R.ldA ag33 sz33 rfl rfl (Cs.cons h82 (Cs.cons h84 Cs.nil))) (.inl rfl) ?_
        refine DE.t 8 (v := (Value.bool (!((t77 == t81) && (t79 == t83))))) rfl (by kernel_rfl) (Wn.no rfl) rfl (R.neS (fun w => eq33 t77 t81 t79 t83 w) sg33 rfl rfl) ?_
        refine DE.done (by kernel_rfl) ?_
        refine WE.condT rfl (b := (!((t77 == t81) && (t79 == t83)))) rfl ?_ ?_
        · intro hb85
          replace h := M.ite_t h hb85
          refine WE.reg ?_
          refine LE.p (v := (SV.v x26)) (Wn.no rfl) rfl (R.move f69) ?_
          refine LE.p (v := (SV.v p0)) (Wn.no rfl) rfl (R.move f67) ?_
          refine LE.p (v := (Value.int .i64 x7)) (Wn.no rfl) rfl (R.move f71) ?_
          obtain ⟨a86, h87, h88, h89, h⟩ := h
          refine LE.p (v := (Value.pointer (some (a86.add (x7.toNat * 3))))) (Wn.no rfl) rfl (R.idx (s := p0) sl45 rfl rfl h87 h88 h89) ?_
          obtain ⟨t90, t91, t92, h93, h⟩ := h
          refine LE.r (v := (Value.agg #[(Value.int .u32 t90), (Value.int .i64 t91), (SV.v t92)])) (Wn.no rfl) rfl (R.ldA ag35 sz35 rfl rfl h93) ?_
          obtain ⟨b96, hpb96, w94, hww94, h⟩ := M.new_use h
          refine LE.r (v := (SV.v (SV.mk (some b96) 1 1))) (Wn.no rfl) rfl (R.bsl (by exact (Ls.cons (R.Pr rfl) Ls.nil)) (fun w => bs45_1 t90 t91 t92 w) hpb96 hww94) ?_
          obtain ⟨s97, w98, h99, h⟩ := h
          refine LE.r (v := (SV.v s97)) (Wn.no rfl) rfl (R.app (s := x26) (r := s97) rfl rfl h99) ?_
          refine LE.p (v := (SV.v s97)) (Wn.no rfl) rfl (R.assign rfl) ?_
          refine LE.nil ?_
          exact ⟨_, _, h, f67, f68, rfl, f70, f71⟩
        · intro hb85
          replace h := M.ite_f h hb85
          refine WE.skip ?_
          exact ⟨_, _, h, f67, f68, f69, f70, f71⟩
    · rintro e100 w101 ⟨x23, x24, h, f102, f103, f104, f105, f106⟩
      subst hJ22
      refine WE.reg ?_
      refine LE.p (v := (Value.int .i64 x7)) (Wn.no rfl) rfl (R.move f106) ?_
      refine LE.p (v := (Value.int .i64 (IntKind.i64.wrap (x7 + (1 : Int))))) (Wn.no rfl) rfl (R.add rfl rfl) ?_
      refine LE.p (v := (Value.int .i64 (IntKind.i64.wrap (x7 + (1 : Int))))) (Wn.no rfl) rfl (R.assign rfl) ?_
      refine LE.nil ?_
      obtain ⟨m14, hm15, h⟩ := h
      exact ⟨m14, hm15, _, _, _, h, f102, f103, f104, f105, rfl⟩
  · intro hb21
    replace h := M.ite_f h hb21
    refine WE.exit ?_
    obtain ⟨J107, hJ107, h⟩ := M.join_use h
    refine WE.join (fun e w => ∃ (x108 : SV), J107 x108 w ∧ e 5 = (SV.v x108)) ?_ ?_
    · clear hJ107
      refine WE.seq ?_
      refine WE.reg ?_
      refine LE.p (v := (Value.bool x6)) (Wn.no rfl) rfl (R.move f19) ?_
      refine LE.p (v := (Value.bool (!x6))) (Wn.no rfl) rfl (R.not rfl) ?_
      refine LE.nil ?_
      refine WE.condT rfl (b := (!x6)) rfl ?_ ?_
      · intro hb109
        replace h := M.ite_t h hb109
        refine WE.reg ?_
        refine LE.p (v := (SV.v x5)) (Wn.no rfl) rfl (R.move f18) ?_
        refine LE.p (v := (Value.pointer (some (b2.add 1)))) (Wn.no rfl) rfl (R.fld (off := 1) fa74_1 f17) ?_
        obtain ⟨t110, t111, t112, h113, h⟩ := h
        refine LE.r (v := (Value.agg #[(Value.int .u32 t110), (Value.int .i64 t111), (SV.v t112)])) (Wn.no rfl) rfl (R.ldA ag35 sz35 rfl rfl h113) ?_
        obtain ⟨b116, hpb116, w114, hww114, h⟩ := M.new_use h
        refine LE.r (v := (SV.v (SV.mk (some b116) 1 1))) (Wn.no rfl) rfl (R.bsl (by exact (Ls.cons (R.Pr rfl) Ls.nil)) (fun w => bs45_1 t110 t111 t112 w) hpb116 hww114) ?_
        obtain ⟨s117, w118, h119, h⟩ := h
        refine LE.r (v := (SV.v s117)) (Wn.no rfl) rfl (R.app (s := x5) (r := s117) rfl rfl h119) ?_
        refine LE.p (v := (SV.v s117)) (Wn.no rfl) rfl (R.assign rfl) ?_
        refine LE.nil ?_
        exact ⟨_, h, rfl⟩
      · intro hb109
        replace h := M.ite_f h hb109
        refine WE.skip ?_
        exact ⟨_, h, f18⟩
    · rintro e120 w121 ⟨x108, h, f122⟩
      subst hJ107
      refine WE.seq ?_
      refine WE.reg ?_
      refine LE.p (v := (SV.v x108)) (Wn.no rfl) rfl (R.move f122) ?_
      refine LE.p (v := (SV.v x108)) (Wn.no rfl) rfl (R.assign rfl) ?_
      refine LE.nil ?_
      refine WE.ret ?_
      exact ⟨_, (Res.tmp rfl Res.nil), _, rfl, h⟩
/-- The formula of (*signpost.fib.Table).Room. -/
def F35 (p0 : Option Addr) (p1 : Int) (K : World → Prop) (w0 : World) : Prop :=
M.nil p0 fun a1 =>
M.st a1 (Value.int .i64 (min (max p1 (0 : Int)) (4096 : Int))) w0 fun w3 =>
K w3
theorem F35_ok {w0 : World} {p0 : Option Addr} {p1 : Int} {K : World → Prop} (h : F35 p0 p1 K w0) : Calls Try.prog 35 #[(Value.pointer p0), (Value.int .i64 p1)] w0 (R35 K) := by
  refine calls_of_WE (args := [(Value.pointer p0), (Value.int .i64 p1)]) (rs := []) Try.func35 rfl (N := 10) rfl rfl rfl rfl ?_
  refine WE.reg ?_
  refine LE.p (v := (Value.pointer p0)) (Wn.no rfl) rfl (R.move rfl) ?_
  refine LE.p (v := (Value.int .i64 p1)) (Wn.no rfl) rfl (R.move rfl) ?_
  refine LE.p (v := (Value.int .i64 (max p1 (0 : Int)))) (Wn.no rfl) rfl (R.max2 rfl rfl) ?_
  refine LE.p (v := (Value.int .i64 (min (max p1 (0 : Int)) (4096 : Int)))) (Wn.no rfl) rfl (R.min2 rfl rfl) ?_
  obtain ⟨a1, h2, h⟩ := h
  refine LE.p (v := (Value.pointer (some a1))) (Wn.no rfl) rfl (R.nilC (congrArg Value.pointer h2)) ?_
  refine LE.p (v := (Value.pointer (some a1))) (Wn.no rfl) rfl (R.fld (off := 0) fa62_0 rfl) ?_
  obtain ⟨w3, hww3, h4, h5, h⟩ := M.st_use h
  refine LE.s (Wn.no rfl) rfl (R.st (a := a1) (v := (Value.int .i64 (min (max p1 (0 : Int)) (4096 : Int)))) sz3 rfl rfl rfl rfl h4 h5 hww3) ?_
  refine LE.nil ?_
  exact ⟨_,  Res.nil, rfl, h⟩
/-- The formula of signpost.signpostref24.Edges. -/
def F36 (p0 : SV) (K : SV → World → Prop) (w0 : World) : Prop :=
M.new (.cells #[(Value.int .u32 (0 : Int))] 23) w0 fun b3 w1 =>
M.loop2 (fun (J6 : SV → Int → World → Prop) (x4 : SV) (x5 : Int) (w7 : World) => 
M.ite (decide (x5 < (p0.len : Int))) (
M.idx p0 x5 1 fun a19 =>
M.ld SV.v (a19.add (x5.toNat * 1)) w7 fun t23 =>
M.loop2 (fun (J27 : SV → Int → World → Prop) (x25 : SV) (x26 : Int) (w28 : World) => 
M.ite (decide (x26 < (t23.len : Int))) (
M.idx t23 x26 3 fun a42 =>
M.ld (Value.int .u32) (a42.add (x26.toNat * 3)) w28 fun t46 =>
M.ld (Value.int .i64) ((a42.add (x26.toNat * 3)).add 1) w28 fun t48 =>
M.new (.cells #[(Value.int .u32 (0 : Int)), (Value.int .i64 (0 : Int))] 33) w28 fun b51 w50 =>
M.stA b51 [(Value.int .u32 t46), (Value.int .i64 t48)] w50 fun w52 =>
M.drew w52 fun w54 => 
M.ld (Value.int .u32) b51 w54 fun t55 =>
M.ld (Value.int .u32) b51 w54 fun t57 =>
M.ld (Value.int .i64) (b51.add 1) w54 fun t59 =>
Calls Try.prog 29 #[(Value.int .i64 t59)] w54 (R29 fun r61 w62 =>
M.keep (w62.cell? b51 = some (Value.int .u32 t57)) <|
M.keep (w62.cell? b51 = some (Value.int .u32 t55)) <|
M.new (.cells #[(Value.int .u32 t55), (Value.int .u32 (IntKind.u32.wrap ((bOr .u32 t57 (bXor .u32 (IntKind.max .u32) r61)) + (1 : Int))))] 23) w62 fun b67 w65 =>
M.app Try.prog 76 76 76 x25 (SV.v (SV.mk (some b67) 2 2)) w65 fun s68 w69 =>
J27 s68 (IntKind.i64.wrap (x26 + (1 : Int))) w69)) (
J6 x25 (IntKind.i64.wrap (x5 + (1 : Int))) w28)) x4 (0 : Int) w7) (
K x4 w7)) (SV.mk (some b3) 1 1) (0 : Int) w1
theorem F36_ok {w0 : World} {p0 : SV} {K : SV → World → Prop} (h : F36 p0 K w0) : Calls Try.prog 36 #[(SV.v p0)] w0 (R36 K) := by
  refine calls_of_WE (args := [(SV.v p0)]) (rs := [.tmp 2]) Try.func36 rfl (N := 41) rfl rfl rfl rfl ?_
  refine WE.seq ?_
  refine WE.reg ?_
  refine LE.p (v := (SV.v SV.nil)) (Wn.no rfl) rfl (R.assign rfl) ?_
  refine LE.nil ?_
  refine WE.seq ?_
  refine WE.reg ?_
  obtain ⟨b3, hpb3, w1, hww1, h⟩ := M.new_use h
  refine LE.r (v := (SV.v (SV.mk (some b3) 1 1))) (Wn.no rfl) rfl (R.bsl (by exact (Ls.cons (R.Pr rfl) Ls.nil)) (fun w => bs76_1 (0 : Int) w) hpb3 hww1) ?_
  refine LE.p (v := (SV.v (SV.mk (some b3) 1 1))) (Wn.no rfl) rfl (R.assign rfl) ?_
  refine LE.nil ?_
  refine WE.seq ?_
  refine WE.seq ?_
  refine WE.reg ?_
  refine LE.p (v := (SV.v p0)) (Wn.no rfl) rfl (R.move rfl) ?_
  refine LE.p (v := (Value.int .i64 (p0.len : Int))) (Wn.no rfl) rfl (R.len sl95 rfl) ?_
  refine LE.p (v := (Value.int .i64 (0 : Int))) (Wn.no rfl) rfl (R.move rfl) ?_
  refine LE.nil ?_
  refine WE.block ?_
  obtain ⟨I10, ⟨n9, h⟩, hr11⟩ := h
  refine WE.loop (fun n e w => ∃ (x4 : SV) (x5 : Int), I10 n x4 x5 w ∧ e 3 = (SV.v x4) ∧ e 9 = (SV.v p0) ∧ e 10 = (Value.int .i64 (p0.len : Int)) ∧ e 11 = (Value.int .i64 x5)) n9 ⟨_, _, h, rfl, rfl, rfl, rfl⟩ ?_
  clear h
  rintro n9 e8 w7 ⟨x4, x5, h, f14, f15, f16, f17⟩
  replace h := hr11 n9 x4 x5 w7 h
  refine WE.seq ?_
  refine WE.reg ?_
  refine LE.p (v := (Value.bool (decide (x5 < (p0.len : Int))))) (Wn.no rfl) rfl (R.lss f17 f16) ?_
  refine LE.nil ?_
  refine WE.seq ?_
  refine WE.condT rfl (b := (decide (x5 < (p0.len : Int)))) rfl ?_ ?_
  · intro hb18
    replace h := M.ite_t h hb18
    refine WE.skip ?_
    refine WE.seq ?_
    refine WE.block ?_
    refine WE.seq ?_
    refine WE.reg ?_
    obtain ⟨a19, h20, h21, h22, h⟩ := h
    refine LE.p (v := (Value.pointer (some (a19.add (x5.toNat * 1))))) (Wn.no rfl) rfl (R.idx (s := p0) sl95 f15 f17 h20 h21 h22) ?_
    obtain ⟨t23, h24, h⟩ := h
    refine LE.r (v := (SV.v t23)) (Wn.no rfl) rfl (R.ld sc45 rfl h24) ?_
    refine LE.p (v := (SV.v t23)) (Wn.no rfl) rfl (R.assign rfl) ?_
    refine LE.nil ?_
    refine WE.seq ?_
    refine WE.reg ?_
    refine LE.p (v := (Value.int .i64 (0 : Int))) (Wn.no rfl) rfl (R.assign rfl) ?_
    refine LE.nil ?_
    refine WE.block ?_
    obtain ⟨I31, ⟨n30, h⟩, hr32⟩ := h
    refine WE.loop (fun n e w => ∃ (x25 : SV) (x26 : Int), I31 n x25 x26 w ∧ e 3 = (SV.v x25) ∧ e 5 = (SV.v t23) ∧ e 6 = (Value.int .i64 x26) ∧ e 9 = (SV.v p0) ∧ e 10 = (Value.int .i64 (p0.len : Int)) ∧ e 11 = (Value.int .i64 x5)) n30 ⟨_, _, h, f14, rfl, rfl, f15, f16, f17⟩ ?_
    clear h
    rintro n30 e29 w28 ⟨x25, x26, h, f35, f36, f37, f38, f39, f40⟩
    replace h := hr32 n30 x25 x26 w28 h
    refine WE.seq ?_
    refine WE.seq ?_
    refine WE.reg ?_
    refine LE.p (v := (Value.int .i64 x26)) (Wn.no rfl) rfl (R.move f37) ?_
    refine LE.p (v := (SV.v t23)) (Wn.no rfl) rfl (R.move f36) ?_
    refine LE.p (v := (Value.int .i64 (t23.len : Int))) (Wn.no rfl) rfl (R.len sl45 rfl) ?_
    refine LE.p (v := (Value.bool (decide (x26 < (t23.len : Int))))) (Wn.no rfl) rfl (R.lss rfl rfl) ?_
    refine LE.nil ?_
    refine WE.condT rfl (b := (decide (x26 < (t23.len : Int)))) rfl ?_ ?_
    · intro hb41
      replace h := M.ite_t h hb41
      refine WE.skip ?_
      refine WE.seq ?_
      refine WE.block ?_
      refine WE.seq ?_
      refine WE.reg ?_
      refine LE.p (v := (SV.v t23)) (Wn.no rfl) rfl (R.move f36) ?_
      refine LE.p (v := (Value.int .i64 x26)) (Wn.no rfl) rfl (R.move f37) ?_
      obtain ⟨a42, h43, h44, h45, h⟩ := h
      refine LE.p (v := (Value.pointer (some (a42.add (x26.toNat * 3))))) (Wn.no rfl) rfl (R.idx (s := t23) sl45 rfl rfl h43 h44 h45) ?_
      refine LE.p (v := (Value.pointer (some (a42.add (x26.toNat * 3))))) (Wn.no rfl) rfl (R.fld (off := 0) fa35_0 rfl) ?_
      obtain ⟨t46, h47, h⟩ := h
      obtain ⟨t48, h49, h⟩ := h
      refine LE.r (v := (Value.agg #[(Value.int .u32 t46), (Value.int .i64 t48)])) (Wn.no rfl) rfl (R.ldA ag33 sz33 rfl rfl (Cs.cons h47 (Cs.cons h49 Cs.nil))) ?_
      obtain ⟨b51, hpb51, w50, hww50, h⟩ := M.new_use h
      refine LE.r (v := (Value.pointer (some b51))) (Wn.no rfl) rfl (R.alloc (cs := #[(Value.int .u32 (0 : Int)), (Value.int .i64 (0 : Int))]) ze33 rfl hpb51 hww50) ?_
      obtain ⟨w52, hww52, h53, h⟩ := M.stA_use h
      refine LE.s (Wn.no rfl) rfl (R.stA (a := b51) [(Value.int .u32 t46), (Value.int .i64 t48)] sz33 rfl rfl rfl (by simp [Value.oneCell']) h53 hww52) ?_
      refine LE.nil ?_
      refine WE.draw mix ?_
      obtain ⟨w54, hww54, h⟩ := M.drew_use h
      rw [← hww54]
      clear hww54
      refine DE.t 0 (v := (SV.v x25)) rfl (by kernel_rfl) (Wn.no rfl) rfl (R.move f35) ?_
      refine DE.t 1 (v := (Value.pointer (some b51))) rfl (by kernel_rfl) (Wn.no rfl) rfl (R.fld (off := 0) fa33_0 rfl) ?_
      refine DE.t 3 (v := (Value.pointer (some b51))) rfl (by kernel_rfl) (Wn.no rfl) rfl (R.fld (off := 0) fa33_0 rfl) ?_
      refine DE.t 5 (v := (Value.pointer (some (b51.add 1)))) rfl (by kernel_rfl) (Wn.no rfl) rfl (R.fld (off := 1) fa33_1 rfl) ?_
      obtain ⟨t55, h56, h⟩ := h
      refine DE.hold 2 (fun w => w.cell? b51 = some (Value.int .u32 t55)) (v := (Value.int .u32 t55)) rfl (by kernel_rfl) (Wn.no rfl) rfl h56 (fun w hs => R.ld sc23 rfl hs) ?_
      obtain ⟨t57, h58, h⟩ := h
      refine DE.hold 4 (fun w => w.cell? b51 = some (Value.int .u32 t57)) (v := (Value.int .u32 t57)) rfl (by kernel_rfl) (Wn.no rfl) rfl h58 (fun w hs => R.ld sc23 rfl hs) ?_
      obtain ⟨t59, h60, h⟩ := h
      refine DE.main 6 (by kernel_rfl) ?_
      refine One.r 6 (v := (Value.int .i64 t59)) rfl (Wn.no rfl) rfl (R.ld sc3 rfl h60) (.inl rfl) ?_
      refine DE.main 7 (by kernel_rfl) ?_
      refine One.c 7 rfl (Wn.no rfl) rfl (R.call bd29 (Ls.cons rfl Ls.nil) rfl) (Calls.mono h ?_)
      rintro _ w62 ⟨r61, rfl, h⟩
      obtain ⟨k63, h⟩ := h
      obtain ⟨k64, h⟩ := h
      refine ⟨_, rfl, ⟨fun _ => k63, fun _ => k64, trivial⟩, ?_⟩
      refine DE.t 8 (v := (Value.int .u32 (bXor .u32 (IntKind.max .u32) r61))) rfl (by kernel_rfl) (Wn.no rfl) rfl (R.complU rfl) ?_
      refine DE.t 9 (v := (Value.int .u32 (bOr .u32 t57 (bXor .u32 (IntKind.max .u32) r61)))) rfl (by kernel_rfl) (Wn.no rfl) rfl (R.or rfl rfl) ?_
      refine DE.t 10 (v := (Value.int .u32 (IntKind.u32.wrap ((bOr .u32 t57 (bXor .u32 (IntKind.max .u32) r61)) + (1 : Int))))) rfl (by kernel_rfl) (Wn.no rfl) rfl (R.add rfl rfl) ?_
      obtain ⟨b67, hpb67, w65, hww65, h⟩ := M.new_use h
      refine DE.main 11 (by kernel_rfl) ?_
      refine One.r 11 (v := (SV.v (SV.mk (some b67) 2 2))) rfl (Wn.no rfl) rfl (R.bsl (by exact (Ls.cons (R.Pr rfl) (Ls.cons (R.Pr rfl) Ls.nil))) (fun w => bs76_2 t55 (IntKind.u32.wrap ((bOr .u32 t57 (bXor .u32 (IntKind.max .u32) r61)) + (1 : Int))) w) hpb67 hww65) (.inr ⟨aftT (by kernel_rfl), aftT (by kernel_rfl), trivial⟩) ?_
      obtain ⟨s68, w69, h70, h⟩ := h
      refine DE.main 12 (by kernel_rfl) ?_
      refine One.r 12 (v := (SV.v s68)) rfl (Wn.no rfl) rfl (R.app (s := x25) (r := s68) rfl rfl h70) (.inr ⟨aftT (by kernel_rfl), aftT (by kernel_rfl), trivial⟩) ?_
      refine DE.t 13 (v := (SV.v s68)) rfl (by kernel_rfl) (Wn.no rfl) rfl (R.assign rfl) ?_
      refine DE.done (by kernel_rfl) ?_
      refine WE.reg ?_
      refine LE.p (v := (Value.int .i64 x26)) (Wn.no rfl) rfl (R.move f37) ?_
      refine LE.p (v := (Value.int .i64 (IntKind.i64.wrap (x26 + (1 : Int))))) (Wn.no rfl) rfl (R.add rfl rfl) ?_
      refine LE.p (v := (Value.int .i64 (IntKind.i64.wrap (x26 + (1 : Int))))) (Wn.no rfl) rfl (R.assign rfl) ?_
      refine LE.nil ?_
      obtain ⟨m33, hm34, h⟩ := h
      exact ⟨m33, hm34, _, _, h, rfl, f36, rfl, f38, f39, f40⟩
    · intro hb41
      replace h := M.ite_f h hb41
      refine WE.exit ?_
      refine WE.reg ?_
      refine LE.p (v := (Value.int .i64 (IntKind.i64.wrap (x5 + (1 : Int))))) (Wn.no rfl) rfl (R.add f40 rfl) ?_
      refine LE.p (v := (Value.int .i64 (IntKind.i64.wrap (x5 + (1 : Int))))) (Wn.no rfl) rfl (R.move rfl) ?_
      refine LE.nil ?_
      obtain ⟨m12, hm13, h⟩ := h
      exact ⟨m12, hm13, _, _, h, f35, f38, f39, rfl⟩
  · intro hb18
    replace h := M.ite_f h hb18
    refine WE.exit ?_
    refine WE.seq ?_
    refine WE.reg ?_
    refine LE.p (v := (SV.v x4)) (Wn.no rfl) rfl (R.move f14) ?_
    refine LE.p (v := (SV.v x4)) (Wn.no rfl) rfl (R.assign rfl) ?_
    refine LE.nil ?_
    refine WE.ret ?_
    exact ⟨_, (Res.tmp rfl Res.nil), _, rfl, h⟩
/-- The formula of signpost.signpostref1.Has. -/
def F37 (p0_0 : Int) (p0_1 : Int) (p1 : Int) (K : Bool → World → Prop) (w0 : World) : Prop :=
M.new (.cells #[(Value.int .u32 p0_0), (Value.int .i64 p0_1)] 33) w0 fun b2 w1 =>
M.join (fun (x4 : Bool) (w21 : World) => 
K x4 w21) fun J3 => 
M.drew w1 fun w5 => 
M.ld (Value.int .u32) b2 w5 fun t6 =>
M.ld (Value.int .i64) (b2.add 1) w5 fun t8 =>
Calls Try.prog 47 #[(Value.agg #[(Value.int .u32 t6), (Value.int .i64 t8)])] w5 (R47 fun r10 w11 =>
M.ite r10 (
M.ld (Value.int .i64) (b2.add 1) w11 fun t13 =>
M.ld (Value.int .u32) b2 w11 fun t15 =>
Calls Try.prog 29 #[(Value.int .i64 t13)] w11 (R29 fun r17 w18 =>
M.keep (w18.cell? b2 = some (Value.int .u32 t15)) <|
J3 ((bAnd .u32 p1 r17) == t15) w18)) (
J3 false w11))
theorem F37_ok {w0 : World} {p0_0 : Int} {p0_1 : Int} {p1 : Int} {K : Bool → World → Prop} (h : F37 p0_0 p0_1 p1 K w0) : Calls Try.prog 37 #[(Value.agg #[(Value.int .u32 p0_0), (Value.int .i64 p0_1)]), (Value.int .u32 p1)] w0 (R37 K) := by
  refine calls_of_WE (args := [(Value.agg #[(Value.int .u32 p0_0), (Value.int .i64 p0_1)]), (Value.int .u32 p1)]) (rs := [.tmp 4]) Try.func37 rfl (N := 17) rfl rfl rfl rfl ?_
  refine WE.seq ?_
  refine WE.reg ?_
  obtain ⟨b2, hpb2, w1, hww1, h⟩ := M.new_use h
  refine LE.r (v := (Value.pointer (some b2))) (Wn.no rfl) rfl (R.box (cs := #[(Value.int .u32 p0_0), (Value.int .i64 p0_1)]) rfl rfl hpb2 hww1) ?_
  refine LE.p (v := (Value.bool false)) (Wn.no rfl) rfl (R.assign rfl) ?_
  refine LE.nil ?_
  refine WE.seq ?_
  obtain ⟨J3, hJ3, h⟩ := M.join_use h
  refine WE.drawJ (fun e w => ∃ (x4 : Bool), J3 x4 w ∧ e 4 = (Value.bool x4)) mix ?_ ?_
  · clear hJ3
    obtain ⟨w5, hww5, h⟩ := M.drew_use h
    rw [← hww5]
    clear hww5
    obtain ⟨t6, h7, h⟩ := h
    obtain ⟨t8, h9, h⟩ := h
    refine DE.main 0 (by kernel_rfl) ?_
    refine One.r 0 (v := (Value.agg #[(Value.int .u32 t6), (Value.int .i64 t8)])) rfl (Wn.no rfl) rfl (R.ldA ag33 sz33 rfl rfl (Cs.cons h7 (Cs.cons h9 Cs.nil))) (.inl rfl) ?_
    refine DE.main 1 (by kernel_rfl) ?_
    refine One.c 1 rfl (Wn.no rfl) rfl (R.call bd47 (Ls.cons rfl Ls.nil) rfl) (Calls.mono h ?_)
    rintro _ w11 ⟨r10, rfl, h⟩
    refine ⟨_, rfl, trivial, ?_⟩
    refine DE.t 2 (v := (Value.bool r10)) rfl (by kernel_rfl) (Wn.no rfl) rfl (R.move rfl) ?_
    rcases M.ite_use h with ⟨hb12, h⟩ | ⟨hb12, h⟩
    · refine DE.t 3 (v := (Value.int .u32 p1)) rfl (by kernel_rfl) (Wn.yes 2 7 true rfl rfl rfl (congrArg Value.bool hb12)) rfl (R.move rfl) ?_
      refine DE.t 4 (v := (Value.pointer (some (b2.add 1)))) rfl (by kernel_rfl) (Wn.yes 2 7 true rfl rfl rfl (congrArg Value.bool hb12)) rfl (R.fld (off := 1) fa33_1 rfl) ?_
      refine DE.t 8 (v := (Value.pointer (some b2))) rfl (by kernel_rfl) (Wn.yes 2 7 true rfl rfl rfl (congrArg Value.bool hb12)) rfl (R.fld (off := 0) fa33_0 rfl) ?_
      obtain ⟨t13, h14, h⟩ := h
      refine DE.hold 5 (fun w => w.cell? (b2.add 1) = some (Value.int .i64 t13)) (v := (Value.int .i64 t13)) rfl (by kernel_rfl) (Wn.yes 2 7 true rfl rfl rfl (congrArg Value.bool hb12)) rfl h14 (fun w hs => R.ld sc3 rfl hs) ?_
      obtain ⟨t15, h16, h⟩ := h
      refine DE.hold 9 (fun w => w.cell? b2 = some (Value.int .u32 t15)) (v := (Value.int .u32 t15)) rfl (by kernel_rfl) (Wn.yes 2 7 true rfl rfl rfl (congrArg Value.bool hb12)) rfl h16 (fun w hs => R.ld sc23 rfl hs) ?_
      refine DE.main 6 (by kernel_rfl) ?_
      refine One.c 6 rfl (Wn.yes 2 7 true rfl rfl rfl (congrArg Value.bool hb12)) rfl (R.call bd29 (Ls.cons rfl Ls.nil) rfl) (Calls.mono h ?_)
      rintro _ w18 ⟨r17, rfl, h⟩
      obtain ⟨k19, h⟩ := h
      refine ⟨_, rfl, ⟨fun _ => k19, aftT (by kernel_rfl), trivial⟩, ?_⟩
      refine DE.t 7 (v := (Value.int .u32 (bAnd .u32 p1 r17))) rfl (by kernel_rfl) (Wn.yes 2 7 true rfl rfl rfl (congrArg Value.bool hb12)) rfl (R.and rfl rfl) ?_
      refine DE.t 10 (v := (Value.bool ((bAnd .u32 p1 r17) == t15))) rfl (by kernel_rfl) (Wn.yes 2 7 true rfl rfl rfl (congrArg Value.bool hb12)) rfl (R.eql rfl rfl) ?_
      refine DE.t 11 (v := (Value.bool ((bAnd .u32 p1 r17) == t15))) rfl (by kernel_rfl) (Wn.no rfl) rfl (R.pickT (congrArg Value.bool hb12) rfl) ?_
      refine DE.t 12 (v := (Value.bool ((bAnd .u32 p1 r17) == t15))) rfl (by kernel_rfl) (Wn.no rfl) rfl (R.assign rfl) ?_
      refine DE.done (by kernel_rfl) ?_
      exact ⟨_, h, rfl⟩
    · refine DE.u 3 rfl (by kernel_rfl) (Un.no 2 7 true rfl rfl rfl (congrArg Value.bool hb12)) ?_
      refine DE.u 4 rfl (by kernel_rfl) (Un.no 2 7 true rfl rfl rfl (congrArg Value.bool hb12)) ?_
      refine DE.u 5 rfl (by kernel_rfl) (Un.no 2 7 true rfl rfl rfl (congrArg Value.bool hb12)) ?_
      refine DE.u 6 rfl (by kernel_rfl) (Un.no 2 7 true rfl rfl rfl (congrArg Value.bool hb12)) ?_
      refine DE.u 7 rfl (by kernel_rfl) (Un.no 2 7 true rfl rfl rfl (congrArg Value.bool hb12)) ?_
      refine DE.u 8 rfl (by kernel_rfl) (Un.no 2 7 true rfl rfl rfl (congrArg Value.bool hb12)) ?_
      refine DE.u 9 rfl (by kernel_rfl) (Un.no 2 7 true rfl rfl rfl (congrArg Value.bool hb12)) ?_
      refine DE.u 10 rfl (by kernel_rfl) (Un.no 2 7 true rfl rfl rfl (congrArg Value.bool hb12)) ?_
      refine DE.t 11 (v := (Value.bool false)) rfl (by kernel_rfl) (Wn.no rfl) rfl (R.pickF (congrArg Value.bool hb12) rfl) ?_
      refine DE.t 12 (v := (Value.bool false)) rfl (by kernel_rfl) (Wn.no rfl) rfl (R.assign rfl) ?_
      refine DE.done (by kernel_rfl) ?_
      exact ⟨_, h, rfl⟩
  · rintro e20 w21 ⟨x4, h, f22⟩
    subst hJ3
    refine WE.ret ?_
    exact ⟨_, (Res.tmp f22 Res.nil), _, rfl, h⟩
/-- The formula of signpost.signpostref24.Find. -/
def F38 (p0 : SV) (p1 : Int) (K : SV → World → Prop) (w0 : World) : Prop :=
Calls Try.prog 33 #[(SV.v p0)] w0 (R33 fun r1 w2 =>
M.ite (!r1) (
K SV.nil w2) (
Calls Try.prog 49 #[(SV.v p0), (Value.int .u32 p1)] w2 (R49 fun r4 w5 =>
M.ite (decide (r4 < (0 : Int))) (
K SV.nil w5) (
M.idx p0 r4 3 fun a7 =>
M.ld SV.v ((a7.add (r4.toNat * 3)).add 2) w5 fun t11 =>
K t11 w5))))
theorem F38_ok {w0 : World} {p0 : SV} {p1 : Int} {K : SV → World → Prop} (h : F38 p0 p1 K w0) : Calls Try.prog 38 #[(SV.v p0), (Value.int .u32 p1)] w0 (R38 K) := by
  refine calls_of_WE (args := [(SV.v p0), (Value.int .u32 p1)]) (rs := [.tmp 4]) Try.func38 rfl (N := 19) rfl rfl rfl rfl ?_
  refine WE.seq ?_
  refine WE.reg ?_
  refine LE.p (v := (SV.v SV.nil)) (Wn.no rfl) rfl (R.assign rfl) ?_
  refine LE.nil ?_
  refine WE.seq ?_
  refine WE.seq ?_
  refine WE.reg ?_
  refine LE.p (v := (SV.v p0)) (Wn.no rfl) rfl (R.move rfl) ?_
  refine LE.c (Wn.no rfl) rfl (R.call bd33 (Ls.cons rfl Ls.nil) rfl) (Calls.mono h ?_)
  rintro _ w2 ⟨r1, rfl, h⟩
  refine ⟨_, rfl, ?_⟩
  refine LE.p (v := (Value.bool (!r1))) (Wn.no rfl) rfl (R.not rfl) ?_
  refine LE.nil ?_
  refine WE.condT rfl (b := (!r1)) rfl ?_ ?_
  · intro hb3
    replace h := M.ite_t h hb3
    refine WE.seq ?_
    refine WE.reg ?_
    refine LE.p (v := (SV.v SV.nil)) (Wn.no rfl) rfl (R.assign rfl) ?_
    refine LE.nil ?_
    refine WE.ret ?_
    exact ⟨_, (Res.tmp rfl Res.nil), _, rfl, h⟩
  · intro hb3
    replace h := M.ite_f h hb3
    refine WE.skip ?_
    refine WE.seq ?_
    refine WE.reg ?_
    refine LE.p (v := (SV.v p0)) (Wn.no rfl) rfl (R.move rfl) ?_
    refine LE.p (v := (Value.int .u32 p1)) (Wn.no rfl) rfl (R.move rfl) ?_
    refine LE.c (Wn.no rfl) rfl (R.call bd49 (Ls.cons rfl (Ls.cons rfl Ls.nil)) rfl) (Calls.mono h ?_)
    rintro _ w5 ⟨r4, rfl, h⟩
    refine ⟨_, rfl, ?_⟩
    refine LE.p (v := (Value.int .i64 r4)) (Wn.no rfl) rfl (R.assign rfl) ?_
    refine LE.nil ?_
    refine WE.seq ?_
    refine WE.seq ?_
    refine WE.reg ?_
    refine LE.p (v := (Value.int .i64 r4)) (Wn.no rfl) rfl (R.move rfl) ?_
    refine LE.p (v := (Value.bool (decide (r4 < (0 : Int))))) (Wn.no rfl) rfl (R.lss rfl rfl) ?_
    refine LE.nil ?_
    refine WE.condT rfl (b := (decide (r4 < (0 : Int)))) rfl ?_ ?_
    · intro hb6
      replace h := M.ite_t h hb6
      refine WE.seq ?_
      refine WE.reg ?_
      refine LE.p (v := (SV.v SV.nil)) (Wn.no rfl) rfl (R.assign rfl) ?_
      refine LE.nil ?_
      refine WE.ret ?_
      exact ⟨_, (Res.tmp rfl Res.nil), _, rfl, h⟩
    · intro hb6
      replace h := M.ite_f h hb6
      refine WE.skip ?_
      refine WE.seq ?_
      refine WE.reg ?_
      refine LE.p (v := (SV.v p0)) (Wn.no rfl) rfl (R.move rfl) ?_
      refine LE.p (v := (Value.int .i64 r4)) (Wn.no rfl) rfl (R.move rfl) ?_
      obtain ⟨a7, h8, h9, h10, h⟩ := h
      refine LE.p (v := (Value.pointer (some (a7.add (r4.toNat * 3))))) (Wn.no rfl) rfl (R.idx (s := p0) sl45 rfl rfl h8 h9 h10) ?_
      refine LE.p (v := (Value.pointer (some ((a7.add (r4.toNat * 3)).add 2)))) (Wn.no rfl) rfl (R.fld (off := 2) fa35_1 rfl) ?_
      obtain ⟨t11, h12, h⟩ := h
      refine LE.r (v := (SV.v t11)) (Wn.no rfl) rfl (R.ld sc28 rfl h12) ?_
      refine LE.p (v := (SV.v t11)) (Wn.no rfl) rfl (R.assign rfl) ?_
      refine LE.nil ?_
      refine WE.ret ?_
      exact ⟨_, (Res.tmp rfl Res.nil), _, rfl, h⟩
/-- The formula of signpost.addr.Right. -/
def F39 (p0_0 : Int) (p0_1 : Int) (K : Bool → World → Prop) (w0 : World) : Prop :=
M.new (.cells #[(Value.int .u32 p0_0), (Value.int .i64 p0_1)] 33) w0 fun b2 w1 =>
M.join (fun (x4 : Bool) (w20 : World) => 
K x4 w20) fun J3 => 
M.drew w1 fun w5 => 
M.ld (Value.int .i64) (b2.add 1) w5 fun t6 =>
M.ite (decide ((0 : Int) ≤ t6)) (
M.ld (Value.int .i64) (b2.add 1) w5 fun t9 =>
M.ite (decide (t9 ≤ (32 : Int))) (
M.ld (Value.int .u32) b2 w5 fun t12 =>
M.ld (Value.int .i64) (b2.add 1) w5 fun t14 =>
Calls Try.prog 50 #[(Value.int .i64 t14)] w5 (R50 fun r16 w17 =>
M.keep (w17.cell? b2 = some (Value.int .u32 t12)) <|
J3 ((bAndNot .u32 t12 r16) == (0 : Int)) w17)) (
J3 false w5)) (
J3 false w5)
theorem F39_ok {w0 : World} {p0_0 : Int} {p0_1 : Int} {K : Bool → World → Prop} (h : F39 p0_0 p0_1 K w0) : Calls Try.prog 39 #[(Value.agg #[(Value.int .u32 p0_0), (Value.int .i64 p0_1)])] w0 (R39 K) := by
  refine calls_of_WE (args := [(Value.agg #[(Value.int .u32 p0_0), (Value.int .i64 p0_1)])]) (rs := [.tmp 2]) Try.func39 rfl (N := 20) rfl rfl rfl rfl ?_
  refine WE.seq ?_
  refine WE.reg ?_
  obtain ⟨b2, hpb2, w1, hww1, h⟩ := M.new_use h
  refine LE.r (v := (Value.pointer (some b2))) (Wn.no rfl) rfl (R.box (cs := #[(Value.int .u32 p0_0), (Value.int .i64 p0_1)]) rfl rfl hpb2 hww1) ?_
  refine LE.p (v := (Value.bool false)) (Wn.no rfl) rfl (R.assign rfl) ?_
  refine LE.nil ?_
  refine WE.seq ?_
  obtain ⟨J3, hJ3, h⟩ := M.join_use h
  refine WE.drawJ (fun e w => ∃ (x4 : Bool), J3 x4 w ∧ e 2 = (Value.bool x4)) mix ?_ ?_
  · clear hJ3
    obtain ⟨w5, hww5, h⟩ := M.drew_use h
    rw [← hww5]
    clear hww5
    refine DE.t 0 (v := (Value.pointer (some (b2.add 1)))) rfl (by kernel_rfl) (Wn.no rfl) rfl (R.fld (off := 1) fa33_1 rfl) ?_
    obtain ⟨t6, h7, h⟩ := h
    refine DE.main 1 (by kernel_rfl) ?_
    refine One.r 1 (v := (Value.int .i64 t6)) rfl (Wn.no rfl) rfl (R.ld sc3 rfl h7) (.inl rfl) ?_
    refine DE.t 2 (v := (Value.bool (decide ((0 : Int) ≤ t6)))) rfl (by kernel_rfl) (Wn.no rfl) rfl (R.geq rfl rfl) ?_
    refine DE.t 3 (v := (Value.bool (decide ((0 : Int) ≤ t6)))) rfl (by kernel_rfl) (Wn.no rfl) rfl (R.move rfl) ?_
    rcases M.ite_use h with ⟨hb8, h⟩ | ⟨hb8, h⟩
    · refine DE.t 4 (v := (Value.pointer (some (b2.add 1)))) rfl (by kernel_rfl) (Wn.yes 3 6 true rfl rfl rfl (congrArg Value.bool hb8)) rfl (R.fld (off := 1) fa33_1 rfl) ?_
      obtain ⟨t9, h10, h⟩ := h
      refine DE.main 5 (by kernel_rfl) ?_
      refine One.r 5 (v := (Value.int .i64 t9)) rfl (Wn.yes 3 6 true rfl rfl rfl (congrArg Value.bool hb8)) rfl (R.ld sc3 rfl h10) (.inl rfl) ?_
      refine DE.t 6 (v := (Value.bool (decide (t9 ≤ (32 : Int))))) rfl (by kernel_rfl) (Wn.yes 3 6 true rfl rfl rfl (congrArg Value.bool hb8)) rfl (R.leq rfl rfl) ?_
      refine DE.t 7 (v := (Value.bool (decide (t9 ≤ (32 : Int))))) rfl (by kernel_rfl) (Wn.no rfl) rfl (R.pickT (congrArg Value.bool hb8) rfl) ?_
      refine DE.t 8 (v := (Value.bool (decide (t9 ≤ (32 : Int))))) rfl (by kernel_rfl) (Wn.no rfl) rfl (R.move rfl) ?_
      rcases M.ite_use h with ⟨hb11, h⟩ | ⟨hb11, h⟩
      · refine DE.t 9 (v := (Value.pointer (some b2))) rfl (by kernel_rfl) (Wn.yes 8 11 true rfl rfl rfl (congrArg Value.bool hb11)) rfl (R.fld (off := 0) fa33_0 rfl) ?_
        refine DE.t 11 (v := (Value.pointer (some (b2.add 1)))) rfl (by kernel_rfl) (Wn.yes 8 11 true rfl rfl rfl (congrArg Value.bool hb11)) rfl (R.fld (off := 1) fa33_1 rfl) ?_
        obtain ⟨t12, h13, h⟩ := h
        refine DE.hold 10 (fun w => w.cell? b2 = some (Value.int .u32 t12)) (v := (Value.int .u32 t12)) rfl (by kernel_rfl) (Wn.yes 8 11 true rfl rfl rfl (congrArg Value.bool hb11)) rfl h13 (fun w hs => R.ld sc23 rfl hs) ?_
        obtain ⟨t14, h15, h⟩ := h
        refine DE.main 12 (by kernel_rfl) ?_
        refine One.r 12 (v := (Value.int .i64 t14)) rfl (Wn.yes 8 11 true rfl rfl rfl (congrArg Value.bool hb11)) rfl (R.ld sc3 rfl h15) (.inl rfl) ?_
        refine DE.main 13 (by kernel_rfl) ?_
        refine One.c 13 rfl (Wn.yes 8 11 true rfl rfl rfl (congrArg Value.bool hb11)) rfl (R.call bd50 (Ls.cons rfl Ls.nil) rfl) (Calls.mono h ?_)
        rintro _ w17 ⟨r16, rfl, h⟩
        obtain ⟨k18, h⟩ := h
        refine ⟨_, rfl, ⟨fun _ => k18, trivial⟩, ?_⟩
        refine DE.t 14 (v := (Value.int .u32 (bAndNot .u32 t12 r16))) rfl (by kernel_rfl) (Wn.yes 8 11 true rfl rfl rfl (congrArg Value.bool hb11)) rfl (R.andNot rfl rfl) ?_
        refine DE.t 15 (v := (Value.bool ((bAndNot .u32 t12 r16) == (0 : Int)))) rfl (by kernel_rfl) (Wn.yes 8 11 true rfl rfl rfl (congrArg Value.bool hb11)) rfl (R.eql rfl rfl) ?_
        refine DE.t 16 (v := (Value.bool ((bAndNot .u32 t12 r16) == (0 : Int)))) rfl (by kernel_rfl) (Wn.no rfl) rfl (R.pickT (congrArg Value.bool hb11) rfl) ?_
        refine DE.t 17 (v := (Value.bool ((bAndNot .u32 t12 r16) == (0 : Int)))) rfl (by kernel_rfl) (Wn.no rfl) rfl (R.assign rfl) ?_
        refine DE.done (by kernel_rfl) ?_
        exact ⟨_, h, rfl⟩
      · refine DE.u 9 rfl (by kernel_rfl) (Un.no 8 11 true rfl rfl rfl (congrArg Value.bool hb11)) ?_
        refine DE.u 10 rfl (by kernel_rfl) (Un.no 8 11 true rfl rfl rfl (congrArg Value.bool hb11)) ?_
        refine DE.u 11 rfl (by kernel_rfl) (Un.no 8 11 true rfl rfl rfl (congrArg Value.bool hb11)) ?_
        refine DE.u 12 rfl (by kernel_rfl) (Un.no 8 11 true rfl rfl rfl (congrArg Value.bool hb11)) ?_
        refine DE.u 13 rfl (by kernel_rfl) (Un.no 8 11 true rfl rfl rfl (congrArg Value.bool hb11)) ?_
        refine DE.u 14 rfl (by kernel_rfl) (Un.no 8 11 true rfl rfl rfl (congrArg Value.bool hb11)) ?_
        refine DE.u 15 rfl (by kernel_rfl) (Un.no 8 11 true rfl rfl rfl (congrArg Value.bool hb11)) ?_
        refine DE.t 16 (v := (Value.bool false)) rfl (by kernel_rfl) (Wn.no rfl) rfl (R.pickF (congrArg Value.bool hb11) rfl) ?_
        refine DE.t 17 (v := (Value.bool false)) rfl (by kernel_rfl) (Wn.no rfl) rfl (R.assign rfl) ?_
        refine DE.done (by kernel_rfl) ?_
        exact ⟨_, h, rfl⟩
    · refine DE.u 4 rfl (by kernel_rfl) (Un.no 3 6 true rfl rfl rfl (congrArg Value.bool hb8)) ?_
      refine DE.u 5 rfl (by kernel_rfl) (Un.no 3 6 true rfl rfl rfl (congrArg Value.bool hb8)) ?_
      refine DE.u 6 rfl (by kernel_rfl) (Un.no 3 6 true rfl rfl rfl (congrArg Value.bool hb8)) ?_
      refine DE.t 7 (v := (Value.bool false)) rfl (by kernel_rfl) (Wn.no rfl) rfl (R.pickF (congrArg Value.bool hb8) rfl) ?_
      refine DE.t 8 (v := (Value.bool false)) rfl (by kernel_rfl) (Wn.no rfl) rfl (R.move rfl) ?_
      refine DE.u 9 rfl (by kernel_rfl) (Un.no 8 11 true rfl rfl rfl rfl) ?_
      refine DE.u 10 rfl (by kernel_rfl) (Un.no 8 11 true rfl rfl rfl rfl) ?_
      refine DE.u 11 rfl (by kernel_rfl) (Un.no 8 11 true rfl rfl rfl rfl) ?_
      refine DE.u 12 rfl (by kernel_rfl) (Un.no 8 11 true rfl rfl rfl rfl) ?_
      refine DE.u 13 rfl (by kernel_rfl) (Un.no 8 11 true rfl rfl rfl rfl) ?_
      refine DE.u 14 rfl (by kernel_rfl) (Un.no 8 11 true rfl rfl rfl rfl) ?_
      refine DE.u 15 rfl (by kernel_rfl) (Un.no 8 11 true rfl rfl rfl rfl) ?_
      refine DE.t 16 (v := (Value.bool false)) rfl (by kernel_rfl) (Wn.no rfl) rfl (R.pickF rfl rfl) ?_
      refine DE.t 17 (v := (Value.bool false)) rfl (by kernel_rfl) (Wn.no rfl) rfl (R.assign rfl) ?_
      refine DE.done (by kernel_rfl) ?_
      exact ⟨_, h, rfl⟩
  · rintro e19 w20 ⟨x4, h, f21⟩
    subst hJ3
    refine WE.ret ?_
    exact ⟨_, (Res.tmp f21 Res.nil), _, rfl, h⟩
/-- The formula of signpost.ortc.hops. -/
def F40 (p0 : SV) (K : Bool → World → Prop) (w0 : World) : Prop :=
M.loop1 (fun (J2 : Int → World → Prop) (x1 : Int) (w3 : World) => 
M.ite (decide (x1 < (p0.len : Int))) (
M.idx p0 x1 2 fun a15 =>
M.ld (Value.int .i64) (a15.add (x1.toNat * 2)) w3 fun t19 =>
M.ld (Value.int .i64) ((a15.add (x1.toNat * 2)).add 1) w3 fun t21 =>
M.new (.cells #[(Value.int .i64 (0 : Int)), (Value.int .i64 (0 : Int))] 55) w3 fun b24 w23 =>
M.stA b24 [(Value.int .i64 t19), (Value.int .i64 t21)] w23 fun w25 =>
M.join (fun (x28 : Bool) (w52 : World) => 
M.ite x28 (
K false w52) (
J2 (IntKind.i64.wrap (x1 + (1 : Int))) w52)) fun J27 => 
M.drew w25 fun w29 => 
M.ld (Value.int .i64) b24 w29 fun t30 =>
M.ite (decide (t30 < (0 : Int))) (
J27 true w29) (
M.ld (Value.int .i64) b24 w29 fun t33 =>
M.ite (decide ((255 : Int) < t33)) (
J27 true w29) (
M.ld (Value.int .i64) (b24.add 1) w29 fun t36 =>
M.ite (decide (t36 < (1 : Int))) (
J27 true w29) (
M.ld (Value.int .i64) (b24.add 1) w29 fun t39 =>
M.ite (decide ((16 : Int) < t39)) (
J27 true w29) (
M.ite (decide ((0 : Int) < x1)) (
M.idx p0 (IntKind.i64.wrap (x1 - (1 : Int))) 2 fun a43 =>
M.ld (Value.int .i64) (a43.add ((IntKind.i64.wrap (x1 - (1 : Int))).toNat * 2)) w29 fun t47 =>
M.ld (Value.int .i64) b24 w29 fun t49 =>
J27 (decide (t49 ≤ t47)) w29) (
J27 false w29)))))) (
K (decide ((p0.len : Int) ≤ (16 : Int))) w3)) (0 : Int) w0
theorem F40_ok {w0 : World} {p0 : SV} {K : Bool → World → Prop} (h : F40 p0 K w0) : Calls Try.prog 40 #[(SV.v p0)] w0 (R40 K) := by
  refine calls_of_WE (args := [(SV.v p0)]) (rs := [.tmp 2]) Try.func40 rfl (N := 49) rfl rfl rfl rfl ?_
  refine WE.seq ?_
  refine WE.reg ?_
  refine LE.p (v := (Value.bool false)) (Wn.no rfl) rfl (R.assign rfl) ?_
  refine LE.nil ?_
  refine WE.seq ?_
  refine WE.seq ?_
  refine WE.reg ?_
  refine LE.p (v := (SV.v p0)) (Wn.no rfl) rfl (R.move rfl) ?_
  refine LE.p (v := (Value.int .i64 (p0.len : Int))) (Wn.no rfl) rfl (R.len sl28 rfl) ?_
  refine LE.p (v := (Value.int .i64 (0 : Int))) (Wn.no rfl) rfl (R.move rfl) ?_
  refine LE.nil ?_
  refine WE.block ?_
  obtain ⟨I6, ⟨n5, h⟩, hr7⟩ := h
  refine WE.loop (fun n e w => ∃ (x1 : Int), I6 n x1 w ∧ e 0 = (SV.v p0) ∧ e 5 = (SV.v p0) ∧ e 6 = (Value.int .i64 (p0.len : Int)) ∧ e 7 = (Value.int .i64 x1)) n5 ⟨_, h, rfl, rfl, rfl, rfl⟩ ?_
  clear h
  rintro n5 e4 w3 ⟨x1, h, f10, f11, f12, f13⟩
  replace h := hr7 n5 x1 w3 h
  refine WE.seq ?_
  refine WE.reg ?_
  refine LE.p (v := (Value.bool (decide (x1 < (p0.len : Int))))) (Wn.no rfl) rfl (R.lss f13 f12) ?_
  refine LE.nil ?_
  refine WE.seq ?_
  refine WE.condT rfl (b := (decide (x1 < (p0.len : Int)))) rfl ?_ ?_
  · intro hb14
    replace h := M.ite_t h hb14
    refine WE.skip ?_
    refine WE.seq ?_
    refine WE.block ?_
    refine WE.seq ?_
    refine WE.reg ?_
    refine LE.p (v := (Value.int .i64 x1)) (Wn.no rfl) rfl (R.move f13) ?_
    obtain ⟨a15, h16, h17, h18, h⟩ := h
    refine LE.p (v := (Value.pointer (some (a15.add (x1.toNat * 2))))) (Wn.no rfl) rfl (R.idx (s := p0) sl28 f11 f13 h16 h17 h18) ?_
    obtain ⟨t19, h20, h⟩ := h
    obtain ⟨t21, h22, h⟩ := h
    refine LE.r (v := (Value.agg #[(Value.int .i64 t19), (Value.int .i64 t21)])) (Wn.no rfl) rfl (R.ldA ag55 sz55 rfl rfl (Cs.cons h20 (Cs.cons h22 Cs.nil))) ?_
    obtain ⟨b24, hpb24, w23, hww23, h⟩ := M.new_use h
    refine LE.r (v := (Value.pointer (some b24))) (Wn.no rfl) rfl (R.alloc (cs := #[(Value.int .i64 (0 : Int)), (Value.int .i64 (0 : Int))]) ze55 rfl hpb24 hww23) ?_
    refine LE.p (v := (Value.int .i64 x1)) (Wn.no rfl) rfl (R.assign rfl) ?_
    obtain ⟨w25, hww25, h26, h⟩ := M.stA_use h
    refine LE.s (Wn.no rfl) rfl (R.stA (a := b24) [(Value.int .i64 t19), (Value.int .i64 t21)] sz55 rfl rfl rfl (by simp [Value.oneCell']) h26 hww25) ?_
    refine LE.nil ?_
    refine WE.seq ?_
    obtain ⟨J27, hJ27, h⟩ := M.join_use h
    refine WE.drawJ (fun e w => ∃ (x28 : Bool), J27 x28 w ∧ e 0 = (SV.v p0) ∧ e 5 = (SV.v p0) ∧ e 6 = (Value.int .i64 (p0.len : Int)) ∧ e 7 = (Value.int .i64 x1) ∧ e 44 = (Value.bool x28)) mix ?_ ?_
    · clear hJ27
      obtain ⟨w29, hww29, h⟩ := M.drew_use h
      rw [← hww29]
      clear hww29
      refine DE.t 0 (v := (Value.pointer (some b24))) rfl (by kernel_rfl) (Wn.no rfl) rfl (R.fld (off := 0) fa55_0 rfl) ?_
      obtain ⟨t30, h31, h⟩ := h
      refine DE.main 1 (by kernel_rfl) ?_
      refine One.r 1 (v := (Value.int .i64 t30)) rfl (Wn.no rfl) rfl (R.ld sc3 rfl h31) (.inl rfl) ?_
      refine DE.t 2 (v := (Value.bool (decide (t30 < (0 : Int))))) rfl (by kernel_rfl) (Wn.no rfl) rfl (R.lss rfl rfl) ?_
      refine DE.t 3 (v := (Value.bool (decide (t30 < (0 : Int))))) rfl (by kernel_rfl) (Wn.no rfl) rfl (R.move rfl) ?_
      rcases M.ite_use h with ⟨hb32, h⟩ | ⟨hb32, h⟩
      · refine DE.u 4 rfl (by kernel_rfl) (Un.no 3 15 false rfl rfl rfl (congrArg Value.bool hb32)) ?_
        refine DE.u 5 rfl (by kernel_rfl) (Un.no 3 15 false rfl rfl rfl (congrArg Value.bool hb32)) ?_
        refine DE.u 6 rfl (by kernel_rfl) (Un.no 3 15 false rfl rfl rfl (congrArg Value.bool hb32)) ?_
        refine DE.t 7 (v := (Value.bool true)) rfl (by kernel_rfl) (Wn.no rfl) rfl (R.pickT (congrArg Value.bool hb32) rfl) ?_
        refine DE.t 8 (v := (Value.bool true)) rfl (by kernel_rfl) (Wn.no rfl) rfl (R.move rfl) ?_
        refine DE.u 9 rfl (by kernel_rfl) (Un.no 8 20 false rfl rfl rfl rfl) ?_
        refine DE.u 10 rfl (by kernel_rfl) (Un.no 8 20 false rfl rfl rfl rfl) ?_
        refine DE.u 11 rfl (by kernel_rfl) (Un.no 8 20 false rfl rfl rfl rfl) ?_
        refine DE.t 12 (v := (Value.bool true)) rfl (by kernel_rfl) (Wn.no rfl) rfl (R.pickT rfl rfl) ?_
        refine DE.t 13 (v := (Value.bool true)) rfl (by kernel_rfl) (Wn.no rfl) rfl (R.move rfl) ?_
        refine DE.u 14 rfl (by kernel_rfl) (Un.no 13 25 false rfl rfl rfl rfl) ?_
        refine DE.u 15 rfl (by kernel_rfl) (Un.no 13 25 false rfl rfl rfl rfl) ?_
        refine DE.u 16 rfl (by kernel_rfl) (Un.no 13 25 false rfl rfl rfl rfl) ?_
        refine DE.t 17 (v := (Value.bool true)) rfl (by kernel_rfl) (Wn.no rfl) rfl (R.pickT rfl rfl) ?_
        refine DE.t 18 (v := (Value.bool true)) rfl (by kernel_rfl) (Wn.no rfl) rfl (R.move rfl) ?_
        refine DE.u 19 rfl (by kernel_rfl) (Un.no 18 30 false rfl rfl rfl rfl) ?_
        refine DE.u 20 rfl (by kernel_rfl) (Un.no 18 30 false rfl rfl rfl rfl) ?_
        refine DE.u 21 rfl (by kernel_rfl) (Un.no 18 30 false rfl rfl rfl rfl) ?_
        refine DE.u 22 rfl (by kernel_rfl) (Un.un 21 33 true rfl rfl rfl rfl) ?_
        refine DE.u 23 rfl (by kernel_rfl) (Un.un 21 33 true rfl rfl rfl rfl) ?_
        refine DE.u 24 rfl (by kernel_rfl) (Un.un 21 33 true rfl rfl rfl rfl) ?_
        refine DE.u 25 rfl (by kernel_rfl) (Un.un 21 33 true rfl rfl rfl rfl) ?_
        refine DE.u 26 rfl (by kernel_rfl) (Un.un 21 33 true rfl rfl rfl rfl) ?_
        refine DE.u 27 rfl (by kernel_rfl) (Un.un 21 33 true rfl rfl rfl rfl) ?_
        refine DE.u 28 rfl (by kernel_rfl) (Un.un 21 33 true rfl rfl rfl rfl) ?_
        refine DE.u 29 rfl (by kernel_rfl) (Un.un 21 33 true rfl rfl rfl rfl) ?_
        refine DE.u 30 rfl (by kernel_rfl) (Un.un 21 33 true rfl rfl rfl rfl) ?_
        refine DE.u 31 rfl (by kernel_rfl) (Un.no 18 30 false rfl rfl rfl rfl) ?_
        refine DE.t 32 (v := (Value.bool true)) rfl (by kernel_rfl) (Wn.no rfl) rfl (R.pickT rfl rfl) ?_
        refine DE.done (by kernel_rfl) ?_
        exact ⟨_, h, f10, f11, f12, f13, rfl⟩
      · refine DE.t 4 (v := (Value.pointer (some b24))) rfl (by kernel_rfl) (Wn.yes 3 15 false rfl rfl rfl (congrArg Value.bool hb32)) rfl (R.fld (off := 0) fa55_0 rfl) ?_
        obtain ⟨t33, h34, h⟩ := h
        refine DE.main 5 (by kernel_rfl) ?_
        refine One.r 5 (v := (Value.int .i64 t33)) rfl (Wn.yes 3 15 false rfl rfl rfl (congrArg Value.bool hb32)) rfl (R.ld sc3 rfl h34) (.inl rfl) ?_
        refine DE.t 6 (v := (Value.bool (decide ((255 : Int) < t33)))) rfl (by kernel_rfl) (Wn.yes 3 15 false rfl rfl rfl (congrArg Value.bool hb32)) rfl (R.gtr rfl rfl) ?_
        refine DE.t 7 (v := (Value.bool (decide ((255 : Int) < t33)))) rfl (by kernel_rfl) (Wn.no rfl) rfl (R.pickF (congrArg Value.bool hb32) rfl) ?_
        refine DE.t 8 (v := (Value.bool (decide ((255 : Int) < t33)))) rfl (by kernel_rfl) (Wn.no rfl) rfl (R.move rfl) ?_
        rcases M.ite_use h with ⟨hb35, h⟩ | ⟨hb35, h⟩
        · refine DE.u 9 rfl (by kernel_rfl) (Un.no 8 20 false rfl rfl rfl (congrArg Value.bool hb35)) ?_
          refine DE.u 10 rfl (by kernel_rfl) (Un.no 8 20 false rfl rfl rfl (congrArg Value.bool hb35)) ?_
          refine DE.u 11 rfl (by kernel_rfl) (Un.no 8 20 false rfl rfl rfl (congrArg Value.bool hb35)) ?_
          refine DE.t 12 (v := (Value.bool true)) rfl (by kernel_rfl) (Wn.no rfl) rfl (R.pickT (congrArg Value.bool hb35) rfl) ?_
          refine DE.t 13 (v := (Value.bool true)) rfl (by kernel_rfl) (Wn.no rfl) rfl (R.move rfl) ?_
          refine DE.u 14 rfl (by kernel_rfl) (Un.no 13 25 false rfl rfl rfl rfl) ?_
          refine DE.u 15 rfl (by kernel_rfl) (Un.no 13 25 false rfl rfl rfl rfl) ?_
          refine DE.u 16 rfl (by kernel_rfl) (Un.no 13 25 false rfl rfl rfl rfl) ?_
          refine DE.t 17 (v := (Value.bool true)) rfl (by kernel_rfl) (Wn.no rfl) rfl (R.pickT rfl rfl) ?_
          refine DE.t 18 (v := (Value.bool true)) rfl (by kernel_rfl) (Wn.no rfl) rfl (R.move rfl) ?_
          refine DE.u 19 rfl (by kernel_rfl) (Un.no 18 30 false rfl rfl rfl rfl) ?_
          refine DE.u 20 rfl (by kernel_rfl) (Un.no 18 30 false rfl rfl rfl rfl) ?_
          refine DE.u 21 rfl (by kernel_rfl) (Un.no 18 30 false rfl rfl rfl rfl) ?_
          refine DE.u 22 rfl (by kernel_rfl) (Un.un 21 33 true rfl rfl rfl rfl) ?_
          refine DE.u 23 rfl (by kernel_rfl) (Un.un 21 33 true rfl rfl rfl rfl) ?_
          refine DE.u 24 rfl (by kernel_rfl) (Un.un 21 33 true rfl rfl rfl rfl) ?_
          refine DE.u 25 rfl (by kernel_rfl) (Un.un 21 33 true rfl rfl rfl rfl) ?_
          refine DE.u 26 rfl (by kernel_rfl) (Un.un 21 33 true rfl rfl rfl rfl) ?_
          refine DE.u 27 rfl (by kernel_rfl) (Un.un 21 33 true rfl rfl rfl rfl) ?_
          refine DE.u 28 rfl (by kernel_rfl) (Un.un 21 33 true rfl rfl rfl rfl) ?_
          refine DE.u 29 rfl (by kernel_rfl) (Un.un 21 33 true rfl rfl rfl rfl) ?_
          refine DE.u 30 rfl (by kernel_rfl) (Un.un 21 33 true rfl rfl rfl rfl) ?_
          refine DE.u 31 rfl (by kernel_rfl) (Un.no 18 30 false rfl rfl rfl rfl) ?_
          refine DE.t 32 (v := (Value.bool true)) rfl (by kernel_rfl) (Wn.no rfl) rfl (R.pickT rfl rfl) ?_
          refine DE.done (by kernel_rfl) ?_
          exact ⟨_, h, f10, f11, f12, f13, rfl⟩
        · refine DE.t 9 (v := (Value.pointer (some (b24.add 1)))) rfl (by kernel_rfl) (Wn.yes 8 20 false rfl rfl rfl (congrArg Value.bool hb35)) rfl (R.fld (off := 1) fa55_1 rfl) ?_
          obtain ⟨t36, h37, h⟩ := h
          refine DE.main 10 (by kernel_rfl) ?_
          refine One.r 10 (v := (Value.int .i64 t36)) rfl (Wn.yes 8 20 false rfl rfl rfl (congrArg Value.bool hb35)) rfl (R.ld sc3 rfl h37) (.inl rfl) ?_
          refine DE.t 11 (v := (Value.bool (decide (t36 < (1 : Int))))) rfl (by kernel_rfl) (Wn.yes 8 20 false rfl rfl rfl (congrArg Value.bool hb35)) rfl (R.lss rfl rfl) ?_
          refine DE.t 12 (v := (Value.bool (decide (t36 < (1 : Int))))) rfl (by kernel_rfl) (Wn.no rfl) rfl (R.pickF (congrArg Value.bool hb35) rfl) ?_
          refine DE.t 13 (v := (Value.bool (decide (t36 < (1 : Int))))) rfl (by kernel_rfl) (Wn.no rfl) rfl (R.move rfl) ?_
          rcases M.ite_use h with ⟨hb38, h⟩ | ⟨hb38, h⟩
          · refine DE.u 14 rfl (by kernel_rfl) (Un.no 13 25 false rfl rfl rfl (congrArg Value.bool hb38)) ?_
            refine DE.u 15 rfl (by kernel_rfl) (Un.no 13 25 false rfl rfl rfl (congrArg Value.bool hb38)) ?_
            refine DE.u 16 rfl (by kernel_rfl) (Un.no 13 25 false rfl rfl rfl (congrArg Value.bool hb38)) ?_
            refine DE.t 17 (v := (Value.bool true)) rfl (by kernel_rfl) (Wn.no rfl) rfl (R.pickT (congrArg Value.bool hb38) rfl) ?_
            refine DE.t 18 (v := (Value.bool true)) rfl (by kernel_rfl) (Wn.no rfl) rfl (R.move rfl) ?_
            refine DE.u 19 rfl (by kernel_rfl) (Un.no 18 30 false rfl rfl rfl rfl) ?_
            refine DE.u 20 rfl (by kernel_rfl) (Un.no 18 30 false rfl rfl rfl rfl) ?_
            refine DE.u 21 rfl (by kernel_rfl) (Un.no 18 30 false rfl rfl rfl rfl) ?_
            refine DE.u 22 rfl (by kernel_rfl) (Un.un 21 33 true rfl rfl rfl rfl) ?_
            refine DE.u 23 rfl (by kernel_rfl) (Un.un 21 33 true rfl rfl rfl rfl) ?_
            refine DE.u 24 rfl (by kernel_rfl) (Un.un 21 33 true rfl rfl rfl rfl) ?_
            refine DE.u 25 rfl (by kernel_rfl) (Un.un 21 33 true rfl rfl rfl rfl) ?_
            refine DE.u 26 rfl (by kernel_rfl) (Un.un 21 33 true rfl rfl rfl rfl) ?_
            refine DE.u 27 rfl (by kernel_rfl) (Un.un 21 33 true rfl rfl rfl rfl) ?_
            refine DE.u 28 rfl (by kernel_rfl) (Un.un 21 33 true rfl rfl rfl rfl) ?_
            refine DE.u 29 rfl (by kernel_rfl) (Un.un 21 33 true rfl rfl rfl rfl) ?_
            refine DE.u 30 rfl (by kernel_rfl) (Un.un 21 33 true rfl rfl rfl rfl) ?_
            refine DE.u 31 rfl (by kernel_rfl) (Un.no 18 30 false rfl rfl rfl rfl) ?_
            refine DE.t 32 (v := (Value.bool true)) rfl (by kernel_rfl) (Wn.no rfl) rfl (R.pickT rfl rfl) ?_
            refine DE.done (by kernel_rfl) ?_
            exact ⟨_, h, f10, f11, f12, f13, rfl⟩
          · refine DE.t 14 (v := (Value.pointer (some (b24.add 1)))) rfl (by kernel_rfl) (Wn.yes 13 25 false rfl rfl rfl (congrArg Value.bool hb38)) rfl (R.fld (off := 1) fa55_1 rfl) ?_
            obtain ⟨t39, h40, h⟩ := h
            refine DE.main 15 (by kernel_rfl) ?_
            refine One.r 15 (v := (Value.int .i64 t39)) rfl (Wn.yes 13 25 false rfl rfl rfl (congrArg Value.bool hb38)) rfl (R.ld sc3 rfl h40) (.inl rfl) ?_
            refine DE.t 16 (v := (Value.bool (decide ((16 : Int) < t39)))) rfl (by kernel_rfl) (Wn.yes 13 25 false rfl rfl rfl (congrArg Value.bool hb38)) rfl (R.gtr rfl rfl) ?_
            refine DE.t 17 (v := (Value.bool (decide ((16 : Int) < t39)))) rfl (by kernel_rfl) (Wn.no rfl) rfl (R.pickF (congrArg Value.bool hb38) rfl) ?_
            refine DE.t 18 (v := (Value.bool (decide ((16 : Int) < t39)))) rfl (by kernel_rfl) (Wn.no rfl) rfl (R.move rfl) ?_
            rcases M.ite_use h with ⟨hb41, h⟩ | ⟨hb41, h⟩
            · refine DE.u 19 rfl (by kernel_rfl) (Un.no 18 30 false rfl rfl rfl (congrArg Value.bool hb41)) ?_
              refine DE.u 20 rfl (by kernel_rfl) (Un.no 18 30 false rfl rfl rfl (congrArg Value.bool hb41)) ?_
              refine DE.u 21 rfl (by kernel_rfl) (Un.no 18 30 false rfl rfl rfl (congrArg Value.bool hb41)) ?_
              refine DE.u 22 rfl (by kernel_rfl) (Un.un 21 33 true rfl rfl rfl rfl) ?_
              refine DE.u 23 rfl (by kernel_rfl) (Un.un 21 33 true rfl rfl rfl rfl) ?_
              refine DE.u 24 rfl (by kernel_rfl) (Un.un 21 33 true rfl rfl rfl rfl) ?_
              refine DE.u 25 rfl (by kernel_rfl) (Un.un 21 33 true rfl rfl rfl rfl) ?_
              refine DE.u 26 rfl (by kernel_rfl) (Un.un 21 33 true rfl rfl rfl rfl) ?_
              refine DE.u 27 rfl (by kernel_rfl) (Un.un 21 33 true rfl rfl rfl rfl) ?_
              refine DE.u 28 rfl (by kernel_rfl) (Un.un 21 33 true rfl rfl rfl rfl) ?_
              refine DE.u 29 rfl (by kernel_rfl) (Un.un 21 33 true rfl rfl rfl rfl) ?_
              refine DE.u 30 rfl (by kernel_rfl) (Un.un 21 33 true rfl rfl rfl rfl) ?_
              refine DE.u 31 rfl (by kernel_rfl) (Un.no 18 30 false rfl rfl rfl (congrArg Value.bool hb41)) ?_
              refine DE.t 32 (v := (Value.bool true)) rfl (by kernel_rfl) (Wn.no rfl) rfl (R.pickT (congrArg Value.bool hb41) rfl) ?_
              refine DE.done (by kernel_rfl) ?_
              exact ⟨_, h, f10, f11, f12, f13, rfl⟩
            · refine DE.t 19 (v := (Value.int .i64 x1)) rfl (by kernel_rfl) (Wn.yes 18 30 false rfl rfl rfl (congrArg Value.bool hb41)) rfl (R.move rfl) ?_
              refine DE.t 20 (v := (Value.bool (decide ((0 : Int) < x1)))) rfl (by kernel_rfl) (Wn.yes 18 30 false rfl rfl rfl (congrArg Value.bool hb41)) rfl (R.gtr rfl rfl) ?_
              refine DE.t 21 (v := (Value.bool (decide ((0 : Int) < x1)))) rfl (by kernel_rfl) (Wn.yes 18 30 false rfl rfl rfl (congrArg Value.bool hb41)) rfl (R.move rfl) ?_
              rcases M.ite_use h with ⟨hb42, h⟩ | ⟨hb42, h⟩
              · refine DE.t 22 (v := (SV.v p0)) rfl (by kernel_rfl) (Wn.yes 21 33 true rfl rfl rfl (congrArg Value.bool hb42)) rfl (R.move f10) ?_
                refine DE.t 23 (v := (Value.int .i64 x1)) rfl (by kernel_rfl) (Wn.yes 21 33 true rfl rfl rfl (congrArg Value.bool hb42)) rfl (R.move rfl) ?_
                refine DE.t 24 (v := (Value.int .i64 (IntKind.i64.wrap (x1 - (1 : Int))))) rfl (by kernel_rfl) (Wn.yes 21 33 true rfl rfl rfl (congrArg Value.bool hb42)) rfl (R.sub rfl rfl) ?_
                obtain ⟨a43, h44, h45, h46, h⟩ := h
                refine DE.t 25 (v := (Value.pointer (some (a43.add ((IntKind.i64.wrap (x1 - (1 : Int))).toNat * 2))))) rfl (by kernel_rfl) (Wn.yes 21 33 true rfl rfl rfl (congrArg Value.bool hb42)) rfl (R.idx (s := p0) sl28 rfl rfl h44 h45 h46) ?_
                refine DE.t 26 (v := (Value.pointer (some (a43.add ((IntKind.i64.wrap (x1 - (1 : Int))).toNat * 2))))) rfl (by kernel_rfl) (Wn.yes 21 33 true rfl rfl rfl (congrArg Value.bool hb42)) rfl (R.fld (off := 0) fa55_0 rfl) ?_
                refine DE.t 28 (v := (Value.pointer (some b24))) rfl (by kernel_rfl) (Wn.yes 21 33 true rfl rfl rfl (congrArg Value.bool hb42)) rfl (R.fld (off := 0) fa55_0 rfl) ?_
                obtain ⟨t47, h48, h⟩ := h
                refine DE.hold 27 (fun w => w.cell? (a43.add ((IntKind.i64.wrap (x1 - (1 : Int))).toNat * 2)) = some (Value.int .i64 t47)) (v := (Value.int .i64 t47)) rfl (by kernel_rfl) (Wn.yes 21 33 true rfl rfl rfl (congrArg Value.bool hb42)) rfl h48 (fun w hs => R.ld sc3 rfl hs) ?_
                obtain ⟨t49, h50, h⟩ := h
                refine DE.main 29 (by kernel_rfl) ?_
                refine One.r 29 (v := (Value.int .i64 t49)) rfl (Wn.yes 21 33 true rfl rfl rfl (congrArg Value.bool hb42)) rfl (R.ld sc3 rfl h50) (.inl rfl) ?_
                refine DE.t 30 (v := (Value.bool (decide (t49 ≤ t47)))) rfl (by kernel_rfl) (Wn.yes 21 33 true rfl rfl rfl (congrArg Value.bool hb42)) rfl (R.geq rfl rfl) ?_
                refine DE.t 31 (v := (Value.bool (decide (t49 ≤ t47)))) rfl (by kernel_rfl) (Wn.yes 18 30 false rfl rfl rfl (congrArg Value.bool hb41)) rfl (R.pickT (congrArg Value.bool hb42) rfl) ?_
                refine DE.t 32 (v := (Value.bool (decide (t49 ≤ t47)))) rfl (by kernel_rfl) (Wn.no rfl) rfl (R.pickF (congrArg Value.bool hb41) rfl) ?_
                refine DE.done (by kernel_rfl) ?_
                exact ⟨_, h, f10, f11, f12, f13, rfl⟩
              · refine DE.u 22 rfl (by kernel_rfl) (Un.no 21 33 true rfl rfl rfl (congrArg Value.bool hb42)) ?_
                refine DE.u 23 rfl (by kernel_rfl) (Un.no 21 33 true rfl rfl rfl (congrArg Value.bool hb42)) ?_
                refine DE.u 24 rfl (by kernel_rfl) (Un.no 21 33 true rfl rfl rfl (congrArg Value.bool hb42)) ?_
                refine DE.u 25 rfl (by kernel_rfl) (Un.no 21 33 true rfl rfl rfl (congrArg Value.bool hb42)) ?_
                refine DE.u 26 rfl (by kernel_rfl) (Un.no 21 33 true rfl rfl rfl (congrArg Value.bool hb42)) ?_
                refine DE.u 27 rfl (by kernel_rfl) (Un.no 21 33 true rfl rfl rfl (congrArg Value.bool hb42)) ?_
                refine DE.u 28 rfl (by kernel_rfl) (Un.no 21 33 true rfl rfl rfl (congrArg Value.bool hb42)) ?_
                refine DE.u 29 rfl (by kernel_rfl) (Un.no 21 33 true rfl rfl rfl (congrArg Value.bool hb42)) ?_
                refine DE.u 30 rfl (by kernel_rfl) (Un.no 21 33 true rfl rfl rfl (congrArg Value.bool hb42)) ?_
                refine DE.t 31 (v := (Value.bool false)) rfl (by kernel_rfl) (Wn.yes 18 30 false rfl rfl rfl (congrArg Value.bool hb41)) rfl (R.pickF (congrArg Value.bool hb42) rfl) ?_
                refine DE.t 32 (v := (Value.bool false)) rfl (by kernel_rfl) (Wn.no rfl) rfl (R.pickF (congrArg Value.bool hb41) rfl) ?_
                refine DE.done (by kernel_rfl) ?_
                exact ⟨_, h, f10, f11, f12, f13, rfl⟩
    · rintro e51 w52 ⟨x28, h, f53, f54, f55, f56, f57⟩
      subst hJ27
      refine WE.condT rfl (b := x28) f57 ?_ ?_
      · intro hb58
        replace h := M.ite_t h hb58
        refine WE.seq ?_
        refine WE.reg ?_
        refine LE.p (v := (Value.bool false)) (Wn.no rfl) rfl (R.assign rfl) ?_
        refine LE.nil ?_
        refine WE.ret ?_
        exact ⟨_, (Res.tmp rfl Res.nil), _, rfl, h⟩
      · intro hb58
        replace h := M.ite_f h hb58
        refine WE.skip ?_
        refine WE.reg ?_
        refine LE.p (v := (Value.int .i64 (IntKind.i64.wrap (x1 + (1 : Int))))) (Wn.no rfl) rfl (R.add f56 rfl) ?_
        refine LE.p (v := (Value.int .i64 (IntKind.i64.wrap (x1 + (1 : Int))))) (Wn.no rfl) rfl (R.move rfl) ?_
        refine LE.nil ?_
        obtain ⟨m8, hm9, h⟩ := h
        exact ⟨m8, hm9, _, h, f53, f54, f55, rfl⟩
  · intro hb14
    replace h := M.ite_f h hb14
    refine WE.exit ?_
    refine WE.seq ?_
    refine WE.reg ?_
    refine LE.p (v := (SV.v p0)) (Wn.no rfl) rfl (R.move f10) ?_
    refine LE.p (v := (Value.int .i64 (p0.len : Int))) (Wn.no rfl) rfl (R.len sl28 rfl) ?_
    refine LE.p (v := (Value.bool (decide ((p0.len : Int) ≤ (16 : Int))))) (Wn.no rfl) rfl (R.leq rfl rfl) ?_
    refine LE.p (v := (Value.bool (decide ((p0.len : Int) ≤ (16 : Int))))) (Wn.no rfl) rfl (R.assign rfl) ?_
    refine LE.nil ?_
    refine WE.ret ?_
    exact ⟨_, (Res.tmp rfl Res.nil), _, rfl, h⟩
/-- The formula of signpost.addr.Less. -/
def F41 (p0_0 : Int) (p0_1 : Int) (p1_0 : Int) (p1_1 : Int) (K : Bool → World → Prop) (w0 : World) : Prop :=
M.new (.cells #[(Value.int .u32 p0_0), (Value.int .i64 p0_1)] 33) w0 fun b2 w1 =>
M.new (.cells #[(Value.int .u32 p1_0), (Value.int .i64 p1_1)] 33) w1 fun b4 w3 =>
M.join (fun (x6 : Bool) (w21 : World) => 
M.ite x6 (
K false w21) (
M.join (fun (x27 : Bool) (w43 : World) => 
K x27 w43) fun J26 => 
M.ld (Value.int .u32) b2 w21 fun t28 =>
M.ld (Value.int .u32) b4 w21 fun t30 =>
M.ite (decide (t28 < t30)) (
J26 true w21) (
M.ld (Value.int .u32) b2 w21 fun t33 =>
M.ld (Value.int .u32) b4 w21 fun t35 =>
M.ite (t33 == t35) (
M.ld (Value.int .i64) (b2.add 1) w21 fun t38 =>
M.ld (Value.int .i64) (b4.add 1) w21 fun t40 =>
J26 (decide (t38 < t40)) w21) (
J26 false w21)))) fun J5 => 
M.ld (Value.int .u32) b2 w3 fun t7 =>
M.ld (Value.int .i64) (b2.add 1) w3 fun t9 =>
Calls Try.prog 39 #[(Value.agg #[(Value.int .u32 t7), (Value.int .i64 t9)])] w3 (R39 fun r11 w12 =>
M.ite (!r11) (
J5 true w12) (
M.ld (Value.int .u32) b4 w12 fun t14 =>
M.ld (Value.int .i64) (b4.add 1) w12 fun t16 =>
Calls Try.prog 39 #[(Value.agg #[(Value.int .u32 t14), (Value.int .i64 t16)])] w12 (R39 fun r18 w19 =>
J5 (!r18) w19)))
theorem F41_ok {w0 : World} {p0_0 : Int} {p0_1 : Int} {p1_0 : Int} {p1_1 : Int} {K : Bool → World → Prop} (h : F41 p0_0 p0_1 p1_0 p1_1 K w0) : Calls Try.prog 41 #[(Value.agg #[(Value.int .u32 p0_0), (Value.int .i64 p0_1)]), (Value.agg #[(Value.int .u32 p1_0), (Value.int .i64 p1_1)])] w0 (R41 K) := by
  refine calls_of_WE (args := [(Value.agg #[(Value.int .u32 p0_0), (Value.int .i64 p0_1)]), (Value.agg #[(Value.int .u32 p1_0), (Value.int .i64 p1_1)])]) (rs := [.tmp 4]) Try.func41 rfl (N := 32) rfl rfl rfl rfl ?_
  refine WE.seq ?_
  refine WE.reg ?_
  obtain ⟨b2, hpb2, w1, hww1, h⟩ := M.new_use h
  refine LE.r (v := (Value.pointer (some b2))) (Wn.no rfl) rfl (R.box (cs := #[(Value.int .u32 p0_0), (Value.int .i64 p0_1)]) rfl rfl hpb2 hww1) ?_
  obtain ⟨b4, hpb4, w3, hww3, h⟩ := M.new_use h
  refine LE.r (v := (Value.pointer (some b4))) (Wn.no rfl) rfl (R.box (cs := #[(Value.int .u32 p1_0), (Value.int .i64 p1_1)]) rfl rfl hpb4 hww3) ?_
  refine LE.p (v := (Value.bool false)) (Wn.no rfl) rfl (R.assign rfl) ?_
  refine LE.nil ?_
  refine WE.seq ?_
  refine WE.seq ?_
  obtain ⟨J5, hJ5, h⟩ := M.join_use h
  refine WE.regJ (fun e w => ∃ (x6 : Bool), J5 x6 w ∧ e 2 = (Value.pointer (some b2)) ∧ e 3 = (Value.pointer (some b4)) ∧ e 12 = (Value.bool x6)) ?_ ?_
  · clear hJ5
    obtain ⟨t7, h8, h⟩ := h
    obtain ⟨t9, h10, h⟩ := h
    refine LE.r (v := (Value.agg #[(Value.int .u32 t7), (Value.int .i64 t9)])) (Wn.no rfl) rfl (R.ldA ag33 sz33 rfl rfl (Cs.cons h8 (Cs.cons h10 Cs.nil))) ?_
    refine LE.c (Wn.no rfl) rfl (R.call bd39 (Ls.cons rfl Ls.nil) rfl) (Calls.mono h ?_)
    rintro _ w12 ⟨r11, rfl, h⟩
    refine ⟨_, rfl, ?_⟩
    refine LE.p (v := (Value.bool (!r11))) (Wn.no rfl) rfl (R.not rfl) ?_
    refine LE.p (v := (Value.bool (!r11))) (Wn.no rfl) rfl (R.move rfl) ?_
    rcases M.ite_use h with ⟨hb13, h⟩ | ⟨hb13, h⟩
    · refine LE.u (Un.no 3 8 false rfl rfl rfl (congrArg Value.bool hb13)) ?_
      refine LE.u (Un.no 3 8 false rfl rfl rfl (congrArg Value.bool hb13)) ?_
      refine LE.u (Un.no 3 8 false rfl rfl rfl (congrArg Value.bool hb13)) ?_
      refine LE.p (v := (Value.bool true)) (Wn.no rfl) rfl (R.pickT (congrArg Value.bool hb13) rfl) ?_
      refine LE.nil ?_
      exact ⟨_, h, rfl, rfl, rfl⟩
    · obtain ⟨t14, h15, h⟩ := h
      obtain ⟨t16, h17, h⟩ := h
      refine LE.r (v := (Value.agg #[(Value.int .u32 t14), (Value.int .i64 t16)])) (Wn.yes 3 8 false rfl rfl rfl (congrArg Value.bool hb13)) rfl (R.ldA ag33 sz33 rfl rfl (Cs.cons h15 (Cs.cons h17 Cs.nil))) ?_
      refine LE.c (Wn.yes 3 8 false rfl rfl rfl (congrArg Value.bool hb13)) rfl (R.call bd39 (Ls.cons rfl Ls.nil) rfl) (Calls.mono h ?_)
      rintro _ w19 ⟨r18, rfl, h⟩
      refine ⟨_, rfl, ?_⟩
      refine LE.p (v := (Value.bool (!r18))) (Wn.yes 3 8 false rfl rfl rfl (congrArg Value.bool hb13)) rfl (R.not rfl) ?_
      refine LE.p (v := (Value.bool (!r18))) (Wn.no rfl) rfl (R.pickF (congrArg Value.bool hb13) rfl) ?_
      refine LE.nil ?_
      exact ⟨_, h, rfl, rfl, rfl⟩
  · rintro e20 w21 ⟨x6, h, f22, f23, f24⟩
    subst hJ5
    refine WE.condT rfl (b := x6) f24 ?_ ?_
    · intro hb25
      replace h := M.ite_t h hb25
      refine WE.seq ?_
      refine WE.reg ?_
      refine LE.p (v := (Value.bool false)) (Wn.no rfl) rfl (R.assign rfl) ?_
      refine LE.nil ?_
      refine WE.ret ?_
      exact ⟨_, (Res.tmp rfl Res.nil), _, rfl, h⟩
    · intro hb25
      replace h := M.ite_f h hb25
      refine WE.skip ?_
      refine WE.seq ?_
      obtain ⟨J26, hJ26, h⟩ := M.join_use h
      refine WE.regJ (fun e w => ∃ (x27 : Bool), J26 x27 w ∧ e 4 = (Value.bool x27)) ?_ ?_
      · clear hJ26
        refine LE.p (v := (Value.pointer (some b2))) (Wn.no rfl) rfl (R.fld (off := 0) fa33_0 f22) ?_
        obtain ⟨t28, h29, h⟩ := h
        refine LE.r (v := (Value.int .u32 t28)) (Wn.no rfl) rfl (R.ld sc23 rfl h29) ?_
        refine LE.p (v := (Value.pointer (some b4))) (Wn.no rfl) rfl (R.fld (off := 0) fa33_0 f23) ?_
        obtain ⟨t30, h31, h⟩ := h
        refine LE.r (v := (Value.int .u32 t30)) (Wn.no rfl) rfl (R.ld sc23 rfl h31) ?_
        refine LE.p (v := (Value.bool (decide (t28 < t30)))) (Wn.no rfl) rfl (R.lss rfl rfl) ?_
        refine LE.p (v := (Value.bool (decide (t28 < t30)))) (Wn.no rfl) rfl (R.move rfl) ?_
        rcases M.ite_use h with ⟨hb32, h⟩ | ⟨hb32, h⟩
        · refine LE.u (Un.no 5 18 false rfl rfl rfl (congrArg Value.bool hb32)) ?_
          refine LE.u (Un.no 5 18 false rfl rfl rfl (congrArg Value.bool hb32)) ?_
          refine LE.u (Un.no 5 18 false rfl rfl rfl (congrArg Value.bool hb32)) ?_
          refine LE.u (Un.no 5 18 false rfl rfl rfl (congrArg Value.bool hb32)) ?_
          refine LE.u (Un.no 5 18 false rfl rfl rfl (congrArg Value.bool hb32)) ?_
          refine LE.u (Un.no 5 18 false rfl rfl rfl (congrArg Value.bool hb32)) ?_
          refine LE.u (Un.un 11 24 true rfl rfl rfl rfl) ?_
          refine LE.u (Un.un 11 24 true rfl rfl rfl rfl) ?_
          refine LE.u (Un.un 11 24 true rfl rfl rfl rfl) ?_
          refine LE.u (Un.un 11 24 true rfl rfl rfl rfl) ?_
          refine LE.u (Un.un 11 24 true rfl rfl rfl rfl) ?_
          refine LE.u (Un.no 5 18 false rfl rfl rfl (congrArg Value.bool hb32)) ?_
          refine LE.p (v := (Value.bool true)) (Wn.no rfl) rfl (R.pickT (congrArg Value.bool hb32) rfl) ?_
          refine LE.p (v := (Value.bool true)) (Wn.no rfl) rfl (R.assign rfl) ?_
          refine LE.nil ?_
          exact ⟨_, h, rfl⟩
        · refine LE.p (v := (Value.pointer (some b2))) (Wn.yes 5 18 false rfl rfl rfl (congrArg Value.bool hb32)) rfl (R.fld (off := 0) fa33_0 f22) ?_
          obtain ⟨t33, h34, h⟩ := h
          refine LE.r (v := (Value.int .u32 t33)) (Wn.yes 5 18 false rfl rfl rfl (congrArg Value.bool hb32)) rfl (R.ld sc23 rfl h34) ?_
          refine LE.p (v := (Value.pointer (some b4))) (Wn.yes 5 18 false rfl rfl rfl (congrArg Value.bool hb32)) rfl (R.fld (off := 0) fa33_0 f23) ?_
          obtain ⟨t35, h36, h⟩ := h
          refine LE.r (v := (Value.int .u32 t35)) (Wn.yes 5 18 false rfl rfl rfl (congrArg Value.bool hb32)) rfl (R.ld sc23 rfl h36) ?_
          refine LE.p (v := (Value.bool (t33 == t35))) (Wn.yes 5 18 false rfl rfl rfl (congrArg Value.bool hb32)) rfl (R.eql rfl rfl) ?_
          refine LE.p (v := (Value.bool (t33 == t35))) (Wn.yes 5 18 false rfl rfl rfl (congrArg Value.bool hb32)) rfl (R.move rfl) ?_
          rcases M.ite_use h with ⟨hb37, h⟩ | ⟨hb37, h⟩
          · refine LE.p (v := (Value.pointer (some (b2.add 1)))) (Wn.yes 11 24 true rfl rfl rfl (congrArg Value.bool hb37)) rfl (R.fld (off := 1) fa33_1 f22) ?_
            obtain ⟨t38, h39, h⟩ := h
            refine LE.r (v := (Value.int .i64 t38)) (Wn.yes 11 24 true rfl rfl rfl (congrArg Value.bool hb37)) rfl (R.ld sc3 rfl h39) ?_
            refine LE.p (v := (Value.pointer (some (b4.add 1)))) (Wn.yes 11 24 true rfl rfl rfl (congrArg Value.bool hb37)) rfl (R.fld (off := 1) fa33_1 f23) ?_
            obtain ⟨t40, h41, h⟩ := h
            refine LE.r (v := (Value.int .i64 t40)) (Wn.yes 11 24 true rfl rfl rfl (congrArg Value.bool hb37)) rfl (R.ld sc3 rfl h41) ?_
            refine LE.p (v := (Value.bool (decide (t38 < t40)))) (Wn.yes 11 24 true rfl rfl rfl (congrArg Value.bool hb37)) rfl (R.lss rfl rfl) ?_
            refine LE.p (v := (Value.bool (decide (t38 < t40)))) (Wn.yes 5 18 false rfl rfl rfl (congrArg Value.bool hb32)) rfl (R.pickT (congrArg Value.bool hb37) rfl) ?_
            refine LE.p (v := (Value.bool (decide (t38 < t40)))) (Wn.no rfl) rfl (R.pickF (congrArg Value.bool hb32) rfl) ?_
            refine LE.p (v := (Value.bool (decide (t38 < t40)))) (Wn.no rfl) rfl (R.assign rfl) ?_
            refine LE.nil ?_
            exact ⟨_, h, rfl⟩
          · refine LE.u (Un.no 11 24 true rfl rfl rfl (congrArg Value.bool hb37)) ?_
            refine LE.u (Un.no 11 24 true rfl rfl rfl (congrArg Value.bool hb37)) ?_
            refine LE.u (Un.no 11 24 true rfl rfl rfl (congrArg Value.bool hb37)) ?_
            refine LE.u (Un.no 11 24 true rfl rfl rfl (congrArg Value.bool hb37)) ?_
            refine LE.u (Un.no 11 24 true rfl rfl rfl (congrArg Value.bool hb37)) ?_
            refine LE.p (v := (Value.bool false)) (Wn.yes 5 18 false rfl rfl rfl (congrArg Value.bool hb32)) rfl (R.pickF (congrArg Value.bool hb37) rfl) ?_
            refine LE.p (v := (Value.bool false)) (Wn.no rfl) rfl (R.pickF (congrArg Value.bool hb32) rfl) ?_
            refine LE.p (v := (Value.bool false)) (Wn.no rfl) rfl (R.assign rfl) ?_
            refine LE.nil ?_
            exact ⟨_, h, rfl⟩
      · rintro e42 w43 ⟨x27, h, f44⟩
        subst hJ26
        refine WE.ret ?_
        exact ⟨_, (Res.tmp f44 Res.nil), _, rfl, h⟩
/-- The formula of signpost.trie.bit. -/
def F42 (p0 : Int) (p1 : Int) (K : Int → World → Prop) (w0 : World) : Prop :=
M.sh (IntKind.i64.wrap ((31 : Int) - p1)) <|
K (IntKind.i64.wrap (bAnd .u32 (bShr .u32 p0 (IntKind.i64.wrap ((31 : Int) - p1))) (1 : Int))) w0
theorem F42_ok {w0 : World} {p0 : Int} {p1 : Int} {K : Int → World → Prop} (h : F42 p0 p1 K w0) : Calls Try.prog 42 #[(Value.int .u32 p0), (Value.int .i64 p1)] w0 (R42 K) := by
  refine calls_of_WE (args := [(Value.int .u32 p0), (Value.int .i64 p1)]) (rs := [.tmp 4]) Try.func42 rfl (N := 11) rfl rfl rfl rfl ?_
  refine WE.seq ?_
  refine WE.reg ?_
  refine LE.p (v := (Value.int .i64 (0 : Int))) (Wn.no rfl) rfl (R.assign rfl) ?_
  refine LE.nil ?_
  refine WE.seq ?_
  refine WE.reg ?_
  refine LE.p (v := (Value.int .u32 p0)) (Wn.no rfl) rfl (R.move rfl) ?_
  refine LE.p (v := (Value.int .i64 p1)) (Wn.no rfl) rfl (R.move rfl) ?_
  refine LE.p (v := (Value.int .i64 (IntKind.i64.wrap ((31 : Int) - p1)))) (Wn.no rfl) rfl (R.sub rfl rfl) ?_
  obtain ⟨h1, h⟩ := h
  refine LE.p (v := (Value.int .u32 (bShr .u32 p0 (IntKind.i64.wrap ((31 : Int) - p1))))) (Wn.no rfl) rfl (R.shr rfl rfl h1) ?_
  refine LE.p (v := (Value.int .u32 (bAnd .u32 (bShr .u32 p0 (IntKind.i64.wrap ((31 : Int) - p1))) (1 : Int)))) (Wn.no rfl) rfl (R.and rfl rfl) ?_
  refine LE.p (v := (Value.int .i64 (IntKind.i64.wrap (bAnd .u32 (bShr .u32 p0 (IntKind.i64.wrap ((31 : Int) - p1))) (1 : Int))))) (Wn.no rfl) rfl (R.conv in3 in23 rfl) ?_
  refine LE.p (v := (Value.int .i64 (IntKind.i64.wrap (bAnd .u32 (bShr .u32 p0 (IntKind.i64.wrap ((31 : Int) - p1))) (1 : Int))))) (Wn.no rfl) rfl (R.assign rfl) ?_
  refine LE.nil ?_
  refine WE.ret ?_
  exact ⟨_, (Res.tmp rfl Res.nil), _, rfl, h⟩
/-- The formula of (*signpost.trie.Trie).down. -/
def F43 (p0 : Option Addr) (p1 : Int) (p2 : Int) (K : SV → World → Prop) (w0 : World) : Prop :=
M.nil p0 fun a1 =>
M.join (fun (x4 : SV) (w56 : World) => 
K x4 w56) fun J3 => 
M.loop3 (fun (J8 : SV → Option Addr → Int → World → Prop) (x5 : SV) (x6 : Option Addr) (x7 : Int) (w9 : World) => 
M.join (fun (x22 : SV) (w38 : World) => 
M.ite (x7 == p2) (
J3 x22 w38) (
M.drew w38 fun w45 => 
M.nil x6 fun a46 =>
Calls Try.prog 42 #[(Value.int .u32 p1), (Value.int .i64 x7)] w45 (R42 fun r48 w49 =>
M.inb r48 2 <|
M.ld Value.pointer (a46.add (r48.toNat * 1)) w49 fun t52 =>
M.ite (Option.isNone t52) (
J3 x22 w49) (
J8 x22 t52 (IntKind.i64.wrap (x7 + (1 : Int))) w49)))) fun J21 => 
M.nil x6 fun a23 =>
M.ld Value.bool (a23.add 2) w9 fun t25 =>
M.ite t25 (
Calls Try.prog 51 #[(Value.int .u32 p1), (Value.int .i64 x7)] w9 (R51 fun r28 r29 w30 =>
M.new (.cells #[(Value.int .u32 r28), (Value.int .i64 r29)] 33) w30 fun b33 w31 =>
M.app Try.prog 69 69 69 x5 (SV.v (SV.mk (some b33) 1 1)) w31 fun s34 w35 =>
J21 s34 w35)) (
J21 x5 w9)) SV.nil (some a1) (0 : Int) w0
theorem F43_ok {w0 : World} {p0 : Option Addr} {p1 : Int} {p2 : Int} {K : SV → World → Prop} (h : F43 p0 p1 p2 K w0) : Calls Try.prog 43 #[(Value.pointer p0), (Value.int .u32 p1), (Value.int .i64 p2)] w0 (R43 K) := by
  refine calls_of_WE (args := [(Value.pointer p0), (Value.int .u32 p1), (Value.int .i64 p2)]) (rs := [.tmp 6]) Try.func43 rfl (N := 39) rfl rfl rfl rfl ?_
  refine WE.seq ?_
  refine WE.reg ?_
  refine LE.p (v := (SV.v SV.nil)) (Wn.no rfl) rfl (R.assign rfl) ?_
  refine LE.nil ?_
  refine WE.scope ?_
  refine WE.seq ?_
  refine WE.reg ?_
  refine LE.p (v := (SV.v SV.nil)) (Wn.no rfl) rfl (R.assign rfl) ?_
  refine LE.nil ?_
  refine WE.seq ?_
  refine WE.reg ?_
  refine LE.p (v := (Value.pointer p0)) (Wn.no rfl) rfl (R.move rfl) ?_
  obtain ⟨a1, h2, h⟩ := h
  refine LE.p (v := (Value.pointer (some a1))) (Wn.no rfl) rfl (R.nilC (congrArg Value.pointer h2)) ?_
  refine LE.p (v := (Value.pointer (some a1))) (Wn.no rfl) rfl (R.fld (off := 0) fa85_0 rfl) ?_
  refine LE.p (v := (Value.pointer (some a1))) (Wn.no rfl) rfl (R.assign rfl) ?_
  refine LE.nil ?_
  refine WE.seq ?_
  refine WE.label ?_
  refine WE.seq ?_
  refine WE.seq ?_
  refine WE.reg ?_
  refine LE.p (v := (Value.int .i64 (0 : Int))) (Wn.no rfl) rfl (R.assign rfl) ?_
  refine LE.nil ?_
  obtain ⟨J3, hJ3, h⟩ := M.join_use h
  refine WE.blkJ (fun e w => ∃ (x4 : SV), J3 x4 w ∧ e 7 = (SV.v x4)) ?_ ?_
  · clear hJ3
    obtain ⟨I12, ⟨n11, h⟩, hr13⟩ := h
    refine WE.loop (fun n e w => ∃ (x5 : SV) (x6 : Option Addr) (x7 : Int), I12 n x5 x6 x7 w ∧ e 1 = (Value.int .u32 p1) ∧ e 2 = (Value.int .i64 p2) ∧ e 7 = (SV.v x5) ∧ e 8 = (Value.pointer x6) ∧ e 9 = (Value.int .i64 x7)) n11 ⟨_, _, _, h, rfl, rfl, rfl, rfl, rfl⟩ ?_
    clear h
    rintro n11 e10 w9 ⟨x5, x6, x7, h, f16, f17, f18, f19, f20⟩
    replace h := hr13 n11 x5 x6 x7 w9 h
    refine WE.seq ?_
    refine WE.block ?_
    obtain ⟨J21, hJ21, h⟩ := M.join_use h
    refine WE.join (fun e w => ∃ (x22 : SV), J21 x22 w ∧ e 1 = (Value.int .u32 p1) ∧ e 2 = (Value.int .i64 p2) ∧ e 7 = (SV.v x22) ∧ e 8 = (Value.pointer x6) ∧ e 9 = (Value.int .i64 x7)) ?_ ?_
    · clear hJ21
      refine WE.seq ?_
      refine WE.reg ?_
      refine LE.p (v := (Value.pointer x6)) (Wn.no rfl) rfl (R.move f19) ?_
      obtain ⟨a23, h24, h⟩ := h
      refine LE.p (v := (Value.pointer (some a23))) (Wn.no rfl) rfl (R.nilC (congrArg Value.pointer h24)) ?_
      refine LE.p (v := (Value.pointer (some (a23.add 2)))) (Wn.no rfl) rfl (R.fld (off := 2) fa83_1 rfl) ?_
      obtain ⟨t25, h26, h⟩ := h
      refine LE.r (v := (Value.bool t25)) (Wn.no rfl) rfl (R.ld sc4 rfl h26) ?_
      refine LE.nil ?_
      refine WE.condT rfl (b := t25) rfl ?_ ?_
      · intro hb27
        replace h := M.ite_t h hb27
        refine WE.reg ?_
        refine LE.p (v := (SV.v x5)) (Wn.no rfl) rfl (R.move f18) ?_
        refine LE.p (v := (Value.int .u32 p1)) (Wn.no rfl) rfl (R.move f16) ?_
        refine LE.p (v := (Value.int .i64 x7)) (Wn.no rfl) rfl (R.move f20) ?_
        refine LE.c (Wn.no rfl) rfl (R.call bd51 (Ls.cons rfl (Ls.cons rfl Ls.nil)) rfl) (Calls.mono h ?_)
        rintro _ w30 ⟨r28, r29, rfl, h⟩
        refine ⟨_, rfl, ?_⟩
        obtain ⟨b33, hpb33, w31, hww31, h⟩ := M.new_use h
        refine LE.r (v := (SV.v (SV.mk (some b33) 1 1))) (Wn.no rfl) rfl (R.bsl (by exact (Ls.cons (R.Pr rfl) Ls.nil)) (fun w => bs69_1 r28 r29 w) hpb33 hww31) ?_
        obtain ⟨s34, w35, h36, h⟩ := h
        refine LE.r (v := (SV.v s34)) (Wn.no rfl) rfl (R.app (s := x5) (r := s34) rfl rfl h36) ?_
        refine LE.p (v := (SV.v s34)) (Wn.no rfl) rfl (R.assign rfl) ?_
        refine LE.nil ?_
        exact ⟨_, h, f16, f17, rfl, f19, f20⟩
      · intro hb27
        replace h := M.ite_f h hb27
        refine WE.skip ?_
        exact ⟨_, h, f16, f17, f18, f19, f20⟩
    · rintro e37 w38 ⟨x22, h, f39, f40, f41, f42, f43⟩
      subst hJ21
      refine WE.seq ?_
      refine WE.seq ?_
      refine WE.reg ?_
      refine LE.p (v := (Value.int .i64 x7)) (Wn.no rfl) rfl (R.move f43) ?_
      refine LE.p (v := (Value.int .i64 p2)) (Wn.no rfl) rfl (R.move f40) ?_
      refine LE.p (v := (Value.bool (x7 == p2))) (Wn.no rfl) rfl (R.eql rfl rfl) ?_
      refine LE.nil ?_
      refine WE.condT rfl (b := (x7 == p2)) rfl ?_ ?_
      · intro hb44
        replace h := M.ite_t h hb44
        refine WE.exit ?_
        exact ⟨_, h, f41⟩
      · intro hb44
        replace h := M.ite_f h hb44
        refine WE.skip ?_
        refine WE.seq ?_
        refine WE.draw mix ?_
        obtain ⟨w45, hww45, h⟩ := M.drew_use h
        rw [← hww45]
        clear hww45
        refine DE.t 0 (v := (Value.pointer x6)) rfl (by kernel_rfl) (Wn.no rfl) rfl (R.move f42) ?_
        refine DE.t 1 (v := (Value.int .u32 p1)) rfl (by kernel_rfl) (Wn.no rfl) rfl (R.move f39) ?_
        refine DE.t 2 (v := (Value.int .i64 x7)) rfl (by kernel_rfl) (Wn.no rfl) rfl (R.move f43) ?_
        obtain ⟨a46, h47, h⟩ := h
        refine DE.t 4 (v := (Value.pointer (some a46))) rfl (by kernel_rfl) (Wn.no rfl) rfl (R.nilC (congrArg Value.pointer h47)) ?_
        refine DE.t 5 (v := (Value.pointer (some a46))) rfl (by kernel_rfl) (Wn.no rfl) rfl (R.fld (off := 0) fa83_0 rfl) ?_
        refine DE.main 3 (by kernel_rfl) ?_
        refine One.c 3 rfl (Wn.no rfl) rfl (R.call bd42 (Ls.cons rfl (Ls.cons rfl Ls.nil)) rfl) (Calls.mono h ?_)
        rintro _ w49 ⟨r48, rfl, h⟩
        refine ⟨_, rfl, trivial, ?_⟩
        obtain ⟨h50, h51, h⟩ := h
        refine DE.t 6 (v := (Value.pointer (some (a46.add (r48.toNat * 1))))) rfl (by kernel_rfl) (Wn.no rfl) rfl (R.idxArr ar81 rfl rfl h50 h51) ?_
        obtain ⟨t52, h53, h⟩ := h
        refine DE.main 7 (by kernel_rfl) ?_
        refine One.r 7 (v := (Value.pointer t52)) rfl (Wn.no rfl) rfl (R.ld sc80 rfl h53) (.inl rfl) ?_
        refine DE.t 8 (v := (Value.pointer t52)) rfl (by kernel_rfl) (Wn.no rfl) rfl (R.assign rfl) ?_
        refine DE.done (by kernel_rfl) ?_
        refine WE.seq ?_
        refine WE.reg ?_
        refine LE.p (v := (Value.pointer t52)) (Wn.no rfl) rfl (R.move rfl) ?_
        refine LE.p (v := (Value.bool (Option.isNone t52))) (Wn.no rfl) rfl (R.peqNil pt80 rfl rfl) ?_
        refine LE.nil ?_
        refine WE.condT rfl (b := (Option.isNone t52)) rfl ?_ ?_
        · intro hb54
          replace h := M.ite_t h hb54
          refine WE.exit ?_
          exact ⟨_, h, f41⟩
        · intro hb54
          replace h := M.ite_f h hb54
          refine WE.skip ?_
          refine WE.reg ?_
          refine LE.p (v := (Value.int .i64 x7)) (Wn.no rfl) rfl (R.move f43) ?_
          refine LE.p (v := (Value.int .i64 (IntKind.i64.wrap (x7 + (1 : Int))))) (Wn.no rfl) rfl (R.add rfl rfl) ?_
          refine LE.p (v := (Value.int .i64 (IntKind.i64.wrap (x7 + (1 : Int))))) (Wn.no rfl) rfl (R.assign rfl) ?_
          refine LE.nil ?_
          obtain ⟨m14, hm15, h⟩ := h
          exact ⟨m14, hm15, _, _, _, h, f39, f40, f41, rfl, rfl⟩
  · rintro e55 w56 ⟨x4, h, f57⟩
    subst hJ3
    refine WE.seq ?_
    refine WE.reg ?_
    refine LE.p (v := (SV.v x4)) (Wn.no rfl) rfl (R.move f57) ?_
    refine LE.p (v := (SV.v x4)) (Wn.no rfl) rfl (R.assign rfl) ?_
    refine LE.nil ?_
    refine WE.ret ?_
    exact ⟨_, (Res.tmp rfl Res.nil), _, rfl, h⟩
/-- The formula of (*signpost.trie.Trie).Get. -/
def F44 (p0 : Option Addr) (p1_0 : Int) (p1_1 : Int) (K : Int → Bool → World → Prop) (w0 : World) : Prop :=
M.new (.cells #[(Value.int .u32 p1_0), (Value.int .i64 p1_1)] 33) w0 fun b2 w1 =>
M.ld (Value.int .u32) b2 w1 fun t3 =>
M.ld (Value.int .i64) (b2.add 1) w1 fun t5 =>
Calls Try.prog 39 #[(Value.agg #[(Value.int .u32 t3), (Value.int .i64 t5)])] w1 (R39 fun r7 w8 =>
M.ite (!r7) (
K (0 : Int) false w8) (
M.ld (Value.int .u32) b2 w8 fun t10 =>
M.ld (Value.int .i64) (b2.add 1) w8 fun t12 =>
Calls Try.prog 52 #[(Value.pointer p0), (Value.agg #[(Value.int .u32 t10), (Value.int .i64 t12)])] w8 (R52 fun r14 w15 =>
M.join (fun (x17 : Bool) (w24 : World) => 
M.ite x17 (
K (0 : Int) false w24) (
M.nil r14 fun a28 =>
M.ld (Value.int .i64) (a28.add 3) w24 fun t30 =>
K t30 true w24)) fun J16 => 
M.ite (Option.isNone r14) (
J16 true w15) (
M.nil r14 fun a19 =>
M.ld Value.bool (a19.add 2) w15 fun t21 =>
J16 (!t21) w15))))
theorem F44_ok {w0 : World} {p0 : Option Addr} {p1_0 : Int} {p1_1 : Int} {K : Int → Bool → World → Prop} (h : F44 p0 p1_0 p1_1 K w0) : Calls Try.prog 44 #[(Value.pointer p0), (Value.agg #[(Value.int .u32 p1_0), (Value.int .i64 p1_1)])] w0 (R44 K) := by
  refine calls_of_WE (args := [(Value.pointer p0), (Value.agg #[(Value.int .u32 p1_0), (Value.int .i64 p1_1)])]) (rs := [.tmp 4, .tmp 5]) Try.func44 rfl (N := 26) rfl rfl rfl rfl ?_
  refine WE.seq ?_
  refine WE.reg ?_
  obtain ⟨b2, hpb2, w1, hww1, h⟩ := M.new_use h
  refine LE.r (v := (Value.pointer (some b2))) (Wn.no rfl) rfl (R.box (cs := #[(Value.int .u32 p1_0), (Value.int .i64 p1_1)]) rfl rfl hpb2 hww1) ?_
  refine LE.p (v := (Value.int .i64 (0 : Int))) (Wn.no rfl) rfl (R.assign rfl) ?_
  refine LE.p (v := (Value.bool false)) (Wn.no rfl) rfl (R.assign rfl) ?_
  refine LE.nil ?_
  refine WE.seq ?_
  refine WE.seq ?_
  refine WE.reg ?_
  obtain ⟨t3, h4, h⟩ := h
  obtain ⟨t5, h6, h⟩ := h
  refine LE.r (v := (Value.agg #[(Value.int .u32 t3), (Value.int .i64 t5)])) (Wn.no rfl) rfl (R.ldA ag33 sz33 rfl rfl (Cs.cons h4 (Cs.cons h6 Cs.nil))) ?_
  refine LE.c (Wn.no rfl) rfl (R.call bd39 (Ls.cons rfl Ls.nil) rfl) (Calls.mono h ?_)
  rintro _ w8 ⟨r7, rfl, h⟩
  refine ⟨_, rfl, ?_⟩
  refine LE.p (v := (Value.bool (!r7))) (Wn.no rfl) rfl (R.not rfl) ?_
  refine LE.nil ?_
  refine WE.condT rfl (b := (!r7)) rfl ?_ ?_
  · intro hb9
    replace h := M.ite_t h hb9
    refine WE.seq ?_
    refine WE.reg ?_
    refine LE.p (v := (Value.int .i64 (0 : Int))) (Wn.no rfl) rfl (R.assign rfl) ?_
    refine LE.p (v := (Value.bool false)) (Wn.no rfl) rfl (R.assign rfl) ?_
    refine LE.nil ?_
    refine WE.ret ?_
    exact ⟨_, (Res.tmp rfl (Res.tmp rfl Res.nil)), _, _, rfl, h⟩
  · intro hb9
    replace h := M.ite_f h hb9
    refine WE.skip ?_
    refine WE.seq ?_
    refine WE.reg ?_
    refine LE.p (v := (Value.pointer p0)) (Wn.no rfl) rfl (R.move rfl) ?_
    obtain ⟨t10, h11, h⟩ := h
    obtain ⟨t12, h13, h⟩ := h
    refine LE.r (v := (Value.agg #[(Value.int .u32 t10), (Value.int .i64 t12)])) (Wn.no rfl) rfl (R.ldA ag33 sz33 rfl rfl (Cs.cons h11 (Cs.cons h13 Cs.nil))) ?_
    refine LE.c (Wn.no rfl) rfl (R.call bd52 (Ls.cons rfl (Ls.cons rfl Ls.nil)) rfl) (Calls.mono h ?_)
    rintro _ w15 ⟨r14, rfl, h⟩
    refine ⟨_, rfl, ?_⟩
    refine LE.p (v := (Value.pointer r14)) (Wn.no rfl) rfl (R.assign rfl) ?_
    refine LE.nil ?_
    refine WE.seq ?_
    refine WE.seq ?_
    obtain ⟨J16, hJ16, h⟩ := M.join_use h
    refine WE.regJ (fun e w => ∃ (x17 : Bool), J16 x17 w ∧ e 6 = (Value.pointer r14) ∧ e 21 = (Value.bool x17)) ?_ ?_
    · clear hJ16
      refine LE.p (v := (Value.pointer r14)) (Wn.no rfl) rfl (R.move rfl) ?_
      refine LE.p (v := (Value.bool (Option.isNone r14))) (Wn.no rfl) rfl (R.peqNil pt80 rfl rfl) ?_
      refine LE.p (v := (Value.bool (Option.isNone r14))) (Wn.no rfl) rfl (R.move rfl) ?_
      rcases M.ite_use h with ⟨hb18, h⟩ | ⟨hb18, h⟩
      · refine LE.u (Un.no 2 15 false rfl rfl rfl (congrArg Value.bool hb18)) ?_
        refine LE.u (Un.no 2 15 false rfl rfl rfl (congrArg Value.bool hb18)) ?_
        refine LE.u (Un.no 2 15 false rfl rfl rfl (congrArg Value.bool hb18)) ?_
        refine LE.u (Un.no 2 15 false rfl rfl rfl (congrArg Value.bool hb18)) ?_
        refine LE.u (Un.no 2 15 false rfl rfl rfl (congrArg Value.bool hb18)) ?_
        refine LE.p (v := (Value.bool true)) (Wn.no rfl) rfl (R.pickT (congrArg Value.bool hb18) rfl) ?_
        refine LE.nil ?_
        exact ⟨_, h, rfl, rfl⟩
      · refine LE.p (v := (Value.pointer r14)) (Wn.yes 2 15 false rfl rfl rfl (congrArg Value.bool hb18)) rfl (R.move rfl) ?_
        obtain ⟨a19, h20, h⟩ := h
        refine LE.p (v := (Value.pointer (some a19))) (Wn.yes 2 15 false rfl rfl rfl (congrArg Value.bool hb18)) rfl (R.nilC (congrArg Value.pointer h20)) ?_
        refine LE.p (v := (Value.pointer (some (a19.add 2)))) (Wn.yes 2 15 false rfl rfl rfl (congrArg Value.bool hb18)) rfl (R.fld (off := 2) fa83_1 rfl) ?_
        obtain ⟨t21, h22, h⟩ := h
        refine LE.r (v := (Value.bool t21)) (Wn.yes 2 15 false rfl rfl rfl (congrArg Value.bool hb18)) rfl (R.ld sc4 rfl h22) ?_
        refine LE.p (v := (Value.bool (!t21))) (Wn.yes 2 15 false rfl rfl rfl (congrArg Value.bool hb18)) rfl (R.not rfl) ?_
        refine LE.p (v := (Value.bool (!t21))) (Wn.no rfl) rfl (R.pickF (congrArg Value.bool hb18) rfl) ?_
        refine LE.nil ?_
        exact ⟨_, h, rfl, rfl⟩
    · rintro e23 w24 ⟨x17, h, f25, f26⟩
      subst hJ16
      refine WE.condT rfl (b := x17) f26 ?_ ?_
      · intro hb27
        replace h := M.ite_t h hb27
        refine WE.seq ?_
        refine WE.reg ?_
        refine LE.p (v := (Value.int .i64 (0 : Int))) (Wn.no rfl) rfl (R.assign rfl) ?_
        refine LE.p (v := (Value.bool false)) (Wn.no rfl) rfl (R.assign rfl) ?_
        refine LE.nil ?_
        refine WE.ret ?_
        exact ⟨_, (Res.tmp rfl (Res.tmp rfl Res.nil)), _, _, rfl, h⟩
      · intro hb27
        replace h := M.ite_f h hb27
        refine WE.skip ?_
        refine WE.seq ?_
        refine WE.reg ?_
        refine LE.p (v := (Value.pointer r14)) (Wn.no rfl) rfl (R.move f25) ?_
        obtain ⟨a28, h29, h⟩ := h
        refine LE.p (v := (Value.pointer (some a28))) (Wn.no rfl) rfl (R.nilC (congrArg Value.pointer h29)) ?_
        refine LE.p (v := (Value.pointer (some (a28.add 3)))) (Wn.no rfl) rfl (R.fld (off := 3) fa83_2 rfl) ?_
        obtain ⟨t30, h31, h⟩ := h
        refine LE.r (v := (Value.int .i64 t30)) (Wn.no rfl) rfl (R.ld sc3 rfl h31) ?_
        refine LE.p (v := (Value.int .i64 t30)) (Wn.no rfl) rfl (R.assign rfl) ?_
        refine LE.p (v := (Value.bool true)) (Wn.no rfl) rfl (R.assign rfl) ?_
        refine LE.nil ?_
        refine WE.ret ?_
        exact ⟨_, (Res.tmp rfl (Res.tmp rfl Res.nil)), _, _, rfl, h⟩
end Go.Proofs.Ytnfmkedblnajlaa
