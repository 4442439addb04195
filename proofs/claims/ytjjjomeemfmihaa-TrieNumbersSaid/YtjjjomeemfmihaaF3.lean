/-
  Printed by gen.py: the formula of each function, and that it holds of the function.
-/
import Derived.Test.YtjjjomeemfmihaaTy
namespace Go.Proofs.Ytjjjomeemfmihaa
set_option linter.unusedVariables false
set_option linter.unusedSimpArgs false
open Go.Sp
set_option linter.unusedVariables false
/-- The formula of signpost.signpostref1.Half. -/
def F23 (p0_0 : Int) (p0_1 : Int) (p1 : Bool) (K : Int → Int → Bool → World → Prop) (w0 : World) : Prop :=
M.new (.cells #[(Value.int .u32 p0_0), (Value.int .i64 p0_1)] 27) w0 fun b2 w1 =>
M.new (.cells #[(Value.int .u32 (0 : Int)), (Value.int .i64 (0 : Int))] 27) w1 fun b4 w3 =>
M.join (fun (x6 : Bool) (w17 : World) => 
M.ite x6 (
M.stA b4 [(Value.int .u32 (0 : Int)), (Value.int .i64 (0 : Int))] w17 fun w23 =>
M.ld (Value.int .u32) b4 w23 fun t25 =>
M.ld (Value.int .i64) (b4.add 1) w23 fun t27 =>
K t25 t27 false w23) (
M.ld (Value.int .i64) (b2.add 1) w17 fun t29 =>
M.st (b2.add 1) (Value.int .i64 (IntKind.i64.wrap (t29 + (1 : Int)))) w17 fun w31 =>
M.join (fun (w45 : World) => 
M.ld (Value.int .u32) b2 w45 fun t48 =>
M.ld (Value.int .i64) (b2.add 1) w45 fun t50 =>
M.stA b4 [(Value.int .u32 t48), (Value.int .i64 t50)] w45 fun w52 =>
M.ld (Value.int .u32) b4 w52 fun t54 =>
M.ld (Value.int .i64) (b4.add 1) w52 fun t56 =>
K t54 t56 true w52) fun J34 => 
M.ite p1 (
M.ld (Value.int .u32) b2 w31 fun t36 =>
M.ld (Value.int .i64) (b2.add 1) w31 fun t38 =>
M.sh (IntKind.u64.wrap (IntKind.i64.wrap ((32 : Int) - t38))) <|
M.st b2 (Value.int .u32 (bOr .u32 t36 (bShl .u32 (1 : Int) (IntKind.u64.wrap (IntKind.i64.wrap ((32 : Int) - t38)))))) w31 fun w41 =>
J34 w41) (
J34 w31))) fun J5 => 
M.ld (Value.int .u32) b2 w3 fun t7 =>
M.ld (Value.int .i64) (b2.add 1) w3 fun t9 =>
Calls Try.prog 32 #[(Value.agg #[(Value.int .u32 t7), (Value.int .i64 t9)])] w3 (R32 fun r11 w12 =>
M.ite (!r11) (
J5 true w12) (
M.ld (Value.int .i64) (b2.add 1) w12 fun t14 =>
J5 (t14 == (32 : Int)) w12))
theorem F23_ok {w0 : World} {p0_0 : Int} {p0_1 : Int} {p1 : Bool} {K : Int → Int → Bool → World → Prop} (h : F23 p0_0 p0_1 p1 K w0) : Calls Try.prog 23 #[(Value.agg #[(Value.int .u32 p0_0), (Value.int .i64 p0_1)]), (Value.bool p1)] w0 (R23 K) := by
  refine calls_of_WE (args := [(Value.agg #[(Value.int .u32 p0_0), (Value.int .i64 p0_1)]), (Value.bool p1)]) (rs := [.cell 4 27, .tmp 5]) Try.func23 rfl (N := 30) rfl rfl rfl rfl ?_
  refine WE.seq ?_
  refine WE.reg ?_
  obtain ⟨b2, hpb2, w1, hww1, h⟩ := M.new_use h
  refine LE.r (v := (Value.pointer (some b2))) (Wn.no rfl) rfl (R.box (cs := #[(Value.int .u32 p0_0), (Value.int .i64 p0_1)]) rfl rfl hpb2 hww1) ?_
  obtain ⟨b4, hpb4, w3, hww3, h⟩ := M.new_use h
  refine LE.r (v := (Value.pointer (some b4))) (Wn.no rfl) rfl (R.alloc (cs := #[(Value.int .u32 (0 : Int)), (Value.int .i64 (0 : Int))]) ze27 rfl hpb4 hww3) ?_
  refine LE.p (v := (Value.bool false)) (Wn.no rfl) rfl (R.assign rfl) ?_
  refine LE.nil ?_
  refine WE.seq ?_
  refine WE.seq ?_
  obtain ⟨J5, hJ5, h⟩ := M.join_use h
  refine WE.regJ (fun e w => ∃ (x6 : Bool), J5 x6 w ∧ e 1 = (Value.bool p1) ∧ e 2 = (Value.pointer (some b2)) ∧ e 4 = (Value.pointer (some b4)) ∧ e 13 = (Value.bool x6)) ?_ ?_
  · clear hJ5
    obtain ⟨t7, h8, h⟩ := h
    obtain ⟨t9, h10, h⟩ := h
    refine LE.r (v := (Value.agg #[(Value.int .u32 t7), (Value.int .i64 t9)])) (Wn.no rfl) rfl (R.ldA ag27 sz27 rfl rfl (Cs.cons h8 (Cs.cons h10 Cs.nil))) ?_
    refine LE.c (Wn.no rfl) rfl (R.call bd32 (Ls.cons rfl Ls.nil) rfl) (Calls.mono h ?_)
    rintro _ w12 ⟨r11, rfl, h⟩
    refine ⟨_, rfl, ?_⟩
    refine LE.p (v := (Value.bool (!r11))) (Wn.no rfl) rfl (R.not rfl) ?_
    refine LE.p (v := (Value.bool (!r11))) (Wn.no rfl) rfl (R.move rfl) ?_
    rcases M.ite_use h with ⟨hb13, h⟩ | ⟨hb13, h⟩
    · refine LE.u (Un.no 3 9 false rfl rfl rfl (congrArg Value.bool hb13)) ?_
      refine LE.u (Un.no 3 9 false rfl rfl rfl (congrArg Value.bool hb13)) ?_
      refine LE.u (Un.no 3 9 false rfl rfl rfl (congrArg Value.bool hb13)) ?_
      refine LE.p (v := (Value.bool true)) (Wn.no rfl) rfl (R.pickT (congrArg Value.bool hb13) rfl) ?_
      refine LE.nil ?_
      exact ⟨_, h, rfl, rfl, rfl, rfl⟩
    · refine LE.p (v := (Value.pointer (some (b2.add 1)))) (Wn.yes 3 9 false rfl rfl rfl (congrArg Value.bool hb13)) rfl (R.fld (off := 1) fa27_1 rfl) ?_
      obtain ⟨t14, h15, h⟩ := h
      refine LE.r (v := (Value.int .i64 t14)) (Wn.yes 3 9 false rfl rfl rfl (congrArg Value.bool hb13)) rfl (R.ld sc3 rfl h15) ?_
      refine LE.p (v := (Value.bool (t14 == (32 : Int)))) (Wn.yes 3 9 false rfl rfl rfl (congrArg Value.bool hb13)) rfl (R.eql rfl rfl) ?_
      refine LE.p (v := (Value.bool (t14 == (32 : Int)))) (Wn.no rfl) rfl (R.pickF (congrArg Value.bool hb13) rfl) ?_
      refine LE.nil ?_
      exact ⟨_, h, rfl, rfl, rfl, rfl⟩
  · rintro e16 w17 ⟨x6, h, f18, f19, f20, f21⟩
    subst hJ5
    refine WE.condT rfl (b := x6) f21 ?_ ?_
    · intro hb22
      replace h := M.ite_t h hb22
      refine WE.seq ?_
      refine WE.reg ?_
      refine LE.p (v := (Value.agg #[(Value.int .u32 (0 : Int)), (Value.int .i64 (0 : Int))])) (Wn.no rfl) rfl (R.bld (by exact Ls.nil) (fun w => bu27_  w)) ?_
      obtain ⟨w23, hww23, h24, h⟩ := M.stA_use h
      refine LE.s (Wn.no rfl) rfl (R.stA (a := b4) [(Value.int .u32 (0 : Int)), (Value.int .i64 (0 : Int))] sz27 f20 rfl rfl (by simp [Value.oneCell']) h24 hww23) ?_
      refine LE.p (v := (Value.bool false)) (Wn.no rfl) rfl (R.assign rfl) ?_
      refine LE.nil ?_
      refine WE.ret ?_
      obtain ⟨t25, h26, h⟩ := h
      obtain ⟨t27, h28, h⟩ := h
      exact ⟨_, (Res.cell f20 (R.ldCellA ag27 sz27 rfl (Cs.cons h26 (Cs.cons h28 Cs.nil))) (Res.tmp rfl Res.nil)), _, _, _, rfl, h⟩
    · intro hb22
      replace h := M.ite_f h hb22
      refine WE.skip ?_
      refine WE.seq ?_
      refine WE.reg ?_
      refine LE.p (v := (Value.pointer (some (b2.add 1)))) (Wn.no rfl) rfl (R.fld (off := 1) fa27_1 f19) ?_
      obtain ⟨t29, h30, h⟩ := h
      refine LE.r (v := (Value.int .i64 t29)) (Wn.no rfl) rfl (R.ld sc3 rfl h30) ?_
      refine LE.p (v := (Value.int .i64 (IntKind.i64.wrap (t29 + (1 : Int))))) (Wn.no rfl) rfl (R.add rfl rfl) ?_
      refine LE.p (v := (Value.pointer (some (b2.add 1)))) (Wn.no rfl) rfl (R.fld (off := 1) fa27_1 f19) ?_
      obtain ⟨w31, hww31, h32, h33, h⟩ := M.st_use h
      refine LE.s (Wn.no rfl) rfl (R.st (a := (b2.add 1)) (v := (Value.int .i64 (IntKind.i64.wrap (t29 + (1 : Int))))) sz3 rfl rfl rfl rfl h32 h33 hww31) ?_
      refine LE.nil ?_
      obtain ⟨J34, hJ34, h⟩ := M.join_use h
      refine WE.join (fun e w => J34 w ∧ e 2 = (Value.pointer (some b2)) ∧ e 4 = (Value.pointer (some b4))) ?_ ?_
      · clear hJ34
        refine WE.seq ?_
        refine WE.reg ?_
        refine LE.p (v := (Value.bool p1)) (Wn.no rfl) rfl (R.move f18) ?_
        refine LE.nil ?_
        refine WE.condT rfl (b := p1) rfl ?_ ?_
        · intro hb35
          replace h := M.ite_t h hb35
          refine WE.reg ?_
          refine LE.p (v := (Value.pointer (some b2))) (Wn.no rfl) rfl (R.fld (off := 0) fa27_0 f19) ?_
          obtain ⟨t36, h37, h⟩ := h
          refine LE.r (v := (Value.int .u32 t36)) (Wn.no rfl) rfl (R.ld sc25 rfl h37) ?_
          refine LE.p (v := (Value.pointer (some (b2.add 1)))) (Wn.no rfl) rfl (R.fld (off := 1) fa27_1 f19) ?_
          obtain ⟨t38, h39, h⟩ := h
          refine LE.r (v := (Value.int .i64 t38)) (Wn.no rfl) rfl (R.ld sc3 rfl h39) ?_
          refine LE.p (v := (Value.int .i64 (IntKind.i64.wrap ((32 : Int) - t38)))) (Wn.no rfl) rfl (R.sub rfl rfl) ?_
          refine LE.p (v := (Value.int .u64 (IntKind.u64.wrap (IntKind.i64.wrap ((32 : Int) - t38))))) (Wn.no rfl) rfl (R.conv in66 in3 rfl) ?_
          obtain ⟨h40, h⟩ := h
          refine LE.p (v := (Value.int .u32 (bShl .u32 (1 : Int) (IntKind.u64.wrap (IntKind.i64.wrap ((32 : Int) - t38)))))) (Wn.no rfl) rfl (R.shl rfl rfl h40) ?_
          refine LE.p (v := (Value.int .u32 (bOr .u32 t36 (bShl .u32 (1 : Int) (IntKind.u64.wrap (IntKind.i64.wrap ((32 : Int) - t38))))))) (Wn.no rfl) rfl (R.or rfl rfl) ?_
          refine LE.p (v := (Value.pointer (some b2))) (Wn.no rfl) rfl (R.fld (off := 0) fa27_0 f19) ?_
          obtain ⟨w41, hww41, h42, h43, h⟩ := M.st_use h
          refine LE.s (Wn.no rfl) rfl (R.st (a := b2) (v := (Value.int .u32 (bOr .u32 t36 (bShl .u32 (1 : Int) (IntKind.u64.wrap (IntKind.i64.wrap ((32 : Int) - t38))))))) sz25 rfl rfl rfl rfl h42 h43 hww41) ?_
          refine LE.nil ?_
          exact ⟨h, f19, f20⟩
        · intro hb35
          replace h := M.ite_f h hb35
          refine WE.skip ?_
          exact ⟨h, f19, f20⟩
      · rintro e44 w45 ⟨h, f46, f47⟩
        subst hJ34
        refine WE.seq ?_
        refine WE.reg ?_
        obtain ⟨t48, h49, h⟩ := h
        obtain ⟨t50, h51, h⟩ := h
        refine LE.r (v := (Value.agg #[(Value.int .u32 t48), (Value.int .i64 t50)])) (Wn.no rfl) rfl (R.ldA ag27 sz27 f46 rfl (Cs.cons h49 (Cs.cons h51 Cs.nil))) ?_
        obtain ⟨w52, hww52, h53, h⟩ := M.stA_use h
        refine LE.s (Wn.no rfl) rfl (R.stA (a := b4) [(Value.int .u32 t48), (Value.int .i64 t50)] sz27 f47 rfl rfl (by simp [Value.oneCell']) h53 hww52) ?_
        refine LE.p (v := (Value.bool true)) (Wn.no rfl) rfl (R.assign rfl) ?_
        refine LE.nil ?_
        refine WE.ret ?_
        obtain ⟨t54, h55, h⟩ := h
        obtain ⟨t56, h57, h⟩ := h
        exact ⟨_, (Res.cell f47 (R.ldCellA ag27 sz27 rfl (Cs.cons h55 (Cs.cons h57 Cs.nil))) (Res.tmp rfl Res.nil)), _, _, _, rfl, h⟩
/-- The formula of (*signpost.trie.Trie).Below. -/
def F24 (p0 : Option Addr) (p1_0 : Int) (p1_1 : Int) (K : SV → World → Prop) (w0 : World) : Prop :=
M.new (.cells #[(Value.int .u32 p1_0), (Value.int .i64 p1_1)] 27) w0 fun b2 w1 =>
M.ld (Value.int .u32) b2 w1 fun t3 =>
M.ld (Value.int .i64) (b2.add 1) w1 fun t5 =>
Calls Try.prog 29 #[(Value.agg #[(Value.int .u32 t3), (Value.int .i64 t5)])] w1 (R29 fun r7 w8 =>
M.ite (!r7) (
K SV.nil w8) (
M.drew w8 fun w10 => 
M.ld (Value.int .u32) b2 w10 fun t11 =>
M.ld (Value.int .i64) (b2.add 1) w10 fun t13 =>
M.ld (Value.int .u32) b2 w10 fun t15 =>
M.ld (Value.int .i64) (b2.add 1) w10 fun t17 =>
Calls Try.prog 31 #[(Value.pointer p0), (Value.agg #[(Value.int .u32 t11), (Value.int .i64 t13)])] w10 (R31 fun r19 w20 =>
M.keep (w20.cell? b2 = some (Value.int .u32 t15)) <|
M.keep (w20.cell? (b2.add 1) = some (Value.int .i64 t17)) <|
Calls Try.prog 35 #[(Value.pointer r19), (Value.agg #[(Value.int .u32 t15), (Value.int .i64 t17)]), (SV.v SV.nil)] w20 (R35 fun r23 w24 =>
K r23 w24))))
theorem F24_ok {w0 : World} {p0 : Option Addr} {p1_0 : Int} {p1_1 : Int} {K : SV → World → Prop} (h : F24 p0 p1_0 p1_1 K w0) : Calls Try.prog 24 #[(Value.pointer p0), (Value.agg #[(Value.int .u32 p1_0), (Value.int .i64 p1_1)])] w0 (R24 K) := by
  refine calls_of_WE (args := [(Value.pointer p0), (Value.agg #[(Value.int .u32 p1_0), (Value.int .i64 p1_1)])]) (rs := [.tmp 4]) Try.func24 rfl (N := 13) rfl rfl rfl rfl ?_
  refine WE.seq ?_
  refine WE.reg ?_
  obtain ⟨b2, hpb2, w1, hww1, h⟩ := M.new_use h
  refine LE.r (v := (Value.pointer (some b2))) (Wn.no rfl) rfl (R.box (cs := #[(Value.int .u32 p1_0), (Value.int .i64 p1_1)]) rfl rfl hpb2 hww1) ?_
  refine LE.p (v := (SV.v SV.nil)) (Wn.no rfl) rfl (R.assign rfl) ?_
  refine LE.nil ?_
  refine WE.seq ?_
  refine WE.seq ?_
  refine WE.reg ?_
  obtain ⟨t3, h4, h⟩ := h
  obtain ⟨t5, h6, h⟩ := h
  refine LE.r (v := (Value.agg #[(Value.int .u32 t3), (Value.int .i64 t5)])) (Wn.no rfl) rfl (R.ldA ag27 sz27 rfl rfl (Cs.cons h4 (Cs.cons h6 Cs.nil))) ?_
  refine LE.c (Wn.no rfl) rfl (R.call bd29 (Ls.cons rfl Ls.nil) rfl) (Calls.mono h ?_)
  rintro _ w8 ⟨r7, rfl, h⟩
  refine ⟨_, rfl, ?_⟩
  refine LE.p (v := (Value.bool (!r7))) (Wn.no rfl) rfl (R.not rfl) ?_
  refine LE.nil ?_
  refine WE.condT rfl (b := (!r7)) rfl ?_ ?_
  · intro hb9
    replace h := M.ite_t h hb9
    refine WE.seq ?_
    refine WE.reg ?_
    refine LE.p (v := (SV.v SV.nil)) (Wn.no rfl) rfl (R.assign rfl) ?_
    refine LE.nil ?_
    refine WE.ret ?_
    exact ⟨_, (Res.tmp rfl Res.nil), _, rfl, h⟩
  · intro hb9
    replace h := M.ite_f h hb9
    refine WE.skip ?_
    refine WE.seq ?_
    refine WE.draw mix ?_
    obtain ⟨w10, hww10, h⟩ := M.drew_use h
    rw [← hww10]
    clear hww10
    refine DE.t 0 (v := (Value.pointer p0)) rfl (by kernel_rfl) (Wn.no rfl) rfl (R.move rfl) ?_
    obtain ⟨t11, h12, h⟩ := h
    obtain ⟨t13, h14, h⟩ := h
    refine DE.hold 1 (fun w => w.cell? b2 = some (Value.int .u32 t11) ∧ w.cell? (b2.add 1) = some (Value.int .i64 t13)) (v := (Value.agg #[(Value.int .u32 t11), (Value.int .i64 t13)])) rfl (by kernel_rfl) (Wn.no rfl) rfl ⟨h12, h14⟩ (fun w hs => R.ldA ag27 sz27 rfl rfl (Cs.cons hs.1 (Cs.cons hs.2 Cs.nil))) ?_
    obtain ⟨t15, h16, h⟩ := h
    obtain ⟨t17, h18, h⟩ := h
    refine DE.hold 3 (fun w => w.cell? b2 = some (Value.int .u32 t15) ∧ w.cell? (b2.add 1) = some (Value.int .i64 t17)) (v := (Value.agg #[(Value.int .u32 t15), (Value.int .i64 t17)])) rfl (by kernel_rfl) (Wn.no rfl) rfl ⟨h16, h18⟩ (fun w hs => R.ldA ag27 sz27 rfl rfl (Cs.cons hs.1 (Cs.cons hs.2 Cs.nil))) ?_
    refine DE.main 2 (by kernel_rfl) ?_
    refine One.c 2 rfl (Wn.no rfl) rfl (R.call bd31 (Ls.cons rfl (Ls.cons rfl Ls.nil)) rfl) (Calls.mono h ?_)
    rintro _ w20 ⟨r19, rfl, h⟩
    obtain ⟨k21, h⟩ := h
    obtain ⟨k22, h⟩ := h
    refine ⟨_, rfl, ⟨fun _ => ⟨k21, k22⟩, aftT (by kernel_rfl), trivial⟩, ?_⟩
    refine DE.main 4 (by kernel_rfl) ?_
    refine One.c 4 rfl (Wn.no rfl) rfl (R.call bd35 (Ls.cons rfl (Ls.cons rfl (Ls.cons rfl Ls.nil))) rfl) (Calls.mono h ?_)
    rintro _ w24 ⟨r23, rfl, h⟩
    refine ⟨_, rfl, ⟨aftT (by kernel_rfl), aftT (by kernel_rfl), trivial⟩, ?_⟩
    refine DE.t 5 (v := (SV.v r23)) rfl (by kernel_rfl) (Wn.no rfl) rfl (R.assign rfl) ?_
    refine DE.done (by kernel_rfl) ?_
    refine WE.ret ?_
    exact ⟨_, (Res.tmp rfl Res.nil), _, rfl, h⟩
/-- The formula of (*signpost.trie.Trie).Cut. -/
def F25 (p0 : Option Addr) (p1_0 : Int) (p1_1 : Int) (K : Bool → World → Prop) (w0 : World) : Prop :=
M.new (.cells #[(Value.int .u32 p1_0), (Value.int .i64 p1_1)] 27) w0 fun b2 w1 =>
M.ld (Value.int .u32) b2 w1 fun t3 =>
M.ld (Value.int .i64) (b2.add 1) w1 fun t5 =>
Calls Try.prog 15 #[(Value.pointer p0), (Value.agg #[(Value.int .u32 t3), (Value.int .i64 t5)])] w1 (R15 fun r7 r8 w9 =>
M.ite (!r8) (
K false w9) (
M.nil p0 fun a11 =>
M.ld (Value.int .i64) (b2.add 1) w9 fun t13 =>
M.loop3 (fun (J18 : SV → Option Addr → Int → World → Prop) (x15 : SV) (x16 : Option Addr) (x17 : Int) (w19 : World) => 
M.ite (decide (x17 < t13)) (
M.new (.cells #[(Value.pointer x16)] 60) w19 fun b35 w33 =>
M.app Try.prog 72 72 72 x15 (SV.v (SV.mk (some b35) 1 1)) w33 fun s36 w37 =>
M.drew w37 fun w39 => 
M.nil x16 fun a40 =>
M.ld (Value.int .u32) b2 w39 fun t42 =>
Calls Try.prog 30 #[(Value.int .u32 t42), (Value.int .i64 x17)] w39 (R30 fun r44 w45 =>
M.inb r44 2 <|
M.ld Value.pointer (a40.add (r44.toNat * 1)) w45 fun t48 =>
J18 s36 t48 (IntKind.i64.wrap (x17 + (1 : Int))) w45)) (
M.nil x16 fun a50 =>
M.st (a50.add 2) (Value.bool false) w19 fun w52 =>
M.nil x16 fun a55 =>
M.st (a55.add 3) (Value.int .i64 (0 : Int)) w52 fun w57 =>
M.nil p0 fun a60 =>
M.ld (Value.int .i64) (a60.add 4) w57 fun t62 =>
M.nil p0 fun a64 =>
M.st (a64.add 4) (Value.int .i64 (IntKind.i64.wrap (t62 - (1 : Int)))) w57 fun w66 =>
M.ld (Value.int .i64) (b2.add 1) w66 fun t69 =>
M.join (fun (w118 : World) => 
K true w118) fun J71 => 
M.loop1 (fun (J73 : Int → World → Prop) (x72 : Int) (w74 : World) => 
M.ite (decide ((0 : Int) ≤ x72)) (
M.ld (Value.int .u32) b2 w74 fun t85 =>
Calls Try.prog 30 #[(Value.int .u32 t85), (Value.int .i64 x72)] w74 (R30 fun r87 w88 =>
M.idx x15 x72 1 fun a89 =>
M.ld Value.pointer (a89.add (x72.toNat * 1)) w88 fun t93 =>
M.nil t93 fun a95 =>
M.inb r87 2 <|
M.ld Value.pointer (a95.add (r87.toNat * 1)) w88 fun t99 =>
Calls Try.prog 36 #[(Value.pointer t99)] w88 (R36 fun r101 w102 =>
M.ite (!r101) (
J71 w102) (
M.idx x15 x72 1 fun a104 =>
M.ld Value.pointer (a104.add (x72.toNat * 1)) w102 fun t108 =>
M.nil t108 fun a110 =>
M.inb r87 2 <|
M.st (a110.add (r87.toNat * 1)) (Value.pointer (none : Option Addr)) w102 fun w114 =>
J73 (IntKind.i64.wrap (x72 - (1 : Int))) w114)))) (
J71 w74)) (IntKind.i64.wrap (t69 - (1 : Int))) w66)) SV.nil (some a11) (0 : Int) w9))
theorem F25_ok {w0 : World} {p0 : Option Addr} {p1_0 : Int} {p1_1 : Int} {K : Bool → World → Prop} (h : F25 p0 p1_0 p1_1 K w0) : Calls Try.prog 25 #[(Value.pointer p0), (Value.agg #[(Value.int .u32 p1_0), (Value.int .i64 p1_1)])] w0 (R25 K) := by
  refine calls_of_WE (args := [(Value.pointer p0), (Value.agg #[(Value.int .u32 p1_0), (Value.int .i64 p1_1)])]) (rs := [.tmp 4]) Try.func25 rfl (N := 85) rfl rfl rfl rfl ?_
  refine WE.seq ?_
  refine WE.reg ?_
  obtain ⟨b2, hpb2, w1, hww1, h⟩ := M.new_use h
  refine LE.r (v := (Value.pointer (some b2))) (Wn.no rfl) rfl (R.box (cs := #[(Value.int .u32 p1_0), (Value.int .i64 p1_1)]) rfl rfl hpb2 hww1) ?_
  refine LE.p (v := (Value.bool false)) (Wn.no rfl) rfl (R.assign rfl) ?_
  refine LE.nil ?_
  refine WE.scope ?_
  refine WE.seq ?_
  refine WE.seq ?_
  refine WE.reg ?_
  refine LE.p (v := (Value.pointer p0)) (Wn.no rfl) rfl (R.move rfl) ?_
  obtain ⟨t3, h4, h⟩ := h
  obtain ⟨t5, h6, h⟩ := h
  refine LE.r (v := (Value.agg #[(Value.int .u32 t3), (Value.int .i64 t5)])) (Wn.no rfl) rfl (R.ldA ag27 sz27 rfl rfl (Cs.cons h4 (Cs.cons h6 Cs.nil))) ?_
  refine LE.c (Wn.no rfl) rfl (R.call bd15 (Ls.cons rfl (Ls.cons rfl Ls.nil)) rfl) (Calls.mono h ?_)
  rintro _ w9 ⟨r7, r8, rfl, h⟩
  refine ⟨_, rfl, ?_⟩
  refine LE.p (v := (Value.tuple #[(Value.int .i64 r7), (Value.bool r8)])) (Wn.no rfl) rfl (R.move rfl) ?_
  refine LE.p (v := (Value.int .i64 r7)) (Wn.no rfl) rfl (R.ext rfl rfl) ?_
  refine LE.p (v := (Value.bool r8)) (Wn.no rfl) rfl (R.ext rfl rfl) ?_
  refine LE.p (v := (Value.int .i64 r7)) (Wn.no rfl) rfl (R.assign rfl) ?_
  refine LE.p (v := (Value.bool r8)) (Wn.no rfl) rfl (R.assign rfl) ?_
  refine LE.nil ?_
  refine WE.seq ?_
  refine WE.reg ?_
  refine LE.p (v := (Value.bool r8)) (Wn.no rfl) rfl (R.move rfl) ?_
  refine LE.p (v := (Value.bool (!r8))) (Wn.no rfl) rfl (R.not rfl) ?_
  refine LE.nil ?_
  refine WE.condT rfl (b := (!r8)) rfl ?_ ?_
  · intro hb10
    replace h := M.ite_t h hb10
    refine WE.seq ?_
    refine WE.reg ?_
    refine LE.p (v := (Value.bool false)) (Wn.no rfl) rfl (R.assign rfl) ?_
    refine LE.nil ?_
    refine WE.ret ?_
    exact ⟨_, (Res.tmp rfl Res.nil), _, rfl, h⟩
  · intro hb10
    replace h := M.ite_f h hb10
    refine WE.skip ?_
    refine WE.seq ?_
    refine WE.reg ?_
    refine LE.p (v := (SV.v SV.nil)) (Wn.no rfl) rfl (R.assign rfl) ?_
    refine LE.nil ?_
    refine WE.seq ?_
    refine WE.reg ?_
    refine LE.p (v := (Value.pointer p0)) (Wn.no rfl) rfl (R.move rfl) ?_
    obtain ⟨a11, h12, h⟩ := h
    refine LE.p (v := (Value.pointer (some a11))) (Wn.no rfl) rfl (R.nilC (congrArg Value.pointer h12)) ?_
    refine LE.p (v := (Value.pointer (some a11))) (Wn.no rfl) rfl (R.fld (off := 0) fa65_0 rfl) ?_
    refine LE.p (v := (Value.pointer (some a11))) (Wn.no rfl) rfl (R.assign rfl) ?_
    refine LE.nil ?_
    refine WE.seq ?_
    refine WE.seq ?_
    refine WE.reg ?_
    refine LE.p (v := (Value.pointer (some (b2.add 1)))) (Wn.no rfl) rfl (R.fld (off := 1) fa27_1 rfl) ?_
    obtain ⟨t13, h14, h⟩ := h
    refine LE.r (v := (Value.int .i64 t13)) (Wn.no rfl) rfl (R.ld sc3 rfl h14) ?_
    refine LE.p (v := (Value.int .i64 (0 : Int))) (Wn.no rfl) rfl (R.move rfl) ?_
    refine LE.nil ?_
    refine WE.block ?_
    obtain ⟨I22, ⟨n21, h⟩, hr23⟩ := h
    refine WE.loop (fun n e w => ∃ (x15 : SV) (x16 : Option Addr) (x17 : Int), I22 n x15 x16 x17 w ∧ e 0 = (Value.pointer p0) ∧ e 3 = (Value.pointer (some b2)) ∧ e 7 = (SV.v x15) ∧ e 8 = (Value.pointer x16) ∧ e 24 = (Value.int .i64 t13) ∧ e 25 = (Value.int .i64 x17)) n21 ⟨_, _, _, h, rfl, rfl, rfl, rfl, rfl, rfl⟩ ?_
    clear h
    rintro n21 e20 w19 ⟨x15, x16, x17, h, f26, f27, f28, f29, f30, f31⟩
    replace h := hr23 n21 x15 x16 x17 w19 h
    refine WE.seq ?_
    refine WE.reg ?_
    refine LE.p (v := (Value.bool (decide (x17 < t13)))) (Wn.no rfl) rfl (R.lss f31 f30) ?_
    refine LE.nil ?_
    refine WE.seq ?_
    refine WE.condT rfl (b := (decide (x17 < t13))) rfl ?_ ?_
    · intro hb32
      replace h := M.ite_t h hb32
      refine WE.skip ?_
      refine WE.seq ?_
      refine WE.block ?_
      refine WE.seq ?_
      refine WE.reg ?_
      refine LE.p (v := (Value.int .i64 x17)) (Wn.no rfl) rfl (R.move f31) ?_
      refine LE.p (v := (Value.int .i64 x17)) (Wn.no rfl) rfl (R.assign rfl) ?_
      refine LE.nil ?_
      refine WE.seq ?_
      refine WE.reg ?_
      refine LE.p (v := (SV.v x15)) (Wn.no rfl) rfl (R.move f28) ?_
      refine LE.p (v := (Value.pointer x16)) (Wn.no rfl) rfl (R.move f29) ?_
      obtain ⟨b35, hpb35, w33, hww33, h⟩ := M.new_use h
      refine LE.r (v := (SV.v (SV.mk (some b35) 1 1))) (Wn.no rfl) rfl (R.bsl (by exact (Ls.cons (R.Pr rfl) Ls.nil)) (fun w => bs72_1 x16 w) hpb35 hww33) ?_
      obtain ⟨s36, w37, h38, h⟩ := h
      refine LE.r (v := (SV.v s36)) (Wn.no rfl) rfl (R.app (s := x15) (r := s36) rfl rfl h38) ?_
      refine LE.p (v := (SV.v s36)) (Wn.no rfl) rfl (R.assign rfl) ?_
      refine LE.nil ?_
      refine WE.draw mix ?_
      obtain ⟨w39, hww39, h⟩ := M.drew_use h
      rw [← hww39]
      clear hww39
      refine DE.t 0 (v := (Value.pointer x16)) rfl (by kernel_rfl) (Wn.no rfl) rfl (R.move f29) ?_
      refine DE.t 1 (v := (Value.pointer (some b2))) rfl (by kernel_rfl) (Wn.no rfl) rfl (R.fld (off := 0) fa27_0 f27) ?_
      refine DE.t 3 (v := (Value.int .i64 x17)) rfl (by kernel_rfl) (Wn.no rfl) rfl (R.move rfl) ?_
      obtain ⟨a40, h41, h⟩ := h
      refine DE.t 5 (v := (Value.pointer (some a40))) rfl (by kernel_rfl) (Wn.no rfl) rfl (R.nilC (congrArg Value.pointer h41)) ?_
      refine DE.t 6 (v := (Value.pointer (some a40))) rfl (by kernel_rfl) (Wn.no rfl) rfl (R.fld (off := 0) fa63_0 rfl) ?_
      obtain ⟨t42, h43, h⟩ := h
      refine DE.main 2 (by kernel_rfl) ?_
      refine One.r 2 (v := (Value.int .u32 t42)) rfl (Wn.no rfl) rfl (R.ld sc25 rfl h43) (.inl rfl) ?_
      refine DE.main 4 (by kernel_rfl) ?_
      refine One.c 4 rfl (Wn.no rfl) rfl (R.call bd30 (Ls.cons rfl (Ls.cons rfl Ls.nil)) rfl) (Calls.mono h ?_)
      rintro _ w45 ⟨r44, rfl, h⟩
      refine ⟨_, rfl, trivial, ?_⟩
      obtain ⟨h46, h47, h⟩ := h
      refine DE.t 7 (v := (Value.pointer (some (a40.add (r44.toNat * 1))))) rfl (by kernel_rfl) (Wn.no rfl) rfl (R.idxArr ar61 rfl rfl h46 h47) ?_
      obtain ⟨t48, h49, h⟩ := h
      refine DE.main 8 (by kernel_rfl) ?_
      refine One.r 8 (v := (Value.pointer t48)) rfl (Wn.no rfl) rfl (R.ld sc60 rfl h49) (.inl rfl) ?_
      refine DE.t 9 (v := (Value.pointer t48)) rfl (by kernel_rfl) (Wn.no rfl) rfl (R.assign rfl) ?_
      refine DE.done (by kernel_rfl) ?_
      refine WE.reg ?_
      refine LE.p (v := (Value.int .i64 (IntKind.i64.wrap (x17 + (1 : Int))))) (Wn.no rfl) rfl (R.add f31 rfl) ?_
      refine LE.p (v := (Value.int .i64 (IntKind.i64.wrap (x17 + (1 : Int))))) (Wn.no rfl) rfl (R.move rfl) ?_
      refine LE.nil ?_
      obtain ⟨m24, hm25, h⟩ := h
      exact ⟨m24, hm25, _, _, _, h, f26, f27, rfl, rfl, f30, rfl⟩
    · intro hb32
      replace h := M.ite_f h hb32
      refine WE.exit ?_
      refine WE.seq ?_
      refine WE.reg ?_
      refine LE.p (v := (Value.pointer x16)) (Wn.no rfl) rfl (R.move f29) ?_
      refine LE.p (v := (Value.pointer x16)) (Wn.no rfl) rfl (R.move f29) ?_
      obtain ⟨a50, h51, h⟩ := h
      refine LE.p (v := (Value.pointer (some a50))) (Wn.no rfl) rfl (R.nilC (congrArg Value.pointer h51)) ?_
      refine LE.p (v := (Value.pointer (some (a50.add 2)))) (Wn.no rfl) rfl (R.fld (off := 2) fa63_1 rfl) ?_
      obtain ⟨w52, hww52, h53, h54, h⟩ := M.st_use h
      refine LE.s (Wn.no rfl) rfl (R.st (a := (a50.add 2)) (v := (Value.bool false)) sz4 rfl rfl rfl rfl h53 h54 hww52) ?_
      obtain ⟨a55, h56, h⟩ := h
      refine LE.p (v := (Value.pointer (some a55))) (Wn.no rfl) rfl (R.nilC (congrArg Value.pointer h56)) ?_
      refine LE.p (v := (Value.pointer (some (a55.add 3)))) (Wn.no rfl) rfl (R.fld (off := 3) fa63_2 rfl) ?_
      obtain ⟨w57, hww57, h58, h59, h⟩ := M.st_use h
      refine LE.s (Wn.no rfl) rfl (R.st (a := (a55.add 3)) (v := (Value.int .i64 (0 : Int))) sz3 rfl rfl rfl rfl h58 h59 hww57) ?_
      refine LE.nil ?_
      refine WE.seq ?_
      refine WE.reg ?_
      refine LE.p (v := (Value.pointer p0)) (Wn.no rfl) rfl (R.move f26) ?_
      obtain ⟨a60, h61, h⟩ := h
      refine LE.p (v := (Value.pointer (some a60))) (Wn.no rfl) rfl (R.nilC (congrArg Value.pointer h61)) ?_
      refine LE.p (v := (Value.pointer (some (a60.add 4)))) (Wn.no rfl) rfl (R.fld (off := 4) fa65_1 rfl) ?_
      obtain ⟨t62, h63, h⟩ := h
      refine LE.r (v := (Value.int .i64 t62)) (Wn.no rfl) rfl (R.ld sc3 rfl h63) ?_
      refine LE.p (v := (Value.int .i64 (IntKind.i64.wrap (t62 - (1 : Int))))) (Wn.no rfl) rfl (R.sub rfl rfl) ?_
      obtain ⟨a64, h65, h⟩ := h
      refine LE.p (v := (Value.pointer (some a64))) (Wn.no rfl) rfl (R.nilC (congrArg Value.pointer h65)) ?_
      refine LE.p (v := (Value.pointer (some (a64.add 4)))) (Wn.no rfl) rfl (R.fld (off := 4) fa65_1 rfl) ?_
      obtain ⟨w66, hww66, h67, h68, h⟩ := M.st_use h
      refine LE.s (Wn.no rfl) rfl (R.st (a := (a64.add 4)) (v := (Value.int .i64 (IntKind.i64.wrap (t62 - (1 : Int))))) sz3 rfl rfl rfl rfl h67 h68 hww66) ?_
      refine LE.nil ?_
      refine WE.seq ?_
      refine WE.label ?_
      refine WE.seq ?_
      refine WE.seq ?_
      refine WE.reg ?_
      refine LE.p (v := (Value.pointer (some (b2.add 1)))) (Wn.no rfl) rfl (R.fld (off := 1) fa27_1 f27) ?_
      obtain ⟨t69, h70, h⟩ := h
      refine LE.r (v := (Value.int .i64 t69)) (Wn.no rfl) rfl (R.ld sc3 rfl h70) ?_
      refine LE.p (v := (Value.int .i64 (IntKind.i64.wrap (t69 - (1 : Int))))) (Wn.no rfl) rfl (R.sub rfl rfl) ?_
      refine LE.p (v := (Value.int .i64 (IntKind.i64.wrap (t69 - (1 : Int))))) (Wn.no rfl) rfl (R.assign rfl) ?_
      refine LE.nil ?_
      obtain ⟨J71, hJ71, h⟩ := M.join_use h
      refine WE.blkJ (fun e w => J71 w) ?_ ?_
      · clear hJ71
        obtain ⟨I77, ⟨n76, h⟩, hr78⟩ := h
        refine WE.loop (fun n e w => ∃ (x72 : Int), I77 n x72 w ∧ e 3 = (Value.pointer (some b2)) ∧ e 7 = (SV.v x15) ∧ e 10 = (Value.int .i64 x72)) n76 ⟨_, h, f27, f28, rfl⟩ ?_
        clear h
        rintro n76 e75 w74 ⟨x72, h, f81, f82, f83⟩
        replace h := hr78 n76 x72 w74 h
        refine WE.seq ?_
        refine WE.seq ?_
        refine WE.reg ?_
        refine LE.p (v := (Value.int .i64 x72)) (Wn.no rfl) rfl (R.move f83) ?_
        refine LE.p (v := (Value.bool (decide ((0 : Int) ≤ x72)))) (Wn.no rfl) rfl (R.geq rfl rfl) ?_
        refine LE.nil ?_
        refine WE.condT rfl (b := (decide ((0 : Int) ≤ x72))) rfl ?_ ?_
        · intro hb84
          replace h := M.ite_t h hb84
          refine WE.skip ?_
          refine WE.seq ?_
          refine WE.block ?_
          refine WE.seq ?_
          refine WE.reg ?_
          refine LE.p (v := (Value.pointer (some b2))) (Wn.no rfl) rfl (R.fld (off := 0) fa27_0 f81) ?_
          obtain ⟨t85, h86, h⟩ := h
          refine LE.r (v := (Value.int .u32 t85)) (Wn.no rfl) rfl (R.ld sc25 rfl h86) ?_
          refine LE.p (v := (Value.int .i64 x72)) (Wn.no rfl) rfl (R.move f83) ?_
          refine LE.c (Wn.no rfl) rfl (R.call bd30 (Ls.cons rfl (Ls.cons rfl Ls.nil)) rfl) (Calls.mono h ?_)
          rintro _ w88 ⟨r87, rfl, h⟩
          refine ⟨_, rfl, ?_⟩
          refine LE.p (v := (Value.int .i64 r87)) (Wn.no rfl) rfl (R.assign rfl) ?_
          refine LE.nil ?_
          refine WE.seq ?_
          refine WE.seq ?_
          refine WE.reg ?_
          refine LE.p (v := (SV.v x15)) (Wn.no rfl) rfl (R.move f82) ?_
          refine LE.p (v := (Value.int .i64 x72)) (Wn.no rfl) rfl (R.move f83) ?_
          obtain ⟨a89, h90, h91, h92, h⟩ := h
          refine LE.p (v := (Value.pointer (some (a89.add (x72.toNat * 1))))) (Wn.no rfl) rfl (R.idx (s := x15) sl72 rfl rfl h90 h91 h92) ?_
          obtain ⟨t93, h94, h⟩ := h
          refine LE.r (v := (Value.pointer t93)) (Wn.no rfl) rfl (R.ld sc60 rfl h94) ?_
          refine LE.p (v := (Value.int .i64 r87)) (Wn.no rfl) rfl (R.move rfl) ?_
          obtain ⟨a95, h96, h⟩ := h
          refine LE.p (v := (Value.pointer (some a95))) (Wn.no rfl) rfl (R.nilC (congrArg Value.pointer h96)) ?_
          refine LE.p (v := (Value.pointer (some a95))) (Wn.no rfl) rfl (R.fld (off := 0) fa63_0 rfl) ?_
          obtain ⟨h97, h98, h⟩ := h
          refine LE.p (v := (Value.pointer (some (a95.add (r87.toNat * 1))))) (Wn.no rfl) rfl (R.idxArr ar61 rfl rfl h97 h98) ?_
          obtain ⟨t99, h100, h⟩ := h
          refine LE.r (v := (Value.pointer t99)) (Wn.no rfl) rfl (R.ld sc60 rfl h100) ?_
          refine LE.c (Wn.no rfl) rfl (R.call bd36 (Ls.cons rfl Ls.nil) rfl) (Calls.mono h ?_)
          rintro _ w102 ⟨r101, rfl, h⟩
          refine ⟨_, rfl, ?_⟩
          refine LE.p (v := (Value.bool (!r101))) (Wn.no rfl) rfl (R.not rfl) ?_
          refine LE.nil ?_
          refine WE.condT rfl (b := (!r101)) rfl ?_ ?_
          · intro hb103
            replace h := M.ite_t h hb103
            refine WE.exit ?_
            exact h
          · intro hb103
            replace h := M.ite_f h hb103
            refine WE.skip ?_
            refine WE.reg ?_
            refine LE.p (v := (SV.v x15)) (Wn.no rfl) rfl (R.move f82) ?_
            refine LE.p (v := (Value.int .i64 x72)) (Wn.no rfl) rfl (R.move f83) ?_
            obtain ⟨a104, h105, h106, h107, h⟩ := h
            refine LE.p (v := (Value.pointer (some (a104.add (x72.toNat * 1))))) (Wn.no rfl) rfl (R.idx (s := x15) sl72 rfl rfl h105 h106 h107) ?_
            obtain ⟨t108, h109, h⟩ := h
            refine LE.r (v := (Value.pointer t108)) (Wn.no rfl) rfl (R.ld sc60 rfl h109) ?_
            refine LE.p (v := (Value.int .i64 r87)) (Wn.no rfl) rfl (R.move rfl) ?_
            obtain ⟨a110, h111, h⟩ := h
            refine LE.p (v := (Value.pointer (some a110))) (Wn.no rfl) rfl (R.nilC (congrArg Value.pointer h111)) ?_
            refine LE.p (v := (Value.pointer (some a110))) (Wn.no rfl) rfl (R.fld (off := 0) fa63_0 rfl) ?_
            obtain ⟨h112, h113, h⟩ := h
            refine LE.p (v := (Value.pointer (some (a110.add (r87.toNat * 1))))) (Wn.no rfl) rfl (R.idxArr ar61 rfl rfl h112 h113) ?_
            obtain ⟨w114, hww114, h115, h116, h⟩ := M.st_use h
            refine LE.s (Wn.no rfl) rfl (R.st (a := (a110.add (r87.toNat * 1))) (v := (Value.pointer (none : Option Addr))) sz60 rfl rfl rfl rfl h115 h116 hww114) ?_
            refine LE.nil ?_
            refine WE.reg ?_
            refine LE.p (v := (Value.int .i64 x72)) (Wn.no rfl) rfl (R.move f83) ?_
            refine LE.p (v := (Value.int .i64 (IntKind.i64.wrap (x72 - (1 : Int))))) (Wn.no rfl) rfl (R.sub rfl rfl) ?_
            refine LE.p (v := (Value.int .i64 (IntKind.i64.wrap (x72 - (1 : Int))))) (Wn.no rfl) rfl (R.assign rfl) ?_
            refine LE.nil ?_
            obtain ⟨m79, hm80, h⟩ := h
            exact ⟨m79, hm80, _, h, f81, f82, rfl⟩
        · intro hb84
          replace h := M.ite_f h hb84
          refine WE.exit ?_
          exact h
      · rintro e117 w118 h
        subst hJ71
        refine WE.seq ?_
        refine WE.reg ?_
        refine LE.p (v := (Value.bool true)) (Wn.no rfl) rfl (R.assign rfl) ?_
        refine LE.nil ?_
        refine WE.ret ?_
        exact ⟨_, (Res.tmp rfl Res.nil), _, rfl, h⟩
/-- The formula of signpost.signpostlaw3.do. -/
def F26 (p0 : Option Addr) (p1 : Option Addr) (p2_0 : Int) (p2_1 : Int) (p2_2 : Int) (p2_3 : Int) (p2_4 : Bool) (K : Bool → World → Prop) (w0 : World) : Prop :=
M.new (.cells #[(Value.int .i64 p2_0), (Value.int .i64 p2_1), (Value.int .i64 p2_2), (Value.int .u32 p2_3), (Value.bool p2_4)] 30) w0 fun b2 w1 =>
M.ld (Value.int .i64) b2 w1 fun t3 =>
M.ld (Value.int .i64) (b2.add 1) w1 fun t5 =>
M.ld (Value.int .i64) (b2.add 2) w1 fun t7 =>
M.ld (Value.int .u32) (b2.add 3) w1 fun t9 =>
M.ld Value.bool (b2.add 4) w1 fun t11 =>
Calls Try.prog 37 #[(Value.agg #[(Value.int .i64 t3), (Value.int .i64 t5), (Value.int .i64 t7), (Value.int .u32 t9), (Value.bool t11)])] w1 (R37 fun r13 r14 w15 =>
M.new (.cells #[(Value.int .u32 (0 : Int)), (Value.int .i64 (0 : Int))] 27) w15 fun b17 w16 =>
M.stA b17 [(Value.int .u32 r13), (Value.int .i64 r14)] w16 fun w18 =>
M.ld (Value.int .i64) b2 w18 fun t20 =>
M.ite (t20 == (1 : Int)) (
M.drew w18 fun w23 => 
M.ld (Value.int .u32) b17 w23 fun t24 =>
M.ld (Value.int .i64) (b17.add 1) w23 fun t26 =>
M.ld (Value.int .i64) (b2.add 2) w23 fun t28 =>
M.ld (Value.int .u32) b17 w23 fun t30 =>
M.ld (Value.int .i64) (b17.add 1) w23 fun t32 =>
M.ld (Value.int .i64) (b2.add 2) w23 fun t34 =>
Calls Try.prog 12 #[(Value.pointer p0), (Value.agg #[(Value.int .u32 t24), (Value.int .i64 t26)]), (Value.int .i64 t28)] w23 (R12 fun r36 w37 =>
M.keep (w37.cell? (b2.add 2) = some (Value.int .i64 t34)) <|
M.keep (w37.cell? b17 = some (Value.int .u32 t30)) <|
M.keep (w37.cell? (b17.add 1) = some (Value.int .i64 t32)) <|
Calls Try.prog 38 #[(Value.pointer p1), (Value.agg #[(Value.int .u32 t30), (Value.int .i64 t32)]), (Value.int .i64 t34)] w37 (R38 fun r41 w42 =>
K (r36 == r41) w42))) (
M.ite (t20 == (2 : Int)) (
M.drew w18 fun w44 => 
M.ld (Value.int .u32) b17 w44 fun t45 =>
M.ld (Value.int .i64) (b17.add 1) w44 fun t47 =>
M.ld (Value.int .u32) b17 w44 fun t49 =>
M.ld (Value.int .i64) (b17.add 1) w44 fun t51 =>
Calls Try.prog 25 #[(Value.pointer p0), (Value.agg #[(Value.int .u32 t45), (Value.int .i64 t47)])] w44 (R25 fun r53 w54 =>
M.keep (w54.cell? b17 = some (Value.int .u32 t49)) <|
M.keep (w54.cell? (b17.add 1) = some (Value.int .i64 t51)) <|
Calls Try.prog 39 #[(Value.pointer p1), (Value.agg #[(Value.int .u32 t49), (Value.int .i64 t51)])] w54 (R39 fun r57 w58 =>
K (r53 == r57) w58))) (
M.ite (t20 == (3 : Int)) (
M.ld (Value.int .u32) b17 w18 fun t60 =>
M.ld (Value.int .i64) (b17.add 1) w18 fun t62 =>
Calls Try.prog 15 #[(Value.pointer p0), (Value.agg #[(Value.int .u32 t60), (Value.int .i64 t62)])] w18 (R15 fun r64 r65 w66 =>
M.ld (Value.int .u32) b17 w66 fun t67 =>
M.ld (Value.int .i64) (b17.add 1) w66 fun t69 =>
Calls Try.prog 40 #[(Value.pointer p1), (Value.agg #[(Value.int .u32 t67), (Value.int .i64 t69)])] w66 (R40 fun r71 r72 w73 =>
M.join (fun (x75 : Bool) (w78 : World) => 
K x75 w78) fun J74 => 
M.ite (r64 == r71) (
J74 (r65 == r72) w73) (
J74 false w73)))) (
M.ite (t20 == (4 : Int)) (
M.ld (Value.int .u32) (b2.add 3) w18 fun t81 =>
Calls Try.prog 20 #[(Value.pointer p0), (Value.int .u32 t81)] w18 (R20 fun r83 r84 r85 r86 w87 =>
M.new (.cells #[(Value.int .u32 (0 : Int)), (Value.int .i64 (0 : Int))] 27) w87 fun b89 w88 =>
M.stA b89 [(Value.int .u32 r83), (Value.int .i64 r84)] w88 fun w90 =>
M.ld (Value.int .u32) (b2.add 3) w90 fun t92 =>
Calls Try.prog 41 #[(Value.pointer p1), (Value.int .u32 t92)] w90 (R41 fun r94 r95 r96 r97 w98 =>
M.new (.cells #[(Value.int .u32 (0 : Int)), (Value.int .i64 (0 : Int))] 27) w98 fun b100 w99 =>
M.stA b100 [(Value.int .u32 r94), (Value.int .i64 r95)] w99 fun w101 =>
M.join (fun (x104 : Bool) (w116 : World) => 
K x104 w116) fun J103 => 
M.ld (Value.int .u32) b89 w101 fun t105 =>
M.ld (Value.int .i64) (b89.add 1) w101 fun t107 =>
M.ld (Value.int .u32) b100 w101 fun t109 =>
M.ld (Value.int .i64) (b100.add 1) w101 fun t111 =>
M.ite ((t105 == t109) && (t107 == t111)) (
M.ite (r85 == r96) (
J103 (r86 == r97) w101) (
J103 false w101)) (
J103 false w101)))) (
M.join (fun (x119 : Bool) (w155 : World) => 
K x119 w155) fun J118 => 
M.drew w18 fun w120 => 
M.ld (Value.int .u32) b17 w120 fun t121 =>
M.ld (Value.int .i64) (b17.add 1) w120 fun t123 =>
M.ld (Value.int .u32) b17 w120 fun t125 =>
M.ld (Value.int .i64) (b17.add 1) w120 fun t127 =>
Calls Try.prog 22 #[(Value.pointer p0), (Value.agg #[(Value.int .u32 t121), (Value.int .i64 t123)])] w120 (R22 fun r129 w130 =>
M.keep (w130.cell? b17 = some (Value.int .u32 t125)) <|
M.keep (w130.cell? (b17.add 1) = some (Value.int .i64 t127)) <|
Calls Try.prog 42 #[(Value.pointer p1), (Value.agg #[(Value.int .u32 t125), (Value.int .i64 t127)])] w130 (R42 fun r133 w134 =>
Calls Try.prog 17 #[(SV.v r129), (SV.v r133)] w134 (R17 fun r135 w136 =>
M.ite r135 (
M.ld (Value.int .u32) b17 w136 fun t138 =>
M.ld (Value.int .i64) (b17.add 1) w136 fun t140 =>
M.ld (Value.int .u32) b17 w136 fun t142 =>
M.ld (Value.int .i64) (b17.add 1) w136 fun t144 =>
Calls Try.prog 24 #[(Value.pointer p0), (Value.agg #[(Value.int .u32 t138), (Value.int .i64 t140)])] w136 (R24 fun r146 w147 =>
M.keep (w147.cell? b17 = some (Value.int .u32 t142)) <|
M.keep (w147.cell? (b17.add 1) = some (Value.int .i64 t144)) <|
Calls Try.prog 43 #[(Value.pointer p1), (Value.agg #[(Value.int .u32 t142), (Value.int .i64 t144)])] w147 (R43 fun r150 w151 =>
Calls Try.prog 17 #[(SV.v r146), (SV.v r150)] w151 (R17 fun r152 w153 =>
J118 r152 w153)))) (
J118 false w136)))))))))
theorem F26_ok {w0 : World} {p0 : Option Addr} {p1 : Option Addr} {p2_0 : Int} {p2_1 : Int} {p2_2 : Int} {p2_3 : Int} {p2_4 : Bool} {K : Bool → World → Prop} (h : F26 p0 p1 p2_0 p2_1 p2_2 p2_3 p2_4 K w0) : Calls Try.prog 26 #[(Value.pointer p0), (Value.pointer p1), (Value.agg #[(Value.int .i64 p2_0), (Value.int .i64 p2_1), (Value.int .i64 p2_2), (Value.int .u32 p2_3), (Value.bool p2_4)])] w0 (R26 K) := by
  refine calls_of_WE (args := [(Value.pointer p0), (Value.pointer p1), (Value.agg #[(Value.int .i64 p2_0), (Value.int .i64 p2_1), (Value.int .i64 p2_2), (Value.int .u32 p2_3), (Value.bool p2_4)])]) (rs := [.tmp 6]) Try.func26 rfl (N := 113) rfl rfl rfl rfl ?_
  refine WE.seq ?_
  refine WE.reg ?_
  obtain ⟨b2, hpb2, w1, hww1, h⟩ := M.new_use h
  refine LE.r (v := (Value.pointer (some b2))) (Wn.no rfl) rfl (R.box (cs := #[(Value.int .i64 p2_0), (Value.int .i64 p2_1), (Value.int .i64 p2_2), (Value.int .u32 p2_3), (Value.bool p2_4)]) rfl rfl hpb2 hww1) ?_
  refine LE.p (v := (Value.bool false)) (Wn.no rfl) rfl (R.assign rfl) ?_
  refine LE.nil ?_
  refine WE.seq ?_
  refine WE.reg ?_
  obtain ⟨t3, h4, h⟩ := h
  obtain ⟨t5, h6, h⟩ := h
  obtain ⟨t7, h8, h⟩ := h
  obtain ⟨t9, h10, h⟩ := h
  obtain ⟨t11, h12, h⟩ := h
  refine LE.r (v := (Value.agg #[(Value.int .i64 t3), (Value.int .i64 t5), (Value.int .i64 t7), (Value.int .u32 t9), (Value.bool t11)])) (Wn.no rfl) rfl (R.ldA ag30 sz30 rfl rfl (Cs.cons h4 (Cs.cons h6 (Cs.cons h8 (Cs.cons h10 (Cs.cons h12 Cs.nil)))))) ?_
  refine LE.c (Wn.no rfl) rfl (R.call bd37 (Ls.cons rfl Ls.nil) rfl) (Calls.mono h ?_)
  rintro _ w15 ⟨r13, r14, rfl, h⟩
  refine ⟨_, rfl, ?_⟩
  obtain ⟨b17, hpb17, w16, hww16, h⟩ := M.new_use h
  refine LE.r (v := (Value.pointer (some b17))) (Wn.no rfl) rfl (R.alloc (cs := #[(Value.int .u32 (0 : Int)), (Value.int .i64 (0 : Int))]) ze27 rfl hpb17 hww16) ?_
  obtain ⟨w18, hww18, h19, h⟩ := M.stA_use h
  refine LE.s (Wn.no rfl) rfl (R.stA (a := b17) [(Value.int .u32 r13), (Value.int .i64 r14)] sz27 rfl rfl rfl (by simp [Value.oneCell']) h19 hww18) ?_
  refine LE.nil ?_
  refine WE.seq ?_
  refine WE.seq ?_
  refine WE.reg ?_
  refine LE.p (v := (Value.pointer (some b2))) (Wn.no rfl) rfl (R.fld (off := 0) fa30_0 rfl) ?_
  obtain ⟨t20, h21, h⟩ := h
  refine LE.r (v := (Value.int .i64 t20)) (Wn.no rfl) rfl (R.ld sc3 rfl h21) ?_
  refine LE.nil ?_
  refine WE.block ?_
  refine WE.seq ?_
  refine WE.reg ?_
  refine LE.p (v := (Value.bool (t20 == (1 : Int)))) (Wn.no rfl) rfl (R.eql rfl rfl) ?_
  refine LE.p (v := (Value.bool (t20 == (1 : Int)))) (Wn.no rfl) rfl (R.assign rfl) ?_
  refine LE.nil ?_
  refine WE.condT rfl (b := (t20 == (1 : Int))) rfl ?_ ?_
  · intro hb22
    replace h := M.ite_t h hb22
    refine WE.seq ?_
    refine WE.draw mix ?_
    obtain ⟨w23, hww23, h⟩ := M.drew_use h
    rw [← hww23]
    clear hww23
    refine DE.t 0 (v := (Value.pointer p0)) rfl (by kernel_rfl) (Wn.no rfl) rfl (R.move rfl) ?_
    refine DE.t 2 (v := (Value.pointer (some (b2.add 2)))) rfl (by kernel_rfl) (Wn.no rfl) rfl (R.fld (off := 2) fa30_2 rfl) ?_
    refine DE.t 5 (v := (Value.pointer p1)) rfl (by kernel_rfl) (Wn.no rfl) rfl (R.move rfl) ?_
    refine DE.t 7 (v := (Value.pointer (some (b2.add 2)))) rfl (by kernel_rfl) (Wn.no rfl) rfl (R.fld (off := 2) fa30_2 rfl) ?_
    obtain ⟨t24, h25, h⟩ := h
    obtain ⟨t26, h27, h⟩ := h
    refine DE.hold 1 (fun w => w.cell? b17 = some (Value.int .u32 t24) ∧ w.cell? (b17.add 1) = some (Value.int .i64 t26)) (v := (Value.agg #[(Value.int .u32 t24), (Value.int .i64 t26)])) rfl (by kernel_rfl) (Wn.no rfl) rfl ⟨h25, h27⟩ (fun w hs => R.ldA ag27 sz27 rfl rfl (Cs.cons hs.1 (Cs.cons hs.2 Cs.nil))) ?_
    obtain ⟨t28, h29, h⟩ := h
    refine DE.hold 3 (fun w => w.cell? (b2.add 2) = some (Value.int .i64 t28)) (v := (Value.int .i64 t28)) rfl (by kernel_rfl) (Wn.no rfl) rfl h29 (fun w hs => R.ld sc3 rfl hs) ?_
    obtain ⟨t30, h31, h⟩ := h
    obtain ⟨t32, h33, h⟩ := h
    refine DE.hold 6 (fun w => w.cell? b17 = some (Value.int .u32 t30) ∧ w.cell? (b17.add 1) = some (Value.int .i64 t32)) (v := (Value.agg #[(Value.int .u32 t30), (Value.int .i64 t32)])) rfl (by kernel_rfl) (Wn.no rfl) rfl ⟨h31, h33⟩ (fun w hs => R.ldA ag27 sz27 rfl rfl (Cs.cons hs.1 (Cs.cons hs.2 Cs.nil))) ?_
    obtain ⟨t34, h35, h⟩ := h
    refine DE.hold 8 (fun w => w.cell? (b2.add 2) = some (Value.int .i64 t34)) (v := (Value.int .i64 t34)) rfl (by kernel_rfl) (Wn.no rfl) rfl h35 (fun w hs => R.ld sc3 rfl hs) ?_
    refine DE.main 4 (by kernel_rfl) ?_
    refine One.c 4 rfl (Wn.no rfl) rfl (R.call bd12 (Ls.cons rfl (Ls.cons rfl (Ls.cons rfl Ls.nil))) rfl) (Calls.mono h ?_)
    rintro _ w37 ⟨r36, rfl, h⟩
    obtain ⟨k38, h⟩ := h
    obtain ⟨k39, h⟩ := h
    obtain ⟨k40, h⟩ := h
    refine ⟨_, rfl, ⟨fun _ => k38, fun _ => ⟨k39, k40⟩, aftT (by kernel_rfl), aftT (by kernel_rfl), trivial⟩, ?_⟩
    refine DE.main 9 (by kernel_rfl) ?_
    refine One.c 9 rfl (Wn.no rfl) rfl (R.call bd38 (Ls.cons rfl (Ls.cons rfl (Ls.cons rfl Ls.nil))) rfl) (Calls.mono h ?_)
    rintro _ w42 ⟨r41, rfl, h⟩
    refine ⟨_, rfl, ⟨aftT (by kernel_rfl), aftT (by kernel_rfl), aftT (by kernel_rfl), aftT (by kernel_rfl), trivial⟩, ?_⟩
    refine DE.t 10 (v := (Value.bool (r36 == r41))) rfl (by kernel_rfl) (Wn.no rfl) rfl (R.beql bo4 rfl rfl) ?_
    refine DE.t 11 (v := (Value.bool (r36 == r41))) rfl (by kernel_rfl) (Wn.no rfl) rfl (R.assign rfl) ?_
    refine DE.done (by kernel_rfl) ?_
    refine WE.ret ?_
    exact ⟨_, (Res.tmp rfl Res.nil), _, rfl, h⟩
  · intro hb22
    replace h := M.ite_f h hb22
    refine WE.seq ?_
    refine WE.reg ?_
    refine LE.p (v := (Value.bool (t20 == (2 : Int)))) (Wn.no rfl) rfl (R.eql rfl rfl) ?_
    refine LE.p (v := (Value.bool (t20 == (2 : Int)))) (Wn.no rfl) rfl (R.assign rfl) ?_
    refine LE.nil ?_
    refine WE.condT rfl (b := (t20 == (2 : Int))) rfl ?_ ?_
    · intro hb43
      replace h := M.ite_t h hb43
      refine WE.seq ?_
      refine WE.draw mix ?_
      obtain ⟨w44, hww44, h⟩ := M.drew_use h
      rw [← hww44]
      clear hww44
      refine DE.t 0 (v := (Value.pointer p0)) rfl (by kernel_rfl) (Wn.no rfl) rfl (R.move rfl) ?_
      refine DE.t 3 (v := (Value.pointer p1)) rfl (by kernel_rfl) (Wn.no rfl) rfl (R.move rfl) ?_
      obtain ⟨t45, h46, h⟩ := h
      obtain ⟨t47, h48, h⟩ := h
      refine DE.hold 1 (fun w => w.cell? b17 = some (Value.int .u32 t45) ∧ w.cell? (b17.add 1) = some (Value.int .i64 t47)) (v := (Value.agg #[(Value.int .u32 t45), (Value.int .i64 t47)])) rfl (by kernel_rfl) (Wn.no rfl) rfl ⟨h46, h48⟩ (fun w hs => R.ldA ag27 sz27 rfl rfl (Cs.cons hs.1 (Cs.cons hs.2 Cs.nil))) ?_
      obtain ⟨t49, h50, h⟩ := h
      obtain ⟨t51, h52, h⟩ := h
      refine DE.hold 4 (fun w => w.cell? b17 = some (Value.int .u32 t49) ∧ w.cell? (b17.add 1) = some (Value.int .i64 t51)) (v := (Value.agg #[(Value.int .u32 t49), (Value.int .i64 t51)])) rfl (by kernel_rfl) (Wn.no rfl) rfl ⟨h50, h52⟩ (fun w hs => R.ldA ag27 sz27 rfl rfl (Cs.cons hs.1 (Cs.cons hs.2 Cs.nil))) ?_
      refine DE.main 2 (by kernel_rfl) ?_
      refine One.c 2 rfl (Wn.no rfl) rfl (R.call bd25 (Ls.cons rfl (Ls.cons rfl Ls.nil)) rfl) (Calls.mono h ?_)
      rintro _ w54 ⟨r53, rfl, h⟩
      obtain ⟨k55, h⟩ := h
      obtain ⟨k56, h⟩ := h
      refine ⟨_, rfl, ⟨fun _ => ⟨k55, k56⟩, aftT (by kernel_rfl), trivial⟩, ?_⟩
      refine DE.main 5 (by kernel_rfl) ?_
      refine One.c 5 rfl (Wn.no rfl) rfl (R.call bd39 (Ls.cons rfl (Ls.cons rfl Ls.nil)) rfl) (Calls.mono h ?_)
      rintro _ w58 ⟨r57, rfl, h⟩
      refine ⟨_, rfl, ⟨aftT (by kernel_rfl), aftT (by kernel_rfl), trivial⟩, ?_⟩
      refine DE.t 6 (v := (Value.bool (r53 == r57))) rfl (by kernel_rfl) (Wn.no rfl) rfl (R.beql bo4 rfl rfl) ?_
      refine DE.t 7 (v := (Value.bool (r53 == r57))) rfl (by kernel_rfl) (Wn.no rfl) rfl (R.assign rfl) ?_
      refine DE.done (by kernel_rfl) ?_
      refine WE.ret ?_
      exact ⟨_, (Res.tmp rfl Res.nil), _, rfl, h⟩
    · intro hb43
      replace h := M.ite_f h hb43
      refine WE.seq ?_
      refine WE.reg ?_
      refine LE.p (v := (Value.bool (t20 == (3 : Int)))) (Wn.no rfl) rfl (R.eql rfl rfl) ?_
      refine LE.p (v := (Value.bool (t20 == (3 : Int)))) (Wn.no rfl) rfl (R.assign rfl) ?_
      refine LE.nil ?_
      refine WE.condT rfl (b := (t20 == (3 : Int))) rfl ?_ ?_
      · intro hb59
        replace h := M.ite_t h hb59
        refine WE.seq ?_
        refine WE.reg ?_
        refine LE.p (v := (Value.pointer p0)) (Wn.no rfl) rfl (R.move rfl) ?_
        obtain ⟨t60, h61, h⟩ := h
        obtain ⟨t62, h63, h⟩ := h
        refine LE.r (v := (Value.agg #[(Value.int .u32 t60), (Value.int .i64 t62)])) (Wn.no rfl) rfl (R.ldA ag27 sz27 rfl rfl (Cs.cons h61 (Cs.cons h63 Cs.nil))) ?_
        refine LE.c (Wn.no rfl) rfl (R.call bd15 (Ls.cons rfl (Ls.cons rfl Ls.nil)) rfl) (Calls.mono h ?_)
        rintro _ w66 ⟨r64, r65, rfl, h⟩
        refine ⟨_, rfl, ?_⟩
        refine LE.p (v := (Value.tuple #[(Value.int .i64 r64), (Value.bool r65)])) (Wn.no rfl) rfl (R.move rfl) ?_
        refine LE.p (v := (Value.int .i64 r64)) (Wn.no rfl) rfl (R.ext rfl rfl) ?_
        refine LE.p (v := (Value.bool r65)) (Wn.no rfl) rfl (R.ext rfl rfl) ?_
        refine LE.p (v := (Value.int .i64 r64)) (Wn.no rfl) rfl (R.assign rfl) ?_
        refine LE.p (v := (Value.bool r65)) (Wn.no rfl) rfl (R.assign rfl) ?_
        refine LE.nil ?_
        refine WE.seq ?_
        refine WE.reg ?_
        refine LE.p (v := (Value.pointer p1)) (Wn.no rfl) rfl (R.move rfl) ?_
        obtain ⟨t67, h68, h⟩ := h
        obtain ⟨t69, h70, h⟩ := h
        refine LE.r (v := (Value.agg #[(Value.int .u32 t67), (Value.int .i64 t69)])) (Wn.no rfl) rfl (R.ldA ag27 sz27 rfl rfl (Cs.cons h68 (Cs.cons h70 Cs.nil))) ?_
        refine LE.c (Wn.no rfl) rfl (R.call bd40 (Ls.cons rfl (Ls.cons rfl Ls.nil)) rfl) (Calls.mono h ?_)
        rintro _ w73 ⟨r71, r72, rfl, h⟩
        refine ⟨_, rfl, ?_⟩
        refine LE.p (v := (Value.tuple #[(Value.int .i64 r71), (Value.bool r72)])) (Wn.no rfl) rfl (R.move rfl) ?_
        refine LE.p (v := (Value.int .i64 r71)) (Wn.no rfl) rfl (R.ext rfl rfl) ?_
        refine LE.p (v := (Value.bool r72)) (Wn.no rfl) rfl (R.ext rfl rfl) ?_
        refine LE.p (v := (Value.int .i64 r71)) (Wn.no rfl) rfl (R.assign rfl) ?_
        refine LE.p (v := (Value.bool r72)) (Wn.no rfl) rfl (R.assign rfl) ?_
        refine LE.nil ?_
        refine WE.seq ?_
        obtain ⟨J74, hJ74, h⟩ := M.join_use h
        refine WE.regJ (fun e w => ∃ (x75 : Bool), J74 x75 w ∧ e 6 = (Value.bool x75)) ?_ ?_
        · clear hJ74
          refine LE.p (v := (Value.int .i64 r64)) (Wn.no rfl) rfl (R.move rfl) ?_
          refine LE.p (v := (Value.int .i64 r71)) (Wn.no rfl) rfl (R.move rfl) ?_
          refine LE.p (v := (Value.bool (r64 == r71))) (Wn.no rfl) rfl (R.eql rfl rfl) ?_
          refine LE.p (v := (Value.bool (r64 == r71))) (Wn.no rfl) rfl (R.move rfl) ?_
          rcases M.ite_use h with ⟨hb76, h⟩ | ⟨hb76, h⟩
          · refine LE.p (v := (Value.bool r65)) (Wn.yes 3 61 true rfl rfl rfl (congrArg Value.bool hb76)) rfl (R.move rfl) ?_
            refine LE.p (v := (Value.bool r72)) (Wn.yes 3 61 true rfl rfl rfl (congrArg Value.bool hb76)) rfl (R.move rfl) ?_
            refine LE.p (v := (Value.bool (r65 == r72))) (Wn.yes 3 61 true rfl rfl rfl (congrArg Value.bool hb76)) rfl (R.beql bo4 rfl rfl) ?_
            refine LE.p (v := (Value.bool (r65 == r72))) (Wn.no rfl) rfl (R.pickT (congrArg Value.bool hb76) rfl) ?_
            refine LE.p (v := (Value.bool (r65 == r72))) (Wn.no rfl) rfl (R.assign rfl) ?_
            refine LE.nil ?_
            exact ⟨_, h, rfl⟩
          · refine LE.u (Un.no 3 61 true rfl rfl rfl (congrArg Value.bool hb76)) ?_
            refine LE.u (Un.no 3 61 true rfl rfl rfl (congrArg Value.bool hb76)) ?_
            refine LE.u (Un.no 3 61 true rfl rfl rfl (congrArg Value.bool hb76)) ?_
            refine LE.p (v := (Value.bool false)) (Wn.no rfl) rfl (R.pickF (congrArg Value.bool hb76) rfl) ?_
            refine LE.p (v := (Value.bool false)) (Wn.no rfl) rfl (R.assign rfl) ?_
            refine LE.nil ?_
            exact ⟨_, h, rfl⟩
        · rintro e77 w78 ⟨x75, h, f79⟩
          subst hJ74
          refine WE.ret ?_
          exact ⟨_, (Res.tmp f79 Res.nil), _, rfl, h⟩
      · intro hb59
        replace h := M.ite_f h hb59
        refine WE.seq ?_
        refine WE.reg ?_
        refine LE.p (v := (Value.bool (t20 == (4 : Int)))) (Wn.no rfl) rfl (R.eql rfl rfl) ?_
        refine LE.p (v := (Value.bool (t20 == (4 : Int)))) (Wn.no rfl) rfl (R.assign rfl) ?_
        refine LE.nil ?_
        refine WE.condT rfl (b := (t20 == (4 : Int))) rfl ?_ ?_
        · intro hb80
          replace h := M.ite_t h hb80
          refine WE.seq ?_
          refine WE.reg ?_
          refine LE.p (v := (Value.pointer p0)) (Wn.no rfl) rfl (R.move rfl) ?_
          refine LE.p (v := (Value.pointer (some (b2.add 3)))) (Wn.no rfl) rfl (R.fld (off := 3) fa30_3 rfl) ?_
          obtain ⟨t81, h82, h⟩ := h
          refine LE.r (v := (Value.int .u32 t81)) (Wn.no rfl) rfl (R.ld sc25 rfl h82) ?_
          refine LE.c (Wn.no rfl) rfl (R.call bd20 (Ls.cons rfl (Ls.cons rfl Ls.nil)) rfl) (Calls.mono h ?_)
          rintro _ w87 ⟨r83, r84, r85, r86, rfl, h⟩
          refine ⟨_, rfl, ?_⟩
          refine LE.p (v := (Value.tuple #[(Value.agg #[(Value.int .u32 r83), (Value.int .i64 r84)]), (Value.int .i64 r85), (Value.bool r86)])) (Wn.no rfl) rfl (R.move rfl) ?_
          refine LE.p (v := (Value.agg #[(Value.int .u32 r83), (Value.int .i64 r84)])) (Wn.no rfl) rfl (R.ext rfl rfl) ?_
          refine LE.p (v := (Value.int .i64 r85)) (Wn.no rfl) rfl (R.ext rfl rfl) ?_
          refine LE.p (v := (Value.bool r86)) (Wn.no rfl) rfl (R.ext rfl rfl) ?_
          obtain ⟨b89, hpb89, w88, hww88, h⟩ := M.new_use h
          refine LE.r (v := (Value.pointer (some b89))) (Wn.no rfl) rfl (R.alloc (cs := #[(Value.int .u32 (0 : Int)), (Value.int .i64 (0 : Int))]) ze27 rfl hpb89 hww88) ?_
          obtain ⟨w90, hww90, h91, h⟩ := M.stA_use h
          refine LE.s (Wn.no rfl) rfl (R.stA (a := b89) [(Value.int .u32 r83), (Value.int .i64 r84)] sz27 rfl rfl rfl (by simp [Value.oneCell']) h91 hww90) ?_
          refine LE.p (v := (Value.int .i64 r85)) (Wn.no rfl) rfl (R.assign rfl) ?_
          refine LE.p (v := (Value.bool r86)) (Wn.no rfl) rfl (R.assign rfl) ?_
          refine LE.nil ?_
          refine WE.seq ?_
          refine WE.reg ?_
          refine LE.p (v := (Value.pointer p1)) (Wn.no rfl) rfl (R.move rfl) ?_
          refine LE.p (v := (Value.pointer (some (b2.add 3)))) (Wn.no rfl) rfl (R.fld (off := 3) fa30_3 rfl) ?_
          obtain ⟨t92, h93, h⟩ := h
          refine LE.r (v := (Value.int .u32 t92)) (Wn.no rfl) rfl (R.ld sc25 rfl h93) ?_
          refine LE.c (Wn.no rfl) rfl (R.call bd41 (Ls.cons rfl (Ls.cons rfl Ls.nil)) rfl) (Calls.mono h ?_)
          rintro _ w98 ⟨r94, r95, r96, r97, rfl, h⟩
          refine ⟨_, rfl, ?_⟩
          refine LE.p (v := (Value.tuple #[(Value.agg #[(Value.int .u32 r94), (Value.int .i64 r95)]), (Value.int .i64 r96), (Value.bool r97)])) (Wn.no rfl) rfl (R.move rfl) ?_
          refine LE.p (v := (Value.agg #[(Value.int .u32 r94), (Value.int .i64 r95)])) (Wn.no rfl) rfl (R.ext rfl rfl) ?_
          refine LE.p (v := (Value.int .i64 r96)) (Wn.no rfl) rfl (R.ext rfl rfl) ?_
          refine LE.p (v := (Value.bool r97)) (Wn.no rfl) rfl (R.ext rfl rfl) ?_
          obtain ⟨b100, hpb100, w99, hww99, h⟩ := M.new_use h
          refine LE.r (v := (Value.pointer (some b100))) (Wn.no rfl) rfl (R.alloc (cs := #[(Value.int .u32 (0 : Int)), (Value.int .i64 (0 : Int))]) ze27 rfl hpb100 hww99) ?_
          obtain ⟨w101, hww101, h102, h⟩ := M.stA_use h
          refine LE.s (Wn.no rfl) rfl (R.stA (a := b100) [(Value.int .u32 r94), (Value.int .i64 r95)] sz27 rfl rfl rfl (by simp [Value.oneCell']) h102 hww101) ?_
          refine LE.p (v := (Value.int .i64 r96)) (Wn.no rfl) rfl (R.assign rfl) ?_
          refine LE.p (v := (Value.bool r97)) (Wn.no rfl) rfl (R.assign rfl) ?_
          refine LE.nil ?_
          refine WE.seq ?_
          obtain ⟨J103, hJ103, h⟩ := M.join_use h
          refine WE.regJ (fun e w => ∃ (x104 : Bool), J103 x104 w ∧ e 6 = (Value.bool x104)) ?_ ?_
          · clear hJ103
            obtain ⟨t105, h106, h⟩ := h
            obtain ⟨t107, h108, h⟩ := h
            refine LE.r (v := (Value.agg #[(Value.int .u32 t105), (Value.int .i64 t107)])) (Wn.no rfl) rfl (R.ldA ag27 sz27 rfl rfl (Cs.cons h106 (Cs.cons h108 Cs.nil))) ?_
            obtain ⟨t109, h110, h⟩ := h
            obtain ⟨t111, h112, h⟩ := h
            refine LE.r (v := (Value.agg #[(Value.int .u32 t109), (Value.int .i64 t111)])) (Wn.no rfl) rfl (R.ldA ag27 sz27 rfl rfl (Cs.cons h110 (Cs.cons h112 Cs.nil))) ?_
            refine LE.p (v := (Value.bool ((t105 == t109) && (t107 == t111)))) (Wn.no rfl) rfl (R.eqS (fun w => eq27 t105 t109 t107 t111 w) sg27 rfl rfl) ?_
            refine LE.p (v := (Value.bool ((t105 == t109) && (t107 == t111)))) (Wn.no rfl) rfl (R.move rfl) ?_
            rcases M.ite_use h with ⟨hb113, h⟩ | ⟨hb113, h⟩
            · refine LE.p (v := (Value.int .i64 r85)) (Wn.yes 3 87 true rfl rfl rfl (congrArg Value.bool hb113)) rfl (R.move rfl) ?_
              refine LE.p (v := (Value.int .i64 r96)) (Wn.yes 3 87 true rfl rfl rfl (congrArg Value.bool hb113)) rfl (R.move rfl) ?_
              refine LE.p (v := (Value.bool (r85 == r96))) (Wn.yes 3 87 true rfl rfl rfl (congrArg Value.bool hb113)) rfl (R.eql rfl rfl) ?_
              refine LE.p (v := (Value.bool (r85 == r96))) (Wn.no rfl) rfl (R.pickT (congrArg Value.bool hb113) rfl) ?_
              refine LE.p (v := (Value.bool (r85 == r96))) (Wn.no rfl) rfl (R.move rfl) ?_
              rcases M.ite_use h with ⟨hb114, h⟩ | ⟨hb114, h⟩
              · refine LE.p (v := (Value.bool r86)) (Wn.yes 8 92 true rfl rfl rfl (congrArg Value.bool hb114)) rfl (R.move rfl) ?_
                refine LE.p (v := (Value.bool r97)) (Wn.yes 8 92 true rfl rfl rfl (congrArg Value.bool hb114)) rfl (R.move rfl) ?_
                refine LE.p (v := (Value.bool (r86 == r97))) (Wn.yes 8 92 true rfl rfl rfl (congrArg Value.bool hb114)) rfl (R.beql bo4 rfl rfl) ?_
                refine LE.p (v := (Value.bool (r86 == r97))) (Wn.no rfl) rfl (R.pickT (congrArg Value.bool hb114) rfl) ?_
                refine LE.p (v := (Value.bool (r86 == r97))) (Wn.no rfl) rfl (R.assign rfl) ?_
                refine LE.nil ?_
                exact ⟨_, h, rfl⟩
              · refine LE.u (Un.no 8 92 true rfl rfl rfl (congrArg Value.bool hb114)) ?_
                refine LE.u (Un.no 8 92 true rfl rfl rfl (congrArg Value.bool hb114)) ?_
                refine LE.u (Un.no 8 92 true rfl rfl rfl (congrArg Value.bool hb114)) ?_
                refine LE.p (v := (Value.bool false)) (Wn.no rfl) rfl (R.pickF (congrArg Value.bool hb114) rfl) ?_
                refine LE.p (v := (Value.bool false)) (Wn.no rfl) rfl (R.assign rfl) ?_
                refine LE.nil ?_
                exact ⟨_, h, rfl⟩
            · refine LE.u (Un.no 3 87 true rfl rfl rfl (congrArg Value.bool hb113)) ?_
              refine LE.u (Un.no 3 87 true rfl rfl rfl (congrArg Value.bool hb113)) ?_
              refine LE.u (Un.no 3 87 true rfl rfl rfl (congrArg Value.bool hb113)) ?_
              refine LE.p (v := (Value.bool false)) (Wn.no rfl) rfl (R.pickF (congrArg Value.bool hb113) rfl) ?_
              refine LE.p (v := (Value.bool false)) (Wn.no rfl) rfl (R.move rfl) ?_
              refine LE.u (Un.no 8 92 true rfl rfl rfl rfl) ?_
              refine LE.u (Un.no 8 92 true rfl rfl rfl rfl) ?_
              refine LE.u (Un.no 8 92 true rfl rfl rfl rfl) ?_
              refine LE.p (v := (Value.bool false)) (Wn.no rfl) rfl (R.pickF rfl rfl) ?_
              refine LE.p (v := (Value.bool false)) (Wn.no rfl) rfl (R.assign rfl) ?_
              refine LE.nil ?_
              exact ⟨_, h, rfl⟩
          · rintro e115 w116 ⟨x104, h, f117⟩
            subst hJ103
            refine WE.ret ?_
            exact ⟨_, (Res.tmp f117 Res.nil), _, rfl, h⟩
        · intro hb80
          replace h := M.ite_f h hb80
          refine WE.skip ?_
          refine WE.seq ?_
          obtain ⟨J118, hJ118, h⟩ := M.join_use h
          refine WE.drawJ (fun e w => ∃ (x119 : Bool), J118 x119 w ∧ e 6 = (Value.bool x119)) mix ?_ ?_
          · clear hJ118
            obtain ⟨w120, hww120, h⟩ := M.drew_use h
            rw [← hww120]
            clear hww120
            refine DE.t 0 (v := (Value.pointer p0)) rfl (by kernel_rfl) (Wn.no rfl) rfl (R.move rfl) ?_
            refine DE.t 3 (v := (Value.pointer p1)) rfl (by kernel_rfl) (Wn.no rfl) rfl (R.move rfl) ?_
            obtain ⟨t121, h122, h⟩ := h
            obtain ⟨t123, h124, h⟩ := h
            refine DE.hold 1 (fun w => w.cell? b17 = some (Value.int .u32 t121) ∧ w.cell? (b17.add 1) = some (Value.int .i64 t123)) (v := (Value.agg #[(Value.int .u32 t121), (Value.int .i64 t123)])) rfl (by kernel_rfl) (Wn.no rfl) rfl ⟨h122, h124⟩ (fun w hs => R.ldA ag27 sz27 rfl rfl (Cs.cons hs.1 (Cs.cons hs.2 Cs.nil))) ?_
            obtain ⟨t125, h126, h⟩ := h
            obtain ⟨t127, h128, h⟩ := h
            refine DE.hold 4 (fun w => w.cell? b17 = some (Value.int .u32 t125) ∧ w.cell? (b17.add 1) = some (Value.int .i64 t127)) (v := (Value.agg #[(Value.int .u32 t125), (Value.int .i64 t127)])) rfl (by kernel_rfl) (Wn.no rfl) rfl ⟨h126, h128⟩ (fun w hs => R.ldA ag27 sz27 rfl rfl (Cs.cons hs.1 (Cs.cons hs.2 Cs.nil))) ?_
            refine DE.main 2 (by kernel_rfl) ?_
            refine One.c 2 rfl (Wn.no rfl) rfl (R.call bd22 (Ls.cons rfl (Ls.cons rfl Ls.nil)) rfl) (Calls.mono h ?_)
            rintro _ w130 ⟨r129, rfl, h⟩
            obtain ⟨k131, h⟩ := h
            obtain ⟨k132, h⟩ := h
            refine ⟨_, rfl, ⟨fun _ => ⟨k131, k132⟩, aftT (by kernel_rfl), trivial⟩, ?_⟩
            refine DE.main 5 (by kernel_rfl) ?_
            refine One.c 5 rfl (Wn.no rfl) rfl (R.call bd42 (Ls.cons rfl (Ls.cons rfl Ls.nil)) rfl) (Calls.mono h ?_)
            rintro _ w134 ⟨r133, rfl, h⟩
            refine ⟨_, rfl, ⟨aftT (by kernel_rfl), aftT (by kernel_rfl), trivial⟩, ?_⟩
            refine DE.main 6 (by kernel_rfl) ?_
            refine One.c 6 rfl (Wn.no rfl) rfl (R.call bd17 (Ls.cons rfl (Ls.cons rfl Ls.nil)) rfl) (Calls.mono h ?_)
            rintro _ w136 ⟨r135, rfl, h⟩
            refine ⟨_, rfl, ⟨aftT (by kernel_rfl), aftT (by kernel_rfl), trivial⟩, ?_⟩
            refine DE.t 7 (v := (Value.bool r135)) rfl (by kernel_rfl) (Wn.no rfl) rfl (R.move rfl) ?_
            rcases M.ite_use h with ⟨hb137, h⟩ | ⟨hb137, h⟩
            · refine DE.t 8 (v := (Value.pointer p0)) rfl (by kernel_rfl) (Wn.yes 7 104 true rfl rfl rfl (congrArg Value.bool hb137)) rfl (R.move rfl) ?_
              refine DE.t 11 (v := (Value.pointer p1)) rfl (by kernel_rfl) (Wn.yes 7 104 true rfl rfl rfl (congrArg Value.bool hb137)) rfl (R.move rfl) ?_
              obtain ⟨t138, h139, h⟩ := h
              obtain ⟨t140, h141, h⟩ := h
              refine DE.hold 9 (fun w => w.cell? b17 = some (Value.int .u32 t138) ∧ w.cell? (b17.add 1) = some (Value.int .i64 t140)) (v := (Value.agg #[(Value.int .u32 t138), (Value.int .i64 t140)])) rfl (by kernel_rfl) (Wn.yes 7 104 true rfl rfl rfl (congrArg Value.bool hb137)) rfl ⟨h139, h141⟩ (fun w hs => R.ldA ag27 sz27 rfl rfl (Cs.cons hs.1 (Cs.cons hs.2 Cs.nil))) ?_
              obtain ⟨t142, h143, h⟩ := h
              obtain ⟨t144, h145, h⟩ := h
              refine DE.hold 12 (fun w => w.cell? b17 = some (Value.int .u32 t142) ∧ w.cell? (b17.add 1) = some (Value.int .i64 t144)) (v := (Value.agg #[(Value.int .u32 t142), (Value.int .i64 t144)])) rfl (by kernel_rfl) (Wn.yes 7 104 true rfl rfl rfl (congrArg Value.bool hb137)) rfl ⟨h143, h145⟩ (fun w hs => R.ldA ag27 sz27 rfl rfl (Cs.cons hs.1 (Cs.cons hs.2 Cs.nil))) ?_
              refine DE.main 10 (by kernel_rfl) ?_
              refine One.c 10 rfl (Wn.yes 7 104 true rfl rfl rfl (congrArg Value.bool hb137)) rfl (R.call bd24 (Ls.cons rfl (Ls.cons rfl Ls.nil)) rfl) (Calls.mono h ?_)
              rintro _ w147 ⟨r146, rfl, h⟩
              obtain ⟨k148, h⟩ := h
              obtain ⟨k149, h⟩ := h
              refine ⟨_, rfl, ⟨fun _ => ⟨k148, k149⟩, aftT (by kernel_rfl), aftT (by kernel_rfl), aftT (by kernel_rfl), trivial⟩, ?_⟩
              refine DE.main 13 (by kernel_rfl) ?_
              refine One.c 13 rfl (Wn.yes 7 104 true rfl rfl rfl (congrArg Value.bool hb137)) rfl (R.call bd43 (Ls.cons rfl (Ls.cons rfl Ls.nil)) rfl) (Calls.mono h ?_)
              rintro _ w151 ⟨r150, rfl, h⟩
              refine ⟨_, rfl, ⟨aftT (by kernel_rfl), aftT (by kernel_rfl), aftT (by kernel_rfl), aftT (by kernel_rfl), trivial⟩, ?_⟩
              refine DE.main 14 (by kernel_rfl) ?_
              refine One.c 14 rfl (Wn.yes 7 104 true rfl rfl rfl (congrArg Value.bool hb137)) rfl (R.call bd17 (Ls.cons rfl (Ls.cons rfl Ls.nil)) rfl) (Calls.mono h ?_)
              rintro _ w153 ⟨r152, rfl, h⟩
              refine ⟨_, rfl, ⟨aftT (by kernel_rfl), aftT (by kernel_rfl), aftT (by kernel_rfl), aftT (by kernel_rfl), trivial⟩, ?_⟩
              refine DE.t 15 (v := (Value.bool r152)) rfl (by kernel_rfl) (Wn.no rfl) rfl (R.pickT (congrArg Value.bool hb137) rfl) ?_
              refine DE.t 16 (v := (Value.bool r152)) rfl (by kernel_rfl) (Wn.no rfl) rfl (R.assign rfl) ?_
              refine DE.done (by kernel_rfl) ?_
              exact ⟨_, h, rfl⟩
            · refine DE.u 8 rfl (by kernel_rfl) (Un.no 7 104 true rfl rfl rfl (congrArg Value.bool hb137)) ?_
              refine DE.u 9 rfl (by kernel_rfl) (Un.no 7 104 true rfl rfl rfl (congrArg Value.bool hb137)) ?_
              refine DE.u 10 rfl (by kernel_rfl) (Un.no 7 104 true rfl rfl rfl (congrArg Value.bool hb137)) ?_
              refine DE.u 11 rfl (by kernel_rfl) (Un.no 7 104 true rfl rfl rfl (congrArg Value.bool hb137)) ?_
              refine DE.u 12 rfl (by kernel_rfl) (Un.no 7 104 true rfl rfl rfl (congrArg Value.bool hb137)) ?_
              refine DE.u 13 rfl (by kernel_rfl) (Un.no 7 104 true rfl rfl rfl (congrArg Value.bool hb137)) ?_
              refine DE.u 14 rfl (by kernel_rfl) (Un.no 7 104 true rfl rfl rfl (congrArg Value.bool hb137)) ?_
              refine DE.t 15 (v := (Value.bool false)) rfl (by kernel_rfl) (Wn.no rfl) rfl (R.pickF (congrArg Value.bool hb137) rfl) ?_
              refine DE.t 16 (v := (Value.bool false)) rfl (by kernel_rfl) (Wn.no rfl) rfl (R.assign rfl) ?_
              refine DE.done (by kernel_rfl) ?_
              exact ⟨_, h, rfl⟩
          · rintro e154 w155 ⟨x119, h, f156⟩
            subst hJ118
            refine WE.ret ?_
            exact ⟨_, (Res.tmp f156 Res.nil), _, rfl, h⟩
/-- The formula of signpost.signpostlaw3.alike. -/
def F27 (p0 : Option Addr) (p1 : Option Addr) (K : Bool → World → Prop) (w0 : World) : Prop :=
M.join (fun (x2 : Bool) (w22 : World) => 
K x2 w22) fun J1 => 
M.drew w0 fun w3 => 
M.nil p1 fun a4 =>
M.ld SV.v a4 w3 fun t6 =>
Calls Try.prog 14 #[(Value.pointer p0)] w3 (R14 fun r8 w9 =>
M.keep (w9.cell? a4 = some (SV.v t6)) <|
Calls Try.prog 17 #[(SV.v r8), (SV.v t6)] w9 (R17 fun r11 w12 =>
M.ite r11 (
M.nil p1 fun a14 =>
M.ld SV.v a14 w12 fun t16 =>
Calls Try.prog 18 #[(Value.pointer p0)] w12 (R18 fun r18 w19 =>
M.keep (w19.cell? a14 = some (SV.v t16)) <|
J1 (r18 == (t16.len : Int)) w19)) (
J1 false w12)))
theorem F27_ok {w0 : World} {p0 : Option Addr} {p1 : Option Addr} {K : Bool → World → Prop} (h : F27 p0 p1 K w0) : Calls Try.prog 27 #[(Value.pointer p0), (Value.pointer p1)] w0 (R27 K) := by
  refine calls_of_WE (args := [(Value.pointer p0), (Value.pointer p1)]) (rs := [.tmp 4]) Try.func27 rfl (N := 22) rfl rfl rfl rfl ?_
  refine WE.seq ?_
  refine WE.reg ?_
  refine LE.p (v := (Value.bool false)) (Wn.no rfl) rfl (R.assign rfl) ?_
  refine LE.nil ?_
  refine WE.seq ?_
  obtain ⟨J1, hJ1, h⟩ := M.join_use h
  refine WE.drawJ (fun e w => ∃ (x2 : Bool), J1 x2 w ∧ e 4 = (Value.bool x2)) mix ?_ ?_
  · clear hJ1
    obtain ⟨w3, hww3, h⟩ := M.drew_use h
    rw [← hww3]
    clear hww3
    refine DE.t 0 (v := (Value.pointer p0)) rfl (by kernel_rfl) (Wn.no rfl) rfl (R.move rfl) ?_
    refine DE.t 2 (v := (Value.pointer p1)) rfl (by kernel_rfl) (Wn.no rfl) rfl (R.move rfl) ?_
    obtain ⟨a4, h5, h⟩ := h
    refine DE.t 3 (v := (Value.pointer (some a4))) rfl (by kernel_rfl) (Wn.no rfl) rfl (R.nilC (congrArg Value.pointer h5)) ?_
    refine DE.t 4 (v := (Value.pointer (some a4))) rfl (by kernel_rfl) (Wn.no rfl) rfl (R.fld (off := 0) fa55_0 rfl) ?_
    obtain ⟨t6, h7, h⟩ := h
    refine DE.hold 5 (fun w => w.cell? a4 = some (SV.v t6)) (v := (SV.v t6)) rfl (by kernel_rfl) (Wn.no rfl) rfl h7 (fun w hs => R.ld sc33 rfl hs) ?_
    refine DE.main 1 (by kernel_rfl) ?_
    refine One.c 1 rfl (Wn.no rfl) rfl (R.call bd14 (Ls.cons rfl Ls.nil) rfl) (Calls.mono h ?_)
    rintro _ w9 ⟨r8, rfl, h⟩
    obtain ⟨k10, h⟩ := h
    refine ⟨_, rfl, ⟨fun _ => k10, trivial⟩, ?_⟩
    refine DE.main 6 (by kernel_rfl) ?_
    refine One.c 6 rfl (Wn.no rfl) rfl (R.call bd17 (Ls.cons rfl (Ls.cons rfl Ls.nil)) rfl) (Calls.mono h ?_)
    rintro _ w12 ⟨r11, rfl, h⟩
    refine ⟨_, rfl, ⟨aftT (by kernel_rfl), trivial⟩, ?_⟩
    refine DE.t 7 (v := (Value.bool r11)) rfl (by kernel_rfl) (Wn.no rfl) rfl (R.move rfl) ?_
    rcases M.ite_use h with ⟨hb13, h⟩ | ⟨hb13, h⟩
    · refine DE.t 8 (v := (Value.pointer p0)) rfl (by kernel_rfl) (Wn.yes 7 12 true rfl rfl rfl (congrArg Value.bool hb13)) rfl (R.move rfl) ?_
      refine DE.t 10 (v := (Value.pointer p1)) rfl (by kernel_rfl) (Wn.yes 7 12 true rfl rfl rfl (congrArg Value.bool hb13)) rfl (R.move rfl) ?_
      obtain ⟨a14, h15, h⟩ := h
      refine DE.t 11 (v := (Value.pointer (some a14))) rfl (by kernel_rfl) (Wn.yes 7 12 true rfl rfl rfl (congrArg Value.bool hb13)) rfl (R.nilC (congrArg Value.pointer h15)) ?_
      refine DE.t 12 (v := (Value.pointer (some a14))) rfl (by kernel_rfl) (Wn.yes 7 12 true rfl rfl rfl (congrArg Value.bool hb13)) rfl (R.fld (off := 0) fa55_0 rfl) ?_
      obtain ⟨t16, h17, h⟩ := h
      refine DE.hold 13 (fun w => w.cell? a14 = some (SV.v t16)) (v := (SV.v t16)) rfl (by kernel_rfl) (Wn.yes 7 12 true rfl rfl rfl (congrArg Value.bool hb13)) rfl h17 (fun w hs => R.ld sc33 rfl hs) ?_
      refine DE.t 14 (v := (Value.int .i64 (t16.len : Int))) rfl (by kernel_rfl) (Wn.yes 7 12 true rfl rfl rfl (congrArg Value.bool hb13)) rfl (R.len sl33 rfl) ?_
      refine DE.main 9 (by kernel_rfl) ?_
      refine One.c 9 rfl (Wn.yes 7 12 true rfl rfl rfl (congrArg Value.bool hb13)) rfl (R.call bd18 (Ls.cons rfl Ls.nil) rfl) (Calls.mono h ?_)
      rintro _ w19 ⟨r18, rfl, h⟩
      obtain ⟨k20, h⟩ := h
      refine ⟨_, rfl, ⟨fun _ => k20, aftT (by kernel_rfl), trivial⟩, ?_⟩
      refine DE.t 15 (v := (Value.bool (r18 == (t16.len : Int)))) rfl (by kernel_rfl) (Wn.yes 7 12 true rfl rfl rfl (congrArg Value.bool hb13)) rfl (R.eql rfl rfl) ?_
      refine DE.t 16 (v := (Value.bool (r18 == (t16.len : Int)))) rfl (by kernel_rfl) (Wn.no rfl) rfl (R.pickT (congrArg Value.bool hb13) rfl) ?_
      refine DE.t 17 (v := (Value.bool (r18 == (t16.len : Int)))) rfl (by kernel_rfl) (Wn.no rfl) rfl (R.assign rfl) ?_
      refine DE.done (by kernel_rfl) ?_
      exact ⟨_, h, rfl⟩
    · refine DE.u 8 rfl (by kernel_rfl) (Un.no 7 12 true rfl rfl rfl (congrArg Value.bool hb13)) ?_
      refine DE.u 9 rfl (by kernel_rfl) (Un.no 7 12 true rfl rfl rfl (congrArg Value.bool hb13)) ?_
      refine DE.u 10 rfl (by kernel_rfl) (Un.no 7 12 true rfl rfl rfl (congrArg Value.bool hb13)) ?_
      refine DE.u 11 rfl (by kernel_rfl) (Un.no 7 12 true rfl rfl rfl (congrArg Value.bool hb13)) ?_
      refine DE.u 12 rfl (by kernel_rfl) (Un.no 7 12 true rfl rfl rfl (congrArg Value.bool hb13)) ?_
      refine DE.u 13 rfl (by kernel_rfl) (Un.no 7 12 true rfl rfl rfl (congrArg Value.bool hb13)) ?_
      refine DE.u 14 rfl (by kernel_rfl) (Un.no 7 12 true rfl rfl rfl (congrArg Value.bool hb13)) ?_
      refine DE.u 15 rfl (by kernel_rfl) (Un.no 7 12 true rfl rfl rfl (congrArg Value.bool hb13)) ?_
      refine DE.t 16 (v := (Value.bool false)) rfl (by kernel_rfl) (Wn.no rfl) rfl (R.pickF (congrArg Value.bool hb13) rfl) ?_
      refine DE.t 17 (v := (Value.bool false)) rfl (by kernel_rfl) (Wn.no rfl) rfl (R.assign rfl) ?_
      refine DE.done (by kernel_rfl) ?_
      exact ⟨_, h, rfl⟩
  · rintro e21 w22 ⟨x2, h, f23⟩
    subst hJ1
    refine WE.ret ?_
    exact ⟨_, (Res.tmp f23 Res.nil), _, rfl, h⟩
/-- The formula of signpost.signpostref1.Of. -/
def F28 (p0 : Int) (p1 : Int) (K : Int → Int → World → Prop) (w0 : World) : Prop :=
M.new (.cells #[(Value.int .u32 (0 : Int)), (Value.int .i64 (0 : Int))] 27) w0 fun b2 w1 =>
M.join (fun (x4 : Int) (w7 : World) => 
M.join (fun (x12 : Int) (w15 : World) => 
Calls Try.prog 34 #[(Value.int .i64 x12)] w15 (R34 fun r19 w20 =>
M.stA b2 [(Value.int .u32 (bAnd .u32 p0 r19)), (Value.int .i64 x12)] w20 fun w21 =>
M.ld (Value.int .u32) b2 w21 fun t23 =>
M.ld (Value.int .i64) (b2.add 1) w21 fun t25 =>
K t23 t25 w21)) fun J11 => 
M.ite (decide ((32 : Int) < x4)) (
J11 (32 : Int) w7) (
J11 x4 w7)) fun J3 => 
M.ite (decide (p1 < (0 : Int))) (
J3 (0 : Int) w1) (
J3 p1 w1)
theorem F28_ok {w0 : World} {p0 : Int} {p1 : Int} {K : Int → Int → World → Prop} (h : F28 p0 p1 K w0) : Calls Try.prog 28 #[(Value.int .u32 p0), (Value.int .i64 p1)] w0 (R28 K) := by
  refine calls_of_WE (args := [(Value.int .u32 p0), (Value.int .i64 p1)]) (rs := [.cell 4 27]) Try.func28 rfl (N := 15) rfl rfl rfl rfl ?_
  refine WE.seq ?_
  refine WE.reg ?_
  obtain ⟨b2, hpb2, w1, hww1, h⟩ := M.new_use h
  refine LE.r (v := (Value.pointer (some b2))) (Wn.no rfl) rfl (R.alloc (cs := #[(Value.int .u32 (0 : Int)), (Value.int .i64 (0 : Int))]) ze27 rfl hpb2 hww1) ?_
  refine LE.nil ?_
  obtain ⟨J3, hJ3, h⟩ := M.join_use h
  refine WE.join (fun e w => ∃ (x4 : Int), J3 x4 w ∧ e 0 = (Value.int .u32 p0) ∧ e 1 = (Value.int .i64 x4) ∧ e 4 = (Value.pointer (some b2))) ?_ ?_
  · clear hJ3
    refine WE.seq ?_
    refine WE.reg ?_
    refine LE.p (v := (Value.int .i64 p1)) (Wn.no rfl) rfl (R.move rfl) ?_
    refine LE.p (v := (Value.bool (decide (p1 < (0 : Int))))) (Wn.no rfl) rfl (R.lss rfl rfl) ?_
    refine LE.nil ?_
    refine WE.condT rfl (b := (decide (p1 < (0 : Int)))) rfl ?_ ?_
    · intro hb5
      replace h := M.ite_t h hb5
      refine WE.reg ?_
      refine LE.p (v := (Value.int .i64 (0 : Int))) (Wn.no rfl) rfl (R.assign rfl) ?_
      refine LE.nil ?_
      exact ⟨_, h, rfl, rfl, rfl⟩
    · intro hb5
      replace h := M.ite_f h hb5
      refine WE.skip ?_
      exact ⟨_, h, rfl, rfl, rfl⟩
  · rintro e6 w7 ⟨x4, h, f8, f9, f10⟩
    subst hJ3
    obtain ⟨J11, hJ11, h⟩ := M.join_use h
    refine WE.join (fun e w => ∃ (x12 : Int), J11 x12 w ∧ e 0 = (Value.int .u32 p0) ∧ e 1 = (Value.int .i64 x12) ∧ e 4 = (Value.pointer (some b2))) ?_ ?_
    · clear hJ11
      refine WE.seq ?_
      refine WE.reg ?_
      refine LE.p (v := (Value.int .i64 x4)) (Wn.no rfl) rfl (R.move f9) ?_
      refine LE.p (v := (Value.bool (decide ((32 : Int) < x4)))) (Wn.no rfl) rfl (R.gtr rfl rfl) ?_
      refine LE.nil ?_
      refine WE.condT rfl (b := (decide ((32 : Int) < x4))) rfl ?_ ?_
      · intro hb13
        replace h := M.ite_t h hb13
        refine WE.reg ?_
        refine LE.p (v := (Value.int .i64 (32 : Int))) (Wn.no rfl) rfl (R.assign rfl) ?_
        refine LE.nil ?_
        exact ⟨_, h, f8, rfl, f10⟩
      · intro hb13
        replace h := M.ite_f h hb13
        refine WE.skip ?_
        exact ⟨_, h, f8, f9, f10⟩
    · rintro e14 w15 ⟨x12, h, f16, f17, f18⟩
      subst hJ11
      refine WE.seq ?_
      refine WE.reg ?_
      refine LE.p (v := (Value.int .u32 p0)) (Wn.no rfl) rfl (R.move f16) ?_
      refine LE.p (v := (Value.int .i64 x12)) (Wn.no rfl) rfl (R.move f17) ?_
      refine LE.c (Wn.no rfl) rfl (R.call bd34 (Ls.cons rfl Ls.nil) rfl) (Calls.mono h ?_)
      rintro _ w20 ⟨r19, rfl, h⟩
      refine ⟨_, rfl, ?_⟩
      refine LE.p (v := (Value.int .u32 (bAnd .u32 p0 r19))) (Wn.no rfl) rfl (R.and rfl rfl) ?_
      refine LE.p (v := (Value.int .i64 x12)) (Wn.no rfl) rfl (R.move f17) ?_
      refine LE.p (v := (Value.agg #[(Value.int .u32 (bAnd .u32 p0 r19)), (Value.int .i64 x12)])) (Wn.no rfl) rfl (R.bld (by exact (Ls.cons (R.Pr rfl) (Ls.cons (R.Pr rfl) Ls.nil))) (fun w => bu27_0_1 (bAnd .u32 p0 r19) x12 w)) ?_
      obtain ⟨w21, hww21, h22, h⟩ := M.stA_use h
      refine LE.s (Wn.no rfl) rfl (R.stA (a := b2) [(Value.int .u32 (bAnd .u32 p0 r19)), (Value.int .i64 x12)] sz27 f18 rfl rfl (by simp [Value.oneCell']) h22 hww21) ?_
      refine LE.nil ?_
      refine WE.ret ?_
      obtain ⟨t23, h24, h⟩ := h
      obtain ⟨t25, h26, h⟩ := h
      exact ⟨_, (Res.cell f18 (R.ldCellA ag27 sz27 rfl (Cs.cons h24 (Cs.cons h26 Cs.nil))) Res.nil), _, _, rfl, h⟩
/-- The formula of signpost.addr.Right. -/
def F29 (p0_0 : Int) (p0_1 : Int) (K : Bool → World → Prop) (w0 : World) : Prop :=
M.new (.cells #[(Value.int .u32 p0_0), (Value.int .i64 p0_1)] 27) w0 fun b2 w1 =>
M.join (fun (x4 : Bool) (w20 : World) => 
K x4 w20) fun J3 => 
M.drew w1 fun w5 => 
M.ld (Value.int .i64) (b2.add 1) w5 fun t6 =>
M.ite (decide ((0 : Int) ≤ t6)) (
M.ld (Value.int .i64) (b2.add 1) w5 fun t9 =>
M.ite (decide (t9 ≤ (32 : Int))) (
M.ld (Value.int .u32) b2 w5 fun t12 =>
M.ld (Value.int .i64) (b2.add 1) w5 fun t14 =>
Calls Try.prog 44 #[(Value.int .i64 t14)] w5 (R44 fun r16 w17 =>
M.keep (w17.cell? b2 = some (Value.int .u32 t12)) <|
J3 ((bAndNot .u32 t12 r16) == (0 : Int)) w17)) (
J3 false w5)) (
J3 false w5)
theorem F29_ok {w0 : World} {p0_0 : Int} {p0_1 : Int} {K : Bool → World → Prop} (h : F29 p0_0 p0_1 K w0) : Calls Try.prog 29 #[(Value.agg #[(Value.int .u32 p0_0), (Value.int .i64 p0_1)])] w0 (R29 K) := by
  refine calls_of_WE (args := [(Value.agg #[(Value.int .u32 p0_0), (Value.int .i64 p0_1)])]) (rs := [.tmp 2]) Try.func29 rfl (N := 20) rfl rfl rfl rfl ?_
  refine WE.seq ?_
  refine WE.reg ?_
  obtain ⟨b2, hpb2, w1, hww1, h⟩ := M.new_use h
  refine LE.r (v := (Value.pointer (some b2))) (Wn.no rfl) rfl (R.box (cs := #[(Value.int .u32 p0_0), (Value.int .i64 p0_1)]) rfl rfl hpb2 hww1) ?_
  refine LE.p (v := (Value.bool false)) (Wn.no rfl) rfl (R.assign rfl) ?_
  refine LE.nil ?_
  refine WE.seq ?_
  obtain ⟨J3, hJ3, h⟩ := M.join_use h
  refine WE.drawJ (fun e w => ∃ (x4 : Bool), J3 x4 w ∧ e 2 = (Value.bool x4)) mix ?_ ?_
  · clear hJ3
    obtain ⟨w5, hww5, h⟩ := M.drew_use h
    rw [← hww5]
    clear hww5
    refine DE.t 0 (v := (Value.pointer (some (b2.add 1)))) rfl (by kernel_rfl) (Wn.no rfl) rfl (R.fld (off := 1) fa27_1 rfl) ?_
    obtain ⟨t6, h7, h⟩ := h
    refine DE.main 1 (by kernel_rfl) ?_
    refine One.r 1 (v := (Value.int .i64 t6)) rfl (Wn.no rfl) rfl (R.ld sc3 rfl h7) (.inl rfl) ?_
    refine DE.t 2 (v := (Value.bool (decide ((0 : Int) ≤ t6)))) rfl (by kernel_rfl) (Wn.no rfl) rfl (R.geq rfl rfl) ?_
    refine DE.t 3 (v := (Value.bool (decide ((0 : Int) ≤ t6)))) rfl (by kernel_rfl) (Wn.no rfl) rfl (R.move rfl) ?_
    rcases M.ite_use h with ⟨hb8, h⟩ | ⟨hb8, h⟩
    · refine DE.t 4 (v := (Value.pointer (some (b2.add 1)))) rfl (by kernel_rfl) (Wn.yes 3 6 true rfl rfl rfl (congrArg Value.bool hb8)) rfl (R.fld (off := 1) fa27_1 rfl) ?_
      obtain ⟨t9, h10, h⟩ := h
      refine DE.main 5 (by kernel_rfl) ?_
      refine One.r 5 (v := (Value.int .i64 t9)) rfl (Wn.yes 3 6 true rfl rfl rfl (congrArg Value.bool hb8)) rfl (R.ld sc3 rfl h10) (.inl rfl) ?_
      refine DE.t 6 (v := (Value.bool (decide (t9 ≤ (32 : Int))))) rfl (by kernel_rfl) (Wn.yes 3 6 true rfl rfl rfl (congrArg Value.bool hb8)) rfl (R.leq rfl rfl) ?_
      refine DE.t 7 (v := (Value.bool (decide (t9 ≤ (32 : Int))))) rfl (by kernel_rfl) (Wn.no rfl) rfl (R.pickT (congrArg Value.bool hb8) rfl) ?_
      refine DE.t 8 (v := (Value.bool (decide (t9 ≤ (32 : Int))))) rfl (by kernel_rfl) (Wn.no rfl) rfl (R.move rfl) ?_
      rcases M.ite_use h with ⟨hb11, h⟩ | ⟨hb11, h⟩
      · refine DE.t 9 (v := (Value.pointer (some b2))) rfl (by kernel_rfl) (Wn.yes 8 11 true rfl rfl rfl (congrArg Value.bool hb11)) rfl (R.fld (off := 0) fa27_0 rfl) ?_
        refine DE.t 11 (v := (Value.pointer (some (b2.add 1)))) rfl (by kernel_rfl) (Wn.yes 8 11 true rfl rfl rfl (congrArg Value.bool hb11)) rfl (R.fld (off := 1) fa27_1 rfl) ?_
        obtain ⟨t12, h13, h⟩ := h
        refine DE.hold 10 (fun w => w.cell? b2 = some (Value.int .u32 t12)) (v := (Value.int .u32 t12)) rfl (by kernel_rfl) (Wn.yes 8 11 true rfl rfl rfl (congrArg Value.bool hb11)) rfl h13 (fun w hs => R.ld sc25 rfl hs) ?_
        obtain ⟨t14, h15, h⟩ := h
        refine DE.main 12 (by kernel_rfl) ?_
        refine One.r 12 (v := (Value.int .i64 t14)) rfl (Wn.yes 8 11 true rfl rfl rfl (congrArg Value.bool hb11)) rfl (R.ld sc3 rfl h15) (.inl rfl) ?_
        refine DE.main 13 (by kernel_rfl) ?_
        refine One.c 13 rfl (Wn.yes 8 11 true rfl rfl rfl (congrArg Value.bool hb11)) rfl (R.call bd44 (Ls.cons rfl Ls.nil) rfl) (Calls.mono h ?_)
        rintro _ w17 ⟨r16, rfl, h⟩
        obtain ⟨k18, h⟩ := h
        refine ⟨_, rfl, ⟨fun _ => k18, trivial⟩, ?_⟩
        refine DE.t 14 (v := (Value.int .u32 (bAndNot .u32 t12 r16))) rfl (by kernel_rfl) (Wn.yes 8 11 true rfl rfl rfl (congrArg Value.bool hb11)) rfl (R.andNot rfl rfl) ?_
        refine DE.t 15 (v := (Value.bool ((bAndNot .u32 t12 r16) == (0 : Int)))) rfl (by kernel_rfl) (Wn.yes 8 11 true rfl rfl rfl (congrArg Value.bool hb11)) rfl (R.eql rfl rfl) ?_
        refine DE.t 16 (v := (Value.bool ((bAndNot .u32 t12 r16) == (0 : Int)))) rfl (by kernel_rfl) (Wn.no rfl) rfl (R.pickT (congrArg Value.bool hb11) rfl) ?_
        refine DE.t 17 (v := (Value.bool ((bAndNot .u32 t12 r16) == (0 : Int)))) rfl (by kernel_rfl) (Wn.no rfl) rfl (R.assign rfl) ?_
        refine DE.done (by kernel_rfl) ?_
        exact ⟨_, h, rfl⟩
      · refine DE.u 9 rfl (by kernel_rfl) (Un.no 8 11 true rfl rfl rfl (congrArg Value.bool hb11)) ?_
        refine DE.u 10 rfl (by kernel_rfl) (Un.no 8 11 true rfl rfl rfl (congrArg Value.bool hb11)) ?_
        refine DE.u 11 rfl (by kernel_rfl) (Un.no 8 11 true rfl rfl rfl (congrArg Value.bool hb11)) ?_
        refine DE.u 12 rfl (by kernel_rfl) (Un.no 8 11 true rfl rfl rfl (congrArg Value.bool hb11)) ?_
        refine DE.u 13 rfl (by kernel_rfl) (Un.no 8 11 true rfl rfl rfl (congrArg Value.bool hb11)) ?_
        refine DE.u 14 rfl (by kernel_rfl) (Un.no 8 11 true rfl rfl rfl (congrArg Value.bool hb11)) ?_
        refine DE.u 15 rfl (by kernel_rfl) (Un.no 8 11 true rfl rfl rfl (congrArg Value.bool hb11)) ?_
        refine DE.t 16 (v := (Value.bool false)) rfl (by kernel_rfl) (Wn.no rfl) rfl (R.pickF (congrArg Value.bool hb11) rfl) ?_
        refine DE.t 17 (v := (Value.bool false)) rfl (by kernel_rfl) (Wn.no rfl) rfl (R.assign rfl) ?_
        refine DE.done (by kernel_rfl) ?_
        exact ⟨_, h, rfl⟩
    · refine DE.u 4 rfl (by kernel_rfl) (Un.no 3 6 true rfl rfl rfl (congrArg Value.bool hb8)) ?_
      refine DE.u 5 rfl (by kernel_rfl) (Un.no 3 6 true rfl rfl rfl (congrArg Value.bool hb8)) ?_
      refine DE.u 6 rfl (by kernel_rfl) (Un.no 3 6 true rfl rfl rfl (congrArg Value.bool hb8)) ?_
      refine DE.t 7 (v := (Value.bool false)) rfl (by kernel_rfl) (Wn.no rfl) rfl (R.pickF (congrArg Value.bool hb8) rfl) ?_
      refine DE.t 8 (v := (Value.bool false)) rfl (by kernel_rfl) (Wn.no rfl) rfl (R.move rfl) ?_
      refine DE.u 9 rfl (by kernel_rfl) (Un.no 8 11 true rfl rfl rfl rfl) ?_
      refine DE.u 10 rfl (by kernel_rfl) (Un.no 8 11 true rfl rfl rfl rfl) ?_
      refine DE.u 11 rfl (by kernel_rfl) (Un.no 8 11 true rfl rfl rfl rfl) ?_
      refine DE.u 12 rfl (by kernel_rfl) (Un.no 8 11 true rfl rfl rfl rfl) ?_
      refine DE.u 13 rfl (by kernel_rfl) (Un.no 8 11 true rfl rfl rfl rfl) ?_
      refine DE.u 14 rfl (by kernel_rfl) (Un.no 8 11 true rfl rfl rfl rfl) ?_
      refine DE.u 15 rfl (by kernel_rfl) (Un.no 8 11 true rfl rfl rfl rfl) ?_
      refine DE.t 16 (v := (Value.bool false)) rfl (by kernel_rfl) (Wn.no rfl) rfl (R.pickF rfl rfl) ?_
      refine DE.t 17 (v := (Value.bool false)) rfl (by kernel_rfl) (Wn.no rfl) rfl (R.assign rfl) ?_
      refine DE.done (by kernel_rfl) ?_
      exact ⟨_, h, rfl⟩
  · rintro e19 w20 ⟨x4, h, f21⟩
    subst hJ3
    refine WE.ret ?_
    exact ⟨_, (Res.tmp f21 Res.nil), _, rfl, h⟩
/-- The formula of signpost.trie.bit. -/
def F30 (p0 : Int) (p1 : Int) (K : Int → World → Prop) (w0 : World) : Prop :=
M.sh (IntKind.i64.wrap ((31 : Int) - p1)) <|
K (IntKind.i64.wrap (bAnd .u32 (bShr .u32 p0 (IntKind.i64.wrap ((31 : Int) - p1))) (1 : Int))) w0
theorem F30_ok {w0 : World} {p0 : Int} {p1 : Int} {K : Int → World → Prop} (h : F30 p0 p1 K w0) : Calls Try.prog 30 #[(Value.int .u32 p0), (Value.int .i64 p1)] w0 (R30 K) := by
  refine calls_of_WE (args := [(Value.int .u32 p0), (Value.int .i64 p1)]) (rs := [.tmp 4]) Try.func30 rfl (N := 11) rfl rfl rfl rfl ?_
  refine WE.seq ?_
  refine WE.reg ?_
  refine LE.p (v := (Value.int .i64 (0 : Int))) (Wn.no rfl) rfl (R.assign rfl) ?_
  refine LE.nil ?_
  refine WE.seq ?_
  refine WE.reg ?_
  refine LE.p (v := (Value.int .u32 p0)) (Wn.no rfl) rfl (R.move rfl) ?_
  refine LE.p (v := (Value.int .i64 p1)) (Wn.no rfl) rfl (R.move rfl) ?_
  refine LE.p (v := (Value.int .i64 (IntKind.i64.wrap ((31 : Int) - p1)))) (Wn.no rfl) rfl (R.sub rfl rfl) ?_
  obtain ⟨h1, h⟩ := h
  refine LE.p (v := (Value.int .u32 (bShr .u32 p0 (IntKind.i64.wrap ((31 : Int) - p1))))) (Wn.no rfl) rfl (R.shr rfl rfl h1) ?_
  refine LE.p (v := (Value.int .u32 (bAnd .u32 (bShr .u32 p0 (IntKind.i64.wrap ((31 : Int) - p1))) (1 : Int)))) (Wn.no rfl) rfl (R.and rfl rfl) ?_
  refine LE.p (v := (Value.int .i64 (IntKind.i64.wrap (bAnd .u32 (bShr .u32 p0 (IntKind.i64.wrap ((31 : Int) - p1))) (1 : Int))))) (Wn.no rfl) rfl (R.conv in3 in25 rfl) ?_
  refine LE.p (v := (Value.int .i64 (IntKind.i64.wrap (bAnd .u32 (bShr .u32 p0 (IntKind.i64.wrap ((31 : Int) - p1))) (1 : Int))))) (Wn.no rfl) rfl (R.assign rfl) ?_
  refine LE.nil ?_
  refine WE.ret ?_
  exact ⟨_, (Res.tmp rfl Res.nil), _, rfl, h⟩
/-- The formula of (*signpost.trie.Trie).find. -/
def F31 (p0 : Option Addr) (p1_0 : Int) (p1_1 : Int) (K : Option Addr → World → Prop) (w0 : World) : Prop :=
M.new (.cells #[(Value.int .u32 p1_0), (Value.int .i64 p1_1)] 27) w0 fun b2 w1 =>
M.nil p0 fun a3 =>
M.ld (Value.int .i64) (b2.add 1) w1 fun t5 =>
M.loop2 (fun (J9 : Option Addr → Int → World → Prop) (x7 : Option Addr) (x8 : Int) (w10 : World) => 
M.ite (decide (x8 < t5)) (
M.drew w10 fun w22 => 
M.nil x7 fun a23 =>
M.ld (Value.int .u32) b2 w22 fun t25 =>
Calls Try.prog 30 #[(Value.int .u32 t25), (Value.int .i64 x8)] w22 (R30 fun r27 w28 =>
M.inb r27 2 <|
M.ld Value.pointer (a23.add (r27.toNat * 1)) w28 fun t31 =>
M.ite (Option.isNone t31) (
K (none : Option Addr) w28) (
J9 t31 (IntKind.i64.wrap (x8 + (1 : Int))) w28))) (
K x7 w10)) (some a3) (0 : Int) w1
theorem F31_ok {w0 : World} {p0 : Option Addr} {p1_0 : Int} {p1_1 : Int} {K : Option Addr → World → Prop} (h : F31 p0 p1_0 p1_1 K w0) : Calls Try.prog 31 #[(Value.pointer p0), (Value.agg #[(Value.int .u32 p1_0), (Value.int .i64 p1_1)])] w0 (R31 K) := by
  refine calls_of_WE (args := [(Value.pointer p0), (Value.agg #[(Value.int .u32 p1_0), (Value.int .i64 p1_1)])]) (rs := [.tmp 4]) Try.func31 rfl (N := 28) rfl rfl rfl rfl ?_
  refine WE.seq ?_
  refine WE.reg ?_
  obtain ⟨b2, hpb2, w1, hww1, h⟩ := M.new_use h
  refine LE.r (v := (Value.pointer (some b2))) (Wn.no rfl) rfl (R.box (cs := #[(Value.int .u32 p1_0), (Value.int .i64 p1_1)]) rfl rfl hpb2 hww1) ?_
  refine LE.p (v := (Value.pointer (none : Option Addr))) (Wn.no rfl) rfl (R.assign rfl) ?_
  refine LE.nil ?_
  refine WE.seq ?_
  refine WE.reg ?_
  refine LE.p (v := (Value.pointer p0)) (Wn.no rfl) rfl (R.move rfl) ?_
  obtain ⟨a3, h4, h⟩ := h
  refine LE.p (v := (Value.pointer (some a3))) (Wn.no rfl) rfl (R.nilC (congrArg Value.pointer h4)) ?_
  refine LE.p (v := (Value.pointer (some a3))) (Wn.no rfl) rfl (R.fld (off := 0) fa65_0 rfl) ?_
  refine LE.p (v := (Value.pointer (some a3))) (Wn.no rfl) rfl (R.assign rfl) ?_
  refine LE.nil ?_
  refine WE.seq ?_
  refine WE.seq ?_
  refine WE.reg ?_
  refine LE.p (v := (Value.pointer (some (b2.add 1)))) (Wn.no rfl) rfl (R.fld (off := 1) fa27_1 rfl) ?_
  obtain ⟨t5, h6, h⟩ := h
  refine LE.r (v := (Value.int .i64 t5)) (Wn.no rfl) rfl (R.ld sc3 rfl h6) ?_
  refine LE.p (v := (Value.int .i64 (0 : Int))) (Wn.no rfl) rfl (R.move rfl) ?_
  refine LE.nil ?_
  refine WE.block ?_
  obtain ⟨I13, ⟨n12, h⟩, hr14⟩ := h
  refine WE.loop (fun n e w => ∃ (x7 : Option Addr) (x8 : Int), I13 n x7 x8 w ∧ e 3 = (Value.pointer (some b2)) ∧ e 5 = (Value.pointer x7) ∧ e 11 = (Value.int .i64 t5) ∧ e 12 = (Value.int .i64 x8)) n12 ⟨_, _, h, rfl, rfl, rfl, rfl⟩ ?_
  clear h
  rintro n12 e11 w10 ⟨x7, x8, h, f17, f18, f19, f20⟩
  replace h := hr14 n12 x7 x8 w10 h
  refine WE.seq ?_
  refine WE.reg ?_
  refine LE.p (v := (Value.bool (decide (x8 < t5)))) (Wn.no rfl) rfl (R.lss f20 f19) ?_
  refine LE.nil ?_
  refine WE.seq ?_
  refine WE.condT rfl (b := (decide (x8 < t5))) rfl ?_ ?_
  · intro hb21
    replace h := M.ite_t h hb21
    refine WE.skip ?_
    refine WE.seq ?_
    refine WE.block ?_
    refine WE.seq ?_
    refine WE.reg ?_
    refine LE.p (v := (Value.int .i64 x8)) (Wn.no rfl) rfl (R.move f20) ?_
    refine LE.p (v := (Value.int .i64 x8)) (Wn.no rfl) rfl (R.assign rfl) ?_
    refine LE.nil ?_
    refine WE.seq ?_
    refine WE.draw mix ?_
    obtain ⟨w22, hww22, h⟩ := M.drew_use h
    rw [← hww22]
    clear hww22
    refine DE.t 0 (v := (Value.pointer x7)) rfl (by kernel_rfl) (Wn.no rfl) rfl (R.move f18) ?_
    refine DE.t 1 (v := (Value.pointer (some b2))) rfl (by kernel_rfl) (Wn.no rfl) rfl (R.fld (off := 0) fa27_0 f17) ?_
    refine DE.t 3 (v := (Value.int .i64 x8)) rfl (by kernel_rfl) (Wn.no rfl) rfl (R.move rfl) ?_
    obtain ⟨a23, h24, h⟩ := h
    refine DE.t 5 (v := (Value.pointer (some a23))) rfl (by kernel_rfl) (Wn.no rfl) rfl (R.nilC (congrArg Value.pointer h24)) ?_
    refine DE.t 6 (v := (Value.pointer (some a23))) rfl (by kernel_rfl) (Wn.no rfl) rfl (R.fld (off := 0) fa63_0 rfl) ?_
    obtain ⟨t25, h26, h⟩ := h
    refine DE.main 2 (by kernel_rfl) ?_
    refine One.r 2 (v := (Value.int .u32 t25)) rfl (Wn.no rfl) rfl (R.ld sc25 rfl h26) (.inl rfl) ?_
    refine DE.main 4 (by kernel_rfl) ?_
    refine One.c 4 rfl (Wn.no rfl) rfl (R.call bd30 (Ls.cons rfl (Ls.cons rfl Ls.nil)) rfl) (Calls.mono h ?_)
    rintro _ w28 ⟨r27, rfl, h⟩
    refine ⟨_, rfl, trivial, ?_⟩
    obtain ⟨h29, h30, h⟩ := h
    refine DE.t 7 (v := (Value.pointer (some (a23.add (r27.toNat * 1))))) rfl (by kernel_rfl) (Wn.no rfl) rfl (R.idxArr ar61 rfl rfl h29 h30) ?_
    obtain ⟨t31, h32, h⟩ := h
    refine DE.main 8 (by kernel_rfl) ?_
    refine One.r 8 (v := (Value.pointer t31)) rfl (Wn.no rfl) rfl (R.ld sc60 rfl h32) (.inl rfl) ?_
    refine DE.t 9 (v := (Value.pointer t31)) rfl (by kernel_rfl) (Wn.no rfl) rfl (R.assign rfl) ?_
    refine DE.done (by kernel_rfl) ?_
    refine WE.seq ?_
    refine WE.reg ?_
    refine LE.p (v := (Value.pointer t31)) (Wn.no rfl) rfl (R.move rfl) ?_
    refine LE.p (v := (Value.bool (Option.isNone t31))) (Wn.no rfl) rfl (R.peqNil pt60 rfl rfl) ?_
    refine LE.nil ?_
    refine WE.condT rfl (b := (Option.isNone t31)) rfl ?_ ?_
    · intro hb33
      replace h := M.ite_t h hb33
      refine WE.seq ?_
      refine WE.reg ?_
      refine LE.p (v := (Value.pointer (none : Option Addr))) (Wn.no rfl) rfl (R.assign rfl) ?_
      refine LE.nil ?_
      refine WE.ret ?_
      exact ⟨_, (Res.tmp rfl Res.nil), _, rfl, h⟩
    · intro hb33
      replace h := M.ite_f h hb33
      refine WE.skip ?_
      refine WE.reg ?_
      refine LE.p (v := (Value.int .i64 (IntKind.i64.wrap (x8 + (1 : Int))))) (Wn.no rfl) rfl (R.add f20 rfl) ?_
      refine LE.p (v := (Value.int .i64 (IntKind.i64.wrap (x8 + (1 : Int))))) (Wn.no rfl) rfl (R.move rfl) ?_
      refine LE.nil ?_
      obtain ⟨m15, hm16, h⟩ := h
      exact ⟨m15, hm16, _, _, h, f17, rfl, f19, rfl⟩
  · intro hb21
    replace h := M.ite_f h hb21
    refine WE.exit ?_
    refine WE.seq ?_
    refine WE.reg ?_
    refine LE.p (v := (Value.pointer x7)) (Wn.no rfl) rfl (R.move f18) ?_
    refine LE.p (v := (Value.pointer x7)) (Wn.no rfl) rfl (R.assign rfl) ?_
    refine LE.nil ?_
    refine WE.ret ?_
    exact ⟨_, (Res.tmp rfl Res.nil), _, rfl, h⟩
/-- The formula of signpost.signpostref1.Right. -/
def F32 (p0_0 : Int) (p0_1 : Int) (K : Bool → World → Prop) (w0 : World) : Prop :=
M.new (.cells #[(Value.int .u32 p0_0), (Value.int .i64 p0_1)] 27) w0 fun b2 w1 =>
M.join (fun (x4 : Bool) (w20 : World) => 
K x4 w20) fun J3 => 
M.drew w1 fun w5 => 
M.ld (Value.int .i64) (b2.add 1) w5 fun t6 =>
M.ite (decide ((0 : Int) ≤ t6)) (
M.ld (Value.int .i64) (b2.add 1) w5 fun t9 =>
M.ite (decide (t9 ≤ (32 : Int))) (
M.ld (Value.int .u32) b2 w5 fun t12 =>
M.ld (Value.int .i64) (b2.add 1) w5 fun t14 =>
Calls Try.prog 34 #[(Value.int .i64 t14)] w5 (R34 fun r16 w17 =>
M.keep (w17.cell? b2 = some (Value.int .u32 t12)) <|
J3 ((bAndNot .u32 t12 r16) == (0 : Int)) w17)) (
J3 false w5)) (
J3 false w5)
theorem F32_ok {w0 : World} {p0_0 : Int} {p0_1 : Int} {K : Bool → World → Prop} (h : F32 p0_0 p0_1 K w0) : Calls Try.prog 32 #[(Value.agg #[(Value.int .u32 p0_0), (Value.int .i64 p0_1)])] w0 (R32 K) := by
  refine calls_of_WE (args := [(Value.agg #[(Value.int .u32 p0_0), (Value.int .i64 p0_1)])]) (rs := [.tmp 2]) Try.func32 rfl (N := 20) rfl rfl rfl rfl ?_
  refine WE.seq ?_
  refine WE.reg ?_
  obtain ⟨b2, hpb2, w1, hww1, h⟩ := M.new_use h
  refine LE.r (v := (Value.pointer (some b2))) (Wn.no rfl) rfl (R.box (cs := #[(Value.int .u32 p0_0), (Value.int .i64 p0_1)]) rfl rfl hpb2 hww1) ?_
  refine LE.p (v := (Value.bool false)) (Wn.no rfl) rfl (R.assign rfl) ?_
  refine LE.nil ?_
  refine WE.seq ?_
  obtain ⟨J3, hJ3, h⟩ := M.join_use h
  refine WE.drawJ (fun e w => ∃ (x4 : Bool), J3 x4 w ∧ e 2 = (Value.bool x4)) mix ?_ ?_
  · clear hJ3
    obtain ⟨w5, hww5, h⟩ := M.drew_use h
    rw [← hww5]
    clear hww5
    refine DE.t 0 (v := (Value.pointer (some (b2.add 1)))) rfl (by kernel_rfl) (Wn.no rfl) rfl (R.fld (off := 1) fa27_1 rfl) ?_
    obtain ⟨t6, h7, h⟩ := h
    refine DE.main 1 (by kernel_rfl) ?_
    refine One.r 1 (v := (Value.int .i64 t6)) rfl (Wn.no rfl) rfl (R.ld sc3 rfl h7) (.inl rfl) ?_
    refine DE.t 2 (v := (Value.bool (decide ((0 : Int) ≤ t6)))) rfl (by kernel_rfl) (Wn.no rfl) rfl (R.geq rfl rfl) ?_
    refine DE.t 3 (v := (Value.bool (decide ((0 : Int) ≤ t6)))) rfl (by kernel_rfl) (Wn.no rfl) rfl (R.move rfl) ?_
    rcases M.ite_use h with ⟨hb8, h⟩ | ⟨hb8, h⟩
    · refine DE.t 4 (v := (Value.pointer (some (b2.add 1)))) rfl (by kernel_rfl) (Wn.yes 3 6 true rfl rfl rfl (congrArg Value.bool hb8)) rfl (R.fld (off := 1) fa27_1 rfl) ?_
      obtain ⟨t9, h10, h⟩ := h
      refine DE.main 5 (by kernel_rfl) ?_
      refine One.r 5 (v := (Value.int .i64 t9)) rfl (Wn.yes 3 6 true rfl rfl rfl (congrArg Value.bool hb8)) rfl (R.ld sc3 rfl h10) (.inl rfl) ?_
      refine DE.t 6 (v := (Value.bool (decide (t9 ≤ (32 : Int))))) rfl (by kernel_rfl) (Wn.yes 3 6 true rfl rfl rfl (congrArg Value.bool hb8)) rfl (R.leq rfl rfl) ?_
      refine DE.t 7 (v := (Value.bool (decide (t9 ≤ (32 : Int))))) rfl (by kernel_rfl) (Wn.no rfl) rfl (R.pickT (congrArg Value.bool hb8) rfl) ?_
      refine DE.t 8 (v := (Value.bool (decide (t9 ≤ (32 : Int))))) rfl (by kernel_rfl) (Wn.no rfl) rfl (R.move rfl) ?_
      rcases M.ite_use h with ⟨hb11, h⟩ | ⟨hb11, h⟩
      · refine DE.t 9 (v := (Value.pointer (some b2))) rfl (by kernel_rfl) (Wn.yes 8 11 true rfl rfl rfl (congrArg Value.bool hb11)) rfl (R.fld (off := 0) fa27_0 rfl) ?_
        refine DE.t 11 (v := (Value.pointer (some (b2.add 1)))) rfl (by kernel_rfl) (Wn.yes 8 11 true rfl rfl rfl (congrArg Value.bool hb11)) rfl (R.fld (off := 1) fa27_1 rfl) ?_
        obtain ⟨t12, h13, h⟩ := h
        refine DE.hold 10 (fun w => w.cell? b2 = some (Value.int .u32 t12)) (v := (Value.int .u32 t12)) rfl (by kernel_rfl) (Wn.yes 8 11 true rfl rfl rfl (congrArg Value.bool hb11)) rfl h13 (fun w hs => R.ld sc25 rfl hs) ?_
        obtain ⟨t14, h15, h⟩ := h
        refine DE.main 12 (by kernel_rfl) ?_
        refine One.r 12 (v := (Value.int .i64 t14)) rfl (Wn.yes 8 11 true rfl rfl rfl (congrArg Value.bool hb11)) rfl (R.ld sc3 rfl h15) (.inl rfl) ?_
        refine DE.main 13 (by kernel_rfl) ?_
        refine One.c 13 rfl (Wn.yes 8 11 true rfl rfl rfl (congrArg Value.bool hb11)) rfl (R.call bd34 (Ls.cons rfl Ls.nil) rfl) (Calls.mono h ?_)
        rintro _ w17 ⟨r16, rfl, h⟩
        obtain ⟨k18, h⟩ := h
        refine ⟨_, rfl, ⟨fun _ => k18, trivial⟩, ?_⟩
        refine DE.t 14 (v := (Value.int .u32 (bAndNot .u32 t12 r16))) rfl (by kernel_rfl) (Wn.yes 8 11 true rfl rfl rfl (congrArg Value.bool hb11)) rfl (R.andNot rfl rfl) ?_
        refine DE.t 15 (v := (Value.bool ((bAndNot .u32 t12 r16) == (0 : Int)))) rfl (by kernel_rfl) (Wn.yes 8 11 true rfl rfl rfl (congrArg Value.bool hb11)) rfl (R.eql rfl rfl) ?_
        refine DE.t 16 (v := (Value.bool ((bAndNot .u32 t12 r16) == (0 : Int)))) rfl (by kernel_rfl) (Wn.no rfl) rfl (R.pickT (congrArg Value.bool hb11) rfl) ?_
        refine DE.t 17 (v := (Value.bool ((bAndNot .u32 t12 r16) == (0 : Int)))) rfl (by kernel_rfl) (Wn.no rfl) rfl (R.assign rfl) ?_
        refine DE.done (by kernel_rfl) ?_
        exact ⟨_, h, rfl⟩
      · refine DE.u 9 rfl (by kernel_rfl) (Un.no 8 11 true rfl rfl rfl (congrArg Value.bool hb11)) ?_
        refine DE.u 10 rfl (by kernel_rfl) (Un.no 8 11 true rfl rfl rfl (congrArg Value.bool hb11)) ?_
        refine DE.u 11 rfl (by kernel_rfl) (Un.no 8 11 true rfl rfl rfl (congrArg Value.bool hb11)) ?_
        refine DE.u 12 rfl (by kernel_rfl) (Un.no 8 11 true rfl rfl rfl (congrArg Value.bool hb11)) ?_
        refine DE.u 13 rfl (by kernel_rfl) (Un.no 8 11 true rfl rfl rfl (congrArg Value.bool hb11)) ?_
        refine DE.u 14 rfl (by kernel_rfl) (Un.no 8 11 true rfl rfl rfl (congrArg Value.bool hb11)) ?_
        refine DE.u 15 rfl (by kernel_rfl) (Un.no 8 11 true rfl rfl rfl (congrArg Value.bool hb11)) ?_
        refine DE.t 16 (v := (Value.bool false)) rfl (by kernel_rfl) (Wn.no rfl) rfl (R.pickF (congrArg Value.bool hb11) rfl) ?_
        refine DE.t 17 (v := (Value.bool false)) rfl (by kernel_rfl) (Wn.no rfl) rfl (R.assign rfl) ?_
        refine DE.done (by kernel_rfl) ?_
        exact ⟨_, h, rfl⟩
    · refine DE.u 4 rfl (by kernel_rfl) (Un.no 3 6 true rfl rfl rfl (congrArg Value.bool hb8)) ?_
      refine DE.u 5 rfl (by kernel_rfl) (Un.no 3 6 true rfl rfl rfl (congrArg Value.bool hb8)) ?_
      refine DE.u 6 rfl (by kernel_rfl) (Un.no 3 6 true rfl rfl rfl (congrArg Value.bool hb8)) ?_
      refine DE.t 7 (v := (Value.bool false)) rfl (by kernel_rfl) (Wn.no rfl) rfl (R.pickF (congrArg Value.bool hb8) rfl) ?_
      refine DE.t 8 (v := (Value.bool false)) rfl (by kernel_rfl) (Wn.no rfl) rfl (R.move rfl) ?_
      refine DE.u 9 rfl (by kernel_rfl) (Un.no 8 11 true rfl rfl rfl rfl) ?_
      refine DE.u 10 rfl (by kernel_rfl) (Un.no 8 11 true rfl rfl rfl rfl) ?_
      refine DE.u 11 rfl (by kernel_rfl) (Un.no 8 11 true rfl rfl rfl rfl) ?_
      refine DE.u 12 rfl (by kernel_rfl) (Un.no 8 11 true rfl rfl rfl rfl) ?_
      refine DE.u 13 rfl (by kernel_rfl) (Un.no 8 11 true rfl rfl rfl rfl) ?_
      refine DE.u 14 rfl (by kernel_rfl) (Un.no 8 11 true rfl rfl rfl rfl) ?_
      refine DE.u 15 rfl (by kernel_rfl) (Un.no 8 11 true rfl rfl rfl rfl) ?_
      refine DE.t 16 (v := (Value.bool false)) rfl (by kernel_rfl) (Wn.no rfl) rfl (R.pickF rfl rfl) ?_
      refine DE.t 17 (v := (Value.bool false)) rfl (by kernel_rfl) (Wn.no rfl) rfl (R.assign rfl) ?_
      refine DE.done (by kernel_rfl) ?_
      exact ⟨_, h, rfl⟩
  · rintro e19 w20 ⟨x4, h, f21⟩
    subst hJ3
    refine WE.ret ?_
    exact ⟨_, (Res.tmp f21 Res.nil), _, rfl, h⟩
/-- The formula of (*signpost.trie.Trie).down. -/
def F33 (p0 : Option Addr) (p1 : Int) (p2 : Int) (K : SV → World → Prop) (w0 : World) : Prop :=
M.nil p0 fun a1 =>
M.join (fun (x4 : SV) (w56 : World) => 
K x4 w56) fun J3 => 
M.loop3 (fun (J8 : SV → Option Addr → Int → World → Prop) (x5 : SV) (x6 : Option Addr) (x7 : Int) (w9 : World) => 
M.join (fun (x22 : SV) (w38 : World) => 
M.ite (x7 == p2) (
J3 x22 w38) (
M.drew w38 fun w45 => 
M.nil x6 fun a46 =>
Calls Try.prog 30 #[(Value.int .u32 p1), (Value.int .i64 x7)] w45 (R30 fun r48 w49 =>
M.inb r48 2 <|
M.ld Value.pointer (a46.add (r48.toNat * 1)) w49 fun t52 =>
M.ite (Option.isNone t52) (
J3 x22 w49) (
J8 x22 t52 (IntKind.i64.wrap (x7 + (1 : Int))) w49)))) fun J21 => 
M.nil x6 fun a23 =>
M.ld Value.bool (a23.add 2) w9 fun t25 =>
M.ite t25 (
Calls Try.prog 45 #[(Value.int .u32 p1), (Value.int .i64 x7)] w9 (R45 fun r28 r29 w30 =>
M.new (.cells #[(Value.int .u32 r28), (Value.int .i64 r29)] 27) w30 fun b33 w31 =>
M.app Try.prog 33 33 33 x5 (SV.v (SV.mk (some b33) 1 1)) w31 fun s34 w35 =>
J21 s34 w35)) (
J21 x5 w9)) SV.nil (some a1) (0 : Int) w0
theorem F33_ok {w0 : World} {p0 : Option Addr} {p1 : Int} {p2 : Int} {K : SV → World → Prop} (h : F33 p0 p1 p2 K w0) : Calls Try.prog 33 #[(Value.pointer p0), (Value.int .u32 p1), (Value.int .i64 p2)] w0 (R33 K) := by
  refine calls_of_WE (args := [(Value.pointer p0), (Value.int .u32 p1), (Value.int .i64 p2)]) (rs := [.tmp 6]) Try.func33 rfl (N := 39) rfl rfl rfl rfl ?_
  refine WE.seq ?_
  refine WE.reg ?_
  refine LE.p (v := (SV.v SV.nil)) (Wn.no rfl) rfl (R.assign rfl) ?_
  refine LE.nil ?_
  refine WE.scope ?_
  refine WE.seq ?_
  refine WE.reg ?_
  refine LE.p (v := (SV.v SV.nil)) (Wn.no rfl) rfl (R.assign rfl) ?_
  refine LE.nil ?_
  refine WE.seq ?_
  refine WE.reg ?_
  refine LE.p (v := (Value.pointer p0)) (Wn.no rfl) rfl (R.move rfl) ?_
  obtain ⟨a1, h2, h⟩ := h
  refine LE.p (v := (Value.pointer (some a1))) (Wn.no rfl) rfl (R.nilC (congrArg Value.pointer h2)) ?_
  refine LE.p (v := (Value.pointer (some a1))) (Wn.no rfl) rfl (R.fld (off := 0) fa65_0 rfl) ?_
  refine LE.p (v := (Value.pointer (some a1))) (Wn.no rfl) rfl (R.assign rfl) ?_
  refine LE.nil ?_
  refine WE.seq ?_
  refine WE.label ?_
  refine WE.seq ?_
  refine WE.seq ?_
  refine WE.reg ?_
  refine LE.p (v := (Value.int .i64 (0 : Int))) (Wn.no rfl) rfl (R.assign rfl) ?_
  refine LE.nil ?_
  obtain ⟨J3, hJ3, h⟩ := M.join_use h
  refine WE.blkJ (fun e w => ∃ (x4 : SV), J3 x4 w ∧ e 7 = (SV.v x4)) ?_ ?_
  · clear hJ3
    obtain ⟨I12, ⟨n11, h⟩, hr13⟩ := h
    refine WE.loop (fun n e w => ∃ (x5 : SV) (x6 : Option Addr) (x7 : Int), I12 n x5 x6 x7 w ∧ e 1 = (Value.int .u32 p1) ∧ e 2 = (Value.int .i64 p2) ∧ e 7 = (SV.v x5) ∧ e 8 = (Value.pointer x6) ∧ e 9 = (Value.int .i64 x7)) n11 ⟨_, _, _, h, rfl, rfl, rfl, rfl, rfl⟩ ?_
    clear h
    rintro n11 e10 w9 ⟨x5, x6, x7, h, f16, f17, f18, f19, f20⟩
    replace h := hr13 n11 x5 x6 x7 w9 h
    refine WE.seq ?_
    refine WE.block ?_
    obtain ⟨J21, hJ21, h⟩ := M.join_use h
    refine WE.join (fun e w => ∃ (x22 : SV), J21 x22 w ∧ e 1 = (Value.int .u32 p1) ∧ e 2 = (Value.int .i64 p2) ∧ e 7 = (SV.v x22) ∧ e 8 = (Value.pointer x6) ∧ e 9 = (Value.int .i64 x7)) ?_ ?_
    · clear hJ21
      refine WE.seq ?_
      refine WE.reg ?_
      refine LE.p (v := (Value.pointer x6)) (Wn.no rfl) rfl (R.move f19) ?_
      obtain ⟨a23, h24, h⟩ := h
      refine LE.p (v := (Value.pointer (some a23))) (Wn.no rfl) rfl (R.nilC (congrArg Value.pointer h24)) ?_
      refine LE.p (v := (Value.pointer (some (a23.add 2)))) (Wn.no rfl) rfl (R.fld (off := 2) fa63_1 rfl) ?_
      obtain ⟨t25, h26, h⟩ := h
      refine LE.r (v := (Value.bool t25)) (Wn.no rfl) rfl (R.ld sc4 rfl h26) ?_
      refine LE.nil ?_
      refine WE.condT rfl (b := t25) rfl ?_ ?_
      · intro hb27
        replace h := M.ite_t h hb27
        refine WE.reg ?_
        refine LE.p (v := (SV.v x5)) (Wn.no rfl) rfl (R.move f18) ?_
        refine LE.p (v := (Value.int .u32 p1)) (Wn.no rfl) rfl (R.move f16) ?_
        refine LE.p (v := (Value.int .i64 x7)) (Wn.no rfl) rfl (R.move f20) ?_
        refine LE.c (Wn.no rfl) rfl (R.call bd45 (Ls.cons rfl (Ls.cons rfl Ls.nil)) rfl) (Calls.mono h ?_)
        rintro _ w30 ⟨r28, r29, rfl, h⟩
        refine ⟨_, rfl, ?_⟩
        obtain ⟨b33, hpb33, w31, hww31, h⟩ := M.new_use h
        refine LE.r (v := (SV.v (SV.mk (some b33) 1 1))) (Wn.no rfl) rfl (R.bsl (by exact (Ls.cons (R.Pr rfl) Ls.nil)) (fun w => bs33_1 r28 r29 w) hpb33 hww31) ?_
        obtain ⟨s34, w35, h36, h⟩ := h
        refine LE.r (v := (SV.v s34)) (Wn.no rfl) rfl (R.app (s := x5) (r := s34) rfl rfl h36) ?_
        refine LE.p (v := (SV.v s34)) (Wn.no rfl) rfl (R.assign rfl) ?_
        refine LE.nil ?_
        exact ⟨_, h, f16, f17, rfl, f19, f20⟩
      · intro hb27
        replace h := M.ite_f h hb27
        refine WE.skip ?_
        exact ⟨_, h, f16, f17, f18, f19, f20⟩
    · rintro e37 w38 ⟨x22, h, f39, f40, f41, f42, f43⟩
      subst hJ21
      refine WE.seq ?_
      refine WE.seq ?_
      refine WE.reg ?_
      refine LE.p (v := (Value.int .i64 x7)) (Wn.no rfl) rfl (R.move f43) ?_
      refine LE.p (v := (Value.int .i64 p2)) (Wn.no rfl) rfl (R.move f40) ?_
      refine LE.p (v := (Value.bool (x7 == p2))) (Wn.no rfl) rfl (R.eql rfl rfl) ?_
      refine LE.nil ?_
      refine WE.condT rfl (b := (x7 == p2)) rfl ?_ ?_
      · intro hb44
        replace h := M.ite_t h hb44
        refine WE.exit ?_
        exact ⟨_, h, f41⟩
      · intro hb44
        replace h := M.ite_f h hb44
        refine WE.skip ?_
        refine WE.seq ?_
        refine WE.draw mix ?_
        obtain ⟨w45, hww45, h⟩ := M.drew_use h
        rw [← hww45]
        clear hww45
        refine DE.t 0 (v := (Value.pointer x6)) rfl (by kernel_rfl) (Wn.no rfl) rfl (R.move f42) ?_
        refine DE.t 1 (v := (Value.int .u32 p1)) rfl (by kernel_rfl) (Wn.no rfl) rfl (R.move f39) ?_
        refine DE.t 2 (v := (Value.int .i64 x7)) rfl (by kernel_rfl) (Wn.no rfl) rfl (R.move f43) ?_
        obtain ⟨a46, h47, h⟩ := h
        refine DE.t 4 (v := (Value.pointer (some a46))) rfl (by kernel_rfl) (Wn.no rfl) rfl (R.nilC (congrArg Value.pointer h47)) ?_
        refine DE.t 5 (v := (Value.pointer (some a46))) rfl (by kernel_rfl) (Wn.no rfl) rfl (R.fld (off := 0) fa63_0 rfl) ?_
        refine DE.main 3 (by kernel_rfl) ?_
        refine One.c 3 rfl (Wn.no rfl) rfl (R.call bd30 (Ls.cons rfl (Ls.cons rfl Ls.nil)) rfl) (Calls.mono h ?_)
        rintro _ w49 ⟨r48, rfl, h⟩
        refine ⟨_, rfl, trivial, ?_⟩
        obtain ⟨h50, h51, h⟩ := h
        refine DE.t 6 (v := (Value.pointer (some (a46.add (r48.toNat * 1))))) rfl (by kernel_rfl) (Wn.no rfl) rfl (R.idxArr ar61 rfl rfl h50 h51) ?_
        obtain ⟨t52, h53, h⟩ := h
        refine DE.main 7 (by kernel_rfl) ?_
        refine One.r 7 (v := (Value.pointer t52)) rfl (Wn.no rfl) rfl (R.ld sc60 rfl h53) (.inl rfl) ?_
        refine DE.t 8 (v := (Value.pointer t52)) rfl (by kernel_rfl) (Wn.no rfl) rfl (R.assign rfl) ?_
        refine DE.done (by kernel_rfl) ?_
        refine WE.seq ?_
        refine WE.reg ?_
        refine LE.p (v := (Value.pointer t52)) (Wn.no rfl) rfl (R.move rfl) ?_
        refine LE.p (v := (Value.bool (Option.isNone t52))) (Wn.no rfl) rfl (R.peqNil pt60 rfl rfl) ?_
        refine LE.nil ?_
        refine WE.condT rfl (b := (Option.isNone t52)) rfl ?_ ?_
        · intro hb54
          replace h := M.ite_t h hb54
          refine WE.exit ?_
          exact ⟨_, h, f41⟩
        · intro hb54
          replace h := M.ite_f h hb54
          refine WE.skip ?_
          refine WE.reg ?_
          refine LE.p (v := (Value.int .i64 x7)) (Wn.no rfl) rfl (R.move f43) ?_
          refine LE.p (v := (Value.int .i64 (IntKind.i64.wrap (x7 + (1 : Int))))) (Wn.no rfl) rfl (R.add rfl rfl) ?_
          refine LE.p (v := (Value.int .i64 (IntKind.i64.wrap (x7 + (1 : Int))))) (Wn.no rfl) rfl (R.assign rfl) ?_
          refine LE.nil ?_
          obtain ⟨m14, hm15, h⟩ := h
          exact ⟨m14, hm15, _, _, _, h, f39, f40, f41, rfl, rfl⟩
  · rintro e55 w56 ⟨x4, h, f57⟩
    subst hJ3
    refine WE.seq ?_
    refine WE.reg ?_
    refine LE.p (v := (SV.v x4)) (Wn.no rfl) rfl (R.move f57) ?_
    refine LE.p (v := (SV.v x4)) (Wn.no rfl) rfl (R.assign rfl) ?_
    refine LE.nil ?_
    refine WE.ret ?_
    exact ⟨_, (Res.tmp rfl Res.nil), _, rfl, h⟩
/-- The formula of signpost.signpostref1.Mask. -/
def F34 (p0 : Int) (K : Int → World → Prop) (w0 : World) : Prop :=
M.loop2 (fun (J3 : Int → Int → World → Prop) (x1 : Int) (x2 : Int) (w4 : World) => 
M.join (fun (x15 : Bool) (w18 : World) => 
M.ite x15 (
M.sh (IntKind.u64.wrap (IntKind.i64.wrap ((31 : Int) - x2))) <|
J3 (bOr .u32 x1 (bShl .u32 (1 : Int) (IntKind.u64.wrap (IntKind.i64.wrap ((31 : Int) - x2))))) (IntKind.i64.wrap (x2 + (1 : Int))) w18) (
K x1 w18)) fun J14 => 
M.ite (decide (x2 < p0)) (
J14 (decide (x2 < (32 : Int))) w4) (
J14 false w4)) (0 : Int) (0 : Int) w0
theorem F34_ok {w0 : World} {p0 : Int} {K : Int → World → Prop} (h : F34 p0 K w0) : Calls Try.prog 34 #[(Value.int .i64 p0)] w0 (R34 K) := by
  refine calls_of_WE (args := [(Value.int .i64 p0)]) (rs := [.tmp 2]) Try.func34 rfl (N := 21) rfl rfl rfl rfl ?_
  refine WE.seq ?_
  refine WE.reg ?_
  refine LE.p (v := (Value.int .u32 (0 : Int))) (Wn.no rfl) rfl (R.assign rfl) ?_
  refine LE.nil ?_
  refine WE.seq ?_
  refine WE.reg ?_
  refine LE.p (v := (Value.int .u32 (0 : Int))) (Wn.no rfl) rfl (R.assign rfl) ?_
  refine LE.nil ?_
  refine WE.seq ?_
  refine WE.seq ?_
  refine WE.reg ?_
  refine LE.p (v := (Value.int .i64 (0 : Int))) (Wn.no rfl) rfl (R.assign rfl) ?_
  refine LE.nil ?_
  refine WE.block ?_
  obtain ⟨I7, ⟨n6, h⟩, hr8⟩ := h
  refine WE.loop (fun n e w => ∃ (x1 : Int) (x2 : Int), I7 n x1 x2 w ∧ e 0 = (Value.int .i64 p0) ∧ e 3 = (Value.int .u32 x1) ∧ e 4 = (Value.int .i64 x2)) n6 ⟨_, _, h, rfl, rfl, rfl⟩ ?_
  clear h
  rintro n6 e5 w4 ⟨x1, x2, h, f11, f12, f13⟩
  replace h := hr8 n6 x1 x2 w4 h
  refine WE.seq ?_
  refine WE.seq ?_
  obtain ⟨J14, hJ14, h⟩ := M.join_use h
  refine WE.regJ (fun e w => ∃ (x15 : Bool), J14 x15 w ∧ e 0 = (Value.int .i64 p0) ∧ e 3 = (Value.int .u32 x1) ∧ e 4 = (Value.int .i64 x2) ∧ e 11 = (Value.bool x15)) ?_ ?_
  · clear hJ14
    refine LE.p (v := (Value.int .i64 x2)) (Wn.no rfl) rfl (R.move f13) ?_
    refine LE.p (v := (Value.int .i64 p0)) (Wn.no rfl) rfl (R.move f11) ?_
    refine LE.p (v := (Value.bool (decide (x2 < p0)))) (Wn.no rfl) rfl (R.lss rfl rfl) ?_
    refine LE.p (v := (Value.bool (decide (x2 < p0)))) (Wn.no rfl) rfl (R.move rfl) ?_
    rcases M.ite_use h with ⟨hb16, h⟩ | ⟨hb16, h⟩
    · refine LE.p (v := (Value.int .i64 x2)) (Wn.yes 3 8 true rfl rfl rfl (congrArg Value.bool hb16)) rfl (R.move f13) ?_
      refine LE.p (v := (Value.bool (decide (x2 < (32 : Int))))) (Wn.yes 3 8 true rfl rfl rfl (congrArg Value.bool hb16)) rfl (R.lss rfl rfl) ?_
      refine LE.p (v := (Value.bool (decide (x2 < (32 : Int))))) (Wn.no rfl) rfl (R.pickT (congrArg Value.bool hb16) rfl) ?_
      refine LE.nil ?_
      exact ⟨_, h, f11, f12, f13, rfl⟩
    · refine LE.u (Un.no 3 8 true rfl rfl rfl (congrArg Value.bool hb16)) ?_
      refine LE.u (Un.no 3 8 true rfl rfl rfl (congrArg Value.bool hb16)) ?_
      refine LE.p (v := (Value.bool false)) (Wn.no rfl) rfl (R.pickF (congrArg Value.bool hb16) rfl) ?_
      refine LE.nil ?_
      exact ⟨_, h, f11, f12, f13, rfl⟩
  · rintro e17 w18 ⟨x15, h, f19, f20, f21, f22⟩
    subst hJ14
    refine WE.condT rfl (b := x15) f22 ?_ ?_
    · intro hb23
      replace h := M.ite_t h hb23
      refine WE.skip ?_
      refine WE.seq ?_
      refine WE.block ?_
      refine WE.reg ?_
      refine LE.p (v := (Value.int .u32 x1)) (Wn.no rfl) rfl (R.move f20) ?_
      refine LE.p (v := (Value.int .i64 x2)) (Wn.no rfl) rfl (R.move f21) ?_
      refine LE.p (v := (Value.int .i64 (IntKind.i64.wrap ((31 : Int) - x2)))) (Wn.no rfl) rfl (R.sub rfl rfl) ?_
      refine LE.p (v := (Value.int .u64 (IntKind.u64.wrap (IntKind.i64.wrap ((31 : Int) - x2))))) (Wn.no rfl) rfl (R.conv in66 in3 rfl) ?_
      obtain ⟨h24, h⟩ := h
      refine LE.p (v := (Value.int .u32 (bShl .u32 (1 : Int) (IntKind.u64.wrap (IntKind.i64.wrap ((31 : Int) - x2)))))) (Wn.no rfl) rfl (R.shl rfl rfl h24) ?_
      refine LE.p (v := (Value.int .u32 (bOr .u32 x1 (bShl .u32 (1 : Int) (IntKind.u64.wrap (IntKind.i64.wrap ((31 : Int) - x2))))))) (Wn.no rfl) rfl (R.or rfl rfl) ?_
      refine LE.p (v := (Value.int .u32 (bOr .u32 x1 (bShl .u32 (1 : Int) (IntKind.u64.wrap (IntKind.i64.wrap ((31 : Int) - x2))))))) (Wn.no rfl) rfl (R.assign rfl) ?_
      refine LE.nil ?_
      refine WE.reg ?_
      refine LE.p (v := (Value.int .i64 x2)) (Wn.no rfl) rfl (R.move f21) ?_
      refine LE.p (v := (Value.int .i64 (IntKind.i64.wrap (x2 + (1 : Int))))) (Wn.no rfl) rfl (R.add rfl rfl) ?_
      refine LE.p (v := (Value.int .i64 (IntKind.i64.wrap (x2 + (1 : Int))))) (Wn.no rfl) rfl (R.assign rfl) ?_
      refine LE.nil ?_
      obtain ⟨m9, hm10, h⟩ := h
      exact ⟨m9, hm10, _, _, h, f19, rfl, rfl⟩
    · intro hb23
      replace h := M.ite_f h hb23
      refine WE.exit ?_
      refine WE.seq ?_
      refine WE.reg ?_
      refine LE.p (v := (Value.int .u32 x1)) (Wn.no rfl) rfl (R.move f20) ?_
      refine LE.p (v := (Value.int .u32 x1)) (Wn.no rfl) rfl (R.assign rfl) ?_
      refine LE.nil ?_
      refine WE.ret ?_
      exact ⟨_, (Res.tmp rfl Res.nil), _, rfl, h⟩
/-- The formula of (*signpost.trie.node).below. -/
def F35 (p0 : Option Addr) (p1_0 : Int) (p1_1 : Int) (p2 : SV) (K : SV → World → Prop) (w0 : World) : Prop :=
M.new (.cells #[(Value.int .u32 p1_0), (Value.int .i64 p1_1)] 27) w0 fun b2 w1 =>
M.ite (Option.isNone p0) (
K p2 w1) (
M.join (fun (x5 : SV) (w22 : World) => 
M.new (.cells #[(Value.bool false), (Value.bool true)] 4) w22 fun b28 w26 =>
M.loop2 (fun (J31 : SV → Int → World → Prop) (x29 : SV) (x30 : Int) (w32 : World) => 
M.ite (decide (x30 < ((SV.mk (some b28) 2 2).len : Int))) (
M.join (fun (x47 : SV) (w81 : World) => 
J31 x47 (IntKind.i64.wrap (x30 + (1 : Int))) w81) fun J46 => 
M.idx (SV.mk (some b28) 2 2) x30 1 fun a48 =>
M.ld Value.bool (a48.add (x30.toNat * 1)) w32 fun t52 =>
M.ld (Value.int .u32) b2 w32 fun t54 =>
M.ld (Value.int .i64) (b2.add 1) w32 fun t56 =>
Calls Try.prog 46 #[(Value.agg #[(Value.int .u32 t54), (Value.int .i64 t56)]), (Value.bool t52)] w32 (R46 fun r58 r59 r60 w61 =>
M.new (.cells #[(Value.int .u32 (0 : Int)), (Value.int .i64 (0 : Int))] 27) w61 fun b63 w62 =>
M.stA b63 [(Value.int .u32 r58), (Value.int .i64 r59)] w62 fun w64 =>
M.ite r60 (
M.drew w64 fun w67 => 
M.nil p0 fun a68 =>
M.inb x30 2 <|
M.ld Value.pointer (a68.add (x30.toNat * 1)) w67 fun t72 =>
M.ld (Value.int .u32) b63 w67 fun t74 =>
M.ld (Value.int .i64) (b63.add 1) w67 fun t76 =>
Calls Try.prog 35 #[(Value.pointer t72), (Value.agg #[(Value.int .u32 t74), (Value.int .i64 t76)]), (SV.v x29)] w67 (R35 fun r78 w79 =>
J46 r78 w79)) (
J46 x29 w64))) (
K x29 w32)) x5 (0 : Int) w26) fun J4 => 
M.nil p0 fun a6 =>
M.ld Value.bool (a6.add 2) w1 fun t8 =>
M.ite t8 (
M.ld (Value.int .u32) b2 w1 fun t11 =>
M.ld (Value.int .i64) (b2.add 1) w1 fun t13 =>
M.new (.cells #[(Value.int .u32 t11), (Value.int .i64 t13)] 27) w1 fun b17 w15 =>
M.app Try.prog 33 33 33 p2 (SV.v (SV.mk (some b17) 1 1)) w15 fun s18 w19 =>
J4 s18 w19) (
J4 p2 w1))
theorem F35_ok {w0 : World} {p0 : Option Addr} {p1_0 : Int} {p1_1 : Int} {p2 : SV} {K : SV → World → Prop} (h : F35 p0 p1_0 p1_1 p2 K w0) : Calls Try.prog 35 #[(Value.pointer p0), (Value.agg #[(Value.int .u32 p1_0), (Value.int .i64 p1_1)]), (SV.v p2)] w0 (R35 K) := by
  refine calls_of_WE (args := [(Value.pointer p0), (Value.agg #[(Value.int .u32 p1_0), (Value.int .i64 p1_1)]), (SV.v p2)]) (rs := [.tmp 6]) Try.func35 rfl (N := 47) rfl rfl rfl rfl ?_
  refine WE.seq ?_
  refine WE.reg ?_
  obtain ⟨b2, hpb2, w1, hww1, h⟩ := M.new_use h
  refine LE.r (v := (Value.pointer (some b2))) (Wn.no rfl) rfl (R.box (cs := #[(Value.int .u32 p1_0), (Value.int .i64 p1_1)]) rfl rfl hpb2 hww1) ?_
  refine LE.p (v := (SV.v SV.nil)) (Wn.no rfl) rfl (R.assign rfl) ?_
  refine LE.nil ?_
  refine WE.seq ?_
  refine WE.seq ?_
  refine WE.reg ?_
  refine LE.p (v := (Value.pointer p0)) (Wn.no rfl) rfl (R.move rfl) ?_
  refine LE.p (v := (Value.bool (Option.isNone p0))) (Wn.no rfl) rfl (R.peqNil pt60 rfl rfl) ?_
  refine LE.nil ?_
  refine WE.condT rfl (b := (Option.isNone p0)) rfl ?_ ?_
  · intro hb3
    replace h := M.ite_t h hb3
    refine WE.seq ?_
    refine WE.reg ?_
    refine LE.p (v := (SV.v p2)) (Wn.no rfl) rfl (R.move rfl) ?_
    refine LE.p (v := (SV.v p2)) (Wn.no rfl) rfl (R.assign rfl) ?_
    refine LE.nil ?_
    refine WE.ret ?_
    exact ⟨_, (Res.tmp rfl Res.nil), _, rfl, h⟩
  · intro hb3
    replace h := M.ite_f h hb3
    refine WE.skip ?_
    obtain ⟨J4, hJ4, h⟩ := M.join_use h
    refine WE.join (fun e w => ∃ (x5 : SV), J4 x5 w ∧ e 0 = (Value.pointer p0) ∧ e 2 = (SV.v x5) ∧ e 4 = (Value.pointer (some b2))) ?_ ?_
    · clear hJ4
      refine WE.seq ?_
      refine WE.reg ?_
      refine LE.p (v := (Value.pointer p0)) (Wn.no rfl) rfl (R.move rfl) ?_
      obtain ⟨a6, h7, h⟩ := h
      refine LE.p (v := (Value.pointer (some a6))) (Wn.no rfl) rfl (R.nilC (congrArg Value.pointer h7)) ?_
      refine LE.p (v := (Value.pointer (some (a6.add 2)))) (Wn.no rfl) rfl (R.fld (off := 2) fa63_1 rfl) ?_
      obtain ⟨t8, h9, h⟩ := h
      refine LE.r (v := (Value.bool t8)) (Wn.no rfl) rfl (R.ld sc4 rfl h9) ?_
      refine LE.nil ?_
      refine WE.condT rfl (b := t8) rfl ?_ ?_
      · intro hb10
        replace h := M.ite_t h hb10
        refine WE.reg ?_
        refine LE.p (v := (SV.v p2)) (Wn.no rfl) rfl (R.move rfl) ?_
        obtain ⟨t11, h12, h⟩ := h
        obtain ⟨t13, h14, h⟩ := h
        refine LE.r (v := (Value.agg #[(Value.int .u32 t11), (Value.int .i64 t13)])) (Wn.no rfl) rfl (R.ldA ag27 sz27 rfl rfl (Cs.cons h12 (Cs.cons h14 Cs.nil))) ?_
        obtain ⟨b17, hpb17, w15, hww15, h⟩ := M.new_use h
        refine LE.r (v := (SV.v (SV.mk (some b17) 1 1))) (Wn.no rfl) rfl (R.bsl (by exact (Ls.cons (R.Pr rfl) Ls.nil)) (fun w => bs33_1 t11 t13 w) hpb17 hww15) ?_
        obtain ⟨s18, w19, h20, h⟩ := h
        refine LE.r (v := (SV.v s18)) (Wn.no rfl) rfl (R.app (s := p2) (r := s18) rfl rfl h20) ?_
        refine LE.p (v := (SV.v s18)) (Wn.no rfl) rfl (R.assign rfl) ?_
        refine LE.nil ?_
        exact ⟨_, h, rfl, rfl, rfl⟩
      · intro hb10
        replace h := M.ite_f h hb10
        refine WE.skip ?_
        exact ⟨_, h, rfl, rfl, rfl⟩
    · rintro e21 w22 ⟨x5, h, f23, f24, f25⟩
      subst hJ4
      refine WE.seq ?_
      refine WE.seq ?_
      refine WE.reg ?_
      obtain ⟨b28, hpb28, w26, hww26, h⟩ := M.new_use h
      refine LE.r (v := (SV.v (SV.mk (some b28) 2 2))) (Wn.no rfl) rfl (R.bsl (by exact (Ls.cons (R.Pr rfl) (Ls.cons (R.Pr rfl) Ls.nil))) (fun w => bs74_2 false true w) hpb28 hww26) ?_
      refine LE.p (v := (Value.int .i64 ((SV.mk (some b28) 2 2).len : Int))) (Wn.no rfl) rfl (R.len sl74 rfl) ?_
      refine LE.p (v := (Value.int .i64 (0 : Int))) (Wn.no rfl) rfl (R.move rfl) ?_
      refine LE.nil ?_
      refine WE.block ?_
      obtain ⟨I35, ⟨n34, h⟩, hr36⟩ := h
      refine WE.loop (fun n e w => ∃ (x29 : SV) (x30 : Int), I35 n x29 x30 w ∧ e 0 = (Value.pointer p0) ∧ e 2 = (SV.v x29) ∧ e 4 = (Value.pointer (some b2)) ∧ e 22 = (SV.v (SV.mk (some b28) 2 2)) ∧ e 23 = (Value.int .i64 ((SV.mk (some b28) 2 2).len : Int)) ∧ e 24 = (Value.int .i64 x30)) n34 ⟨_, _, h, f23, f24, f25, rfl, rfl, rfl⟩ ?_
      clear h
      rintro n34 e33 w32 ⟨x29, x30, h, f39, f40, f41, f42, f43, f44⟩
      replace h := hr36 n34 x29 x30 w32 h
      refine WE.seq ?_
      refine WE.reg ?_
      refine LE.p (v := (Value.bool (decide (x30 < ((SV.mk (some b28) 2 2).len : Int))))) (Wn.no rfl) rfl (R.lss f44 f43) ?_
      refine LE.nil ?_
      refine WE.seq ?_
      refine WE.condT rfl (b := (decide (x30 < ((SV.mk (some b28) 2 2).len : Int)))) rfl ?_ ?_
      · intro hb45
        replace h := M.ite_t h hb45
        refine WE.skip ?_
        refine WE.seq ?_
        obtain ⟨J46, hJ46, h⟩ := M.join_use h
        refine WE.blkJ (fun e w => ∃ (x47 : SV), J46 x47 w ∧ e 0 = (Value.pointer p0) ∧ e 2 = (SV.v x47) ∧ e 4 = (Value.pointer (some b2)) ∧ e 22 = (SV.v (SV.mk (some b28) 2 2)) ∧ e 23 = (Value.int .i64 ((SV.mk (some b28) 2 2).len : Int)) ∧ e 24 = (Value.int .i64 x30)) ?_ ?_
        · clear hJ46
          refine WE.seq ?_
          refine WE.reg ?_
          refine LE.p (v := (Value.int .i64 x30)) (Wn.no rfl) rfl (R.move f44) ?_
          obtain ⟨a48, h49, h50, h51, h⟩ := h
          refine LE.p (v := (Value.pointer (some (a48.add (x30.toNat * 1))))) (Wn.no rfl) rfl (R.idx (s := (SV.mk (some b28) 2 2)) sl74 f42 f44 h49 h50 h51) ?_
          obtain ⟨t52, h53, h⟩ := h
          refine LE.r (v := (Value.bool t52)) (Wn.no rfl) rfl (R.ld sc4 rfl h53) ?_
          refine LE.p (v := (Value.int .i64 x30)) (Wn.no rfl) rfl (R.assign rfl) ?_
          refine LE.p (v := (Value.bool t52)) (Wn.no rfl) rfl (R.assign rfl) ?_
          refine LE.nil ?_
          refine WE.seq ?_
          refine WE.reg ?_
          obtain ⟨t54, h55, h⟩ := h
          obtain ⟨t56, h57, h⟩ := h
          refine LE.r (v := (Value.agg #[(Value.int .u32 t54), (Value.int .i64 t56)])) (Wn.no rfl) rfl (R.ldA ag27 sz27 f41 rfl (Cs.cons h55 (Cs.cons h57 Cs.nil))) ?_
          refine LE.p (v := (Value.bool t52)) (Wn.no rfl) rfl (R.move rfl) ?_
          refine LE.c (Wn.no rfl) rfl (R.call bd46 (Ls.cons rfl (Ls.cons rfl Ls.nil)) rfl) (Calls.mono h ?_)
          rintro _ w61 ⟨r58, r59, r60, rfl, h⟩
          refine ⟨_, rfl, ?_⟩
          refine LE.p (v := (Value.tuple #[(Value.agg #[(Value.int .u32 r58), (Value.int .i64 r59)]), (Value.bool r60)])) (Wn.no rfl) rfl (R.move rfl) ?_
          refine LE.p (v := (Value.agg #[(Value.int .u32 r58), (Value.int .i64 r59)])) (Wn.no rfl) rfl (R.ext rfl rfl) ?_
          refine LE.p (v := (Value.bool r60)) (Wn.no rfl) rfl (R.ext rfl rfl) ?_
          obtain ⟨b63, hpb63, w62, hww62, h⟩ := M.new_use h
          refine LE.r (v := (Value.pointer (some b63))) (Wn.no rfl) rfl (R.alloc (cs := #[(Value.int .u32 (0 : Int)), (Value.int .i64 (0 : Int))]) ze27 rfl hpb63 hww62) ?_
          obtain ⟨w64, hww64, h65, h⟩ := M.stA_use h
          refine LE.s (Wn.no rfl) rfl (R.stA (a := b63) [(Value.int .u32 r58), (Value.int .i64 r59)] sz27 rfl rfl rfl (by simp [Value.oneCell']) h65 hww64) ?_
          refine LE.p (v := (Value.bool r60)) (Wn.no rfl) rfl (R.assign rfl) ?_
          refine LE.nil ?_
          refine WE.seq ?_
          refine WE.reg ?_
          refine LE.p (v := (Value.bool r60)) (Wn.no rfl) rfl (R.move rfl) ?_
          refine LE.nil ?_
          refine WE.condT rfl (b := r60) rfl ?_ ?_
          · intro hb66
            replace h := M.ite_t h hb66
            refine WE.draw mix ?_
            obtain ⟨w67, hww67, h⟩ := M.drew_use h
            rw [← hww67]
            clear hww67
            refine DE.t 0 (v := (Value.pointer p0)) rfl (by kernel_rfl) (Wn.no rfl) rfl (R.move f39) ?_
            refine DE.t 1 (v := (Value.int .i64 x30)) rfl (by kernel_rfl) (Wn.no rfl) rfl (R.move rfl) ?_
            obtain ⟨a68, h69, h⟩ := h
            refine DE.t 2 (v := (Value.pointer (some a68))) rfl (by kernel_rfl) (Wn.no rfl) rfl (R.nilC (congrArg Value.pointer h69)) ?_
            refine DE.t 3 (v := (Value.pointer (some a68))) rfl (by kernel_rfl) (Wn.no rfl) rfl (R.fld (off := 0) fa63_0 rfl) ?_
            obtain ⟨h70, h71, h⟩ := h
            refine DE.t 4 (v := (Value.pointer (some (a68.add (x30.toNat * 1))))) rfl (by kernel_rfl) (Wn.no rfl) rfl (R.idxArr ar61 rfl rfl h70 h71) ?_
            refine DE.t 7 (v := (SV.v x29)) rfl (by kernel_rfl) (Wn.no rfl) rfl (R.move f40) ?_
            obtain ⟨t72, h73, h⟩ := h
            refine DE.hold 5 (fun w => w.cell? (a68.add (x30.toNat * 1)) = some (Value.pointer t72)) (v := (Value.pointer t72)) rfl (by kernel_rfl) (Wn.no rfl) rfl h73 (fun w hs => R.ld sc60 rfl hs) ?_
            obtain ⟨t74, h75, h⟩ := h
            obtain ⟨t76, h77, h⟩ := h
            refine DE.main 6 (by kernel_rfl) ?_
            refine One.r 6 (v := (Value.agg #[(Value.int .u32 t74), (Value.int .i64 t76)])) rfl (Wn.no rfl) rfl (R.ldA ag27 sz27 rfl rfl (Cs.cons h75 (Cs.cons h77 Cs.nil))) (.inl rfl) ?_
            refine DE.main 8 (by kernel_rfl) ?_
            refine One.c 8 rfl (Wn.no rfl) rfl (R.call bd35 (Ls.cons rfl (Ls.cons rfl (Ls.cons rfl Ls.nil))) rfl) (Calls.mono h ?_)
            rintro _ w79 ⟨r78, rfl, h⟩
            refine ⟨_, rfl, ⟨aftT (by kernel_rfl), trivial⟩, ?_⟩
            refine DE.t 9 (v := (SV.v r78)) rfl (by kernel_rfl) (Wn.no rfl) rfl (R.assign rfl) ?_
            refine DE.done (by kernel_rfl) ?_
            exact ⟨_, h, f39, rfl, f41, f42, f43, f44⟩
          · intro hb66
            replace h := M.ite_f h hb66
            refine WE.skip ?_
            exact ⟨_, h, f39, f40, f41, f42, f43, f44⟩
        · rintro e80 w81 ⟨x47, h, f82, f83, f84, f85, f86, f87⟩
          subst hJ46
          refine WE.reg ?_
          refine LE.p (v := (Value.int .i64 (IntKind.i64.wrap (x30 + (1 : Int))))) (Wn.no rfl) rfl (R.add f87 rfl) ?_
          refine LE.p (v := (Value.int .i64 (IntKind.i64.wrap (x30 + (1 : Int))))) (Wn.no rfl) rfl (R.move rfl) ?_
          refine LE.nil ?_
          obtain ⟨m37, hm38, h⟩ := h
          exact ⟨m37, hm38, _, _, h, f82, f83, f84, f85, f86, rfl⟩
      · intro hb45
        replace h := M.ite_f h hb45
        refine WE.exit ?_
        refine WE.seq ?_
        refine WE.reg ?_
        refine LE.p (v := (SV.v x29)) (Wn.no rfl) rfl (R.move f40) ?_
        refine LE.p (v := (SV.v x29)) (Wn.no rfl) rfl (R.assign rfl) ?_
        refine LE.nil ?_
        refine WE.ret ?_
        exact ⟨_, (Res.tmp rfl Res.nil), _, rfl, h⟩
/-- The formula of (*signpost.trie.node).empty. -/
def F36 (p0 : Option Addr) (K : Bool → World → Prop) (w0 : World) : Prop :=
M.join (fun (x2 : Bool) (w22 : World) => 
K x2 w22) fun J1 => 
M.nil p0 fun a3 =>
M.ld Value.bool (a3.add 2) w0 fun t5 =>
M.ite (!t5) (
M.nil p0 fun a8 =>
M.inb (0 : Int) 2 <|
M.ld Value.pointer (a8.add ((0 : Int).toNat * 1)) w0 fun t12 =>
M.ite (Option.isNone t12) (
M.nil p0 fun a15 =>
M.inb (1 : Int) 2 <|
M.ld Value.pointer (a15.add ((1 : Int).toNat * 1)) w0 fun t19 =>
J1 (Option.isNone t19) w0) (
J1 false w0)) (
J1 false w0)
theorem F36_ok {w0 : World} {p0 : Option Addr} {K : Bool → World → Prop} (h : F36 p0 K w0) : Calls Try.prog 36 #[(Value.pointer p0)] w0 (R36 K) := by
  refine calls_of_WE (args := [(Value.pointer p0)]) (rs := [.tmp 2]) Try.func36 rfl (N := 24) rfl rfl rfl rfl ?_
  refine WE.seq ?_
  refine WE.reg ?_
  refine LE.p (v := (Value.bool false)) (Wn.no rfl) rfl (R.assign rfl) ?_
  refine LE.nil ?_
  refine WE.seq ?_
  obtain ⟨J1, hJ1, h⟩ := M.join_use h
  refine WE.regJ (fun e w => ∃ (x2 : Bool), J1 x2 w ∧ e 2 = (Value.bool x2)) ?_ ?_
  · clear hJ1
    refine LE.p (v := (Value.pointer p0)) (Wn.no rfl) rfl (R.move rfl) ?_
    obtain ⟨a3, h4, h⟩ := h
    refine LE.p (v := (Value.pointer (some a3))) (Wn.no rfl) rfl (R.nilC (congrArg Value.pointer h4)) ?_
    refine LE.p (v := (Value.pointer (some (a3.add 2)))) (Wn.no rfl) rfl (R.fld (off := 2) fa63_1 rfl) ?_
    obtain ⟨t5, h6, h⟩ := h
    refine LE.r (v := (Value.bool t5)) (Wn.no rfl) rfl (R.ld sc4 rfl h6) ?_
    refine LE.p (v := (Value.bool (!t5))) (Wn.no rfl) rfl (R.not rfl) ?_
    refine LE.p (v := (Value.bool (!t5))) (Wn.no rfl) rfl (R.move rfl) ?_
    rcases M.ite_use h with ⟨hb7, h⟩ | ⟨hb7, h⟩
    · refine LE.p (v := (Value.pointer p0)) (Wn.yes 5 8 true rfl rfl rfl (congrArg Value.bool hb7)) rfl (R.move rfl) ?_
      obtain ⟨a8, h9, h⟩ := h
      refine LE.p (v := (Value.pointer (some a8))) (Wn.yes 5 8 true rfl rfl rfl (congrArg Value.bool hb7)) rfl (R.nilC (congrArg Value.pointer h9)) ?_
      refine LE.p (v := (Value.pointer (some a8))) (Wn.yes 5 8 true rfl rfl rfl (congrArg Value.bool hb7)) rfl (R.fld (off := 0) fa63_0 rfl) ?_
      obtain ⟨h10, h11, h⟩ := h
      refine LE.p (v := (Value.pointer (some (a8.add ((0 : Int).toNat * 1))))) (Wn.yes 5 8 true rfl rfl rfl (congrArg Value.bool hb7)) rfl (R.idxArr ar61 rfl rfl h10 h11) ?_
      obtain ⟨t12, h13, h⟩ := h
      refine LE.r (v := (Value.pointer t12)) (Wn.yes 5 8 true rfl rfl rfl (congrArg Value.bool hb7)) rfl (R.ld sc60 rfl h13) ?_
      refine LE.p (v := (Value.bool (Option.isNone t12))) (Wn.yes 5 8 true rfl rfl rfl (congrArg Value.bool hb7)) rfl (R.peqNil pt60 rfl rfl) ?_
      refine LE.p (v := (Value.bool (Option.isNone t12))) (Wn.no rfl) rfl (R.pickT (congrArg Value.bool hb7) rfl) ?_
      refine LE.p (v := (Value.bool (Option.isNone t12))) (Wn.no rfl) rfl (R.move rfl) ?_
      rcases M.ite_use h with ⟨hb14, h⟩ | ⟨hb14, h⟩
      · refine LE.p (v := (Value.pointer p0)) (Wn.yes 13 16 true rfl rfl rfl (congrArg Value.bool hb14)) rfl (R.move rfl) ?_
        obtain ⟨a15, h16, h⟩ := h
        refine LE.p (v := (Value.pointer (some a15))) (Wn.yes 13 16 true rfl rfl rfl (congrArg Value.bool hb14)) rfl (R.nilC (congrArg Value.pointer h16)) ?_
        refine LE.p (v := (Value.pointer (some a15))) (Wn.yes 13 16 true rfl rfl rfl (congrArg Value.bool hb14)) rfl (R.fld (off := 0) fa63_0 rfl) ?_
        obtain ⟨h17, h18, h⟩ := h
        refine LE.p (v := (Value.pointer (some (a15.add ((1 : Int).toNat * 1))))) (Wn.yes 13 16 true rfl rfl rfl (congrArg Value.bool hb14)) rfl (R.idxArr ar61 rfl rfl h17 h18) ?_
        obtain ⟨t19, h20, h⟩ := h
        refine LE.r (v := (Value.pointer t19)) (Wn.yes 13 16 true rfl rfl rfl (congrArg Value.bool hb14)) rfl (R.ld sc60 rfl h20) ?_
        refine LE.p (v := (Value.bool (Option.isNone t19))) (Wn.yes 13 16 true rfl rfl rfl (congrArg Value.bool hb14)) rfl (R.peqNil pt60 rfl rfl) ?_
        refine LE.p (v := (Value.bool (Option.isNone t19))) (Wn.no rfl) rfl (R.pickT (congrArg Value.bool hb14) rfl) ?_
        refine LE.p (v := (Value.bool (Option.isNone t19))) (Wn.no rfl) rfl (R.assign rfl) ?_
        refine LE.nil ?_
        exact ⟨_, h, rfl⟩
      · refine LE.u (Un.no 13 16 true rfl rfl rfl (congrArg Value.bool hb14)) ?_
        refine LE.u (Un.no 13 16 true rfl rfl rfl (congrArg Value.bool hb14)) ?_
        refine LE.u (Un.no 13 16 true rfl rfl rfl (congrArg Value.bool hb14)) ?_
        refine LE.u (Un.no 13 16 true rfl rfl rfl (congrArg Value.bool hb14)) ?_
        refine LE.u (Un.no 13 16 true rfl rfl rfl (congrArg Value.bool hb14)) ?_
        refine LE.u (Un.no 13 16 true rfl rfl rfl (congrArg Value.bool hb14)) ?_
        refine LE.p (v := (Value.bool false)) (Wn.no rfl) rfl (R.pickF (congrArg Value.bool hb14) rfl) ?_
        refine LE.p (v := (Value.bool false)) (Wn.no rfl) rfl (R.assign rfl) ?_
        refine LE.nil ?_
        exact ⟨_, h, rfl⟩
    · refine LE.u (Un.no 5 8 true rfl rfl rfl (congrArg Value.bool hb7)) ?_
      refine LE.u (Un.no 5 8 true rfl rfl rfl (congrArg Value.bool hb7)) ?_
      refine LE.u (Un.no 5 8 true rfl rfl rfl (congrArg Value.bool hb7)) ?_
      refine LE.u (Un.no 5 8 true rfl rfl rfl (congrArg Value.bool hb7)) ?_
      refine LE.u (Un.no 5 8 true rfl rfl rfl (congrArg Value.bool hb7)) ?_
      refine LE.u (Un.no 5 8 true rfl rfl rfl (congrArg Value.bool hb7)) ?_
      refine LE.p (v := (Value.bool false)) (Wn.no rfl) rfl (R.pickF (congrArg Value.bool hb7) rfl) ?_
      refine LE.p (v := (Value.bool false)) (Wn.no rfl) rfl (R.move rfl) ?_
      refine LE.u (Un.no 13 16 true rfl rfl rfl rfl) ?_
      refine LE.u (Un.no 13 16 true rfl rfl rfl rfl) ?_
      refine LE.u (Un.no 13 16 true rfl rfl rfl rfl) ?_
      refine LE.u (Un.no 13 16 true rfl rfl rfl rfl) ?_
      refine LE.u (Un.no 13 16 true rfl rfl rfl rfl) ?_
      refine LE.u (Un.no 13 16 true rfl rfl rfl rfl) ?_
      refine LE.p (v := (Value.bool false)) (Wn.no rfl) rfl (R.pickF rfl rfl) ?_
      refine LE.p (v := (Value.bool false)) (Wn.no rfl) rfl (R.assign rfl) ?_
      refine LE.nil ?_
      exact ⟨_, h, rfl⟩
  · rintro e21 w22 ⟨x2, h, f23⟩
    subst hJ1
    refine WE.ret ?_
    exact ⟨_, (Res.tmp f23 Res.nil), _, rfl, h⟩
/-- The formula of signpost.signpostlaw3.prefix. -/
def F37 (p0_0 : Int) (p0_1 : Int) (p0_2 : Int) (p0_3 : Int) (p0_4 : Bool) (K : Int → Int → World → Prop) (w0 : World) : Prop :=
M.new (.cells #[(Value.int .i64 p0_0), (Value.int .i64 p0_1), (Value.int .i64 p0_2), (Value.int .u32 p0_3), (Value.bool p0_4)] 30) w0 fun b2 w1 =>
M.new (.cells #[(Value.int .u32 (0 : Int)), (Value.int .i64 (0 : Int))] 27) w1 fun b4 w3 =>
M.ld Value.bool (b2.add 4) w3 fun t5 =>
M.ite t5 (
M.ld (Value.int .u32) (b2.add 3) w3 fun t8 =>
M.ld (Value.int .i64) (b2.add 1) w3 fun t10 =>
Calls Try.prog 11 #[(Value.int .u32 t8), (Value.int .i64 t10)] w3 (R11 fun r12 r13 w14 =>
M.stA b4 [(Value.int .u32 r12), (Value.int .i64 r13)] w14 fun w15 =>
M.ld (Value.int .u32) b4 w15 fun t17 =>
M.ld (Value.int .i64) (b4.add 1) w15 fun t19 =>
K t17 t19 w15)) (
M.ld (Value.int .u32) (b2.add 3) w3 fun t21 =>
M.ld (Value.int .i64) (b2.add 1) w3 fun t23 =>
M.stA b4 [(Value.int .u32 t21), (Value.int .i64 t23)] w3 fun w25 =>
M.ld (Value.int .u32) b4 w25 fun t27 =>
M.ld (Value.int .i64) (b4.add 1) w25 fun t29 =>
K t27 t29 w25)
theorem F37_ok {w0 : World} {p0_0 : Int} {p0_1 : Int} {p0_2 : Int} {p0_3 : Int} {p0_4 : Bool} {K : Int → Int → World → Prop} (h : F37 p0_0 p0_1 p0_2 p0_3 p0_4 K w0) : Calls Try.prog 37 #[(Value.agg #[(Value.int .i64 p0_0), (Value.int .i64 p0_1), (Value.int .i64 p0_2), (Value.int .u32 p0_3), (Value.bool p0_4)])] w0 (R37 K) := by
  refine calls_of_WE (args := [(Value.agg #[(Value.int .i64 p0_0), (Value.int .i64 p0_1), (Value.int .i64 p0_2), (Value.int .u32 p0_3), (Value.bool p0_4)])]) (rs := [.cell 2 27]) Try.func37 rfl (N := 15) rfl rfl rfl rfl ?_
  refine WE.seq ?_
  refine WE.reg ?_
  obtain ⟨b2, hpb2, w1, hww1, h⟩ := M.new_use h
  refine LE.r (v := (Value.pointer (some b2))) (Wn.no rfl) rfl (R.box (cs := #[(Value.int .i64 p0_0), (Value.int .i64 p0_1), (Value.int .i64 p0_2), (Value.int .u32 p0_3), (Value.bool p0_4)]) rfl rfl hpb2 hww1) ?_
  obtain ⟨b4, hpb4, w3, hww3, h⟩ := M.new_use h
  refine LE.r (v := (Value.pointer (some b4))) (Wn.no rfl) rfl (R.alloc (cs := #[(Value.int .u32 (0 : Int)), (Value.int .i64 (0 : Int))]) ze27 rfl hpb4 hww3) ?_
  refine LE.nil ?_
  refine WE.seq ?_
  refine WE.seq ?_
  refine WE.reg ?_
  refine LE.p (v := (Value.pointer (some (b2.add 4)))) (Wn.no rfl) rfl (R.fld (off := 4) fa30_4 rfl) ?_
  obtain ⟨t5, h6, h⟩ := h
  refine LE.r (v := (Value.bool t5)) (Wn.no rfl) rfl (R.ld sc4 rfl h6) ?_
  refine LE.nil ?_
  refine WE.condT rfl (b := t5) rfl ?_ ?_
  · intro hb7
    replace h := M.ite_t h hb7
    refine WE.seq ?_
    refine WE.reg ?_
    refine LE.p (v := (Value.pointer (some (b2.add 3)))) (Wn.no rfl) rfl (R.fld (off := 3) fa30_3 rfl) ?_
    obtain ⟨t8, h9, h⟩ := h
    refine LE.r (v := (Value.int .u32 t8)) (Wn.no rfl) rfl (R.ld sc25 rfl h9) ?_
    refine LE.p (v := (Value.pointer (some (b2.add 1)))) (Wn.no rfl) rfl (R.fld (off := 1) fa30_1 rfl) ?_
    obtain ⟨t10, h11, h⟩ := h
    refine LE.r (v := (Value.int .i64 t10)) (Wn.no rfl) rfl (R.ld sc3 rfl h11) ?_
    refine LE.c (Wn.no rfl) rfl (R.call bd11 (Ls.cons rfl (Ls.cons rfl Ls.nil)) rfl) (Calls.mono h ?_)
    rintro _ w14 ⟨r12, r13, rfl, h⟩
    refine ⟨_, rfl, ?_⟩
    obtain ⟨w15, hww15, h16, h⟩ := M.stA_use h
    refine LE.s (Wn.no rfl) rfl (R.stA (a := b4) [(Value.int .u32 r12), (Value.int .i64 r13)] sz27 rfl rfl rfl (by simp [Value.oneCell']) h16 hww15) ?_
    refine LE.nil ?_
    refine WE.ret ?_
    obtain ⟨t17, h18, h⟩ := h
    obtain ⟨t19, h20, h⟩ := h
    exact ⟨_, (Res.cell rfl (R.ldCellA ag27 sz27 rfl (Cs.cons h18 (Cs.cons h20 Cs.nil))) Res.nil), _, _, rfl, h⟩
  · intro hb7
    replace h := M.ite_f h hb7
    refine WE.skip ?_
    refine WE.seq ?_
    refine WE.reg ?_
    refine LE.p (v := (Value.pointer (some (b2.add 3)))) (Wn.no rfl) rfl (R.fld (off := 3) fa30_3 rfl) ?_
    obtain ⟨t21, h22, h⟩ := h
    refine LE.r (v := (Value.int .u32 t21)) (Wn.no rfl) rfl (R.ld sc25 rfl h22) ?_
    refine LE.p (v := (Value.pointer (some (b2.add 1)))) (Wn.no rfl) rfl (R.fld (off := 1) fa30_1 rfl) ?_
    obtain ⟨t23, h24, h⟩ := h
    refine LE.r (v := (Value.int .i64 t23)) (Wn.no rfl) rfl (R.ld sc3 rfl h24) ?_
    refine LE.p (v := (Value.agg #[(Value.int .u32 t21), (Value.int .i64 t23)])) (Wn.no rfl) rfl (R.bld (by exact (Ls.cons (R.Pr rfl) (Ls.cons (R.Pr rfl) Ls.nil))) (fun w => bu27_0_1 t21 t23 w)) ?_
    obtain ⟨w25, hww25, h26, h⟩ := M.stA_use h
    refine LE.s (Wn.no rfl) rfl (R.stA (a := b4) [(Value.int .u32 t21), (Value.int .i64 t23)] sz27 rfl rfl rfl (by simp [Value.oneCell']) h26 hww25) ?_
    refine LE.nil ?_
    refine WE.ret ?_
    obtain ⟨t27, h28, h⟩ := h
    obtain ⟨t29, h30, h⟩ := h
    exact ⟨_, (Res.cell rfl (R.ldCellA ag27 sz27 rfl (Cs.cons h28 (Cs.cons h30 Cs.nil))) Res.nil), _, _, rfl, h⟩
/-- The formula of (*signpost.signpostref3.Trie).Put. -/
def F38 (p0 : Option Addr) (p1_0 : Int) (p1_1 : Int) (p2 : Int) (K : Bool → World → Prop) (w0 : World) : Prop :=
M.new (.cells #[(Value.int .u32 p1_0), (Value.int .i64 p1_1)] 27) w0 fun b2 w1 =>
M.ld (Value.int .u32) b2 w1 fun t3 =>
M.ld (Value.int .i64) (b2.add 1) w1 fun t5 =>
Calls Try.prog 32 #[(Value.agg #[(Value.int .u32 t3), (Value.int .i64 t5)])] w1 (R32 fun r7 w8 =>
M.ite (!r7) (
K false w8) (
M.ld (Value.int .u32) b2 w8 fun t10 =>
M.ld (Value.int .i64) (b2.add 1) w8 fun t12 =>
Calls Try.prog 47 #[(Value.pointer p0), (Value.agg #[(Value.int .u32 t10), (Value.int .i64 t12)])] w8 (R47 fun r14 w15 =>
M.ite (decide ((0 : Int) ≤ r14)) (
M.nil p0 fun a17 =>
M.ld SV.v (a17.add 1) w15 fun t19 =>
M.idx t19 r14 1 fun a21 =>
M.st (a21.add (r14.toNat * 1)) (Value.int .i64 p2) w15 fun w25 =>
K false w25) (
M.loop1 (fun (J29 : Int → World → Prop) (x28 : Int) (w30 : World) => 
M.join (fun (x42 : Bool) (w68 : World) => 
M.ite x42 (
J29 (IntKind.i64.wrap (x28 + (1 : Int))) w68) (
M.join (fun (w181 : World) => 
M.join (fun (w277 : World) => 
K true w277) fun J185 => 
M.drew w181 fun w186 => 
M.nil p0 fun a187 =>
M.nil p0 fun a189 =>
M.ld SV.v (a187.add 1) w186 fun t191 =>
M.bnd (0 : Int) x28 t191 <|
M.ld SV.v (a189.add 1) w186 fun t197 =>
M.bnd x28 (t197.len : Int) t197 <|
M.both (
M.new (.cells #[] 3) w186 fun b205 w203 =>
M.keep (w203.cell? (a189.add 1) = some (SV.v t197)) <|
M.keep (w203.cell? (a187.add 1) = some (SV.v t191)) <|
M.both (
M.app Try.prog 53 53 53 (SV.mk (some b205) 0 0) (SV.v (SV.sub t191 (Int.toNat (0 : Int)) (Int.toNat x28) 1)) w203 fun s208 w209 =>
M.keep (w209.cell? (a189.add 1) = some (SV.v t197)) <|
M.new (.cells #[(Value.int .i64 p2)] 3) w209 fun b214 w212 =>
M.keep (w212.cell? (a189.add 1) = some (SV.v t197)) <|
M.keep (w212.cell? (a187.add 1) = some (SV.v t191)) <|
M.app Try.prog 53 53 53 s208 (SV.v (SV.mk (some b214) 1 1)) w212 fun s217 w218 =>
M.keep (w218.cell? (a189.add 1) = some (SV.v t197)) <|
M.app Try.prog 53 53 53 s217 (SV.v (SV.sub t197 (Int.toNat x28) (Int.toNat (t197.len : Int)) 1)) w218 fun s221 w222 =>
M.nil p0 fun a224 =>
M.st (a224.add 1) (SV.v s221) w222 fun w226 =>
J185 w226) (
M.new (.cells #[(Value.int .i64 p2)] 3) w203 fun b231 w229 =>
M.keep (w229.cell? (a189.add 1) = some (SV.v t197)) <|
M.keep (w229.cell? (a187.add 1) = some (SV.v t191)) <|
M.app Try.prog 53 53 53 (SV.mk (some b205) 0 0) (SV.v (SV.sub t191 (Int.toNat (0 : Int)) (Int.toNat x28) 1)) w229 fun s234 w235 =>
M.keep (w235.cell? (a189.add 1) = some (SV.v t197)) <|
M.app Try.prog 53 53 53 s234 (SV.v (SV.mk (some b231) 1 1)) w235 fun s238 w239 =>
M.keep (w239.cell? (a189.add 1) = some (SV.v t197)) <|
M.app Try.prog 53 53 53 s238 (SV.v (SV.sub t197 (Int.toNat x28) (Int.toNat (t197.len : Int)) 1)) w239 fun s242 w243 =>
M.nil p0 fun a245 =>
M.st (a245.add 1) (SV.v s242) w243 fun w247 =>
J185 w247)) (
M.new (.cells #[(Value.int .i64 p2)] 3) w186 fun b252 w250 =>
M.keep (w250.cell? (a189.add 1) = some (SV.v t197)) <|
M.keep (w250.cell? (a187.add 1) = some (SV.v t191)) <|
M.new (.cells #[] 3) w250 fun b257 w255 =>
M.keep (w255.cell? (a189.add 1) = some (SV.v t197)) <|
M.keep (w255.cell? (a187.add 1) = some (SV.v t191)) <|
M.app Try.prog 53 53 53 (SV.mk (some b257) 0 0) (SV.v (SV.sub t191 (Int.toNat (0 : Int)) (Int.toNat x28) 1)) w255 fun s260 w261 =>
M.keep (w261.cell? (a189.add 1) = some (SV.v t197)) <|
M.app Try.prog 53 53 53 s260 (SV.v (SV.mk (some b252) 1 1)) w261 fun s264 w265 =>
M.keep (w265.cell? (a189.add 1) = some (SV.v t197)) <|
M.app Try.prog 53 53 53 s264 (SV.v (SV.sub t197 (Int.toNat x28) (Int.toNat (t197.len : Int)) 1)) w265 fun s268 w269 =>
M.nil p0 fun a271 =>
M.st (a271.add 1) (SV.v s268) w269 fun w273 =>
J185 w273)) fun J75 => 
M.drew w68 fun w76 => 
M.nil p0 fun a77 =>
M.nil p0 fun a79 =>
M.ld SV.v a77 w76 fun t81 =>
M.bnd (0 : Int) x28 t81 <|
M.ld (Value.int .u32) b2 w76 fun t87 =>
M.ld (Value.int .i64) (b2.add 1) w76 fun t89 =>
M.ld SV.v a79 w76 fun t91 =>
M.bnd x28 (t91.len : Int) t91 <|
M.both (
M.new (.cells #[] 27) w76 fun b99 w97 =>
M.keep (w97.cell? a79 = some (SV.v t91)) <|
M.keep (w97.cell? b2 = some (Value.int .u32 t87)) <|
M.keep (w97.cell? (b2.add 1) = some (Value.int .i64 t89)) <|
M.keep (w97.cell? a77 = some (SV.v t81)) <|
M.both (
M.app Try.prog 33 33 33 (SV.mk (some b99) 0 0) (SV.v (SV.sub t81 (Int.toNat (0 : Int)) (Int.toNat x28) 2)) w97 fun s104 w105 =>
M.keep (w105.cell? a79 = some (SV.v t91)) <|
M.keep (w105.cell? b2 = some (Value.int .u32 t87)) <|
M.keep (w105.cell? (b2.add 1) = some (Value.int .i64 t89)) <|
M.new (.cells #[(Value.int .u32 t87), (Value.int .i64 t89)] 27) w105 fun b112 w110 =>
M.keep (w110.cell? a79 = some (SV.v t91)) <|
M.keep (w110.cell? a77 = some (SV.v t81)) <|
M.app Try.prog 33 33 33 s104 (SV.v (SV.mk (some b112) 1 1)) w110 fun s115 w116 =>
M.keep (w116.cell? a79 = some (SV.v t91)) <|
M.app Try.prog 33 33 33 s115 (SV.v (SV.sub t91 (Int.toNat x28) (Int.toNat (t91.len : Int)) 2)) w116 fun s119 w120 =>
M.nil p0 fun a122 =>
M.st a122 (SV.v s119) w120 fun w124 =>
J75 w124) (
M.new (.cells #[(Value.int .u32 t87), (Value.int .i64 t89)] 27) w97 fun b129 w127 =>
M.keep (w127.cell? a79 = some (SV.v t91)) <|
M.keep (w127.cell? a77 = some (SV.v t81)) <|
M.app Try.prog 33 33 33 (SV.mk (some b99) 0 0) (SV.v (SV.sub t81 (Int.toNat (0 : Int)) (Int.toNat x28) 2)) w127 fun s132 w133 =>
M.keep (w133.cell? a79 = some (SV.v t91)) <|
M.keep (w133.cell? b2 = some (Value.int .u32 t87)) <|
M.keep (w133.cell? (b2.add 1) = some (Value.int .i64 t89)) <|
M.app Try.prog 33 33 33 s132 (SV.v (SV.mk (some b129) 1 1)) w133 fun s138 w139 =>
M.keep (w139.cell? a79 = some (SV.v t91)) <|
M.app Try.prog 33 33 33 s138 (SV.v (SV.sub t91 (Int.toNat x28) (Int.toNat (t91.len : Int)) 2)) w139 fun s142 w143 =>
M.nil p0 fun a145 =>
M.st a145 (SV.v s142) w143 fun w147 =>
J75 w147)) (
M.new (.cells #[(Value.int .u32 t87), (Value.int .i64 t89)] 27) w76 fun b152 w150 =>
M.keep (w150.cell? a79 = some (SV.v t91)) <|
M.keep (w150.cell? a77 = some (SV.v t81)) <|
M.new (.cells #[] 27) w150 fun b157 w155 =>
M.keep (w155.cell? a79 = some (SV.v t91)) <|
M.keep (w155.cell? b2 = some (Value.int .u32 t87)) <|
M.keep (w155.cell? (b2.add 1) = some (Value.int .i64 t89)) <|
M.keep (w155.cell? a77 = some (SV.v t81)) <|
M.app Try.prog 33 33 33 (SV.mk (some b157) 0 0) (SV.v (SV.sub t81 (Int.toNat (0 : Int)) (Int.toNat x28) 2)) w155 fun s162 w163 =>
M.keep (w163.cell? a79 = some (SV.v t91)) <|
M.keep (w163.cell? b2 = some (Value.int .u32 t87)) <|
M.keep (w163.cell? (b2.add 1) = some (Value.int .i64 t89)) <|
M.app Try.prog 33 33 33 s162 (SV.v (SV.mk (some b152) 1 1)) w163 fun s168 w169 =>
M.keep (w169.cell? a79 = some (SV.v t91)) <|
M.app Try.prog 33 33 33 s168 (SV.v (SV.sub t91 (Int.toNat x28) (Int.toNat (t91.len : Int)) 2)) w169 fun s172 w173 =>
M.nil p0 fun a175 =>
M.st a175 (SV.v s172) w173 fun w177 =>
J75 w177))) fun J41 => 
M.drew w30 fun w43 => 
M.nil p0 fun a44 =>
M.ld SV.v a44 w43 fun t46 =>
M.ite (decide (x28 < (t46.len : Int))) (
M.nil p0 fun a49 =>
M.ld SV.v a49 w43 fun t51 =>
M.idx t51 x28 2 fun a53 =>
M.ld (Value.int .u32) (a53.add (x28.toNat * 2)) w43 fun t57 =>
M.ld (Value.int .i64) ((a53.add (x28.toNat * 2)).add 1) w43 fun t59 =>
M.ld (Value.int .u32) b2 w43 fun t61 =>
M.ld (Value.int .i64) (b2.add 1) w43 fun t63 =>
Calls Try.prog 16 #[(Value.agg #[(Value.int .u32 t57), (Value.int .i64 t59)]), (Value.agg #[(Value.int .u32 t61), (Value.int .i64 t63)])] w43 (R16 fun r65 w66 =>
J41 r65 w66)) (
J41 false w43)) (0 : Int) w15))))
theorem F38_ok {w0 : World} {p0 : Option Addr} {p1_0 : Int} {p1_1 : Int} {p2 : Int} {K : Bool → World → Prop} (h : F38 p0 p1_0 p1_1 p2 K w0) : Calls Try.prog 38 #[(Value.pointer p0), (Value.agg #[(Value.int .u32 p1_0), (Value.int .i64 p1_1)]), (Value.int .i64 p2)] w0 (R38 K) := by
  refine calls_of_WE (args := [(Value.pointer p0), (Value.agg #[(Value.int .u32 p1_0), (Value.int .i64 p1_1)]), (Value.int .i64 p2)]) (rs := [.tmp 6]) Try.func38 rfl (N := 85) rfl rfl rfl rfl ?_
  refine WE.seq ?_
  refine WE.reg ?_
  obtain ⟨b2, hpb2, w1, hww1, h⟩ := M.new_use h
  refine LE.r (v := (Value.pointer (some b2))) (Wn.no rfl) rfl (R.box (cs := #[(Value.int .u32 p1_0), (Value.int .i64 p1_1)]) rfl rfl hpb2 hww1) ?_
  refine LE.p (v := (Value.bool false)) (Wn.no rfl) rfl (R.assign rfl) ?_
  refine LE.nil ?_
  refine WE.seq ?_
  refine WE.seq ?_
  refine WE.reg ?_
  obtain ⟨t3, h4, h⟩ := h
  obtain ⟨t5, h6, h⟩ := h
  refine LE.r (v := (Value.agg #[(Value.int .u32 t3), (Value.int .i64 t5)])) (Wn.no rfl) rfl (R.ldA ag27 sz27 rfl rfl (Cs.cons h4 (Cs.cons h6 Cs.nil))) ?_
  refine LE.c (Wn.no rfl) rfl (R.call bd32 (Ls.cons rfl Ls.nil) rfl) (Calls.mono h ?_)
  rintro _ w8 ⟨r7, rfl, h⟩
  refine ⟨_, rfl, ?_⟩
  refine LE.p (v := (Value.bool (!r7))) (Wn.no rfl) rfl (R.not rfl) ?_
  refine LE.nil ?_
  refine WE.condT rfl (b := (!r7)) rfl ?_ ?_
  · intro hb9
    replace h := M.ite_t h hb9
    refine WE.seq ?_
    refine WE.reg ?_
    refine LE.p (v := (Value.bool false)) (Wn.no rfl) rfl (R.assign rfl) ?_
    refine LE.nil ?_
    refine WE.ret ?_
    exact ⟨_, (Res.tmp rfl Res.nil), _, rfl, h⟩
  · intro hb9
    replace h := M.ite_f h hb9
    refine WE.skip ?_
    refine WE.seq ?_
    refine WE.reg ?_
    refine LE.p (v := (Value.pointer p0)) (Wn.no rfl) rfl (R.move rfl) ?_
    obtain ⟨t10, h11, h⟩ := h
    obtain ⟨t12, h13, h⟩ := h
    refine LE.r (v := (Value.agg #[(Value.int .u32 t10), (Value.int .i64 t12)])) (Wn.no rfl) rfl (R.ldA ag27 sz27 rfl rfl (Cs.cons h11 (Cs.cons h13 Cs.nil))) ?_
    refine LE.c (Wn.no rfl) rfl (R.call bd47 (Ls.cons rfl (Ls.cons rfl Ls.nil)) rfl) (Calls.mono h ?_)
    rintro _ w15 ⟨r14, rfl, h⟩
    refine ⟨_, rfl, ?_⟩
    refine LE.p (v := (Value.int .i64 r14)) (Wn.no rfl) rfl (R.assign rfl) ?_
    refine LE.nil ?_
    refine WE.seq ?_
    refine WE.seq ?_
    refine WE.reg ?_
    refine LE.p (v := (Value.int .i64 r14)) (Wn.no rfl) rfl (R.move rfl) ?_
    refine LE.p (v := (Value.bool (decide ((0 : Int) ≤ r14)))) (Wn.no rfl) rfl (R.geq rfl rfl) ?_
    refine LE.nil ?_
    refine WE.condT rfl (b := (decide ((0 : Int) ≤ r14))) rfl ?_ ?_
    · intro hb16
      replace h := M.ite_t h hb16
      refine WE.seq ?_
      refine WE.reg ?_
      refine LE.p (v := (Value.pointer p0)) (Wn.no rfl) rfl (R.move rfl) ?_
      obtain ⟨a17, h18, h⟩ := h
      refine LE.p (v := (Value.pointer (some a17))) (Wn.no rfl) rfl (R.nilC (congrArg Value.pointer h18)) ?_
      refine LE.p (v := (Value.pointer (some (a17.add 1)))) (Wn.no rfl) rfl (R.fld (off := 1) fa55_1 rfl) ?_
      obtain ⟨t19, h20, h⟩ := h
      refine LE.r (v := (SV.v t19)) (Wn.no rfl) rfl (R.ld sc53 rfl h20) ?_
      refine LE.p (v := (Value.int .i64 r14)) (Wn.no rfl) rfl (R.move rfl) ?_
      refine LE.p (v := (Value.int .i64 p2)) (Wn.no rfl) rfl (R.move rfl) ?_
      obtain ⟨a21, h22, h23, h24, h⟩ := h
      refine LE.p (v := (Value.pointer (some (a21.add (r14.toNat * 1))))) (Wn.no rfl) rfl (R.idx (s := t19) sl53 rfl rfl h22 h23 h24) ?_
      obtain ⟨w25, hww25, h26, h27, h⟩ := M.st_use h
      refine LE.s (Wn.no rfl) rfl (R.st (a := (a21.add (r14.toNat * 1))) (v := (Value.int .i64 p2)) sz3 rfl rfl rfl rfl h26 h27 hww25) ?_
      refine LE.nil ?_
      refine WE.seq ?_
      refine WE.reg ?_
      refine LE.p (v := (Value.bool false)) (Wn.no rfl) rfl (R.assign rfl) ?_
      refine LE.nil ?_
      refine WE.ret ?_
      exact ⟨_, (Res.tmp rfl Res.nil), _, rfl, h⟩
    · intro hb16
      replace h := M.ite_f h hb16
      refine WE.skip ?_
      refine WE.seq ?_
      refine WE.reg ?_
      refine LE.p (v := (Value.int .i64 (0 : Int))) (Wn.no rfl) rfl (R.assign rfl) ?_
      refine LE.nil ?_
      refine WE.seq ?_
      refine WE.block ?_
      obtain ⟨I33, ⟨n32, h⟩, hr34⟩ := h
      refine WE.loop (fun n e w => ∃ (x28 : Int), I33 n x28 w ∧ e 0 = (Value.pointer p0) ∧ e 2 = (Value.int .i64 p2) ∧ e 4 = (Value.pointer (some b2)) ∧ e 7 = (Value.int .i64 x28)) n32 ⟨_, h, rfl, rfl, rfl, rfl⟩ ?_
      clear h
      rintro n32 e31 w30 ⟨x28, h, f37, f38, f39, f40⟩
      replace h := hr34 n32 x28 w30 h
      refine WE.seq ?_
      refine WE.seq ?_
      obtain ⟨J41, hJ41, h⟩ := M.join_use h
      refine WE.drawJ (fun e w => ∃ (x42 : Bool), J41 x42 w ∧ e 0 = (Value.pointer p0) ∧ e 2 = (Value.int .i64 p2) ∧ e 4 = (Value.pointer (some b2)) ∧ e 7 = (Value.int .i64 x28) ∧ e 40 = (Value.bool x42)) mix ?_ ?_
      · clear hJ41
        obtain ⟨w43, hww43, h⟩ := M.drew_use h
        rw [← hww43]
        clear hww43
        refine DE.t 0 (v := (Value.int .i64 x28)) rfl (by kernel_rfl) (Wn.no rfl) rfl (R.move f40) ?_
        refine DE.t 1 (v := (Value.pointer p0)) rfl (by kernel_rfl) (Wn.no rfl) rfl (R.move f37) ?_
        obtain ⟨a44, h45, h⟩ := h
        refine DE.t 2 (v := (Value.pointer (some a44))) rfl (by kernel_rfl) (Wn.no rfl) rfl (R.nilC (congrArg Value.pointer h45)) ?_
        refine DE.t 3 (v := (Value.pointer (some a44))) rfl (by kernel_rfl) (Wn.no rfl) rfl (R.fld (off := 0) fa55_0 rfl) ?_
        obtain ⟨t46, h47, h⟩ := h
        refine DE.main 4 (by kernel_rfl) ?_
        refine One.r 4 (v := (SV.v t46)) rfl (Wn.no rfl) rfl (R.ld sc33 rfl h47) (.inl rfl) ?_
        refine DE.t 5 (v := (Value.int .i64 (t46.len : Int))) rfl (by kernel_rfl) (Wn.no rfl) rfl (R.len sl33 rfl) ?_
        refine DE.t 6 (v := (Value.bool (decide (x28 < (t46.len : Int))))) rfl (by kernel_rfl) (Wn.no rfl) rfl (R.lss rfl rfl) ?_
        refine DE.t 7 (v := (Value.bool (decide (x28 < (t46.len : Int))))) rfl (by kernel_rfl) (Wn.no rfl) rfl (R.move rfl) ?_
        rcases M.ite_use h with ⟨hb48, h⟩ | ⟨hb48, h⟩
        · refine DE.t 8 (v := (Value.pointer p0)) rfl (by kernel_rfl) (Wn.yes 7 30 true rfl rfl rfl (congrArg Value.bool hb48)) rfl (R.move f37) ?_
          obtain ⟨a49, h50, h⟩ := h
          refine DE.t 9 (v := (Value.pointer (some a49))) rfl (by kernel_rfl) (Wn.yes 7 30 true rfl rfl rfl (congrArg Value.bool hb48)) rfl (R.nilC (congrArg Value.pointer h50)) ?_
          refine DE.t 10 (v := (Value.pointer (some a49))) rfl (by kernel_rfl) (Wn.yes 7 30 true rfl rfl rfl (congrArg Value.bool hb48)) rfl (R.fld (off := 0) fa55_0 rfl) ?_
          refine DE.t 12 (v := (Value.int .i64 x28)) rfl (by kernel_rfl) (Wn.yes 7 30 true rfl rfl rfl (congrArg Value.bool hb48)) rfl (R.move f40) ?_
          obtain ⟨t51, h52, h⟩ := h
          refine DE.hold 11 (fun w => w.cell? a49 = some (SV.v t51)) (v := (SV.v t51)) rfl (by kernel_rfl) (Wn.yes 7 30 true rfl rfl rfl (congrArg Value.bool hb48)) rfl h52 (fun w hs => R.ld sc33 rfl hs) ?_
          obtain ⟨a53, h54, h55, h56, h⟩ := h
          refine DE.t 13 (v := (Value.pointer (some (a53.add (x28.toNat * 2))))) rfl (by kernel_rfl) (Wn.yes 7 30 true rfl rfl rfl (congrArg Value.bool hb48)) rfl (R.idx (s := t51) sl33 rfl rfl h54 h55 h56) ?_
          obtain ⟨t57, h58, h⟩ := h
          obtain ⟨t59, h60, h⟩ := h
          refine DE.hold 14 (fun w => w.cell? (a53.add (x28.toNat * 2)) = some (Value.int .u32 t57) ∧ w.cell? ((a53.add (x28.toNat * 2)).add 1) = some (Value.int .i64 t59)) (v := (Value.agg #[(Value.int .u32 t57), (Value.int .i64 t59)])) rfl (by kernel_rfl) (Wn.yes 7 30 true rfl rfl rfl (congrArg Value.bool hb48)) rfl ⟨h58, h60⟩ (fun w hs => R.ldA ag27 sz27 rfl rfl (Cs.cons hs.1 (Cs.cons hs.2 Cs.nil))) ?_
          obtain ⟨t61, h62, h⟩ := h
          obtain ⟨t63, h64, h⟩ := h
          refine DE.main 15 (by kernel_rfl) ?_
          refine One.r 15 (v := (Value.agg #[(Value.int .u32 t61), (Value.int .i64 t63)])) rfl (Wn.yes 7 30 true rfl rfl rfl (congrArg Value.bool hb48)) rfl (R.ldA ag27 sz27 f39 rfl (Cs.cons h62 (Cs.cons h64 Cs.nil))) (.inl rfl) ?_
          refine DE.main 16 (by kernel_rfl) ?_
          refine One.c 16 rfl (Wn.yes 7 30 true rfl rfl rfl (congrArg Value.bool hb48)) rfl (R.call bd16 (Ls.cons rfl (Ls.cons rfl Ls.nil)) rfl) (Calls.mono h ?_)
          rintro _ w66 ⟨r65, rfl, h⟩
          refine ⟨_, rfl, ⟨aftT (by kernel_rfl), aftT (by kernel_rfl), trivial⟩, ?_⟩
          refine DE.t 17 (v := (Value.bool r65)) rfl (by kernel_rfl) (Wn.no rfl) rfl (R.pickT (congrArg Value.bool hb48) rfl) ?_
          refine DE.done (by kernel_rfl) ?_
          exact ⟨_, h, f37, f38, f39, f40, rfl⟩
        · refine DE.u 8 rfl (by kernel_rfl) (Un.no 7 30 true rfl rfl rfl (congrArg Value.bool hb48)) ?_
          refine DE.u 9 rfl (by kernel_rfl) (Un.no 7 30 true rfl rfl rfl (congrArg Value.bool hb48)) ?_
          refine DE.u 10 rfl (by kernel_rfl) (Un.no 7 30 true rfl rfl rfl (congrArg Value.bool hb48)) ?_
          refine DE.u 11 rfl (by kernel_rfl) (Un.no 7 30 true rfl rfl rfl (congrArg Value.bool hb48)) ?_
          refine DE.u 12 rfl (by kernel_rfl) (Un.no 7 30 true rfl rfl rfl (congrArg Value.bool hb48)) ?_
          refine DE.u 13 rfl (by kernel_rfl) (Un.no 7 30 true rfl rfl rfl (congrArg Value.bool hb48)) ?_
          refine DE.u 14 rfl (by kernel_rfl) (Un.no 7 30 true rfl rfl rfl (congrArg Value.bool hb48)) ?_
          refine DE.u 15 rfl (by kernel_rfl) (Un.no 7 30 true rfl rfl rfl (congrArg Value.bool hb48)) ?_
          refine DE.u 16 rfl (by kernel_rfl) (Un.no 7 30 true rfl rfl rfl (congrArg Value.bool hb48)) ?_
          refine DE.t 17 (v := (Value.bool false)) rfl (by kernel_rfl) (Wn.no rfl) rfl (R.pickF (congrArg Value.bool hb48) rfl) ?_
          refine DE.done (by kernel_rfl) ?_
          exact ⟨_, h, f37, f38, f39, f40, rfl⟩
      · rintro e67 w68 ⟨x42, h, f69, f70, f71, f72, f73⟩
        subst hJ41
        refine WE.condT rfl (b := x42) f73 ?_ ?_
        · intro hb74
          replace h := M.ite_t h hb74
          refine WE.skip ?_
          refine WE.block ?_
          refine WE.reg ?_
          refine LE.p (v := (Value.int .i64 x28)) (Wn.no rfl) rfl (R.move f72) ?_
          refine LE.p (v := (Value.int .i64 (IntKind.i64.wrap (x28 + (1 : Int))))) (Wn.no rfl) rfl (R.add rfl rfl) ?_
          refine LE.p (v := (Value.int .i64 (IntKind.i64.wrap (x28 + (1 : Int))))) (Wn.no rfl) rfl (R.assign rfl) ?_
          refine LE.nil ?_
          obtain ⟨m35, hm36, h⟩ := h
          exact ⟨m35, hm36, _, h, f69, f70, f71, rfl⟩
        · intro hb74
          replace h := M.ite_f h hb74
          refine WE.exit ?_
          refine WE.seq ?_
          obtain ⟨J75, hJ75, h⟩ := M.join_use h
          refine WE.drawJ (fun e w => J75 w ∧ e 0 = (Value.pointer p0) ∧ e 2 = (Value.int .i64 p2) ∧ e 7 = (Value.int .i64 x28)) mix ?_ ?_
          · clear hJ75
            obtain ⟨w76, hww76, h⟩ := M.drew_use h
            rw [← hww76]
            clear hww76
            refine DE.t 0 (v := (Value.pointer p0)) rfl (by kernel_rfl) (Wn.no rfl) rfl (R.move f69) ?_
            refine DE.t 2 (v := (Value.pointer p0)) rfl (by kernel_rfl) (Wn.no rfl) rfl (R.move f69) ?_
            obtain ⟨a77, h78, h⟩ := h
            refine DE.t 3 (v := (Value.pointer (some a77))) rfl (by kernel_rfl) (Wn.no rfl) rfl (R.nilC (congrArg Value.pointer h78)) ?_
            refine DE.t 4 (v := (Value.pointer (some a77))) rfl (by kernel_rfl) (Wn.no rfl) rfl (R.fld (off := 0) fa55_0 rfl) ?_
            refine DE.t 6 (v := (Value.int .i64 x28)) rfl (by kernel_rfl) (Wn.no rfl) rfl (R.move f72) ?_
            refine DE.t 12 (v := (Value.pointer p0)) rfl (by kernel_rfl) (Wn.no rfl) rfl (R.move f69) ?_
            obtain ⟨a79, h80, h⟩ := h
            refine DE.t 13 (v := (Value.pointer (some a79))) rfl (by kernel_rfl) (Wn.no rfl) rfl (R.nilC (congrArg Value.pointer h80)) ?_
            refine DE.t 14 (v := (Value.pointer (some a79))) rfl (by kernel_rfl) (Wn.no rfl) rfl (R.fld (off := 0) fa55_0 rfl) ?_
            refine DE.t 16 (v := (Value.int .i64 x28)) rfl (by kernel_rfl) (Wn.no rfl) rfl (R.move f72) ?_
            obtain ⟨t81, h82, h⟩ := h
            refine DE.hold 5 (fun w => w.cell? a77 = some (SV.v t81)) (v := (SV.v t81)) rfl (by kernel_rfl) (Wn.no rfl) rfl h82 (fun w hs => R.ld sc33 rfl hs) ?_
            obtain ⟨h83, h84, h85, h⟩ := h
            refine DE.t 7 (v := (SV.v (SV.sub t81 (Int.toNat (0 : Int)) (Int.toNat x28) 2))) rfl (by kernel_rfl) (Wn.no rfl) rfl (R.slc (s := t81) (lo := (0 : Int)) (hi := x28) _ _ sl33 rfl rfl rfl h83 h84 h85) ?_
            obtain ⟨t87, h88, h⟩ := h
            obtain ⟨t89, h90, h⟩ := h
            refine DE.hold 9 (fun w => w.cell? b2 = some (Value.int .u32 t87) ∧ w.cell? (b2.add 1) = some (Value.int .i64 t89)) (v := (Value.agg #[(Value.int .u32 t87), (Value.int .i64 t89)])) rfl (by kernel_rfl) (Wn.no rfl) rfl ⟨h88, h90⟩ (fun w hs => R.ldA ag27 sz27 f71 rfl (Cs.cons hs.1 (Cs.cons hs.2 Cs.nil))) ?_
            obtain ⟨t91, h92, h⟩ := h
            refine DE.hold 15 (fun w => w.cell? a79 = some (SV.v t91)) (v := (SV.v t91)) rfl (by kernel_rfl) (Wn.no rfl) rfl h92 (fun w hs => R.ld sc33 rfl hs) ?_
            obtain ⟨h93, h94, h95, h⟩ := h
            refine DE.t 17 (v := (SV.v (SV.sub t91 (Int.toNat x28) (Int.toNat (t91.len : Int)) 2))) rfl (by kernel_rfl) (Wn.no rfl) rfl (R.slc (s := t91) (lo := x28) (hi := (t91.len : Int)) _ _ sl33 rfl rfl rfl h93 h94 h95) ?_
            refine DE.main2 1 10 (by kernel_rfl) ?_ ?_
            · replace h := h.1
              obtain ⟨b99, hpb99, w97, hww97, h⟩ := M.new_use h
              obtain ⟨k100, h⟩ := h
              obtain ⟨k101, h⟩ := h
              obtain ⟨k102, h⟩ := h
              obtain ⟨k103, h⟩ := h
              refine One.r 1 (v := (SV.v (SV.mk (some b99) 0 0))) rfl (Wn.no rfl) rfl (R.bsl (by exact Ls.nil) (fun w => bs33_0  w) hpb99 hww97) (.inr ⟨fun _ => k100, fun _ => ⟨k101, k102⟩, fun _ => k103, trivial⟩) ?_
              refine DE.main2 8 10 (by kernel_rfl) ?_ ?_
              · replace h := h.1
                obtain ⟨s104, w105, h106, h⟩ := h
                obtain ⟨k107, h⟩ := h
                obtain ⟨k108, h⟩ := h
                obtain ⟨k109, h⟩ := h
                refine One.r 8 (v := (SV.v s104)) rfl (Wn.no rfl) rfl (R.app (s := (SV.mk (some b99) 0 0)) (r := s104) rfl rfl h106) (.inr ⟨fun _ => k107, fun _ => ⟨k108, k109⟩, aftT (by kernel_rfl), trivial⟩) ?_
                obtain ⟨b112, hpb112, w110, hww110, h⟩ := M.new_use h
                obtain ⟨k113, h⟩ := h
                obtain ⟨k114, h⟩ := h
                refine DE.main 10 (by kernel_rfl) ?_
                refine One.r 10 (v := (SV.v (SV.mk (some b112) 1 1))) rfl (Wn.no rfl) rfl (R.bsl (by exact (Ls.cons (R.Pr rfl) Ls.nil)) (fun w => bs33_1 t87 t89 w) hpb112 hww110) (.inr ⟨fun _ => k113, aftT (by kernel_rfl), fun _ => k114, trivial⟩) ?_
                obtain ⟨s115, w116, h117, h⟩ := h
                obtain ⟨k118, h⟩ := h
                refine DE.main 11 (by kernel_rfl) ?_
                refine One.r 11 (v := (SV.v s115)) rfl (Wn.no rfl) rfl (R.app (s := s104) (r := s115) rfl rfl h117) (.inr ⟨fun _ => k118, aftT (by kernel_rfl), aftT (by kernel_rfl), trivial⟩) ?_
                obtain ⟨s119, w120, h121, h⟩ := h
                refine DE.main 18 (by kernel_rfl) ?_
                refine One.r 18 (v := (SV.v s119)) rfl (Wn.no rfl) rfl (R.app (s := s115) (r := s119) rfl rfl h121) (.inr ⟨aftT (by kernel_rfl), aftT (by kernel_rfl), aftT (by kernel_rfl), trivial⟩) ?_
                obtain ⟨a122, h123, h⟩ := h
                refine DE.t 19 (v := (Value.pointer (some a122))) rfl (by kernel_rfl) (Wn.no rfl) rfl (R.nilC (congrArg Value.pointer h123)) ?_
                refine DE.t 20 (v := (Value.pointer (some a122))) rfl (by kernel_rfl) (Wn.no rfl) rfl (R.fld (off := 0) fa55_0 rfl) ?_
                obtain ⟨w124, hww124, h125, h126, h⟩ := M.st_use h
                refine DE.main 21 (by kernel_rfl) ?_
                refine One.s 21 rfl (Wn.no rfl) rfl (R.st (a := a122) (v := (SV.v s119)) sz33 rfl rfl rfl rfl h125 h126 hww124) ⟨aftT (by kernel_rfl), aftT (by kernel_rfl), aftT (by kernel_rfl), trivial⟩ ?_
                refine DE.done (by kernel_rfl) ?_
                exact ⟨h, f69, f70, f72⟩
              · replace h := h.2
                obtain ⟨b129, hpb129, w127, hww127, h⟩ := M.new_use h
                obtain ⟨k130, h⟩ := h
                obtain ⟨k131, h⟩ := h
                refine One.r 10 (v := (SV.v (SV.mk (some b129) 1 1))) rfl (Wn.no rfl) rfl (R.bsl (by exact (Ls.cons (R.Pr rfl) Ls.nil)) (fun w => bs33_1 t87 t89 w) hpb129 hww127) (.inr ⟨fun _ => k130, aftT (by kernel_rfl), fun _ => k131, trivial⟩) ?_
                obtain ⟨s132, w133, h134, h⟩ := h
                obtain ⟨k135, h⟩ := h
                obtain ⟨k136, h⟩ := h
                obtain ⟨k137, h⟩ := h
                refine DE.main 8 (by kernel_rfl) ?_
                refine One.r 8 (v := (SV.v s132)) rfl (Wn.no rfl) rfl (R.app (s := (SV.mk (some b99) 0 0)) (r := s132) rfl rfl h134) (.inr ⟨fun _ => k135, fun _ => ⟨k136, k137⟩, aftT (by kernel_rfl), trivial⟩) ?_
                obtain ⟨s138, w139, h140, h⟩ := h
                obtain ⟨k141, h⟩ := h
                refine DE.main 11 (by kernel_rfl) ?_
                refine One.r 11 (v := (SV.v s138)) rfl (Wn.no rfl) rfl (R.app (s := s132) (r := s138) rfl rfl h140) (.inr ⟨fun _ => k141, aftT (by kernel_rfl), aftT (by kernel_rfl), trivial⟩) ?_
                obtain ⟨s142, w143, h144, h⟩ := h
                refine DE.main 18 (by kernel_rfl) ?_
                refine One.r 18 (v := (SV.v s142)) rfl (Wn.no rfl) rfl (R.app (s := s138) (r := s142) rfl rfl h144) (.inr ⟨aftT (by kernel_rfl), aftT (by kernel_rfl), aftT (by kernel_rfl), trivial⟩) ?_
                obtain ⟨a145, h146, h⟩ := h
                refine DE.t 19 (v := (Value.pointer (some a145))) rfl (by kernel_rfl) (Wn.no rfl) rfl (R.nilC (congrArg Value.pointer h146)) ?_
                refine DE.t 20 (v := (Value.pointer (some a145))) rfl (by kernel_rfl) (Wn.no rfl) rfl (R.fld (off := 0) fa55_0 rfl) ?_
                obtain ⟨w147, hww147, h148, h149, h⟩ := M.st_use h
                refine DE.main 21 (by kernel_rfl) ?_
                refine One.s 21 rfl (Wn.no rfl) rfl (R.st (a := a145) (v := (SV.v s142)) sz33 rfl rfl rfl rfl h148 h149 hww147) ⟨aftT (by kernel_rfl), aftT (by kernel_rfl), aftT (by kernel_rfl), trivial⟩ ?_
                refine DE.done (by kernel_rfl) ?_
                exact ⟨h, f69, f70, f72⟩
            · replace h := h.2
              obtain ⟨b152, hpb152, w150, hww150, h⟩ := M.new_use h
              obtain ⟨k153, h⟩ := h
              obtain ⟨k154, h⟩ := h
              refine One.r 10 (v := (SV.v (SV.mk (some b152) 1 1))) rfl (Wn.no rfl) rfl (R.bsl (by exact (Ls.cons (R.Pr rfl) Ls.nil)) (fun w => bs33_1 t87 t89 w) hpb152 hww150) (.inr ⟨fun _ => k153, aftT (by kernel_rfl), fun _ => k154, trivial⟩) ?_
              obtain ⟨b157, hpb157, w155, hww155, h⟩ := M.new_use h
              obtain ⟨k158, h⟩ := h
              obtain ⟨k159, h⟩ := h
              obtain ⟨k160, h⟩ := h
              obtain ⟨k161, h⟩ := h
              refine DE.main 1 (by kernel_rfl) ?_
              refine One.r 1 (v := (SV.v (SV.mk (some b157) 0 0))) rfl (Wn.no rfl) rfl (R.bsl (by exact Ls.nil) (fun w => bs33_0  w) hpb157 hww155) (.inr ⟨fun _ => k158, fun _ => ⟨k159, k160⟩, fun _ => k161, trivial⟩) ?_
              obtain ⟨s162, w163, h164, h⟩ := h
              obtain ⟨k165, h⟩ := h
              obtain ⟨k166, h⟩ := h
              obtain ⟨k167, h⟩ := h
              refine DE.main 8 (by kernel_rfl) ?_
              refine One.r 8 (v := (SV.v s162)) rfl (Wn.no rfl) rfl (R.app (s := (SV.mk (some b157) 0 0)) (r := s162) rfl rfl h164) (.inr ⟨fun _ => k165, fun _ => ⟨k166, k167⟩, aftT (by kernel_rfl), trivial⟩) ?_
              obtain ⟨s168, w169, h170, h⟩ := h
              obtain ⟨k171, h⟩ := h
              refine DE.main 11 (by kernel_rfl) ?_
              refine One.r 11 (v := (SV.v s168)) rfl (Wn.no rfl) rfl (R.app (s := s162) (r := s168) rfl rfl h170) (.inr ⟨fun _ => k171, aftT (by kernel_rfl), aftT (by kernel_rfl), trivial⟩) ?_
              obtain ⟨s172, w173, h174, h⟩ := h
              refine DE.main 18 (by kernel_rfl) ?_
              refine One.r 18 (v := (SV.v s172)) rfl (Wn.no rfl) rfl (R.app (s := s168) (r := s172) rfl rfl h174) (.inr ⟨aftT (by kernel_rfl), aftT (by kernel_rfl), aftT (by kernel_rfl), trivial⟩) ?_
              obtain ⟨a175, h176, h⟩ := h
              refine DE.t 19 (v := (Value.pointer (some a175))) rfl (by kernel_rfl) (Wn.no rfl) rfl (R.nilC (congrArg Value.pointer h176)) ?_
              refine DE.t 20 (v := (Value.pointer (some a175))) rfl (by kernel_rfl) (Wn.no rfl) rfl (R.fld (off := 0) fa55_0 rfl) ?_
              obtain ⟨w177, hww177, h178, h179, h⟩ := M.st_use h
              refine DE.main 21 (by kernel_rfl) ?_
              refine One.s 21 rfl (Wn.no rfl) rfl (R.st (a := a175) (v := (SV.v s172)) sz33 rfl rfl rfl rfl h178 h179 hww177) ⟨aftT (by kernel_rfl), aftT (by kernel_rfl), aftT (by kernel_rfl), trivial⟩ ?_
              refine DE.done (by kernel_rfl) ?_
              exact ⟨h, f69, f70, f72⟩
          · rintro e180 w181 ⟨h, f182, f183, f184⟩
            subst hJ75
            refine WE.seq ?_
            obtain ⟨J185, hJ185, h⟩ := M.join_use h
            refine WE.drawJ (fun e w => J185 w) mix ?_ ?_
            · clear hJ185
              obtain ⟨w186, hww186, h⟩ := M.drew_use h
              rw [← hww186]
              clear hww186
              refine DE.t 0 (v := (Value.pointer p0)) rfl (by kernel_rfl) (Wn.no rfl) rfl (R.move f182) ?_
              refine DE.t 2 (v := (Value.pointer p0)) rfl (by kernel_rfl) (Wn.no rfl) rfl (R.move f182) ?_
              obtain ⟨a187, h188, h⟩ := h
              refine DE.t 3 (v := (Value.pointer (some a187))) rfl (by kernel_rfl) (Wn.no rfl) rfl (R.nilC (congrArg Value.pointer h188)) ?_
              refine DE.t 4 (v := (Value.pointer (some (a187.add 1)))) rfl (by kernel_rfl) (Wn.no rfl) rfl (R.fld (off := 1) fa55_1 rfl) ?_
              refine DE.t 6 (v := (Value.int .i64 x28)) rfl (by kernel_rfl) (Wn.no rfl) rfl (R.move f184) ?_
              refine DE.t 9 (v := (Value.int .i64 p2)) rfl (by kernel_rfl) (Wn.no rfl) rfl (R.move f183) ?_
              refine DE.t 12 (v := (Value.pointer p0)) rfl (by kernel_rfl) (Wn.no rfl) rfl (R.move f182) ?_
              obtain ⟨a189, h190, h⟩ := h
              refine DE.t 13 (v := (Value.pointer (some a189))) rfl (by kernel_rfl) (Wn.no rfl) rfl (R.nilC (congrArg Value.pointer h190)) ?_
              refine DE.t 14 (v := (Value.pointer (some (a189.add 1)))) rfl (by kernel_rfl) (Wn.no rfl) rfl (R.fld (off := 1) fa55_1 rfl) ?_
              refine DE.t 16 (v := (Value.int .i64 x28)) rfl (by kernel_rfl) (Wn.no rfl) rfl (R.move f184) ?_
              obtain ⟨t191, h192, h⟩ := h
              refine DE.hold 5 (fun w => w.cell? (a187.add 1) = some (SV.v t191)) (v := (SV.v t191)) rfl (by kernel_rfl) (Wn.no rfl) rfl h192 (fun w hs => R.ld sc53 rfl hs) ?_
              obtain ⟨h193, h194, h195, h⟩ := h
              refine DE.t 7 (v := (SV.v (SV.sub t191 (Int.toNat (0 : Int)) (Int.toNat x28) 1))) rfl (by kernel_rfl) (Wn.no rfl) rfl (R.slc (s := t191) (lo := (0 : Int)) (hi := x28) _ _ sl53 rfl rfl rfl h193 h194 h195) ?_
              obtain ⟨t197, h198, h⟩ := h
              refine DE.hold 15 (fun w => w.cell? (a189.add 1) = some (SV.v t197)) (v := (SV.v t197)) rfl (by kernel_rfl) (Wn.no rfl) rfl h198 (fun w hs => R.ld sc53 rfl hs) ?_
              obtain ⟨h199, h200, h201, h⟩ := h
              refine DE.t 17 (v := (SV.v (SV.sub t197 (Int.toNat x28) (Int.toNat (t197.len : Int)) 1))) rfl (by kernel_rfl) (Wn.no rfl) rfl (R.slc (s := t197) (lo := x28) (hi := (t197.len : Int)) _ _ sl53 rfl rfl rfl h199 h200 h201) ?_
              refine DE.main2 1 10 (by kernel_rfl) ?_ ?_
              · replace h := h.1
                obtain ⟨b205, hpb205, w203, hww203, h⟩ := M.new_use h
                obtain ⟨k206, h⟩ := h
                obtain ⟨k207, h⟩ := h
                refine One.r 1 (v := (SV.v (SV.mk (some b205) 0 0))) rfl (Wn.no rfl) rfl (R.bsl (by exact Ls.nil) (fun w => bs53_0  w) hpb205 hww203) (.inr ⟨fun _ => k206, fun _ => k207, trivial⟩) ?_
                refine DE.main2 8 10 (by kernel_rfl) ?_ ?_
                · replace h := h.1
                  obtain ⟨s208, w209, h210, h⟩ := h
                  obtain ⟨k211, h⟩ := h
                  refine One.r 8 (v := (SV.v s208)) rfl (Wn.no rfl) rfl (R.app (s := (SV.mk (some b205) 0 0)) (r := s208) rfl rfl h210) (.inr ⟨fun _ => k211, aftT (by kernel_rfl), trivial⟩) ?_
                  obtain ⟨b214, hpb214, w212, hww212, h⟩ := M.new_use h
                  obtain ⟨k215, h⟩ := h
                  obtain ⟨k216, h⟩ := h
                  refine DE.main 10 (by kernel_rfl) ?_
                  refine One.r 10 (v := (SV.v (SV.mk (some b214) 1 1))) rfl (Wn.no rfl) rfl (R.bsl (by exact (Ls.cons (R.Pr rfl) Ls.nil)) (fun w => bs53_1 p2 w) hpb214 hww212) (.inr ⟨fun _ => k215, fun _ => k216, trivial⟩) ?_
                  obtain ⟨s217, w218, h219, h⟩ := h
                  obtain ⟨k220, h⟩ := h
                  refine DE.main 11 (by kernel_rfl) ?_
                  refine One.r 11 (v := (SV.v s217)) rfl (Wn.no rfl) rfl (R.app (s := s208) (r := s217) rfl rfl h219) (.inr ⟨fun _ => k220, aftT (by kernel_rfl), trivial⟩) ?_
                  obtain ⟨s221, w222, h223, h⟩ := h
                  refine DE.main 18 (by kernel_rfl) ?_
                  refine One.r 18 (v := (SV.v s221)) rfl (Wn.no rfl) rfl (R.app (s := s217) (r := s221) rfl rfl h223) (.inr ⟨aftT (by kernel_rfl), aftT (by kernel_rfl), trivial⟩) ?_
                  obtain ⟨a224, h225, h⟩ := h
                  refine DE.t 19 (v := (Value.pointer (some a224))) rfl (by kernel_rfl) (Wn.no rfl) rfl (R.nilC (congrArg Value.pointer h225)) ?_
                  refine DE.t 20 (v := (Value.pointer (some (a224.add 1)))) rfl (by kernel_rfl) (Wn.no rfl) rfl (R.fld (off := 1) fa55_1 rfl) ?_
                  obtain ⟨w226, hww226, h227, h228, h⟩ := M.st_use h
                  refine DE.main 21 (by kernel_rfl) ?_
                  refine One.s 21 rfl (Wn.no rfl) rfl (R.st (a := (a224.add 1)) (v := (SV.v s221)) sz53 rfl rfl rfl rfl h227 h228 hww226) ⟨aftT (by kernel_rfl), aftT (by kernel_rfl), trivial⟩ ?_
                  refine DE.done (by kernel_rfl) ?_
                  exact h
                · replace h := h.2
                  obtain ⟨b231, hpb231, w229, hww229, h⟩ := M.new_use h
                  obtain ⟨k232, h⟩ := h
                  obtain ⟨k233, h⟩ := h
                  refine One.r 10 (v := (SV.v (SV.mk (some b231) 1 1))) rfl (Wn.no rfl) rfl (R.bsl (by exact (Ls.cons (R.Pr rfl) Ls.nil)) (fun w => bs53_1 p2 w) hpb231 hww229) (.inr ⟨fun _ => k232, fun _ => k233, trivial⟩) ?_
                  obtain ⟨s234, w235, h236, h⟩ := h
                  obtain ⟨k237, h⟩ := h
                  refine DE.main 8 (by kernel_rfl) ?_
                  refine One.r 8 (v := (SV.v s234)) rfl (Wn.no rfl) rfl (R.app (s := (SV.mk (some b205) 0 0)) (r := s234) rfl rfl h236) (.inr ⟨fun _ => k237, aftT (by kernel_rfl), trivial⟩) ?_
                  obtain ⟨s238, w239, h240, h⟩ := h
                  obtain ⟨k241, h⟩ := h
                  refine DE.main 11 (by kernel_rfl) ?_
                  refine One.r 11 (v := (SV.v s238)) rfl (Wn.no rfl) rfl (R.app (s := s234) (r := s238) rfl rfl h240) (.inr ⟨fun _ => k241, aftT (by kernel_rfl), trivial⟩) ?_
                  obtain ⟨s242, w243, h244, h⟩ := h
                  refine DE.main 18 (by kernel_rfl) ?_
                  refine One.r 18 (v := (SV.v s242)) rfl (Wn.no rfl) rfl (R.app (s := s238) (r := s242) rfl rfl h244) (.inr ⟨aftT (by kernel_rfl), aftT (by kernel_rfl), trivial⟩) ?_
                  obtain ⟨a245, h246, h⟩ := h
                  refine DE.t 19 (v := (Value.pointer (some a245))) rfl (by kernel_rfl) (Wn.no rfl) rfl (R.nilC (congrArg Value.pointer h246)) ?_
                  refine DE.t 20 (v := (Value.pointer (some (a245.add 1)))) rfl (by kernel_rfl) (Wn.no rfl) rfl (R.fld (off := 1) fa55_1 rfl) ?_
                  obtain ⟨w247, hww247, h248, h249, h⟩ := M.st_use h
                  refine DE.main 21 (by kernel_rfl) ?_
                  refine One.s 21 rfl (Wn.no rfl) rfl (R.st (a := (a245.add 1)) (v := (SV.v s242)) sz53 rfl rfl rfl rfl h248 h249 hww247) ⟨aftT (by kernel_rfl), aftT (by kernel_rfl), trivial⟩ ?_
                  refine DE.done (by kernel_rfl) ?_
                  exact h
              · replace h := h.2
                obtain ⟨b252, hpb252, w250, hww250, h⟩ := M.new_use h
                obtain ⟨k253, h⟩ := h
                obtain ⟨k254, h⟩ := h
                refine One.r 10 (v := (SV.v (SV.mk (some b252) 1 1))) rfl (Wn.no rfl) rfl (R.bsl (by exact (Ls.cons (R.Pr rfl) Ls.nil)) (fun w => bs53_1 p2 w) hpb252 hww250) (.inr ⟨fun _ => k253, fun _ => k254, trivial⟩) ?_
                obtain ⟨b257, hpb257, w255, hww255, h⟩ := M.new_use h
                obtain ⟨k258, h⟩ := h
                obtain ⟨k259, h⟩ := h
                refine DE.main 1 (by kernel_rfl) ?_
                refine One.r 1 (v := (SV.v (SV.mk (some b257) 0 0))) rfl (Wn.no rfl) rfl (R.bsl (by exact Ls.nil) (fun w => bs53_0  w) hpb257 hww255) (.inr ⟨fun _ => k258, fun _ => k259, trivial⟩) ?_
                obtain ⟨s260, w261, h262, h⟩ := h
                obtain ⟨k263, h⟩ := h
                refine DE.main 8 (by kernel_rfl) ?_
                refine One.r 8 (v := (SV.v s260)) rfl (Wn.no rfl) rfl (R.app (s := (SV.mk (some b257) 0 0)) (r := s260) rfl rfl h262) (.inr ⟨fun _ => k263, aftT (by kernel_rfl), trivial⟩) ?_
                obtain ⟨s264, w265, h266, h⟩ := h
                obtain ⟨k267, h⟩ := h
                refine DE.main 11 (by kernel_rfl) ?_
                refine One.r 11 (v := (SV.v s264)) rfl (Wn.no rfl) rfl (R.app (s := s260) (r := s264) rfl rfl h266) (.inr ⟨fun _ => k267, aftT (by kernel_rfl), trivial⟩) ?_
                obtain ⟨s268, w269, h270, h⟩ := h
                refine DE.main 18 (by kernel_rfl) ?_
                refine One.r 18 (v := (SV.v s268)) rfl (Wn.no rfl) rfl (R.app (s := s264) (r := s268) rfl rfl h270) (.inr ⟨aftT (by kernel_rfl), aftT (by kernel_rfl), trivial⟩) ?_
                obtain ⟨a271, h272, h⟩ := h
                refine DE.t 19 (v := (Value.pointer (some a271))) rfl (by kernel_rfl) (Wn.no rfl) rfl (R.nilC (congrArg Value.pointer h272)) ?_
                refine DE.t 20 (v := (Value.pointer (some (a271.add 1)))) rfl (by kernel_rfl) (Wn.no rfl) rfl (R.fld (off := 1) fa55_1 rfl) ?_
                obtain ⟨w273, hww273, h274, h275, h⟩ := M.st_use h
                refine DE.main 21 (by kernel_rfl) ?_
                refine One.s 21 rfl (Wn.no rfl) rfl (R.st (a := (a271.add 1)) (v := (SV.v s268)) sz53 rfl rfl rfl rfl h274 h275 hww273) ⟨aftT (by kernel_rfl), aftT (by kernel_rfl), trivial⟩ ?_
                refine DE.done (by kernel_rfl) ?_
                exact h
            · rintro e276 w277 h
              subst hJ185
              refine WE.seq ?_
              refine WE.reg ?_
              refine LE.p (v := (Value.bool true)) (Wn.no rfl) rfl (R.assign rfl) ?_
              refine LE.nil ?_
              refine WE.ret ?_
              exact ⟨_, (Res.tmp rfl Res.nil), _, rfl, h⟩
end Go.Proofs.Ytjjjomeemfmihaa
