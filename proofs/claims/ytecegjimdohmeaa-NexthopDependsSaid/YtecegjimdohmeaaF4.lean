/-
  Printed by gen.py: the formula of each function, and that it holds of the function.
-/
import Derived.Test.YtecegjimdohmeaaTy
namespace Go.Proofs.Ytecegjimdohmeaa
set_option linter.unusedVariables false
set_option linter.unusedSimpArgs false
open Go.Sp
set_option linter.unusedVariables false
/-- The formula of signpost.signpostref1.Right. -/
def F57 (p0_0 : Int) (p0_1 : Int) (K : Bool → World → Prop) (w0 : World) : Prop :=
M.new (.cells #[(Value.int .u32 p0_0), (Value.int .i64 p0_1)] 28) w0 fun b2 w1 =>
M.join (fun (x4 : Bool) (w20 : World) => 
K x4 w20) fun J3 => 
M.drew w1 fun w5 => 
M.ld (Value.int .i64) (b2.add 1) w5 fun t6 =>
M.ite (decide ((0 : Int) ≤ t6)) (
M.ld (Value.int .i64) (b2.add 1) w5 fun t9 =>
M.ite (decide (t9 ≤ (32 : Int))) (
M.ld (Value.int .u32) b2 w5 fun t12 =>
M.ld (Value.int .i64) (b2.add 1) w5 fun t14 =>
Calls Try.prog 35 #[(Value.int .i64 t14)] w5 (R35 fun r16 w17 =>
M.keep (w17.cell? b2 = some (Value.int .u32 t12)) <|
J3 ((bAndNot .u32 t12 r16) == (0 : Int)) w17)) (
J3 false w5)) (
J3 false w5)
theorem F57_ok {w0 : World} {p0_0 : Int} {p0_1 : Int} {K : Bool → World → Prop} (h : F57 p0_0 p0_1 K w0) : Calls Try.prog 57 #[(Value.agg #[(Value.int .u32 p0_0), (Value.int .i64 p0_1)])] w0 (R57 K) := by
  refine calls_of_WE (args := [(Value.agg #[(Value.int .u32 p0_0), (Value.int .i64 p0_1)])]) (rs := [.tmp 2]) Try.func57 rfl (N := 20) rfl rfl rfl rfl ?_
  refine WE.seq ?_
  refine WE.reg ?_
  obtain ⟨b2, hpb2, w1, hww1, h⟩ := M.new_use h
  refine LE.r (v := (Value.pointer (some b2))) (Wn.no rfl) rfl (R.box (cs := #[(Value.int .u32 p0_0), (Value.int .i64 p0_1)]) rfl rfl hpb2 hww1) ?_
  refine LE.p (v := (Value.bool false)) (Wn.no rfl) rfl (R.assign rfl) ?_
  refine LE.nil ?_
  refine WE.seq ?_
  obtain ⟨J3, hJ3, h⟩ := M.join_use h
  refine WE.drawJ (fun e w => ∃ (x4 : Bool), J3 x4 w ∧ e 2 = (Value.bool x4)) mix ?_ ?_
  · clear hJ3
    obtain ⟨w5, hww5, h⟩ := M.drew_use h
    rw [← hww5]
    clear hww5
    refine DE.t 0 (v := (Value.pointer (some (b2.add 1)))) rfl (by kernel_rfl) (Wn.no rfl) rfl (R.fld (off := 1) fa28_1 rfl) ?_
    obtain ⟨t6, h7, h⟩ := h
    refine DE.main 1 (by kernel_rfl) ?_
    refine One.r 1 (v := (Value.int .i64 t6)) rfl (Wn.no rfl) rfl (R.ld sc3 rfl h7) (.inl rfl) ?_
    refine DE.t 2 (v := (Value.bool (decide ((0 : Int) ≤ t6)))) rfl (by kernel_rfl) (Wn.no rfl) rfl (R.geq rfl rfl) ?_
    refine DE.t 3 (v := (Value.bool (decide ((0 : Int) ≤ t6)))) rfl (by kernel_rfl) (Wn.no rfl) rfl (R.move rfl) ?_
    rcases M.ite_use h with ⟨hb8, h⟩ | ⟨hb8, h⟩
    · refine DE.t 4 (v := (Value.pointer (some (b2.add 1)))) rfl (by kernel_rfl) (Wn.yes 3 6 true rfl rfl rfl (congrArg Value.bool hb8)) rfl (R.fld (off := 1) fa28_1 rfl) ?_
      obtain ⟨t9, h10, h⟩ := h
      refine DE.main 5 (by kernel_rfl) ?_
      refine One.r 5 (v := (Value.int .i64 t9)) rfl (Wn.yes 3 6 true rfl rfl rfl (congrArg Value.bool hb8)) rfl (R.ld sc3 rfl h10) (.inl rfl) ?_
      refine DE.t 6 (v := (Value.bool (decide (t9 ≤ (32 : Int))))) rfl (by kernel_rfl) (Wn.yes 3 6 true rfl rfl rfl (congrArg Value.bool hb8)) rfl (R.leq rfl rfl) ?_
      refine DE.t 7 (v := (Value.bool (decide (t9 ≤ (32 : Int))))) rfl (by kernel_rfl) (Wn.no rfl) rfl (R.pickT (congrArg Value.bool hb8) rfl) ?_
      refine DE.t 8 (v := (Value.bool (decide (t9 ≤ (32 : Int))))) rfl (by kernel_rfl) (Wn.no rfl) rfl (R.move rfl) ?_
      rcases M.ite_use h with ⟨hb11, h⟩ | ⟨hb11, h⟩
      · refine DE.t 9 (v := (Value.pointer (some b2))) rfl (by kernel_rfl) (Wn.yes 8 11 true rfl rfl rfl (congrArg Value.bool hb11)) rfl (R.fld (off := 0) fa28_0 rfl) ?_
        refine DE.t 11 (v := (Value.pointer (some (b2.add 1)))) rfl (by kernel_rfl) (Wn.yes 8 11 true rfl rfl rfl (congrArg Value.bool hb11)) rfl (R.fld (off := 1) fa28_1 rfl) ?_
        obtain ⟨t12, h13, h⟩ := h
        refine DE.hold 10 (fun w => w.cell? b2 = some (Value.int .u32 t12)) (v := (Value.int .u32 t12)) rfl (by kernel_rfl) (Wn.yes 8 11 true rfl rfl rfl (congrArg Value.bool hb11)) rfl h13 (fun w hs => R.ld sc26 rfl hs) ?_
        obtain ⟨t14, h15, h⟩ := h
        refine DE.main 12 (by kernel_rfl) ?_
        refine One.r 12 (v := (Value.int .i64 t14)) rfl (Wn.yes 8 11 true rfl rfl rfl (congrArg Value.bool hb11)) rfl (R.ld sc3 rfl h15) (.inl rfl) ?_
        refine DE.main 13 (by kernel_rfl) ?_
        refine One.c 13 rfl (Wn.yes 8 11 true rfl rfl rfl (congrArg Value.bool hb11)) rfl (R.call bd35 (Ls.cons rfl Ls.nil) rfl) (Calls.mono h ?_)
        rintro _ w17 ⟨r16, rfl, h⟩
        obtain ⟨k18, h⟩ := h
        refine ⟨_, rfl, ⟨fun _ => k18, trivial⟩, ?_⟩
        refine DE.t 14 (v := (Value.int .u32 (bAndNot .u32 t12 r16))) rfl (by kernel_rfl) (Wn.yes 8 11 true rfl rfl rfl (congrArg Value.bool hb11)) rfl (R.andNot rfl rfl) ?_
        refine DE.t 15 (v := (Value.bool ((bAndNot .u32 t12 r16) == (0 : Int)))) rfl (by kernel_rfl) (Wn.yes 8 11 true rfl rfl rfl (congrArg Value.bool hb11)) rfl (R.eql rfl rfl) ?_
        refine DE.t 16 (v := (Value.bool ((bAndNot .u32 t12 r16) == (0 : Int)))) rfl (by kernel_rfl) (Wn.no rfl) rfl (R.pickT (congrArg Value.bool hb11) rfl) ?_
        refine DE.t 17 (v := (Value.bool ((bAndNot .u32 t12 r16) == (0 : Int)))) rfl (by kernel_rfl) (Wn.no rfl) rfl (R.assign rfl) ?_
        refine DE.done (by kernel_rfl) ?_
        exact ⟨_, h, rfl⟩
      · refine DE.u 9 rfl (by kernel_rfl) (Un.no 8 11 true rfl rfl rfl (congrArg Value.bool hb11)) ?_
        refine DE.u 10 rfl (by kernel_rfl) (Un.no 8 11 true rfl rfl rfl (congrArg Value.bool hb11)) ?_
        refine DE.u 11 rfl (by kernel_rfl) (Un.no 8 11 true rfl rfl rfl (congrArg Value.bool hb11)) ?_
        refine DE.u 12 rfl (by kernel_rfl) (Un.no 8 11 true rfl rfl rfl (congrArg Value.bool hb11)) ?_
        refine DE.u 13 rfl (by kernel_rfl) (Un.no 8 11 true rfl rfl rfl (congrArg Value.bool hb11)) ?_
        refine DE.u 14 rfl (by kernel_rfl) (Un.no 8 11 true rfl rfl rfl (congrArg Value.bool hb11)) ?_
        refine DE.u 15 rfl (by kernel_rfl) (Un.no 8 11 true rfl rfl rfl (congrArg Value.bool hb11)) ?_
        refine DE.t 16 (v := (Value.bool false)) rfl (by kernel_rfl) (Wn.no rfl) rfl (R.pickF (congrArg Value.bool hb11) rfl) ?_
        refine DE.t 17 (v := (Value.bool false)) rfl (by kernel_rfl) (Wn.no rfl) rfl (R.assign rfl) ?_
        refine DE.done (by kernel_rfl) ?_
        exact ⟨_, h, rfl⟩
    · refine DE.u 4 rfl (by kernel_rfl) (Un.no 3 6 true rfl rfl rfl (congrArg Value.bool hb8)) ?_
      refine DE.u 5 rfl (by kernel_rfl) (Un.no 3 6 true rfl rfl rfl (congrArg Value.bool hb8)) ?_
      refine DE.u 6 rfl (by kernel_rfl) (Un.no 3 6 true rfl rfl rfl (congrArg Value.bool hb8)) ?_
      refine DE.t 7 (v := (Value.bool false)) rfl (by kernel_rfl) (Wn.no rfl) rfl (R.pickF (congrArg Value.bool hb8) rfl) ?_
      refine DE.t 8 (v := (Value.bool false)) rfl (by kernel_rfl) (Wn.no rfl) rfl (R.move rfl) ?_
      refine DE.u 9 rfl (by kernel_rfl) (Un.no 8 11 true rfl rfl rfl rfl) ?_
      refine DE.u 10 rfl (by kernel_rfl) (Un.no 8 11 true rfl rfl rfl rfl) ?_
      refine DE.u 11 rfl (by kernel_rfl) (Un.no 8 11 true rfl rfl rfl rfl) ?_
      refine DE.u 12 rfl (by kernel_rfl) (Un.no 8 11 true rfl rfl rfl rfl) ?_
      refine DE.u 13 rfl (by kernel_rfl) (Un.no 8 11 true rfl rfl rfl rfl) ?_
      refine DE.u 14 rfl (by kernel_rfl) (Un.no 8 11 true rfl rfl rfl rfl) ?_
      refine DE.u 15 rfl (by kernel_rfl) (Un.no 8 11 true rfl rfl rfl rfl) ?_
      refine DE.t 16 (v := (Value.bool false)) rfl (by kernel_rfl) (Wn.no rfl) rfl (R.pickF rfl rfl) ?_
      refine DE.t 17 (v := (Value.bool false)) rfl (by kernel_rfl) (Wn.no rfl) rfl (R.assign rfl) ?_
      refine DE.done (by kernel_rfl) ?_
      exact ⟨_, h, rfl⟩
  · rintro e19 w20 ⟨x4, h, f21⟩
    subst hJ3
    refine WE.ret ?_
    exact ⟨_, (Res.tmp f21 Res.nil), _, rfl, h⟩
/-- The formula of signpost.signpostref2.Right. -/
def F58 (p0 : Nat) (K : Bool → World → Prop) (w0 : World) : Prop :=
K (fGeq p0 (0 : Nat)) w0
theorem F58_ok {w0 : World} {p0 : Nat} {K : Bool → World → Prop} (h : F58 p0 K w0) : Calls Try.prog 58 #[(Value.float .f64 p0)] w0 (R58 K) := by
  refine calls_of_WE (args := [(Value.float .f64 p0)]) (rs := [.tmp 2]) Try.func58 rfl (N := 5) rfl rfl rfl rfl ?_
  refine WE.seq ?_
  refine WE.reg ?_
  refine LE.p (v := (Value.bool false)) (Wn.no rfl) rfl (R.assign rfl) ?_
  refine LE.nil ?_
  refine WE.seq ?_
  refine WE.reg ?_
  refine LE.p (v := (Value.float .f64 p0)) (Wn.no rfl) rfl (R.move rfl) ?_
  refine LE.p (v := (Value.bool (fGeq p0 (0 : Nat)))) (Wn.no rfl) rfl (R.fgeq rfl rfl) ?_
  refine LE.p (v := (Value.bool (fGeq p0 (0 : Nat)))) (Wn.no rfl) rfl (R.assign rfl) ?_
  refine LE.nil ?_
  refine WE.ret ?_
  exact ⟨_, (Res.tmp rfl Res.nil), _, rfl, h⟩
/-- The formula of signpost.signpostref2.Same. -/
def F59 (p0 : Nat) (p1 : Nat) (K : Bool → World → Prop) (w0 : World) : Prop :=
Calls Try.prog 46 #[(Value.float .f64 p0)] w0 (R46 fun r1 w2 =>
Calls Try.prog 46 #[(Value.float .f64 p1)] w2 (R46 fun r3 w4 =>
K (fEql r1 r3) w4))
theorem F59_ok {w0 : World} {p0 : Nat} {p1 : Nat} {K : Bool → World → Prop} (h : F59 p0 p1 K w0) : Calls Try.prog 59 #[(Value.float .f64 p0), (Value.float .f64 p1)] w0 (R59 K) := by
  refine calls_of_WE (args := [(Value.float .f64 p0), (Value.float .f64 p1)]) (rs := [.tmp 4]) Try.func59 rfl (N := 10) rfl rfl rfl rfl ?_
  refine WE.seq ?_
  refine WE.reg ?_
  refine LE.p (v := (Value.bool false)) (Wn.no rfl) rfl (R.assign rfl) ?_
  refine LE.nil ?_
  refine WE.seq ?_
  refine WE.reg ?_
  refine LE.p (v := (Value.float .f64 p0)) (Wn.no rfl) rfl (R.move rfl) ?_
  refine LE.c (Wn.no rfl) rfl (R.call bd46 (Ls.cons rfl Ls.nil) rfl) (Calls.mono h ?_)
  rintro _ w2 ⟨r1, rfl, h⟩
  refine ⟨_, rfl, ?_⟩
  refine LE.p (v := (Value.float .f64 p1)) (Wn.no rfl) rfl (R.move rfl) ?_
  refine LE.c (Wn.no rfl) rfl (R.call bd46 (Ls.cons rfl Ls.nil) rfl) (Calls.mono h ?_)
  rintro _ w4 ⟨r3, rfl, h⟩
  refine ⟨_, rfl, ?_⟩
  refine LE.p (v := (Value.bool (fEql r1 r3))) (Wn.no rfl) rfl (R.feql rfl rfl) ?_
  refine LE.p (v := (Value.bool (fEql r1 r3))) (Wn.no rfl) rfl (R.assign rfl) ?_
  refine LE.nil ?_
  refine WE.ret ?_
  exact ⟨_, (Res.tmp rfl Res.nil), _, rfl, h⟩
/-- The formula of (*signpost.trie.Trie).down. -/
def F60 (p0 : Option Addr) (p1 : Int) (p2 : Int) (K : SV → World → Prop) (w0 : World) : Prop :=
M.nil p0 fun a1 =>
M.join (fun (x4 : SV) (w56 : World) => 
K x4 w56) fun J3 => 
M.loop3 (fun (J8 : SV → Option Addr → Int → World → Prop) (x5 : SV) (x6 : Option Addr) (x7 : Int) (w9 : World) => 
M.join (fun (x22 : SV) (w38 : World) => 
M.ite (x7 == p2) (
J3 x22 w38) (
M.drew w38 fun w45 => 
M.nil x6 fun a46 =>
Calls Try.prog 38 #[(Value.int .u32 p1), (Value.int .i64 x7)] w45 (R38 fun r48 w49 =>
M.inb r48 2 <|
M.ld Value.pointer (a46.add (r48.toNat * 1)) w49 fun t52 =>
M.ite (Option.isNone t52) (
J3 x22 w49) (
J8 x22 t52 (IntKind.i64.wrap (x7 + (1 : Int))) w49)))) fun J21 => 
M.nil x6 fun a23 =>
M.ld Value.bool (a23.add 2) w9 fun t25 =>
M.ite t25 (
Calls Try.prog 61 #[(Value.int .u32 p1), (Value.int .i64 x7)] w9 (R61 fun r28 r29 w30 =>
M.new (.cells #[(Value.int .u32 r28), (Value.int .i64 r29)] 28) w30 fun b33 w31 =>
M.app Try.prog 40 40 40 x5 (SV.v (SV.mk (some b33) 1 1)) w31 fun s34 w35 =>
J21 s34 w35)) (
J21 x5 w9)) SV.nil (some a1) (0 : Int) w0
theorem F60_ok {w0 : World} {p0 : Option Addr} {p1 : Int} {p2 : Int} {K : SV → World → Prop} (h : F60 p0 p1 p2 K w0) : Calls Try.prog 60 #[(Value.pointer p0), (Value.int .u32 p1), (Value.int .i64 p2)] w0 (R60 K) := by
  refine calls_of_WE (args := [(Value.pointer p0), (Value.int .u32 p1), (Value.int .i64 p2)]) (rs := [.tmp 6]) Try.func60 rfl (N := 39) rfl rfl rfl rfl ?_
  refine WE.seq ?_
  refine WE.reg ?_
  refine LE.p (v := (SV.v SV.nil)) (Wn.no rfl) rfl (R.assign rfl) ?_
  refine LE.nil ?_
  refine WE.scope ?_
  refine WE.seq ?_
  refine WE.reg ?_
  refine LE.p (v := (SV.v SV.nil)) (Wn.no rfl) rfl (R.assign rfl) ?_
  refine LE.nil ?_
  refine WE.seq ?_
  refine WE.reg ?_
  refine LE.p (v := (Value.pointer p0)) (Wn.no rfl) rfl (R.move rfl) ?_
  obtain ⟨a1, h2, h⟩ := h
  refine LE.p (v := (Value.pointer (some a1))) (Wn.no rfl) rfl (R.nilC (congrArg Value.pointer h2)) ?_
  refine LE.p (v := (Value.pointer (some a1))) (Wn.no rfl) rfl (R.fld (off := 0) fa86_0 rfl) ?_
  refine LE.p (v := (Value.pointer (some a1))) (Wn.no rfl) rfl (R.assign rfl) ?_
  refine LE.nil ?_
  refine WE.seq ?_
  refine WE.label ?_
  refine WE.seq ?_
  refine WE.seq ?_
  refine WE.reg ?_
  refine LE.p (v := (Value.int .i64 (0 : Int))) (Wn.no rfl) rfl (R.assign rfl) ?_
  refine LE.nil ?_
  obtain ⟨J3, hJ3, h⟩ := M.join_use h
  refine WE.blkJ (fun e w => ∃ (x4 : SV), J3 x4 w ∧ e 7 = (SV.v x4)) ?_ ?_
  · clear hJ3
    obtain ⟨I12, ⟨n11, h⟩, hr13⟩ := h
    refine WE.loop (fun n e w => ∃ (x5 : SV) (x6 : Option Addr) (x7 : Int), I12 n x5 x6 x7 w ∧ e 1 = (Value.int .u32 p1) ∧ e 2 = (Value.int .i64 p2) ∧ e 7 = (SV.v x5) ∧ e 8 = (Value.pointer x6) ∧ e 9 = (Value.int .i64 x7)) n11 ⟨_, _, _, h, rfl, rfl, rfl, rfl, rfl⟩ ?_
    clear h
    rintro n11 e10 w9 ⟨x5, x6, x7, h, f16, f17, f18, f19, f20⟩
    replace h := hr13 n11 x5 x6 x7 w9 h
    refine WE.seq ?_
    refine WE.block ?_
    obtain ⟨J21, hJ21, h⟩ := M.join_use h
    refine WE.join (fun e w => ∃ (x22 : SV), J21 x22 w ∧ e 1 = (Value.int .u32 p1) ∧ e 2 = (Value.int .i64 p2) ∧ e 7 = (SV.v x22) ∧ e 8 = (Value.pointer x6) ∧ e 9 = (Value.int .i64 x7)) ?_ ?_
    · clear hJ21
      refine WE.seq ?_
      refine WE.reg ?_
      refine LE.p (v := (Value.pointer x6)) (Wn.no rfl) rfl (R.move f19) ?_
      obtain ⟨a23, h24, h⟩ := h
      refine LE.p (v := (Value.pointer (some a23))) (Wn.no rfl) rfl (R.nilC (congrArg Value.pointer h24)) ?_
      refine LE.p (v := (Value.pointer (some (a23.add 2)))) (Wn.no rfl) rfl (R.fld (off := 2) fa84_1 rfl) ?_
      obtain ⟨t25, h26, h⟩ := h
      refine LE.r (v := (Value.bool t25)) (Wn.no rfl) rfl (R.ld sc4 rfl h26) ?_
      refine LE.nil ?_
      refine WE.condT rfl (b := t25) rfl ?_ ?_
      · intro hb27
        replace h := M.ite_t h hb27
        refine WE.reg ?_
        refine LE.p (v := (SV.v x5)) (Wn.no rfl) rfl (R.move f18) ?_
        refine LE.p (v := (Value.int .u32 p1)) (Wn.no rfl) rfl (R.move f16) ?_
        refine LE.p (v := (Value.int .i64 x7)) (Wn.no rfl) rfl (R.move f20) ?_
        refine LE.c (Wn.no rfl) rfl (R.call bd61 (Ls.cons rfl (Ls.cons rfl Ls.nil)) rfl) (Calls.mono h ?_)
        rintro _ w30 ⟨r28, r29, rfl, h⟩
        refine ⟨_, rfl, ?_⟩
        obtain ⟨b33, hpb33, w31, hww31, h⟩ := M.new_use h
        refine LE.r (v := (SV.v (SV.mk (some b33) 1 1))) (Wn.no rfl) rfl (R.bsl (by exact (Ls.cons (R.Pr rfl) Ls.nil)) (fun w => bs40_1 r28 r29 w) hpb33 hww31) ?_
        obtain ⟨s34, w35, h36, h⟩ := h
        refine LE.r (v := (SV.v s34)) (Wn.no rfl) rfl (R.app (s := x5) (r := s34) rfl rfl h36) ?_
        refine LE.p (v := (SV.v s34)) (Wn.no rfl) rfl (R.assign rfl) ?_
        refine LE.nil ?_
        exact ⟨_, h, f16, f17, rfl, f19, f20⟩
      · intro hb27
        replace h := M.ite_f h hb27
        refine WE.skip ?_
        exact ⟨_, h, f16, f17, f18, f19, f20⟩
    · rintro e37 w38 ⟨x22, h, f39, f40, f41, f42, f43⟩
      subst hJ21
      refine WE.seq ?_
      refine WE.seq ?_
      refine WE.reg ?_
      refine LE.p (v := (Value.int .i64 x7)) (Wn.no rfl) rfl (R.move f43) ?_
      refine LE.p (v := (Value.int .i64 p2)) (Wn.no rfl) rfl (R.move f40) ?_
      refine LE.p (v := (Value.bool (x7 == p2))) (Wn.no rfl) rfl (R.eql rfl rfl) ?_
      refine LE.nil ?_
      refine WE.condT rfl (b := (x7 == p2)) rfl ?_ ?_
      · intro hb44
        replace h := M.ite_t h hb44
        refine WE.exit ?_
        exact ⟨_, h, f41⟩
      · intro hb44
        replace h := M.ite_f h hb44
        refine WE.skip ?_
        refine WE.seq ?_
        refine WE.draw mix ?_
        obtain ⟨w45, hww45, h⟩ := M.drew_use h
        rw [← hww45]
        clear hww45
        refine DE.t 0 (v := (Value.pointer x6)) rfl (by kernel_rfl) (Wn.no rfl) rfl (R.move f42) ?_
        refine DE.t 1 (v := (Value.int .u32 p1)) rfl (by kernel_rfl) (Wn.no rfl) rfl (R.move f39) ?_
        refine DE.t 2 (v := (Value.int .i64 x7)) rfl (by kernel_rfl) (Wn.no rfl) rfl (R.move f43) ?_
        obtain ⟨a46, h47, h⟩ := h
        refine DE.t 4 (v := (Value.pointer (some a46))) rfl (by kernel_rfl) (Wn.no rfl) rfl (R.nilC (congrArg Value.pointer h47)) ?_
        refine DE.t 5 (v := (Value.pointer (some a46))) rfl (by kernel_rfl) (Wn.no rfl) rfl (R.fld (off := 0) fa84_0 rfl) ?_
        refine DE.main 3 (by kernel_rfl) ?_
        refine One.c 3 rfl (Wn.no rfl) rfl (R.call bd38 (Ls.cons rfl (Ls.cons rfl Ls.nil)) rfl) (Calls.mono h ?_)
        rintro _ w49 ⟨r48, rfl, h⟩
        refine ⟨_, rfl, trivial, ?_⟩
        obtain ⟨h50, h51, h⟩ := h
        refine DE.t 6 (v := (Value.pointer (some (a46.add (r48.toNat * 1))))) rfl (by kernel_rfl) (Wn.no rfl) rfl (R.idxArr ar82 rfl rfl h50 h51) ?_
        obtain ⟨t52, h53, h⟩ := h
        refine DE.main 7 (by kernel_rfl) ?_
        refine One.r 7 (v := (Value.pointer t52)) rfl (Wn.no rfl) rfl (R.ld sc81 rfl h53) (.inl rfl) ?_
        refine DE.t 8 (v := (Value.pointer t52)) rfl (by kernel_rfl) (Wn.no rfl) rfl (R.assign rfl) ?_
        refine DE.done (by kernel_rfl) ?_
        refine WE.seq ?_
        refine WE.reg ?_
        refine LE.p (v := (Value.pointer t52)) (Wn.no rfl) rfl (R.move rfl) ?_
        refine LE.p (v := (Value.bool (Option.isNone t52))) (Wn.no rfl) rfl (R.peqNil pt81 rfl rfl) ?_
        refine LE.nil ?_
        refine WE.condT rfl (b := (Option.isNone t52)) rfl ?_ ?_
        · intro hb54
          replace h := M.ite_t h hb54
          refine WE.exit ?_
          exact ⟨_, h, f41⟩
        · intro hb54
          replace h := M.ite_f h hb54
          refine WE.skip ?_
          refine WE.reg ?_
          refine LE.p (v := (Value.int .i64 x7)) (Wn.no rfl) rfl (R.move f43) ?_
          refine LE.p (v := (Value.int .i64 (IntKind.i64.wrap (x7 + (1 : Int))))) (Wn.no rfl) rfl (R.add rfl rfl) ?_
          refine LE.p (v := (Value.int .i64 (IntKind.i64.wrap (x7 + (1 : Int))))) (Wn.no rfl) rfl (R.assign rfl) ?_
          refine LE.nil ?_
          obtain ⟨m14, hm15, h⟩ := h
          exact ⟨m14, hm15, _, _, _, h, f39, f40, f41, rfl, rfl⟩
  · rintro e55 w56 ⟨x4, h, f57⟩
    subst hJ3
    refine WE.seq ?_
    refine WE.reg ?_
    refine LE.p (v := (SV.v x4)) (Wn.no rfl) rfl (R.move f57) ?_
    refine LE.p (v := (SV.v x4)) (Wn.no rfl) rfl (R.assign rfl) ?_
    refine LE.nil ?_
    refine WE.ret ?_
    exact ⟨_, (Res.tmp rfl Res.nil), _, rfl, h⟩
/-- The formula of signpost.addr.Of. -/
def F61 (p0 : Int) (p1 : Int) (K : Int → Int → World → Prop) (w0 : World) : Prop :=
M.new (.cells #[(Value.int .u32 (0 : Int)), (Value.int .i64 (0 : Int))] 28) w0 fun b2 w1 =>
Calls Try.prog 51 #[(Value.int .i64 p1)] w1 (R51 fun r3 w4 =>
M.stA b2 [(Value.int .u32 (bAnd .u32 p0 r3)), (Value.int .i64 (min (max p1 (0 : Int)) (32 : Int)))] w4 fun w5 =>
M.ld (Value.int .u32) b2 w5 fun t7 =>
M.ld (Value.int .i64) (b2.add 1) w5 fun t9 =>
K t7 t9 w5)
theorem F61_ok {w0 : World} {p0 : Int} {p1 : Int} {K : Int → Int → World → Prop} (h : F61 p0 p1 K w0) : Calls Try.prog 61 #[(Value.int .u32 p0), (Value.int .i64 p1)] w0 (R61 K) := by
  refine calls_of_WE (args := [(Value.int .u32 p0), (Value.int .i64 p1)]) (rs := [.cell 4 28]) Try.func61 rfl (N := 13) rfl rfl rfl rfl ?_
  refine WE.seq ?_
  refine WE.reg ?_
  obtain ⟨b2, hpb2, w1, hww1, h⟩ := M.new_use h
  refine LE.r (v := (Value.pointer (some b2))) (Wn.no rfl) rfl (R.alloc (cs := #[(Value.int .u32 (0 : Int)), (Value.int .i64 (0 : Int))]) ze28 rfl hpb2 hww1) ?_
  refine LE.nil ?_
  refine WE.seq ?_
  refine WE.reg ?_
  refine LE.p (v := (Value.int .u32 p0)) (Wn.no rfl) rfl (R.move rfl) ?_
  refine LE.p (v := (Value.int .i64 p1)) (Wn.no rfl) rfl (R.move rfl) ?_
  refine LE.c (Wn.no rfl) rfl (R.call bd51 (Ls.cons rfl Ls.nil) rfl) (Calls.mono h ?_)
  rintro _ w4 ⟨r3, rfl, h⟩
  refine ⟨_, rfl, ?_⟩
  refine LE.p (v := (Value.int .u32 (bAnd .u32 p0 r3))) (Wn.no rfl) rfl (R.and rfl rfl) ?_
  refine LE.p (v := (Value.int .i64 p1)) (Wn.no rfl) rfl (R.move rfl) ?_
  refine LE.p (v := (Value.int .i64 (max p1 (0 : Int)))) (Wn.no rfl) rfl (R.max2 rfl rfl) ?_
  refine LE.p (v := (Value.int .i64 (min (max p1 (0 : Int)) (32 : Int)))) (Wn.no rfl) rfl (R.min2 rfl rfl) ?_
  refine LE.p (v := (Value.agg #[(Value.int .u32 (bAnd .u32 p0 r3)), (Value.int .i64 (min (max p1 (0 : Int)) (32 : Int)))])) (Wn.no rfl) rfl (R.bld (by exact (Ls.cons (R.Pr rfl) (Ls.cons (R.Pr rfl) Ls.nil))) (fun w => bu28_0_1 (bAnd .u32 p0 r3) (min (max p1 (0 : Int)) (32 : Int)) w)) ?_
  obtain ⟨w5, hww5, h6, h⟩ := M.stA_use h
  refine LE.s (Wn.no rfl) rfl (R.stA (a := b2) [(Value.int .u32 (bAnd .u32 p0 r3)), (Value.int .i64 (min (max p1 (0 : Int)) (32 : Int)))] sz28 rfl rfl rfl (by simp [Value.oneCell']) h6 hww5) ?_
  refine LE.nil ?_
  refine WE.ret ?_
  obtain ⟨t7, h8, h⟩ := h
  obtain ⟨t9, h10, h⟩ := h
  exact ⟨_, (Res.cell rfl (R.ldCellA ag28 sz28 rfl (Cs.cons h8 (Cs.cons h10 Cs.nil))) Res.nil), _, _, rfl, h⟩
end Go.Proofs.Ytecegjimdohmeaa
