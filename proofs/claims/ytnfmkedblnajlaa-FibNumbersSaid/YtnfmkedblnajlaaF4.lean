/-
  Printed by gen.py: the formula of each function, and that it holds of the function.
-/
import Derived.Test.YtnfmkedblnajlaaTy
namespace Go.Proofs.Ytnfmkedblnajlaa
set_option linter.unusedVariables false
set_option linter.unusedSimpArgs false
open Go.Sp
set_option linter.unusedVariables false
/-- The formula of (*signpost.trie.Trie).Below. -/
def F45 (p0 : Option Addr) (p1_0 : Int) (p1_1 : Int) (K : SV → World → Prop) (w0 : World) : Prop :=
M.new (.cells #[(Value.int .u32 p1_0), (Value.int .i64 p1_1)] 33) w0 fun b2 w1 =>
M.ld (Value.int .u32) b2 w1 fun t3 =>
M.ld (Value.int .i64) (b2.add 1) w1 fun t5 =>
Calls Try.prog 39 #[(Value.agg #[(Value.int .u32 t3), (Value.int .i64 t5)])] w1 (R39 fun r7 w8 =>
M.ite (!r7) (
K SV.nil w8) (
M.drew w8 fun w10 => 
M.ld (Value.int .u32) b2 w10 fun t11 =>
M.ld (Value.int .i64) (b2.add 1) w10 fun t13 =>
M.ld (Value.int .u32) b2 w10 fun t15 =>
M.ld (Value.int .i64) (b2.add 1) w10 fun t17 =>
Calls Try.prog 52 #[(Value.pointer p0), (Value.agg #[(Value.int .u32 t11), (Value.int .i64 t13)])] w10 (R52 fun r19 w20 =>
M.keep (w20.cell? b2 = some (Value.int .u32 t15)) <|
M.keep (w20.cell? (b2.add 1) = some (Value.int .i64 t17)) <|
Calls Try.prog 53 #[(Value.pointer r19), (Value.agg #[(Value.int .u32 t15), (Value.int .i64 t17)]), (SV.v SV.nil)] w20 (R53 fun r23 w24 =>
K r23 w24))))
theorem F45_ok {w0 : World} {p0 : Option Addr} {p1_0 : Int} {p1_1 : Int} {K : SV → World → Prop} (h : F45 p0 p1_0 p1_1 K w0) : Calls Try.prog 45 #[(Value.pointer p0), (Value.agg #[(Value.int .u32 p1_0), (Value.int .i64 p1_1)])] w0 (R45 K) := by
  refine calls_of_WE (args := [(Value.pointer p0), (Value.agg #[(Value.int .u32 p1_0), (Value.int .i64 p1_1)])]) (rs := [.tmp 4]) Try.func45 rfl (N := 13) rfl rfl rfl rfl ?_
  refine WE.seq ?_
  refine WE.reg ?_
  obtain ⟨b2, hpb2, w1, hww1, h⟩ := M.new_use h
  refine LE.r (v := (Value.pointer (some b2))) (Wn.no rfl) rfl (R.box (cs := #[(Value.int .u32 p1_0), (Value.int .i64 p1_1)]) rfl rfl hpb2 hww1) ?_
  refine LE.p (v := (SV.v SV.nil)) (Wn.no rfl) rfl (R.assign rfl) ?_
  refine LE.nil ?_
  refine WE.seq ?_
  refine WE.seq ?_
  refine WE.reg ?_
  obtain ⟨t3, h4, h⟩ := h
  obtain ⟨t5, h6, h⟩ := h
  refine LE.r (v := (Value.agg #[(Value.int .u32 t3), (Value.int .i64 t5)])) (Wn.no rfl) rfl (R.ldA ag33 sz33 rfl rfl (Cs.cons h4 (Cs.cons h6 Cs.nil))) ?_
  refine LE.c (Wn.no rfl) rfl (R.call bd39 (Ls.cons rfl Ls.nil) rfl) (Calls.mono h ?_)
  rintro _ w8 ⟨r7, rfl, h⟩
  refine ⟨_, rfl, ?_⟩
  refine LE.p (v := (Value.bool (!r7))) (Wn.no rfl) rfl (R.not rfl) ?_
  refine LE.nil ?_
  refine WE.condT rfl (b := (!r7)) rfl ?_ ?_
  · intro hb9
    replace h := M.ite_t h hb9
    refine WE.seq ?_
    refine WE.reg ?_
    refine LE.p (v := (SV.v SV.nil)) (Wn.no rfl) rfl (R.assign rfl) ?_
    refine LE.nil ?_
    refine WE.ret ?_
    exact ⟨_, (Res.tmp rfl Res.nil), _, rfl, h⟩
  · intro hb9
    replace h := M.ite_f h hb9
    refine WE.skip ?_
    refine WE.seq ?_
    refine WE.draw mix ?_
    obtain ⟨w10, hww10, h⟩ := M.drew_use h
    rw [← hww10]
    clear hww10
    refine DE.t 0 (v := (Value.pointer p0)) rfl (by kernel_rfl) (Wn.no rfl) rfl (R.move rfl) ?_
    obtain ⟨t11, h12, h⟩ := h
    obtain ⟨t13, h14, h⟩ := h
    refine DE.hold 1 (fun w => w.cell? b2 = some (Value.int .u32 t11) ∧ w.cell? (b2.add 1) = some (Value.int .i64 t13)) (v := (Value.agg #[(Value.int .u32 t11), (Value.int .i64 t13)])) rfl (by kernel_rfl) (Wn.no rfl) rfl ⟨h12, h14⟩ (fun w hs => R.ldA ag33 sz33 rfl rfl (Cs.cons hs.1 (Cs.cons hs.2 Cs.nil))) ?_
    obtain ⟨t15, h16, h⟩ := h
    obtain ⟨t17, h18, h⟩ := h
    refine DE.hold 3 (fun w => w.cell? b2 = some (Value.int .u32 t15) ∧ w.cell? (b2.add 1) = some (Value.int .i64 t17)) (v := (Value.agg #[(Value.int .u32 t15), (Value.int .i64 t17)])) rfl (by kernel_rfl) (Wn.no rfl) rfl ⟨h16, h18⟩ (fun w hs => R.ldA ag33 sz33 rfl rfl (Cs.cons hs.1 (Cs.cons hs.2 Cs.nil))) ?_
    refine DE.main 2 (by kernel_rfl) ?_
    refine One.c 2 rfl (Wn.no rfl) rfl (R.call bd52 (Ls.cons rfl (Ls.cons rfl Ls.nil)) rfl) (Calls.mono h ?_)
    rintro _ w20 ⟨r19, rfl, h⟩
    obtain ⟨k21, h⟩ := h
    obtain ⟨k22, h⟩ := h
    refine ⟨_, rfl, ⟨fun _ => ⟨k21, k22⟩, aftT (by kernel_rfl), trivial⟩, ?_⟩
    refine DE.main 4 (by kernel_rfl) ?_
    refine One.c 4 rfl (Wn.no rfl) rfl (R.call bd53 (Ls.cons rfl (Ls.cons rfl (Ls.cons rfl Ls.nil))) rfl) (Calls.mono h ?_)
    rintro _ w24 ⟨r23, rfl, h⟩
    refine ⟨_, rfl, ⟨aftT (by kernel_rfl), aftT (by kernel_rfl), trivial⟩, ?_⟩
    refine DE.t 5 (v := (SV.v r23)) rfl (by kernel_rfl) (Wn.no rfl) rfl (R.assign rfl) ?_
    refine DE.done (by kernel_rfl) ?_
    refine WE.ret ?_
    exact ⟨_, (Res.tmp rfl Res.nil), _, rfl, h⟩
/-- The formula of (*signpost.trie.node).empty. -/
def F46 (p0 : Option Addr) (K : Bool → World → Prop) (w0 : World) : Prop :=
M.join (fun (x2 : Bool) (w22 : World) => 
K x2 w22) fun J1 => 
M.nil p0 fun a3 =>
M.ld Value.bool (a3.add 2) w0 fun t5 =>
M.ite (!t5) (
M.nil p0 fun a8 =>
M.inb (0 : Int) 2 <|
M.ld Value.pointer (a8.add ((0 : Int).toNat * 1)) w0 fun t12 =>
M.ite (Option.isNone t12) (
M.nil p0 fun a15 =>
M.inb (1 : Int) 2 <|
M.ld Value.pointer (a15.add ((1 : Int).toNat * 1)) w0 fun t19 =>
J1 (Option.isNone t19) w0) (
J1 false w0)) (
J1 false w0)
theorem F46_ok {w0 : World} {p0 : Option Addr} {K : Bool → World → Prop} (h : F46 p0 K w0) : Calls Try.prog 46 #[(Value.pointer p0)] w0 (R46 K) := by
  refine calls_of_WE (args := [(Value.pointer p0)]) (rs := [.tmp 2]) Try.func46 rfl (N := 24) rfl rfl rfl rfl ?_
  refine WE.seq ?_
  refine WE.reg ?_
  refine LE.p (v := (Value.bool false)) (Wn.no rfl) rfl (R.assign rfl) ?_
  refine LE.nil ?_
  refine WE.seq ?_
  obtain ⟨J1, hJ1, h⟩ := M.join_use h
  refine WE.regJ (fun e w => ∃ (x2 : Bool), J1 x2 w ∧ e 2 = (Value.bool x2)) ?_ ?_
  · clear hJ1
    refine LE.p (v := (Value.pointer p0)) (Wn.no rfl) rfl (R.move rfl) ?_
    obtain ⟨a3, h4, h⟩ := h
    refine LE.p (v := (Value.pointer (some a3))) (Wn.no rfl) rfl (R.nilC (congrArg Value.pointer h4)) ?_
    refine LE.p (v := (Value.pointer (some (a3.add 2)))) (Wn.no rfl) rfl (R.fld (off := 2) fa83_1 rfl) ?_
    obtain ⟨t5, h6, h⟩ := h
    refine LE.r (v := (Value.bool t5)) (Wn.no rfl) rfl (R.ld sc4 rfl h6) ?_
    refine LE.p (v := (Value.bool (!t5))) (Wn.no rfl) rfl (R.not rfl) ?_
    refine LE.p (v := (Value.bool (!t5))) (Wn.no rfl) rfl (R.move rfl) ?_
    rcases M.ite_use h with ⟨hb7, h⟩ | ⟨hb7, h⟩
    · refine LE.p (v := (Value.pointer p0)) (Wn.yes 5 8 true rfl rfl rfl (congrArg Value.bool hb7)) rfl (R.move rfl) ?_
      obtain ⟨a8, h9, h⟩ := h
      refine LE.p (v := (Value.pointer (some a8))) (Wn.yes 5 8 true rfl rfl rfl (congrArg Value.bool hb7)) rfl (R.nilC (congrArg Value.pointer h9)) ?_
      refine LE.p (v := (Value.pointer (some a8))) (Wn.yes 5 8 true rfl rfl rfl (congrArg Value.bool hb7)) rfl (R.fld (off := 0) fa83_0 rfl) ?_
      obtain ⟨h10, h11, h⟩ := h
      refine LE.p (v := (Value.pointer (some (a8.add ((0 : Int).toNat * 1))))) (Wn.yes 5 8 true rfl rfl rfl (congrArg Value.bool hb7)) rfl (R.idxArr ar81 rfl rfl h10 h11) ?_
      obtain ⟨t12, h13, h⟩ := h
      refine LE.r (v := (Value.pointer t12)) (Wn.yes 5 8 true rfl rfl rfl (congrArg Value.bool hb7)) rfl (R.ld sc80 rfl h13) ?_
      refine LE.p (v := (Value.bool (Option.isNone t12))) (Wn.yes 5 8 true rfl rfl rfl (congrArg Value.bool hb7)) rfl (R.peqNil pt80 rfl rfl) ?_
      refine LE.p (v := (Value.bool (Option.isNone t12))) (Wn.no rfl) rfl (R.pickT (congrArg Value.bool hb7) rfl) ?_
      refine LE.p (v := (Value.bool (Option.isNone t12))) (Wn.no rfl) rfl (R.move rfl) ?_
      rcases M.ite_use h with ⟨hb14, h⟩ | ⟨hb14, h⟩
      · refine LE.p (v := (Value.pointer p0)) (Wn.yes 13 16 true rfl rfl rfl (congrArg Value.bool hb14)) rfl (R.move rfl) ?_
        obtain ⟨a15, h16, h⟩ := h
        refine LE.p (v := (Value.pointer (some a15))) (Wn.yes 13 16 true rfl rfl rfl (congrArg Value.bool hb14)) rfl (R.nilC (congrArg Value.pointer h16)) ?_
        refine LE.p (v := (Value.pointer (some a15))) (Wn.yes 13 16 true rfl rfl rfl (congrArg Value.bool hb14)) rfl (R.fld (off := 0) fa83_0 rfl) ?_
        obtain ⟨h17, h18, h⟩ := h
        refine LE.p (v := (Value.pointer (some (a15.add ((1 : Int).toNat * 1))))) (Wn.yes 13 16 true rfl rfl rfl (congrArg Value.bool hb14)) rfl (R.idxArr ar81 rfl rfl h17 h18) ?_
        obtain ⟨t19, h20, h⟩ := h
        refine LE.r (v := (Value.pointer t19)) (Wn.yes 13 16 true rfl rfl rfl (congrArg Value.bool hb14)) rfl (R.ld sc80 rfl h20) ?_
        refine LE.p (v := (Value.bool (Option.isNone t19))) (Wn.yes 13 16 true rfl rfl rfl (congrArg Value.bool hb14)) rfl (R.peqNil pt80 rfl rfl) ?_
        refine LE.p (v := (Value.bool (Option.isNone t19))) (Wn.no rfl) rfl (R.pickT (congrArg Value.bool hb14) rfl) ?_
        refine LE.p (v := (Value.bool (Option.isNone t19))) (Wn.no rfl) rfl (R.assign rfl) ?_
        refine LE.nil ?_
        exact ⟨_, h, rfl⟩
      · refine LE.u (Un.no 13 16 true rfl rfl rfl (congrArg Value.bool hb14)) ?_
        refine LE.u (Un.no 13 16 true rfl rfl rfl (congrArg Value.bool hb14)) ?_
        refine LE.u (Un.no 13 16 true rfl rfl rfl (congrArg Value.bool hb14)) ?_
        refine LE.u (Un.no 13 16 true rfl rfl rfl (congrArg Value.bool hb14)) ?_
        refine LE.u (Un.no 13 16 true rfl rfl rfl (congrArg Value.bool hb14)) ?_
        refine LE.u (Un.no 13 16 true rfl rfl rfl (congrArg Value.bool hb14)) ?_
        refine LE.p (v := (Value.bool false)) (Wn.no rfl) rfl (R.pickF (congrArg Value.bool hb14) rfl) ?_
        refine LE.p (v := (Value.bool false)) (Wn.no rfl) rfl (R.assign rfl) ?_
        refine LE.nil ?_
        exact ⟨_, h, rfl⟩
    · refine LE.u (Un.no 5 8 true rfl rfl rfl (congrArg Value.bool hb7)) ?_
      refine LE.u (Un.no 5 8 true rfl rfl rfl (congrArg Value.bool hb7)) ?_
      refine LE.u (Un.no 5 8 true rfl rfl rfl (congrArg Value.bool hb7)) ?_
      refine LE.u (Un.no 5 8 true rfl rfl rfl (congrArg Value.bool hb7)) ?_
      refine LE.u (Un.no 5 8 true rfl rfl rfl (congrArg Value.bool hb7)) ?_
      refine LE.u (Un.no 5 8 true rfl rfl rfl (congrArg Value.bool hb7)) ?_
      refine LE.p (v := (Value.bool false)) (Wn.no rfl) rfl (R.pickF (congrArg Value.bool hb7) rfl) ?_
      refine LE.p (v := (Value.bool false)) (Wn.no rfl) rfl (R.move rfl) ?_
      refine LE.u (Un.no 13 16 true rfl rfl rfl rfl) ?_
      refine LE.u (Un.no 13 16 true rfl rfl rfl rfl) ?_
      refine LE.u (Un.no 13 16 true rfl rfl rfl rfl) ?_
      refine LE.u (Un.no 13 16 true rfl rfl rfl rfl) ?_
      refine LE.u (Un.no 13 16 true rfl rfl rfl rfl) ?_
      refine LE.u (Un.no 13 16 true rfl rfl rfl rfl) ?_
      refine LE.p (v := (Value.bool false)) (Wn.no rfl) rfl (R.pickF rfl rfl) ?_
      refine LE.p (v := (Value.bool false)) (Wn.no rfl) rfl (R.assign rfl) ?_
      refine LE.nil ?_
      exact ⟨_, h, rfl⟩
  · rintro e21 w22 ⟨x2, h, f23⟩
    subst hJ1
    refine WE.ret ?_
    exact ⟨_, (Res.tmp f23 Res.nil), _, rfl, h⟩
/-- The formula of signpost.signpostref1.Right. -/
def F47 (p0_0 : Int) (p0_1 : Int) (K : Bool → World → Prop) (w0 : World) : Prop :=
M.new (.cells #[(Value.int .u32 p0_0), (Value.int .i64 p0_1)] 33) w0 fun b2 w1 =>
M.join (fun (x4 : Bool) (w20 : World) => 
K x4 w20) fun J3 => 
M.drew w1 fun w5 => 
M.ld (Value.int .i64) (b2.add 1) w5 fun t6 =>
M.ite (decide ((0 : Int) ≤ t6)) (
M.ld (Value.int .i64) (b2.add 1) w5 fun t9 =>
M.ite (decide (t9 ≤ (32 : Int))) (
M.ld (Value.int .u32) b2 w5 fun t12 =>
M.ld (Value.int .i64) (b2.add 1) w5 fun t14 =>
Calls Try.prog 29 #[(Value.int .i64 t14)] w5 (R29 fun r16 w17 =>
M.keep (w17.cell? b2 = some (Value.int .u32 t12)) <|
J3 ((bAndNot .u32 t12 r16) == (0 : Int)) w17)) (
J3 false w5)) (
J3 false w5)
theorem F47_ok {w0 : World} {p0_0 : Int} {p0_1 : Int} {K : Bool → World → Prop} (h : F47 p0_0 p0_1 K w0) : Calls Try.prog 47 #[(Value.agg #[(Value.int .u32 p0_0), (Value.int .i64 p0_1)])] w0 (R47 K) := by
  refine calls_of_WE (args := [(Value.agg #[(Value.int .u32 p0_0), (Value.int .i64 p0_1)])]) (rs := [.tmp 2]) Try.func47 rfl (N := 20) rfl rfl rfl rfl ?_
  refine WE.seq ?_
  refine WE.reg ?_
  obtain ⟨b2, hpb2, w1, hww1, h⟩ := M.new_use h
  refine LE.r (v := (Value.pointer (some b2))) (Wn.no rfl) rfl (R.box (cs := #[(Value.int .u32 p0_0), (Value.int .i64 p0_1)]) rfl rfl hpb2 hww1) ?_
  refine LE.p (v := (Value.bool false)) (Wn.no rfl) rfl (R.assign rfl) ?_
  refine LE.nil ?_
  refine WE.seq ?_
  obtain ⟨J3, hJ3, h⟩ := M.join_use h
  refine WE.drawJ (fun e w => ∃ (x4 : Bool), J3 x4 w ∧ e 2 = (Value.bool x4)) mix ?_ ?_
  · clear hJ3
    obtain ⟨w5, hww5, h⟩ := M.drew_use h
    rw [← hww5]
    clear hww5
    refine DE.t 0 (v := (Value.pointer (some (b2.add 1)))) rfl (by kernel_rfl) (Wn.no rfl) rfl (R.fld (off := 1) fa33_1 rfl) ?_
    obtain ⟨t6, h7, h⟩ := h
    refine DE.main 1 (by kernel_rfl) ?_
    refine One.r 1 (v := (Value.int .i64 t6)) rfl (Wn.no rfl) rfl (R.ld sc3 rfl h7) (.inl rfl) ?_
    refine DE.t 2 (v := (Value.bool (decide ((0 : Int) ≤ t6)))) rfl (by kernel_rfl) (Wn.no rfl) rfl (R.geq rfl rfl) ?_
    refine DE.t 3 (v := (Value.bool (decide ((0 : Int) ≤ t6)))) rfl (by kernel_rfl) (Wn.no rfl) rfl (R.move rfl) ?_
    rcases M.ite_use h with ⟨hb8, h⟩ | ⟨hb8, h⟩
    · refine DE.t 4 (v := (Value.pointer (some (b2.add 1)))) rfl (by kernel_rfl) (Wn.yes 3 6 true rfl rfl rfl (congrArg Value.bool hb8)) rfl (R.fld (off := 1) fa33_1 rfl) ?_
      obtain ⟨t9, h10, h⟩ := h
      refine DE.main 5 (by kernel_rfl) ?_
      refine One.r 5 (v := (Value.int .i64 t9)) rfl (Wn.yes 3 6 true rfl rfl rfl (congrArg Value.bool hb8)) rfl (R.ld sc3 rfl h10) (.inl rfl) ?_
      refine DE.t 6 (v := (Value.bool (decide (t9 ≤ (32 : Int))))) rfl (by kernel_rfl) (Wn.yes 3 6 true rfl rfl rfl (congrArg Value.bool hb8)) rfl (R.leq rfl rfl) ?_
      refine DE.t 7 (v := (Value.bool (decide (t9 ≤ (32 : Int))))) rfl (by kernel_rfl) (Wn.no rfl) rfl (R.pickT (congrArg Value.bool hb8) rfl) ?_
      refine DE.t 8 (v := (Value.bool (decide (t9 ≤ (32 : Int))))) rfl (by kernel_rfl) (Wn.no rfl) rfl (R.move rfl) ?_
      rcases M.ite_use h with ⟨hb11, h⟩ | ⟨hb11, h⟩
      · refine DE.t 9 (v := (Value.pointer (some b2))) rfl (by kernel_rfl) (Wn.yes 8 11 true rfl rfl rfl (congrArg Value.bool hb11)) rfl (R.fld (off := 0) fa33_0 rfl) ?_
        refine DE.t 11 (v := (Value.pointer (some (b2.add 1)))) rfl (by kernel_rfl) (Wn.yes 8 11 true rfl rfl rfl (congrArg Value.bool hb11)) rfl (R.fld (off := 1) fa33_1 rfl) ?_
        obtain ⟨t12, h13, h⟩ := h
        refine DE.hold 10 (fun w => w.cell? b2 = some (Value.int .u32 t12)) (v := (Value.int .u32 t12)) rfl (by kernel_rfl) (Wn.yes 8 11 true rfl rfl rfl (congrArg Value.bool hb11)) rfl h13 (fun w hs => R.ld sc23 rfl hs) ?_
        obtain ⟨t14, h15, h⟩ := h
        refine DE.main 12 (by kernel_rfl) ?_
        refine One.r 12 (v := (Value.int .i64 t14)) rfl (Wn.yes 8 11 true rfl rfl rfl (congrArg Value.bool hb11)) rfl (R.ld sc3 rfl h15) (.inl rfl) ?_
        refine DE.main 13 (by kernel_rfl) ?_
        refine One.c 13 rfl (Wn.yes 8 11 true rfl rfl rfl (congrArg Value.bool hb11)) rfl (R.call bd29 (Ls.cons rfl Ls.nil) rfl) (Calls.mono h ?_)
        rintro _ w17 ⟨r16, rfl, h⟩
        obtain ⟨k18, h⟩ := h
        refine ⟨_, rfl, ⟨fun _ => k18, trivial⟩, ?_⟩
        refine DE.t 14 (v := (Value.int .u32 (bAndNot .u32 t12 r16))) rfl (by kernel_rfl) (Wn.yes 8 11 true rfl rfl rfl (congrArg Value.bool hb11)) rfl (R.andNot rfl rfl) ?_
        refine DE.t 15 (v := (Value.bool ((bAndNot .u32 t12 r16) == (0 : Int)))) rfl (by kernel_rfl) (Wn.yes 8 11 true rfl rfl rfl (congrArg Value.bool hb11)) rfl (R.eql rfl rfl) ?_
        refine DE.t 16 (v := (Value.bool ((bAndNot .u32 t12 r16) == (0 : Int)))) rfl (by kernel_rfl) (Wn.no rfl) rfl (R.pickT (congrArg Value.bool hb11) rfl) ?_
        refine DE.t 17 (v := (Value.bool ((bAndNot .u32 t12 r16) == (0 : Int)))) rfl (by kernel_rfl) (Wn.no rfl) rfl (R.assign rfl) ?_
        refine DE.done (by kernel_rfl) ?_
        exact ⟨_, h, rfl⟩
      · refine DE.u 9 rfl (by kernel_rfl) (Un.no 8 11 true rfl rfl rfl (congrArg Value.bool hb11)) ?_
        refine DE.u 10 rfl (by kernel_rfl) (Un.no 8 11 true rfl rfl rfl (congrArg Value.bool hb11)) ?_
        refine DE.u 11 rfl (by kernel_rfl) (Un.no 8 11 true rfl rfl rfl (congrArg Value.bool hb11)) ?_
        refine DE.u 12 rfl (by kernel_rfl) (Un.no 8 11 true rfl rfl rfl (congrArg Value.bool hb11)) ?_
        refine DE.u 13 rfl (by kernel_rfl) (Un.no 8 11 true rfl rfl rfl (congrArg Value.bool hb11)) ?_
        refine DE.u 14 rfl (by kernel_rfl) (Un.no 8 11 true rfl rfl rfl (congrArg Value.bool hb11)) ?_
        refine DE.u 15 rfl (by kernel_rfl) (Un.no 8 11 true rfl rfl rfl (congrArg Value.bool hb11)) ?_
        refine DE.t 16 (v := (Value.bool false)) rfl (by kernel_rfl) (Wn.no rfl) rfl (R.pickF (congrArg Value.bool hb11) rfl) ?_
        refine DE.t 17 (v := (Value.bool false)) rfl (by kernel_rfl) (Wn.no rfl) rfl (R.assign rfl) ?_
        refine DE.done (by kernel_rfl) ?_
        exact ⟨_, h, rfl⟩
    · refine DE.u 4 rfl (by kernel_rfl) (Un.no 3 6 true rfl rfl rfl (congrArg Value.bool hb8)) ?_
      refine DE.u 5 rfl (by kernel_rfl) (Un.no 3 6 true rfl rfl rfl (congrArg Value.bool hb8)) ?_
      refine DE.u 6 rfl (by kernel_rfl) (Un.no 3 6 true rfl rfl rfl (congrArg Value.bool hb8)) ?_
      refine DE.t 7 (v := (Value.bool false)) rfl (by kernel_rfl) (Wn.no rfl) rfl (R.pickF (congrArg Value.bool hb8) rfl) ?_
      refine DE.t 8 (v := (Value.bool false)) rfl (by kernel_rfl) (Wn.no rfl) rfl (R.move rfl) ?_
      refine DE.u 9 rfl (by kernel_rfl) (Un.no 8 11 true rfl rfl rfl rfl) ?_
      refine DE.u 10 rfl (by kernel_rfl) (Un.no 8 11 true rfl rfl rfl rfl) ?_
      refine DE.u 11 rfl (by kernel_rfl) (Un.no 8 11 true rfl rfl rfl rfl) ?_
      refine DE.u 12 rfl (by kernel_rfl) (Un.no 8 11 true rfl rfl rfl rfl) ?_
      refine DE.u 13 rfl (by kernel_rfl) (Un.no 8 11 true rfl rfl rfl rfl) ?_
      refine DE.u 14 rfl (by kernel_rfl) (Un.no 8 11 true rfl rfl rfl rfl) ?_
      refine DE.u 15 rfl (by kernel_rfl) (Un.no 8 11 true rfl rfl rfl rfl) ?_
      refine DE.t 16 (v := (Value.bool false)) rfl (by kernel_rfl) (Wn.no rfl) rfl (R.pickF rfl rfl) ?_
      refine DE.t 17 (v := (Value.bool false)) rfl (by kernel_rfl) (Wn.no rfl) rfl (R.assign rfl) ?_
      refine DE.done (by kernel_rfl) ?_
      exact ⟨_, h, rfl⟩
  · rintro e19 w20 ⟨x4, h, f21⟩
    subst hJ3
    refine WE.ret ?_
    exact ⟨_, (Res.tmp f21 Res.nil), _, rfl, h⟩
/-- The formula of signpost.signpostref1.Less. -/
def F48 (p0_0 : Int) (p0_1 : Int) (p1_0 : Int) (p1_1 : Int) (K : Bool → World → Prop) (w0 : World) : Prop :=
M.new (.cells #[(Value.int .u32 p0_0), (Value.int .i64 p0_1)] 33) w0 fun b2 w1 =>
M.new (.cells #[(Value.int .u32 p1_0), (Value.int .i64 p1_1)] 33) w1 fun b4 w3 =>
M.join (fun (x6 : Bool) (w21 : World) => 
M.ite x6 (
K false w21) (
M.join (fun (x27 : Bool) (w43 : World) => 
K x27 w43) fun J26 => 
M.ld (Value.int .u32) b2 w21 fun t28 =>
M.ld (Value.int .u32) b4 w21 fun t30 =>
M.ite (decide (t28 < t30)) (
J26 true w21) (
M.ld (Value.int .u32) b2 w21 fun t33 =>
M.ld (Value.int .u32) b4 w21 fun t35 =>
M.ite (t33 == t35) (
M.ld (Value.int .i64) (b2.add 1) w21 fun t38 =>
M.ld (Value.int .i64) (b4.add 1) w21 fun t40 =>
J26 (decide (t38 < t40)) w21) (
J26 false w21)))) fun J5 => 
M.ld (Value.int .u32) b2 w3 fun t7 =>
M.ld (Value.int .i64) (b2.add 1) w3 fun t9 =>
Calls Try.prog 47 #[(Value.agg #[(Value.int .u32 t7), (Value.int .i64 t9)])] w3 (R47 fun r11 w12 =>
M.ite (!r11) (
J5 true w12) (
M.ld (Value.int .u32) b4 w12 fun t14 =>
M.ld (Value.int .i64) (b4.add 1) w12 fun t16 =>
Calls Try.prog 47 #[(Value.agg #[(Value.int .u32 t14), (Value.int .i64 t16)])] w12 (R47 fun r18 w19 =>
J5 (!r18) w19)))
theorem F48_ok {w0 : World} {p0_0 : Int} {p0_1 : Int} {p1_0 : Int} {p1_1 : Int} {K : Bool → World → Prop} (h : F48 p0_0 p0_1 p1_0 p1_1 K w0) : Calls Try.prog 48 #[(Value.agg #[(Value.int .u32 p0_0), (Value.int .i64 p0_1)]), (Value.agg #[(Value.int .u32 p1_0), (Value.int .i64 p1_1)])] w0 (R48 K) := by
  refine calls_of_WE (args := [(Value.agg #[(Value.int .u32 p0_0), (Value.int .i64 p0_1)]), (Value.agg #[(Value.int .u32 p1_0), (Value.int .i64 p1_1)])]) (rs := [.tmp 4]) Try.func48 rfl (N := 32) rfl rfl rfl rfl ?_
  refine WE.seq ?_
  refine WE.reg ?_
  obtain ⟨b2, hpb2, w1, hww1, h⟩ := M.new_use h
  refine LE.r (v := (Value.pointer (some b2))) (Wn.no rfl) rfl (R.box (cs := #[(Value.int .u32 p0_0), (Value.int .i64 p0_1)]) rfl rfl hpb2 hww1) ?_
  obtain ⟨b4, hpb4, w3, hww3, h⟩ := M.new_use h
  refine LE.r (v := (Value.pointer (some b4))) (Wn.no rfl) rfl (R.box (cs := #[(Value.int .u32 p1_0), (Value.int .i64 p1_1)]) rfl rfl hpb4 hww3) ?_
  refine LE.p (v := (Value.bool false)) (Wn.no rfl) rfl (R.assign rfl) ?_
  refine LE.nil ?_
  refine WE.seq ?_
  refine WE.seq ?_
  obtain ⟨J5, hJ5, h⟩ := M.join_use h
  refine WE.regJ (fun e w => ∃ (x6 : Bool), J5 x6 w ∧ e 2 = (Value.pointer (some b2)) ∧ e 3 = (Value.pointer (some b4)) ∧ e 12 = (Value.bool x6)) ?_ ?_
  · clear hJ5
    obtain ⟨t7, h8, h⟩ := h
    obtain ⟨t9, h10, h⟩ := h
    refine LE.r (v := (Value.agg #[(Value.int .u32 t7), (Value.int .i64 t9)])) (Wn.no rfl) rfl (R.ldA ag33 sz33 rfl rfl (Cs.cons h8 (Cs.cons h10 Cs.nil))) ?_
    refine LE.c (Wn.no rfl) rfl (R.call bd47 (Ls.cons rfl Ls.nil) rfl) (Calls.mono h ?_)
    rintro _ w12 ⟨r11, rfl, h⟩
    refine ⟨_, rfl, ?_⟩
    refine LE.p (v := (Value.bool (!r11))) (Wn.no rfl) rfl (R.not rfl) ?_
    refine LE.p (v := (Value.bool (!r11))) (Wn.no rfl) rfl (R.move rfl) ?_
    rcases M.ite_use h with ⟨hb13, h⟩ | ⟨hb13, h⟩
    · refine LE.u (Un.no 3 8 false rfl rfl rfl (congrArg Value.bool hb13)) ?_
      refine LE.u (Un.no 3 8 false rfl rfl rfl (congrArg Value.bool hb13)) ?_
      refine LE.u (Un.no 3 8 false rfl rfl rfl (congrArg Value.bool hb13)) ?_
      refine LE.p (v := (Value.bool true)) (Wn.no rfl) rfl (R.pickT (congrArg Value.bool hb13) rfl) ?_
      refine LE.nil ?_
      exact ⟨_, h, rfl, rfl, rfl⟩
    · obtain ⟨t14, h15, h⟩ := h
      obtain ⟨t16, h17, h⟩ := h
      refine LE.r (v := (Value.agg #[(Value.int .u32 t14), (Value.int .i64 t16)])) (Wn.yes 3 8 false rfl rfl rfl (congrArg Value.bool hb13)) rfl (R.ldA ag33 sz33 rfl rfl (Cs.cons h15 (Cs.cons h17 Cs.nil))) ?_
      refine LE.c (Wn.yes 3 8 false rfl rfl rfl (congrArg Value.bool hb13)) rfl (R.call bd47 (Ls.cons rfl Ls.nil) rfl) (Calls.mono h ?_)
      rintro _ w19 ⟨r18, rfl, h⟩
      refine ⟨_, rfl, ?_⟩
      refine LE.p (v := (Value.bool (!r18))) (Wn.yes 3 8 false rfl rfl rfl (congrArg Value.bool hb13)) rfl (R.not rfl) ?_
      refine LE.p (v := (Value.bool (!r18))) (Wn.no rfl) rfl (R.pickF (congrArg Value.bool hb13) rfl) ?_
      refine LE.nil ?_
      exact ⟨_, h, rfl, rfl, rfl⟩
  · rintro e20 w21 ⟨x6, h, f22, f23, f24⟩
    subst hJ5
    refine WE.condT rfl (b := x6) f24 ?_ ?_
    · intro hb25
      replace h := M.ite_t h hb25
      refine WE.seq ?_
      refine WE.reg ?_
      refine LE.p (v := (Value.bool false)) (Wn.no rfl) rfl (R.assign rfl) ?_
      refine LE.nil ?_
      refine WE.ret ?_
      exact ⟨_, (Res.tmp rfl Res.nil), _, rfl, h⟩
    · intro hb25
      replace h := M.ite_f h hb25
      refine WE.skip ?_
      refine WE.seq ?_
      obtain ⟨J26, hJ26, h⟩ := M.join_use h
      refine WE.regJ (fun e w => ∃ (x27 : Bool), J26 x27 w ∧ e 4 = (Value.bool x27)) ?_ ?_
      · clear hJ26
        refine LE.p (v := (Value.pointer (some b2))) (Wn.no rfl) rfl (R.fld (off := 0) fa33_0 f22) ?_
        obtain ⟨t28, h29, h⟩ := h
        refine LE.r (v := (Value.int .u32 t28)) (Wn.no rfl) rfl (R.ld sc23 rfl h29) ?_
        refine LE.p (v := (Value.pointer (some b4))) (Wn.no rfl) rfl (R.fld (off := 0) fa33_0 f23) ?_
        obtain ⟨t30, h31, h⟩ := h
        refine LE.r (v := (Value.int .u32 t30)) (Wn.no rfl) rfl (R.ld sc23 rfl h31) ?_
        refine LE.p (v := (Value.bool (decide (t28 < t30)))) (Wn.no rfl) rfl (R.lss rfl rfl) ?_
        refine LE.p (v := (Value.bool (decide (t28 < t30)))) (Wn.no rfl) rfl (R.move rfl) ?_
        rcases M.ite_use h with ⟨hb32, h⟩ | ⟨hb32, h⟩
        · refine LE.u (Un.no 5 18 false rfl rfl rfl (congrArg Value.bool hb32)) ?_
          refine LE.u (Un.no 5 18 false rfl rfl rfl (congrArg Value.bool hb32)) ?_
          refine LE.u (Un.no 5 18 false rfl rfl rfl (congrArg Value.bool hb32)) ?_
          refine LE.u (Un.no 5 18 false rfl rfl rfl (congrArg Value.bool hb32)) ?_
          refine LE.u (Un.no 5 18 false rfl rfl rfl (congrArg Value.bool hb32)) ?_
          refine LE.u (Un.no 5 18 false rfl rfl rfl (congrArg Value.bool hb32)) ?_
          refine LE.u (Un.un 11 24 true rfl rfl rfl rfl) ?_
          refine LE.u (Un.un 11 24 true rfl rfl rfl rfl) ?_
          refine LE.u (Un.un 11 24 true rfl rfl rfl rfl) ?_
          refine LE.u (Un.un 11 24 true rfl rfl rfl rfl) ?_
          refine LE.u (Un.un 11 24 true rfl rfl rfl rfl) ?_
          refine LE.u (Un.no 5 18 false rfl rfl rfl (congrArg Value.bool hb32)) ?_
          refine LE.p (v := (Value.bool true)) (Wn.no rfl) rfl (R.pickT (congrArg Value.bool hb32) rfl) ?_
          refine LE.p (v := (Value.bool true)) (Wn.no rfl) rfl (R.assign rfl) ?_
          refine LE.nil ?_
          exact ⟨_, h, rfl⟩
        · refine LE.p (v := (Value.pointer (some b2))) (Wn.yes 5 18 false rfl rfl rfl (congrArg Value.bool hb32)) rfl (R.fld (off := 0) fa33_0 f22) ?_
          obtain ⟨t33, h34, h⟩ := h
          refine LE.r (v := (Value.int .u32 t33)) (Wn.yes 5 18 false rfl rfl rfl (congrArg Value.bool hb32)) rfl (R.ld sc23 rfl h34) ?_
          refine LE.p (v := (Value.pointer (some b4))) (Wn.yes 5 18 false rfl rfl rfl (congrArg Value.bool hb32)) rfl (R.fld (off := 0) fa33_0 f23) ?_
          obtain ⟨t35, h36, h⟩ := h
          refine LE.r (v := (Value.int .u32 t35)) (Wn.yes 5 18 false rfl rfl rfl (congrArg Value.bool hb32)) rfl (R.ld sc23 rfl h36) ?_
          refine LE.p (v := (Value.bool (t33 == t35))) (Wn.yes 5 18 false rfl rfl rfl (congrArg Value.bool hb32)) rfl (R.eql rfl rfl) ?_
          refine LE.p (v := (Value.bool (t33 == t35))) (Wn.yes 5 18 false rfl rfl rfl (congrArg Value.bool hb32)) rfl (R.move rfl) ?_
          rcases M.ite_use h with ⟨hb37, h⟩ | ⟨hb37, h⟩
          · refine LE.p (v := (Value.pointer (some (b2.add 1)))) (Wn.yes 11 24 true rfl rfl rfl (congrArg Value.bool hb37)) rfl (R.fld (off := 1) fa33_1 f22) ?_
            obtain ⟨t38, h39, h⟩ := h
            refine LE.r (v := (Value.int .i64 t38)) (Wn.yes 11 24 true rfl rfl rfl (congrArg Value.bool hb37)) rfl (R.ld sc3 rfl h39) ?_
            refine LE.p (v := (Value.pointer (some (b4.add 1)))) (Wn.yes 11 24 true rfl rfl rfl (congrArg Value.bool hb37)) rfl (R.fld (off := 1) fa33_1 f23) ?_
            obtain ⟨t40, h41, h⟩ := h
            refine LE.r (v := (Value.int .i64 t40)) (Wn.yes 11 24 true rfl rfl rfl (congrArg Value.bool hb37)) rfl (R.ld sc3 rfl h41) ?_
            refine LE.p (v := (Value.bool (decide (t38 < t40)))) (Wn.yes 11 24 true rfl rfl rfl (congrArg Value.bool hb37)) rfl (R.lss rfl rfl) ?_
            refine LE.p (v := (Value.bool (decide (t38 < t40)))) (Wn.yes 5 18 false rfl rfl rfl (congrArg Value.bool hb32)) rfl (R.pickT (congrArg Value.bool hb37) rfl) ?_
            refine LE.p (v := (Value.bool (decide (t38 < t40)))) (Wn.no rfl) rfl (R.pickF (congrArg Value.bool hb32) rfl) ?_
            refine LE.p (v := (Value.bool (decide (t38 < t40)))) (Wn.no rfl) rfl (R.assign rfl) ?_
            refine LE.nil ?_
            exact ⟨_, h, rfl⟩
          · refine LE.u (Un.no 11 24 true rfl rfl rfl (congrArg Value.bool hb37)) ?_
            refine LE.u (Un.no 11 24 true rfl rfl rfl (congrArg Value.bool hb37)) ?_
            refine LE.u (Un.no 11 24 true rfl rfl rfl (congrArg Value.bool hb37)) ?_
            refine LE.u (Un.no 11 24 true rfl rfl rfl (congrArg Value.bool hb37)) ?_
            refine LE.u (Un.no 11 24 true rfl rfl rfl (congrArg Value.bool hb37)) ?_
            refine LE.p (v := (Value.bool false)) (Wn.yes 5 18 false rfl rfl rfl (congrArg Value.bool hb32)) rfl (R.pickF (congrArg Value.bool hb37) rfl) ?_
            refine LE.p (v := (Value.bool false)) (Wn.no rfl) rfl (R.pickF (congrArg Value.bool hb32) rfl) ?_
            refine LE.p (v := (Value.bool false)) (Wn.no rfl) rfl (R.assign rfl) ?_
            refine LE.nil ?_
            exact ⟨_, h, rfl⟩
      · rintro e42 w43 ⟨x27, h, f44⟩
        subst hJ26
        refine WE.ret ?_
        exact ⟨_, (Res.tmp f44 Res.nil), _, rfl, h⟩
/-- The formula of signpost.signpostref24.longest. -/
def F49 (p0 : SV) (p1 : Int) (K : Int → World → Prop) (w0 : World) : Prop :=
M.loop2 (fun (J3 : Int → Int → World → Prop) (x1 : Int) (x2 : Int) (w4 : World) => 
M.ite (decide (x2 < (p0.len : Int))) (
M.join (fun (x17 : Int) (w54 : World) => 
J3 x17 (IntKind.i64.wrap (x2 + (1 : Int))) w54) fun J16 => 
M.join (fun (x19 : Bool) (w46 : World) => 
M.ite x19 (
J16 x2 w46) (
J16 x1 w46)) fun J18 => 
M.drew w4 fun w20 => 
M.idx p0 x2 3 fun a21 =>
M.ld (Value.int .u32) (a21.add (x2.toNat * 3)) w20 fun t25 =>
M.ld (Value.int .i64) ((a21.add (x2.toNat * 3)).add 1) w20 fun t27 =>
Calls Try.prog 37 #[(Value.agg #[(Value.int .u32 t25), (Value.int .i64 t27)]), (Value.int .u32 p1)] w20 (R37 fun r29 w30 =>
M.ite r29 (
M.ite (decide (x1 < (0 : Int))) (
J18 true w30) (
M.idx p0 x2 3 fun a33 =>
M.idx p0 x1 3 fun a37 =>
M.ld (Value.int .i64) ((a33.add (x2.toNat * 3)).add 1) w30 fun t41 =>
M.ld (Value.int .i64) ((a37.add (x1.toNat * 3)).add 1) w30 fun t43 =>
J18 (decide (t43 < t41)) w30)) (
J18 false w30))) (
K x1 w4)) (-1 : Int) (0 : Int) w0
theorem F49_ok {w0 : World} {p0 : SV} {p1 : Int} {K : Int → World → Prop} (h : F49 p0 p1 K w0) : Calls Try.prog 49 #[(SV.v p0), (Value.int .u32 p1)] w0 (R49 K) := by
  refine calls_of_WE (args := [(SV.v p0), (Value.int .u32 p1)]) (rs := [.tmp 4]) Try.func49 rfl (N := 41) rfl rfl rfl rfl ?_
  refine WE.seq ?_
  refine WE.reg ?_
  refine LE.p (v := (Value.int .i64 (0 : Int))) (Wn.no rfl) rfl (R.assign rfl) ?_
  refine LE.nil ?_
  refine WE.seq ?_
  refine WE.reg ?_
  refine LE.p (v := (Value.int .i64 (-1 : Int))) (Wn.no rfl) rfl (R.assign rfl) ?_
  refine LE.nil ?_
  refine WE.seq ?_
  refine WE.seq ?_
  refine WE.reg ?_
  refine LE.p (v := (Value.int .i64 (0 : Int))) (Wn.no rfl) rfl (R.assign rfl) ?_
  refine LE.nil ?_
  refine WE.block ?_
  obtain ⟨I7, ⟨n6, h⟩, hr8⟩ := h
  refine WE.loop (fun n e w => ∃ (x1 : Int) (x2 : Int), I7 n x1 x2 w ∧ e 0 = (SV.v p0) ∧ e 1 = (Value.int .u32 p1) ∧ e 5 = (Value.int .i64 x1) ∧ e 6 = (Value.int .i64 x2)) n6 ⟨_, _, h, rfl, rfl, rfl, rfl⟩ ?_
  clear h
  rintro n6 e5 w4 ⟨x1, x2, h, f11, f12, f13, f14⟩
  replace h := hr8 n6 x1 x2 w4 h
  refine WE.seq ?_
  refine WE.seq ?_
  refine WE.reg ?_
  refine LE.p (v := (Value.int .i64 x2)) (Wn.no rfl) rfl (R.move f14) ?_
  refine LE.p (v := (SV.v p0)) (Wn.no rfl) rfl (R.move f11) ?_
  refine LE.p (v := (Value.int .i64 (p0.len : Int))) (Wn.no rfl) rfl (R.len sl45 rfl) ?_
  refine LE.p (v := (Value.bool (decide (x2 < (p0.len : Int))))) (Wn.no rfl) rfl (R.lss rfl rfl) ?_
  refine LE.nil ?_
  refine WE.condT rfl (b := (decide (x2 < (p0.len : Int)))) rfl ?_ ?_
  · intro hb15
    replace h := M.ite_t h hb15
    refine WE.skip ?_
    refine WE.seq ?_
    obtain ⟨J16, hJ16, h⟩ := M.join_use h
    refine WE.blkJ (fun e w => ∃ (x17 : Int), J16 x17 w ∧ e 0 = (SV.v p0) ∧ e 1 = (Value.int .u32 p1) ∧ e 5 = (Value.int .i64 x17) ∧ e 6 = (Value.int .i64 x2)) ?_ ?_
    · clear hJ16
      refine WE.seq ?_
      obtain ⟨J18, hJ18, h⟩ := M.join_use h
      refine WE.drawJ (fun e w => ∃ (x19 : Bool), J18 x19 w ∧ e 0 = (SV.v p0) ∧ e 1 = (Value.int .u32 p1) ∧ e 5 = (Value.int .i64 x1) ∧ e 6 = (Value.int .i64 x2) ∧ e 38 = (Value.bool x19)) mix ?_ ?_
      · clear hJ18
        obtain ⟨w20, hww20, h⟩ := M.drew_use h
        rw [← hww20]
        clear hww20
        refine DE.t 0 (v := (SV.v p0)) rfl (by kernel_rfl) (Wn.no rfl) rfl (R.move f11) ?_
        refine DE.t 1 (v := (Value.int .i64 x2)) rfl (by kernel_rfl) (Wn.no rfl) rfl (R.move f14) ?_
        obtain ⟨a21, h22, h23, h24, h⟩ := h
        refine DE.t 2 (v := (Value.pointer (some (a21.add (x2.toNat * 3))))) rfl (by kernel_rfl) (Wn.no rfl) rfl (R.idx (s := p0) sl45 rfl rfl h22 h23 h24) ?_
        refine DE.t 3 (v := (Value.pointer (some (a21.add (x2.toNat * 3))))) rfl (by kernel_rfl) (Wn.no rfl) rfl (R.fld (off := 0) fa35_0 rfl) ?_
        refine DE.t 5 (v := (Value.int .u32 p1)) rfl (by kernel_rfl) (Wn.no rfl) rfl (R.move f12) ?_
        obtain ⟨t25, h26, h⟩ := h
        obtain ⟨t27, h28, h⟩ := h
        refine DE.main 4 (by kernel_rfl) ?_
        refine One.r 4 (v := (Value.agg #[(Value.int .u32 t25), (Value.int .i64 t27)])) rfl (Wn.no rfl) rfl (R.ldA ag33 sz33 rfl rfl (Cs.cons h26 (Cs.cons h28 Cs.nil))) (.inl rfl) ?_
        refine DE.main 6 (by kernel_rfl) ?_
        refine One.c 6 rfl (Wn.no rfl) rfl (R.call bd37 (Ls.cons rfl (Ls.cons rfl Ls.nil)) rfl) (Calls.mono h ?_)
        rintro _ w30 ⟨r29, rfl, h⟩
        refine ⟨_, rfl, trivial, ?_⟩
        refine DE.t 7 (v := (Value.bool r29)) rfl (by kernel_rfl) (Wn.no rfl) rfl (R.move rfl) ?_
        rcases M.ite_use h with ⟨hb31, h⟩ | ⟨hb31, h⟩
        · refine DE.t 8 (v := (Value.int .i64 x1)) rfl (by kernel_rfl) (Wn.yes 7 20 true rfl rfl rfl (congrArg Value.bool hb31)) rfl (R.move f13) ?_
          refine DE.t 9 (v := (Value.bool (decide (x1 < (0 : Int))))) rfl (by kernel_rfl) (Wn.yes 7 20 true rfl rfl rfl (congrArg Value.bool hb31)) rfl (R.lss rfl rfl) ?_
          refine DE.t 10 (v := (Value.bool (decide (x1 < (0 : Int))))) rfl (by kernel_rfl) (Wn.yes 7 20 true rfl rfl rfl (congrArg Value.bool hb31)) rfl (R.move rfl) ?_
          rcases M.ite_use h with ⟨hb32, h⟩ | ⟨hb32, h⟩
          · refine DE.u 11 rfl (by kernel_rfl) (Un.no 10 23 false rfl rfl rfl (congrArg Value.bool hb32)) ?_
            refine DE.u 12 rfl (by kernel_rfl) (Un.no 10 23 false rfl rfl rfl (congrArg Value.bool hb32)) ?_
            refine DE.u 13 rfl (by kernel_rfl) (Un.no 10 23 false rfl rfl rfl (congrArg Value.bool hb32)) ?_
            refine DE.u 14 rfl (by kernel_rfl) (Un.no 10 23 false rfl rfl rfl (congrArg Value.bool hb32)) ?_
            refine DE.u 15 rfl (by kernel_rfl) (Un.no 10 23 false rfl rfl rfl (congrArg Value.bool hb32)) ?_
            refine DE.u 16 rfl (by kernel_rfl) (Un.no 10 23 false rfl rfl rfl (congrArg Value.bool hb32)) ?_
            refine DE.u 17 rfl (by kernel_rfl) (Un.no 10 23 false rfl rfl rfl (congrArg Value.bool hb32)) ?_
            refine DE.u 18 rfl (by kernel_rfl) (Un.no 10 23 false rfl rfl rfl (congrArg Value.bool hb32)) ?_
            refine DE.u 19 rfl (by kernel_rfl) (Un.no 10 23 false rfl rfl rfl (congrArg Value.bool hb32)) ?_
            refine DE.u 20 rfl (by kernel_rfl) (Un.no 10 23 false rfl rfl rfl (congrArg Value.bool hb32)) ?_
            refine DE.u 21 rfl (by kernel_rfl) (Un.no 10 23 false rfl rfl rfl (congrArg Value.bool hb32)) ?_
            refine DE.u 22 rfl (by kernel_rfl) (Un.no 10 23 false rfl rfl rfl (congrArg Value.bool hb32)) ?_
            refine DE.u 23 rfl (by kernel_rfl) (Un.no 10 23 false rfl rfl rfl (congrArg Value.bool hb32)) ?_
            refine DE.t 24 (v := (Value.bool true)) rfl (by kernel_rfl) (Wn.yes 7 20 true rfl rfl rfl (congrArg Value.bool hb31)) rfl (R.pickT (congrArg Value.bool hb32) rfl) ?_
            refine DE.t 25 (v := (Value.bool true)) rfl (by kernel_rfl) (Wn.no rfl) rfl (R.pickT (congrArg Value.bool hb31) rfl) ?_
            refine DE.done (by kernel_rfl) ?_
            exact ⟨_, h, f11, f12, f13, f14, rfl⟩
          · refine DE.t 11 (v := (SV.v p0)) rfl (by kernel_rfl) (Wn.yes 10 23 false rfl rfl rfl (congrArg Value.bool hb32)) rfl (R.move f11) ?_
            refine DE.t 12 (v := (Value.int .i64 x2)) rfl (by kernel_rfl) (Wn.yes 10 23 false rfl rfl rfl (congrArg Value.bool hb32)) rfl (R.move f14) ?_
            obtain ⟨a33, h34, h35, h36, h⟩ := h
            refine DE.t 13 (v := (Value.pointer (some (a33.add (x2.toNat * 3))))) rfl (by kernel_rfl) (Wn.yes 10 23 false rfl rfl rfl (congrArg Value.bool hb32)) rfl (R.idx (s := p0) sl45 rfl rfl h34 h35 h36) ?_
            refine DE.t 14 (v := (Value.pointer (some (a33.add (x2.toNat * 3))))) rfl (by kernel_rfl) (Wn.yes 10 23 false rfl rfl rfl (congrArg Value.bool hb32)) rfl (R.fld (off := 0) fa35_0 rfl) ?_
            refine DE.t 15 (v := (Value.pointer (some ((a33.add (x2.toNat * 3)).add 1)))) rfl (by kernel_rfl) (Wn.yes 10 23 false rfl rfl rfl (congrArg Value.bool hb32)) rfl (R.fld (off := 1) fa33_1 rfl) ?_
            refine DE.t 17 (v := (SV.v p0)) rfl (by kernel_rfl) (Wn.yes 10 23 false rfl rfl rfl (congrArg Value.bool hb32)) rfl (R.move f11) ?_
            refine DE.t 18 (v := (Value.int .i64 x1)) rfl (by kernel_rfl) (Wn.yes 10 23 false rfl rfl rfl (congrArg Value.bool hb32)) rfl (R.move f13) ?_
            obtain ⟨a37, h38, h39, h40, h⟩ := h
            refine DE.t 19 (v := (Value.pointer (some (a37.add (x1.toNat * 3))))) rfl (by kernel_rfl) (Wn.yes 10 23 false rfl rfl rfl (congrArg Value.bool hb32)) rfl (R.idx (s := p0) sl45 rfl rfl h38 h39 h40) ?_
            refine DE.t 20 (v := (Value.pointer (some (a37.add (x1.toNat * 3))))) rfl (by kernel_rfl) (Wn.yes 10 23 false rfl rfl rfl (congrArg Value.bool hb32)) rfl (R.fld (off := 0) fa35_0 rfl) ?_
            refine DE.t 21 (v := (Value.pointer (some ((a37.add (x1.toNat * 3)).add 1)))) rfl (by kernel_rfl) (Wn.yes 10 23 false rfl rfl rfl (congrArg Value.bool hb32)) rfl (R.fld (off := 1) fa33_1 rfl) ?_
            obtain ⟨t41, h42, h⟩ := h
            refine DE.hold 16 (fun w => w.cell? ((a33.add (x2.toNat * 3)).add 1) = some (Value.int .i64 t41)) (v := (Value.int .i64 t41)) rfl (by kernel_rfl) (Wn.yes 10 23 false rfl rfl rfl (congrArg Value.bool hb32)) rfl h42 (fun w hs => R.ld sc3 rfl hs) ?_
            obtain ⟨t43, h44, h⟩ := h
            refine DE.main 22 (by kernel_rfl) ?_
            refine One.r 22 (v := (Value.int .i64 t43)) rfl (Wn.yes 10 23 false rfl rfl rfl (congrArg Value.bool hb32)) rfl (R.ld sc3 rfl h44) (.inl rfl) ?_
            refine DE.t 23 (v := (Value.bool (decide (t43 < t41)))) rfl (by kernel_rfl) (Wn.yes 10 23 false rfl rfl rfl (congrArg Value.bool hb32)) rfl (R.gtr rfl rfl) ?_
            refine DE.t 24 (v := (Value.bool (decide (t43 < t41)))) rfl (by kernel_rfl) (Wn.yes 7 20 true rfl rfl rfl (congrArg Value.bool hb31)) rfl (R.pickF (congrArg Value.bool hb32) rfl) ?_
            refine DE.t 25 (v := (Value.bool (decide (t43 < t41)))) rfl (by kernel_rfl) (Wn.no rfl) rfl (R.pickT (congrArg Value.bool hb31) rfl) ?_
            refine DE.done (by kernel_rfl) ?_
            exact ⟨_, h, f11, f12, f13, f14, rfl⟩
        · refine DE.u 8 rfl (by kernel_rfl) (Un.no 7 20 true rfl rfl rfl (congrArg Value.bool hb31)) ?_
          refine DE.u 9 rfl (by kernel_rfl) (Un.no 7 20 true rfl rfl rfl (congrArg Value.bool hb31)) ?_
          refine DE.u 10 rfl (by kernel_rfl) (Un.no 7 20 true rfl rfl rfl (congrArg Value.bool hb31)) ?_
          refine DE.u 11 rfl (by kernel_rfl) (Un.un 10 23 false rfl rfl rfl rfl) ?_
          refine DE.u 12 rfl (by kernel_rfl) (Un.un 10 23 false rfl rfl rfl rfl) ?_
          refine DE.u 13 rfl (by kernel_rfl) (Un.un 10 23 false rfl rfl rfl rfl) ?_
          refine DE.u 14 rfl (by kernel_rfl) (Un.un 10 23 false rfl rfl rfl rfl) ?_
          refine DE.u 15 rfl (by kernel_rfl) (Un.un 10 23 false rfl rfl rfl rfl) ?_
          refine DE.u 16 rfl (by kernel_rfl) (Un.un 10 23 false rfl rfl rfl rfl) ?_
          refine DE.u 17 rfl (by kernel_rfl) (Un.un 10 23 false rfl rfl rfl rfl) ?_
          refine DE.u 18 rfl (by kernel_rfl) (Un.un 10 23 false rfl rfl rfl rfl) ?_
          refine DE.u 19 rfl (by kernel_rfl) (Un.un 10 23 false rfl rfl rfl rfl) ?_
          refine DE.u 20 rfl (by kernel_rfl) (Un.un 10 23 false rfl rfl rfl rfl) ?_
          refine DE.u 21 rfl (by kernel_rfl) (Un.un 10 23 false rfl rfl rfl rfl) ?_
          refine DE.u 22 rfl (by kernel_rfl) (Un.un 10 23 false rfl rfl rfl rfl) ?_
          refine DE.u 23 rfl (by kernel_rfl) (Un.un 10 23 false rfl rfl rfl rfl) ?_
          refine DE.u 24 rfl (by kernel_rfl) (Un.no 7 20 true rfl rfl rfl (congrArg Value.bool hb31)) ?_
          refine DE.t 25 (v := (Value.bool false)) rfl (by kernel_rfl) (Wn.no rfl) rfl (R.pickF (congrArg Value.bool hb31) rfl) ?_
          refine DE.done (by kernel_rfl) ?_
          exact ⟨_, h, f11, f12, f13, f14, rfl⟩
      · rintro e45 w46 ⟨x19, h, f47, f48, f49, f50, f51⟩
        subst hJ18
        refine WE.condT rfl (b := x19) f51 ?_ ?_
        · intro hb52
          replace h := M.ite_t h hb52
          refine WE.reg ?_
          refine LE.p (v := (Value.int .i64 x2)) (Wn.no rfl) rfl (R.move f50) ?_
          refine LE.p (v := (Value.int .i64 x2)) (Wn.no rfl) rfl (R.assign rfl) ?_
          refine LE.nil ?_
          exact ⟨_, h, f47, f48, rfl, f50⟩
        · intro hb52
          replace h := M.ite_f h hb52
          refine WE.skip ?_
          exact ⟨_, h, f47, f48, f49, f50⟩
    · rintro e53 w54 ⟨x17, h, f55, f56, f57, f58⟩
      subst hJ16
      refine WE.reg ?_
      refine LE.p (v := (Value.int .i64 x2)) (Wn.no rfl) rfl (R.move f58) ?_
      refine LE.p (v := (Value.int .i64 (IntKind.i64.wrap (x2 + (1 : Int))))) (Wn.no rfl) rfl (R.add rfl rfl) ?_
      refine LE.p (v := (Value.int .i64 (IntKind.i64.wrap (x2 + (1 : Int))))) (Wn.no rfl) rfl (R.assign rfl) ?_
      refine LE.nil ?_
      obtain ⟨m9, hm10, h⟩ := h
      exact ⟨m9, hm10, _, _, h, f55, f56, f57, rfl⟩
  · intro hb15
    replace h := M.ite_f h hb15
    refine WE.exit ?_
    refine WE.seq ?_
    refine WE.reg ?_
    refine LE.p (v := (Value.int .i64 x1)) (Wn.no rfl) rfl (R.move f13) ?_
    refine LE.p (v := (Value.int .i64 x1)) (Wn.no rfl) rfl (R.assign rfl) ?_
    refine LE.nil ?_
    refine WE.ret ?_
    exact ⟨_, (Res.tmp rfl Res.nil), _, rfl, h⟩
/-- The formula of signpost.addr.Mask. -/
def F50 (p0 : Int) (K : Int → World → Prop) (w0 : World) : Prop :=
M.ite (decide (p0 < (1 : Int))) (
K (0 : Int) w0) (
M.sh (IntKind.i64.wrap ((32 : Int) - (min p0 (32 : Int)))) <|
K (bShl .u32 (4294967295 : Int) (IntKind.i64.wrap ((32 : Int) - (min p0 (32 : Int))))) w0)
theorem F50_ok {w0 : World} {p0 : Int} {K : Int → World → Prop} (h : F50 p0 K w0) : Calls Try.prog 50 #[(Value.int .i64 p0)] w0 (R50 K) := by
  refine calls_of_WE (args := [(Value.int .i64 p0)]) (rs := [.tmp 2]) Try.func50 rfl (N := 9) rfl rfl rfl rfl ?_
  refine WE.seq ?_
  refine WE.reg ?_
  refine LE.p (v := (Value.int .u32 (0 : Int))) (Wn.no rfl) rfl (R.assign rfl) ?_
  refine LE.nil ?_
  refine WE.seq ?_
  refine WE.seq ?_
  refine WE.reg ?_
  refine LE.p (v := (Value.int .i64 p0)) (Wn.no rfl) rfl (R.move rfl) ?_
  refine LE.p (v := (Value.bool (decide (p0 < (1 : Int))))) (Wn.no rfl) rfl (R.lss rfl rfl) ?_
  refine LE.nil ?_
  refine WE.condT rfl (b := (decide (p0 < (1 : Int)))) rfl ?_ ?_
  · intro hb1
    replace h := M.ite_t h hb1
    refine WE.seq ?_
    refine WE.reg ?_
    refine LE.p (v := (Value.int .u32 (0 : Int))) (Wn.no rfl) rfl (R.assign rfl) ?_
    refine LE.nil ?_
    refine WE.ret ?_
    exact ⟨_, (Res.tmp rfl Res.nil), _, rfl, h⟩
  · intro hb1
    replace h := M.ite_f h hb1
    refine WE.skip ?_
    refine WE.seq ?_
    refine WE.reg ?_
    refine LE.p (v := (Value.int .i64 p0)) (Wn.no rfl) rfl (R.move rfl) ?_
    refine LE.p (v := (Value.int .i64 (min p0 (32 : Int)))) (Wn.no rfl) rfl (R.min2 rfl rfl) ?_
    refine LE.p (v := (Value.int .i64 (IntKind.i64.wrap ((32 : Int) - (min p0 (32 : Int)))))) (Wn.no rfl) rfl (R.sub rfl rfl) ?_
    obtain ⟨h2, h⟩ := h
    refine LE.p (v := (Value.int .u32 (bShl .u32 (4294967295 : Int) (IntKind.i64.wrap ((32 : Int) - (min p0 (32 : Int))))))) (Wn.no rfl) rfl (R.shl rfl rfl h2) ?_
    refine LE.p (v := (Value.int .u32 (bShl .u32 (4294967295 : Int) (IntKind.i64.wrap ((32 : Int) - (min p0 (32 : Int))))))) (Wn.no rfl) rfl (R.assign rfl) ?_
    refine LE.nil ?_
    refine WE.ret ?_
    exact ⟨_, (Res.tmp rfl Res.nil), _, rfl, h⟩
/-- The formula of signpost.addr.Of. -/
def F51 (p0 : Int) (p1 : Int) (K : Int → Int → World → Prop) (w0 : World) : Prop :=
M.new (.cells #[(Value.int .u32 (0 : Int)), (Value.int .i64 (0 : Int))] 33) w0 fun b2 w1 =>
Calls Try.prog 50 #[(Value.int .i64 p1)] w1 (R50 fun r3 w4 =>
M.stA b2 [(Value.int .u32 (bAnd .u32 p0 r3)), (Value.int .i64 (min (max p1 (0 : Int)) (32 : Int)))] w4 fun w5 =>
M.ld (Value.int .u32) b2 w5 fun t7 =>
M.ld (Value.int .i64) (b2.add 1) w5 fun t9 =>
K t7 t9 w5)
theorem F51_ok {w0 : World} {p0 : Int} {p1 : Int} {K : Int → Int → World → Prop} (h : F51 p0 p1 K w0) : Calls Try.prog 51 #[(Value.int .u32 p0), (Value.int .i64 p1)] w0 (R51 K) := by
  refine calls_of_WE (args := [(Value.int .u32 p0), (Value.int .i64 p1)]) (rs := [.cell 4 33]) Try.func51 rfl (N := 13) rfl rfl rfl rfl ?_
  refine WE.seq ?_
  refine WE.reg ?_
  obtain ⟨b2, hpb2, w1, hww1, h⟩ := M.new_use h
  refine LE.r (v := (Value.pointer (some b2))) (Wn.no rfl) rfl (R.alloc (cs := #[(Value.int .u32 (0 : Int)), (Value.int .i64 (0 : Int))]) ze33 rfl hpb2 hww1) ?_
  refine LE.nil ?_
  refine WE.seq ?_
  refine WE.reg ?_
  refine LE.p (v := (Value.int .u32 p0)) (Wn.no rfl) rfl (R.move rfl) ?_
  refine LE.p (v := (Value.int .i64 p1)) (Wn.no rfl) rfl (R.move rfl) ?_
  refine LE.c (Wn.no rfl) rfl (R.call bd50 (Ls.cons rfl Ls.nil) rfl) (Calls.mono h ?_)
  rintro _ w4 ⟨r3, rfl, h⟩
  refine ⟨_, rfl, ?_⟩
  refine LE.p (v := (Value.int .u32 (bAnd .u32 p0 r3))) (Wn.no rfl) rfl (R.and rfl rfl) ?_
  refine LE.p (v := (Value.int .i64 p1)) (Wn.no rfl) rfl (R.move rfl) ?_
  refine LE.p (v := (Value.int .i64 (max p1 (0 : Int)))) (Wn.no rfl) rfl (R.max2 rfl rfl) ?_
  refine LE.p (v := (Value.int .i64 (min (max p1 (0 : Int)) (32 : Int)))) (Wn.no rfl) rfl (R.min2 rfl rfl) ?_
  refine LE.p (v := (Value.agg #[(Value.int .u32 (bAnd .u32 p0 r3)), (Value.int .i64 (min (max p1 (0 : Int)) (32 : Int)))])) (Wn.no rfl) rfl (R.bld (by exact (Ls.cons (R.Pr rfl) (Ls.cons (R.Pr rfl) Ls.nil))) (fun w => bu33_0_1 (bAnd .u32 p0 r3) (min (max p1 (0 : Int)) (32 : Int)) w)) ?_
  obtain ⟨w5, hww5, h6, h⟩ := M.stA_use h
  refine LE.s (Wn.no rfl) rfl (R.stA (a := b2) [(Value.int .u32 (bAnd .u32 p0 r3)), (Value.int .i64 (min (max p1 (0 : Int)) (32 : Int)))] sz33 rfl rfl rfl (by simp [Value.oneCell']) h6 hww5) ?_
  refine LE.nil ?_
  refine WE.ret ?_
  obtain ⟨t7, h8, h⟩ := h
  obtain ⟨t9, h10, h⟩ := h
  exact ⟨_, (Res.cell rfl (R.ldCellA ag33 sz33 rfl (Cs.cons h8 (Cs.cons h10 Cs.nil))) Res.nil), _, _, rfl, h⟩
/-- The formula of (*signpost.trie.Trie).find. -/
def F52 (p0 : Option Addr) (p1_0 : Int) (p1_1 : Int) (K : Option Addr → World → Prop) (w0 : World) : Prop :=
M.new (.cells #[(Value.int .u32 p1_0), (Value.int .i64 p1_1)] 33) w0 fun b2 w1 =>
M.nil p0 fun a3 =>
M.ld (Value.int .i64) (b2.add 1) w1 fun t5 =>
M.loop2 (fun (J9 : Option Addr → Int → World → Prop) (x7 : Option Addr) (x8 : Int) (w10 : World) => 
M.ite (decide (x8 < t5)) (
M.drew w10 fun w22 => 
M.nil x7 fun a23 =>
M.ld (Value.int .u32) b2 w22 fun t25 =>
Calls Try.prog 42 #[(Value.int .u32 t25), (Value.int .i64 x8)] w22 (R42 fun r27 w28 =>
M.inb r27 2 <|
M.ld Value.pointer (a23.add (r27.toNat * 1)) w28 fun t31 =>
M.ite (Option.isNone t31) (
K (none : Option Addr) w28) (
J9 t31 (IntKind.i64.wrap (x8 + (1 : Int))) w28))) (
K x7 w10)) (some a3) (0 : Int) w1
theorem F52_ok {w0 : World} {p0 : Option Addr} {p1_0 : Int} {p1_1 : Int} {K : Option Addr → World → Prop} (h : F52 p0 p1_0 p1_1 K w0) : Calls Try.prog 52 #[(Value.pointer p0), (Value.agg #[(Value.int .u32 p1_0), (Value.int .i64 p1_1)])] w0 (R52 K) := by
  refine calls_of_WE (args := [(Value.pointer p0), (Value.agg #[(Value.int .u32 p1_0), (Value.int .i64 p1_1)])]) (rs := [.tmp 4]) Try.func52 rfl (N := 28) rfl rfl rfl rfl ?_
  refine WE.seq ?_
  refine WE.reg ?_
  obtain ⟨b2, hpb2, w1, hww1, h⟩ := M.new_use h
  refine LE.r (v := (Value.pointer (some b2))) (Wn.no rfl) rfl (R.box (cs := #[(Value.int .u32 p1_0), (Value.int .i64 p1_1)]) rfl rfl hpb2 hww1) ?_
  refine LE.p (v := (Value.pointer (none : Option Addr))) (Wn.no rfl) rfl (R.assign rfl) ?_
  refine LE.nil ?_
  refine WE.seq ?_
  refine WE.reg ?_
  refine LE.p (v := (Value.pointer p0)) (Wn.no rfl) rfl (R.move rfl) ?_
  obtain ⟨a3, h4, h⟩ := h
  refine LE.p (v := (Value.pointer (some a3))) (Wn.no rfl) rfl (R.nilC (congrArg Value.pointer h4)) ?_
  refine LE.p (v := (Value.pointer (some a3))) (Wn.no rfl) rfl (R.fld (off := 0) fa85_0 rfl) ?_
  refine LE.p (v := (Value.pointer (some a3))) (Wn.no rfl) rfl (R.assign rfl) ?_
  refine LE.nil ?_
  refine WE.seq ?_
  refine WE.seq ?_
  refine WE.reg ?_
  refine LE.p (v := (Value.pointer (some (b2.add 1)))) (Wn.no rfl) rfl (R.fld (off := 1) fa33_1 rfl) ?_
  obtain ⟨t5, h6, h⟩ := h
  refine LE.r (v := (Value.int .i64 t5)) (Wn.no rfl) rfl (R.ld sc3 rfl h6) ?_
  refine LE.p (v := (Value.int .i64 (0 : Int))) (Wn.no rfl) rfl (R.move rfl) ?_
  refine LE.nil ?_
  refine WE.block ?_
  obtain ⟨I13, ⟨n12, h⟩, hr14⟩ := h
  refine WE.loop (fun n e w => ∃ (x7 : Option Addr) (x8 : Int), I13 n x7 x8 w ∧ e 3 = (Value.pointer (some b2)) ∧ e 5 = (Value.pointer x7) ∧ e 11 = (Value.int .i64 t5) ∧ e 12 = (Value.int .i64 x8)) n12 ⟨_, _, h, rfl, rfl, rfl, rfl⟩ ?_
  clear h
  rintro n12 e11 w10 ⟨x7, x8, h, f17, f18, f19, f20⟩
  replace h := hr14 n12 x7 x8 w10 h
  refine WE.seq ?_
  refine WE.reg ?_
  refine LE.p (v := (Value.bool (decide (x8 < t5)))) (Wn.no rfl) rfl (R.lss f20 f19) ?_
  refine LE.nil ?_
  refine WE.seq ?_
  refine WE.condT rfl (b := (decide (x8 < t5))) rfl ?_ ?_
  · intro hb21
    replace h := M.ite_t h hb21
    refine WE.skip ?_
    refine WE.seq ?_
    refine WE.block ?_
    refine WE.seq ?_
    refine WE.reg ?_
    refine LE.p (v := (Value.int .i64 x8)) (Wn.no rfl) rfl (R.move f20) ?_
    refine LE.p (v := (Value.int .i64 x8)) (Wn.no rfl) rfl (R.assign rfl) ?_
    refine LE.nil ?_
    refine WE.seq ?_
    refine WE.draw mix ?_
    obtain ⟨w22, hww22, h⟩ := M.drew_use h
    rw [← hww22]
    clear hww22
    refine DE.t 0 (v := (Value.pointer x7)) rfl (by kernel_rfl) (Wn.no rfl) rfl (R.move f18) ?_
    refine DE.t 1 (v := (Value.pointer (some b2))) rfl (by kernel_rfl) (Wn.no rfl) rfl (R.fld (off := 0) fa33_0 f17) ?_
    refine DE.t 3 (v := (Value.int .i64 x8)) rfl (by kernel_rfl) (Wn.no rfl) rfl (R.move rfl) ?_
    obtain ⟨a23, h24, h⟩ := h
    refine DE.t 5 (v := (Value.pointer (some a23))) rfl (by kernel_rfl) (Wn.no rfl) rfl (R.nilC (congrArg Value.pointer h24)) ?_
    refine DE.t 6 (v := (Value.pointer (some a23))) rfl (by kernel_rfl) (Wn.no rfl) rfl (R.fld (off := 0) fa83_0 rfl) ?_
    obtain ⟨t25, h26, h⟩ := h
    refine DE.main 2 (by kernel_rfl) ?_
    refine One.r 2 (v := (Value.int .u32 t25)) rfl (Wn.no rfl) rfl (R.ld sc23 rfl h26) (.inl rfl) ?_
    refine DE.main 4 (by kernel_rfl) ?_
    refine One.c 4 rfl (Wn.no rfl) rfl (R.call bd42 (Ls.cons rfl (Ls.cons rfl Ls.nil)) rfl) (Calls.mono h ?_)
    rintro _ w28 ⟨r27, rfl, h⟩
    refine ⟨_, rfl, trivial, ?_⟩
    obtain ⟨h29, h30, h⟩ := h
    refine DE.t 7 (v := (Value.pointer (some (a23.add (r27.toNat * 1))))) rfl (by kernel_rfl) (Wn.no rfl) rfl (R.idxArr ar81 rfl rfl h29 h30) ?_
    obtain ⟨t31, h32, h⟩ := h
    refine DE.main 8 (by kernel_rfl) ?_
    refine One.r 8 (v := (Value.pointer t31)) rfl (Wn.no rfl) rfl (R.ld sc80 rfl h32) (.inl rfl) ?_
    refine DE.t 9 (v := (Value.pointer t31)) rfl (by kernel_rfl) (Wn.no rfl) rfl (R.assign rfl) ?_
    refine DE.done (by kernel_rfl) ?_
    refine WE.seq ?_
    refine WE.reg ?_
    refine LE.p (v := (Value.pointer t31)) (Wn.no rfl) rfl (R.move rfl) ?_
    refine LE.p (v := (Value.bool (Option.isNone t31))) (Wn.no rfl) rfl (R.peqNil pt80 rfl rfl) ?_
    refine LE.nil ?_
    refine WE.condT rfl (b := (Option.isNone t31)) rfl ?_ ?_
    · intro hb33
      replace h := M.ite_t h hb33
      refine WE.seq ?_
      refine WE.reg ?_
      refine LE.p (v := (Value.pointer (none : Option Addr))) (Wn.no rfl) rfl (R.assign rfl) ?_
      refine LE.nil ?_
      refine WE.ret ?_
      exact ⟨_, (Res.tmp rfl Res.nil), _, rfl, h⟩
    · intro hb33
      replace h := M.ite_f h hb33
      refine WE.skip ?_
      refine WE.reg ?_
      refine LE.p (v := (Value.int .i64 (IntKind.i64.wrap (x8 + (1 : Int))))) (Wn.no rfl) rfl (R.add f20 rfl) ?_
      refine LE.p (v := (Value.int .i64 (IntKind.i64.wrap (x8 + (1 : Int))))) (Wn.no rfl) rfl (R.move rfl) ?_
      refine LE.nil ?_
      obtain ⟨m15, hm16, h⟩ := h
      exact ⟨m15, hm16, _, _, h, f17, rfl, f19, rfl⟩
  · intro hb21
    replace h := M.ite_f h hb21
    refine WE.exit ?_
    refine WE.seq ?_
    refine WE.reg ?_
    refine LE.p (v := (Value.pointer x7)) (Wn.no rfl) rfl (R.move f18) ?_
    refine LE.p (v := (Value.pointer x7)) (Wn.no rfl) rfl (R.assign rfl) ?_
    refine LE.nil ?_
    refine WE.ret ?_
    exact ⟨_, (Res.tmp rfl Res.nil), _, rfl, h⟩
/-- The formula of (*signpost.trie.node).below. -/
def F53 (p0 : Option Addr) (p1_0 : Int) (p1_1 : Int) (p2 : SV) (K : SV → World → Prop) (w0 : World) : Prop :=
M.new (.cells #[(Value.int .u32 p1_0), (Value.int .i64 p1_1)] 33) w0 fun b2 w1 =>
M.ite (Option.isNone p0) (
K p2 w1) (
M.join (fun (x5 : SV) (w22 : World) => 
M.new (.cells #[(Value.bool false), (Value.bool true)] 4) w22 fun b28 w26 =>
M.loop2 (fun (J31 : SV → Int → World → Prop) (x29 : SV) (x30 : Int) (w32 : World) => 
M.ite (decide (x30 < ((SV.mk (some b28) 2 2).len : Int))) (
M.join (fun (x47 : SV) (w81 : World) => 
J31 x47 (IntKind.i64.wrap (x30 + (1 : Int))) w81) fun J46 => 
M.idx (SV.mk (some b28) 2 2) x30 1 fun a48 =>
M.ld Value.bool (a48.add (x30.toNat * 1)) w32 fun t52 =>
M.ld (Value.int .u32) b2 w32 fun t54 =>
M.ld (Value.int .i64) (b2.add 1) w32 fun t56 =>
Calls Try.prog 54 #[(Value.agg #[(Value.int .u32 t54), (Value.int .i64 t56)]), (Value.bool t52)] w32 (R54 fun r58 r59 r60 w61 =>
M.new (.cells #[(Value.int .u32 (0 : Int)), (Value.int .i64 (0 : Int))] 33) w61 fun b63 w62 =>
M.stA b63 [(Value.int .u32 r58), (Value.int .i64 r59)] w62 fun w64 =>
M.ite r60 (
M.drew w64 fun w67 => 
M.nil p0 fun a68 =>
M.inb x30 2 <|
M.ld Value.pointer (a68.add (x30.toNat * 1)) w67 fun t72 =>
M.ld (Value.int .u32) b63 w67 fun t74 =>
M.ld (Value.int .i64) (b63.add 1) w67 fun t76 =>
Calls Try.prog 53 #[(Value.pointer t72), (Value.agg #[(Value.int .u32 t74), (Value.int .i64 t76)]), (SV.v x29)] w67 (R53 fun r78 w79 =>
J46 r78 w79)) (
J46 x29 w64))) (
K x29 w32)) x5 (0 : Int) w26) fun J4 => 
M.nil p0 fun a6 =>
M.ld Value.bool (a6.add 2) w1 fun t8 =>
M.ite t8 (
M.ld (Value.int .u32) b2 w1 fun t11 =>
M.ld (Value.int .i64) (b2.add 1) w1 fun t13 =>
M.new (.cells #[(Value.int .u32 t11), (Value.int .i64 t13)] 33) w1 fun b17 w15 =>
M.app Try.prog 69 69 69 p2 (SV.v (SV.mk (some b17) 1 1)) w15 fun s18 w19 =>
J4 s18 w19) (
J4 p2 w1))
theorem F53_ok {w0 : World} {p0 : Option Addr} {p1_0 : Int} {p1_1 : Int} {p2 : SV} {K : SV → World → Prop} (h : F53 p0 p1_0 p1_1 p2 K w0) : Calls Try.prog 53 #[(Value.pointer p0), (Value.agg #[(Value.int .u32 p1_0), (Value.int .i64 p1_1)]), (SV.v p2)] w0 (R53 K) := by
  refine calls_of_WE (args := [(Value.pointer p0), (Value.agg #[(Value.int .u32 p1_0), (Value.int .i64 p1_1)]), (SV.v p2)]) (rs := [.tmp 6]) Try.func53 rfl (N := 47) rfl rfl rfl rfl ?_
  refine WE.seq ?_
  refine WE.reg ?_
  obtain ⟨b2, hpb2, w1, hww1, h⟩ := M.new_use h
  refine LE.r (v := (Value.pointer (some b2))) (Wn.no rfl) rfl (R.box (cs := #[(Value.int .u32 p1_0), (Value.int .i64 p1_1)]) rfl rfl hpb2 hww1) ?_
  refine LE.p (v := (SV.v SV.nil)) (Wn.no rfl) rfl (R.assign rfl) ?_
  refine LE.nil ?_
  refine WE.seq ?_
  refine WE.seq ?_
  refine WE.reg ?_
  refine LE.p (v := (Value.pointer p0)) (Wn.no rfl) rfl (R.move rfl) ?_
  refine LE.p (v := (Value.bool (Option.isNone p0))) (Wn.no rfl) rfl (R.peqNil pt80 rfl rfl) ?_
  refine LE.nil ?_
  refine WE.condT rfl (b := (Option.isNone p0)) rfl ?_ ?_
  · intro hb3
    replace h := M.ite_t h hb3
    refine WE.seq ?_
    refine WE.reg ?_
    refine LE.p (v := (SV.v p2)) (Wn.no rfl) rfl (R.move rfl) ?_
    refine LE.p (v := (SV.v p2)) (Wn.no rfl) rfl (R.assign rfl) ?_
    refine LE.nil ?_
    refine WE.ret ?_
    exact ⟨_, (Res.tmp rfl Res.nil), _, rfl, h⟩
  · intro hb3
    replace h := M.ite_f h hb3
    refine WE.skip ?_
    obtain ⟨J4, hJ4, h⟩ := M.join_use h
    refine WE.join (fun e w => ∃ (x5 : SV), J4 x5 w ∧ e 0 = (Value.pointer p0) ∧ e 2 = (SV.v x5) ∧ e 4 = (Value.pointer (some b2))) ?_ ?_
    · clear hJ4
      refine WE.seq ?_
      refine WE.reg ?_
      refine LE.p (v := (Value.pointer p0)) (Wn.no rfl) rfl (R.move rfl) ?_
      obtain ⟨a6, h7, h⟩ := h
      refine LE.p (v := (Value.pointer (some a6))) (Wn.no rfl) rfl (R.nilC (congrArg Value.pointer h7)) ?_
      refine LE.p (v := (Value.pointer (some (a6.add 2)))) (Wn.no rfl) rfl (R.fld (off := 2) fa83_1 rfl) ?_
      obtain ⟨t8, h9, h⟩ := h
      refine LE.r (v := (Value.bool t8)) (Wn.no rfl) rfl (R.ld sc4 rfl h9) ?_
      refine LE.nil ?_
      refine WE.condT rfl (b := t8) rfl ?_ ?_
      · intro hb10
        replace h := M.ite_t h hb10
        refine WE.reg ?_
        refine LE.p (v := (SV.v p2)) (Wn.no rfl) rfl (R.move rfl) ?_
        obtain ⟨t11, h12, h⟩ := h
        obtain ⟨t13, h14, h⟩ := h
        refine LE.r (v := (Value.agg #[(Value.int .u32 t11), (Value.int .i64 t13)])) (Wn.no rfl) rfl (R.ldA ag33 sz33 rfl rfl (Cs.cons h12 (Cs.cons h14 Cs.nil))) ?_
        obtain ⟨b17, hpb17, w15, hww15, h⟩ := M.new_use h
        refine LE.r (v := (SV.v (SV.mk (some b17) 1 1))) (Wn.no rfl) rfl (R.bsl (by exact (Ls.cons (R.Pr rfl) Ls.nil)) (fun w => bs69_1 t11 t13 w) hpb17 hww15) ?_
        obtain ⟨s18, w19, h20, h⟩ := h
        refine LE.r (v := (SV.v s18)) (Wn.no rfl) rfl (R.app (s := p2) (r := s18) rfl rfl h20) ?_
        refine LE.p (v := (SV.v s18)) (Wn.no rfl) rfl (R.assign rfl) ?_
        refine LE.nil ?_
        exact ⟨_, h, rfl, rfl, rfl⟩
      · intro hb10
        replace h := M.ite_f h hb10
        refine WE.skip ?_
        exact ⟨_, h, rfl, rfl, rfl⟩
    · rintro e21 w22 ⟨x5, h, f23, f24, f25⟩
      subst hJ4
      refine WE.seq ?_
      refine WE.seq ?_
      refine WE.reg ?_
      obtain ⟨b28, hpb28, w26, hww26, h⟩ := M.new_use h
      refine LE.r (v := (SV.v (SV.mk (some b28) 2 2))) (Wn.no rfl) rfl (R.bsl (by exact (Ls.cons (R.Pr rfl) (Ls.cons (R.Pr rfl) Ls.nil))) (fun w => bs99_2 false true w) hpb28 hww26) ?_
      refine LE.p (v := (Value.int .i64 ((SV.mk (some b28) 2 2).len : Int))) (Wn.no rfl) rfl (R.len sl99 rfl) ?_
      refine LE.p (v := (Value.int .i64 (0 : Int))) (Wn.no rfl) rfl (R.move rfl) ?_
      refine LE.nil ?_
      refine WE.block ?_
      obtain ⟨I35, ⟨n34, h⟩, hr36⟩ := h
      refine WE.loop (fun n e w => ∃ (x29 : SV) (x30 : Int), I35 n x29 x30 w ∧ e 0 = (Value.pointer p0) ∧ e 2 = (SV.v x29) ∧ e 4 = (Value.pointer (some b2)) ∧ e 22 = (SV.v (SV.mk (some b28) 2 2)) ∧ e 23 = (Value.int .i64 ((SV.mk (some b28) 2 2).len : Int)) ∧ e 24 = (Value.int .i64 x30)) n34 ⟨_, _, h, f23, f24, f25, rfl, rfl, rfl⟩ ?_
      clear h
      rintro n34 e33 w32 ⟨x29, x30, h, f39, f40, f41, f42, f43, f44⟩
      replace h := hr36 n34 x29 x30 w32 h
      refine WE.seq ?_
      refine WE.reg ?_
      refine LE.p (v := (Value.bool (decide (x30 < ((SV.mk (some b28) 2 2).len : Int))))) (Wn.no rfl) rfl (R.lss f44 f43) ?_
      refine LE.nil ?_
      refine WE.seq ?_
      refine WE.condT rfl (b := (decide (x30 < ((SV.mk (some b28) 2 2).len : Int)))) rfl ?_ ?_
      · intro hb45
        replace h := M.ite_t h hb45
        refine WE.skip ?_
        refine WE.seq ?_
        obtain ⟨J46, hJ46, h⟩ := M.join_use h
        refine WE.blkJ (fun e w => ∃ (x47 : SV), J46 x47 w ∧ e 0 = (Value.pointer p0) ∧ e 2 = (SV.v x47) ∧ e 4 = (Value.pointer (some b2)) ∧ e 22 = (SV.v (SV.mk (some b28) 2 2)) ∧ e 23 = (Value.int .i64 ((SV.mk (some b28) 2 2).len : Int)) ∧ e 24 = (Value.int .i64 x30)) ?_ ?_
        · clear hJ46
          refine WE.seq ?_
          refine WE.reg ?_
          refine LE.p (v := (Value.int .i64 x30)) (Wn.no rfl) rfl (R.move f44) ?_
          obtain ⟨a48, h49, h50, h51, h⟩ := h
          refine LE.p (v := (Value.pointer (some (a48.add (x30.toNat * 1))))) (Wn.no rfl) rfl (R.idx (s := (SV.mk (some b28) 2 2)) sl99 f42 f44 h49 h50 h51) ?_
          obtain ⟨t52, h53, h⟩ := h
          refine LE.r (v := (Value.bool t52)) (Wn.no rfl) rfl (R.ld sc4 rfl h53) ?_
          refine LE.p (v := (Value.int .i64 x30)) (Wn.no rfl) rfl (R.assign rfl) ?_
          refine LE.p (v := (Value.bool t52)) (Wn.no rfl) rfl (R.assign rfl) ?_
          refine LE.nil ?_
          refine WE.seq ?_
          refine WE.reg ?_
          obtain ⟨t54, h55, h⟩ := h
          obtain ⟨t56, h57, h⟩ := h
          refine LE.r (v := (Value.agg #[(Value.int .u32 t54), (Value.int .i64 t56)])) (Wn.no rfl) rfl (R.ldA ag33 sz33 f41 rfl (Cs.cons h55 (Cs.cons h57 Cs.nil))) ?_
          refine LE.p (v := (Value.bool t52)) (Wn.no rfl) rfl (R.move rfl) ?_
          refine LE.c (Wn.no rfl) rfl (R.call bd54 (Ls.cons rfl (Ls.cons rfl Ls.nil)) rfl) (Calls.mono h ?_)
          rintro _ w61 ⟨r58, r59, r60, rfl, h⟩
          refine ⟨_, rfl, ?_⟩
          refine LE.p (v := (Value.tuple #[(Value.agg #[(Value.int .u32 r58), (Value.int .i64 r59)]), (Value.bool r60)])) (Wn.no rfl) rfl (R.move rfl) ?_
          refine LE.p (v := (Value.agg #[(Value.int .u32 r58), (Value.int .i64 r59)])) (Wn.no rfl) rfl (R.ext rfl rfl) ?_
          refine LE.p (v := (Value.bool r60)) (Wn.no rfl) rfl (R.ext rfl rfl) ?_
          obtain ⟨b63, hpb63, w62, hww62, h⟩ := M.new_use h
          refine LE.r (v := (Value.pointer (some b63))) (Wn.no rfl) rfl (R.alloc (cs := #[(Value.int .u32 (0 : Int)), (Value.int .i64 (0 : Int))]) ze33 rfl hpb63 hww62) ?_
          obtain ⟨w64, hww64, h65, h⟩ := M.stA_use h
          refine LE.s (Wn.no rfl) rfl (R.stA (a := b63) [(Value.int .u32 r58), (Value.int .i64 r59)] sz33 rfl rfl rfl (by simp [Value.oneCell']) h65 hww64) ?_
          refine LE.p (v := (Value.bool r60)) (Wn.no rfl) rfl (R.assign rfl) ?_
          refine LE.nil ?_
          refine WE.seq ?_
          refine WE.reg ?_
          refine LE.p (v := (Value.bool r60)) (Wn.no rfl) rfl (R.move rfl) ?_
          refine LE.nil ?_
          refine WE.condT rfl (b := r60) rfl ?_ ?_
          · intro hb66
            replace h := M.ite_t h hb66
            refine WE.draw mix ?_
            obtain ⟨w67, hww67, h⟩ := M.drew_use h
            rw [← hww67]
            clear hww67
            refine DE.t 0 (v := (Value.pointer p0)) rfl (by kernel_rfl) (Wn.no rfl) rfl (R.move f39) ?_
            refine DE.t 1 (v := (Value.int .i64 x30)) rfl (by kernel_rfl) (Wn.no rfl) rfl (R.move rfl) ?_
            obtain ⟨a68, h69, h⟩ := h
            refine DE.t 2 (v := (Value.pointer (some a68))) rfl (by kernel_rfl) (Wn.no rfl) rfl (R.nilC (congrArg Value.pointer h69)) ?_
            refine DE.t 3 (v := (Value.pointer (some a68))) rfl (by kernel_rfl) (Wn.no rfl) rfl (R.fld (off := 0) fa83_0 rfl) ?_
            obtain ⟨h70, h71, h⟩ := h
            refine DE.t 4 (v := (Value.pointer (some (a68.add (x30.toNat * 1))))) rfl (by kernel_rfl) (Wn.no rfl) rfl (R.idxArr ar81 rfl rfl h70 h71) ?_
            refine DE.t 7 (v := (SV.v x29)) rfl (by kernel_rfl) (Wn.no rfl) rfl (R.move f40) ?_
            obtain ⟨t72, h73, h⟩ := h
            refine DE.hold 5 (fun w => w.cell? (a68.add (x30.toNat * 1)) = some (Value.pointer t72)) (v := (Value.pointer t72)) rfl (by kernel_rfl) (Wn.no rfl) rfl h73 (fun w hs => R.ld sc80 rfl hs) ?_
            obtain ⟨t74, h75, h⟩ := h
            obtain ⟨t76, h77, h⟩ := h
            refine DE.main 6 (by kernel_rfl) ?_
            refine One.r 6 (v := (Value.agg #[(Value.int .u32 t74), (Value.int .i64 t76)])) rfl (Wn.no rfl) rfl (R.ldA ag33 sz33 rfl rfl (Cs.cons h75 (Cs.cons h77 Cs.nil))) (.inl rfl) ?_
            refine DE.main 8 (by kernel_rfl) ?_
            refine One.c 8 rfl (Wn.no rfl) rfl (R.call bd53 (Ls.cons rfl (Ls.cons rfl (Ls.cons rfl Ls.nil))) rfl) (Calls.mono h ?_)
            rintro _ w79 ⟨r78, rfl, h⟩
            refine ⟨_, rfl, ⟨aftT (by kernel_rfl), trivial⟩, ?_⟩
            refine DE.t 9 (v := (SV.v r78)) rfl (by kernel_rfl) (Wn.no rfl) rfl (R.assign rfl) ?_
            refine DE.done (by kernel_rfl) ?_
            exact ⟨_, h, f39, rfl, f41, f42, f43, f44⟩
          · intro hb66
            replace h := M.ite_f h hb66
            refine WE.skip ?_
            exact ⟨_, h, f39, f40, f41, f42, f43, f44⟩
        · rintro e80 w81 ⟨x47, h, f82, f83, f84, f85, f86, f87⟩
          subst hJ46
          refine WE.reg ?_
          refine LE.p (v := (Value.int .i64 (IntKind.i64.wrap (x30 + (1 : Int))))) (Wn.no rfl) rfl (R.add f87 rfl) ?_
          refine LE.p (v := (Value.int .i64 (IntKind.i64.wrap (x30 + (1 : Int))))) (Wn.no rfl) rfl (R.move rfl) ?_
          refine LE.nil ?_
          obtain ⟨m37, hm38, h⟩ := h
          exact ⟨m37, hm38, _, _, h, f82, f83, f84, f85, f86, rfl⟩
      · intro hb45
        replace h := M.ite_f h hb45
        refine WE.exit ?_
        refine WE.seq ?_
        refine WE.reg ?_
        refine LE.p (v := (SV.v x29)) (Wn.no rfl) rfl (R.move f40) ?_
        refine LE.p (v := (SV.v x29)) (Wn.no rfl) rfl (R.assign rfl) ?_
        refine LE.nil ?_
        refine WE.ret ?_
        exact ⟨_, (Res.tmp rfl Res.nil), _, rfl, h⟩
/-- The formula of signpost.addr.Half. -/
def F54 (p0_0 : Int) (p0_1 : Int) (p1 : Bool) (K : Int → Int → Bool → World → Prop) (w0 : World) : Prop :=
M.new (.cells #[(Value.int .u32 p0_0), (Value.int .i64 p0_1)] 33) w0 fun b2 w1 =>
M.new (.cells #[(Value.int .u32 (0 : Int)), (Value.int .i64 (0 : Int))] 33) w1 fun b4 w3 =>
M.join (fun (x6 : Bool) (w17 : World) => 
M.ite x6 (
M.stA b4 [(Value.int .u32 (0 : Int)), (Value.int .i64 (0 : Int))] w17 fun w23 =>
M.ld (Value.int .u32) b4 w23 fun t25 =>
M.ld (Value.int .i64) (b4.add 1) w23 fun t27 =>
K t25 t27 false w23) (
M.ld (Value.int .u32) b2 w17 fun t29 =>
M.join (fun (x32 : Int) (w38 : World) => 
M.ld (Value.int .i64) (b2.add 1) w38 fun t42 =>
M.stA b4 [(Value.int .u32 x32), (Value.int .i64 (IntKind.i64.wrap (t42 + (1 : Int))))] w38 fun w44 =>
M.ld (Value.int .u32) b4 w44 fun t46 =>
M.ld (Value.int .i64) (b4.add 1) w44 fun t48 =>
K t46 t48 true w44) fun J31 => 
M.ite p1 (
M.ld (Value.int .i64) (b2.add 1) w17 fun t34 =>
M.sh (IntKind.i64.wrap ((31 : Int) - t34)) <|
J31 (bOr .u32 t29 (bShl .u32 (1 : Int) (IntKind.i64.wrap ((31 : Int) - t34)))) w17) (
J31 t29 w17))) fun J5 => 
M.ld (Value.int .u32) b2 w3 fun t7 =>
M.ld (Value.int .i64) (b2.add 1) w3 fun t9 =>
Calls Try.prog 39 #[(Value.agg #[(Value.int .u32 t7), (Value.int .i64 t9)])] w3 (R39 fun r11 w12 =>
M.ite (!r11) (
J5 true w12) (
M.ld (Value.int .i64) (b2.add 1) w12 fun t14 =>
J5 (t14 == (32 : Int)) w12))
theorem F54_ok {w0 : World} {p0_0 : Int} {p0_1 : Int} {p1 : Bool} {K : Int → Int → Bool → World → Prop} (h : F54 p0_0 p0_1 p1 K w0) : Calls Try.prog 54 #[(Value.agg #[(Value.int .u32 p0_0), (Value.int .i64 p0_1)]), (Value.bool p1)] w0 (R54 K) := by
  refine calls_of_WE (args := [(Value.agg #[(Value.int .u32 p0_0), (Value.int .i64 p0_1)]), (Value.bool p1)]) (rs := [.cell 4 33, .tmp 5]) Try.func54 rfl (N := 30) rfl rfl rfl rfl ?_
  refine WE.seq ?_
  refine WE.reg ?_
  obtain ⟨b2, hpb2, w1, hww1, h⟩ := M.new_use h
  refine LE.r (v := (Value.pointer (some b2))) (Wn.no rfl) rfl (R.box (cs := #[(Value.int .u32 p0_0), (Value.int .i64 p0_1)]) rfl rfl hpb2 hww1) ?_
  obtain ⟨b4, hpb4, w3, hww3, h⟩ := M.new_use h
  refine LE.r (v := (Value.pointer (some b4))) (Wn.no rfl) rfl (R.alloc (cs := #[(Value.int .u32 (0 : Int)), (Value.int .i64 (0 : Int))]) ze33 rfl hpb4 hww3) ?_
  refine LE.p (v := (Value.bool false)) (Wn.no rfl) rfl (R.assign rfl) ?_
  refine LE.nil ?_
  refine WE.seq ?_
  refine WE.seq ?_
  obtain ⟨J5, hJ5, h⟩ := M.join_use h
  refine WE.regJ (fun e w => ∃ (x6 : Bool), J5 x6 w ∧ e 1 = (Value.bool p1) ∧ e 2 = (Value.pointer (some b2)) ∧ e 4 = (Value.pointer (some b4)) ∧ e 14 = (Value.bool x6)) ?_ ?_
  · clear hJ5
    obtain ⟨t7, h8, h⟩ := h
    obtain ⟨t9, h10, h⟩ := h
    refine LE.r (v := (Value.agg #[(Value.int .u32 t7), (Value.int .i64 t9)])) (Wn.no rfl) rfl (R.ldA ag33 sz33 rfl rfl (Cs.cons h8 (Cs.cons h10 Cs.nil))) ?_
    refine LE.c (Wn.no rfl) rfl (R.call bd39 (Ls.cons rfl Ls.nil) rfl) (Calls.mono h ?_)
    rintro _ w12 ⟨r11, rfl, h⟩
    refine ⟨_, rfl, ?_⟩
    refine LE.p (v := (Value.bool (!r11))) (Wn.no rfl) rfl (R.not rfl) ?_
    refine LE.p (v := (Value.bool (!r11))) (Wn.no rfl) rfl (R.move rfl) ?_
    rcases M.ite_use h with ⟨hb13, h⟩ | ⟨hb13, h⟩
    · refine LE.u (Un.no 3 10 false rfl rfl rfl (congrArg Value.bool hb13)) ?_
      refine LE.u (Un.no 3 10 false rfl rfl rfl (congrArg Value.bool hb13)) ?_
      refine LE.u (Un.no 3 10 false rfl rfl rfl (congrArg Value.bool hb13)) ?_
      refine LE.p (v := (Value.bool true)) (Wn.no rfl) rfl (R.pickT (congrArg Value.bool hb13) rfl) ?_
      refine LE.nil ?_
      exact ⟨_, h, rfl, rfl, rfl, rfl⟩
    · refine LE.p (v := (Value.pointer (some (b2.add 1)))) (Wn.yes 3 10 false rfl rfl rfl (congrArg Value.bool hb13)) rfl (R.fld (off := 1) fa33_1 rfl) ?_
      obtain ⟨t14, h15, h⟩ := h
      refine LE.r (v := (Value.int .i64 t14)) (Wn.yes 3 10 false rfl rfl rfl (congrArg Value.bool hb13)) rfl (R.ld sc3 rfl h15) ?_
      refine LE.p (v := (Value.bool (t14 == (32 : Int)))) (Wn.yes 3 10 false rfl rfl rfl (congrArg Value.bool hb13)) rfl (R.eql rfl rfl) ?_
      refine LE.p (v := (Value.bool (t14 == (32 : Int)))) (Wn.no rfl) rfl (R.pickF (congrArg Value.bool hb13) rfl) ?_
      refine LE.nil ?_
      exact ⟨_, h, rfl, rfl, rfl, rfl⟩
  · rintro e16 w17 ⟨x6, h, f18, f19, f20, f21⟩
    subst hJ5
    refine WE.condT rfl (b := x6) f21 ?_ ?_
    · intro hb22
      replace h := M.ite_t h hb22
      refine WE.seq ?_
      refine WE.reg ?_
      refine LE.p (v := (Value.agg #[(Value.int .u32 (0 : Int)), (Value.int .i64 (0 : Int))])) (Wn.no rfl) rfl (R.bld (by exact Ls.nil) (fun w => bu33_  w)) ?_
      obtain ⟨w23, hww23, h24, h⟩ := M.stA_use h
      refine LE.s (Wn.no rfl) rfl (R.stA (a := b4) [(Value.int .u32 (0 : Int)), (Value.int .i64 (0 : Int))] sz33 f20 rfl rfl (by simp [Value.oneCell']) h24 hww23) ?_
      refine LE.p (v := (Value.bool false)) (Wn.no rfl) rfl (R.assign rfl) ?_
      refine LE.nil ?_
      refine WE.ret ?_
      obtain ⟨t25, h26, h⟩ := h
      obtain ⟨t27, h28, h⟩ := h
      exact ⟨_, (Res.cell f20 (R.ldCellA ag33 sz33 rfl (Cs.cons h26 (Cs.cons h28 Cs.nil))) (Res.tmp rfl Res.nil)), _, _, _, rfl, h⟩
    · intro hb22
      replace h := M.ite_f h hb22
      refine WE.skip ?_
      refine WE.seq ?_
      refine WE.reg ?_
      refine LE.p (v := (Value.pointer (some b2))) (Wn.no rfl) rfl (R.fld (off := 0) fa33_0 f19) ?_
      obtain ⟨t29, h30, h⟩ := h
      refine LE.r (v := (Value.int .u32 t29)) (Wn.no rfl) rfl (R.ld sc23 rfl h30) ?_
      refine LE.p (v := (Value.int .u32 t29)) (Wn.no rfl) rfl (R.assign rfl) ?_
      refine LE.nil ?_
      obtain ⟨J31, hJ31, h⟩ := M.join_use h
      refine WE.join (fun e w => ∃ (x32 : Int), J31 x32 w ∧ e 2 = (Value.pointer (some b2)) ∧ e 4 = (Value.pointer (some b4)) ∧ e 6 = (Value.int .u32 x32)) ?_ ?_
      · clear hJ31
        refine WE.seq ?_
        refine WE.reg ?_
        refine LE.p (v := (Value.bool p1)) (Wn.no rfl) rfl (R.move f18) ?_
        refine LE.nil ?_
        refine WE.condT rfl (b := p1) rfl ?_ ?_
        · intro hb33
          replace h := M.ite_t h hb33
          refine WE.reg ?_
          refine LE.p (v := (Value.int .u32 t29)) (Wn.no rfl) rfl (R.move rfl) ?_
          refine LE.p (v := (Value.pointer (some (b2.add 1)))) (Wn.no rfl) rfl (R.fld (off := 1) fa33_1 f19) ?_
          obtain ⟨t34, h35, h⟩ := h
          refine LE.r (v := (Value.int .i64 t34)) (Wn.no rfl) rfl (R.ld sc3 rfl h35) ?_
          refine LE.p (v := (Value.int .i64 (IntKind.i64.wrap ((31 : Int) - t34)))) (Wn.no rfl) rfl (R.sub rfl rfl) ?_
          obtain ⟨h36, h⟩ := h
          refine LE.p (v := (Value.int .u32 (bShl .u32 (1 : Int) (IntKind.i64.wrap ((31 : Int) - t34))))) (Wn.no rfl) rfl (R.shl rfl rfl h36) ?_
          refine LE.p (v := (Value.int .u32 (bOr .u32 t29 (bShl .u32 (1 : Int) (IntKind.i64.wrap ((31 : Int) - t34)))))) (Wn.no rfl) rfl (R.or rfl rfl) ?_
          refine LE.p (v := (Value.int .u32 (bOr .u32 t29 (bShl .u32 (1 : Int) (IntKind.i64.wrap ((31 : Int) - t34)))))) (Wn.no rfl) rfl (R.assign rfl) ?_
          refine LE.nil ?_
          exact ⟨_, h, f19, f20, rfl⟩
        · intro hb33
          replace h := M.ite_f h hb33
          refine WE.skip ?_
          exact ⟨_, h, f19, f20, rfl⟩
      · rintro e37 w38 ⟨x32, h, f39, f40, f41⟩
        subst hJ31
        refine WE.seq ?_
        refine WE.reg ?_
        refine LE.p (v := (Value.int .u32 x32)) (Wn.no rfl) rfl (R.move f41) ?_
        refine LE.p (v := (Value.pointer (some (b2.add 1)))) (Wn.no rfl) rfl (R.fld (off := 1) fa33_1 f39) ?_
        obtain ⟨t42, h43, h⟩ := h
        refine LE.r (v := (Value.int .i64 t42)) (Wn.no rfl) rfl (R.ld sc3 rfl h43) ?_
        refine LE.p (v := (Value.int .i64 (IntKind.i64.wrap (t42 + (1 : Int))))) (Wn.no rfl) rfl (R.add rfl rfl) ?_
        refine LE.p (v := (Value.agg #[(Value.int .u32 x32), (Value.int .i64 (IntKind.i64.wrap (t42 + (1 : Int))))])) (Wn.no rfl) rfl (R.bld (by exact (Ls.cons (R.Pr rfl) (Ls.cons (R.Pr rfl) Ls.nil))) (fun w => bu33_0_1 x32 (IntKind.i64.wrap (t42 + (1 : Int))) w)) ?_
        obtain ⟨w44, hww44, h45, h⟩ := M.stA_use h
        refine LE.s (Wn.no rfl) rfl (R.stA (a := b4) [(Value.int .u32 x32), (Value.int .i64 (IntKind.i64.wrap (t42 + (1 : Int))))] sz33 f40 rfl rfl (by simp [Value.oneCell']) h45 hww44) ?_
        refine LE.p (v := (Value.bool true)) (Wn.no rfl) rfl (R.assign rfl) ?_
        refine LE.nil ?_
        refine WE.ret ?_
        obtain ⟨t46, h47, h⟩ := h
        obtain ⟨t48, h49, h⟩ := h
        exact ⟨_, (Res.cell f40 (R.ldCellA ag33 sz33 rfl (Cs.cons h47 (Cs.cons h49 Cs.nil))) (Res.tmp rfl Res.nil)), _, _, _, rfl, h⟩
end Go.Proofs.Ytnfmkedblnajlaa
