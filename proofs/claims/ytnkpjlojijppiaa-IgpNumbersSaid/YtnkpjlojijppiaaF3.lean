/-
  Printed by gen.py: the formula of each function, and that it holds of the function.
-/
import Derived.Test.YtnkpjlojijppiaaTy
namespace Go.Proofs.Ytnkpjlojijppiaa
set_option linter.unusedVariables false
set_option linter.unusedSimpArgs false
open Go.Sp
set_option linter.unusedVariables false
/-- The formula of signpost.trie.New. -/
def F24  (K : Option Addr → World → Prop) (w0 : World) : Prop :=
M.new (.cells #[(Value.pointer (none : Option Addr)), (Value.pointer (none : Option Addr)), (Value.bool false), (Value.int .i64 (0 : Int)), (Value.int .i64 (0 : Int))] 88) w0 fun b2 w1 =>
K (some b2) w1
theorem F24_ok {w0 : World}  {K : Option Addr → World → Prop} (h : F24 K w0) : Calls Try.prog 24 #[] w0 (R24 K) := by
  refine calls_of_WE (args := []) (rs := [.tmp 0]) Try.func24 rfl (N := 3) rfl rfl rfl rfl ?_
  refine WE.seq ?_
  refine WE.reg ?_
  refine LE.p (v := (Value.pointer (none : Option Addr))) (Wn.no rfl) rfl (R.assign rfl) ?_
  refine LE.nil ?_
  refine WE.seq ?_
  refine WE.reg ?_
  refine LE.p (v := (Value.agg #[(Value.pointer (none : Option Addr)), (Value.pointer (none : Option Addr)), (Value.bool false), (Value.int .i64 (0 : Int)), (Value.int .i64 (0 : Int))])) (Wn.no rfl) rfl (R.bld (by exact Ls.nil) (fun w => bu88_  w)) ?_
  obtain ⟨b2, hpb2, w1, hww1, h⟩ := M.new_use h
  refine LE.r (v := (Value.pointer (some b2))) (Wn.no rfl) rfl (R.box (cs := #[(Value.pointer (none : Option Addr)), (Value.pointer (none : Option Addr)), (Value.bool false), (Value.int .i64 (0 : Int)), (Value.int .i64 (0 : Int))]) rfl rfl hpb2 hww1) ?_
  refine LE.p (v := (Value.pointer (some b2))) (Wn.no rfl) rfl (R.assign rfl) ?_
  refine LE.nil ?_
  refine WE.ret ?_
  exact ⟨_, (Res.tmp rfl Res.nil), _, rfl, h⟩
/-- The formula of signpost.igp.Right. -/
def F25 (p0_0 : Int) (p0_1 : Int) (p0_2 : Bool) (p0_3 : Int) (p0_4 : Int) (p0_5 : Nat) (K : Bool → World → Prop) (w0 : World) : Prop :=
M.new (.cells #[(Value.int .u32 p0_0), (Value.int .i64 p0_1), (Value.bool p0_2), (Value.int .i64 p0_3), (Value.int .u32 p0_4), (Value.float .f64 p0_5)] 33) w0 fun b2 w1 =>
M.join (fun (x4 : Bool) (w17 : World) => 
M.ite x4 (
K false w17) (
M.ld Value.bool (b2.add 2) w17 fun t21 =>
M.ite t21 (
M.join (fun (x25 : Bool) (w35 : World) => 
K x25 w35) fun J24 => 
M.ld (Value.int .i64) (b2.add 3) w17 fun t26 =>
M.ite (decide ((0 : Int) ≤ t26)) (
M.ld (Value.int .i64) (b2.add 3) w17 fun t29 =>
M.ite (decide (t29 ≤ (255 : Int))) (
M.ld (Value.int .u32) (b2.add 4) w17 fun t32 =>
J24 (t32 == (0 : Int)) w17) (
J24 false w17)) (
J24 false w17)) (
M.ld (Value.int .i64) (b2.add 3) w17 fun t37 =>
K (t37 == (0 : Int)) w17))) fun J3 => 
M.ld (Value.int .u32) b2 w1 fun t5 =>
M.ld (Value.int .i64) (b2.add 1) w1 fun t7 =>
Calls Try.prog 47 #[(Value.agg #[(Value.int .u32 t5), (Value.int .i64 t7)])] w1 (R47 fun r9 w10 =>
M.ite (!r9) (
J3 true w10) (
M.ld (Value.float .f64) (b2.add 5) w10 fun t12 =>
Calls Try.prog 48 #[(Value.float .f64 t12)] w10 (R48 fun r14 w15 =>
J3 (!r14) w15)))
theorem F25_ok {w0 : World} {p0_0 : Int} {p0_1 : Int} {p0_2 : Bool} {p0_3 : Int} {p0_4 : Int} {p0_5 : Nat} {K : Bool → World → Prop} (h : F25 p0_0 p0_1 p0_2 p0_3 p0_4 p0_5 K w0) : Calls Try.prog 25 #[(Value.agg #[(Value.int .u32 p0_0), (Value.int .i64 p0_1), (Value.bool p0_2), (Value.int .i64 p0_3), (Value.int .u32 p0_4), (Value.float .f64 p0_5)])] w0 (R25 K) := by
  refine calls_of_WE (args := [(Value.agg #[(Value.int .u32 p0_0), (Value.int .i64 p0_1), (Value.bool p0_2), (Value.int .i64 p0_3), (Value.int .u32 p0_4), (Value.float .f64 p0_5)])]) (rs := [.tmp 2]) Try.func25 rfl (N := 33) rfl rfl rfl rfl ?_
  refine WE.seq ?_
  refine WE.reg ?_
  obtain ⟨b2, hpb2, w1, hww1, h⟩ := M.new_use h
  refine LE.r (v := (Value.pointer (some b2))) (Wn.no rfl) rfl (R.box (cs := #[(Value.int .u32 p0_0), (Value.int .i64 p0_1), (Value.bool p0_2), (Value.int .i64 p0_3), (Value.int .u32 p0_4), (Value.float .f64 p0_5)]) rfl rfl hpb2 hww1) ?_
  refine LE.p (v := (Value.bool false)) (Wn.no rfl) rfl (R.assign rfl) ?_
  refine LE.nil ?_
  refine WE.seq ?_
  refine WE.block ?_
  refine WE.seq ?_
  obtain ⟨J3, hJ3, h⟩ := M.join_use h
  refine WE.regJ (fun e w => ∃ (x4 : Bool), J3 x4 w ∧ e 1 = (Value.pointer (some b2)) ∧ e 3 = (Value.bool x4)) ?_ ?_
  · clear hJ3
    refine LE.p (v := (Value.pointer (some b2))) (Wn.no rfl) rfl (R.fld (off := 0) fa33_0 rfl) ?_
    obtain ⟨t5, h6, h⟩ := h
    obtain ⟨t7, h8, h⟩ := h
    refine LE.r (v := (Value.agg #[(Value.int .u32 t5), (Value.int .i64 t7)])) (Wn.no rfl) rfl (R.ldA ag30 sz30 rfl rfl (Cs.cons h6 (Cs.cons h8 Cs.nil))) ?_
    refine LE.c (Wn.no rfl) rfl (R.call bd47 (Ls.cons rfl Ls.nil) rfl) (Calls.mono h ?_)
    rintro _ w10 ⟨r9, rfl, h⟩
    refine ⟨_, rfl, ?_⟩
    refine LE.p (v := (Value.bool (!r9))) (Wn.no rfl) rfl (R.not rfl) ?_
    refine LE.p (v := (Value.bool (!r9))) (Wn.no rfl) rfl (R.move rfl) ?_
    rcases M.ite_use h with ⟨hb11, h⟩ | ⟨hb11, h⟩
    · refine LE.u (Un.no 4 8 false rfl rfl rfl (congrArg Value.bool hb11)) ?_
      refine LE.u (Un.no 4 8 false rfl rfl rfl (congrArg Value.bool hb11)) ?_
      refine LE.u (Un.no 4 8 false rfl rfl rfl (congrArg Value.bool hb11)) ?_
      refine LE.u (Un.no 4 8 false rfl rfl rfl (congrArg Value.bool hb11)) ?_
      refine LE.p (v := (Value.bool true)) (Wn.no rfl) rfl (R.pickT (congrArg Value.bool hb11) rfl) ?_
      refine LE.p (v := (Value.bool true)) (Wn.no rfl) rfl (R.assign rfl) ?_
      refine LE.nil ?_
      exact ⟨_, h, rfl, rfl⟩
    · refine LE.p (v := (Value.pointer (some (b2.add 5)))) (Wn.yes 4 8 false rfl rfl rfl (congrArg Value.bool hb11)) rfl (R.fld (off := 5) fa33_4 rfl) ?_
      obtain ⟨t12, h13, h⟩ := h
      refine LE.r (v := (Value.float .f64 t12)) (Wn.yes 4 8 false rfl rfl rfl (congrArg Value.bool hb11)) rfl (R.ld sc31 rfl h13) ?_
      refine LE.c (Wn.yes 4 8 false rfl rfl rfl (congrArg Value.bool hb11)) rfl (R.call bd48 (Ls.cons rfl Ls.nil) rfl) (Calls.mono h ?_)
      rintro _ w15 ⟨r14, rfl, h⟩
      refine ⟨_, rfl, ?_⟩
      refine LE.p (v := (Value.bool (!r14))) (Wn.yes 4 8 false rfl rfl rfl (congrArg Value.bool hb11)) rfl (R.not rfl) ?_
      refine LE.p (v := (Value.bool (!r14))) (Wn.no rfl) rfl (R.pickF (congrArg Value.bool hb11) rfl) ?_
      refine LE.p (v := (Value.bool (!r14))) (Wn.no rfl) rfl (R.assign rfl) ?_
      refine LE.nil ?_
      exact ⟨_, h, rfl, rfl⟩
  · rintro e16 w17 ⟨x4, h, f18, f19⟩
    subst hJ3
    refine WE.condT rfl (b := x4) f19 ?_ ?_
    · intro hb20
      replace h := M.ite_t h hb20
      refine WE.seq ?_
      refine WE.reg ?_
      refine LE.p (v := (Value.bool false)) (Wn.no rfl) rfl (R.assign rfl) ?_
      refine LE.nil ?_
      refine WE.ret ?_
      exact ⟨_, (Res.tmp rfl Res.nil), _, rfl, h⟩
    · intro hb20
      replace h := M.ite_f h hb20
      refine WE.seq ?_
      refine WE.reg ?_
      refine LE.p (v := (Value.pointer (some (b2.add 2)))) (Wn.no rfl) rfl (R.fld (off := 2) fa33_1 f18) ?_
      obtain ⟨t21, h22, h⟩ := h
      refine LE.r (v := (Value.bool t21)) (Wn.no rfl) rfl (R.ld sc4 rfl h22) ?_
      refine LE.p (v := (Value.bool t21)) (Wn.no rfl) rfl (R.assign rfl) ?_
      refine LE.nil ?_
      refine WE.condT rfl (b := t21) rfl ?_ ?_
      · intro hb23
        replace h := M.ite_t h hb23
        refine WE.seq ?_
        obtain ⟨J24, hJ24, h⟩ := M.join_use h
        refine WE.regJ (fun e w => ∃ (x25 : Bool), J24 x25 w ∧ e 2 = (Value.bool x25)) ?_ ?_
        · clear hJ24
          refine LE.p (v := (Value.pointer (some (b2.add 3)))) (Wn.no rfl) rfl (R.fld (off := 3) fa33_2 f18) ?_
          obtain ⟨t26, h27, h⟩ := h
          refine LE.r (v := (Value.int .i64 t26)) (Wn.no rfl) rfl (R.ld sc3 rfl h27) ?_
          refine LE.p (v := (Value.bool (decide ((0 : Int) ≤ t26)))) (Wn.no rfl) rfl (R.geq rfl rfl) ?_
          refine LE.p (v := (Value.bool (decide ((0 : Int) ≤ t26)))) (Wn.no rfl) rfl (R.move rfl) ?_
          rcases M.ite_use h with ⟨hb28, h⟩ | ⟨hb28, h⟩
          · refine LE.p (v := (Value.pointer (some (b2.add 3)))) (Wn.yes 3 20 true rfl rfl rfl (congrArg Value.bool hb28)) rfl (R.fld (off := 3) fa33_2 f18) ?_
            obtain ⟨t29, h30, h⟩ := h
            refine LE.r (v := (Value.int .i64 t29)) (Wn.yes 3 20 true rfl rfl rfl (congrArg Value.bool hb28)) rfl (R.ld sc3 rfl h30) ?_
            refine LE.p (v := (Value.bool (decide (t29 ≤ (255 : Int))))) (Wn.yes 3 20 true rfl rfl rfl (congrArg Value.bool hb28)) rfl (R.leq rfl rfl) ?_
            refine LE.p (v := (Value.bool (decide (t29 ≤ (255 : Int))))) (Wn.no rfl) rfl (R.pickT (congrArg Value.bool hb28) rfl) ?_
            refine LE.p (v := (Value.bool (decide (t29 ≤ (255 : Int))))) (Wn.no rfl) rfl (R.move rfl) ?_
            rcases M.ite_use h with ⟨hb31, h⟩ | ⟨hb31, h⟩
            · refine LE.p (v := (Value.pointer (some (b2.add 4)))) (Wn.yes 8 25 true rfl rfl rfl (congrArg Value.bool hb31)) rfl (R.fld (off := 4) fa33_3 f18) ?_
              obtain ⟨t32, h33, h⟩ := h
              refine LE.r (v := (Value.int .u32 t32)) (Wn.yes 8 25 true rfl rfl rfl (congrArg Value.bool hb31)) rfl (R.ld sc23 rfl h33) ?_
              refine LE.p (v := (Value.bool (t32 == (0 : Int)))) (Wn.yes 8 25 true rfl rfl rfl (congrArg Value.bool hb31)) rfl (R.eql rfl rfl) ?_
              refine LE.p (v := (Value.bool (t32 == (0 : Int)))) (Wn.no rfl) rfl (R.pickT (congrArg Value.bool hb31) rfl) ?_
              refine LE.p (v := (Value.bool (t32 == (0 : Int)))) (Wn.no rfl) rfl (R.assign rfl) ?_
              refine LE.nil ?_
              exact ⟨_, h, rfl⟩
            · refine LE.u (Un.no 8 25 true rfl rfl rfl (congrArg Value.bool hb31)) ?_
              refine LE.u (Un.no 8 25 true rfl rfl rfl (congrArg Value.bool hb31)) ?_
              refine LE.u (Un.no 8 25 true rfl rfl rfl (congrArg Value.bool hb31)) ?_
              refine LE.p (v := (Value.bool false)) (Wn.no rfl) rfl (R.pickF (congrArg Value.bool hb31) rfl) ?_
              refine LE.p (v := (Value.bool false)) (Wn.no rfl) rfl (R.assign rfl) ?_
              refine LE.nil ?_
              exact ⟨_, h, rfl⟩
          · refine LE.u (Un.no 3 20 true rfl rfl rfl (congrArg Value.bool hb28)) ?_
            refine LE.u (Un.no 3 20 true rfl rfl rfl (congrArg Value.bool hb28)) ?_
            refine LE.u (Un.no 3 20 true rfl rfl rfl (congrArg Value.bool hb28)) ?_
            refine LE.p (v := (Value.bool false)) (Wn.no rfl) rfl (R.pickF (congrArg Value.bool hb28) rfl) ?_
            refine LE.p (v := (Value.bool false)) (Wn.no rfl) rfl (R.move rfl) ?_
            refine LE.u (Un.no 8 25 true rfl rfl rfl rfl) ?_
            refine LE.u (Un.no 8 25 true rfl rfl rfl rfl) ?_
            refine LE.u (Un.no 8 25 true rfl rfl rfl rfl) ?_
            refine LE.p (v := (Value.bool false)) (Wn.no rfl) rfl (R.pickF rfl rfl) ?_
            refine LE.p (v := (Value.bool false)) (Wn.no rfl) rfl (R.assign rfl) ?_
            refine LE.nil ?_
            exact ⟨_, h, rfl⟩
        · rintro e34 w35 ⟨x25, h, f36⟩
          subst hJ24
          refine WE.ret ?_
          exact ⟨_, (Res.tmp f36 Res.nil), _, rfl, h⟩
      · intro hb23
        replace h := M.ite_f h hb23
        refine WE.skip ?_
        refine WE.seq ?_
        refine WE.reg ?_
        refine LE.p (v := (Value.pointer (some (b2.add 3)))) (Wn.no rfl) rfl (R.fld (off := 3) fa33_2 f18) ?_
        obtain ⟨t37, h38, h⟩ := h
        refine LE.r (v := (Value.int .i64 t37)) (Wn.no rfl) rfl (R.ld sc3 rfl h38) ?_
        refine LE.p (v := (Value.bool (t37 == (0 : Int)))) (Wn.no rfl) rfl (R.eql rfl rfl) ?_
        refine LE.p (v := (Value.bool (t37 == (0 : Int)))) (Wn.no rfl) rfl (R.assign rfl) ?_
        refine LE.nil ?_
        refine WE.ret ?_
        exact ⟨_, (Res.tmp rfl Res.nil), _, rfl, h⟩
/-- The formula of signpost.metric.Clean. -/
def F26 (p0 : Nat) (K : Nat → World → Prop) (w0 : World) : Prop :=
Calls Try.prog 48 #[(Value.float .f64 p0)] w0 (R48 fun r1 w2 =>
M.ite (!r1) (
Calls Try.prog 19 #[(Value.int .i64 (1 : Int))] w2 (R19 fun r4 w5 =>
K r4 w5)) (
M.ite (fEql p0 (0 : Nat)) (
K (0 : Nat) w2) (
K p0 w2)))
theorem F26_ok {w0 : World} {p0 : Nat} {K : Nat → World → Prop} (h : F26 p0 K w0) : Calls Try.prog 26 #[(Value.float .f64 p0)] w0 (R26 K) := by
  refine calls_of_WE (args := [(Value.float .f64 p0)]) (rs := [.tmp 2]) Try.func26 rfl (N := 12) rfl rfl rfl rfl ?_
  refine WE.seq ?_
  refine WE.reg ?_
  refine LE.p (v := (Value.float .f64 (0 : Nat))) (Wn.no rfl) rfl (R.assign rfl) ?_
  refine LE.nil ?_
  refine WE.seq ?_
  refine WE.block ?_
  refine WE.seq ?_
  refine WE.reg ?_
  refine LE.p (v := (Value.float .f64 p0)) (Wn.no rfl) rfl (R.move rfl) ?_
  refine LE.c (Wn.no rfl) rfl (R.call bd48 (Ls.cons rfl Ls.nil) rfl) (Calls.mono h ?_)
  rintro _ w2 ⟨r1, rfl, h⟩
  refine ⟨_, rfl, ?_⟩
  refine LE.p (v := (Value.bool (!r1))) (Wn.no rfl) rfl (R.not rfl) ?_
  refine LE.p (v := (Value.bool (!r1))) (Wn.no rfl) rfl (R.assign rfl) ?_
  refine LE.nil ?_
  refine WE.condT rfl (b := (!r1)) rfl ?_ ?_
  · intro hb3
    replace h := M.ite_t h hb3
    refine WE.seq ?_
    refine WE.reg ?_
    refine LE.c (Wn.no rfl) rfl (R.call bd19 (Ls.cons rfl Ls.nil) rfl) (Calls.mono h ?_)
    rintro _ w5 ⟨r4, rfl, h⟩
    refine ⟨_, rfl, ?_⟩
    refine LE.p (v := (Value.float .f64 r4)) (Wn.no rfl) rfl (R.assign rfl) ?_
    refine LE.nil ?_
    refine WE.ret ?_
    exact ⟨_, (Res.tmp rfl Res.nil), _, rfl, h⟩
  · intro hb3
    replace h := M.ite_f h hb3
    refine WE.seq ?_
    refine WE.reg ?_
    refine LE.p (v := (Value.float .f64 p0)) (Wn.no rfl) rfl (R.move rfl) ?_
    refine LE.p (v := (Value.bool (fEql p0 (0 : Nat)))) (Wn.no rfl) rfl (R.feql rfl rfl) ?_
    refine LE.p (v := (Value.bool (fEql p0 (0 : Nat)))) (Wn.no rfl) rfl (R.assign rfl) ?_
    refine LE.nil ?_
    refine WE.condT rfl (b := (fEql p0 (0 : Nat))) rfl ?_ ?_
    · intro hb6
      replace h := M.ite_t h hb6
      refine WE.seq ?_
      refine WE.reg ?_
      refine LE.p (v := (Value.float .f64 (0 : Nat))) (Wn.no rfl) rfl (R.assign rfl) ?_
      refine LE.nil ?_
      refine WE.ret ?_
      exact ⟨_, (Res.tmp rfl Res.nil), _, rfl, h⟩
    · intro hb6
      replace h := M.ite_f h hb6
      refine WE.skip ?_
      refine WE.seq ?_
      refine WE.reg ?_
      refine LE.p (v := (Value.float .f64 p0)) (Wn.no rfl) rfl (R.move rfl) ?_
      refine LE.p (v := (Value.float .f64 p0)) (Wn.no rfl) rfl (R.assign rfl) ?_
      refine LE.nil ?_
      refine WE.ret ?_
      exact ⟨_, (Res.tmp rfl Res.nil), _, rfl, h⟩
/-- The formula of (*signpost.trie.Trie).Put. -/
def F27 (p0 : Option Addr) (p1_0 : Int) (p1_1 : Int) (p2 : Int) (K : Bool → World → Prop) (w0 : World) : Prop :=
M.new (.cells #[(Value.int .u32 p1_0), (Value.int .i64 p1_1)] 30) w0 fun b2 w1 =>
M.ld (Value.int .u32) b2 w1 fun t3 =>
M.ld (Value.int .i64) (b2.add 1) w1 fun t5 =>
Calls Try.prog 47 #[(Value.agg #[(Value.int .u32 t3), (Value.int .i64 t5)])] w1 (R47 fun r7 w8 =>
M.ite (!r7) (
K false w8) (
M.nil p0 fun a10 =>
M.ld (Value.int .i64) (b2.add 1) w8 fun t12 =>
M.loop2 (fun (J16 : Option Addr → Int → World → Prop) (x14 : Option Addr) (x15 : Int) (w17 : World) => 
M.ite (decide (x15 < t12)) (
M.ld (Value.int .u32) b2 w17 fun t31 =>
Calls Try.prog 49 #[(Value.int .u32 t31), (Value.int .i64 x15)] w17 (R49 fun r33 w34 =>
M.join (fun (w53 : World) => 
M.nil x14 fun a61 =>
M.inb r33 2 <|
M.ld Value.pointer (a61.add (r33.toNat * 1)) w53 fun t65 =>
J16 t65 (IntKind.i64.wrap (x15 + (1 : Int))) w53) fun J35 => 
M.nil x14 fun a36 =>
M.inb r33 2 <|
M.ld Value.pointer (a36.add (r33.toNat * 1)) w34 fun t40 =>
M.ite (Option.isNone t40) (
M.new (.cells #[(Value.pointer (none : Option Addr)), (Value.pointer (none : Option Addr)), (Value.bool false), (Value.int .i64 (0 : Int))] 86) w34 fun b44 w43 =>
M.nil x14 fun a45 =>
M.inb r33 2 <|
M.st (a45.add (r33.toNat * 1)) (Value.pointer (some b44)) w43 fun w49 =>
J35 w49) (
J35 w34))) (
M.nil x14 fun a67 =>
M.ld Value.bool (a67.add 2) w17 fun t69 =>
M.nil x14 fun a71 =>
M.st (a71.add 2) (Value.bool true) w17 fun w73 =>
M.nil x14 fun a76 =>
M.st (a76.add 3) (Value.int .i64 p2) w73 fun w78 =>
M.join (fun (w93 : World) => 
K (!t69) w93) fun J81 => 
M.ite (!t69) (
M.nil p0 fun a83 =>
M.ld (Value.int .i64) (a83.add 4) w78 fun t85 =>
M.nil p0 fun a87 =>
M.st (a87.add 4) (Value.int .i64 (IntKind.i64.wrap (t85 + (1 : Int)))) w78 fun w89 =>
J81 w89) (
J81 w78))) (some a10) (0 : Int) w8))
theorem F27_ok {w0 : World} {p0 : Option Addr} {p1_0 : Int} {p1_1 : Int} {p2 : Int} {K : Bool → World → Prop} (h : F27 p0 p1_0 p1_1 p2 K w0) : Calls Try.prog 27 #[(Value.pointer p0), (Value.agg #[(Value.int .u32 p1_0), (Value.int .i64 p1_1)]), (Value.int .i64 p2)] w0 (R27 K) := by
  refine calls_of_WE (args := [(Value.pointer p0), (Value.agg #[(Value.int .u32 p1_0), (Value.int .i64 p1_1)]), (Value.int .i64 p2)]) (rs := [.tmp 6]) Try.func27 rfl (N := 68) rfl rfl rfl rfl ?_
  refine WE.seq ?_
  refine WE.reg ?_
  obtain ⟨b2, hpb2, w1, hww1, h⟩ := M.new_use h
  refine LE.r (v := (Value.pointer (some b2))) (Wn.no rfl) rfl (R.box (cs := #[(Value.int .u32 p1_0), (Value.int .i64 p1_1)]) rfl rfl hpb2 hww1) ?_
  refine LE.p (v := (Value.bool false)) (Wn.no rfl) rfl (R.assign rfl) ?_
  refine LE.nil ?_
  refine WE.seq ?_
  refine WE.seq ?_
  refine WE.reg ?_
  obtain ⟨t3, h4, h⟩ := h
  obtain ⟨t5, h6, h⟩ := h
  refine LE.r (v := (Value.agg #[(Value.int .u32 t3), (Value.int .i64 t5)])) (Wn.no rfl) rfl (R.ldA ag30 sz30 rfl rfl (Cs.cons h4 (Cs.cons h6 Cs.nil))) ?_
  refine LE.c (Wn.no rfl) rfl (R.call bd47 (Ls.cons rfl Ls.nil) rfl) (Calls.mono h ?_)
  rintro _ w8 ⟨r7, rfl, h⟩
  refine ⟨_, rfl, ?_⟩
  refine LE.p (v := (Value.bool (!r7))) (Wn.no rfl) rfl (R.not rfl) ?_
  refine LE.nil ?_
  refine WE.condT rfl (b := (!r7)) rfl ?_ ?_
  · intro hb9
    replace h := M.ite_t h hb9
    refine WE.seq ?_
    refine WE.reg ?_
    refine LE.p (v := (Value.bool false)) (Wn.no rfl) rfl (R.assign rfl) ?_
    refine LE.nil ?_
    refine WE.ret ?_
    exact ⟨_, (Res.tmp rfl Res.nil), _, rfl, h⟩
  · intro hb9
    replace h := M.ite_f h hb9
    refine WE.skip ?_
    refine WE.seq ?_
    refine WE.reg ?_
    refine LE.p (v := (Value.pointer p0)) (Wn.no rfl) rfl (R.move rfl) ?_
    obtain ⟨a10, h11, h⟩ := h
    refine LE.p (v := (Value.pointer (some a10))) (Wn.no rfl) rfl (R.nilC (congrArg Value.pointer h11)) ?_
    refine LE.p (v := (Value.pointer (some a10))) (Wn.no rfl) rfl (R.fld (off := 0) fa88_0 rfl) ?_
    refine LE.p (v := (Value.pointer (some a10))) (Wn.no rfl) rfl (R.assign rfl) ?_
    refine LE.nil ?_
    refine WE.seq ?_
    refine WE.seq ?_
    refine WE.reg ?_
    refine LE.p (v := (Value.pointer (some (b2.add 1)))) (Wn.no rfl) rfl (R.fld (off := 1) fa30_1 rfl) ?_
    obtain ⟨t12, h13, h⟩ := h
    refine LE.r (v := (Value.int .i64 t12)) (Wn.no rfl) rfl (R.ld sc3 rfl h13) ?_
    refine LE.p (v := (Value.int .i64 (0 : Int))) (Wn.no rfl) rfl (R.move rfl) ?_
    refine LE.nil ?_
    refine WE.block ?_
    obtain ⟨I20, ⟨n19, h⟩, hr21⟩ := h
    refine WE.loop (fun n e w => ∃ (x14 : Option Addr) (x15 : Int), I20 n x14 x15 w ∧ e 0 = (Value.pointer p0) ∧ e 2 = (Value.int .i64 p2) ∧ e 4 = (Value.pointer (some b2)) ∧ e 7 = (Value.pointer x14) ∧ e 18 = (Value.int .i64 t12) ∧ e 19 = (Value.int .i64 x15)) n19 ⟨_, _, h, rfl, rfl, rfl, rfl, rfl, rfl⟩ ?_
    clear h
    rintro n19 e18 w17 ⟨x14, x15, h, f24, f25, f26, f27, f28, f29⟩
    replace h := hr21 n19 x14 x15 w17 h
    refine WE.seq ?_
    refine WE.reg ?_
    refine LE.p (v := (Value.bool (decide (x15 < t12)))) (Wn.no rfl) rfl (R.lss f29 f28) ?_
    refine LE.nil ?_
    refine WE.seq ?_
    refine WE.condT rfl (b := (decide (x15 < t12))) rfl ?_ ?_
    · intro hb30
      replace h := M.ite_t h hb30
      refine WE.skip ?_
      refine WE.seq ?_
      refine WE.block ?_
      refine WE.seq ?_
      refine WE.reg ?_
      refine LE.p (v := (Value.int .i64 x15)) (Wn.no rfl) rfl (R.move f29) ?_
      refine LE.p (v := (Value.int .i64 x15)) (Wn.no rfl) rfl (R.assign rfl) ?_
      refine LE.nil ?_
      refine WE.seq ?_
      refine WE.reg ?_
      refine LE.p (v := (Value.pointer (some b2))) (Wn.no rfl) rfl (R.fld (off := 0) fa30_0 f26) ?_
      obtain ⟨t31, h32, h⟩ := h
      refine LE.r (v := (Value.int .u32 t31)) (Wn.no rfl) rfl (R.ld sc23 rfl h32) ?_
      refine LE.p (v := (Value.int .i64 x15)) (Wn.no rfl) rfl (R.move rfl) ?_
      refine LE.c (Wn.no rfl) rfl (R.call bd49 (Ls.cons rfl (Ls.cons rfl Ls.nil)) rfl) (Calls.mono h ?_)
      rintro _ w34 ⟨r33, rfl, h⟩
      refine ⟨_, rfl, ?_⟩
      refine LE.p (v := (Value.int .i64 r33)) (Wn.no rfl) rfl (R.assign rfl) ?_
      refine LE.nil ?_
      obtain ⟨J35, hJ35, h⟩ := M.join_use h
      refine WE.join (fun e w => J35 w ∧ e 0 = (Value.pointer p0) ∧ e 2 = (Value.int .i64 p2) ∧ e 4 = (Value.pointer (some b2)) ∧ e 7 = (Value.pointer x14) ∧ e 9 = (Value.int .i64 r33) ∧ e 18 = (Value.int .i64 t12) ∧ e 19 = (Value.int .i64 x15)) ?_ ?_
      · clear hJ35
        refine WE.seq ?_
        refine WE.reg ?_
        refine LE.p (v := (Value.pointer x14)) (Wn.no rfl) rfl (R.move f27) ?_
        refine LE.p (v := (Value.int .i64 r33)) (Wn.no rfl) rfl (R.move rfl) ?_
        obtain ⟨a36, h37, h⟩ := h
        refine LE.p (v := (Value.pointer (some a36))) (Wn.no rfl) rfl (R.nilC (congrArg Value.pointer h37)) ?_
        refine LE.p (v := (Value.pointer (some a36))) (Wn.no rfl) rfl (R.fld (off := 0) fa86_0 rfl) ?_
        obtain ⟨h38, h39, h⟩ := h
        refine LE.p (v := (Value.pointer (some (a36.add (r33.toNat * 1))))) (Wn.no rfl) rfl (R.idxArr ar84 rfl rfl h38 h39) ?_
        obtain ⟨t40, h41, h⟩ := h
        refine LE.r (v := (Value.pointer t40)) (Wn.no rfl) rfl (R.ld sc83 rfl h41) ?_
        refine LE.p (v := (Value.bool (Option.isNone t40))) (Wn.no rfl) rfl (R.peqNil pt83 rfl rfl) ?_
        refine LE.nil ?_
        refine WE.condT rfl (b := (Option.isNone t40)) rfl ?_ ?_
        · intro hb42
          replace h := M.ite_t h hb42
          refine WE.reg ?_
          refine LE.p (v := (Value.pointer x14)) (Wn.no rfl) rfl (R.move f27) ?_
          refine LE.p (v := (Value.int .i64 r33)) (Wn.no rfl) rfl (R.move rfl) ?_
          refine LE.p (v := (Value.agg #[(Value.pointer (none : Option Addr)), (Value.pointer (none : Option Addr)), (Value.bool false), (Value.int .i64 (0 : Int))])) (Wn.no rfl) rfl (R.bld (by exact Ls.nil) (fun w => bu86_  w)) ?_
          obtain ⟨b44, hpb44, w43, hww43, h⟩ := M.new_use h
          refine LE.r (v := (Value.pointer (some b44))) (Wn.no rfl) rfl (R.box (cs := #[(Value.pointer (none : Option Addr)), (Value.pointer (none : Option Addr)), (Value.bool false), (Value.int .i64 (0 : Int))]) rfl rfl hpb44 hww43) ?_
          obtain ⟨a45, h46, h⟩ := h
          refine LE.p (v := (Value.pointer (some a45))) (Wn.no rfl) rfl (R.nilC (congrArg Value.pointer h46)) ?_
          refine LE.p (v := (Value.pointer (some a45))) (Wn.no rfl) rfl (R.fld (off := 0) fa86_0 rfl) ?_
          obtain ⟨h47, h48, h⟩ := h
          refine LE.p (v := (Value.pointer (some (a45.add (r33.toNat * 1))))) (Wn.no rfl) rfl (R.idxArr ar84 rfl rfl h47 h48) ?_
          obtain ⟨w49, hww49, h50, h51, h⟩ := M.st_use h
          refine LE.s (Wn.no rfl) rfl (R.st (a := (a45.add (r33.toNat * 1))) (v := (Value.pointer (some b44))) sz83 rfl rfl rfl rfl h50 h51 hww49) ?_
          refine LE.nil ?_
          exact ⟨h, f24, f25, f26, f27, rfl, f28, f29⟩
        · intro hb42
          replace h := M.ite_f h hb42
          refine WE.skip ?_
          exact ⟨h, f24, f25, f26, f27, rfl, f28, f29⟩
      · rintro e52 w53 ⟨h, f54, f55, f56, f57, f58, f59, f60⟩
        subst hJ35
        refine WE.reg ?_
        refine LE.p (v := (Value.pointer x14)) (Wn.no rfl) rfl (R.move f57) ?_
        refine LE.p (v := (Value.int .i64 r33)) (Wn.no rfl) rfl (R.move f58) ?_
        obtain ⟨a61, h62, h⟩ := h
        refine LE.p (v := (Value.pointer (some a61))) (Wn.no rfl) rfl (R.nilC (congrArg Value.pointer h62)) ?_
        refine LE.p (v := (Value.pointer (some a61))) (Wn.no rfl) rfl (R.fld (off := 0) fa86_0 rfl) ?_
        obtain ⟨h63, h64, h⟩ := h
        refine LE.p (v := (Value.pointer (some (a61.add (r33.toNat * 1))))) (Wn.no rfl) rfl (R.idxArr ar84 rfl rfl h63 h64) ?_
        obtain ⟨t65, h66, h⟩ := h
        refine LE.r (v := (Value.pointer t65)) (Wn.no rfl) rfl (R.ld sc83 rfl h66) ?_
        refine LE.p (v := (Value.pointer t65)) (Wn.no rfl) rfl (R.assign rfl) ?_
        refine LE.nil ?_
        refine WE.reg ?_
        refine LE.p (v := (Value.int .i64 (IntKind.i64.wrap (x15 + (1 : Int))))) (Wn.no rfl) rfl (R.add f60 rfl) ?_
        refine LE.p (v := (Value.int .i64 (IntKind.i64.wrap (x15 + (1 : Int))))) (Wn.no rfl) rfl (R.move rfl) ?_
        refine LE.nil ?_
        obtain ⟨m22, hm23, h⟩ := h
        exact ⟨m22, hm23, _, _, h, f54, f55, f56, rfl, f59, rfl⟩
    · intro hb30
      replace h := M.ite_f h hb30
      refine WE.exit ?_
      refine WE.seq ?_
      refine WE.reg ?_
      refine LE.p (v := (Value.pointer x14)) (Wn.no rfl) rfl (R.move f27) ?_
      obtain ⟨a67, h68, h⟩ := h
      refine LE.p (v := (Value.pointer (some a67))) (Wn.no rfl) rfl (R.nilC (congrArg Value.pointer h68)) ?_
      refine LE.p (v := (Value.pointer (some (a67.add 2)))) (Wn.no rfl) rfl (R.fld (off := 2) fa86_1 rfl) ?_
      obtain ⟨t69, h70, h⟩ := h
      refine LE.r (v := (Value.bool t69)) (Wn.no rfl) rfl (R.ld sc4 rfl h70) ?_
      refine LE.p (v := (Value.bool (!t69))) (Wn.no rfl) rfl (R.not rfl) ?_
      refine LE.p (v := (Value.bool (!t69))) (Wn.no rfl) rfl (R.assign rfl) ?_
      refine LE.nil ?_
      refine WE.seq ?_
      refine WE.reg ?_
      refine LE.p (v := (Value.pointer x14)) (Wn.no rfl) rfl (R.move f27) ?_
      refine LE.p (v := (Value.pointer x14)) (Wn.no rfl) rfl (R.move f27) ?_
      refine LE.p (v := (Value.int .i64 p2)) (Wn.no rfl) rfl (R.move f25) ?_
      obtain ⟨a71, h72, h⟩ := h
      refine LE.p (v := (Value.pointer (some a71))) (Wn.no rfl) rfl (R.nilC (congrArg Value.pointer h72)) ?_
      refine LE.p (v := (Value.pointer (some (a71.add 2)))) (Wn.no rfl) rfl (R.fld (off := 2) fa86_1 rfl) ?_
      obtain ⟨w73, hww73, h74, h75, h⟩ := M.st_use h
      refine LE.s (Wn.no rfl) rfl (R.st (a := (a71.add 2)) (v := (Value.bool true)) sz4 rfl rfl rfl rfl h74 h75 hww73) ?_
      obtain ⟨a76, h77, h⟩ := h
      refine LE.p (v := (Value.pointer (some a76))) (Wn.no rfl) rfl (R.nilC (congrArg Value.pointer h77)) ?_
      refine LE.p (v := (Value.pointer (some (a76.add 3)))) (Wn.no rfl) rfl (R.fld (off := 3) fa86_2 rfl) ?_
      obtain ⟨w78, hww78, h79, h80, h⟩ := M.st_use h
      refine LE.s (Wn.no rfl) rfl (R.st (a := (a76.add 3)) (v := (Value.int .i64 p2)) sz3 rfl rfl rfl rfl h79 h80 hww78) ?_
      refine LE.nil ?_
      obtain ⟨J81, hJ81, h⟩ := M.join_use h
      refine WE.join (fun e w => J81 w ∧ e 10 = (Value.bool (!t69))) ?_ ?_
      · clear hJ81
        refine WE.seq ?_
        refine WE.reg ?_
        refine LE.p (v := (Value.bool (!t69))) (Wn.no rfl) rfl (R.move rfl) ?_
        refine LE.nil ?_
        refine WE.condT rfl (b := (!t69)) rfl ?_ ?_
        · intro hb82
          replace h := M.ite_t h hb82
          refine WE.reg ?_
          refine LE.p (v := (Value.pointer p0)) (Wn.no rfl) rfl (R.move f24) ?_
          obtain ⟨a83, h84, h⟩ := h
          refine LE.p (v := (Value.pointer (some a83))) (Wn.no rfl) rfl (R.nilC (congrArg Value.pointer h84)) ?_
          refine LE.p (v := (Value.pointer (some (a83.add 4)))) (Wn.no rfl) rfl (R.fld (off := 4) fa88_1 rfl) ?_
          obtain ⟨t85, h86, h⟩ := h
          refine LE.r (v := (Value.int .i64 t85)) (Wn.no rfl) rfl (R.ld sc3 rfl h86) ?_
          refine LE.p (v := (Value.int .i64 (IntKind.i64.wrap (t85 + (1 : Int))))) (Wn.no rfl) rfl (R.add rfl rfl) ?_
          obtain ⟨a87, h88, h⟩ := h
          refine LE.p (v := (Value.pointer (some a87))) (Wn.no rfl) rfl (R.nilC (congrArg Value.pointer h88)) ?_
          refine LE.p (v := (Value.pointer (some (a87.add 4)))) (Wn.no rfl) rfl (R.fld (off := 4) fa88_1 rfl) ?_
          obtain ⟨w89, hww89, h90, h91, h⟩ := M.st_use h
          refine LE.s (Wn.no rfl) rfl (R.st (a := (a87.add 4)) (v := (Value.int .i64 (IntKind.i64.wrap (t85 + (1 : Int))))) sz3 rfl rfl rfl rfl h90 h91 hww89) ?_
          refine LE.nil ?_
          exact ⟨h, rfl⟩
        · intro hb82
          replace h := M.ite_f h hb82
          refine WE.skip ?_
          exact ⟨h, rfl⟩
      · rintro e92 w93 ⟨h, f94⟩
        subst hJ81
        refine WE.seq ?_
        refine WE.reg ?_
        refine LE.p (v := (Value.bool (!t69))) (Wn.no rfl) rfl (R.move f94) ?_
        refine LE.p (v := (Value.bool (!t69))) (Wn.no rfl) rfl (R.assign rfl) ?_
        refine LE.nil ?_
        refine WE.ret ?_
        exact ⟨_, (Res.tmp rfl Res.nil), _, rfl, h⟩
/-- The formula of (*signpost.trie.Trie).Cut. -/
def F28 (p0 : Option Addr) (p1_0 : Int) (p1_1 : Int) (K : Bool → World → Prop) (w0 : World) : Prop :=
M.new (.cells #[(Value.int .u32 p1_0), (Value.int .i64 p1_1)] 30) w0 fun b2 w1 =>
M.ld (Value.int .u32) b2 w1 fun t3 =>
M.ld (Value.int .i64) (b2.add 1) w1 fun t5 =>
Calls Try.prog 50 #[(Value.pointer p0), (Value.agg #[(Value.int .u32 t3), (Value.int .i64 t5)])] w1 (R50 fun r7 r8 w9 =>
M.ite (!r8) (
K false w9) (
M.nil p0 fun a11 =>
M.ld (Value.int .i64) (b2.add 1) w9 fun t13 =>
M.loop3 (fun (J18 : SV → Option Addr → Int → World → Prop) (x15 : SV) (x16 : Option Addr) (x17 : Int) (w19 : World) => 
M.ite (decide (x17 < t13)) (
M.new (.cells #[(Value.pointer x16)] 83) w19 fun b35 w33 =>
M.app Try.prog 93 93 93 x15 (SV.v (SV.mk (some b35) 1 1)) w33 fun s36 w37 =>
M.drew w37 fun w39 => 
M.nil x16 fun a40 =>
M.ld (Value.int .u32) b2 w39 fun t42 =>
Calls Try.prog 49 #[(Value.int .u32 t42), (Value.int .i64 x17)] w39 (R49 fun r44 w45 =>
M.inb r44 2 <|
M.ld Value.pointer (a40.add (r44.toNat * 1)) w45 fun t48 =>
J18 s36 t48 (IntKind.i64.wrap (x17 + (1 : Int))) w45)) (
M.nil x16 fun a50 =>
M.st (a50.add 2) (Value.bool false) w19 fun w52 =>
M.nil x16 fun a55 =>
M.st (a55.add 3) (Value.int .i64 (0 : Int)) w52 fun w57 =>
M.nil p0 fun a60 =>
M.ld (Value.int .i64) (a60.add 4) w57 fun t62 =>
M.nil p0 fun a64 =>
M.st (a64.add 4) (Value.int .i64 (IntKind.i64.wrap (t62 - (1 : Int)))) w57 fun w66 =>
M.ld (Value.int .i64) (b2.add 1) w66 fun t69 =>
M.join (fun (w118 : World) => 
K true w118) fun J71 => 
M.loop1 (fun (J73 : Int → World → Prop) (x72 : Int) (w74 : World) => 
M.ite (decide ((0 : Int) ≤ x72)) (
M.ld (Value.int .u32) b2 w74 fun t85 =>
Calls Try.prog 49 #[(Value.int .u32 t85), (Value.int .i64 x72)] w74 (R49 fun r87 w88 =>
M.idx x15 x72 1 fun a89 =>
M.ld Value.pointer (a89.add (x72.toNat * 1)) w88 fun t93 =>
M.nil t93 fun a95 =>
M.inb r87 2 <|
M.ld Value.pointer (a95.add (r87.toNat * 1)) w88 fun t99 =>
Calls Try.prog 51 #[(Value.pointer t99)] w88 (R51 fun r101 w102 =>
M.ite (!r101) (
J71 w102) (
M.idx x15 x72 1 fun a104 =>
M.ld Value.pointer (a104.add (x72.toNat * 1)) w102 fun t108 =>
M.nil t108 fun a110 =>
M.inb r87 2 <|
M.st (a110.add (r87.toNat * 1)) (Value.pointer (none : Option Addr)) w102 fun w114 =>
J73 (IntKind.i64.wrap (x72 - (1 : Int))) w114)))) (
J71 w74)) (IntKind.i64.wrap (t69 - (1 : Int))) w66)) SV.nil (some a11) (0 : Int) w9))
theorem F28_ok {w0 : World} {p0 : Option Addr} {p1_0 : Int} {p1_1 : Int} {K : Bool → World → Prop} (h : F28 p0 p1_0 p1_1 K w0) : Calls Try.prog 28 #[(Value.pointer p0), (Value.agg #[(Value.int .u32 p1_0), (Value.int .i64 p1_1)])] w0 (R28 K) := by
  refine calls_of_WE (args := [(Value.pointer p0), (Value.agg #[(Value.int .u32 p1_0), (Value.int .i64 p1_1)])]) (rs := [.tmp 4]) Try.func28 rfl (N := 85) rfl rfl rfl rfl ?_
  refine WE.seq ?_
  refine WE.reg ?_
  obtain ⟨b2, hpb2, w1, hww1, h⟩ := M.new_use h
  refine LE.r (v := (Value.pointer (some b2))) (Wn.no rfl) rfl (R.box (cs := #[(Value.int .u32 p1_0), (Value.int .i64 p1_1)]) rfl rfl hpb2 hww1) ?_
  refine LE.p (v := (Value.bool false)) (Wn.no rfl) rfl (R.assign rfl) ?_
  refine LE.nil ?_
  refine WE.scope ?_
  refine WE.seq ?_
  refine WE.seq ?_
  refine WE.reg ?_
  refine LE.p (v := (Value.pointer p0)) (Wn.no rfl) rfl (R.move rfl) ?_
  obtain ⟨t3, h4, h⟩ := h
  obtain ⟨t5, h6, h⟩ := h
  refine LE.r (v := (Value.agg #[(Value.int .u32 t3), (Value.int .i64 t5)])) (Wn.no rfl) rfl (R.ldA ag30 sz30 rfl rfl (Cs.cons h4 (Cs.cons h6 Cs.nil))) ?_
  refine LE.c (Wn.no rfl) rfl (R.call bd50 (Ls.cons rfl (Ls.cons rfl Ls.nil)) rfl) (Calls.mono h ?_)
  rintro _ w9 ⟨r7, r8, rfl, h⟩
  refine ⟨_, rfl, ?_⟩
  refine LE.p (v := (Value.tuple #[(Value.int .i64 r7), (Value.bool r8)])) (Wn.no rfl) rfl (R.move rfl) ?_
  refine LE.p (v := (Value.int .i64 r7)) (Wn.no rfl) rfl (R.ext rfl rfl) ?_
  refine LE.p (v := (Value.bool r8)) (Wn.no rfl) rfl (R.ext rfl rfl) ?_
  refine LE.p (v := (Value.int .i64 r7)) (Wn.no rfl) rfl (R.assign rfl) ?_
  refine LE.p (v := (Value.bool r8)) (Wn.no rfl) rfl (R.assign rfl) ?_
  refine LE.nil ?_
  refine WE.seq ?_
  refine WE.reg ?_
  refine LE.p (v := (Value.bool r8)) (Wn.no rfl) rfl (R.move rfl) ?_
  refine LE.p (v := (Value.bool (!r8))) (Wn.no rfl) rfl (R.not rfl) ?_
  refine LE.nil ?_
  refine WE.condT rfl (b := (!r8)) rfl ?_ ?_
  · intro hb10
    replace h := M.ite_t h hb10
    refine WE.seq ?_
    refine WE.reg ?_
    refine LE.p (v := (Value.bool false)) (Wn.no rfl) rfl (R.assign rfl) ?_
    refine LE.nil ?_
    refine WE.ret ?_
    exact ⟨_, (Res.tmp rfl Res.nil), _, rfl, h⟩
  · intro hb10
    replace h := M.ite_f h hb10
    refine WE.skip ?_
    refine WE.seq ?_
    refine WE.reg ?_
    refine LE.p (v := (SV.v SV.nil)) (Wn.no rfl) rfl (R.assign rfl) ?_
    refine LE.nil ?_
    refine WE.seq ?_
    refine WE.reg ?_
    refine LE.p (v := (Value.pointer p0)) (Wn.no rfl) rfl (R.move rfl) ?_
    obtain ⟨a11, h12, h⟩ := h
    refine LE.p (v := (Value.pointer (some a11))) (Wn.no rfl) rfl (R.nilC (congrArg Value.pointer h12)) ?_
    refine LE.p (v := (Value.pointer (some a11))) (Wn.no rfl) rfl (R.fld (off := 0) fa88_0 rfl) ?_
    refine LE.p (v := (Value.pointer (some a11))) (Wn.no rfl) rfl (R.assign rfl) ?_
    refine LE.nil ?_
    refine WE.seq ?_
    refine WE.seq ?_
    refine WE.reg ?_
    refine LE.p (v := (Value.pointer (some (b2.add 1)))) (Wn.no rfl) rfl (R.fld (off := 1) fa30_1 rfl) ?_
    obtain ⟨t13, h14, h⟩ := h
    refine LE.r (v := (Value.int .i64 t13)) (Wn.no rfl) rfl (R.ld sc3 rfl h14) ?_
    refine LE.p (v := (Value.int .i64 (0 : Int))) (Wn.no rfl) rfl (R.move rfl) ?_
    refine LE.nil ?_
    refine WE.block ?_
    obtain ⟨I22, ⟨n21, h⟩, hr23⟩ := h
    refine WE.loop (fun n e w => ∃ (x15 : SV) (x16 : Option Addr) (x17 : Int), I22 n x15 x16 x17 w ∧ e 0 = (Value.pointer p0) ∧ e 3 = (Value.pointer (some b2)) ∧ e 7 = (SV.v x15) ∧ e 8 = (Value.pointer x16) ∧ e 24 = (Value.int .i64 t13) ∧ e 25 = (Value.int .i64 x17)) n21 ⟨_, _, _, h, rfl, rfl, rfl, rfl, rfl, rfl⟩ ?_
    clear h
    rintro n21 e20 w19 ⟨x15, x16, x17, h, f26, f27, f28, f29, f30, f31⟩
    replace h := hr23 n21 x15 x16 x17 w19 h
    refine WE.seq ?_
    refine WE.reg ?_
    refine LE.p (v := (Value.bool (decide (x17 < t13)))) (Wn.no rfl) rfl (R.lss f31 f30) ?_
    refine LE.nil ?_
    refine WE.seq ?_
    refine WE.condT rfl (b := (decide (x17 < t13))) rfl ?_ ?_
    · intro hb32
      replace h := M.ite_t h hb32
      refine WE.skip ?_
      refine WE.seq ?_
      refine WE.block ?_
      refine WE.seq ?_
      refine WE.reg ?_
      refine LE.p (v := (Value.int .i64 x17)) (Wn.no rfl) rfl (R.move f31) ?_
      refine LE.p (v := (Value.int .i64 x17)) (Wn.no rfl) rfl (R.assign rfl) ?_
      refine LE.nil ?_
      refine WE.seq ?_
      refine WE.reg ?_
      refine LE.p (v := (SV.v x15)) (Wn.no rfl) rfl (R.move f28) ?_
      refine LE.p (v := (Value.pointer x16)) (Wn.no rfl) rfl (R.move f29) ?_
      obtain ⟨b35, hpb35, w33, hww33, h⟩ := M.new_use h
      refine LE.r (v := (SV.v (SV.mk (some b35) 1 1))) (Wn.no rfl) rfl (R.bsl (by exact (Ls.cons (R.Pr rfl) Ls.nil)) (fun w => bs93_1 x16 w) hpb35 hww33) ?_
      obtain ⟨s36, w37, h38, h⟩ := h
      refine LE.r (v := (SV.v s36)) (Wn.no rfl) rfl (R.app (s := x15) (r := s36) rfl rfl h38) ?_
      refine LE.p (v := (SV.v s36)) (Wn.no rfl) rfl (R.assign rfl) ?_
      refine LE.nil ?_
      refine WE.draw mix ?_
      obtain ⟨w39, hww39, h⟩ := M.drew_use h
      rw [← hww39]
      clear hww39
      refine DE.t 0 (v := (Value.pointer x16)) rfl (by kernel_rfl) (Wn.no rfl) rfl (R.move f29) ?_
      refine DE.t 1 (v := (Value.pointer (some b2))) rfl (by kernel_rfl) (Wn.no rfl) rfl (R.fld (off := 0) fa30_0 f27) ?_
      refine DE.t 3 (v := (Value.int .i64 x17)) rfl (by kernel_rfl) (Wn.no rfl) rfl (R.move rfl) ?_
      obtain ⟨a40, h41, h⟩ := h
      refine DE.t 5 (v := (Value.pointer (some a40))) rfl (by kernel_rfl) (Wn.no rfl) rfl (R.nilC (congrArg Value.pointer h41)) ?_
      refine DE.t 6 (v := (Value.pointer (some a40))) rfl (by kernel_rfl) (Wn.no rfl) rfl (R.fld (off := 0) fa86_0 rfl) ?_
      obtain ⟨t42, h43, h⟩ := h
      refine DE.main 2 (by kernel_rfl) ?_
      refine One.r 2 (v := (Value.int .u32 t42)) rfl (Wn.no rfl) rfl (R.ld sc23 rfl h43) (.inl rfl) ?_
      refine DE.main 4 (by kernel_rfl) ?_
      refine One.c 4 rfl (Wn.no rfl) rfl (R.call bd49 (Ls.cons rfl (Ls.cons rfl Ls.nil)) rfl) (Calls.mono h ?_)
      rintro _ w45 ⟨r44, rfl, h⟩
      refine ⟨_, rfl, trivial, ?_⟩
      obtain ⟨h46, h47, h⟩ := h
      refine DE.t 7 (v := (Value.pointer (some (a40.add (r44.toNat * 1))))) rfl (by kernel_rfl) (Wn.no rfl) rfl (R.idxArr ar84 rfl rfl h46 h47) ?_
      obtain ⟨t48, h49, h⟩ := h
      refine DE.main 8 (by kernel_rfl) ?_
      refine One.r 8 (v := (Value.pointer t48)) rfl (Wn.no rfl) rfl (R.ld sc83 rfl h49) (.inl rfl) ?_
      refine DE.t 9 (v := (Value.pointer t48)) rfl (by kernel_rfl) (Wn.no rfl) rfl (R.assign rfl) ?_
      refine DE.done (by kernel_rfl) ?_
      refine WE.reg ?_
      refine LE.p (v := (Value.int .i64 (IntKind.i64.wrap (x17 + (1 : Int))))) (Wn.no rfl) rfl (R.add f31 rfl) ?_
      refine LE.p (v := (Value.int .i64 (IntKind.i64.wrap (x17 + (1 : Int))))) (Wn.no rfl) rfl (R.move rfl) ?_
      refine LE.nil ?_
      obtain ⟨m24, hm25, h⟩ := h
      exact ⟨m24, hm25, _, _, _, h, f26, f27, rfl, rfl, f30, rfl⟩
    · intro hb32
      replace h := M.ite_f h hb32
      refine WE.exit ?_
      refine WE.seq ?_
      refine WE.reg ?_
      refine LE.p (v := (Value.pointer x16)) (Wn.no rfl) rfl (R.move f29) ?_
      refine LE.p (v := (Value.pointer x16)) (Wn.no rfl) rfl (R.move f29) ?_
      obtain ⟨a50, h51, h⟩ := h
      refine LE.p (v := (Value.pointer (some a50))) (Wn.no rfl) rfl (R.nilC (congrArg Value.pointer h51)) ?_
      refine LE.p (v := (Value.pointer (some (a50.add 2)))) (Wn.no rfl) rfl (R.fld (off := 2) fa86_1 rfl) ?_
      obtain ⟨w52, hww52, h53, h54, h⟩ := M.st_use h
      refine LE.s (Wn.no rfl) rfl (R.st (a := (a50.add 2)) (v := (Value.bool false)) sz4 rfl rfl rfl rfl h53 h54 hww52) ?_
      obtain ⟨a55, h56, h⟩ := h
      refine LE.p (v := (Value.pointer (some a55))) (Wn.no rfl) rfl (R.nilC (congrArg Value.pointer h56)) ?_
      refine LE.p (v := (Value.pointer (some (a55.add 3)))) (Wn.no rfl) rfl (R.fld (off := 3) fa86_2 rfl) ?_
      obtain ⟨w57, hww57, h58, h59, h⟩ := M.st_use h
      refine LE.s (Wn.no rfl) rfl (R.st (a := (a55.add 3)) (v := (Value.int .i64 (0 : Int))) sz3 rfl rfl rfl rfl h58 h59 hww57) ?_
      refine LE.nil ?_
      refine WE.seq ?_
      refine WE.reg ?_
      refine LE.p (v := (Value.pointer p0)) (Wn.no rfl) rfl (R.move f26) ?_
      obtain ⟨a60, h61, h⟩ := h
      refine LE.p (v := (Value.pointer (some a60))) (Wn.no rfl) rfl (R.nilC (congrArg Value.pointer h61)) ?_
      refine LE.p (v := (Value.pointer (some (a60.add 4)))) (Wn.no rfl) rfl (R.fld (off := 4) fa88_1 rfl) ?_
      obtain ⟨t62, h63, h⟩ := h
      refine LE.r (v := (Value.int .i64 t62)) (Wn.no rfl) rfl (R.ld sc3 rfl h63) ?_
      refine LE.p (v := (Value.int .i64 (IntKind.i64.wrap (t62 - (1 : Int))))) (Wn.no rfl) rfl (R.sub rfl rfl) ?_
      obtain ⟨a64, h65, h⟩ := h
      refine LE.p (v := (Value.pointer (some a64))) (Wn.no rfl) rfl (R.nilC (congrArg Value.pointer h65)) ?_
      refine LE.p (v := (Value.pointer (some (a64.add 4)))) (Wn.no rfl) rfl (R.fld (off := 4) fa88_1 rfl) ?_
      obtain ⟨w66, hww66, h67, h68, h⟩ := M.st_use h
      refine LE.s (Wn.no rfl) rfl (R.st (a := (a64.add 4)) (v := (Value.int .i64 (IntKind.i64.wrap (t62 - (1 : Int))))) sz3 rfl rfl rfl rfl h67 h68 hww66) ?_
      refine LE.nil ?_
      refine WE.seq ?_
      refine WE.label ?_
      refine WE.seq ?_
      refine WE.seq ?_
      refine WE.reg ?_
      refine LE.p (v := (Value.pointer (some (b2.add 1)))) (Wn.no rfl) rfl (R.fld (off := 1) fa30_1 f27) ?_
      obtain ⟨t69, h70, h⟩ := h
      refine LE.r (v := (Value.int .i64 t69)) (Wn.no rfl) rfl (R.ld sc3 rfl h70) ?_
      refine LE.p (v := (Value.int .i64 (IntKind.i64.wrap (t69 - (1 : Int))))) (Wn.no rfl) rfl (R.sub rfl rfl) ?_
      refine LE.p (v := (Value.int .i64 (IntKind.i64.wrap (t69 - (1 : Int))))) (Wn.no rfl) rfl (R.assign rfl) ?_
      refine LE.nil ?_
      obtain ⟨J71, hJ71, h⟩ := M.join_use h
      refine WE.blkJ (fun e w => J71 w) ?_ ?_
      · clear hJ71
        obtain ⟨I77, ⟨n76, h⟩, hr78⟩ := h
        refine WE.loop (fun n e w => ∃ (x72 : Int), I77 n x72 w ∧ e 3 = (Value.pointer (some b2)) ∧ e 7 = (SV.v x15) ∧ e 10 = (Value.int .i64 x72)) n76 ⟨_, h, f27, f28, rfl⟩ ?_
        clear h
        rintro n76 e75 w74 ⟨x72, h, f81, f82, f83⟩
        replace h := hr78 n76 x72 w74 h
        refine WE.seq ?_
        refine WE.seq ?_
        refine WE.reg ?_
        refine LE.p (v := (Value.int .i64 x72)) (Wn.no rfl) rfl (R.move f83) ?_
        refine LE.p (v := (Value.bool (decide ((0 : Int) ≤ x72)))) (Wn.no rfl) rfl (R.geq rfl rfl) ?_
        refine LE.nil ?_
        refine WE.condT rfl (b := (decide ((0 : Int) ≤ x72))) rfl ?_ ?_
        · intro hb84
          replace h := M.ite_t h hb84
          refine WE.skip ?_
          refine WE.seq ?_
          refine WE.block ?_
          refine WE.seq ?_
          refine WE.reg ?_
          refine LE.p (v := (Value.pointer (some b2))) (Wn.no rfl) rfl (R.fld (off := 0) fa30_0 f81) ?_
          obtain ⟨t85, h86, h⟩ := h
          refine LE.r (v := (Value.int .u32 t85)) (Wn.no rfl) rfl (R.ld sc23 rfl h86) ?_
          refine LE.p (v := (Value.int .i64 x72)) (Wn.no rfl) rfl (R.move f83) ?_
          refine LE.c (Wn.no rfl) rfl (R.call bd49 (Ls.cons rfl (Ls.cons rfl Ls.nil)) rfl) (Calls.mono h ?_)
          rintro _ w88 ⟨r87, rfl, h⟩
          refine ⟨_, rfl, ?_⟩
          refine LE.p (v := (Value.int .i64 r87)) (Wn.no rfl) rfl (R.assign rfl) ?_
          refine LE.nil ?_
          refine WE.seq ?_
          refine WE.seq ?_
          refine WE.reg ?_
          refine LE.p (v := (SV.v x15)) (Wn.no rfl) rfl (R.move f82) ?_
          refine LE.p (v := (Value.int .i64 x72)) (Wn.no rfl) rfl (R.move f83) ?_
          obtain ⟨a89, h90, h91, h92, h⟩ := h
          refine LE.p (v := (Value.pointer (some (a89.add (x72.toNat * 1))))) (Wn.no rfl) rfl (R.idx (s := x15) sl93 rfl rfl h90 h91 h92) ?_
          obtain ⟨t93, h94, h⟩ := h
          refine LE.r (v := (Value.pointer t93)) (Wn.no rfl) rfl (R.ld sc83 rfl h94) ?_
          refine LE.p (v := (Value.int .i64 r87)) (Wn.no rfl) rfl (R.move rfl) ?_
          obtain ⟨a95, h96, h⟩ := h
          refine LE.p (v := (Value.pointer (some a95))) (Wn.no rfl) rfl (R.nilC (congrArg Value.pointer h96)) ?_
          refine LE.p (v := (Value.pointer (some a95))) (Wn.no rfl) rfl (R.fld (off := 0) fa86_0 rfl) ?_
          obtain ⟨h97, h98, h⟩ := h
          refine LE.p (v := (Value.pointer (some (a95.add (r87.toNat * 1))))) (Wn.no rfl) rfl (R.idxArr ar84 rfl rfl h97 h98) ?_
          obtain ⟨t99, h100, h⟩ := h
          refine LE.r (v := (Value.pointer t99)) (Wn.no rfl) rfl (R.ld sc83 rfl h100) ?_
          refine LE.c (Wn.no rfl) rfl (R.call bd51 (Ls.cons rfl Ls.nil) rfl) (Calls.mono h ?_)
          rintro _ w102 ⟨r101, rfl, h⟩
          refine ⟨_, rfl, ?_⟩
          refine LE.p (v := (Value.bool (!r101))) (Wn.no rfl) rfl (R.not rfl) ?_
          refine LE.nil ?_
          refine WE.condT rfl (b := (!r101)) rfl ?_ ?_
          · intro hb103
            replace h := M.ite_t h hb103
            refine WE.exit ?_
            exact h
          · intro hb103
            replace h := M.ite_f h hb103
            refine WE.skip ?_
            refine WE.reg ?_
            refine LE.p (v := (SV.v x15)) (Wn.no rfl) rfl (R.move f82) ?_
            refine LE.p (v := (Value.int .i64 x72)) (Wn.no rfl) rfl (R.move f83) ?_
            obtain ⟨a104, h105, h106, h107, h⟩ := h
            refine LE.p (v := (Value.pointer (some (a104.add (x72.toNat * 1))))) (Wn.no rfl) rfl (R.idx (s := x15) sl93 rfl rfl h105 h106 h107) ?_
            obtain ⟨t108, h109, h⟩ := h
            refine LE.r (v := (Value.pointer t108)) (Wn.no rfl) rfl (R.ld sc83 rfl h109) ?_
            refine LE.p (v := (Value.int .i64 r87)) (Wn.no rfl) rfl (R.move rfl) ?_
            obtain ⟨a110, h111, h⟩ := h
            refine LE.p (v := (Value.pointer (some a110))) (Wn.no rfl) rfl (R.nilC (congrArg Value.pointer h111)) ?_
            refine LE.p (v := (Value.pointer (some a110))) (Wn.no rfl) rfl (R.fld (off := 0) fa86_0 rfl) ?_
            obtain ⟨h112, h113, h⟩ := h
            refine LE.p (v := (Value.pointer (some (a110.add (r87.toNat * 1))))) (Wn.no rfl) rfl (R.idxArr ar84 rfl rfl h112 h113) ?_
            obtain ⟨w114, hww114, h115, h116, h⟩ := M.st_use h
            refine LE.s (Wn.no rfl) rfl (R.st (a := (a110.add (r87.toNat * 1))) (v := (Value.pointer (none : Option Addr))) sz83 rfl rfl rfl rfl h115 h116 hww114) ?_
            refine LE.nil ?_
            refine WE.reg ?_
            refine LE.p (v := (Value.int .i64 x72)) (Wn.no rfl) rfl (R.move f83) ?_
            refine LE.p (v := (Value.int .i64 (IntKind.i64.wrap (x72 - (1 : Int))))) (Wn.no rfl) rfl (R.sub rfl rfl) ?_
            refine LE.p (v := (Value.int .i64 (IntKind.i64.wrap (x72 - (1 : Int))))) (Wn.no rfl) rfl (R.assign rfl) ?_
            refine LE.nil ?_
            obtain ⟨m79, hm80, h⟩ := h
            exact ⟨m79, hm80, _, h, f81, f82, rfl⟩
        · intro hb84
          replace h := M.ite_f h hb84
          refine WE.exit ?_
          exact h
      · rintro e117 w118 h
        subst hJ71
        refine WE.seq ?_
        refine WE.reg ?_
        refine LE.p (v := (Value.bool true)) (Wn.no rfl) rfl (R.assign rfl) ?_
        refine LE.nil ?_
        refine WE.ret ?_
        exact ⟨_, (Res.tmp rfl Res.nil), _, rfl, h⟩
/-- The formula of signpost.igp.Same. -/
def F29 (p0_0 : Int) (p0_1 : Int) (p0_2 : Bool) (p0_3 : Int) (p0_4 : Int) (p0_5 : Nat) (p1_0 : Int) (p1_1 : Int) (p1_2 : Bool) (p1_3 : Int) (p1_4 : Int) (p1_5 : Nat) (K : Bool → World → Prop) (w0 : World) : Prop :=
M.new (.cells #[(Value.int .u32 p0_0), (Value.int .i64 p0_1), (Value.bool p0_2), (Value.int .i64 p0_3), (Value.int .u32 p0_4), (Value.float .f64 p0_5)] 33) w0 fun b2 w1 =>
M.new (.cells #[(Value.int .u32 p1_0), (Value.int .i64 p1_1), (Value.bool p1_2), (Value.int .i64 p1_3), (Value.int .u32 p1_4), (Value.float .f64 p1_5)] 33) w1 fun b4 w3 =>
M.join (fun (x6 : Bool) (w38 : World) => 
K x6 w38) fun J5 => 
M.ld (Value.int .u32) b2 w3 fun t7 =>
M.ld (Value.int .i64) (b2.add 1) w3 fun t9 =>
M.ld (Value.int .u32) b4 w3 fun t11 =>
M.ld (Value.int .i64) (b4.add 1) w3 fun t13 =>
M.ite ((t7 == t11) && (t9 == t13)) (
M.ld Value.bool (b2.add 2) w3 fun t16 =>
M.ld Value.bool (b4.add 2) w3 fun t18 =>
M.ite (t16 == t18) (
M.ld (Value.int .i64) (b2.add 3) w3 fun t21 =>
M.ld (Value.int .i64) (b4.add 3) w3 fun t23 =>
M.ite (t21 == t23) (
M.ld (Value.int .u32) (b2.add 4) w3 fun t26 =>
M.ld (Value.int .u32) (b4.add 4) w3 fun t28 =>
M.ite (t26 == t28) (
M.ld (Value.float .f64) (b2.add 5) w3 fun t31 =>
M.ld (Value.float .f64) (b4.add 5) w3 fun t33 =>
Calls Try.prog 52 #[(Value.float .f64 t31), (Value.float .f64 t33)] w3 (R52 fun r35 w36 =>
J5 r35 w36)) (
J5 false w3)) (
J5 false w3)) (
J5 false w3)) (
J5 false w3)
theorem F29_ok {w0 : World} {p0_0 : Int} {p0_1 : Int} {p0_2 : Bool} {p0_3 : Int} {p0_4 : Int} {p0_5 : Nat} {p1_0 : Int} {p1_1 : Int} {p1_2 : Bool} {p1_3 : Int} {p1_4 : Int} {p1_5 : Nat} {K : Bool → World → Prop} (h : F29 p0_0 p0_1 p0_2 p0_3 p0_4 p0_5 p1_0 p1_1 p1_2 p1_3 p1_4 p1_5 K w0) : Calls Try.prog 29 #[(Value.agg #[(Value.int .u32 p0_0), (Value.int .i64 p0_1), (Value.bool p0_2), (Value.int .i64 p0_3), (Value.int .u32 p0_4), (Value.float .f64 p0_5)]), (Value.agg #[(Value.int .u32 p1_0), (Value.int .i64 p1_1), (Value.bool p1_2), (Value.int .i64 p1_3), (Value.int .u32 p1_4), (Value.float .f64 p1_5)])] w0 (R29 K) := by
  refine calls_of_WE (args := [(Value.agg #[(Value.int .u32 p0_0), (Value.int .i64 p0_1), (Value.bool p0_2), (Value.int .i64 p0_3), (Value.int .u32 p0_4), (Value.float .f64 p0_5)]), (Value.agg #[(Value.int .u32 p1_0), (Value.int .i64 p1_1), (Value.bool p1_2), (Value.int .i64 p1_3), (Value.int .u32 p1_4), (Value.float .f64 p1_5)])]) (rs := [.tmp 4]) Try.func29 rfl (N := 38) rfl rfl rfl rfl ?_
  refine WE.seq ?_
  refine WE.reg ?_
  obtain ⟨b2, hpb2, w1, hww1, h⟩ := M.new_use h
  refine LE.r (v := (Value.pointer (some b2))) (Wn.no rfl) rfl (R.box (cs := #[(Value.int .u32 p0_0), (Value.int .i64 p0_1), (Value.bool p0_2), (Value.int .i64 p0_3), (Value.int .u32 p0_4), (Value.float .f64 p0_5)]) rfl rfl hpb2 hww1) ?_
  obtain ⟨b4, hpb4, w3, hww3, h⟩ := M.new_use h
  refine LE.r (v := (Value.pointer (some b4))) (Wn.no rfl) rfl (R.box (cs := #[(Value.int .u32 p1_0), (Value.int .i64 p1_1), (Value.bool p1_2), (Value.int .i64 p1_3), (Value.int .u32 p1_4), (Value.float .f64 p1_5)]) rfl rfl hpb4 hww3) ?_
  refine LE.p (v := (Value.bool false)) (Wn.no rfl) rfl (R.assign rfl) ?_
  refine LE.nil ?_
  refine WE.seq ?_
  obtain ⟨J5, hJ5, h⟩ := M.join_use h
  refine WE.regJ (fun e w => ∃ (x6 : Bool), J5 x6 w ∧ e 4 = (Value.bool x6)) ?_ ?_
  · clear hJ5
    refine LE.p (v := (Value.pointer (some b2))) (Wn.no rfl) rfl (R.fld (off := 0) fa33_0 rfl) ?_
    obtain ⟨t7, h8, h⟩ := h
    obtain ⟨t9, h10, h⟩ := h
    refine LE.r (v := (Value.agg #[(Value.int .u32 t7), (Value.int .i64 t9)])) (Wn.no rfl) rfl (R.ldA ag30 sz30 rfl rfl (Cs.cons h8 (Cs.cons h10 Cs.nil))) ?_
    refine LE.p (v := (Value.pointer (some b4))) (Wn.no rfl) rfl (R.fld (off := 0) fa33_0 rfl) ?_
    obtain ⟨t11, h12, h⟩ := h
    obtain ⟨t13, h14, h⟩ := h
    refine LE.r (v := (Value.agg #[(Value.int .u32 t11), (Value.int .i64 t13)])) (Wn.no rfl) rfl (R.ldA ag30 sz30 rfl rfl (Cs.cons h12 (Cs.cons h14 Cs.nil))) ?_
    refine LE.p (v := (Value.bool ((t7 == t11) && (t9 == t13)))) (Wn.no rfl) rfl (R.eqS (fun w => eq30 t7 t11 t9 t13 w) sg30 rfl rfl) ?_
    refine LE.p (v := (Value.bool ((t7 == t11) && (t9 == t13)))) (Wn.no rfl) rfl (R.move rfl) ?_
    rcases M.ite_use h with ⟨hb15, h⟩ | ⟨hb15, h⟩
    · refine LE.p (v := (Value.pointer (some (b2.add 2)))) (Wn.yes 5 10 true rfl rfl rfl (congrArg Value.bool hb15)) rfl (R.fld (off := 2) fa33_1 rfl) ?_
      obtain ⟨t16, h17, h⟩ := h
      refine LE.r (v := (Value.bool t16)) (Wn.yes 5 10 true rfl rfl rfl (congrArg Value.bool hb15)) rfl (R.ld sc4 rfl h17) ?_
      refine LE.p (v := (Value.pointer (some (b4.add 2)))) (Wn.yes 5 10 true rfl rfl rfl (congrArg Value.bool hb15)) rfl (R.fld (off := 2) fa33_1 rfl) ?_
      obtain ⟨t18, h19, h⟩ := h
      refine LE.r (v := (Value.bool t18)) (Wn.yes 5 10 true rfl rfl rfl (congrArg Value.bool hb15)) rfl (R.ld sc4 rfl h19) ?_
      refine LE.p (v := (Value.bool (t16 == t18))) (Wn.yes 5 10 true rfl rfl rfl (congrArg Value.bool hb15)) rfl (R.beql bo4 rfl rfl) ?_
      refine LE.p (v := (Value.bool (t16 == t18))) (Wn.no rfl) rfl (R.pickT (congrArg Value.bool hb15) rfl) ?_
      refine LE.p (v := (Value.bool (t16 == t18))) (Wn.no rfl) rfl (R.move rfl) ?_
      rcases M.ite_use h with ⟨hb20, h⟩ | ⟨hb20, h⟩
      · refine LE.p (v := (Value.pointer (some (b2.add 3)))) (Wn.yes 12 17 true rfl rfl rfl (congrArg Value.bool hb20)) rfl (R.fld (off := 3) fa33_2 rfl) ?_
        obtain ⟨t21, h22, h⟩ := h
        refine LE.r (v := (Value.int .i64 t21)) (Wn.yes 12 17 true rfl rfl rfl (congrArg Value.bool hb20)) rfl (R.ld sc3 rfl h22) ?_
        refine LE.p (v := (Value.pointer (some (b4.add 3)))) (Wn.yes 12 17 true rfl rfl rfl (congrArg Value.bool hb20)) rfl (R.fld (off := 3) fa33_2 rfl) ?_
        obtain ⟨t23, h24, h⟩ := h
        refine LE.r (v := (Value.int .i64 t23)) (Wn.yes 12 17 true rfl rfl rfl (congrArg Value.bool hb20)) rfl (R.ld sc3 rfl h24) ?_
        refine LE.p (v := (Value.bool (t21 == t23))) (Wn.yes 12 17 true rfl rfl rfl (congrArg Value.bool hb20)) rfl (R.eql rfl rfl) ?_
        refine LE.p (v := (Value.bool (t21 == t23))) (Wn.no rfl) rfl (R.pickT (congrArg Value.bool hb20) rfl) ?_
        refine LE.p (v := (Value.bool (t21 == t23))) (Wn.no rfl) rfl (R.move rfl) ?_
        rcases M.ite_use h with ⟨hb25, h⟩ | ⟨hb25, h⟩
        · refine LE.p (v := (Value.pointer (some (b2.add 4)))) (Wn.yes 19 24 true rfl rfl rfl (congrArg Value.bool hb25)) rfl (R.fld (off := 4) fa33_3 rfl) ?_
          obtain ⟨t26, h27, h⟩ := h
          refine LE.r (v := (Value.int .u32 t26)) (Wn.yes 19 24 true rfl rfl rfl (congrArg Value.bool hb25)) rfl (R.ld sc23 rfl h27) ?_
          refine LE.p (v := (Value.pointer (some (b4.add 4)))) (Wn.yes 19 24 true rfl rfl rfl (congrArg Value.bool hb25)) rfl (R.fld (off := 4) fa33_3 rfl) ?_
          obtain ⟨t28, h29, h⟩ := h
          refine LE.r (v := (Value.int .u32 t28)) (Wn.yes 19 24 true rfl rfl rfl (congrArg Value.bool hb25)) rfl (R.ld sc23 rfl h29) ?_
          refine LE.p (v := (Value.bool (t26 == t28))) (Wn.yes 19 24 true rfl rfl rfl (congrArg Value.bool hb25)) rfl (R.eql rfl rfl) ?_
          refine LE.p (v := (Value.bool (t26 == t28))) (Wn.no rfl) rfl (R.pickT (congrArg Value.bool hb25) rfl) ?_
          refine LE.p (v := (Value.bool (t26 == t28))) (Wn.no rfl) rfl (R.move rfl) ?_
          rcases M.ite_use h with ⟨hb30, h⟩ | ⟨hb30, h⟩
          · refine LE.p (v := (Value.pointer (some (b2.add 5)))) (Wn.yes 26 31 true rfl rfl rfl (congrArg Value.bool hb30)) rfl (R.fld (off := 5) fa33_4 rfl) ?_
            obtain ⟨t31, h32, h⟩ := h
            refine LE.r (v := (Value.float .f64 t31)) (Wn.yes 26 31 true rfl rfl rfl (congrArg Value.bool hb30)) rfl (R.ld sc31 rfl h32) ?_
            refine LE.p (v := (Value.pointer (some (b4.add 5)))) (Wn.yes 26 31 true rfl rfl rfl (congrArg Value.bool hb30)) rfl (R.fld (off := 5) fa33_4 rfl) ?_
            obtain ⟨t33, h34, h⟩ := h
            refine LE.r (v := (Value.float .f64 t33)) (Wn.yes 26 31 true rfl rfl rfl (congrArg Value.bool hb30)) rfl (R.ld sc31 rfl h34) ?_
            refine LE.c (Wn.yes 26 31 true rfl rfl rfl (congrArg Value.bool hb30)) rfl (R.call bd52 (Ls.cons rfl (Ls.cons rfl Ls.nil)) rfl) (Calls.mono h ?_)
            rintro _ w36 ⟨r35, rfl, h⟩
            refine ⟨_, rfl, ?_⟩
            refine LE.p (v := (Value.bool r35)) (Wn.no rfl) rfl (R.pickT (congrArg Value.bool hb30) rfl) ?_
            refine LE.p (v := (Value.bool r35)) (Wn.no rfl) rfl (R.assign rfl) ?_
            refine LE.nil ?_
            exact ⟨_, h, rfl⟩
          · refine LE.u (Un.no 26 31 true rfl rfl rfl (congrArg Value.bool hb30)) ?_
            refine LE.u (Un.no 26 31 true rfl rfl rfl (congrArg Value.bool hb30)) ?_
            refine LE.u (Un.no 26 31 true rfl rfl rfl (congrArg Value.bool hb30)) ?_
            refine LE.u (Un.no 26 31 true rfl rfl rfl (congrArg Value.bool hb30)) ?_
            refine LE.u (Un.no 26 31 true rfl rfl rfl (congrArg Value.bool hb30)) ?_
            refine LE.p (v := (Value.bool false)) (Wn.no rfl) rfl (R.pickF (congrArg Value.bool hb30) rfl) ?_
            refine LE.p (v := (Value.bool false)) (Wn.no rfl) rfl (R.assign rfl) ?_
            refine LE.nil ?_
            exact ⟨_, h, rfl⟩
        · refine LE.u (Un.no 19 24 true rfl rfl rfl (congrArg Value.bool hb25)) ?_
          refine LE.u (Un.no 19 24 true rfl rfl rfl (congrArg Value.bool hb25)) ?_
          refine LE.u (Un.no 19 24 true rfl rfl rfl (congrArg Value.bool hb25)) ?_
          refine LE.u (Un.no 19 24 true rfl rfl rfl (congrArg Value.bool hb25)) ?_
          refine LE.u (Un.no 19 24 true rfl rfl rfl (congrArg Value.bool hb25)) ?_
          refine LE.p (v := (Value.bool false)) (Wn.no rfl) rfl (R.pickF (congrArg Value.bool hb25) rfl) ?_
          refine LE.p (v := (Value.bool false)) (Wn.no rfl) rfl (R.move rfl) ?_
          refine LE.u (Un.no 26 31 true rfl rfl rfl rfl) ?_
          refine LE.u (Un.no 26 31 true rfl rfl rfl rfl) ?_
          refine LE.u (Un.no 26 31 true rfl rfl rfl rfl) ?_
          refine LE.u (Un.no 26 31 true rfl rfl rfl rfl) ?_
          refine LE.u (Un.no 26 31 true rfl rfl rfl rfl) ?_
          refine LE.p (v := (Value.bool false)) (Wn.no rfl) rfl (R.pickF rfl rfl) ?_
          refine LE.p (v := (Value.bool false)) (Wn.no rfl) rfl (R.assign rfl) ?_
          refine LE.nil ?_
          exact ⟨_, h, rfl⟩
      · refine LE.u (Un.no 12 17 true rfl rfl rfl (congrArg Value.bool hb20)) ?_
        refine LE.u (Un.no 12 17 true rfl rfl rfl (congrArg Value.bool hb20)) ?_
        refine LE.u (Un.no 12 17 true rfl rfl rfl (congrArg Value.bool hb20)) ?_
        refine LE.u (Un.no 12 17 true rfl rfl rfl (congrArg Value.bool hb20)) ?_
        refine LE.u (Un.no 12 17 true rfl rfl rfl (congrArg Value.bool hb20)) ?_
        refine LE.p (v := (Value.bool false)) (Wn.no rfl) rfl (R.pickF (congrArg Value.bool hb20) rfl) ?_
        refine LE.p (v := (Value.bool false)) (Wn.no rfl) rfl (R.move rfl) ?_
        refine LE.u (Un.no 19 24 true rfl rfl rfl rfl) ?_
        refine LE.u (Un.no 19 24 true rfl rfl rfl rfl) ?_
        refine LE.u (Un.no 19 24 true rfl rfl rfl rfl) ?_
        refine LE.u (Un.no 19 24 true rfl rfl rfl rfl) ?_
        refine LE.u (Un.no 19 24 true rfl rfl rfl rfl) ?_
        refine LE.p (v := (Value.bool false)) (Wn.no rfl) rfl (R.pickF rfl rfl) ?_
        refine LE.p (v := (Value.bool false)) (Wn.no rfl) rfl (R.move rfl) ?_
        refine LE.u (Un.no 26 31 true rfl rfl rfl rfl) ?_
        refine LE.u (Un.no 26 31 true rfl rfl rfl rfl) ?_
        refine LE.u (Un.no 26 31 true rfl rfl rfl rfl) ?_
        refine LE.u (Un.no 26 31 true rfl rfl rfl rfl) ?_
        refine LE.u (Un.no 26 31 true rfl rfl rfl rfl) ?_
        refine LE.p (v := (Value.bool false)) (Wn.no rfl) rfl (R.pickF rfl rfl) ?_
        refine LE.p (v := (Value.bool false)) (Wn.no rfl) rfl (R.assign rfl) ?_
        refine LE.nil ?_
        exact ⟨_, h, rfl⟩
    · refine LE.u (Un.no 5 10 true rfl rfl rfl (congrArg Value.bool hb15)) ?_
      refine LE.u (Un.no 5 10 true rfl rfl rfl (congrArg Value.bool hb15)) ?_
      refine LE.u (Un.no 5 10 true rfl rfl rfl (congrArg Value.bool hb15)) ?_
      refine LE.u (Un.no 5 10 true rfl rfl rfl (congrArg Value.bool hb15)) ?_
      refine LE.u (Un.no 5 10 true rfl rfl rfl (congrArg Value.bool hb15)) ?_
      refine LE.p (v := (Value.bool false)) (Wn.no rfl) rfl (R.pickF (congrArg Value.bool hb15) rfl) ?_
      refine LE.p (v := (Value.bool false)) (Wn.no rfl) rfl (R.move rfl) ?_
      refine LE.u (Un.no 12 17 true rfl rfl rfl rfl) ?_
      refine LE.u (Un.no 12 17 true rfl rfl rfl rfl) ?_
      refine LE.u (Un.no 12 17 true rfl rfl rfl rfl) ?_
      refine LE.u (Un.no 12 17 true rfl rfl rfl rfl) ?_
      refine LE.u (Un.no 12 17 true rfl rfl rfl rfl) ?_
      refine LE.p (v := (Value.bool false)) (Wn.no rfl) rfl (R.pickF rfl rfl) ?_
      refine LE.p (v := (Value.bool false)) (Wn.no rfl) rfl (R.move rfl) ?_
      refine LE.u (Un.no 19 24 true rfl rfl rfl rfl) ?_
      refine LE.u (Un.no 19 24 true rfl rfl rfl rfl) ?_
      refine LE.u (Un.no 19 24 true rfl rfl rfl rfl) ?_
      refine LE.u (Un.no 19 24 true rfl rfl rfl rfl) ?_
      refine LE.u (Un.no 19 24 true rfl rfl rfl rfl) ?_
      refine LE.p (v := (Value.bool false)) (Wn.no rfl) rfl (R.pickF rfl rfl) ?_
      refine LE.p (v := (Value.bool false)) (Wn.no rfl) rfl (R.move rfl) ?_
      refine LE.u (Un.no 26 31 true rfl rfl rfl rfl) ?_
      refine LE.u (Un.no 26 31 true rfl rfl rfl rfl) ?_
      refine LE.u (Un.no 26 31 true rfl rfl rfl rfl) ?_
      refine LE.u (Un.no 26 31 true rfl rfl rfl rfl) ?_
      refine LE.u (Un.no 26 31 true rfl rfl rfl rfl) ?_
      refine LE.p (v := (Value.bool false)) (Wn.no rfl) rfl (R.pickF rfl rfl) ?_
      refine LE.p (v := (Value.bool false)) (Wn.no rfl) rfl (R.assign rfl) ?_
      refine LE.nil ?_
      exact ⟨_, h, rfl⟩
  · rintro e37 w38 ⟨x6, h, f39⟩
    subst hJ5
    refine WE.ret ?_
    exact ⟨_, (Res.tmp f39 Res.nil), _, rfl, h⟩
/-- The formula of signpost.signpostref1.Of. -/
def F30 (p0 : Int) (p1 : Int) (K : Int → Int → World → Prop) (w0 : World) : Prop :=
M.new (.cells #[(Value.int .u32 (0 : Int)), (Value.int .i64 (0 : Int))] 30) w0 fun b2 w1 =>
M.join (fun (x4 : Int) (w7 : World) => 
M.join (fun (x12 : Int) (w15 : World) => 
Calls Try.prog 36 #[(Value.int .i64 x12)] w15 (R36 fun r19 w20 =>
M.stA b2 [(Value.int .u32 (bAnd .u32 p0 r19)), (Value.int .i64 x12)] w20 fun w21 =>
M.ld (Value.int .u32) b2 w21 fun t23 =>
M.ld (Value.int .i64) (b2.add 1) w21 fun t25 =>
K t23 t25 w21)) fun J11 => 
M.ite (decide ((32 : Int) < x4)) (
J11 (32 : Int) w7) (
J11 x4 w7)) fun J3 => 
M.ite (decide (p1 < (0 : Int))) (
J3 (0 : Int) w1) (
J3 p1 w1)
theorem F30_ok {w0 : World} {p0 : Int} {p1 : Int} {K : Int → Int → World → Prop} (h : F30 p0 p1 K w0) : Calls Try.prog 30 #[(Value.int .u32 p0), (Value.int .i64 p1)] w0 (R30 K) := by
  refine calls_of_WE (args := [(Value.int .u32 p0), (Value.int .i64 p1)]) (rs := [.cell 4 30]) Try.func30 rfl (N := 15) rfl rfl rfl rfl ?_
  refine WE.seq ?_
  refine WE.reg ?_
  obtain ⟨b2, hpb2, w1, hww1, h⟩ := M.new_use h
  refine LE.r (v := (Value.pointer (some b2))) (Wn.no rfl) rfl (R.alloc (cs := #[(Value.int .u32 (0 : Int)), (Value.int .i64 (0 : Int))]) ze30 rfl hpb2 hww1) ?_
  refine LE.nil ?_
  obtain ⟨J3, hJ3, h⟩ := M.join_use h
  refine WE.join (fun e w => ∃ (x4 : Int), J3 x4 w ∧ e 0 = (Value.int .u32 p0) ∧ e 1 = (Value.int .i64 x4) ∧ e 4 = (Value.pointer (some b2))) ?_ ?_
  · clear hJ3
    refine WE.seq ?_
    refine WE.reg ?_
    refine LE.p (v := (Value.int .i64 p1)) (Wn.no rfl) rfl (R.move rfl) ?_
    refine LE.p (v := (Value.bool (decide (p1 < (0 : Int))))) (Wn.no rfl) rfl (R.lss rfl rfl) ?_
    refine LE.nil ?_
    refine WE.condT rfl (b := (decide (p1 < (0 : Int)))) rfl ?_ ?_
    · intro hb5
      replace h := M.ite_t h hb5
      refine WE.reg ?_
      refine LE.p (v := (Value.int .i64 (0 : Int))) (Wn.no rfl) rfl (R.assign rfl) ?_
      refine LE.nil ?_
      exact ⟨_, h, rfl, rfl, rfl⟩
    · intro hb5
      replace h := M.ite_f h hb5
      refine WE.skip ?_
      exact ⟨_, h, rfl, rfl, rfl⟩
  · rintro e6 w7 ⟨x4, h, f8, f9, f10⟩
    subst hJ3
    obtain ⟨J11, hJ11, h⟩ := M.join_use h
    refine WE.join (fun e w => ∃ (x12 : Int), J11 x12 w ∧ e 0 = (Value.int .u32 p0) ∧ e 1 = (Value.int .i64 x12) ∧ e 4 = (Value.pointer (some b2))) ?_ ?_
    · clear hJ11
      refine WE.seq ?_
      refine WE.reg ?_
      refine LE.p (v := (Value.int .i64 x4)) (Wn.no rfl) rfl (R.move f9) ?_
      refine LE.p (v := (Value.bool (decide ((32 : Int) < x4)))) (Wn.no rfl) rfl (R.gtr rfl rfl) ?_
      refine LE.nil ?_
      refine WE.condT rfl (b := (decide ((32 : Int) < x4))) rfl ?_ ?_
      · intro hb13
        replace h := M.ite_t h hb13
        refine WE.reg ?_
        refine LE.p (v := (Value.int .i64 (32 : Int))) (Wn.no rfl) rfl (R.assign rfl) ?_
        refine LE.nil ?_
        exact ⟨_, h, f8, rfl, f10⟩
      · intro hb13
        replace h := M.ite_f h hb13
        refine WE.skip ?_
        exact ⟨_, h, f8, f9, f10⟩
    · rintro e14 w15 ⟨x12, h, f16, f17, f18⟩
      subst hJ11
      refine WE.seq ?_
      refine WE.reg ?_
      refine LE.p (v := (Value.int .u32 p0)) (Wn.no rfl) rfl (R.move f16) ?_
      refine LE.p (v := (Value.int .i64 x12)) (Wn.no rfl) rfl (R.move f17) ?_
      refine LE.c (Wn.no rfl) rfl (R.call bd36 (Ls.cons rfl Ls.nil) rfl) (Calls.mono h ?_)
      rintro _ w20 ⟨r19, rfl, h⟩
      refine ⟨_, rfl, ?_⟩
      refine LE.p (v := (Value.int .u32 (bAnd .u32 p0 r19))) (Wn.no rfl) rfl (R.and rfl rfl) ?_
      refine LE.p (v := (Value.int .i64 x12)) (Wn.no rfl) rfl (R.move f17) ?_
      refine LE.p (v := (Value.agg #[(Value.int .u32 (bAnd .u32 p0 r19)), (Value.int .i64 x12)])) (Wn.no rfl) rfl (R.bld (by exact (Ls.cons (R.Pr rfl) (Ls.cons (R.Pr rfl) Ls.nil))) (fun w => bu30_0_1 (bAnd .u32 p0 r19) x12 w)) ?_
      obtain ⟨w21, hww21, h22, h⟩ := M.stA_use h
      refine LE.s (Wn.no rfl) rfl (R.stA (a := b2) [(Value.int .u32 (bAnd .u32 p0 r19)), (Value.int .i64 x12)] sz30 f18 rfl rfl (by simp [Value.oneCell']) h22 hww21) ?_
      refine LE.nil ?_
      refine WE.ret ?_
      obtain ⟨t23, h24, h⟩ := h
      obtain ⟨t25, h26, h⟩ := h
      exact ⟨_, (Res.cell f18 (R.ldCellA ag30 sz30 rfl (Cs.cons h24 (Cs.cons h26 Cs.nil))) Res.nil), _, _, rfl, h⟩
/-- The formula of signpost.signpostbook.Within. -/
def F31 (p0 : Int) (p1 : Int) (p2 : Int) (K : Int → World → Prop) (w0 : World) : Prop :=
M.nz (IntKind.i64.wrap ((IntKind.i64.wrap (p2 - p1)) + (1 : Int))) <|
M.join (fun (x3 : Int) (w6 : World) => 
K (IntKind.i64.wrap (p1 + x3)) w6) fun J2 => 
M.ite (decide ((Int.tmod p0 (IntKind.i64.wrap ((IntKind.i64.wrap (p2 - p1)) + (1 : Int)))) < (0 : Int))) (
J2 (IntKind.i64.wrap ((IntKind.i64.wrap ((IntKind.i64.wrap ((Int.tmod p0 (IntKind.i64.wrap ((IntKind.i64.wrap (p2 - p1)) + (1 : Int)))) + p2)) - p1)) + (1 : Int))) w0) (
J2 (Int.tmod p0 (IntKind.i64.wrap ((IntKind.i64.wrap (p2 - p1)) + (1 : Int)))) w0)
theorem F31_ok {w0 : World} {p0 : Int} {p1 : Int} {p2 : Int} {K : Int → World → Prop} (h : F31 p0 p1 p2 K w0) : Calls Try.prog 31 #[(Value.int .i64 p0), (Value.int .i64 p1), (Value.int .i64 p2)] w0 (R31 K) := by
  refine calls_of_WE (args := [(Value.int .i64 p0), (Value.int .i64 p1), (Value.int .i64 p2)]) (rs := [.tmp 6]) Try.func31 rfl (N := 24) rfl rfl rfl rfl ?_
  refine WE.seq ?_
  refine WE.reg ?_
  refine LE.p (v := (Value.int .i64 (0 : Int))) (Wn.no rfl) rfl (R.assign rfl) ?_
  refine LE.nil ?_
  refine WE.seq ?_
  refine WE.reg ?_
  refine LE.p (v := (Value.int .i64 p0)) (Wn.no rfl) rfl (R.move rfl) ?_
  refine LE.p (v := (Value.int .i64 p2)) (Wn.no rfl) rfl (R.move rfl) ?_
  refine LE.p (v := (Value.int .i64 p1)) (Wn.no rfl) rfl (R.move rfl) ?_
  refine LE.p (v := (Value.int .i64 (IntKind.i64.wrap (p2 - p1)))) (Wn.no rfl) rfl (R.sub rfl rfl) ?_
  refine LE.p (v := (Value.int .i64 (IntKind.i64.wrap ((IntKind.i64.wrap (p2 - p1)) + (1 : Int))))) (Wn.no rfl) rfl (R.add rfl rfl) ?_
  obtain ⟨h1, h⟩ := h
  refine LE.p (v := (Value.int .i64 (Int.tmod p0 (IntKind.i64.wrap ((IntKind.i64.wrap (p2 - p1)) + (1 : Int)))))) (Wn.no rfl) rfl (R.rem rfl rfl h1) ?_
  refine LE.p (v := (Value.int .i64 (Int.tmod p0 (IntKind.i64.wrap ((IntKind.i64.wrap (p2 - p1)) + (1 : Int)))))) (Wn.no rfl) rfl (R.assign rfl) ?_
  refine LE.nil ?_
  obtain ⟨J2, hJ2, h⟩ := M.join_use h
  refine WE.join (fun e w => ∃ (x3 : Int), J2 x3 w ∧ e 0 = (Value.int .i64 x3) ∧ e 1 = (Value.int .i64 p1)) ?_ ?_
  · clear hJ2
    refine WE.seq ?_
    refine WE.reg ?_
    refine LE.p (v := (Value.int .i64 (Int.tmod p0 (IntKind.i64.wrap ((IntKind.i64.wrap (p2 - p1)) + (1 : Int)))))) (Wn.no rfl) rfl (R.move rfl) ?_
    refine LE.p (v := (Value.bool (decide ((Int.tmod p0 (IntKind.i64.wrap ((IntKind.i64.wrap (p2 - p1)) + (1 : Int)))) < (0 : Int))))) (Wn.no rfl) rfl (R.lss rfl rfl) ?_
    refine LE.nil ?_
    refine WE.condT rfl (b := (decide ((Int.tmod p0 (IntKind.i64.wrap ((IntKind.i64.wrap (p2 - p1)) + (1 : Int)))) < (0 : Int)))) rfl ?_ ?_
    · intro hb4
      replace h := M.ite_t h hb4
      refine WE.reg ?_
      refine LE.p (v := (Value.int .i64 (Int.tmod p0 (IntKind.i64.wrap ((IntKind.i64.wrap (p2 - p1)) + (1 : Int)))))) (Wn.no rfl) rfl (R.move rfl) ?_
      refine LE.p (v := (Value.int .i64 p2)) (Wn.no rfl) rfl (R.move rfl) ?_
      refine LE.p (v := (Value.int .i64 (IntKind.i64.wrap ((Int.tmod p0 (IntKind.i64.wrap ((IntKind.i64.wrap (p2 - p1)) + (1 : Int)))) + p2)))) (Wn.no rfl) rfl (R.add rfl rfl) ?_
      refine LE.p (v := (Value.int .i64 p1)) (Wn.no rfl) rfl (R.move rfl) ?_
      refine LE.p (v := (Value.int .i64 (IntKind.i64.wrap ((IntKind.i64.wrap ((Int.tmod p0 (IntKind.i64.wrap ((IntKind.i64.wrap (p2 - p1)) + (1 : Int)))) + p2)) - p1)))) (Wn.no rfl) rfl (R.sub rfl rfl) ?_
      refine LE.p (v := (Value.int .i64 (IntKind.i64.wrap ((IntKind.i64.wrap ((IntKind.i64.wrap ((Int.tmod p0 (IntKind.i64.wrap ((IntKind.i64.wrap (p2 - p1)) + (1 : Int)))) + p2)) - p1)) + (1 : Int))))) (Wn.no rfl) rfl (R.add rfl rfl) ?_
      refine LE.p (v := (Value.int .i64 (IntKind.i64.wrap ((IntKind.i64.wrap ((IntKind.i64.wrap ((Int.tmod p0 (IntKind.i64.wrap ((IntKind.i64.wrap (p2 - p1)) + (1 : Int)))) + p2)) - p1)) + (1 : Int))))) (Wn.no rfl) rfl (R.assign rfl) ?_
      refine LE.nil ?_
      exact ⟨_, h, rfl, rfl⟩
    · intro hb4
      replace h := M.ite_f h hb4
      refine WE.skip ?_
      exact ⟨_, h, rfl, rfl⟩
  · rintro e5 w6 ⟨x3, h, f7, f8⟩
    subst hJ2
    refine WE.seq ?_
    refine WE.reg ?_
    refine LE.p (v := (Value.int .i64 p1)) (Wn.no rfl) rfl (R.move f8) ?_
    refine LE.p (v := (Value.int .i64 x3)) (Wn.no rfl) rfl (R.move f7) ?_
    refine LE.p (v := (Value.int .i64 (IntKind.i64.wrap (p1 + x3)))) (Wn.no rfl) rfl (R.add rfl rfl) ?_
    refine LE.p (v := (Value.int .i64 (IntKind.i64.wrap (p1 + x3)))) (Wn.no rfl) rfl (R.assign rfl) ?_
    refine LE.nil ?_
    refine WE.ret ?_
    exact ⟨_, (Res.tmp rfl Res.nil), _, rfl, h⟩
/-- The formula of signpost.signpostkeep.Next. -/
def F32 (p0 : Int) (K : Int → World → Prop) (w0 : World) : Prop :=
K (bOr .u32 (3221225984 : Int) (Int.tmod p0 (6 : Int))) w0
theorem F32_ok {w0 : World} {p0 : Int} {K : Int → World → Prop} (h : F32 p0 K w0) : Calls Try.prog 32 #[(Value.int .u32 p0)] w0 (R32 K) := by
  refine calls_of_WE (args := [(Value.int .u32 p0)]) (rs := [.tmp 2]) Try.func32 rfl (N := 6) rfl rfl rfl rfl ?_
  refine WE.seq ?_
  refine WE.reg ?_
  refine LE.p (v := (Value.int .u32 (0 : Int))) (Wn.no rfl) rfl (R.assign rfl) ?_
  refine LE.nil ?_
  refine WE.seq ?_
  refine WE.reg ?_
  refine LE.p (v := (Value.int .u32 p0)) (Wn.no rfl) rfl (R.move rfl) ?_
  refine LE.p (v := (Value.int .u32 (Int.tmod p0 (6 : Int)))) (Wn.no rfl) rfl (R.rem rfl rfl (by decide)) ?_
  refine LE.p (v := (Value.int .u32 (bOr .u32 (3221225984 : Int) (Int.tmod p0 (6 : Int))))) (Wn.no rfl) rfl (R.or rfl rfl) ?_
  refine LE.p (v := (Value.int .u32 (bOr .u32 (3221225984 : Int) (Int.tmod p0 (6 : Int))))) (Wn.no rfl) rfl (R.assign rfl) ?_
  refine LE.nil ?_
  refine WE.ret ?_
  exact ⟨_, (Res.tmp rfl Res.nil), _, rfl, h⟩
/-- The formula of (*signpost.trie.Trie).Match. -/
def F33 (p0 : Option Addr) (p1 : Int) (K : Int → Int → Int → Bool → World → Prop) (w0 : World) : Prop :=
M.new (.cells #[(Value.int .u32 (0 : Int)), (Value.int .i64 (0 : Int))] 30) w0 fun b2 w1 =>
Calls Try.prog 53 #[(Value.pointer p0), (Value.int .u32 p1), (Value.int .i64 (32 : Int))] w1 (R53 fun r3 w4 =>
M.ite ((r3.len : Int) == (0 : Int)) (
M.stA b2 [(Value.int .u32 (0 : Int)), (Value.int .i64 (0 : Int))] w4 fun w6 =>
M.ld (Value.int .u32) b2 w6 fun t8 =>
M.ld (Value.int .i64) (b2.add 1) w6 fun t10 =>
K t8 t10 (0 : Int) false w6) (
M.idx r3 (IntKind.i64.wrap ((r3.len : Int) - (1 : Int))) 2 fun a12 =>
M.ld (Value.int .u32) (a12.add ((IntKind.i64.wrap ((r3.len : Int) - (1 : Int))).toNat * 2)) w4 fun t16 =>
M.ld (Value.int .i64) ((a12.add ((IntKind.i64.wrap ((r3.len : Int) - (1 : Int))).toNat * 2)).add 1) w4 fun t18 =>
M.new (.cells #[(Value.int .u32 (0 : Int)), (Value.int .i64 (0 : Int))] 30) w4 fun b21 w20 =>
M.stA b21 [(Value.int .u32 t16), (Value.int .i64 t18)] w20 fun w22 =>
M.ld (Value.int .u32) b21 w22 fun t24 =>
M.ld (Value.int .i64) (b21.add 1) w22 fun t26 =>
Calls Try.prog 50 #[(Value.pointer p0), (Value.agg #[(Value.int .u32 t24), (Value.int .i64 t26)])] w22 (R50 fun r28 r29 w30 =>
M.ld (Value.int .u32) b21 w30 fun t31 =>
M.ld (Value.int .i64) (b21.add 1) w30 fun t33 =>
M.stA b2 [(Value.int .u32 t31), (Value.int .i64 t33)] w30 fun w35 =>
M.ld (Value.int .u32) b2 w35 fun t37 =>
M.ld (Value.int .i64) (b2.add 1) w35 fun t39 =>
K t37 t39 r28 true w35)))
theorem F33_ok {w0 : World} {p0 : Option Addr} {p1 : Int} {K : Int → Int → Int → Bool → World → Prop} (h : F33 p0 p1 K w0) : Calls Try.prog 33 #[(Value.pointer p0), (Value.int .u32 p1)] w0 (R33 K) := by
  refine calls_of_WE (args := [(Value.pointer p0), (Value.int .u32 p1)]) (rs := [.cell 4 30, .tmp 5, .tmp 6]) Try.func33 rfl (N := 32) rfl rfl rfl rfl ?_
  refine WE.seq ?_
  refine WE.reg ?_
  obtain ⟨b2, hpb2, w1, hww1, h⟩ := M.new_use h
  refine LE.r (v := (Value.pointer (some b2))) (Wn.no rfl) rfl (R.alloc (cs := #[(Value.int .u32 (0 : Int)), (Value.int .i64 (0 : Int))]) ze30 rfl hpb2 hww1) ?_
  refine LE.p (v := (Value.int .i64 (0 : Int))) (Wn.no rfl) rfl (R.assign rfl) ?_
  refine LE.p (v := (Value.bool false)) (Wn.no rfl) rfl (R.assign rfl) ?_
  refine LE.nil ?_
  refine WE.seq ?_
  refine WE.reg ?_
  refine LE.p (v := (Value.pointer p0)) (Wn.no rfl) rfl (R.move rfl) ?_
  refine LE.p (v := (Value.int .u32 p1)) (Wn.no rfl) rfl (R.move rfl) ?_
  refine LE.c (Wn.no rfl) rfl (R.call bd53 (Ls.cons rfl (Ls.cons rfl (Ls.cons rfl Ls.nil))) rfl) (Calls.mono h ?_)
  rintro _ w4 ⟨r3, rfl, h⟩
  refine ⟨_, rfl, ?_⟩
  refine LE.p (v := (SV.v r3)) (Wn.no rfl) rfl (R.assign rfl) ?_
  refine LE.nil ?_
  refine WE.seq ?_
  refine WE.seq ?_
  refine WE.reg ?_
  refine LE.p (v := (SV.v r3)) (Wn.no rfl) rfl (R.move rfl) ?_
  refine LE.p (v := (Value.int .i64 (r3.len : Int))) (Wn.no rfl) rfl (R.len sl74 rfl) ?_
  refine LE.p (v := (Value.bool ((r3.len : Int) == (0 : Int)))) (Wn.no rfl) rfl (R.eql rfl rfl) ?_
  refine LE.nil ?_
  refine WE.condT rfl (b := ((r3.len : Int) == (0 : Int))) rfl ?_ ?_
  · intro hb5
    replace h := M.ite_t h hb5
    refine WE.seq ?_
    refine WE.reg ?_
    refine LE.p (v := (Value.agg #[(Value.int .u32 (0 : Int)), (Value.int .i64 (0 : Int))])) (Wn.no rfl) rfl (R.bld (by exact Ls.nil) (fun w => bu30_  w)) ?_
    obtain ⟨w6, hww6, h7, h⟩ := M.stA_use h
    refine LE.s (Wn.no rfl) rfl (R.stA (a := b2) [(Value.int .u32 (0 : Int)), (Value.int .i64 (0 : Int))] sz30 rfl rfl rfl (by simp [Value.oneCell']) h7 hww6) ?_
    refine LE.p (v := (Value.int .i64 (0 : Int))) (Wn.no rfl) rfl (R.assign rfl) ?_
    refine LE.p (v := (Value.bool false)) (Wn.no rfl) rfl (R.assign rfl) ?_
    refine LE.nil ?_
    refine WE.ret ?_
    obtain ⟨t8, h9, h⟩ := h
    obtain ⟨t10, h11, h⟩ := h
    exact ⟨_, (Res.cell rfl (R.ldCellA ag30 sz30 rfl (Cs.cons h9 (Cs.cons h11 Cs.nil))) (Res.tmp rfl (Res.tmp rfl Res.nil))), _, _, _, _, rfl, h⟩
  · intro hb5
    replace h := M.ite_f h hb5
    refine WE.skip ?_
    refine WE.seq ?_
    refine WE.reg ?_
    refine LE.p (v := (SV.v r3)) (Wn.no rfl) rfl (R.move rfl) ?_
    refine LE.p (v := (SV.v r3)) (Wn.no rfl) rfl (R.move rfl) ?_
    refine LE.p (v := (Value.int .i64 (r3.len : Int))) (Wn.no rfl) rfl (R.len sl74 rfl) ?_
    refine LE.p (v := (Value.int .i64 (IntKind.i64.wrap ((r3.len : Int) - (1 : Int))))) (Wn.no rfl) rfl (R.sub rfl rfl) ?_
    obtain ⟨a12, h13, h14, h15, h⟩ := h
    refine LE.p (v := (Value.pointer (some (a12.add ((IntKind.i64.wrap ((r3.len : Int) - (1 : Int))).toNat * 2))))) (Wn.no rfl) rfl (R.idx (s := r3) sl74 rfl rfl h13 h14 h15) ?_
    obtain ⟨t16, h17, h⟩ := h
    obtain ⟨t18, h19, h⟩ := h
    refine LE.r (v := (Value.agg #[(Value.int .u32 t16), (Value.int .i64 t18)])) (Wn.no rfl) rfl (R.ldA ag30 sz30 rfl rfl (Cs.cons h17 (Cs.cons h19 Cs.nil))) ?_
    obtain ⟨b21, hpb21, w20, hww20, h⟩ := M.new_use h
    refine LE.r (v := (Value.pointer (some b21))) (Wn.no rfl) rfl (R.alloc (cs := #[(Value.int .u32 (0 : Int)), (Value.int .i64 (0 : Int))]) ze30 rfl hpb21 hww20) ?_
    obtain ⟨w22, hww22, h23, h⟩ := M.stA_use h
    refine LE.s (Wn.no rfl) rfl (R.stA (a := b21) [(Value.int .u32 t16), (Value.int .i64 t18)] sz30 rfl rfl rfl (by simp [Value.oneCell']) h23 hww22) ?_
    refine LE.nil ?_
    refine WE.seq ?_
    refine WE.reg ?_
    refine LE.p (v := (Value.pointer p0)) (Wn.no rfl) rfl (R.move rfl) ?_
    obtain ⟨t24, h25, h⟩ := h
    obtain ⟨t26, h27, h⟩ := h
    refine LE.r (v := (Value.agg #[(Value.int .u32 t24), (Value.int .i64 t26)])) (Wn.no rfl) rfl (R.ldA ag30 sz30 rfl rfl (Cs.cons h25 (Cs.cons h27 Cs.nil))) ?_
    refine LE.c (Wn.no rfl) rfl (R.call bd50 (Ls.cons rfl (Ls.cons rfl Ls.nil)) rfl) (Calls.mono h ?_)
    rintro _ w30 ⟨r28, r29, rfl, h⟩
    refine ⟨_, rfl, ?_⟩
    refine LE.p (v := (Value.tuple #[(Value.int .i64 r28), (Value.bool r29)])) (Wn.no rfl) rfl (R.move rfl) ?_
    refine LE.p (v := (Value.int .i64 r28)) (Wn.no rfl) rfl (R.ext rfl rfl) ?_
    refine LE.p (v := (Value.bool r29)) (Wn.no rfl) rfl (R.ext rfl rfl) ?_
    refine LE.p (v := (Value.int .i64 r28)) (Wn.no rfl) rfl (R.assign rfl) ?_
    refine LE.p (v := (Value.bool r29)) (Wn.no rfl) rfl (R.assign rfl) ?_
    refine LE.nil ?_
    refine WE.seq ?_
    refine WE.reg ?_
    obtain ⟨t31, h32, h⟩ := h
    obtain ⟨t33, h34, h⟩ := h
    refine LE.r (v := (Value.agg #[(Value.int .u32 t31), (Value.int .i64 t33)])) (Wn.no rfl) rfl (R.ldA ag30 sz30 rfl rfl (Cs.cons h32 (Cs.cons h34 Cs.nil))) ?_
    refine LE.p (v := (Value.int .i64 r28)) (Wn.no rfl) rfl (R.move rfl) ?_
    obtain ⟨w35, hww35, h36, h⟩ := M.stA_use h
    refine LE.s (Wn.no rfl) rfl (R.stA (a := b2) [(Value.int .u32 t31), (Value.int .i64 t33)] sz30 rfl rfl rfl (by simp [Value.oneCell']) h36 hww35) ?_
    refine LE.p (v := (Value.int .i64 r28)) (Wn.no rfl) rfl (R.assign rfl) ?_
    refine LE.p (v := (Value.bool true)) (Wn.no rfl) rfl (R.assign rfl) ?_
    refine LE.nil ?_
    refine WE.ret ?_
    obtain ⟨t37, h38, h⟩ := h
    obtain ⟨t39, h40, h⟩ := h
    exact ⟨_, (Res.cell rfl (R.ldCellA ag30 sz30 rfl (Cs.cons h38 (Cs.cons h40 Cs.nil))) (Res.tmp rfl (Res.tmp rfl Res.nil))), _, _, _, _, rfl, h⟩
/-- The formula of (*signpost.trie.Trie).All. -/
def F34 (p0 : Option Addr) (K : SV → World → Prop) (w0 : World) : Prop :=
Calls Try.prog 54 #[(Value.pointer p0), (Value.agg #[(Value.int .u32 (0 : Int)), (Value.int .i64 (0 : Int))])] w0 (R54 fun r1 w2 =>
K r1 w2)
theorem F34_ok {w0 : World} {p0 : Option Addr} {K : SV → World → Prop} (h : F34 p0 K w0) : Calls Try.prog 34 #[(Value.pointer p0)] w0 (R34 K) := by
  refine calls_of_WE (args := [(Value.pointer p0)]) (rs := [.tmp 2]) Try.func34 rfl (N := 6) rfl rfl rfl rfl ?_
  refine WE.seq ?_
  refine WE.reg ?_
  refine LE.p (v := (SV.v SV.nil)) (Wn.no rfl) rfl (R.assign rfl) ?_
  refine LE.nil ?_
  refine WE.seq ?_
  refine WE.reg ?_
  refine LE.p (v := (Value.pointer p0)) (Wn.no rfl) rfl (R.move rfl) ?_
  refine LE.p (v := (Value.agg #[(Value.int .u32 (0 : Int)), (Value.int .i64 (0 : Int))])) (Wn.no rfl) rfl (R.bld (by exact Ls.nil) (fun w => bu30_  w)) ?_
  refine LE.c (Wn.no rfl) rfl (R.call bd54 (Ls.cons rfl (Ls.cons rfl Ls.nil)) rfl) (Calls.mono h ?_)
  rintro _ w2 ⟨r1, rfl, h⟩
  refine ⟨_, rfl, ?_⟩
  refine LE.p (v := (SV.v r1)) (Wn.no rfl) rfl (R.assign rfl) ?_
  refine LE.nil ?_
  refine WE.ret ?_
  exact ⟨_, (Res.tmp rfl Res.nil), _, rfl, h⟩
/-- The formula of signpost.signpostref1.Right. -/
def F35 (p0_0 : Int) (p0_1 : Int) (K : Bool → World → Prop) (w0 : World) : Prop :=
M.new (.cells #[(Value.int .u32 p0_0), (Value.int .i64 p0_1)] 30) w0 fun b2 w1 =>
M.join (fun (x4 : Bool) (w20 : World) => 
K x4 w20) fun J3 => 
M.drew w1 fun w5 => 
M.ld (Value.int .i64) (b2.add 1) w5 fun t6 =>
M.ite (decide ((0 : Int) ≤ t6)) (
M.ld (Value.int .i64) (b2.add 1) w5 fun t9 =>
M.ite (decide (t9 ≤ (32 : Int))) (
M.ld (Value.int .u32) b2 w5 fun t12 =>
M.ld (Value.int .i64) (b2.add 1) w5 fun t14 =>
Calls Try.prog 36 #[(Value.int .i64 t14)] w5 (R36 fun r16 w17 =>
M.keep (w17.cell? b2 = some (Value.int .u32 t12)) <|
J3 ((bAndNot .u32 t12 r16) == (0 : Int)) w17)) (
J3 false w5)) (
J3 false w5)
theorem F35_ok {w0 : World} {p0_0 : Int} {p0_1 : Int} {K : Bool → World → Prop} (h : F35 p0_0 p0_1 K w0) : Calls Try.prog 35 #[(Value.agg #[(Value.int .u32 p0_0), (Value.int .i64 p0_1)])] w0 (R35 K) := by
  refine calls_of_WE (args := [(Value.agg #[(Value.int .u32 p0_0), (Value.int .i64 p0_1)])]) (rs := [.tmp 2]) Try.func35 rfl (N := 20) rfl rfl rfl rfl ?_
  refine WE.seq ?_
  refine WE.reg ?_
  obtain ⟨b2, hpb2, w1, hww1, h⟩ := M.new_use h
  refine LE.r (v := (Value.pointer (some b2))) (Wn.no rfl) rfl (R.box (cs := #[(Value.int .u32 p0_0), (Value.int .i64 p0_1)]) rfl rfl hpb2 hww1) ?_
  refine LE.p (v := (Value.bool false)) (Wn.no rfl) rfl (R.assign rfl) ?_
  refine LE.nil ?_
  refine WE.seq ?_
  obtain ⟨J3, hJ3, h⟩ := M.join_use h
  refine WE.drawJ (fun e w => ∃ (x4 : Bool), J3 x4 w ∧ e 2 = (Value.bool x4)) mix ?_ ?_
  · clear hJ3
    obtain ⟨w5, hww5, h⟩ := M.drew_use h
    rw [← hww5]
    clear hww5
    refine DE.t 0 (v := (Value.pointer (some (b2.add 1)))) rfl (by kernel_rfl) (Wn.no rfl) rfl (R.fld (off := 1) fa30_1 rfl) ?_
    obtain ⟨t6, h7, h⟩ := h
    refine DE.main 1 (by kernel_rfl) ?_
    refine One.r 1 (v := (Value.int .i64 t6)) rfl (Wn.no rfl) rfl (R.ld sc3 rfl h7) (.inl rfl) ?_
    refine DE.t 2 (v := (Value.bool (decide ((0 : Int) ≤ t6)))) rfl (by kernel_rfl) (Wn.no rfl) rfl (R.geq rfl rfl) ?_
    refine DE.t 3 (v := (Value.bool (decide ((0 : Int) ≤ t6)))) rfl (by kernel_rfl) (Wn.no rfl) rfl (R.move rfl) ?_
    rcases M.ite_use h with ⟨hb8, h⟩ | ⟨hb8, h⟩
    · refine DE.t 4 (v := (Value.pointer (some (b2.add 1)))) rfl (by kernel_rfl) (Wn.yes 3 6 true rfl rfl rfl (congrArg Value.bool hb8)) rfl (R.fld (off := 1) fa30_1 rfl) ?_
      obtain ⟨t9, h10, h⟩ := h
      refine DE.main 5 (by kernel_rfl) ?_
      refine One.r 5 (v := (Value.int .i64 t9)) rfl (Wn.yes 3 6 true rfl rfl rfl (congrArg Value.bool hb8)) rfl (R.ld sc3 rfl h10) (.inl rfl) ?_
      refine DE.t 6 (v := (Value.bool (decide (t9 ≤ (32 : Int))))) rfl (by kernel_rfl) (Wn.yes 3 6 true rfl rfl rfl (congrArg Value.bool hb8)) rfl (R.leq rfl rfl) ?_
      refine DE.t 7 (v := (Value.bool (decide (t9 ≤ (32 : Int))))) rfl (by kernel_rfl) (Wn.no rfl) rfl (R.pickT (congrArg Value.bool hb8) rfl) ?_
      refine DE.t 8 (v := (Value.bool (decide (t9 ≤ (32 : Int))))) rfl (by kernel_rfl) (Wn.no rfl) rfl (R.move rfl) ?_
      rcases M.ite_use h with ⟨hb11, h⟩ | ⟨hb11, h⟩
      · refine DE.t 9 (v := (Value.pointer (some b2))) rfl (by kernel_rfl) (Wn.yes 8 11 true rfl rfl rfl (congrArg Value.bool hb11)) rfl (R.fld (off := 0) fa30_0 rfl) ?_
        refine DE.t 11 (v := (Value.pointer (some (b2.add 1)))) rfl (by kernel_rfl) (Wn.yes 8 11 true rfl rfl rfl (congrArg Value.bool hb11)) rfl (R.fld (off := 1) fa30_1 rfl) ?_
        obtain ⟨t12, h13, h⟩ := h
        refine DE.hold 10 (fun w => w.cell? b2 = some (Value.int .u32 t12)) (v := (Value.int .u32 t12)) rfl (by kernel_rfl) (Wn.yes 8 11 true rfl rfl rfl (congrArg Value.bool hb11)) rfl h13 (fun w hs => R.ld sc23 rfl hs) ?_
        obtain ⟨t14, h15, h⟩ := h
        refine DE.main 12 (by kernel_rfl) ?_
        refine One.r 12 (v := (Value.int .i64 t14)) rfl (Wn.yes 8 11 true rfl rfl rfl (congrArg Value.bool hb11)) rfl (R.ld sc3 rfl h15) (.inl rfl) ?_
        refine DE.main 13 (by kernel_rfl) ?_
        refine One.c 13 rfl (Wn.yes 8 11 true rfl rfl rfl (congrArg Value.bool hb11)) rfl (R.call bd36 (Ls.cons rfl Ls.nil) rfl) (Calls.mono h ?_)
        rintro _ w17 ⟨r16, rfl, h⟩
        obtain ⟨k18, h⟩ := h
        refine ⟨_, rfl, ⟨fun _ => k18, trivial⟩, ?_⟩
        refine DE.t 14 (v := (Value.int .u32 (bAndNot .u32 t12 r16))) rfl (by kernel_rfl) (Wn.yes 8 11 true rfl rfl rfl (congrArg Value.bool hb11)) rfl (R.andNot rfl rfl) ?_
        refine DE.t 15 (v := (Value.bool ((bAndNot .u32 t12 r16) == (0 : Int)))) rfl (by kernel_rfl) (Wn.yes 8 11 true rfl rfl rfl (congrArg Value.bool hb11)) rfl (R.eql rfl rfl) ?_
        refine DE.t 16 (v := (Value.bool ((bAndNot .u32 t12 r16) == (0 : Int)))) rfl (by kernel_rfl) (Wn.no rfl) rfl (R.pickT (congrArg Value.bool hb11) rfl) ?_
        refine DE.t 17 (v := (Value.bool ((bAndNot .u32 t12 r16) == (0 : Int)))) rfl (by kernel_rfl) (Wn.no rfl) rfl (R.assign rfl) ?_
        refine DE.done (by kernel_rfl) ?_
        exact ⟨_, h, rfl⟩
      · refine DE.u 9 rfl (by kernel_rfl) (Un.no 8 11 true rfl rfl rfl (congrArg Value.bool hb11)) ?_
        refine DE.u 10 rfl (by kernel_rfl) (Un.no 8 11 true rfl rfl rfl (congrArg Value.bool hb11)) ?_
        refine DE.u 11 rfl (by kernel_rfl) (Un.no 8 11 true rfl rfl rfl (congrArg Value.bool hb11)) ?_
        refine DE.u 12 rfl (by kernel_rfl) (Un.no 8 11 true rfl rfl rfl (congrArg Value.bool hb11)) ?_
        refine DE.u 13 rfl (by kernel_rfl) (Un.no 8 11 true rfl rfl rfl (congrArg Value.bool hb11)) ?_
        refine DE.u 14 rfl (by kernel_rfl) (Un.no 8 11 true rfl rfl rfl (congrArg Value.bool hb11)) ?_
        refine DE.u 15 rfl (by kernel_rfl) (Un.no 8 11 true rfl rfl rfl (congrArg Value.bool hb11)) ?_
        refine DE.t 16 (v := (Value.bool false)) rfl (by kernel_rfl) (Wn.no rfl) rfl (R.pickF (congrArg Value.bool hb11) rfl) ?_
        refine DE.t 17 (v := (Value.bool false)) rfl (by kernel_rfl) (Wn.no rfl) rfl (R.assign rfl) ?_
        refine DE.done (by kernel_rfl) ?_
        exact ⟨_, h, rfl⟩
    · refine DE.u 4 rfl (by kernel_rfl) (Un.no 3 6 true rfl rfl rfl (congrArg Value.bool hb8)) ?_
      refine DE.u 5 rfl (by kernel_rfl) (Un.no 3 6 true rfl rfl rfl (congrArg Value.bool hb8)) ?_
      refine DE.u 6 rfl (by kernel_rfl) (Un.no 3 6 true rfl rfl rfl (congrArg Value.bool hb8)) ?_
      refine DE.t 7 (v := (Value.bool false)) rfl (by kernel_rfl) (Wn.no rfl) rfl (R.pickF (congrArg Value.bool hb8) rfl) ?_
      refine DE.t 8 (v := (Value.bool false)) rfl (by kernel_rfl) (Wn.no rfl) rfl (R.move rfl) ?_
      refine DE.u 9 rfl (by kernel_rfl) (Un.no 8 11 true rfl rfl rfl rfl) ?_
      refine DE.u 10 rfl (by kernel_rfl) (Un.no 8 11 true rfl rfl rfl rfl) ?_
      refine DE.u 11 rfl (by kernel_rfl) (Un.no 8 11 true rfl rfl rfl rfl) ?_
      refine DE.u 12 rfl (by kernel_rfl) (Un.no 8 11 true rfl rfl rfl rfl) ?_
      refine DE.u 13 rfl (by kernel_rfl) (Un.no 8 11 true rfl rfl rfl rfl) ?_
      refine DE.u 14 rfl (by kernel_rfl) (Un.no 8 11 true rfl rfl rfl rfl) ?_
      refine DE.u 15 rfl (by kernel_rfl) (Un.no 8 11 true rfl rfl rfl rfl) ?_
      refine DE.t 16 (v := (Value.bool false)) rfl (by kernel_rfl) (Wn.no rfl) rfl (R.pickF rfl rfl) ?_
      refine DE.t 17 (v := (Value.bool false)) rfl (by kernel_rfl) (Wn.no rfl) rfl (R.assign rfl) ?_
      refine DE.done (by kernel_rfl) ?_
      exact ⟨_, h, rfl⟩
  · rintro e19 w20 ⟨x4, h, f21⟩
    subst hJ3
    refine WE.ret ?_
    exact ⟨_, (Res.tmp f21 Res.nil), _, rfl, h⟩
/-- The formula of signpost.signpostref1.Mask. -/
def F36 (p0 : Int) (K : Int → World → Prop) (w0 : World) : Prop :=
M.loop2 (fun (J3 : Int → Int → World → Prop) (x1 : Int) (x2 : Int) (w4 : World) => 
M.join (fun (x15 : Bool) (w18 : World) => 
M.ite x15 (
M.sh (IntKind.u64.wrap (IntKind.i64.wrap ((31 : Int) - x2))) <|
J3 (bOr .u32 x1 (bShl .u32 (1 : Int) (IntKind.u64.wrap (IntKind.i64.wrap ((31 : Int) - x2))))) (IntKind.i64.wrap (x2 + (1 : Int))) w18) (
K x1 w18)) fun J14 => 
M.ite (decide (x2 < p0)) (
J14 (decide (x2 < (32 : Int))) w4) (
J14 false w4)) (0 : Int) (0 : Int) w0
theorem F36_ok {w0 : World} {p0 : Int} {K : Int → World → Prop} (h : F36 p0 K w0) : Calls Try.prog 36 #[(Value.int .i64 p0)] w0 (R36 K) := by
  refine calls_of_WE (args := [(Value.int .i64 p0)]) (rs := [.tmp 2]) Try.func36 rfl (N := 21) rfl rfl rfl rfl ?_
  refine WE.seq ?_
  refine WE.reg ?_
  refine LE.p (v := (Value.int .u32 (0 : Int))) (Wn.no rfl) rfl (R.assign rfl) ?_
  refine LE.nil ?_
  refine WE.seq ?_
  refine WE.reg ?_
  refine LE.p (v := (Value.int .u32 (0 : Int))) (Wn.no rfl) rfl (R.assign rfl) ?_
  refine LE.nil ?_
  refine WE.seq ?_
  refine WE.seq ?_
  refine WE.reg ?_
  refine LE.p (v := (Value.int .i64 (0 : Int))) (Wn.no rfl) rfl (R.assign rfl) ?_
  refine LE.nil ?_
  refine WE.block ?_
  obtain ⟨I7, ⟨n6, h⟩, hr8⟩ := h
  refine WE.loop (fun n e w => ∃ (x1 : Int) (x2 : Int), I7 n x1 x2 w ∧ e 0 = (Value.int .i64 p0) ∧ e 3 = (Value.int .u32 x1) ∧ e 4 = (Value.int .i64 x2)) n6 ⟨_, _, h, rfl, rfl, rfl⟩ ?_
  clear h
  rintro n6 e5 w4 ⟨x1, x2, h, f11, f12, f13⟩
  replace h := hr8 n6 x1 x2 w4 h
  refine WE.seq ?_
  refine WE.seq ?_
  obtain ⟨J14, hJ14, h⟩ := M.join_use h
  refine WE.regJ (fun e w => ∃ (x15 : Bool), J14 x15 w ∧ e 0 = (Value.int .i64 p0) ∧ e 3 = (Value.int .u32 x1) ∧ e 4 = (Value.int .i64 x2) ∧ e 11 = (Value.bool x15)) ?_ ?_
  · clear hJ14
    refine LE.p (v := (Value.int .i64 x2)) (Wn.no rfl) rfl (R.move f13) ?_
    refine LE.p (v := (Value.int .i64 p0)) (Wn.no rfl) rfl (R.move f11) ?_
    refine LE.p (v := (Value.bool (decide (x2 < p0)))) (Wn.no rfl) rfl (R.lss rfl rfl) ?_
    refine LE.p (v := (Value.bool (decide (x2 < p0)))) (Wn.no rfl) rfl (R.move rfl) ?_
    rcases M.ite_use h with ⟨hb16, h⟩ | ⟨hb16, h⟩
    · refine LE.p (v := (Value.int .i64 x2)) (Wn.yes 3 8 true rfl rfl rfl (congrArg Value.bool hb16)) rfl (R.move f13) ?_
      refine LE.p (v := (Value.bool (decide (x2 < (32 : Int))))) (Wn.yes 3 8 true rfl rfl rfl (congrArg Value.bool hb16)) rfl (R.lss rfl rfl) ?_
      refine LE.p (v := (Value.bool (decide (x2 < (32 : Int))))) (Wn.no rfl) rfl (R.pickT (congrArg Value.bool hb16) rfl) ?_
      refine LE.nil ?_
      exact ⟨_, h, f11, f12, f13, rfl⟩
    · refine LE.u (Un.no 3 8 true rfl rfl rfl (congrArg Value.bool hb16)) ?_
      refine LE.u (Un.no 3 8 true rfl rfl rfl (congrArg Value.bool hb16)) ?_
      refine LE.p (v := (Value.bool false)) (Wn.no rfl) rfl (R.pickF (congrArg Value.bool hb16) rfl) ?_
      refine LE.nil ?_
      exact ⟨_, h, f11, f12, f13, rfl⟩
  · rintro e17 w18 ⟨x15, h, f19, f20, f21, f22⟩
    subst hJ14
    refine WE.condT rfl (b := x15) f22 ?_ ?_
    · intro hb23
      replace h := M.ite_t h hb23
      refine WE.skip ?_
      refine WE.seq ?_
      refine WE.block ?_
      refine WE.reg ?_
      refine LE.p (v := (Value.int .u32 x1)) (Wn.no rfl) rfl (R.move f20) ?_
      refine LE.p (v := (Value.int .i64 x2)) (Wn.no rfl) rfl (R.move f21) ?_
      refine LE.p (v := (Value.int .i64 (IntKind.i64.wrap ((31 : Int) - x2)))) (Wn.no rfl) rfl (R.sub rfl rfl) ?_
      refine LE.p (v := (Value.int .u64 (IntKind.u64.wrap (IntKind.i64.wrap ((31 : Int) - x2))))) (Wn.no rfl) rfl (R.conv in60 in3 rfl) ?_
      obtain ⟨h24, h⟩ := h
      refine LE.p (v := (Value.int .u32 (bShl .u32 (1 : Int) (IntKind.u64.wrap (IntKind.i64.wrap ((31 : Int) - x2)))))) (Wn.no rfl) rfl (R.shl rfl rfl h24) ?_
      refine LE.p (v := (Value.int .u32 (bOr .u32 x1 (bShl .u32 (1 : Int) (IntKind.u64.wrap (IntKind.i64.wrap ((31 : Int) - x2))))))) (Wn.no rfl) rfl (R.or rfl rfl) ?_
      refine LE.p (v := (Value.int .u32 (bOr .u32 x1 (bShl .u32 (1 : Int) (IntKind.u64.wrap (IntKind.i64.wrap ((31 : Int) - x2))))))) (Wn.no rfl) rfl (R.assign rfl) ?_
      refine LE.nil ?_
      refine WE.reg ?_
      refine LE.p (v := (Value.int .i64 x2)) (Wn.no rfl) rfl (R.move f21) ?_
      refine LE.p (v := (Value.int .i64 (IntKind.i64.wrap (x2 + (1 : Int))))) (Wn.no rfl) rfl (R.add rfl rfl) ?_
      refine LE.p (v := (Value.int .i64 (IntKind.i64.wrap (x2 + (1 : Int))))) (Wn.no rfl) rfl (R.assign rfl) ?_
      refine LE.nil ?_
      obtain ⟨m9, hm10, h⟩ := h
      exact ⟨m9, hm10, _, _, h, f19, rfl, rfl⟩
    · intro hb23
      replace h := M.ite_f h hb23
      refine WE.exit ?_
      refine WE.seq ?_
      refine WE.reg ?_
      refine LE.p (v := (Value.int .u32 x1)) (Wn.no rfl) rfl (R.move f20) ?_
      refine LE.p (v := (Value.int .u32 x1)) (Wn.no rfl) rfl (R.assign rfl) ?_
      refine LE.nil ?_
      refine WE.ret ?_
      exact ⟨_, (Res.tmp rfl Res.nil), _, rfl, h⟩
/-- The formula of math.Abs. -/
def F37 (p0 : Nat) (K : Nat → World → Prop) (w0 : World) : Prop :=
K (Int.toNat (bAndNot .u64 (p0 : Int) (9223372036854775808 : Int))) w0
theorem F37_ok {w0 : World} {p0 : Nat} {K : Nat → World → Prop} (h : F37 p0 K w0) : Calls Try.prog 37 #[(Value.float .f64 p0)] w0 (R37 K) := by
  refine calls_of_WE (args := [(Value.float .f64 p0)]) (rs := [.tmp 2]) Try.func37 rfl (N := 7) rfl rfl rfl rfl ?_
  refine WE.seq ?_
  refine WE.reg ?_
  refine LE.p (v := (Value.float .f64 (0 : Nat))) (Wn.no rfl) rfl (R.assign rfl) ?_
  refine LE.nil ?_
  refine WE.seq ?_
  refine WE.reg ?_
  refine LE.p (v := (Value.float .f64 p0)) (Wn.no rfl) rfl (R.move rfl) ?_
  refine LE.p (v := (Value.int .u64 (p0 : Int))) (Wn.no rfl) rfl (R.callx (xt38 p0) (Ls.cons rfl Ls.nil) rfl) ?_
  refine LE.p (v := (Value.int .u64 (bAndNot .u64 (p0 : Int) (9223372036854775808 : Int)))) (Wn.no rfl) rfl (R.andNot rfl rfl) ?_
  refine LE.p (v := (Value.float .f64 (Int.toNat (bAndNot .u64 (p0 : Int) (9223372036854775808 : Int))))) (Wn.no rfl) rfl (R.callx (xt46 (bAndNot .u64 (p0 : Int) (9223372036854775808 : Int))) (Ls.cons rfl Ls.nil) rfl) ?_
  refine LE.p (v := (Value.float .f64 (Int.toNat (bAndNot .u64 (p0 : Int) (9223372036854775808 : Int))))) (Wn.no rfl) rfl (R.assign rfl) ?_
  refine LE.nil ?_
  refine WE.ret ?_
  exact ⟨_, (Res.tmp rfl Res.nil), _, rfl, h⟩
/-- The formula of signpost.signpostlaw15.way. -/
def F39 (p0_0 : Int) (p0_1 : Int) (p0_2 : Int) (p0_3 : Bool) (p0_4 : Int) (p0_5 : Int) (p0_6 : Nat) (p0_7 : Int) (p0_8 : Bool) (K : Int → Int → Bool → Int → Int → Nat → World → Prop) (w0 : World) : Prop :=
M.new (.cells #[(Value.int .i64 p0_0), (Value.int .u32 p0_1), (Value.int .i64 p0_2), (Value.bool p0_3), (Value.int .i64 p0_4), (Value.int .u32 p0_5), (Value.float .f64 p0_6), (Value.int .u32 p0_7), (Value.bool p0_8)] 36) w0 fun b2 w1 =>
M.new (.cells #[(Value.int .u32 (0 : Int)), (Value.int .i64 (0 : Int)), (Value.bool false), (Value.int .i64 (0 : Int)), (Value.int .u32 (0 : Int)), (Value.float .f64 (0 : Nat))] 33) w1 fun b4 w3 =>
M.ld Value.bool (b2.add 8) w3 fun t5 =>
M.ite t5 (
∃ (t8 : Int) (t9 : Int) (t10 : Bool) (t11 : Int) (t12 : Int) (t13 : Nat), Cs w3 (b2.add 1) 0 [(Value.int .u32 t8), (Value.int .i64 t9), (Value.bool t10), (Value.int .i64 t11), (Value.int .u32 t12), (Value.float .f64 t13)] ∧
Calls Try.prog 9 #[(Value.agg #[(Value.int .u32 t8), (Value.int .i64 t9), (Value.bool t10), (Value.int .i64 t11), (Value.int .u32 t12), (Value.float .f64 t13)])] w3 (R9 fun r15 r16 r17 r18 r19 r20 w21 =>
M.stA b4 [(Value.int .u32 r15), (Value.int .i64 r16), (Value.bool r17), (Value.int .i64 r18), (Value.int .u32 r19), (Value.float .f64 r20)] w21 fun w22 =>
∃ (t24 : Int) (t25 : Int) (t26 : Bool) (t27 : Int) (t28 : Int) (t29 : Nat), Cs w22 b4 0 [(Value.int .u32 t24), (Value.int .i64 t25), (Value.bool t26), (Value.int .i64 t27), (Value.int .u32 t28), (Value.float .f64 t29)] ∧
K t24 t25 t26 t27 t28 t29 w22)) (
∃ (t31 : Int) (t32 : Int) (t33 : Bool) (t34 : Int) (t35 : Int) (t36 : Nat), Cs w3 (b2.add 1) 0 [(Value.int .u32 t31), (Value.int .i64 t32), (Value.bool t33), (Value.int .i64 t34), (Value.int .u32 t35), (Value.float .f64 t36)] ∧
M.stA b4 [(Value.int .u32 t31), (Value.int .i64 t32), (Value.bool t33), (Value.int .i64 t34), (Value.int .u32 t35), (Value.float .f64 t36)] w3 fun w38 =>
∃ (t40 : Int) (t41 : Int) (t42 : Bool) (t43 : Int) (t44 : Int) (t45 : Nat), Cs w38 b4 0 [(Value.int .u32 t40), (Value.int .i64 t41), (Value.bool t42), (Value.int .i64 t43), (Value.int .u32 t44), (Value.float .f64 t45)] ∧
K t40 t41 t42 t43 t44 t45 w38)
theorem F39_ok {w0 : World} {p0_0 : Int} {p0_1 : Int} {p0_2 : Int} {p0_3 : Bool} {p0_4 : Int} {p0_5 : Int} {p0_6 : Nat} {p0_7 : Int} {p0_8 : Bool} {K : Int → Int → Bool → Int → Int → Nat → World → Prop} (h : F39 p0_0 p0_1 p0_2 p0_3 p0_4 p0_5 p0_6 p0_7 p0_8 K w0) : Calls Try.prog 39 #[(Value.agg #[(Value.int .i64 p0_0), (Value.int .u32 p0_1), (Value.int .i64 p0_2), (Value.bool p0_3), (Value.int .i64 p0_4), (Value.int .u32 p0_5), (Value.float .f64 p0_6), (Value.int .u32 p0_7), (Value.bool p0_8)])] w0 (R39 K) := by
  refine calls_of_WE (args := [(Value.agg #[(Value.int .i64 p0_0), (Value.int .u32 p0_1), (Value.int .i64 p0_2), (Value.bool p0_3), (Value.int .i64 p0_4), (Value.int .u32 p0_5), (Value.float .f64 p0_6), (Value.int .u32 p0_7), (Value.bool p0_8)])]) (rs := [.cell 2 33]) Try.func39 rfl (N := 10) rfl rfl rfl rfl ?_
  refine WE.seq ?_
  refine WE.reg ?_
  obtain ⟨b2, hpb2, w1, hww1, h⟩ := M.new_use h
  refine LE.r (v := (Value.pointer (some b2))) (Wn.no rfl) rfl (R.box (cs := #[(Value.int .i64 p0_0), (Value.int .u32 p0_1), (Value.int .i64 p0_2), (Value.bool p0_3), (Value.int .i64 p0_4), (Value.int .u32 p0_5), (Value.float .f64 p0_6), (Value.int .u32 p0_7), (Value.bool p0_8)]) rfl rfl hpb2 hww1) ?_
  obtain ⟨b4, hpb4, w3, hww3, h⟩ := M.new_use h
  refine LE.r (v := (Value.pointer (some b4))) (Wn.no rfl) rfl (R.alloc (cs := #[(Value.int .u32 (0 : Int)), (Value.int .i64 (0 : Int)), (Value.bool false), (Value.int .i64 (0 : Int)), (Value.int .u32 (0 : Int)), (Value.float .f64 (0 : Nat))]) ze33 rfl hpb4 hww3) ?_
  refine LE.nil ?_
  refine WE.seq ?_
  refine WE.seq ?_
  refine WE.reg ?_
  refine LE.p (v := (Value.pointer (some (b2.add 8)))) (Wn.no rfl) rfl (R.fld (off := 8) fa36_3 rfl) ?_
  obtain ⟨t5, h6, h⟩ := h
  refine LE.r (v := (Value.bool t5)) (Wn.no rfl) rfl (R.ld sc4 rfl h6) ?_
  refine LE.nil ?_
  refine WE.condT rfl (b := t5) rfl ?_ ?_
  · intro hb7
    replace h := M.ite_t h hb7
    refine WE.seq ?_
    refine WE.reg ?_
    refine LE.p (v := (Value.pointer (some (b2.add 1)))) (Wn.no rfl) rfl (R.fld (off := 1) fa36_1 rfl) ?_
    obtain ⟨t8, t9, t10, t11, t12, t13, h14, h⟩ := h
    refine LE.r (v := (Value.agg #[(Value.int .u32 t8), (Value.int .i64 t9), (Value.bool t10), (Value.int .i64 t11), (Value.int .u32 t12), (Value.float .f64 t13)])) (Wn.no rfl) rfl (R.ldA ag33 sz33 rfl rfl h14) ?_
    refine LE.c (Wn.no rfl) rfl (R.call bd9 (Ls.cons rfl Ls.nil) rfl) (Calls.mono h ?_)
    rintro _ w21 ⟨r15, r16, r17, r18, r19, r20, rfl, h⟩
    refine ⟨_, rfl, ?_⟩
    obtain ⟨w22, hww22, h23, h⟩ := M.stA_use h
    refine LE.s (Wn.no rfl) rfl (R.stA (a := b4) [(Value.int .u32 r15), (Value.int .i64 r16), (Value.bool r17), (Value.int .i64 r18), (Value.int .u32 r19), (Value.float .f64 r20)] sz33 rfl rfl rfl (by simp [Value.oneCell']) h23 hww22) ?_
    refine LE.nil ?_
    refine WE.ret ?_
    obtain ⟨t24, t25, t26, t27, t28, t29, h30, h⟩ := h
    exact ⟨_, (Res.cell rfl (R.ldCellA ag33 sz33 rfl h30) Res.nil), _, _, _, _, _, _, rfl, h⟩
  · intro hb7
    replace h := M.ite_f h hb7
    refine WE.skip ?_
    refine WE.seq ?_
    refine WE.reg ?_
    refine LE.p (v := (Value.pointer (some (b2.add 1)))) (Wn.no rfl) rfl (R.fld (off := 1) fa36_1 rfl) ?_
    obtain ⟨t31, t32, t33, t34, t35, t36, h37, h⟩ := h
    refine LE.r (v := (Value.agg #[(Value.int .u32 t31), (Value.int .i64 t32), (Value.bool t33), (Value.int .i64 t34), (Value.int .u32 t35), (Value.float .f64 t36)])) (Wn.no rfl) rfl (R.ldA ag33 sz33 rfl rfl h37) ?_
    obtain ⟨w38, hww38, h39, h⟩ := M.stA_use h
    refine LE.s (Wn.no rfl) rfl (R.stA (a := b4) [(Value.int .u32 t31), (Value.int .i64 t32), (Value.bool t33), (Value.int .i64 t34), (Value.int .u32 t35), (Value.float .f64 t36)] sz33 rfl rfl rfl (by simp [Value.oneCell']) h39 hww38) ?_
    refine LE.nil ?_
    refine WE.ret ?_
    obtain ⟨t40, t41, t42, t43, t44, t45, h46, h⟩ := h
    exact ⟨_, (Res.cell rfl (R.ldCellA ag33 sz33 rfl h46) Res.nil), _, _, _, _, _, _, rfl, h⟩
/-- The formula of (*signpost.signpostref15.Table).Put. -/
def F40 (p0 : Option Addr) (p1_0 : Int) (p1_1 : Int) (p1_2 : Bool) (p1_3 : Int) (p1_4 : Int) (p1_5 : Nat) (K : Bool → Int → World → Prop) (w0 : World) : Prop :=
M.new (.cells #[(Value.int .u32 p1_0), (Value.int .i64 p1_1), (Value.bool p1_2), (Value.int .i64 p1_3), (Value.int .u32 p1_4), (Value.float .f64 p1_5)] 33) w0 fun b2 w1 =>
∃ (t3 : Int) (t4 : Int) (t5 : Bool) (t6 : Int) (t7 : Int) (t8 : Nat), Cs w1 b2 0 [(Value.int .u32 t3), (Value.int .i64 t4), (Value.bool t5), (Value.int .i64 t6), (Value.int .u32 t7), (Value.float .f64 t8)] ∧
Calls Try.prog 41 #[(Value.agg #[(Value.int .u32 t3), (Value.int .i64 t4), (Value.bool t5), (Value.int .i64 t6), (Value.int .u32 t7), (Value.float .f64 t8)])] w1 (R41 fun r10 w11 =>
M.ite (!r10) (
K false (12 : Int) w11) (
M.ld (Value.float .f64) (b2.add 5) w11 fun t13 =>
Calls Try.prog 55 #[(Value.float .f64 t13)] w11 (R55 fun r15 w16 =>
M.st (b2.add 5) (Value.float .f64 r15) w16 fun w17 =>
M.ld (Value.int .u32) b2 w17 fun t20 =>
M.ld (Value.int .i64) (b2.add 1) w17 fun t22 =>
Calls Try.prog 44 #[(Value.pointer p0), (Value.agg #[(Value.int .u32 t20), (Value.int .i64 t22)])] w17 (R44 fun r24 r25 r26 r27 r28 r29 r30 w31 =>
M.new (.cells #[(Value.int .u32 (0 : Int)), (Value.int .i64 (0 : Int)), (Value.bool false), (Value.int .i64 (0 : Int)), (Value.int .u32 (0 : Int)), (Value.float .f64 (0 : Nat))] 33) w31 fun b33 w32 =>
M.stA b33 [(Value.int .u32 r24), (Value.int .i64 r25), (Value.bool r26), (Value.int .i64 r27), (Value.int .u32 r28), (Value.float .f64 r29)] w32 fun w34 =>
M.join (fun (x37 : Bool) (w44 : World) => 
M.ite x37 (
K false (13 : Int) w44) (
M.ld (Value.int .u32) b2 w44 fun t51 =>
M.ld (Value.int .i64) (b2.add 1) w44 fun t53 =>
Calls Try.prog 42 #[(Value.pointer p0), (Value.agg #[(Value.int .u32 t51), (Value.int .i64 t53)])] w44 (R42 fun r55 w56 =>
M.loop1 (fun (J58 : Int → World → Prop) (x57 : Int) (w59 : World) => 
M.join (fun (x72 : Bool) (w98 : World) => 
M.ite x72 (
J58 (IntKind.i64.wrap (x57 + (1 : Int))) w98) (
M.join (fun (w210 : World) => 
M.join (fun (x215 : Bool) (x216 : Int) (w235 : World) => 
K x215 x216 w235) fun J214 => 
M.ite (!r30) (
J214 true (0 : Int) w210) (
∃ (t218 : Int) (t219 : Int) (t220 : Bool) (t221 : Int) (t222 : Int) (t223 : Nat), Cs w210 b33 0 [(Value.int .u32 t218), (Value.int .i64 t219), (Value.bool t220), (Value.int .i64 t221), (Value.int .u32 t222), (Value.float .f64 t223)] ∧
∃ (t225 : Int) (t226 : Int) (t227 : Bool) (t228 : Int) (t229 : Int) (t230 : Nat), Cs w210 b2 0 [(Value.int .u32 t225), (Value.int .i64 t226), (Value.bool t227), (Value.int .i64 t228), (Value.int .u32 t229), (Value.float .f64 t230)] ∧
Calls Try.prog 45 #[(Value.agg #[(Value.int .u32 t218), (Value.int .i64 t219), (Value.bool t220), (Value.int .i64 t221), (Value.int .u32 t222), (Value.float .f64 t223)]), (Value.agg #[(Value.int .u32 t225), (Value.int .i64 t226), (Value.bool t227), (Value.int .i64 t228), (Value.int .u32 t229), (Value.float .f64 t230)])] w210 (R45 fun r232 w233 =>
J214 (!r232) (0 : Int) w233))) fun J106 => 
M.drew w98 fun w107 => 
M.nil p0 fun a108 =>
M.nil p0 fun a110 =>
M.ld SV.v a108 w107 fun t112 =>
M.bnd (0 : Int) x57 t112 <|
∃ (t118 : Int) (t119 : Int) (t120 : Bool) (t121 : Int) (t122 : Int) (t123 : Nat), Cs w107 b2 0 [(Value.int .u32 t118), (Value.int .i64 t119), (Value.bool t120), (Value.int .i64 t121), (Value.int .u32 t122), (Value.float .f64 t123)] ∧
M.ld SV.v a110 w107 fun t125 =>
M.bnd x57 (t125.len : Int) t125 <|
M.both (
M.new (.cells #[] 33) w107 fun b133 w131 =>
M.keep (w131.cell? a110 = some (SV.v t125)) <|
M.keep (Cs w131 b2 0 [(Value.int .u32 t118), (Value.int .i64 t119), (Value.bool t120), (Value.int .i64 t121), (Value.int .u32 t122), (Value.float .f64 t123)]) <|
M.keep (w131.cell? a108 = some (SV.v t112)) <|
M.both (
M.app Try.prog 39 39 39 (SV.mk (some b133) 0 0) (SV.v (SV.sub t112 (Int.toNat (0 : Int)) (Int.toNat x57) 6)) w131 fun s137 w138 =>
M.keep (w138.cell? a110 = some (SV.v t125)) <|
M.keep (Cs w138 b2 0 [(Value.int .u32 t118), (Value.int .i64 t119), (Value.bool t120), (Value.int .i64 t121), (Value.int .u32 t122), (Value.float .f64 t123)]) <|
M.new (.cells #[(Value.int .u32 t118), (Value.int .i64 t119), (Value.bool t120), (Value.int .i64 t121), (Value.int .u32 t122), (Value.float .f64 t123)] 33) w138 fun b144 w142 =>
M.keep (w142.cell? a110 = some (SV.v t125)) <|
M.keep (w142.cell? a108 = some (SV.v t112)) <|
M.app Try.prog 39 39 39 s137 (SV.v (SV.mk (some b144) 1 1)) w142 fun s147 w148 =>
M.keep (w148.cell? a110 = some (SV.v t125)) <|
M.app Try.prog 39 39 39 s147 (SV.v (SV.sub t125 (Int.toNat x57) (Int.toNat (t125.len : Int)) 6)) w148 fun s151 w152 =>
M.nil p0 fun a154 =>
M.st a154 (SV.v s151) w152 fun w156 =>
J106 w156) (
M.new (.cells #[(Value.int .u32 t118), (Value.int .i64 t119), (Value.bool t120), (Value.int .i64 t121), (Value.int .u32 t122), (Value.float .f64 t123)] 33) w131 fun b161 w159 =>
M.keep (w159.cell? a110 = some (SV.v t125)) <|
M.keep (w159.cell? a108 = some (SV.v t112)) <|
M.app Try.prog 39 39 39 (SV.mk (some b133) 0 0) (SV.v (SV.sub t112 (Int.toNat (0 : Int)) (Int.toNat x57) 6)) w159 fun s164 w165 =>
M.keep (w165.cell? a110 = some (SV.v t125)) <|
M.keep (Cs w165 b2 0 [(Value.int .u32 t118), (Value.int .i64 t119), (Value.bool t120), (Value.int .i64 t121), (Value.int .u32 t122), (Value.float .f64 t123)]) <|
M.app Try.prog 39 39 39 s164 (SV.v (SV.mk (some b161) 1 1)) w165 fun s169 w170 =>
M.keep (w170.cell? a110 = some (SV.v t125)) <|
M.app Try.prog 39 39 39 s169 (SV.v (SV.sub t125 (Int.toNat x57) (Int.toNat (t125.len : Int)) 6)) w170 fun s173 w174 =>
M.nil p0 fun a176 =>
M.st a176 (SV.v s173) w174 fun w178 =>
J106 w178)) (
M.new (.cells #[(Value.int .u32 t118), (Value.int .i64 t119), (Value.bool t120), (Value.int .i64 t121), (Value.int .u32 t122), (Value.float .f64 t123)] 33) w107 fun b183 w181 =>
M.keep (w181.cell? a110 = some (SV.v t125)) <|
M.keep (w181.cell? a108 = some (SV.v t112)) <|
M.new (.cells #[] 33) w181 fun b188 w186 =>
M.keep (w186.cell? a110 = some (SV.v t125)) <|
M.keep (Cs w186 b2 0 [(Value.int .u32 t118), (Value.int .i64 t119), (Value.bool t120), (Value.int .i64 t121), (Value.int .u32 t122), (Value.float .f64 t123)]) <|
M.keep (w186.cell? a108 = some (SV.v t112)) <|
M.app Try.prog 39 39 39 (SV.mk (some b188) 0 0) (SV.v (SV.sub t112 (Int.toNat (0 : Int)) (Int.toNat x57) 6)) w186 fun s192 w193 =>
M.keep (w193.cell? a110 = some (SV.v t125)) <|
M.keep (Cs w193 b2 0 [(Value.int .u32 t118), (Value.int .i64 t119), (Value.bool t120), (Value.int .i64 t121), (Value.int .u32 t122), (Value.float .f64 t123)]) <|
M.app Try.prog 39 39 39 s192 (SV.v (SV.mk (some b183) 1 1)) w193 fun s197 w198 =>
M.keep (w198.cell? a110 = some (SV.v t125)) <|
M.app Try.prog 39 39 39 s197 (SV.v (SV.sub t125 (Int.toNat x57) (Int.toNat (t125.len : Int)) 6)) w198 fun s201 w202 =>
M.nil p0 fun a204 =>
M.st a204 (SV.v s201) w202 fun w206 =>
J106 w206))) fun J71 => 
M.drew w59 fun w73 => 
M.nil p0 fun a74 =>
M.ld SV.v a74 w73 fun t76 =>
M.ite (decide (x57 < (t76.len : Int))) (
M.nil p0 fun a79 =>
M.ld SV.v a79 w73 fun t81 =>
M.idx t81 x57 6 fun a83 =>
M.ld (Value.int .u32) (a83.add (x57.toNat * 6)) w73 fun t87 =>
M.ld (Value.int .i64) ((a83.add (x57.toNat * 6)).add 1) w73 fun t89 =>
M.ld (Value.int .u32) b2 w73 fun t91 =>
M.ld (Value.int .i64) (b2.add 1) w73 fun t93 =>
Calls Try.prog 12 #[(Value.agg #[(Value.int .u32 t87), (Value.int .i64 t89)]), (Value.agg #[(Value.int .u32 t91), (Value.int .i64 t93)])] w73 (R12 fun r95 w96 =>
J71 r95 w96)) (
J71 false w73)) (0 : Int) w56))) fun J36 => 
M.ite (!r30) (
M.nil p0 fun a39 =>
M.ld SV.v a39 w34 fun t41 =>
J36 (decide ((64 : Int) ≤ (t41.len : Int))) w34) (
J36 false w34)))))
theorem F40_ok {w0 : World} {p0 : Option Addr} {p1_0 : Int} {p1_1 : Int} {p1_2 : Bool} {p1_3 : Int} {p1_4 : Int} {p1_5 : Nat} {K : Bool → Int → World → Prop} (h : F40 p0 p1_0 p1_1 p1_2 p1_3 p1_4 p1_5 K w0) : Calls Try.prog 40 #[(Value.pointer p0), (Value.agg #[(Value.int .u32 p1_0), (Value.int .i64 p1_1), (Value.bool p1_2), (Value.int .i64 p1_3), (Value.int .u32 p1_4), (Value.float .f64 p1_5)])] w0 (R40 K) := by
  refine calls_of_WE (args := [(Value.pointer p0), (Value.agg #[(Value.int .u32 p1_0), (Value.int .i64 p1_1), (Value.bool p1_2), (Value.int .i64 p1_3), (Value.int .u32 p1_4), (Value.float .f64 p1_5)])]) (rs := [.tmp 4, .tmp 5]) Try.func40 rfl (N := 88) rfl rfl rfl rfl ?_
  refine WE.seq ?_
  refine WE.reg ?_
  obtain ⟨b2, hpb2, w1, hww1, h⟩ := M.new_use h
  refine LE.r (v := (Value.pointer (some b2))) (Wn.no rfl) rfl (R.box (cs := #[(Value.int .u32 p1_0), (Value.int .i64 p1_1), (Value.bool p1_2), (Value.int .i64 p1_3), (Value.int .u32 p1_4), (Value.float .f64 p1_5)]) rfl rfl hpb2 hww1) ?_
  refine LE.p (v := (Value.bool false)) (Wn.no rfl) rfl (R.assign rfl) ?_
  refine LE.p (v := (Value.int .i64 (0 : Int))) (Wn.no rfl) rfl (R.assign rfl) ?_
  refine LE.nil ?_
  refine WE.seq ?_
  refine WE.seq ?_
  refine WE.reg ?_
  obtain ⟨t3, t4, t5, t6, t7, t8, h9, h⟩ := h
  refine LE.r (v := (Value.agg #[(Value.int .u32 t3), (Value.int .i64 t4), (Value.bool t5), (Value.int .i64 t6), (Value.int .u32 t7), (Value.float .f64 t8)])) (Wn.no rfl) rfl (R.ldA ag33 sz33 rfl rfl h9) ?_
  refine LE.c (Wn.no rfl) rfl (R.call bd41 (Ls.cons rfl Ls.nil) rfl) (Calls.mono h ?_)
  rintro _ w11 ⟨r10, rfl, h⟩
  refine ⟨_, rfl, ?_⟩
  refine LE.p (v := (Value.bool (!r10))) (Wn.no rfl) rfl (R.not rfl) ?_
  refine LE.nil ?_
  refine WE.condT rfl (b := (!r10)) rfl ?_ ?_
  · intro hb12
    replace h := M.ite_t h hb12
    refine WE.seq ?_
    refine WE.reg ?_
    refine LE.p (v := (Value.bool false)) (Wn.no rfl) rfl (R.assign rfl) ?_
    refine LE.p (v := (Value.int .i64 (12 : Int))) (Wn.no rfl) rfl (R.assign rfl) ?_
    refine LE.nil ?_
    refine WE.ret ?_
    exact ⟨_, (Res.tmp rfl (Res.tmp rfl Res.nil)), _, _, rfl, h⟩
  · intro hb12
    replace h := M.ite_f h hb12
    refine WE.skip ?_
    refine WE.seq ?_
    refine WE.reg ?_
    refine LE.p (v := (Value.pointer (some (b2.add 5)))) (Wn.no rfl) rfl (R.fld (off := 5) fa33_4 rfl) ?_
    obtain ⟨t13, h14, h⟩ := h
    refine LE.r (v := (Value.float .f64 t13)) (Wn.no rfl) rfl (R.ld sc31 rfl h14) ?_
    refine LE.c (Wn.no rfl) rfl (R.call bd55 (Ls.cons rfl Ls.nil) rfl) (Calls.mono h ?_)
    rintro _ w16 ⟨r15, rfl, h⟩
    refine ⟨_, rfl, ?_⟩
    refine LE.p (v := (Value.pointer (some (b2.add 5)))) (Wn.no rfl) rfl (R.fld (off := 5) fa33_4 rfl) ?_
    obtain ⟨w17, hww17, h18, h19, h⟩ := M.st_use h
    refine LE.s (Wn.no rfl) rfl (R.st (a := (b2.add 5)) (v := (Value.float .f64 r15)) sz31 rfl rfl rfl rfl h18 h19 hww17) ?_
    refine LE.nil ?_
    refine WE.seq ?_
    refine WE.reg ?_
    refine LE.p (v := (Value.pointer p0)) (Wn.no rfl) rfl (R.move rfl) ?_
    refine LE.p (v := (Value.pointer (some b2))) (Wn.no rfl) rfl (R.fld (off := 0) fa33_0 rfl) ?_
    obtain ⟨t20, h21, h⟩ := h
    obtain ⟨t22, h23, h⟩ := h
    refine LE.r (v := (Value.agg #[(Value.int .u32 t20), (Value.int .i64 t22)])) (Wn.no rfl) rfl (R.ldA ag30 sz30 rfl rfl (Cs.cons h21 (Cs.cons h23 Cs.nil))) ?_
    refine LE.c (Wn.no rfl) rfl (R.call bd44 (Ls.cons rfl (Ls.cons rfl Ls.nil)) rfl) (Calls.mono h ?_)
    rintro _ w31 ⟨r24, r25, r26, r27, r28, r29, r30, rfl, h⟩
    refine ⟨_, rfl, ?_⟩
    refine LE.p (v := (Value.tuple #[(Value.agg #[(Value.int .u32 r24), (Value.int .i64 r25), (Value.bool r26), (Value.int .i64 r27), (Value.int .u32 r28), (Value.float .f64 r29)]), (Value.bool r30)])) (Wn.no rfl) rfl (R.move rfl) ?_
    refine LE.p (v := (Value.agg #[(Value.int .u32 r24), (Value.int .i64 r25), (Value.bool r26), (Value.int .i64 r27), (Value.int .u32 r28), (Value.float .f64 r29)])) (Wn.no rfl) rfl (R.ext rfl rfl) ?_
    refine LE.p (v := (Value.bool r30)) (Wn.no rfl) rfl (R.ext rfl rfl) ?_
    obtain ⟨b33, hpb33, w32, hww32, h⟩ := M.new_use h
    refine LE.r (v := (Value.pointer (some b33))) (Wn.no rfl) rfl (R.alloc (cs := #[(Value.int .u32 (0 : Int)), (Value.int .i64 (0 : Int)), (Value.bool false), (Value.int .i64 (0 : Int)), (Value.int .u32 (0 : Int)), (Value.float .f64 (0 : Nat))]) ze33 rfl hpb33 hww32) ?_
    obtain ⟨w34, hww34, h35, h⟩ := M.stA_use h
    refine LE.s (Wn.no rfl) rfl (R.stA (a := b33) [(Value.int .u32 r24), (Value.int .i64 r25), (Value.bool r26), (Value.int .i64 r27), (Value.int .u32 r28), (Value.float .f64 r29)] sz33 rfl rfl rfl (by simp [Value.oneCell']) h35 hww34) ?_
    refine LE.p (v := (Value.bool r30)) (Wn.no rfl) rfl (R.assign rfl) ?_
    refine LE.nil ?_
    refine WE.seq ?_
    refine WE.seq ?_
    obtain ⟨J36, hJ36, h⟩ := M.join_use h
    refine WE.regJ (fun e w => ∃ (x37 : Bool), J36 x37 w ∧ e 0 = (Value.pointer p0) ∧ e 3 = (Value.pointer (some b2)) ∧ e 6 = (Value.pointer (some b33)) ∧ e 7 = (Value.bool r30) ∧ e 32 = (Value.bool x37)) ?_ ?_
    · clear hJ36
      refine LE.p (v := (Value.bool r30)) (Wn.no rfl) rfl (R.move rfl) ?_
      refine LE.p (v := (Value.bool (!r30))) (Wn.no rfl) rfl (R.not rfl) ?_
      refine LE.p (v := (Value.bool (!r30))) (Wn.no rfl) rfl (R.move rfl) ?_
      rcases M.ite_use h with ⟨hb38, h⟩ | ⟨hb38, h⟩
      · refine LE.p (v := (Value.pointer p0)) (Wn.yes 2 25 true rfl rfl rfl (congrArg Value.bool hb38)) rfl (R.move rfl) ?_
        obtain ⟨a39, h40, h⟩ := h
        refine LE.p (v := (Value.pointer (some a39))) (Wn.yes 2 25 true rfl rfl rfl (congrArg Value.bool hb38)) rfl (R.nilC (congrArg Value.pointer h40)) ?_
        refine LE.p (v := (Value.pointer (some a39))) (Wn.yes 2 25 true rfl rfl rfl (congrArg Value.bool hb38)) rfl (R.fld (off := 0) fa49_0 rfl) ?_
        obtain ⟨t41, h42, h⟩ := h
        refine LE.r (v := (SV.v t41)) (Wn.yes 2 25 true rfl rfl rfl (congrArg Value.bool hb38)) rfl (R.ld sc39 rfl h42) ?_
        refine LE.p (v := (Value.int .i64 (t41.len : Int))) (Wn.yes 2 25 true rfl rfl rfl (congrArg Value.bool hb38)) rfl (R.len sl39 rfl) ?_
        refine LE.p (v := (Value.bool (decide ((64 : Int) ≤ (t41.len : Int))))) (Wn.yes 2 25 true rfl rfl rfl (congrArg Value.bool hb38)) rfl (R.geq rfl rfl) ?_
        refine LE.p (v := (Value.bool (decide ((64 : Int) ≤ (t41.len : Int))))) (Wn.no rfl) rfl (R.pickT (congrArg Value.bool hb38) rfl) ?_
        refine LE.nil ?_
        exact ⟨_, h, rfl, rfl, rfl, rfl, rfl⟩
      · refine LE.u (Un.no 2 25 true rfl rfl rfl (congrArg Value.bool hb38)) ?_
        refine LE.u (Un.no 2 25 true rfl rfl rfl (congrArg Value.bool hb38)) ?_
        refine LE.u (Un.no 2 25 true rfl rfl rfl (congrArg Value.bool hb38)) ?_
        refine LE.u (Un.no 2 25 true rfl rfl rfl (congrArg Value.bool hb38)) ?_
        refine LE.u (Un.no 2 25 true rfl rfl rfl (congrArg Value.bool hb38)) ?_
        refine LE.u (Un.no 2 25 true rfl rfl rfl (congrArg Value.bool hb38)) ?_
        refine LE.p (v := (Value.bool false)) (Wn.no rfl) rfl (R.pickF (congrArg Value.bool hb38) rfl) ?_
        refine LE.nil ?_
        exact ⟨_, h, rfl, rfl, rfl, rfl, rfl⟩
    · rintro e43 w44 ⟨x37, h, f45, f46, f47, f48, f49⟩
      subst hJ36
      refine WE.condT rfl (b := x37) f49 ?_ ?_
      · intro hb50
        replace h := M.ite_t h hb50
        refine WE.seq ?_
        refine WE.reg ?_
        refine LE.p (v := (Value.bool false)) (Wn.no rfl) rfl (R.assign rfl) ?_
        refine LE.p (v := (Value.int .i64 (13 : Int))) (Wn.no rfl) rfl (R.assign rfl) ?_
        refine LE.nil ?_
        refine WE.ret ?_
        exact ⟨_, (Res.tmp rfl (Res.tmp rfl Res.nil)), _, _, rfl, h⟩
      · intro hb50
        replace h := M.ite_f h hb50
        refine WE.skip ?_
        refine WE.seq ?_
        refine WE.reg ?_
        refine LE.p (v := (Value.pointer p0)) (Wn.no rfl) rfl (R.move f45) ?_
        refine LE.p (v := (Value.pointer (some b2))) (Wn.no rfl) rfl (R.fld (off := 0) fa33_0 f46) ?_
        obtain ⟨t51, h52, h⟩ := h
        obtain ⟨t53, h54, h⟩ := h
        refine LE.r (v := (Value.agg #[(Value.int .u32 t51), (Value.int .i64 t53)])) (Wn.no rfl) rfl (R.ldA ag30 sz30 rfl rfl (Cs.cons h52 (Cs.cons h54 Cs.nil))) ?_
        refine LE.c (Wn.no rfl) rfl (R.call bd42 (Ls.cons rfl (Ls.cons rfl Ls.nil)) rfl) (Calls.mono h ?_)
        rintro _ w56 ⟨r55, rfl, h⟩
        refine ⟨_, rfl, ?_⟩
        refine LE.nil ?_
        refine WE.seq ?_
        refine WE.reg ?_
        refine LE.p (v := (Value.int .i64 (0 : Int))) (Wn.no rfl) rfl (R.assign rfl) ?_
        refine LE.nil ?_
        refine WE.seq ?_
        refine WE.block ?_
        obtain ⟨I62, ⟨n61, h⟩, hr63⟩ := h
        refine WE.loop (fun n e w => ∃ (x57 : Int), I62 n x57 w ∧ e 0 = (Value.pointer p0) ∧ e 3 = (Value.pointer (some b2)) ∧ e 6 = (Value.pointer (some b33)) ∧ e 7 = (Value.bool r30) ∧ e 8 = (Value.int .i64 x57)) n61 ⟨_, h, f45, f46, f47, f48, rfl⟩ ?_
        clear h
        rintro n61 e60 w59 ⟨x57, h, f66, f67, f68, f69, f70⟩
        replace h := hr63 n61 x57 w59 h
        refine WE.seq ?_
        refine WE.seq ?_
        obtain ⟨J71, hJ71, h⟩ := M.join_use h
        refine WE.drawJ (fun e w => ∃ (x72 : Bool), J71 x72 w ∧ e 0 = (Value.pointer p0) ∧ e 3 = (Value.pointer (some b2)) ∧ e 6 = (Value.pointer (some b33)) ∧ e 7 = (Value.bool r30) ∧ e 8 = (Value.int .i64 x57) ∧ e 56 = (Value.bool x72)) mix ?_ ?_
        · clear hJ71
          obtain ⟨w73, hww73, h⟩ := M.drew_use h
          rw [← hww73]
          clear hww73
          refine DE.t 0 (v := (Value.int .i64 x57)) rfl (by kernel_rfl) (Wn.no rfl) rfl (R.move f70) ?_
          refine DE.t 1 (v := (Value.pointer p0)) rfl (by kernel_rfl) (Wn.no rfl) rfl (R.move f66) ?_
          obtain ⟨a74, h75, h⟩ := h
          refine DE.t 2 (v := (Value.pointer (some a74))) rfl (by kernel_rfl) (Wn.no rfl) rfl (R.nilC (congrArg Value.pointer h75)) ?_
          refine DE.t 3 (v := (Value.pointer (some a74))) rfl (by kernel_rfl) (Wn.no rfl) rfl (R.fld (off := 0) fa49_0 rfl) ?_
          obtain ⟨t76, h77, h⟩ := h
          refine DE.main 4 (by kernel_rfl) ?_
          refine One.r 4 (v := (SV.v t76)) rfl (Wn.no rfl) rfl (R.ld sc39 rfl h77) (.inl rfl) ?_
          refine DE.t 5 (v := (Value.int .i64 (t76.len : Int))) rfl (by kernel_rfl) (Wn.no rfl) rfl (R.len sl39 rfl) ?_
          refine DE.t 6 (v := (Value.bool (decide (x57 < (t76.len : Int))))) rfl (by kernel_rfl) (Wn.no rfl) rfl (R.lss rfl rfl) ?_
          refine DE.t 7 (v := (Value.bool (decide (x57 < (t76.len : Int))))) rfl (by kernel_rfl) (Wn.no rfl) rfl (R.move rfl) ?_
          rcases M.ite_use h with ⟨hb78, h⟩ | ⟨hb78, h⟩
          · refine DE.t 8 (v := (Value.pointer p0)) rfl (by kernel_rfl) (Wn.yes 7 44 true rfl rfl rfl (congrArg Value.bool hb78)) rfl (R.move f66) ?_
            obtain ⟨a79, h80, h⟩ := h
            refine DE.t 9 (v := (Value.pointer (some a79))) rfl (by kernel_rfl) (Wn.yes 7 44 true rfl rfl rfl (congrArg Value.bool hb78)) rfl (R.nilC (congrArg Value.pointer h80)) ?_
            refine DE.t 10 (v := (Value.pointer (some a79))) rfl (by kernel_rfl) (Wn.yes 7 44 true rfl rfl rfl (congrArg Value.bool hb78)) rfl (R.fld (off := 0) fa49_0 rfl) ?_
            refine DE.t 12 (v := (Value.int .i64 x57)) rfl (by kernel_rfl) (Wn.yes 7 44 true rfl rfl rfl (congrArg Value.bool hb78)) rfl (R.move f70) ?_
            refine DE.t 16 (v := (Value.pointer (some b2))) rfl (by kernel_rfl) (Wn.yes 7 44 true rfl rfl rfl (congrArg Value.bool hb78)) rfl (R.fld (off := 0) fa33_0 f67) ?_
            obtain ⟨t81, h82, h⟩ := h
            refine DE.hold 11 (fun w => w.cell? a79 = some (SV.v t81)) (v := (SV.v t81)) rfl (by kernel_rfl) (Wn.yes 7 44 true rfl rfl rfl (congrArg Value.bool hb78)) rfl h82 (fun w hs => R.ld sc39 rfl hs) ?_
            obtain ⟨a83, h84, h85, h86, h⟩ := h
            refine DE.t 13 (v := (Value.pointer (some (a83.add (x57.toNat * 6))))) rfl (by kernel_rfl) (Wn.yes 7 44 true rfl rfl rfl (congrArg Value.bool hb78)) rfl (R.idx (s := t81) sl39 rfl rfl h84 h85 h86) ?_
            refine DE.t 14 (v := (Value.pointer (some (a83.add (x57.toNat * 6))))) rfl (by kernel_rfl) (Wn.yes 7 44 true rfl rfl rfl (congrArg Value.bool hb78)) rfl (R.fld (off := 0) fa33_0 rfl) ?_
            obtain ⟨t87, h88, h⟩ := h
            obtain ⟨t89, h90, h⟩ := h
            refine DE.hold 15 (fun w => w.cell? (a83.add (x57.toNat * 6)) = some (Value.int .u32 t87) ∧ w.cell? ((a83.add (x57.toNat * 6)).add 1) = some (Value.int .i64 t89)) (v := (Value.agg #[(Value.int .u32 t87), (Value.int .i64 t89)])) rfl (by kernel_rfl) (Wn.yes 7 44 true rfl rfl rfl (congrArg Value.bool hb78)) rfl ⟨h88, h90⟩ (fun w hs => R.ldA ag30 sz30 rfl rfl (Cs.cons hs.1 (Cs.cons hs.2 Cs.nil))) ?_
            obtain ⟨t91, h92, h⟩ := h
            obtain ⟨t93, h94, h⟩ := h
            refine DE.main 17 (by kernel_rfl) ?_
            refine One.r 17 (v := (Value.agg #[(Value.int .u32 t91), (Value.int .i64 t93)])) rfl (Wn.yes 7 44 true rfl rfl rfl (congrArg Value.bool hb78)) rfl (R.ldA ag30 sz30 rfl rfl (Cs.cons h92 (Cs.cons h94 Cs.nil))) (.inl rfl) ?_
            refine DE.main 18 (by kernel_rfl) ?_
            refine One.c 18 rfl (Wn.yes 7 44 true rfl rfl rfl (congrArg Value.bool hb78)) rfl (R.call bd12 (Ls.cons rfl (Ls.cons rfl Ls.nil)) rfl) (Calls.mono h ?_)
            rintro _ w96 ⟨r95, rfl, h⟩
            refine ⟨_, rfl, ⟨aftT (by kernel_rfl), aftT (by kernel_rfl), trivial⟩, ?_⟩
            refine DE.t 19 (v := (Value.bool r95)) rfl (by kernel_rfl) (Wn.no rfl) rfl (R.pickT (congrArg Value.bool hb78) rfl) ?_
            refine DE.done (by kernel_rfl) ?_
            exact ⟨_, h, f66, f67, f68, f69, f70, rfl⟩
          · refine DE.u 8 rfl (by kernel_rfl) (Un.no 7 44 true rfl rfl rfl (congrArg Value.bool hb78)) ?_
            refine DE.u 9 rfl (by kernel_rfl) (Un.no 7 44 true rfl rfl rfl (congrArg Value.bool hb78)) ?_
            refine DE.u 10 rfl (by kernel_rfl) (Un.no 7 44 true rfl rfl rfl (congrArg Value.bool hb78)) ?_
            refine DE.u 11 rfl (by kernel_rfl) (Un.no 7 44 true rfl rfl rfl (congrArg Value.bool hb78)) ?_
            refine DE.u 12 rfl (by kernel_rfl) (Un.no 7 44 true rfl rfl rfl (congrArg Value.bool hb78)) ?_
            refine DE.u 13 rfl (by kernel_rfl) (Un.no 7 44 true rfl rfl rfl (congrArg Value.bool hb78)) ?_
            refine DE.u 14 rfl (by kernel_rfl) (Un.no 7 44 true rfl rfl rfl (congrArg Value.bool hb78)) ?_
            refine DE.u 15 rfl (by kernel_rfl) (Un.no 7 44 true rfl rfl rfl (congrArg Value.bool hb78)) ?_
            refine DE.u 16 rfl (by kernel_rfl) (Un.no 7 44 true rfl rfl rfl (congrArg Value.bool hb78)) ?_
            refine DE.u 17 rfl (by kernel_rfl) (Un.no 7 44 true rfl rfl rfl (congrArg Value.bool hb78)) ?_
            refine DE.u 18 rfl (by kernel_rfl) (Un.no 7 44 true rfl rfl rfl (congrArg Value.bool hb78)) ?_
            refine DE.t 19 (v := (Value.bool false)) rfl (by kernel_rfl) (Wn.no rfl) rfl (R.pickF (congrArg Value.bool hb78) rfl) ?_
            refine DE.done (by kernel_rfl) ?_
            exact ⟨_, h, f66, f67, f68, f69, f70, rfl⟩
        · rintro e97 w98 ⟨x72, h, f99, f100, f101, f102, f103, f104⟩
          subst hJ71
          refine WE.condT rfl (b := x72) f104 ?_ ?_
          · intro hb105
            replace h := M.ite_t h hb105
            refine WE.skip ?_
            refine WE.block ?_
            refine WE.reg ?_
            refine LE.p (v := (Value.int .i64 x57)) (Wn.no rfl) rfl (R.move f103) ?_
            refine LE.p (v := (Value.int .i64 (IntKind.i64.wrap (x57 + (1 : Int))))) (Wn.no rfl) rfl (R.add rfl rfl) ?_
            refine LE.p (v := (Value.int .i64 (IntKind.i64.wrap (x57 + (1 : Int))))) (Wn.no rfl) rfl (R.assign rfl) ?_
            refine LE.nil ?_
            obtain ⟨m64, hm65, h⟩ := h
            exact ⟨m64, hm65, _, h, f99, f100, f101, f102, rfl⟩
          · intro hb105
            replace h := M.ite_f h hb105
            refine WE.exit ?_
            refine WE.seq ?_
            obtain ⟨J106, hJ106, h⟩ := M.join_use h
            refine WE.drawJ (fun e w => J106 w ∧ e 3 = (Value.pointer (some b2)) ∧ e 6 = (Value.pointer (some b33)) ∧ e 7 = (Value.bool r30)) mix ?_ ?_
            · clear hJ106
              obtain ⟨w107, hww107, h⟩ := M.drew_use h
              rw [← hww107]
              clear hww107
              refine DE.t 0 (v := (Value.pointer p0)) rfl (by kernel_rfl) (Wn.no rfl) rfl (R.move f99) ?_
              refine DE.t 2 (v := (Value.pointer p0)) rfl (by kernel_rfl) (Wn.no rfl) rfl (R.move f99) ?_
              obtain ⟨a108, h109, h⟩ := h
              refine DE.t 3 (v := (Value.pointer (some a108))) rfl (by kernel_rfl) (Wn.no rfl) rfl (R.nilC (congrArg Value.pointer h109)) ?_
              refine DE.t 4 (v := (Value.pointer (some a108))) rfl (by kernel_rfl) (Wn.no rfl) rfl (R.fld (off := 0) fa49_0 rfl) ?_
              refine DE.t 6 (v := (Value.int .i64 x57)) rfl (by kernel_rfl) (Wn.no rfl) rfl (R.move f103) ?_
              refine DE.t 12 (v := (Value.pointer p0)) rfl (by kernel_rfl) (Wn.no rfl) rfl (R.move f99) ?_
              obtain ⟨a110, h111, h⟩ := h
              refine DE.t 13 (v := (Value.pointer (some a110))) rfl (by kernel_rfl) (Wn.no rfl) rfl (R.nilC (congrArg Value.pointer h111)) ?_
              refine DE.t 14 (v := (Value.pointer (some a110))) rfl (by kernel_rfl) (Wn.no rfl) rfl (R.fld (off := 0) fa49_0 rfl) ?_
              refine DE.t 16 (v := (Value.int .i64 x57)) rfl (by kernel_rfl) (Wn.no rfl) rfl (R.move f103) ?_
              obtain ⟨t112, h113, h⟩ := h
              refine DE.hold 5 (fun w => w.cell? a108 = some (SV.v t112)) (v := (SV.v t112)) rfl (by kernel_rfl) (Wn.no rfl) rfl h113 (fun w hs => R.ld sc39 rfl hs) ?_
              obtain ⟨h114, h115, h116, h⟩ := h
              refine DE.t 7 (v := (SV.v (SV.sub t112 (Int.toNat (0 : Int)) (Int.toNat x57) 6))) rfl (by kernel_rfl) (Wn.no rfl) rfl (R.slc (s := t112) (lo := (0 : Int)) (hi := x57) _ _ sl39 rfl rfl rfl h114 h115 h116) ?_
              obtain ⟨t118, t119, t120, t121, t122, t123, h124, h⟩ := h
              refine DE.hold 9 (fun w => Cs w b2 0 [(Value.int .u32 t118), (Value.int .i64 t119), (Value.bool t120), (Value.int .i64 t121), (Value.int .u32 t122), (Value.float .f64 t123)]) (v := (Value.agg #[(Value.int .u32 t118), (Value.int .i64 t119), (Value.bool t120), (Value.int .i64 t121), (Value.int .u32 t122), (Value.float .f64 t123)])) rfl (by kernel_rfl) (Wn.no rfl) rfl h124 (fun w hs => R.ldA ag33 sz33 f100 rfl hs) ?_
              obtain ⟨t125, h126, h⟩ := h
              refine DE.hold 15 (fun w => w.cell? a110 = some (SV.v t125)) (v := (SV.v t125)) rfl (by kernel_rfl) (Wn.no rfl) rfl h126 (fun w hs => R.ld sc39 rfl hs) ?_
              obtain ⟨h127, h128, h129, h⟩ := h
              refine DE.t 17 (v := (SV.v (SV.sub t125 (Int.toNat x57) (Int.toNat (t125.len : Int)) 6))) rfl (by kernel_rfl) (Wn.no rfl) rfl (R.slc (s := t125) (lo := x57) (hi := (t125.len : Int)) _ _ sl39 rfl rfl rfl h127 h128 h129) ?_
              refine DE.main2 1 10 (by kernel_rfl) ?_ ?_
              · replace h := h.1
                obtain ⟨b133, hpb133, w131, hww131, h⟩ := M.new_use h
                obtain ⟨k134, h⟩ := h
                obtain ⟨k135, h⟩ := h
                obtain ⟨k136, h⟩ := h
                refine One.r 1 (v := (SV.v (SV.mk (some b133) 0 0))) rfl (Wn.no rfl) rfl (R.bsl (by exact Ls.nil) (fun w => bs39_0  w) hpb133 hww131) (.inr ⟨fun _ => k134, fun _ => k135, fun _ => k136, trivial⟩) ?_
                refine DE.main2 8 10 (by kernel_rfl) ?_ ?_
                · replace h := h.1
                  obtain ⟨s137, w138, h139, h⟩ := h
                  obtain ⟨k140, h⟩ := h
                  obtain ⟨k141, h⟩ := h
                  refine One.r 8 (v := (SV.v s137)) rfl (Wn.no rfl) rfl (R.app (s := (SV.mk (some b133) 0 0)) (r := s137) rfl rfl h139) (.inr ⟨fun _ => k140, fun _ => k141, aftT (by kernel_rfl), trivial⟩) ?_
                  obtain ⟨b144, hpb144, w142, hww142, h⟩ := M.new_use h
                  obtain ⟨k145, h⟩ := h
                  obtain ⟨k146, h⟩ := h
                  refine DE.main 10 (by kernel_rfl) ?_
                  refine One.r 10 (v := (SV.v (SV.mk (some b144) 1 1))) rfl (Wn.no rfl) rfl (R.bsl (by exact (Ls.cons (R.Pr rfl) Ls.nil)) (fun w => bs39_1 t118 t119 t120 t121 t122 t123 w) hpb144 hww142) (.inr ⟨fun _ => k145, aftT (by kernel_rfl), fun _ => k146, trivial⟩) ?_
                  obtain ⟨s147, w148, h149, h⟩ := h
                  obtain ⟨k150, h⟩ := h
                  refine DE.main 11 (by kernel_rfl) ?_
                  refine One.r 11 (v := (SV.v s147)) rfl (Wn.no rfl) rfl (R.app (s := s137) (r := s147) rfl rfl h149) (.inr ⟨fun _ => k150, aftT (by kernel_rfl), aftT (by kernel_rfl), trivial⟩) ?_
                  obtain ⟨s151, w152, h153, h⟩ := h
                  refine DE.main 18 (by kernel_rfl) ?_
                  refine One.r 18 (v := (SV.v s151)) rfl (Wn.no rfl) rfl (R.app (s := s147) (r := s151) rfl rfl h153) (.inr ⟨aftT (by kernel_rfl), aftT (by kernel_rfl), aftT (by kernel_rfl), trivial⟩) ?_
                  obtain ⟨a154, h155, h⟩ := h
                  refine DE.t 19 (v := (Value.pointer (some a154))) rfl (by kernel_rfl) (Wn.no rfl) rfl (R.nilC (congrArg Value.pointer h155)) ?_
                  refine DE.t 20 (v := (Value.pointer (some a154))) rfl (by kernel_rfl) (Wn.no rfl) rfl (R.fld (off := 0) fa49_0 rfl) ?_
                  obtain ⟨w156, hww156, h157, h158, h⟩ := M.st_use h
                  refine DE.main 21 (by kernel_rfl) ?_
                  refine One.s 21 rfl (Wn.no rfl) rfl (R.st (a := a154) (v := (SV.v s151)) sz39 rfl rfl rfl rfl h157 h158 hww156) ⟨aftT (by kernel_rfl), aftT (by kernel_rfl), aftT (by kernel_rfl), trivial⟩ ?_
                  refine DE.done (by kernel_rfl) ?_
                  exact ⟨h, f100, f101, f102⟩
                · replace h := h.2
                  obtain ⟨b161, hpb161, w159, hww159, h⟩ := M.new_use h
                  obtain ⟨k162, h⟩ := h
                  obtain ⟨k163, h⟩ := h
                  refine One.r 10 (v := (SV.v (SV.mk (some b161) 1 1))) rfl (Wn.no rfl) rfl (R.bsl (by exact (Ls.cons (R.Pr rfl) Ls.nil)) (fun w => bs39_1 t118 t119 t120 t121 t122 t123 w) hpb161 hww159) (.inr ⟨fun _ => k162, aftT (by kernel_rfl), fun _ => k163, trivial⟩) ?_
                  obtain ⟨s164, w165, h166, h⟩ := h
                  obtain ⟨k167, h⟩ := h
                  obtain ⟨k168, h⟩ := h
                  refine DE.main 8 (by kernel_rfl) ?_
                  refine One.r 8 (v := (SV.v s164)) rfl (Wn.no rfl) rfl (R.app (s := (SV.mk (some b133) 0 0)) (r := s164) rfl rfl h166) (.inr ⟨fun _ => k167, fun _ => k168, aftT (by kernel_rfl), trivial⟩) ?_
                  obtain ⟨s169, w170, h171, h⟩ := h
                  obtain ⟨k172, h⟩ := h
                  refine DE.main 11 (by kernel_rfl) ?_
                  refine One.r 11 (v := (SV.v s169)) rfl (Wn.no rfl) rfl (R.app (s := s164) (r := s169) rfl rfl h171) (.inr ⟨fun _ => k172, aftT (by kernel_rfl), aftT (by kernel_rfl), trivial⟩) ?_
                  obtain ⟨s173, w174, h175, h⟩ := h
                  refine DE.main 18 (by kernel_rfl) ?_
                  refine One.r 18 (v := (SV.v s173)) rfl (Wn.no rfl) rfl (R.app (s := s169) (r := s173) rfl rfl h175) (.inr ⟨aftT (by kernel_rfl), aftT (by kernel_rfl), aftT (by kernel_rfl), trivial⟩) ?_
                  obtain ⟨a176, h177, h⟩ := h
                  refine DE.t 19 (v := (Value.pointer (some a176))) rfl (by kernel_rfl) (Wn.no rfl) rfl (R.nilC (congrArg Value.pointer h177)) ?_
                  refine DE.t 20 (v := (Value.pointer (some a176))) rfl (by kernel_rfl) (Wn.no rfl) rfl (R.fld (off := 0) fa49_0 rfl) ?_
                  obtain ⟨w178, hww178, h179, h180, h⟩ := M.st_use h
                  refine DE.main 21 (by kernel_rfl) ?_
                  refine One.s 21 rfl (Wn.no rfl) rfl (R.st (a := a176) (v := (SV.v s173)) sz39 rfl rfl rfl rfl h179 h180 hww178) ⟨aftT (by kernel_rfl), aftT (by kernel_rfl), aftT (by kernel_rfl), trivial⟩ ?_
                  refine DE.done (by kernel_rfl) ?_
                  exact ⟨h, f100, f101, f102⟩
              · replace h := h.2
                obtain ⟨b183, hpb183, w181, hww181, h⟩ := M.new_use h
                obtain ⟨k184, h⟩ := h
                obtain ⟨k185, h⟩ := h
                refine One.r 10 (v := (SV.v (SV.mk (some b183) 1 1))) rfl (Wn.no rfl) rfl (R.bsl (by exact (Ls.cons (R.Pr rfl) Ls.nil)) (fun w => bs39_1 t118 t119 t120 t121 t122 t123 w) hpb183 hww181) (.inr ⟨fun _ => k184, aftT (by kernel_rfl), fun _ => k185, trivial⟩) ?_
                obtain ⟨b188, hpb188, w186, hww186, h⟩ := M.new_use h
                obtain ⟨k189, h⟩ := h
                obtain ⟨k190, h⟩ := h
                obtain ⟨k191, h⟩ := h
                refine DE.main 1 (by kernel_rfl) ?_
                refine One.r 1 (v := (SV.v (SV.mk (some b188) 0 0))) rfl (Wn.no rfl) rfl (R.bsl (by exact Ls.nil) (fun w => bs39_0  w) hpb188 hww186) (.inr ⟨fun _ => k189, fun _ => k190, fun _ => k191, trivial⟩) ?_
                obtain ⟨s192, w193, h194, h⟩ := h
                obtain ⟨k195, h⟩ := h
                obtain ⟨k196, h⟩ := h
                refine DE.main 8 (by kernel_rfl) ?_
                refine One.r 8 (v := (SV.v s192)) rfl (Wn.no rfl) rfl (R.app (s := (SV.mk (some b188) 0 0)) (r := s192) rfl rfl h194) (.inr ⟨fun _ => k195, fun _ => k196, aftT (by kernel_rfl), trivial⟩) ?_
                obtain ⟨s197, w198, h199, h⟩ := h
                obtain ⟨k200, h⟩ := h
                refine DE.main 11 (by kernel_rfl) ?_
                refine One.r 11 (v := (SV.v s197)) rfl (Wn.no rfl) rfl (R.app (s := s192) (r := s197) rfl rfl h199) (.inr ⟨fun _ => k200, aftT (by kernel_rfl), aftT (by kernel_rfl), trivial⟩) ?_
                obtain ⟨s201, w202, h203, h⟩ := h
                refine DE.main 18 (by kernel_rfl) ?_
                refine One.r 18 (v := (SV.v s201)) rfl (Wn.no rfl) rfl (R.app (s := s197) (r := s201) rfl rfl h203) (.inr ⟨aftT (by kernel_rfl), aftT (by kernel_rfl), aftT (by kernel_rfl), trivial⟩) ?_
                obtain ⟨a204, h205, h⟩ := h
                refine DE.t 19 (v := (Value.pointer (some a204))) rfl (by kernel_rfl) (Wn.no rfl) rfl (R.nilC (congrArg Value.pointer h205)) ?_
                refine DE.t 20 (v := (Value.pointer (some a204))) rfl (by kernel_rfl) (Wn.no rfl) rfl (R.fld (off := 0) fa49_0 rfl) ?_
                obtain ⟨w206, hww206, h207, h208, h⟩ := M.st_use h
                refine DE.main 21 (by kernel_rfl) ?_
                refine One.s 21 rfl (Wn.no rfl) rfl (R.st (a := a204) (v := (SV.v s201)) sz39 rfl rfl rfl rfl h207 h208 hww206) ⟨aftT (by kernel_rfl), aftT (by kernel_rfl), aftT (by kernel_rfl), trivial⟩ ?_
                refine DE.done (by kernel_rfl) ?_
                exact ⟨h, f100, f101, f102⟩
            · rintro e209 w210 ⟨h, f211, f212, f213⟩
              subst hJ106
              refine WE.seq ?_
              obtain ⟨J214, hJ214, h⟩ := M.join_use h
              refine WE.regJ (fun e w => ∃ (x215 : Bool) (x216 : Int), J214 x215 x216 w ∧ e 4 = (Value.bool x215) ∧ e 5 = (Value.int .i64 x216)) ?_ ?_
              · clear hJ214
                refine LE.p (v := (Value.bool r30)) (Wn.no rfl) rfl (R.move f213) ?_
                refine LE.p (v := (Value.bool (!r30))) (Wn.no rfl) rfl (R.not rfl) ?_
                refine LE.p (v := (Value.bool (!r30))) (Wn.no rfl) rfl (R.move rfl) ?_
                rcases M.ite_use h with ⟨hb217, h⟩ | ⟨hb217, h⟩
                · refine LE.u (Un.no 2 82 false rfl rfl rfl (congrArg Value.bool hb217)) ?_
                  refine LE.u (Un.no 2 82 false rfl rfl rfl (congrArg Value.bool hb217)) ?_
                  refine LE.u (Un.no 2 82 false rfl rfl rfl (congrArg Value.bool hb217)) ?_
                  refine LE.u (Un.no 2 82 false rfl rfl rfl (congrArg Value.bool hb217)) ?_
                  refine LE.p (v := (Value.bool true)) (Wn.no rfl) rfl (R.pickT (congrArg Value.bool hb217) rfl) ?_
                  refine LE.p (v := (Value.bool true)) (Wn.no rfl) rfl (R.assign rfl) ?_
                  refine LE.p (v := (Value.int .i64 (0 : Int))) (Wn.no rfl) rfl (R.assign rfl) ?_
                  refine LE.nil ?_
                  exact ⟨_, _, h, rfl, rfl⟩
                · obtain ⟨t218, t219, t220, t221, t222, t223, h224, h⟩ := h
                  refine LE.r (v := (Value.agg #[(Value.int .u32 t218), (Value.int .i64 t219), (Value.bool t220), (Value.int .i64 t221), (Value.int .u32 t222), (Value.float .f64 t223)])) (Wn.yes 2 82 false rfl rfl rfl (congrArg Value.bool hb217)) rfl (R.ldA ag33 sz33 f212 rfl h224) ?_
                  obtain ⟨t225, t226, t227, t228, t229, t230, h231, h⟩ := h
                  refine LE.r (v := (Value.agg #[(Value.int .u32 t225), (Value.int .i64 t226), (Value.bool t227), (Value.int .i64 t228), (Value.int .u32 t229), (Value.float .f64 t230)])) (Wn.yes 2 82 false rfl rfl rfl (congrArg Value.bool hb217)) rfl (R.ldA ag33 sz33 f211 rfl h231) ?_
                  refine LE.c (Wn.yes 2 82 false rfl rfl rfl (congrArg Value.bool hb217)) rfl (R.call bd45 (Ls.cons rfl (Ls.cons rfl Ls.nil)) rfl) (Calls.mono h ?_)
                  rintro _ w233 ⟨r232, rfl, h⟩
                  refine ⟨_, rfl, ?_⟩
                  refine LE.p (v := (Value.bool (!r232))) (Wn.yes 2 82 false rfl rfl rfl (congrArg Value.bool hb217)) rfl (R.not rfl) ?_
                  refine LE.p (v := (Value.bool (!r232))) (Wn.no rfl) rfl (R.pickF (congrArg Value.bool hb217) rfl) ?_
                  refine LE.p (v := (Value.bool (!r232))) (Wn.no rfl) rfl (R.assign rfl) ?_
                  refine LE.p (v := (Value.int .i64 (0 : Int))) (Wn.no rfl) rfl (R.assign rfl) ?_
                  refine LE.nil ?_
                  exact ⟨_, _, h, rfl, rfl⟩
              · rintro e234 w235 ⟨x215, x216, h, f236, f237⟩
                subst hJ214
                refine WE.ret ?_
                exact ⟨_, (Res.tmp f236 (Res.tmp f237 Res.nil)), _, _, rfl, h⟩
/-- The formula of signpost.signpostref15.Right. -/
def F41 (p0_0 : Int) (p0_1 : Int) (p0_2 : Bool) (p0_3 : Int) (p0_4 : Int) (p0_5 : Nat) (K : Bool → World → Prop) (w0 : World) : Prop :=
M.new (.cells #[(Value.int .u32 p0_0), (Value.int .i64 p0_1), (Value.bool p0_2), (Value.int .i64 p0_3), (Value.int .u32 p0_4), (Value.float .f64 p0_5)] 33) w0 fun b2 w1 =>
M.join (fun (x4 : Bool) (w17 : World) => 
M.ite x4 (
K false w17) (
M.ld Value.bool (b2.add 2) w17 fun t21 =>
M.ite t21 (
M.join (fun (x25 : Bool) (w35 : World) => 
K x25 w35) fun J24 => 
M.ld (Value.int .i64) (b2.add 3) w17 fun t26 =>
M.ite (decide ((0 : Int) ≤ t26)) (
M.ld (Value.int .i64) (b2.add 3) w17 fun t29 =>
M.ite (decide (t29 ≤ (255 : Int))) (
M.ld (Value.int .u32) (b2.add 4) w17 fun t32 =>
J24 (t32 == (0 : Int)) w17) (
J24 false w17)) (
J24 false w17)) (
M.ld (Value.int .i64) (b2.add 3) w17 fun t37 =>
K (t37 == (0 : Int)) w17))) fun J3 => 
M.ld (Value.int .u32) b2 w1 fun t5 =>
M.ld (Value.int .i64) (b2.add 1) w1 fun t7 =>
Calls Try.prog 35 #[(Value.agg #[(Value.int .u32 t5), (Value.int .i64 t7)])] w1 (R35 fun r9 w10 =>
M.ite (!r9) (
J3 true w10) (
M.ld (Value.float .f64) (b2.add 5) w10 fun t12 =>
Calls Try.prog 56 #[(Value.float .f64 t12)] w10 (R56 fun r14 w15 =>
J3 (!r14) w15)))
theorem F41_ok {w0 : World} {p0_0 : Int} {p0_1 : Int} {p0_2 : Bool} {p0_3 : Int} {p0_4 : Int} {p0_5 : Nat} {K : Bool → World → Prop} (h : F41 p0_0 p0_1 p0_2 p0_3 p0_4 p0_5 K w0) : Calls Try.prog 41 #[(Value.agg #[(Value.int .u32 p0_0), (Value.int .i64 p0_1), (Value.bool p0_2), (Value.int .i64 p0_3), (Value.int .u32 p0_4), (Value.float .f64 p0_5)])] w0 (R41 K) := by
  refine calls_of_WE (args := [(Value.agg #[(Value.int .u32 p0_0), (Value.int .i64 p0_1), (Value.bool p0_2), (Value.int .i64 p0_3), (Value.int .u32 p0_4), (Value.float .f64 p0_5)])]) (rs := [.tmp 2]) Try.func41 rfl (N := 31) rfl rfl rfl rfl ?_
  refine WE.seq ?_
  refine WE.reg ?_
  obtain ⟨b2, hpb2, w1, hww1, h⟩ := M.new_use h
  refine LE.r (v := (Value.pointer (some b2))) (Wn.no rfl) rfl (R.box (cs := #[(Value.int .u32 p0_0), (Value.int .i64 p0_1), (Value.bool p0_2), (Value.int .i64 p0_3), (Value.int .u32 p0_4), (Value.float .f64 p0_5)]) rfl rfl hpb2 hww1) ?_
  refine LE.p (v := (Value.bool false)) (Wn.no rfl) rfl (R.assign rfl) ?_
  refine LE.nil ?_
  refine WE.seq ?_
  refine WE.seq ?_
  obtain ⟨J3, hJ3, h⟩ := M.join_use h
  refine WE.regJ (fun e w => ∃ (x4 : Bool), J3 x4 w ∧ e 1 = (Value.pointer (some b2)) ∧ e 12 = (Value.bool x4)) ?_ ?_
  · clear hJ3
    refine LE.p (v := (Value.pointer (some b2))) (Wn.no rfl) rfl (R.fld (off := 0) fa33_0 rfl) ?_
    obtain ⟨t5, h6, h⟩ := h
    obtain ⟨t7, h8, h⟩ := h
    refine LE.r (v := (Value.agg #[(Value.int .u32 t5), (Value.int .i64 t7)])) (Wn.no rfl) rfl (R.ldA ag30 sz30 rfl rfl (Cs.cons h6 (Cs.cons h8 Cs.nil))) ?_
    refine LE.c (Wn.no rfl) rfl (R.call bd35 (Ls.cons rfl Ls.nil) rfl) (Calls.mono h ?_)
    rintro _ w10 ⟨r9, rfl, h⟩
    refine ⟨_, rfl, ?_⟩
    refine LE.p (v := (Value.bool (!r9))) (Wn.no rfl) rfl (R.not rfl) ?_
    refine LE.p (v := (Value.bool (!r9))) (Wn.no rfl) rfl (R.move rfl) ?_
    rcases M.ite_use h with ⟨hb11, h⟩ | ⟨hb11, h⟩
    · refine LE.u (Un.no 4 7 false rfl rfl rfl (congrArg Value.bool hb11)) ?_
      refine LE.u (Un.no 4 7 false rfl rfl rfl (congrArg Value.bool hb11)) ?_
      refine LE.u (Un.no 4 7 false rfl rfl rfl (congrArg Value.bool hb11)) ?_
      refine LE.u (Un.no 4 7 false rfl rfl rfl (congrArg Value.bool hb11)) ?_
      refine LE.p (v := (Value.bool true)) (Wn.no rfl) rfl (R.pickT (congrArg Value.bool hb11) rfl) ?_
      refine LE.nil ?_
      exact ⟨_, h, rfl, rfl⟩
    · refine LE.p (v := (Value.pointer (some (b2.add 5)))) (Wn.yes 4 7 false rfl rfl rfl (congrArg Value.bool hb11)) rfl (R.fld (off := 5) fa33_4 rfl) ?_
      obtain ⟨t12, h13, h⟩ := h
      refine LE.r (v := (Value.float .f64 t12)) (Wn.yes 4 7 false rfl rfl rfl (congrArg Value.bool hb11)) rfl (R.ld sc31 rfl h13) ?_
      refine LE.c (Wn.yes 4 7 false rfl rfl rfl (congrArg Value.bool hb11)) rfl (R.call bd56 (Ls.cons rfl Ls.nil) rfl) (Calls.mono h ?_)
      rintro _ w15 ⟨r14, rfl, h⟩
      refine ⟨_, rfl, ?_⟩
      refine LE.p (v := (Value.bool (!r14))) (Wn.yes 4 7 false rfl rfl rfl (congrArg Value.bool hb11)) rfl (R.not rfl) ?_
      refine LE.p (v := (Value.bool (!r14))) (Wn.no rfl) rfl (R.pickF (congrArg Value.bool hb11) rfl) ?_
      refine LE.nil ?_
      exact ⟨_, h, rfl, rfl⟩
  · rintro e16 w17 ⟨x4, h, f18, f19⟩
    subst hJ3
    refine WE.condT rfl (b := x4) f19 ?_ ?_
    · intro hb20
      replace h := M.ite_t h hb20
      refine WE.seq ?_
      refine WE.reg ?_
      refine LE.p (v := (Value.bool false)) (Wn.no rfl) rfl (R.assign rfl) ?_
      refine LE.nil ?_
      refine WE.ret ?_
      exact ⟨_, (Res.tmp rfl Res.nil), _, rfl, h⟩
    · intro hb20
      replace h := M.ite_f h hb20
      refine WE.skip ?_
      refine WE.seq ?_
      refine WE.seq ?_
      refine WE.reg ?_
      refine LE.p (v := (Value.pointer (some (b2.add 2)))) (Wn.no rfl) rfl (R.fld (off := 2) fa33_1 f18) ?_
      obtain ⟨t21, h22, h⟩ := h
      refine LE.r (v := (Value.bool t21)) (Wn.no rfl) rfl (R.ld sc4 rfl h22) ?_
      refine LE.nil ?_
      refine WE.condT rfl (b := t21) rfl ?_ ?_
      · intro hb23
        replace h := M.ite_t h hb23
        refine WE.seq ?_
        obtain ⟨J24, hJ24, h⟩ := M.join_use h
        refine WE.regJ (fun e w => ∃ (x25 : Bool), J24 x25 w ∧ e 2 = (Value.bool x25)) ?_ ?_
        · clear hJ24
          refine LE.p (v := (Value.pointer (some (b2.add 3)))) (Wn.no rfl) rfl (R.fld (off := 3) fa33_2 f18) ?_
          obtain ⟨t26, h27, h⟩ := h
          refine LE.r (v := (Value.int .i64 t26)) (Wn.no rfl) rfl (R.ld sc3 rfl h27) ?_
          refine LE.p (v := (Value.bool (decide ((0 : Int) ≤ t26)))) (Wn.no rfl) rfl (R.geq rfl rfl) ?_
          refine LE.p (v := (Value.bool (decide ((0 : Int) ≤ t26)))) (Wn.no rfl) rfl (R.move rfl) ?_
          rcases M.ite_use h with ⟨hb28, h⟩ | ⟨hb28, h⟩
          · refine LE.p (v := (Value.pointer (some (b2.add 3)))) (Wn.yes 3 18 true rfl rfl rfl (congrArg Value.bool hb28)) rfl (R.fld (off := 3) fa33_2 f18) ?_
            obtain ⟨t29, h30, h⟩ := h
            refine LE.r (v := (Value.int .i64 t29)) (Wn.yes 3 18 true rfl rfl rfl (congrArg Value.bool hb28)) rfl (R.ld sc3 rfl h30) ?_
            refine LE.p (v := (Value.bool (decide (t29 ≤ (255 : Int))))) (Wn.yes 3 18 true rfl rfl rfl (congrArg Value.bool hb28)) rfl (R.leq rfl rfl) ?_
            refine LE.p (v := (Value.bool (decide (t29 ≤ (255 : Int))))) (Wn.no rfl) rfl (R.pickT (congrArg Value.bool hb28) rfl) ?_
            refine LE.p (v := (Value.bool (decide (t29 ≤ (255 : Int))))) (Wn.no rfl) rfl (R.move rfl) ?_
            rcases M.ite_use h with ⟨hb31, h⟩ | ⟨hb31, h⟩
            · refine LE.p (v := (Value.pointer (some (b2.add 4)))) (Wn.yes 8 23 true rfl rfl rfl (congrArg Value.bool hb31)) rfl (R.fld (off := 4) fa33_3 f18) ?_
              obtain ⟨t32, h33, h⟩ := h
              refine LE.r (v := (Value.int .u32 t32)) (Wn.yes 8 23 true rfl rfl rfl (congrArg Value.bool hb31)) rfl (R.ld sc23 rfl h33) ?_
              refine LE.p (v := (Value.bool (t32 == (0 : Int)))) (Wn.yes 8 23 true rfl rfl rfl (congrArg Value.bool hb31)) rfl (R.eql rfl rfl) ?_
              refine LE.p (v := (Value.bool (t32 == (0 : Int)))) (Wn.no rfl) rfl (R.pickT (congrArg Value.bool hb31) rfl) ?_
              refine LE.p (v := (Value.bool (t32 == (0 : Int)))) (Wn.no rfl) rfl (R.assign rfl) ?_
              refine LE.nil ?_
              exact ⟨_, h, rfl⟩
            · refine LE.u (Un.no 8 23 true rfl rfl rfl (congrArg Value.bool hb31)) ?_
              refine LE.u (Un.no 8 23 true rfl rfl rfl (congrArg Value.bool hb31)) ?_
              refine LE.u (Un.no 8 23 true rfl rfl rfl (congrArg Value.bool hb31)) ?_
              refine LE.p (v := (Value.bool false)) (Wn.no rfl) rfl (R.pickF (congrArg Value.bool hb31) rfl) ?_
              refine LE.p (v := (Value.bool false)) (Wn.no rfl) rfl (R.assign rfl) ?_
              refine LE.nil ?_
              exact ⟨_, h, rfl⟩
          · refine LE.u (Un.no 3 18 true rfl rfl rfl (congrArg Value.bool hb28)) ?_
            refine LE.u (Un.no 3 18 true rfl rfl rfl (congrArg Value.bool hb28)) ?_
            refine LE.u (Un.no 3 18 true rfl rfl rfl (congrArg Value.bool hb28)) ?_
            refine LE.p (v := (Value.bool false)) (Wn.no rfl) rfl (R.pickF (congrArg Value.bool hb28) rfl) ?_
            refine LE.p (v := (Value.bool false)) (Wn.no rfl) rfl (R.move rfl) ?_
            refine LE.u (Un.no 8 23 true rfl rfl rfl rfl) ?_
            refine LE.u (Un.no 8 23 true rfl rfl rfl rfl) ?_
            refine LE.u (Un.no 8 23 true rfl rfl rfl rfl) ?_
            refine LE.p (v := (Value.bool false)) (Wn.no rfl) rfl (R.pickF rfl rfl) ?_
            refine LE.p (v := (Value.bool false)) (Wn.no rfl) rfl (R.assign rfl) ?_
            refine LE.nil ?_
            exact ⟨_, h, rfl⟩
        · rintro e34 w35 ⟨x25, h, f36⟩
          subst hJ24
          refine WE.ret ?_
          exact ⟨_, (Res.tmp f36 Res.nil), _, rfl, h⟩
      · intro hb23
        replace h := M.ite_f h hb23
        refine WE.skip ?_
        refine WE.seq ?_
        refine WE.reg ?_
        refine LE.p (v := (Value.pointer (some (b2.add 3)))) (Wn.no rfl) rfl (R.fld (off := 3) fa33_2 f18) ?_
        obtain ⟨t37, h38, h⟩ := h
        refine LE.r (v := (Value.int .i64 t37)) (Wn.no rfl) rfl (R.ld sc3 rfl h38) ?_
        refine LE.p (v := (Value.bool (t37 == (0 : Int)))) (Wn.no rfl) rfl (R.eql rfl rfl) ?_
        refine LE.p (v := (Value.bool (t37 == (0 : Int)))) (Wn.no rfl) rfl (R.assign rfl) ?_
        refine LE.nil ?_
        refine WE.ret ?_
        exact ⟨_, (Res.tmp rfl Res.nil), _, rfl, h⟩
/-- The formula of (*signpost.signpostref15.Table).Cut. -/
def F42 (p0 : Option Addr) (p1_0 : Int) (p1_1 : Int) (K : Bool → World → Prop) (w0 : World) : Prop :=
M.new (.cells #[(Value.int .u32 p1_0), (Value.int .i64 p1_1)] 30) w0 fun b2 w1 =>
M.loop1 (fun (J4 : Int → World → Prop) (x3 : Int) (w5 : World) => 
M.nil p0 fun a15 =>
M.ld SV.v a15 w5 fun t17 =>
M.ite (decide (x3 < (t17.len : Int))) (
M.drew w5 fun w20 => 
M.nil p0 fun a21 =>
M.ld SV.v a21 w20 fun t23 =>
M.idx t23 x3 6 fun a25 =>
M.ld (Value.int .u32) (a25.add (x3.toNat * 6)) w20 fun t29 =>
M.ld (Value.int .i64) ((a25.add (x3.toNat * 6)).add 1) w20 fun t31 =>
M.ld (Value.int .u32) b2 w20 fun t33 =>
M.ld (Value.int .i64) (b2.add 1) w20 fun t35 =>
M.ite ((t29 == t33) && (t31 == t35)) (
M.drew w20 fun w38 => 
M.nil p0 fun a39 =>
M.nil p0 fun a41 =>
M.ld SV.v a39 w38 fun t43 =>
M.bnd (0 : Int) x3 t43 <|
M.ld SV.v a41 w38 fun t49 =>
M.bnd (IntKind.i64.wrap (x3 + (1 : Int))) (t49.len : Int) t49 <|
M.new (.cells #[] 33) w38 fun b57 w55 =>
M.keep (w55.cell? a41 = some (SV.v t49)) <|
M.keep (w55.cell? a39 = some (SV.v t43)) <|
M.app Try.prog 39 39 39 (SV.mk (some b57) 0 0) (SV.v (SV.sub t43 (Int.toNat (0 : Int)) (Int.toNat x3) 6)) w55 fun s60 w61 =>
M.keep (w61.cell? a41 = some (SV.v t49)) <|
M.app Try.prog 39 39 39 s60 (SV.v (SV.sub t49 (Int.toNat (IntKind.i64.wrap (x3 + (1 : Int)))) (Int.toNat (t49.len : Int)) 6)) w61 fun s64 w65 =>
M.nil p0 fun a67 =>
M.st a67 (SV.v s64) w65 fun w69 =>
K true w69) (
J4 (IntKind.i64.wrap (x3 + (1 : Int))) w20)) (
K false w5)) (0 : Int) w1
theorem F42_ok {w0 : World} {p0 : Option Addr} {p1_0 : Int} {p1_1 : Int} {K : Bool → World → Prop} (h : F42 p0 p1_0 p1_1 K w0) : Calls Try.prog 42 #[(Value.pointer p0), (Value.agg #[(Value.int .u32 p1_0), (Value.int .i64 p1_1)])] w0 (R42 K) := by
  refine calls_of_WE (args := [(Value.pointer p0), (Value.agg #[(Value.int .u32 p1_0), (Value.int .i64 p1_1)])]) (rs := [.tmp 4]) Try.func42 rfl (N := 44) rfl rfl rfl rfl ?_
  refine WE.seq ?_
  refine WE.reg ?_
  obtain ⟨b2, hpb2, w1, hww1, h⟩ := M.new_use h
  refine LE.r (v := (Value.pointer (some b2))) (Wn.no rfl) rfl (R.box (cs := #[(Value.int .u32 p1_0), (Value.int .i64 p1_1)]) rfl rfl hpb2 hww1) ?_
  refine LE.p (v := (Value.bool false)) (Wn.no rfl) rfl (R.assign rfl) ?_
  refine LE.nil ?_
  refine WE.seq ?_
  refine WE.seq ?_
  refine WE.reg ?_
  refine LE.p (v := (Value.int .i64 (0 : Int))) (Wn.no rfl) rfl (R.assign rfl) ?_
  refine LE.nil ?_
  refine WE.block ?_
  obtain ⟨I8, ⟨n7, h⟩, hr9⟩ := h
  refine WE.loop (fun n e w => ∃ (x3 : Int), I8 n x3 w ∧ e 0 = (Value.pointer p0) ∧ e 3 = (Value.pointer (some b2)) ∧ e 5 = (Value.int .i64 x3)) n7 ⟨_, h, rfl, rfl, rfl⟩ ?_
  clear h
  rintro n7 e6 w5 ⟨x3, h, f12, f13, f14⟩
  replace h := hr9 n7 x3 w5 h
  refine WE.seq ?_
  refine WE.seq ?_
  refine WE.reg ?_
  refine LE.p (v := (Value.int .i64 x3)) (Wn.no rfl) rfl (R.move f14) ?_
  refine LE.p (v := (Value.pointer p0)) (Wn.no rfl) rfl (R.move f12) ?_
  obtain ⟨a15, h16, h⟩ := h
  refine LE.p (v := (Value.pointer (some a15))) (Wn.no rfl) rfl (R.nilC (congrArg Value.pointer h16)) ?_
  refine LE.p (v := (Value.pointer (some a15))) (Wn.no rfl) rfl (R.fld (off := 0) fa49_0 rfl) ?_
  obtain ⟨t17, h18, h⟩ := h
  refine LE.r (v := (SV.v t17)) (Wn.no rfl) rfl (R.ld sc39 rfl h18) ?_
  refine LE.p (v := (Value.int .i64 (t17.len : Int))) (Wn.no rfl) rfl (R.len sl39 rfl) ?_
  refine LE.p (v := (Value.bool (decide (x3 < (t17.len : Int))))) (Wn.no rfl) rfl (R.lss rfl rfl) ?_
  refine LE.nil ?_
  refine WE.condT rfl (b := (decide (x3 < (t17.len : Int)))) rfl ?_ ?_
  · intro hb19
    replace h := M.ite_t h hb19
    refine WE.skip ?_
    refine WE.seq ?_
    refine WE.block ?_
    refine WE.seq ?_
    refine WE.draw mix ?_
    obtain ⟨w20, hww20, h⟩ := M.drew_use h
    rw [← hww20]
    clear hww20
    refine DE.t 0 (v := (Value.pointer p0)) rfl (by kernel_rfl) (Wn.no rfl) rfl (R.move f12) ?_
    obtain ⟨a21, h22, h⟩ := h
    refine DE.t 1 (v := (Value.pointer (some a21))) rfl (by kernel_rfl) (Wn.no rfl) rfl (R.nilC (congrArg Value.pointer h22)) ?_
    refine DE.t 2 (v := (Value.pointer (some a21))) rfl (by kernel_rfl) (Wn.no rfl) rfl (R.fld (off := 0) fa49_0 rfl) ?_
    refine DE.t 4 (v := (Value.int .i64 x3)) rfl (by kernel_rfl) (Wn.no rfl) rfl (R.move f14) ?_
    obtain ⟨t23, h24, h⟩ := h
    refine DE.hold 3 (fun w => w.cell? a21 = some (SV.v t23)) (v := (SV.v t23)) rfl (by kernel_rfl) (Wn.no rfl) rfl h24 (fun w hs => R.ld sc39 rfl hs) ?_
    obtain ⟨a25, h26, h27, h28, h⟩ := h
    refine DE.t 5 (v := (Value.pointer (some (a25.add (x3.toNat * 6))))) rfl (by kernel_rfl) (Wn.no rfl) rfl (R.idx (s := t23) sl39 rfl rfl h26 h27 h28) ?_
    refine DE.t 6 (v := (Value.pointer (some (a25.add (x3.toNat * 6))))) rfl (by kernel_rfl) (Wn.no rfl) rfl (R.fld (off := 0) fa33_0 rfl) ?_
    obtain ⟨t29, h30, h⟩ := h
    obtain ⟨t31, h32, h⟩ := h
    refine DE.hold 7 (fun w => w.cell? (a25.add (x3.toNat * 6)) = some (Value.int .u32 t29) ∧ w.cell? ((a25.add (x3.toNat * 6)).add 1) = some (Value.int .i64 t31)) (v := (Value.agg #[(Value.int .u32 t29), (Value.int .i64 t31)])) rfl (by kernel_rfl) (Wn.no rfl) rfl ⟨h30, h32⟩ (fun w hs => R.ldA ag30 sz30 rfl rfl (Cs.cons hs.1 (Cs.cons hs.2 Cs.nil))) ?_
    obtain ⟨t33, h34, h⟩ := h
    obtain ⟨t35, h36, h⟩ := h
    refine DE.main 8 (by kernel_rfl) ?_
    refine One.r 8 (v := (Value.agg #[(Value.int .u32 t33), (Value.int .i64 t35)])) rfl (Wn.no rfl) rfl (R.ldA ag30 sz30 f13 rfl (Cs.cons h34 (Cs.cons h36 Cs.nil))) (.inl rfl) ?_
    refine DE.t 9 (v := (Value.bool ((t29 == t33) && (t31 == t35)))) rfl (by kernel_rfl) (Wn.no rfl) rfl (R.eqS (fun w => eq30 t29 t33 t31 t35 w) sg30 rfl rfl) ?_
    refine DE.done (by kernel_rfl) ?_
    refine WE.condT rfl (b := ((t29 == t33) && (t31 == t35))) rfl ?_ ?_
    · intro hb37
      replace h := M.ite_t h hb37
      refine WE.seq ?_
      refine WE.draw mix ?_
      obtain ⟨w38, hww38, h⟩ := M.drew_use h
      rw [← hww38]
      clear hww38
      refine DE.t 0 (v := (Value.pointer p0)) rfl (by kernel_rfl) (Wn.no rfl) rfl (R.move f12) ?_
      refine DE.t 2 (v := (Value.pointer p0)) rfl (by kernel_rfl) (Wn.no rfl) rfl (R.move f12) ?_
      obtain ⟨a39, h40, h⟩ := h
      refine DE.t 3 (v := (Value.pointer (some a39))) rfl (by kernel_rfl) (Wn.no rfl) rfl (R.nilC (congrArg Value.pointer h40)) ?_
      refine DE.t 4 (v := (Value.pointer (some a39))) rfl (by kernel_rfl) (Wn.no rfl) rfl (R.fld (off := 0) fa49_0 rfl) ?_
      refine DE.t 6 (v := (Value.int .i64 x3)) rfl (by kernel_rfl) (Wn.no rfl) rfl (R.move f14) ?_
      refine DE.t 9 (v := (Value.pointer p0)) rfl (by kernel_rfl) (Wn.no rfl) rfl (R.move f12) ?_
      obtain ⟨a41, h42, h⟩ := h
      refine DE.t 10 (v := (Value.pointer (some a41))) rfl (by kernel_rfl) (Wn.no rfl) rfl (R.nilC (congrArg Value.pointer h42)) ?_
      refine DE.t 11 (v := (Value.pointer (some a41))) rfl (by kernel_rfl) (Wn.no rfl) rfl (R.fld (off := 0) fa49_0 rfl) ?_
      refine DE.t 13 (v := (Value.int .i64 x3)) rfl (by kernel_rfl) (Wn.no rfl) rfl (R.move f14) ?_
      refine DE.t 14 (v := (Value.int .i64 (IntKind.i64.wrap (x3 + (1 : Int))))) rfl (by kernel_rfl) (Wn.no rfl) rfl (R.add rfl rfl) ?_
      obtain ⟨t43, h44, h⟩ := h
      refine DE.hold 5 (fun w => w.cell? a39 = some (SV.v t43)) (v := (SV.v t43)) rfl (by kernel_rfl) (Wn.no rfl) rfl h44 (fun w hs => R.ld sc39 rfl hs) ?_
      obtain ⟨h45, h46, h47, h⟩ := h
      refine DE.t 7 (v := (SV.v (SV.sub t43 (Int.toNat (0 : Int)) (Int.toNat x3) 6))) rfl (by kernel_rfl) (Wn.no rfl) rfl (R.slc (s := t43) (lo := (0 : Int)) (hi := x3) _ _ sl39 rfl rfl rfl h45 h46 h47) ?_
      obtain ⟨t49, h50, h⟩ := h
      refine DE.hold 12 (fun w => w.cell? a41 = some (SV.v t49)) (v := (SV.v t49)) rfl (by kernel_rfl) (Wn.no rfl) rfl h50 (fun w hs => R.ld sc39 rfl hs) ?_
      obtain ⟨h51, h52, h53, h⟩ := h
      refine DE.t 15 (v := (SV.v (SV.sub t49 (Int.toNat (IntKind.i64.wrap (x3 + (1 : Int)))) (Int.toNat (t49.len : Int)) 6))) rfl (by kernel_rfl) (Wn.no rfl) rfl (R.slc (s := t49) (lo := (IntKind.i64.wrap (x3 + (1 : Int)))) (hi := (t49.len : Int)) _ _ sl39 rfl rfl rfl h51 h52 h53) ?_
      obtain ⟨b57, hpb57, w55, hww55, h⟩ := M.new_use h
      obtain ⟨k58, h⟩ := h
      obtain ⟨k59, h⟩ := h
      refine DE.main 1 (by kernel_rfl) ?_
      refine One.r 1 (v := (SV.v (SV.mk (some b57) 0 0))) rfl (Wn.no rfl) rfl (R.bsl (by exact Ls.nil) (fun w => bs39_0  w) hpb57 hww55) (.inr ⟨fun _ => k58, fun _ => k59, trivial⟩) ?_
      obtain ⟨s60, w61, h62, h⟩ := h
      obtain ⟨k63, h⟩ := h
      refine DE.main 8 (by kernel_rfl) ?_
      refine One.r 8 (v := (SV.v s60)) rfl (Wn.no rfl) rfl (R.app (s := (SV.mk (some b57) 0 0)) (r := s60) rfl rfl h62) (.inr ⟨fun _ => k63, aftT (by kernel_rfl), trivial⟩) ?_
      obtain ⟨s64, w65, h66, h⟩ := h
      refine DE.main 16 (by kernel_rfl) ?_
      refine One.r 16 (v := (SV.v s64)) rfl (Wn.no rfl) rfl (R.app (s := s60) (r := s64) rfl rfl h66) (.inr ⟨aftT (by kernel_rfl), aftT (by kernel_rfl), trivial⟩) ?_
      obtain ⟨a67, h68, h⟩ := h
      refine DE.t 17 (v := (Value.pointer (some a67))) rfl (by kernel_rfl) (Wn.no rfl) rfl (R.nilC (congrArg Value.pointer h68)) ?_
      refine DE.t 18 (v := (Value.pointer (some a67))) rfl (by kernel_rfl) (Wn.no rfl) rfl (R.fld (off := 0) fa49_0 rfl) ?_
      obtain ⟨w69, hww69, h70, h71, h⟩ := M.st_use h
      refine DE.main 19 (by kernel_rfl) ?_
      refine One.s 19 rfl (Wn.no rfl) rfl (R.st (a := a67) (v := (SV.v s64)) sz39 rfl rfl rfl rfl h70 h71 hww69) ⟨aftT (by kernel_rfl), aftT (by kernel_rfl), trivial⟩ ?_
      refine DE.done (by kernel_rfl) ?_
      refine WE.seq ?_
      refine WE.reg ?_
      refine LE.p (v := (Value.bool true)) (Wn.no rfl) rfl (R.assign rfl) ?_
      refine LE.nil ?_
      refine WE.ret ?_
      exact ⟨_, (Res.tmp rfl Res.nil), _, rfl, h⟩
    · intro hb37
      replace h := M.ite_f h hb37
      refine WE.skip ?_
      refine WE.reg ?_
      refine LE.p (v := (Value.int .i64 x3)) (Wn.no rfl) rfl (R.move f14) ?_
      refine LE.p (v := (Value.int .i64 (IntKind.i64.wrap (x3 + (1 : Int))))) (Wn.no rfl) rfl (R.add rfl rfl) ?_
      refine LE.p (v := (Value.int .i64 (IntKind.i64.wrap (x3 + (1 : Int))))) (Wn.no rfl) rfl (R.assign rfl) ?_
      refine LE.nil ?_
      obtain ⟨m10, hm11, h⟩ := h
      exact ⟨m10, hm11, _, h, f12, f13, rfl⟩
  · intro hb19
    replace h := M.ite_f h hb19
    refine WE.exit ?_
    refine WE.seq ?_
    refine WE.reg ?_
    refine LE.p (v := (Value.bool false)) (Wn.no rfl) rfl (R.assign rfl) ?_
    refine LE.nil ?_
    refine WE.ret ?_
    exact ⟨_, (Res.tmp rfl Res.nil), _, rfl, h⟩
end Go.Proofs.Ytnkpjlojijppiaa
