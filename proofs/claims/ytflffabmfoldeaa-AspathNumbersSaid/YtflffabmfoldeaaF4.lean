/-
  Printed by gen.py: the formula of each function, and that it holds of the function.
-/
import Derived.Test.YtflffabmfoldeaaTy
namespace Go.Proofs.Ytflffabmfoldeaa
set_option linter.unusedVariables false
set_option linter.unusedSimpArgs false
open Go.Sp
set_option linter.unusedVariables false
/-- The formula of signpost.signpostref6.Right. -/
def F43 (p0 : SV) (K : Bool → World → Prop) (w0 : World) : Prop :=
M.loop1 (fun (J2 : Int → World → Prop) (x1 : Int) (w3 : World) => 
M.ite (decide (x1 < (p0.len : Int))) (
M.join (fun (x14 : Bool) (w56 : World) => 
M.ite x14 (
K false w56) (
J2 (IntKind.i64.wrap (x1 + (1 : Int))) w56)) fun J13 => 
M.idx p0 x1 2 fun a15 =>
M.ld (Value.int .i64) (a15.add (x1.toNat * 2)) w3 fun t19 =>
M.ite (t19 != (1 : Int)) (
M.idx p0 x1 2 fun a22 =>
M.ld (Value.int .i64) (a22.add (x1.toNat * 2)) w3 fun t26 =>
M.ite (t26 != (2 : Int)) (
J13 true w3) (
M.idx p0 x1 2 fun a29 =>
M.ld SV.v ((a29.add (x1.toNat * 2)).add 1) w3 fun t33 =>
M.ite (decide ((t33.len : Int) < (1 : Int))) (
J13 true w3) (
M.idx p0 x1 2 fun a36 =>
M.ld SV.v ((a36.add (x1.toNat * 2)).add 1) w3 fun t40 =>
J13 (decide ((255 : Int) < (t40.len : Int))) w3))) (
M.idx p0 x1 2 fun a42 =>
M.ld SV.v ((a42.add (x1.toNat * 2)).add 1) w3 fun t46 =>
M.ite (decide ((t46.len : Int) < (1 : Int))) (
J13 true w3) (
M.idx p0 x1 2 fun a49 =>
M.ld SV.v ((a49.add (x1.toNat * 2)).add 1) w3 fun t53 =>
J13 (decide ((255 : Int) < (t53.len : Int))) w3))) (
K (decide ((p0.len : Int) ≤ (16 : Int))) w3)) (0 : Int) w0
theorem F43_ok {w0 : World} {p0 : SV} {K : Bool → World → Prop} (h : F43 p0 K w0) : Calls Try.prog 43 #[(SV.v p0)] w0 (R43 K) := by
  refine calls_of_WE (args := [(SV.v p0)]) (rs := [.tmp 2]) Try.func43 rfl (N := 45) rfl rfl rfl rfl ?_
  refine WE.seq ?_
  refine WE.reg ?_
  refine LE.p (v := (Value.bool false)) (Wn.no rfl) rfl (R.assign rfl) ?_
  refine LE.nil ?_
  refine WE.seq ?_
  refine WE.seq ?_
  refine WE.reg ?_
  refine LE.p (v := (Value.int .i64 (0 : Int))) (Wn.no rfl) rfl (R.assign rfl) ?_
  refine LE.nil ?_
  refine WE.block ?_
  obtain ⟨I6, ⟨n5, h⟩, hr7⟩ := h
  refine WE.loop (fun n e w => ∃ (x1 : Int), I6 n x1 w ∧ e 0 = (SV.v p0) ∧ e 3 = (Value.int .i64 x1)) n5 ⟨_, h, rfl, rfl⟩ ?_
  clear h
  rintro n5 e4 w3 ⟨x1, h, f10, f11⟩
  replace h := hr7 n5 x1 w3 h
  refine WE.seq ?_
  refine WE.seq ?_
  refine WE.reg ?_
  refine LE.p (v := (Value.int .i64 x1)) (Wn.no rfl) rfl (R.move f11) ?_
  refine LE.p (v := (SV.v p0)) (Wn.no rfl) rfl (R.move f10) ?_
  refine LE.p (v := (Value.int .i64 (p0.len : Int))) (Wn.no rfl) rfl (R.len sl24 rfl) ?_
  refine LE.p (v := (Value.bool (decide (x1 < (p0.len : Int))))) (Wn.no rfl) rfl (R.lss rfl rfl) ?_
  refine LE.nil ?_
  refine WE.condT rfl (b := (decide (x1 < (p0.len : Int)))) rfl ?_ ?_
  · intro hb12
    replace h := M.ite_t h hb12
    refine WE.skip ?_
    refine WE.seq ?_
    refine WE.block ?_
    refine WE.seq ?_
    obtain ⟨J13, hJ13, h⟩ := M.join_use h
    refine WE.regJ (fun e w => ∃ (x14 : Bool), J13 x14 w ∧ e 0 = (SV.v p0) ∧ e 3 = (Value.int .i64 x1) ∧ e 41 = (Value.bool x14)) ?_ ?_
    · clear hJ13
      refine LE.p (v := (SV.v p0)) (Wn.no rfl) rfl (R.move f10) ?_
      refine LE.p (v := (Value.int .i64 x1)) (Wn.no rfl) rfl (R.move f11) ?_
      obtain ⟨a15, h16, h17, h18, h⟩ := h
      refine LE.p (v := (Value.pointer (some (a15.add (x1.toNat * 2))))) (Wn.no rfl) rfl (R.idx (s := p0) sl24 rfl rfl h16 h17 h18) ?_
      refine LE.p (v := (Value.pointer (some (a15.add (x1.toNat * 2))))) (Wn.no rfl) rfl (R.fld (off := 0) fa27_0 rfl) ?_
      obtain ⟨t19, h20, h⟩ := h
      refine LE.r (v := (Value.int .i64 t19)) (Wn.no rfl) rfl (R.ld sc3 rfl h20) ?_
      refine LE.p (v := (Value.bool (t19 != (1 : Int)))) (Wn.no rfl) rfl (R.neq rfl rfl) ?_
      refine LE.p (v := (Value.bool (t19 != (1 : Int)))) (Wn.no rfl) rfl (R.move rfl) ?_
      rcases M.ite_use h with ⟨hb21, h⟩ | ⟨hb21, h⟩
      · refine LE.p (v := (SV.v p0)) (Wn.yes 6 16 true rfl rfl rfl (congrArg Value.bool hb21)) rfl (R.move f10) ?_
        refine LE.p (v := (Value.int .i64 x1)) (Wn.yes 6 16 true rfl rfl rfl (congrArg Value.bool hb21)) rfl (R.move f11) ?_
        obtain ⟨a22, h23, h24, h25, h⟩ := h
        refine LE.p (v := (Value.pointer (some (a22.add (x1.toNat * 2))))) (Wn.yes 6 16 true rfl rfl rfl (congrArg Value.bool hb21)) rfl (R.idx (s := p0) sl24 rfl rfl h23 h24 h25) ?_
        refine LE.p (v := (Value.pointer (some (a22.add (x1.toNat * 2))))) (Wn.yes 6 16 true rfl rfl rfl (congrArg Value.bool hb21)) rfl (R.fld (off := 0) fa27_0 rfl) ?_
        obtain ⟨t26, h27, h⟩ := h
        refine LE.r (v := (Value.int .i64 t26)) (Wn.yes 6 16 true rfl rfl rfl (congrArg Value.bool hb21)) rfl (R.ld sc3 rfl h27) ?_
        refine LE.p (v := (Value.bool (t26 != (2 : Int)))) (Wn.yes 6 16 true rfl rfl rfl (congrArg Value.bool hb21)) rfl (R.neq rfl rfl) ?_
        refine LE.p (v := (Value.bool (t26 != (2 : Int)))) (Wn.no rfl) rfl (R.pickT (congrArg Value.bool hb21) rfl) ?_
        refine LE.p (v := (Value.bool (t26 != (2 : Int)))) (Wn.no rfl) rfl (R.move rfl) ?_
        rcases M.ite_use h with ⟨hb28, h⟩ | ⟨hb28, h⟩
        · refine LE.u (Un.no 14 24 false rfl rfl rfl (congrArg Value.bool hb28)) ?_
          refine LE.u (Un.no 14 24 false rfl rfl rfl (congrArg Value.bool hb28)) ?_
          refine LE.u (Un.no 14 24 false rfl rfl rfl (congrArg Value.bool hb28)) ?_
          refine LE.u (Un.no 14 24 false rfl rfl rfl (congrArg Value.bool hb28)) ?_
          refine LE.u (Un.no 14 24 false rfl rfl rfl (congrArg Value.bool hb28)) ?_
          refine LE.u (Un.no 14 24 false rfl rfl rfl (congrArg Value.bool hb28)) ?_
          refine LE.u (Un.no 14 24 false rfl rfl rfl (congrArg Value.bool hb28)) ?_
          refine LE.p (v := (Value.bool true)) (Wn.no rfl) rfl (R.pickT (congrArg Value.bool hb28) rfl) ?_
          refine LE.p (v := (Value.bool true)) (Wn.no rfl) rfl (R.move rfl) ?_
          refine LE.u (Un.no 23 33 false rfl rfl rfl rfl) ?_
          refine LE.u (Un.no 23 33 false rfl rfl rfl rfl) ?_
          refine LE.u (Un.no 23 33 false rfl rfl rfl rfl) ?_
          refine LE.u (Un.no 23 33 false rfl rfl rfl rfl) ?_
          refine LE.u (Un.no 23 33 false rfl rfl rfl rfl) ?_
          refine LE.u (Un.no 23 33 false rfl rfl rfl rfl) ?_
          refine LE.u (Un.no 23 33 false rfl rfl rfl rfl) ?_
          refine LE.p (v := (Value.bool true)) (Wn.no rfl) rfl (R.pickT rfl rfl) ?_
          refine LE.nil ?_
          exact ⟨_, h, f10, f11, rfl⟩
        · refine LE.p (v := (SV.v p0)) (Wn.yes 14 24 false rfl rfl rfl (congrArg Value.bool hb28)) rfl (R.move f10) ?_
          refine LE.p (v := (Value.int .i64 x1)) (Wn.yes 14 24 false rfl rfl rfl (congrArg Value.bool hb28)) rfl (R.move f11) ?_
          obtain ⟨a29, h30, h31, h32, h⟩ := h
          refine LE.p (v := (Value.pointer (some (a29.add (x1.toNat * 2))))) (Wn.yes 14 24 false rfl rfl rfl (congrArg Value.bool hb28)) rfl (R.idx (s := p0) sl24 rfl rfl h30 h31 h32) ?_
          refine LE.p (v := (Value.pointer (some ((a29.add (x1.toNat * 2)).add 1)))) (Wn.yes 14 24 false rfl rfl rfl (congrArg Value.bool hb28)) rfl (R.fld (off := 1) fa27_1 rfl) ?_
          obtain ⟨t33, h34, h⟩ := h
          refine LE.r (v := (SV.v t33)) (Wn.yes 14 24 false rfl rfl rfl (congrArg Value.bool hb28)) rfl (R.ld sc25 rfl h34) ?_
          refine LE.p (v := (Value.int .i64 (t33.len : Int))) (Wn.yes 14 24 false rfl rfl rfl (congrArg Value.bool hb28)) rfl (R.len sl25 rfl) ?_
          refine LE.p (v := (Value.bool (decide ((t33.len : Int) < (1 : Int))))) (Wn.yes 14 24 false rfl rfl rfl (congrArg Value.bool hb28)) rfl (R.lss rfl rfl) ?_
          refine LE.p (v := (Value.bool (decide ((t33.len : Int) < (1 : Int))))) (Wn.no rfl) rfl (R.pickF (congrArg Value.bool hb28) rfl) ?_
          refine LE.p (v := (Value.bool (decide ((t33.len : Int) < (1 : Int))))) (Wn.no rfl) rfl (R.move rfl) ?_
          rcases M.ite_use h with ⟨hb35, h⟩ | ⟨hb35, h⟩
          · refine LE.u (Un.no 23 33 false rfl rfl rfl (congrArg Value.bool hb35)) ?_
            refine LE.u (Un.no 23 33 false rfl rfl rfl (congrArg Value.bool hb35)) ?_
            refine LE.u (Un.no 23 33 false rfl rfl rfl (congrArg Value.bool hb35)) ?_
            refine LE.u (Un.no 23 33 false rfl rfl rfl (congrArg Value.bool hb35)) ?_
            refine LE.u (Un.no 23 33 false rfl rfl rfl (congrArg Value.bool hb35)) ?_
            refine LE.u (Un.no 23 33 false rfl rfl rfl (congrArg Value.bool hb35)) ?_
            refine LE.u (Un.no 23 33 false rfl rfl rfl (congrArg Value.bool hb35)) ?_
            refine LE.p (v := (Value.bool true)) (Wn.no rfl) rfl (R.pickT (congrArg Value.bool hb35) rfl) ?_
            refine LE.nil ?_
            exact ⟨_, h, f10, f11, rfl⟩
          · refine LE.p (v := (SV.v p0)) (Wn.yes 23 33 false rfl rfl rfl (congrArg Value.bool hb35)) rfl (R.move f10) ?_
            refine LE.p (v := (Value.int .i64 x1)) (Wn.yes 23 33 false rfl rfl rfl (congrArg Value.bool hb35)) rfl (R.move f11) ?_
            obtain ⟨a36, h37, h38, h39, h⟩ := h
            refine LE.p (v := (Value.pointer (some (a36.add (x1.toNat * 2))))) (Wn.yes 23 33 false rfl rfl rfl (congrArg Value.bool hb35)) rfl (R.idx (s := p0) sl24 rfl rfl h37 h38 h39) ?_
            refine LE.p (v := (Value.pointer (some ((a36.add (x1.toNat * 2)).add 1)))) (Wn.yes 23 33 false rfl rfl rfl (congrArg Value.bool hb35)) rfl (R.fld (off := 1) fa27_1 rfl) ?_
            obtain ⟨t40, h41, h⟩ := h
            refine LE.r (v := (SV.v t40)) (Wn.yes 23 33 false rfl rfl rfl (congrArg Value.bool hb35)) rfl (R.ld sc25 rfl h41) ?_
            refine LE.p (v := (Value.int .i64 (t40.len : Int))) (Wn.yes 23 33 false rfl rfl rfl (congrArg Value.bool hb35)) rfl (R.len sl25 rfl) ?_
            refine LE.p (v := (Value.bool (decide ((255 : Int) < (t40.len : Int))))) (Wn.yes 23 33 false rfl rfl rfl (congrArg Value.bool hb35)) rfl (R.gtr rfl rfl) ?_
            refine LE.p (v := (Value.bool (decide ((255 : Int) < (t40.len : Int))))) (Wn.no rfl) rfl (R.pickF (congrArg Value.bool hb35) rfl) ?_
            refine LE.nil ?_
            exact ⟨_, h, f10, f11, rfl⟩
      · refine LE.u (Un.no 6 16 true rfl rfl rfl (congrArg Value.bool hb21)) ?_
        refine LE.u (Un.no 6 16 true rfl rfl rfl (congrArg Value.bool hb21)) ?_
        refine LE.u (Un.no 6 16 true rfl rfl rfl (congrArg Value.bool hb21)) ?_
        refine LE.u (Un.no 6 16 true rfl rfl rfl (congrArg Value.bool hb21)) ?_
        refine LE.u (Un.no 6 16 true rfl rfl rfl (congrArg Value.bool hb21)) ?_
        refine LE.u (Un.no 6 16 true rfl rfl rfl (congrArg Value.bool hb21)) ?_
        refine LE.p (v := (Value.bool false)) (Wn.no rfl) rfl (R.pickF (congrArg Value.bool hb21) rfl) ?_
        refine LE.p (v := (Value.bool false)) (Wn.no rfl) rfl (R.move rfl) ?_
        refine LE.p (v := (SV.v p0)) (Wn.yes 14 24 false rfl rfl rfl rfl) rfl (R.move f10) ?_
        refine LE.p (v := (Value.int .i64 x1)) (Wn.yes 14 24 false rfl rfl rfl rfl) rfl (R.move f11) ?_
        obtain ⟨a42, h43, h44, h45, h⟩ := h
        refine LE.p (v := (Value.pointer (some (a42.add (x1.toNat * 2))))) (Wn.yes 14 24 false rfl rfl rfl rfl) rfl (R.idx (s := p0) sl24 rfl rfl h43 h44 h45) ?_
        refine LE.p (v := (Value.pointer (some ((a42.add (x1.toNat * 2)).add 1)))) (Wn.yes 14 24 false rfl rfl rfl rfl) rfl (R.fld (off := 1) fa27_1 rfl) ?_
        obtain ⟨t46, h47, h⟩ := h
        refine LE.r (v := (SV.v t46)) (Wn.yes 14 24 false rfl rfl rfl rfl) rfl (R.ld sc25 rfl h47) ?_
        refine LE.p (v := (Value.int .i64 (t46.len : Int))) (Wn.yes 14 24 false rfl rfl rfl rfl) rfl (R.len sl25 rfl) ?_
        refine LE.p (v := (Value.bool (decide ((t46.len : Int) < (1 : Int))))) (Wn.yes 14 24 false rfl rfl rfl rfl) rfl (R.lss rfl rfl) ?_
        refine LE.p (v := (Value.bool (decide ((t46.len : Int) < (1 : Int))))) (Wn.no rfl) rfl (R.pickF rfl rfl) ?_
        refine LE.p (v := (Value.bool (decide ((t46.len : Int) < (1 : Int))))) (Wn.no rfl) rfl (R.move rfl) ?_
        rcases M.ite_use h with ⟨hb48, h⟩ | ⟨hb48, h⟩
        · refine LE.u (Un.no 23 33 false rfl rfl rfl (congrArg Value.bool hb48)) ?_
          refine LE.u (Un.no 23 33 false rfl rfl rfl (congrArg Value.bool hb48)) ?_
          refine LE.u (Un.no 23 33 false rfl rfl rfl (congrArg Value.bool hb48)) ?_
          refine LE.u (Un.no 23 33 false rfl rfl rfl (congrArg Value.bool hb48)) ?_
          refine LE.u (Un.no 23 33 false rfl rfl rfl (congrArg Value.bool hb48)) ?_
          refine LE.u (Un.no 23 33 false rfl rfl rfl (congrArg Value.bool hb48)) ?_
          refine LE.u (Un.no 23 33 false rfl rfl rfl (congrArg Value.bool hb48)) ?_
          refine LE.p (v := (Value.bool true)) (Wn.no rfl) rfl (R.pickT (congrArg Value.bool hb48) rfl) ?_
          refine LE.nil ?_
          exact ⟨_, h, f10, f11, rfl⟩
        · refine LE.p (v := (SV.v p0)) (Wn.yes 23 33 false rfl rfl rfl (congrArg Value.bool hb48)) rfl (R.move f10) ?_
          refine LE.p (v := (Value.int .i64 x1)) (Wn.yes 23 33 false rfl rfl rfl (congrArg Value.bool hb48)) rfl (R.move f11) ?_
          obtain ⟨a49, h50, h51, h52, h⟩ := h
          refine LE.p (v := (Value.pointer (some (a49.add (x1.toNat * 2))))) (Wn.yes 23 33 false rfl rfl rfl (congrArg Value.bool hb48)) rfl (R.idx (s := p0) sl24 rfl rfl h50 h51 h52) ?_
          refine LE.p (v := (Value.pointer (some ((a49.add (x1.toNat * 2)).add 1)))) (Wn.yes 23 33 false rfl rfl rfl (congrArg Value.bool hb48)) rfl (R.fld (off := 1) fa27_1 rfl) ?_
          obtain ⟨t53, h54, h⟩ := h
          refine LE.r (v := (SV.v t53)) (Wn.yes 23 33 false rfl rfl rfl (congrArg Value.bool hb48)) rfl (R.ld sc25 rfl h54) ?_
          refine LE.p (v := (Value.int .i64 (t53.len : Int))) (Wn.yes 23 33 false rfl rfl rfl (congrArg Value.bool hb48)) rfl (R.len sl25 rfl) ?_
          refine LE.p (v := (Value.bool (decide ((255 : Int) < (t53.len : Int))))) (Wn.yes 23 33 false rfl rfl rfl (congrArg Value.bool hb48)) rfl (R.gtr rfl rfl) ?_
          refine LE.p (v := (Value.bool (decide ((255 : Int) < (t53.len : Int))))) (Wn.no rfl) rfl (R.pickF (congrArg Value.bool hb48) rfl) ?_
          refine LE.nil ?_
          exact ⟨_, h, f10, f11, rfl⟩
    · rintro e55 w56 ⟨x14, h, f57, f58, f59⟩
      subst hJ13
      refine WE.condT rfl (b := x14) f59 ?_ ?_
      · intro hb60
        replace h := M.ite_t h hb60
        refine WE.seq ?_
        refine WE.reg ?_
        refine LE.p (v := (Value.bool false)) (Wn.no rfl) rfl (R.assign rfl) ?_
        refine LE.nil ?_
        refine WE.ret ?_
        exact ⟨_, (Res.tmp rfl Res.nil), _, rfl, h⟩
      · intro hb60
        replace h := M.ite_f h hb60
        refine WE.skip ?_
        refine WE.reg ?_
        refine LE.p (v := (Value.int .i64 x1)) (Wn.no rfl) rfl (R.move f58) ?_
        refine LE.p (v := (Value.int .i64 (IntKind.i64.wrap (x1 + (1 : Int))))) (Wn.no rfl) rfl (R.add rfl rfl) ?_
        refine LE.p (v := (Value.int .i64 (IntKind.i64.wrap (x1 + (1 : Int))))) (Wn.no rfl) rfl (R.assign rfl) ?_
        refine LE.nil ?_
        obtain ⟨m8, hm9, h⟩ := h
        exact ⟨m8, hm9, _, h, f57, rfl⟩
  · intro hb12
    replace h := M.ite_f h hb12
    refine WE.exit ?_
    refine WE.seq ?_
    refine WE.reg ?_
    refine LE.p (v := (SV.v p0)) (Wn.no rfl) rfl (R.move f10) ?_
    refine LE.p (v := (Value.int .i64 (p0.len : Int))) (Wn.no rfl) rfl (R.len sl24 rfl) ?_
    refine LE.p (v := (Value.bool (decide ((p0.len : Int) ≤ (16 : Int))))) (Wn.no rfl) rfl (R.leq rfl rfl) ?_
    refine LE.p (v := (Value.bool (decide ((p0.len : Int) ≤ (16 : Int))))) (Wn.no rfl) rfl (R.assign rfl) ?_
    refine LE.nil ?_
    refine WE.ret ?_
    exact ⟨_, (Res.tmp rfl Res.nil), _, rfl, h⟩
/-- The formula of signpost.signpostref6.Count. -/
def F44 (p0 : SV) (K : Int → World → Prop) (w0 : World) : Prop :=
M.loop2 (fun (J3 : Int → Int → World → Prop) (x1 : Int) (x2 : Int) (w4 : World) => 
M.ite (decide (x2 < (p0.len : Int))) (
M.idx p0 x2 2 fun a15 =>
M.ld (Value.int .i64) (a15.add (x2.toNat * 2)) w4 fun t19 =>
M.join (fun (x22 : Int) (w32 : World) => 
J3 x22 (IntKind.i64.wrap (x2 + (1 : Int))) w32) fun J21 => 
M.ite (t19 == (1 : Int)) (
J21 (IntKind.i64.wrap (x1 + (1 : Int))) w4) (
M.ite (t19 == (2 : Int)) (
M.idx p0 x2 2 fun a25 =>
M.ld SV.v ((a25.add (x2.toNat * 2)).add 1) w4 fun t29 =>
J21 (IntKind.i64.wrap (x1 + (t29.len : Int))) w4) (
J21 x1 w4))) (
K x1 w4)) (0 : Int) (0 : Int) w0
theorem F44_ok {w0 : World} {p0 : SV} {K : Int → World → Prop} (h : F44 p0 K w0) : Calls Try.prog 44 #[(SV.v p0)] w0 (R44 K) := by
  refine calls_of_WE (args := [(SV.v p0)]) (rs := [.tmp 2]) Try.func44 rfl (N := 31) rfl rfl rfl rfl ?_
  refine WE.seq ?_
  refine WE.reg ?_
  refine LE.p (v := (Value.int .i64 (0 : Int))) (Wn.no rfl) rfl (R.assign rfl) ?_
  refine LE.nil ?_
  refine WE.seq ?_
  refine WE.reg ?_
  refine LE.p (v := (Value.int .i64 (0 : Int))) (Wn.no rfl) rfl (R.assign rfl) ?_
  refine LE.nil ?_
  refine WE.seq ?_
  refine WE.seq ?_
  refine WE.reg ?_
  refine LE.p (v := (Value.int .i64 (0 : Int))) (Wn.no rfl) rfl (R.assign rfl) ?_
  refine LE.nil ?_
  refine WE.block ?_
  obtain ⟨I7, ⟨n6, h⟩, hr8⟩ := h
  refine WE.loop (fun n e w => ∃ (x1 : Int) (x2 : Int), I7 n x1 x2 w ∧ e 0 = (SV.v p0) ∧ e 3 = (Value.int .i64 x1) ∧ e 4 = (Value.int .i64 x2)) n6 ⟨_, _, h, rfl, rfl, rfl⟩ ?_
  clear h
  rintro n6 e5 w4 ⟨x1, x2, h, f11, f12, f13⟩
  replace h := hr8 n6 x1 x2 w4 h
  refine WE.seq ?_
  refine WE.seq ?_
  refine WE.reg ?_
  refine LE.p (v := (Value.int .i64 x2)) (Wn.no rfl) rfl (R.move f13) ?_
  refine LE.p (v := (SV.v p0)) (Wn.no rfl) rfl (R.move f11) ?_
  refine LE.p (v := (Value.int .i64 (p0.len : Int))) (Wn.no rfl) rfl (R.len sl24 rfl) ?_
  refine LE.p (v := (Value.bool (decide (x2 < (p0.len : Int))))) (Wn.no rfl) rfl (R.lss rfl rfl) ?_
  refine LE.nil ?_
  refine WE.condT rfl (b := (decide (x2 < (p0.len : Int)))) rfl ?_ ?_
  · intro hb14
    replace h := M.ite_t h hb14
    refine WE.skip ?_
    refine WE.seq ?_
    refine WE.block ?_
    refine WE.seq ?_
    refine WE.reg ?_
    refine LE.p (v := (SV.v p0)) (Wn.no rfl) rfl (R.move f11) ?_
    refine LE.p (v := (Value.int .i64 x2)) (Wn.no rfl) rfl (R.move f13) ?_
    obtain ⟨a15, h16, h17, h18, h⟩ := h
    refine LE.p (v := (Value.pointer (some (a15.add (x2.toNat * 2))))) (Wn.no rfl) rfl (R.idx (s := p0) sl24 rfl rfl h16 h17 h18) ?_
    refine LE.p (v := (Value.pointer (some (a15.add (x2.toNat * 2))))) (Wn.no rfl) rfl (R.fld (off := 0) fa27_0 rfl) ?_
    obtain ⟨t19, h20, h⟩ := h
    refine LE.r (v := (Value.int .i64 t19)) (Wn.no rfl) rfl (R.ld sc3 rfl h20) ?_
    refine LE.nil ?_
    obtain ⟨J21, hJ21, h⟩ := M.join_use h
    refine WE.blkJ (fun e w => ∃ (x22 : Int), J21 x22 w ∧ e 0 = (SV.v p0) ∧ e 3 = (Value.int .i64 x22) ∧ e 4 = (Value.int .i64 x2)) ?_ ?_
    · clear hJ21
      refine WE.seq ?_
      refine WE.reg ?_
      refine LE.p (v := (Value.bool (t19 == (1 : Int)))) (Wn.no rfl) rfl (R.eql rfl rfl) ?_
      refine LE.p (v := (Value.bool (t19 == (1 : Int)))) (Wn.no rfl) rfl (R.assign rfl) ?_
      refine LE.nil ?_
      refine WE.condT rfl (b := (t19 == (1 : Int))) rfl ?_ ?_
      · intro hb23
        replace h := M.ite_t h hb23
        refine WE.reg ?_
        refine LE.p (v := (Value.int .i64 x1)) (Wn.no rfl) rfl (R.move f12) ?_
        refine LE.p (v := (Value.int .i64 (IntKind.i64.wrap (x1 + (1 : Int))))) (Wn.no rfl) rfl (R.add rfl rfl) ?_
        refine LE.p (v := (Value.int .i64 (IntKind.i64.wrap (x1 + (1 : Int))))) (Wn.no rfl) rfl (R.assign rfl) ?_
        refine LE.nil ?_
        exact ⟨_, h, f11, rfl, f13⟩
      · intro hb23
        replace h := M.ite_f h hb23
        refine WE.seq ?_
        refine WE.reg ?_
        refine LE.p (v := (Value.bool (t19 == (2 : Int)))) (Wn.no rfl) rfl (R.eql rfl rfl) ?_
        refine LE.p (v := (Value.bool (t19 == (2 : Int)))) (Wn.no rfl) rfl (R.assign rfl) ?_
        refine LE.nil ?_
        refine WE.condT rfl (b := (t19 == (2 : Int))) rfl ?_ ?_
        · intro hb24
          replace h := M.ite_t h hb24
          refine WE.reg ?_
          refine LE.p (v := (Value.int .i64 x1)) (Wn.no rfl) rfl (R.move f12) ?_
          refine LE.p (v := (SV.v p0)) (Wn.no rfl) rfl (R.move f11) ?_
          refine LE.p (v := (Value.int .i64 x2)) (Wn.no rfl) rfl (R.move f13) ?_
          obtain ⟨a25, h26, h27, h28, h⟩ := h
          refine LE.p (v := (Value.pointer (some (a25.add (x2.toNat * 2))))) (Wn.no rfl) rfl (R.idx (s := p0) sl24 rfl rfl h26 h27 h28) ?_
          refine LE.p (v := (Value.pointer (some ((a25.add (x2.toNat * 2)).add 1)))) (Wn.no rfl) rfl (R.fld (off := 1) fa27_1 rfl) ?_
          obtain ⟨t29, h30, h⟩ := h
          refine LE.r (v := (SV.v t29)) (Wn.no rfl) rfl (R.ld sc25 rfl h30) ?_
          refine LE.p (v := (Value.int .i64 (t29.len : Int))) (Wn.no rfl) rfl (R.len sl25 rfl) ?_
          refine LE.p (v := (Value.int .i64 (IntKind.i64.wrap (x1 + (t29.len : Int))))) (Wn.no rfl) rfl (R.add rfl rfl) ?_
          refine LE.p (v := (Value.int .i64 (IntKind.i64.wrap (x1 + (t29.len : Int))))) (Wn.no rfl) rfl (R.assign rfl) ?_
          refine LE.nil ?_
          exact ⟨_, h, f11, rfl, f13⟩
        · intro hb24
          replace h := M.ite_f h hb24
          refine WE.skip ?_
          exact ⟨_, h, f11, f12, f13⟩
    · rintro e31 w32 ⟨x22, h, f33, f34, f35⟩
      subst hJ21
      refine WE.reg ?_
      refine LE.p (v := (Value.int .i64 x2)) (Wn.no rfl) rfl (R.move f35) ?_
      refine LE.p (v := (Value.int .i64 (IntKind.i64.wrap (x2 + (1 : Int))))) (Wn.no rfl) rfl (R.add rfl rfl) ?_
      refine LE.p (v := (Value.int .i64 (IntKind.i64.wrap (x2 + (1 : Int))))) (Wn.no rfl) rfl (R.assign rfl) ?_
      refine LE.nil ?_
      obtain ⟨m9, hm10, h⟩ := h
      exact ⟨m9, hm10, _, _, h, f33, f34, rfl⟩
  · intro hb14
    replace h := M.ite_f h hb14
    refine WE.exit ?_
    refine WE.seq ?_
    refine WE.reg ?_
    refine LE.p (v := (Value.int .i64 x1)) (Wn.no rfl) rfl (R.move f12) ?_
    refine LE.p (v := (Value.int .i64 x1)) (Wn.no rfl) rfl (R.assign rfl) ?_
    refine LE.nil ?_
    refine WE.ret ?_
    exact ⟨_, (Res.tmp rfl Res.nil), _, rfl, h⟩
/-- The formula of signpost.signpostref6.Has. -/
def F45 (p0 : SV) (p1 : Int) (K : Bool → World → Prop) (w0 : World) : Prop :=
M.loop1 (fun (J2 : Int → World → Prop) (x1 : Int) (w3 : World) => 
M.ite (decide (x1 < (p0.len : Int))) (
M.loop1 (fun (J15 : Int → World → Prop) (x14 : Int) (w16 : World) => 
M.idx p0 x1 2 fun a27 =>
M.ld SV.v ((a27.add (x1.toNat * 2)).add 1) w16 fun t31 =>
M.ite (decide (x14 < (t31.len : Int))) (
M.idx p0 x1 2 fun a34 =>
M.ld SV.v ((a34.add (x1.toNat * 2)).add 1) w16 fun t38 =>
M.idx t38 x14 1 fun a40 =>
M.ld (Value.int .u32) (a40.add (x14.toNat * 1)) w16 fun t44 =>
M.ite (t44 == p1) (
K true w16) (
J15 (IntKind.i64.wrap (x14 + (1 : Int))) w16)) (
J2 (IntKind.i64.wrap (x1 + (1 : Int))) w16)) (0 : Int) w3) (
K false w3)) (0 : Int) w0
theorem F45_ok {w0 : World} {p0 : SV} {p1 : Int} {K : Bool → World → Prop} (h : F45 p0 p1 K w0) : Calls Try.prog 45 #[(SV.v p0), (Value.int .u32 p1)] w0 (R45 K) := by
  refine calls_of_WE (args := [(SV.v p0), (Value.int .u32 p1)]) (rs := [.tmp 4]) Try.func45 rfl (N := 33) rfl rfl rfl rfl ?_
  refine WE.seq ?_
  refine WE.reg ?_
  refine LE.p (v := (Value.bool false)) (Wn.no rfl) rfl (R.assign rfl) ?_
  refine LE.nil ?_
  refine WE.seq ?_
  refine WE.seq ?_
  refine WE.reg ?_
  refine LE.p (v := (Value.int .i64 (0 : Int))) (Wn.no rfl) rfl (R.assign rfl) ?_
  refine LE.nil ?_
  refine WE.block ?_
  obtain ⟨I6, ⟨n5, h⟩, hr7⟩ := h
  refine WE.loop (fun n e w => ∃ (x1 : Int), I6 n x1 w ∧ e 0 = (SV.v p0) ∧ e 1 = (Value.int .u32 p1) ∧ e 5 = (Value.int .i64 x1)) n5 ⟨_, h, rfl, rfl, rfl⟩ ?_
  clear h
  rintro n5 e4 w3 ⟨x1, h, f10, f11, f12⟩
  replace h := hr7 n5 x1 w3 h
  refine WE.seq ?_
  refine WE.seq ?_
  refine WE.reg ?_
  refine LE.p (v := (Value.int .i64 x1)) (Wn.no rfl) rfl (R.move f12) ?_
  refine LE.p (v := (SV.v p0)) (Wn.no rfl) rfl (R.move f10) ?_
  refine LE.p (v := (Value.int .i64 (p0.len : Int))) (Wn.no rfl) rfl (R.len sl24 rfl) ?_
  refine LE.p (v := (Value.bool (decide (x1 < (p0.len : Int))))) (Wn.no rfl) rfl (R.lss rfl rfl) ?_
  refine LE.nil ?_
  refine WE.condT rfl (b := (decide (x1 < (p0.len : Int)))) rfl ?_ ?_
  · intro hb13
    replace h := M.ite_t h hb13
    refine WE.skip ?_
    refine WE.seq ?_
    refine WE.block ?_
    refine WE.seq ?_
    refine WE.reg ?_
    refine LE.p (v := (Value.int .i64 (0 : Int))) (Wn.no rfl) rfl (R.assign rfl) ?_
    refine LE.nil ?_
    refine WE.block ?_
    obtain ⟨I19, ⟨n18, h⟩, hr20⟩ := h
    refine WE.loop (fun n e w => ∃ (x14 : Int), I19 n x14 w ∧ e 0 = (SV.v p0) ∧ e 1 = (Value.int .u32 p1) ∧ e 5 = (Value.int .i64 x1) ∧ e 6 = (Value.int .i64 x14)) n18 ⟨_, h, f10, f11, f12, rfl⟩ ?_
    clear h
    rintro n18 e17 w16 ⟨x14, h, f23, f24, f25, f26⟩
    replace h := hr20 n18 x14 w16 h
    refine WE.seq ?_
    refine WE.seq ?_
    refine WE.reg ?_
    refine LE.p (v := (Value.int .i64 x14)) (Wn.no rfl) rfl (R.move f26) ?_
    refine LE.p (v := (SV.v p0)) (Wn.no rfl) rfl (R.move f23) ?_
    refine LE.p (v := (Value.int .i64 x1)) (Wn.no rfl) rfl (R.move f25) ?_
    obtain ⟨a27, h28, h29, h30, h⟩ := h
    refine LE.p (v := (Value.pointer (some (a27.add (x1.toNat * 2))))) (Wn.no rfl) rfl (R.idx (s := p0) sl24 rfl rfl h28 h29 h30) ?_
    refine LE.p (v := (Value.pointer (some ((a27.add (x1.toNat * 2)).add 1)))) (Wn.no rfl) rfl (R.fld (off := 1) fa27_1 rfl) ?_
    obtain ⟨t31, h32, h⟩ := h
    refine LE.r (v := (SV.v t31)) (Wn.no rfl) rfl (R.ld sc25 rfl h32) ?_
    refine LE.p (v := (Value.int .i64 (t31.len : Int))) (Wn.no rfl) rfl (R.len sl25 rfl) ?_
    refine LE.p (v := (Value.bool (decide (x14 < (t31.len : Int))))) (Wn.no rfl) rfl (R.lss rfl rfl) ?_
    refine LE.nil ?_
    refine WE.condT rfl (b := (decide (x14 < (t31.len : Int)))) rfl ?_ ?_
    · intro hb33
      replace h := M.ite_t h hb33
      refine WE.skip ?_
      refine WE.seq ?_
      refine WE.block ?_
      refine WE.seq ?_
      refine WE.reg ?_
      refine LE.p (v := (SV.v p0)) (Wn.no rfl) rfl (R.move f23) ?_
      refine LE.p (v := (Value.int .i64 x1)) (Wn.no rfl) rfl (R.move f25) ?_
      obtain ⟨a34, h35, h36, h37, h⟩ := h
      refine LE.p (v := (Value.pointer (some (a34.add (x1.toNat * 2))))) (Wn.no rfl) rfl (R.idx (s := p0) sl24 rfl rfl h35 h36 h37) ?_
      refine LE.p (v := (Value.pointer (some ((a34.add (x1.toNat * 2)).add 1)))) (Wn.no rfl) rfl (R.fld (off := 1) fa27_1 rfl) ?_
      obtain ⟨t38, h39, h⟩ := h
      refine LE.r (v := (SV.v t38)) (Wn.no rfl) rfl (R.ld sc25 rfl h39) ?_
      refine LE.p (v := (Value.int .i64 x14)) (Wn.no rfl) rfl (R.move f26) ?_
      obtain ⟨a40, h41, h42, h43, h⟩ := h
      refine LE.p (v := (Value.pointer (some (a40.add (x14.toNat * 1))))) (Wn.no rfl) rfl (R.idx (s := t38) sl25 rfl rfl h41 h42 h43) ?_
      obtain ⟨t44, h45, h⟩ := h
      refine LE.r (v := (Value.int .u32 t44)) (Wn.no rfl) rfl (R.ld sc23 rfl h45) ?_
      refine LE.p (v := (Value.int .u32 p1)) (Wn.no rfl) rfl (R.move f24) ?_
      refine LE.p (v := (Value.bool (t44 == p1))) (Wn.no rfl) rfl (R.eql rfl rfl) ?_
      refine LE.nil ?_
      refine WE.condT rfl (b := (t44 == p1)) rfl ?_ ?_
      · intro hb46
        replace h := M.ite_t h hb46
        refine WE.seq ?_
        refine WE.reg ?_
        refine LE.p (v := (Value.bool true)) (Wn.no rfl) rfl (R.assign rfl) ?_
        refine LE.nil ?_
        refine WE.ret ?_
        exact ⟨_, (Res.tmp rfl Res.nil), _, rfl, h⟩
      · intro hb46
        replace h := M.ite_f h hb46
        refine WE.skip ?_
        refine WE.reg ?_
        refine LE.p (v := (Value.int .i64 x14)) (Wn.no rfl) rfl (R.move f26) ?_
        refine LE.p (v := (Value.int .i64 (IntKind.i64.wrap (x14 + (1 : Int))))) (Wn.no rfl) rfl (R.add rfl rfl) ?_
        refine LE.p (v := (Value.int .i64 (IntKind.i64.wrap (x14 + (1 : Int))))) (Wn.no rfl) rfl (R.assign rfl) ?_
        refine LE.nil ?_
        obtain ⟨m21, hm22, h⟩ := h
        exact ⟨m21, hm22, _, h, f23, f24, f25, rfl⟩
    · intro hb33
      replace h := M.ite_f h hb33
      refine WE.exit ?_
      refine WE.reg ?_
      refine LE.p (v := (Value.int .i64 x1)) (Wn.no rfl) rfl (R.move f25) ?_
      refine LE.p (v := (Value.int .i64 (IntKind.i64.wrap (x1 + (1 : Int))))) (Wn.no rfl) rfl (R.add rfl rfl) ?_
      refine LE.p (v := (Value.int .i64 (IntKind.i64.wrap (x1 + (1 : Int))))) (Wn.no rfl) rfl (R.assign rfl) ?_
      refine LE.nil ?_
      obtain ⟨m8, hm9, h⟩ := h
      exact ⟨m8, hm9, _, h, f23, f24, rfl⟩
  · intro hb13
    replace h := M.ite_f h hb13
    refine WE.exit ?_
    refine WE.seq ?_
    refine WE.reg ?_
    refine LE.p (v := (Value.bool false)) (Wn.no rfl) rfl (R.assign rfl) ?_
    refine LE.nil ?_
    refine WE.ret ?_
    exact ⟨_, (Res.tmp rfl Res.nil), _, rfl, h⟩
/-- The formula of signpost.signpostref6.Prepend. -/
def F46 (p0 : SV) (p1 : Int) (p2 : Int) (K : SV → World → Prop) (w0 : World) : Prop :=
Calls Try.prog 60 #[(SV.v p0)] w0 (R60 fun r1 w2 =>
M.loop2 (fun (J5 : SV → Int → World → Prop) (x3 : SV) (x4 : Int) (w6 : World) => 
M.join (fun (x18 : Bool) (w21 : World) => 
M.ite x18 (
M.join (fun (x29 : SV) (w83 : World) => 
J5 x29 (IntKind.i64.wrap (x4 + (1 : Int))) w83) fun J28 => 
M.join (fun (x31 : Bool) (w47 : World) => 
M.ite x31 (
M.new (.cells #[(Value.int .u32 p1)] 23) w47 fun b56 w54 =>
M.idx x3 (0 : Int) 2 fun a57 =>
M.ld SV.v ((a57.add ((0 : Int).toNat * 2)).add 1) w54 fun t61 =>
M.app Try.prog 25 25 25 (SV.mk (some b56) 1 1) (SV.v t61) w54 fun s63 w64 =>
M.idx x3 (0 : Int) 2 fun a66 =>
M.st ((a66.add ((0 : Int).toNat * 2)).add 1) (SV.v s63) w64 fun w70 =>
J28 x3 w70) (
M.new (.cells #[(Value.int .u32 p1)] 23) w47 fun b75 w73 =>
M.new (.cells #[(Value.int .i64 (2 : Int)), (SV.v (SV.mk (some b75) 1 1))] 27) w73 fun b78 w76 =>
M.app Try.prog 24 24 24 (SV.mk (some b78) 1 1) (SV.v x3) w76 fun s79 w80 =>
J28 s79 w80)) fun J30 => 
M.ite (decide ((0 : Int) < (x3.len : Int))) (
M.idx x3 (0 : Int) 2 fun a33 =>
M.ld (Value.int .i64) (a33.add ((0 : Int).toNat * 2)) w21 fun t37 =>
M.ite (t37 == (2 : Int)) (
M.idx x3 (0 : Int) 2 fun a40 =>
M.ld SV.v ((a40.add ((0 : Int).toNat * 2)).add 1) w21 fun t44 =>
J30 (decide ((t44.len : Int) < (255 : Int))) w21) (
J30 false w21)) (
J30 false w21)) (
K x3 w21)) fun J17 => 
M.ite (decide (x4 < p2)) (
J17 (decide (x4 < (10 : Int))) w6) (
J17 false w6)) r1 (0 : Int) w2)
theorem F46_ok {w0 : World} {p0 : SV} {p1 : Int} {p2 : Int} {K : SV → World → Prop} (h : F46 p0 p1 p2 K w0) : Calls Try.prog 46 #[(SV.v p0), (Value.int .u32 p1), (Value.int .i64 p2)] w0 (R46 K) := by
  refine calls_of_WE (args := [(SV.v p0), (Value.int .u32 p1), (Value.int .i64 p2)]) (rs := [.tmp 6]) Try.func46 rfl (N := 55) rfl rfl rfl rfl ?_
  refine WE.seq ?_
  refine WE.reg ?_
  refine LE.p (v := (SV.v SV.nil)) (Wn.no rfl) rfl (R.assign rfl) ?_
  refine LE.nil ?_
  refine WE.seq ?_
  refine WE.reg ?_
  refine LE.p (v := (SV.v p0)) (Wn.no rfl) rfl (R.move rfl) ?_
  refine LE.c (Wn.no rfl) rfl (R.call bd60 (Ls.cons rfl Ls.nil) rfl) (Calls.mono h ?_)
  rintro _ w2 ⟨r1, rfl, h⟩
  refine ⟨_, rfl, ?_⟩
  refine LE.p (v := (SV.v r1)) (Wn.no rfl) rfl (R.assign rfl) ?_
  refine LE.nil ?_
  refine WE.seq ?_
  refine WE.seq ?_
  refine WE.reg ?_
  refine LE.p (v := (Value.int .i64 (0 : Int))) (Wn.no rfl) rfl (R.assign rfl) ?_
  refine LE.nil ?_
  refine WE.block ?_
  obtain ⟨I9, ⟨n8, h⟩, hr10⟩ := h
  refine WE.loop (fun n e w => ∃ (x3 : SV) (x4 : Int), I9 n x3 x4 w ∧ e 1 = (Value.int .u32 p1) ∧ e 2 = (Value.int .i64 p2) ∧ e 7 = (SV.v x3) ∧ e 8 = (Value.int .i64 x4)) n8 ⟨_, _, h, rfl, rfl, rfl, rfl⟩ ?_
  clear h
  rintro n8 e7 w6 ⟨x3, x4, h, f13, f14, f15, f16⟩
  replace h := hr10 n8 x3 x4 w6 h
  refine WE.seq ?_
  refine WE.seq ?_
  obtain ⟨J17, hJ17, h⟩ := M.join_use h
  refine WE.regJ (fun e w => ∃ (x18 : Bool), J17 x18 w ∧ e 1 = (Value.int .u32 p1) ∧ e 2 = (Value.int .i64 p2) ∧ e 7 = (SV.v x3) ∧ e 8 = (Value.int .i64 x4) ∧ e 17 = (Value.bool x18)) ?_ ?_
  · clear hJ17
    refine LE.p (v := (Value.int .i64 x4)) (Wn.no rfl) rfl (R.move f16) ?_
    refine LE.p (v := (Value.int .i64 p2)) (Wn.no rfl) rfl (R.move f14) ?_
    refine LE.p (v := (Value.bool (decide (x4 < p2)))) (Wn.no rfl) rfl (R.lss rfl rfl) ?_
    refine LE.p (v := (Value.bool (decide (x4 < p2)))) (Wn.no rfl) rfl (R.move rfl) ?_
    rcases M.ite_use h with ⟨hb19, h⟩ | ⟨hb19, h⟩
    · refine LE.p (v := (Value.int .i64 x4)) (Wn.yes 3 14 true rfl rfl rfl (congrArg Value.bool hb19)) rfl (R.move f16) ?_
      refine LE.p (v := (Value.bool (decide (x4 < (10 : Int))))) (Wn.yes 3 14 true rfl rfl rfl (congrArg Value.bool hb19)) rfl (R.lss rfl rfl) ?_
      refine LE.p (v := (Value.bool (decide (x4 < (10 : Int))))) (Wn.no rfl) rfl (R.pickT (congrArg Value.bool hb19) rfl) ?_
      refine LE.nil ?_
      exact ⟨_, h, f13, f14, f15, f16, rfl⟩
    · refine LE.u (Un.no 3 14 true rfl rfl rfl (congrArg Value.bool hb19)) ?_
      refine LE.u (Un.no 3 14 true rfl rfl rfl (congrArg Value.bool hb19)) ?_
      refine LE.p (v := (Value.bool false)) (Wn.no rfl) rfl (R.pickF (congrArg Value.bool hb19) rfl) ?_
      refine LE.nil ?_
      exact ⟨_, h, f13, f14, f15, f16, rfl⟩
  · rintro e20 w21 ⟨x18, h, f22, f23, f24, f25, f26⟩
    subst hJ17
    refine WE.condT rfl (b := x18) f26 ?_ ?_
    · intro hb27
      replace h := M.ite_t h hb27
      refine WE.skip ?_
      refine WE.seq ?_
      obtain ⟨J28, hJ28, h⟩ := M.join_use h
      refine WE.blkJ (fun e w => ∃ (x29 : SV), J28 x29 w ∧ e 1 = (Value.int .u32 p1) ∧ e 2 = (Value.int .i64 p2) ∧ e 7 = (SV.v x29) ∧ e 8 = (Value.int .i64 x4)) ?_ ?_
      · clear hJ28
        refine WE.seq ?_
        obtain ⟨J30, hJ30, h⟩ := M.join_use h
        refine WE.regJ (fun e w => ∃ (x31 : Bool), J30 x31 w ∧ e 1 = (Value.int .u32 p1) ∧ e 2 = (Value.int .i64 p2) ∧ e 7 = (SV.v x3) ∧ e 8 = (Value.int .i64 x4) ∧ e 37 = (Value.bool x31)) ?_ ?_
        · clear hJ30
          refine LE.p (v := (SV.v x3)) (Wn.no rfl) rfl (R.move f24) ?_
          refine LE.p (v := (Value.int .i64 (x3.len : Int))) (Wn.no rfl) rfl (R.len sl24 rfl) ?_
          refine LE.p (v := (Value.bool (decide ((0 : Int) < (x3.len : Int))))) (Wn.no rfl) rfl (R.gtr rfl rfl) ?_
          refine LE.p (v := (Value.bool (decide ((0 : Int) < (x3.len : Int))))) (Wn.no rfl) rfl (R.move rfl) ?_
          rcases M.ite_use h with ⟨hb32, h⟩ | ⟨hb32, h⟩
          · refine LE.p (v := (SV.v x3)) (Wn.yes 3 23 true rfl rfl rfl (congrArg Value.bool hb32)) rfl (R.move f24) ?_
            obtain ⟨a33, h34, h35, h36, h⟩ := h
            refine LE.p (v := (Value.pointer (some (a33.add ((0 : Int).toNat * 2))))) (Wn.yes 3 23 true rfl rfl rfl (congrArg Value.bool hb32)) rfl (R.idx (s := x3) sl24 rfl rfl h34 h35 h36) ?_
            refine LE.p (v := (Value.pointer (some (a33.add ((0 : Int).toNat * 2))))) (Wn.yes 3 23 true rfl rfl rfl (congrArg Value.bool hb32)) rfl (R.fld (off := 0) fa27_0 rfl) ?_
            obtain ⟨t37, h38, h⟩ := h
            refine LE.r (v := (Value.int .i64 t37)) (Wn.yes 3 23 true rfl rfl rfl (congrArg Value.bool hb32)) rfl (R.ld sc3 rfl h38) ?_
            refine LE.p (v := (Value.bool (t37 == (2 : Int)))) (Wn.yes 3 23 true rfl rfl rfl (congrArg Value.bool hb32)) rfl (R.eql rfl rfl) ?_
            refine LE.p (v := (Value.bool (t37 == (2 : Int)))) (Wn.no rfl) rfl (R.pickT (congrArg Value.bool hb32) rfl) ?_
            refine LE.p (v := (Value.bool (t37 == (2 : Int)))) (Wn.no rfl) rfl (R.move rfl) ?_
            rcases M.ite_use h with ⟨hb39, h⟩ | ⟨hb39, h⟩
            · refine LE.p (v := (SV.v x3)) (Wn.yes 10 30 true rfl rfl rfl (congrArg Value.bool hb39)) rfl (R.move f24) ?_
              obtain ⟨a40, h41, h42, h43, h⟩ := h
              refine LE.p (v := (Value.pointer (some (a40.add ((0 : Int).toNat * 2))))) (Wn.yes 10 30 true rfl rfl rfl (congrArg Value.bool hb39)) rfl (R.idx (s := x3) sl24 rfl rfl h41 h42 h43) ?_
              refine LE.p (v := (Value.pointer (some ((a40.add ((0 : Int).toNat * 2)).add 1)))) (Wn.yes 10 30 true rfl rfl rfl (congrArg Value.bool hb39)) rfl (R.fld (off := 1) fa27_1 rfl) ?_
              obtain ⟨t44, h45, h⟩ := h
              refine LE.r (v := (SV.v t44)) (Wn.yes 10 30 true rfl rfl rfl (congrArg Value.bool hb39)) rfl (R.ld sc25 rfl h45) ?_
              refine LE.p (v := (Value.int .i64 (t44.len : Int))) (Wn.yes 10 30 true rfl rfl rfl (congrArg Value.bool hb39)) rfl (R.len sl25 rfl) ?_
              refine LE.p (v := (Value.bool (decide ((t44.len : Int) < (255 : Int))))) (Wn.yes 10 30 true rfl rfl rfl (congrArg Value.bool hb39)) rfl (R.lss rfl rfl) ?_
              refine LE.p (v := (Value.bool (decide ((t44.len : Int) < (255 : Int))))) (Wn.no rfl) rfl (R.pickT (congrArg Value.bool hb39) rfl) ?_
              refine LE.nil ?_
              exact ⟨_, h, f22, f23, f24, f25, rfl⟩
            · refine LE.u (Un.no 10 30 true rfl rfl rfl (congrArg Value.bool hb39)) ?_
              refine LE.u (Un.no 10 30 true rfl rfl rfl (congrArg Value.bool hb39)) ?_
              refine LE.u (Un.no 10 30 true rfl rfl rfl (congrArg Value.bool hb39)) ?_
              refine LE.u (Un.no 10 30 true rfl rfl rfl (congrArg Value.bool hb39)) ?_
              refine LE.u (Un.no 10 30 true rfl rfl rfl (congrArg Value.bool hb39)) ?_
              refine LE.u (Un.no 10 30 true rfl rfl rfl (congrArg Value.bool hb39)) ?_
              refine LE.p (v := (Value.bool false)) (Wn.no rfl) rfl (R.pickF (congrArg Value.bool hb39) rfl) ?_
              refine LE.nil ?_
              exact ⟨_, h, f22, f23, f24, f25, rfl⟩
          · refine LE.u (Un.no 3 23 true rfl rfl rfl (congrArg Value.bool hb32)) ?_
            refine LE.u (Un.no 3 23 true rfl rfl rfl (congrArg Value.bool hb32)) ?_
            refine LE.u (Un.no 3 23 true rfl rfl rfl (congrArg Value.bool hb32)) ?_
            refine LE.u (Un.no 3 23 true rfl rfl rfl (congrArg Value.bool hb32)) ?_
            refine LE.u (Un.no 3 23 true rfl rfl rfl (congrArg Value.bool hb32)) ?_
            refine LE.p (v := (Value.bool false)) (Wn.no rfl) rfl (R.pickF (congrArg Value.bool hb32) rfl) ?_
            refine LE.p (v := (Value.bool false)) (Wn.no rfl) rfl (R.move rfl) ?_
            refine LE.u (Un.no 10 30 true rfl rfl rfl rfl) ?_
            refine LE.u (Un.no 10 30 true rfl rfl rfl rfl) ?_
            refine LE.u (Un.no 10 30 true rfl rfl rfl rfl) ?_
            refine LE.u (Un.no 10 30 true rfl rfl rfl rfl) ?_
            refine LE.u (Un.no 10 30 true rfl rfl rfl rfl) ?_
            refine LE.u (Un.no 10 30 true rfl rfl rfl rfl) ?_
            refine LE.p (v := (Value.bool false)) (Wn.no rfl) rfl (R.pickF rfl rfl) ?_
            refine LE.nil ?_
            exact ⟨_, h, f22, f23, f24, f25, rfl⟩
        · rintro e46 w47 ⟨x31, h, f48, f49, f50, f51, f52⟩
          subst hJ30
          refine WE.condT rfl (b := x31) f52 ?_ ?_
          · intro hb53
            replace h := M.ite_t h hb53
            refine WE.reg ?_
            refine LE.p (v := (SV.v x3)) (Wn.no rfl) rfl (R.move f50) ?_
            refine LE.p (v := (Value.int .u32 p1)) (Wn.no rfl) rfl (R.move f48) ?_
            obtain ⟨b56, hpb56, w54, hww54, h⟩ := M.new_use h
            refine LE.r (v := (SV.v (SV.mk (some b56) 1 1))) (Wn.no rfl) rfl (R.bsl (by exact (Ls.cons (R.Pr rfl) Ls.nil)) (fun w => bs25_1 p1 w) hpb56 hww54) ?_
            refine LE.p (v := (SV.v x3)) (Wn.no rfl) rfl (R.move f50) ?_
            obtain ⟨a57, h58, h59, h60, h⟩ := h
            refine LE.p (v := (Value.pointer (some (a57.add ((0 : Int).toNat * 2))))) (Wn.no rfl) rfl (R.idx (s := x3) sl24 rfl rfl h58 h59 h60) ?_
            refine LE.p (v := (Value.pointer (some ((a57.add ((0 : Int).toNat * 2)).add 1)))) (Wn.no rfl) rfl (R.fld (off := 1) fa27_1 rfl) ?_
            obtain ⟨t61, h62, h⟩ := h
            refine LE.r (v := (SV.v t61)) (Wn.no rfl) rfl (R.ld sc25 rfl h62) ?_
            obtain ⟨s63, w64, h65, h⟩ := h
            refine LE.r (v := (SV.v s63)) (Wn.no rfl) rfl (R.app (s := (SV.mk (some b56) 1 1)) (r := s63) rfl rfl h65) ?_
            obtain ⟨a66, h67, h68, h69, h⟩ := h
            refine LE.p (v := (Value.pointer (some (a66.add ((0 : Int).toNat * 2))))) (Wn.no rfl) rfl (R.idx (s := x3) sl24 rfl rfl h67 h68 h69) ?_
            refine LE.p (v := (Value.pointer (some ((a66.add ((0 : Int).toNat * 2)).add 1)))) (Wn.no rfl) rfl (R.fld (off := 1) fa27_1 rfl) ?_
            obtain ⟨w70, hww70, h71, h72, h⟩ := M.st_use h
            refine LE.s (Wn.no rfl) rfl (R.st (a := ((a66.add ((0 : Int).toNat * 2)).add 1)) (v := (SV.v s63)) sz25 rfl rfl rfl rfl h71 h72 hww70) ?_
            refine LE.nil ?_
            exact ⟨_, h, f48, f49, f50, f51⟩
          · intro hb53
            replace h := M.ite_f h hb53
            refine WE.reg ?_
            refine LE.p (v := (Value.int .u32 p1)) (Wn.no rfl) rfl (R.move f48) ?_
            obtain ⟨b75, hpb75, w73, hww73, h⟩ := M.new_use h
            refine LE.r (v := (SV.v (SV.mk (some b75) 1 1))) (Wn.no rfl) rfl (R.bsl (by exact (Ls.cons (R.Pr rfl) Ls.nil)) (fun w => bs25_1 p1 w) hpb75 hww73) ?_
            refine LE.p (v := (Value.agg #[(Value.int .i64 (2 : Int)), (SV.v (SV.mk (some b75) 1 1))])) (Wn.no rfl) rfl (R.bld (by exact (Ls.cons (R.Pr rfl) (Ls.cons (R.Pr rfl) Ls.nil))) (fun w => bu27_0_1 (2 : Int) (SV.mk (some b75) 1 1) w)) ?_
            obtain ⟨b78, hpb78, w76, hww76, h⟩ := M.new_use h
            refine LE.r (v := (SV.v (SV.mk (some b78) 1 1))) (Wn.no rfl) rfl (R.bsl (by exact (Ls.cons (R.Pr rfl) Ls.nil)) (fun w => bs24_1 (2 : Int) (SV.mk (some b75) 1 1) w) hpb78 hww76) ?_
            refine LE.p (v := (SV.v x3)) (Wn.no rfl) rfl (R.move f50) ?_
            obtain ⟨s79, w80, h81, h⟩ := h
            refine LE.r (v := (SV.v s79)) (Wn.no rfl) rfl (R.app (s := (SV.mk (some b78) 1 1)) (r := s79) rfl rfl h81) ?_
            refine LE.p (v := (SV.v s79)) (Wn.no rfl) rfl (R.assign rfl) ?_
            refine LE.nil ?_
            exact ⟨_, h, f48, f49, rfl, f51⟩
      · rintro e82 w83 ⟨x29, h, f84, f85, f86, f87⟩
        subst hJ28
        refine WE.reg ?_
        refine LE.p (v := (Value.int .i64 x4)) (Wn.no rfl) rfl (R.move f87) ?_
        refine LE.p (v := (Value.int .i64 (IntKind.i64.wrap (x4 + (1 : Int))))) (Wn.no rfl) rfl (R.add rfl rfl) ?_
        refine LE.p (v := (Value.int .i64 (IntKind.i64.wrap (x4 + (1 : Int))))) (Wn.no rfl) rfl (R.assign rfl) ?_
        refine LE.nil ?_
        obtain ⟨m11, hm12, h⟩ := h
        exact ⟨m11, hm12, _, _, h, f84, f85, f86, rfl⟩
    · intro hb27
      replace h := M.ite_f h hb27
      refine WE.exit ?_
      refine WE.seq ?_
      refine WE.reg ?_
      refine LE.p (v := (SV.v x3)) (Wn.no rfl) rfl (R.move f24) ?_
      refine LE.p (v := (SV.v x3)) (Wn.no rfl) rfl (R.assign rfl) ?_
      refine LE.nil ?_
      refine WE.ret ?_
      exact ⟨_, (Res.tmp rfl Res.nil), _, rfl, h⟩
/-- The formula of signpost.signpostref4.U32. -/
def F47 (p0 : SV) (p1 : Int) (K : SV → World → Prop) (w0 : World) : Prop :=
M.new (.cells #[] 5) w0 fun b3 w1 =>
M.app Try.prog 40 40 40 (SV.mk (some b3) 0 0) (SV.v p0) w1 fun s4 w5 =>
M.new (.cells #[(Value.int .u8 (IntKind.u8.wrap (bShr .u32 p1 (24 : Int)))), (Value.int .u8 (IntKind.u8.wrap (bShr .u32 p1 (16 : Int)))), (Value.int .u8 (IntKind.u8.wrap (bShr .u32 p1 (8 : Int)))), (Value.int .u8 (IntKind.u8.wrap p1))] 5) w5 fun b9 w7 =>
M.app Try.prog 40 40 40 s4 (SV.v (SV.mk (some b9) 4 4)) w7 fun s10 w11 =>
K s10 w11
theorem F47_ok {w0 : World} {p0 : SV} {p1 : Int} {K : SV → World → Prop} (h : F47 p0 p1 K w0) : Calls Try.prog 47 #[(SV.v p0), (Value.int .u32 p1)] w0 (R47 K) := by
  refine calls_of_WE (args := [(SV.v p0), (Value.int .u32 p1)]) (rs := [.tmp 4]) Try.func47 rfl (N := 21) rfl rfl rfl rfl ?_
  refine WE.seq ?_
  refine WE.reg ?_
  refine LE.p (v := (SV.v SV.nil)) (Wn.no rfl) rfl (R.assign rfl) ?_
  refine LE.nil ?_
  refine WE.seq ?_
  refine WE.reg ?_
  obtain ⟨b3, hpb3, w1, hww1, h⟩ := M.new_use h
  refine LE.r (v := (SV.v (SV.mk (some b3) 0 0))) (Wn.no rfl) rfl (R.bsl (by exact Ls.nil) (fun w => bs40_0  w) hpb3 hww1) ?_
  refine LE.p (v := (SV.v p0)) (Wn.no rfl) rfl (R.move rfl) ?_
  obtain ⟨s4, w5, h6, h⟩ := h
  refine LE.r (v := (SV.v s4)) (Wn.no rfl) rfl (R.app (s := (SV.mk (some b3) 0 0)) (r := s4) rfl rfl h6) ?_
  refine LE.p (v := (Value.int .u32 p1)) (Wn.no rfl) rfl (R.move rfl) ?_
  refine LE.p (v := (Value.int .u32 (bShr .u32 p1 (24 : Int)))) (Wn.no rfl) rfl (R.shr rfl rfl (by decide)) ?_
  refine LE.p (v := (Value.int .u8 (IntKind.u8.wrap (bShr .u32 p1 (24 : Int))))) (Wn.no rfl) rfl (R.conv in5 in23 rfl) ?_
  refine LE.p (v := (Value.int .u32 p1)) (Wn.no rfl) rfl (R.move rfl) ?_
  refine LE.p (v := (Value.int .u32 (bShr .u32 p1 (16 : Int)))) (Wn.no rfl) rfl (R.shr rfl rfl (by decide)) ?_
  refine LE.p (v := (Value.int .u8 (IntKind.u8.wrap (bShr .u32 p1 (16 : Int))))) (Wn.no rfl) rfl (R.conv in5 in23 rfl) ?_
  refine LE.p (v := (Value.int .u32 p1)) (Wn.no rfl) rfl (R.move rfl) ?_
  refine LE.p (v := (Value.int .u32 (bShr .u32 p1 (8 : Int)))) (Wn.no rfl) rfl (R.shr rfl rfl (by decide)) ?_
  refine LE.p (v := (Value.int .u8 (IntKind.u8.wrap (bShr .u32 p1 (8 : Int))))) (Wn.no rfl) rfl (R.conv in5 in23 rfl) ?_
  refine LE.p (v := (Value.int .u32 p1)) (Wn.no rfl) rfl (R.move rfl) ?_
  refine LE.p (v := (Value.int .u8 (IntKind.u8.wrap p1))) (Wn.no rfl) rfl (R.conv in5 in23 rfl) ?_
  obtain ⟨b9, hpb9, w7, hww7, h⟩ := M.new_use h
  refine LE.r (v := (SV.v (SV.mk (some b9) 4 4))) (Wn.no rfl) rfl (R.bsl (by exact (Ls.cons (R.Pr rfl) (Ls.cons (R.Pr rfl) (Ls.cons (R.Pr rfl) (Ls.cons (R.Pr rfl) Ls.nil))))) (fun w => bs40_4 (IntKind.u8.wrap (bShr .u32 p1 (24 : Int))) (IntKind.u8.wrap (bShr .u32 p1 (16 : Int))) (IntKind.u8.wrap (bShr .u32 p1 (8 : Int))) (IntKind.u8.wrap p1) w) hpb9 hww7) ?_
  obtain ⟨s10, w11, h12, h⟩ := h
  refine LE.r (v := (SV.v s10)) (Wn.no rfl) rfl (R.app (s := s4) (r := s10) rfl rfl h12) ?_
  refine LE.p (v := (SV.v s10)) (Wn.no rfl) rfl (R.assign rfl) ?_
  refine LE.nil ?_
  refine WE.ret ?_
  exact ⟨_, (Res.tmp rfl Res.nil), _, rfl, h⟩
/-- The formula of signpost.signpostref6.Decode. -/
def F48 (p0 : SV) (K : SV → Bool → World → Prop) (w0 : World) : Prop :=
M.new (.cells #[(SV.v p0), (Value.int .i64 (0 : Int)), (Value.bool false)] 85) w0 fun b2 w1 =>
M.loop1 (fun (J4 : SV → World → Prop) (x3 : SV) (w5 : World) => 
Calls Try.prog 61 #[(Value.pointer (some b2))] w5 (R61 fun r14 w15 =>
M.ite (decide ((0 : Int) < r14)) (
Calls Try.prog 62 #[(Value.pointer (some b2))] w15 (R62 fun r17 w18 =>
M.new (.cells #[(Value.int .i64 (0 : Int)), (SV.v SV.nil)] 27) w18 fun b20 w19 =>
M.stA b20 [(Value.int .i64 r17), (SV.v SV.nil)] w19 fun w21 =>
Calls Try.prog 62 #[(Value.pointer (some b2))] w21 (R62 fun r23 w24 =>
M.loop1 (fun (J26 : Int → World → Prop) (x25 : Int) (w27 : World) => 
M.join (fun (x39 : Bool) (w44 : World) => 
M.ite x39 (
M.drew w44 fun w51 => 
M.ld SV.v (b20.add 1) w51 fun t52 =>
Calls Try.prog 63 #[(Value.pointer (some b2))] w51 (R63 fun r54 w55 =>
M.keep (w55.cell? (b20.add 1) = some (SV.v t52)) <|
M.new (.cells #[(Value.int .u32 r54)] 23) w55 fun b59 w57 =>
M.keep (w57.cell? (b20.add 1) = some (SV.v t52)) <|
M.app Try.prog 25 25 25 t52 (SV.v (SV.mk (some b59) 1 1)) w57 fun s61 w62 =>
M.st (b20.add 1) (SV.v s61) w62 fun w64 =>
J26 (IntKind.i64.wrap (x25 - (1 : Int))) w64)) (
M.ld (Value.int .i64) b20 w44 fun t67 =>
M.ld SV.v (b20.add 1) w44 fun t69 =>
M.new (.cells #[(Value.int .i64 t67), (SV.v t69)] 27) w44 fun b73 w71 =>
M.app Try.prog 24 24 24 x3 (SV.v (SV.mk (some b73) 1 1)) w71 fun s74 w75 =>
J4 s74 w75)) fun J38 => 
M.ite (decide ((0 : Int) < x25)) (
M.ld Value.bool (b2.add 2) w27 fun t41 =>
J38 (!t41) w27) (
J38 false w27)) r23 w24))) (
M.join (fun (x78 : Bool) (w85 : World) => 
M.ite x78 (
K SV.nil false w85) (
K x3 true w85)) fun J77 => 
M.ld Value.bool (b2.add 2) w15 fun t79 =>
M.ite t79 (
J77 true w15) (
Calls Try.prog 43 #[(SV.v x3)] w15 (R43 fun r82 w83 =>
J77 (!r82) w83))))) SV.nil w1
theorem F48_ok {w0 : World} {p0 : SV} {K : SV → Bool → World → Prop} (h : F48 p0 K w0) : Calls Try.prog 48 #[(SV.v p0)] w0 (R48 K) := by
  refine calls_of_WE (args := [(SV.v p0)]) (rs := [.tmp 2, .tmp 3]) Try.func48 rfl (N := 51) rfl rfl rfl rfl ?_
  refine WE.seq ?_
  refine WE.reg ?_
  refine LE.p (v := (SV.v SV.nil)) (Wn.no rfl) rfl (R.assign rfl) ?_
  refine LE.p (v := (Value.bool false)) (Wn.no rfl) rfl (R.assign rfl) ?_
  refine LE.nil ?_
  refine WE.seq ?_
  refine WE.reg ?_
  refine LE.p (v := (SV.v p0)) (Wn.no rfl) rfl (R.move rfl) ?_
  refine LE.p (v := (Value.agg #[(SV.v p0), (Value.int .i64 (0 : Int)), (Value.bool false)])) (Wn.no rfl) rfl (R.bld (by exact (Ls.cons (R.Pr rfl) Ls.nil)) (fun w => bu85_0 p0 w)) ?_
  obtain ⟨b2, hpb2, w1, hww1, h⟩ := M.new_use h
  refine LE.r (v := (Value.pointer (some b2))) (Wn.no rfl) rfl (R.box (cs := #[(SV.v p0), (Value.int .i64 (0 : Int)), (Value.bool false)]) rfl rfl hpb2 hww1) ?_
  refine LE.p (v := (Value.pointer (some b2))) (Wn.no rfl) rfl (R.assign rfl) ?_
  refine LE.nil ?_
  refine WE.seq ?_
  refine WE.reg ?_
  refine LE.p (v := (SV.v SV.nil)) (Wn.no rfl) rfl (R.assign rfl) ?_
  refine LE.nil ?_
  refine WE.seq ?_
  refine WE.block ?_
  obtain ⟨I8, ⟨n7, h⟩, hr9⟩ := h
  refine WE.loop (fun n e w => ∃ (x3 : SV), I8 n x3 w ∧ e 4 = (Value.pointer (some b2)) ∧ e 5 = (SV.v x3)) n7 ⟨_, h, rfl, rfl⟩ ?_
  clear h
  rintro n7 e6 w5 ⟨x3, h, f12, f13⟩
  replace h := hr9 n7 x3 w5 h
  refine WE.seq ?_
  refine WE.seq ?_
  refine WE.reg ?_
  refine LE.p (v := (Value.pointer (some b2))) (Wn.no rfl) rfl (R.move f12) ?_
  refine LE.c (Wn.no rfl) rfl (R.call bd61 (Ls.cons rfl Ls.nil) rfl) (Calls.mono h ?_)
  rintro _ w15 ⟨r14, rfl, h⟩
  refine ⟨_, rfl, ?_⟩
  refine LE.p (v := (Value.bool (decide ((0 : Int) < r14)))) (Wn.no rfl) rfl (R.gtr rfl rfl) ?_
  refine LE.nil ?_
  refine WE.condT rfl (b := (decide ((0 : Int) < r14))) rfl ?_ ?_
  · intro hb16
    replace h := M.ite_t h hb16
    refine WE.skip ?_
    refine WE.block ?_
    refine WE.seq ?_
    refine WE.reg ?_
    refine LE.p (v := (Value.pointer (some b2))) (Wn.no rfl) rfl (R.move f12) ?_
    refine LE.c (Wn.no rfl) rfl (R.call bd62 (Ls.cons rfl Ls.nil) rfl) (Calls.mono h ?_)
    rintro _ w18 ⟨r17, rfl, h⟩
    refine ⟨_, rfl, ?_⟩
    refine LE.p (v := (Value.agg #[(Value.int .i64 r17), (SV.v SV.nil)])) (Wn.no rfl) rfl (R.bld (by exact (Ls.cons (R.Pr rfl) Ls.nil)) (fun w => bu27_0 r17 w)) ?_
    obtain ⟨b20, hpb20, w19, hww19, h⟩ := M.new_use h
    refine LE.r (v := (Value.pointer (some b20))) (Wn.no rfl) rfl (R.alloc (cs := #[(Value.int .i64 (0 : Int)), (SV.v SV.nil)]) ze27 rfl hpb20 hww19) ?_
    obtain ⟨w21, hww21, h22, h⟩ := M.stA_use h
    refine LE.s (Wn.no rfl) rfl (R.stA (a := b20) [(Value.int .i64 r17), (SV.v SV.nil)] sz27 rfl rfl rfl (by simp [Value.oneCell']) h22 hww21) ?_
    refine LE.nil ?_
    refine WE.seq ?_
    refine WE.seq ?_
    refine WE.reg ?_
    refine LE.p (v := (Value.pointer (some b2))) (Wn.no rfl) rfl (R.move f12) ?_
    refine LE.c (Wn.no rfl) rfl (R.call bd62 (Ls.cons rfl Ls.nil) rfl) (Calls.mono h ?_)
    rintro _ w24 ⟨r23, rfl, h⟩
    refine ⟨_, rfl, ?_⟩
    refine LE.p (v := (Value.int .i64 r23)) (Wn.no rfl) rfl (R.assign rfl) ?_
    refine LE.nil ?_
    refine WE.block ?_
    obtain ⟨I30, ⟨n29, h⟩, hr31⟩ := h
    refine WE.loop (fun n e w => ∃ (x25 : Int), I30 n x25 w ∧ e 4 = (Value.pointer (some b2)) ∧ e 5 = (SV.v x3) ∧ e 6 = (Value.pointer (some b20)) ∧ e 7 = (Value.int .i64 x25)) n29 ⟨_, h, f12, f13, rfl, rfl⟩ ?_
    clear h
    rintro n29 e28 w27 ⟨x25, h, f34, f35, f36, f37⟩
    replace h := hr31 n29 x25 w27 h
    refine WE.seq ?_
    refine WE.seq ?_
    obtain ⟨J38, hJ38, h⟩ := M.join_use h
    refine WE.regJ (fun e w => ∃ (x39 : Bool), J38 x39 w ∧ e 4 = (Value.pointer (some b2)) ∧ e 5 = (SV.v x3) ∧ e 6 = (Value.pointer (some b20)) ∧ e 7 = (Value.int .i64 x25) ∧ e 27 = (Value.bool x39)) ?_ ?_
    · clear hJ38
      refine LE.p (v := (Value.int .i64 x25)) (Wn.no rfl) rfl (R.move f37) ?_
      refine LE.p (v := (Value.bool (decide ((0 : Int) < x25)))) (Wn.no rfl) rfl (R.gtr rfl rfl) ?_
      refine LE.p (v := (Value.bool (decide ((0 : Int) < x25)))) (Wn.no rfl) rfl (R.move rfl) ?_
      rcases M.ite_use h with ⟨hb40, h⟩ | ⟨hb40, h⟩
      · refine LE.p (v := (Value.pointer (some b2))) (Wn.yes 2 21 true rfl rfl rfl (congrArg Value.bool hb40)) rfl (R.move f34) ?_
        refine LE.p (v := (Value.pointer (some b2))) (Wn.yes 2 21 true rfl rfl rfl (congrArg Value.bool hb40)) rfl (R.nilC rfl) ?_
        refine LE.p (v := (Value.pointer (some (b2.add 2)))) (Wn.yes 2 21 true rfl rfl rfl (congrArg Value.bool hb40)) rfl (R.fld (off := 2) fa85_2 rfl) ?_
        obtain ⟨t41, h42, h⟩ := h
        refine LE.r (v := (Value.bool t41)) (Wn.yes 2 21 true rfl rfl rfl (congrArg Value.bool hb40)) rfl (R.ld sc4 rfl h42) ?_
        refine LE.p (v := (Value.bool (!t41))) (Wn.yes 2 21 true rfl rfl rfl (congrArg Value.bool hb40)) rfl (R.not rfl) ?_
        refine LE.p (v := (Value.bool (!t41))) (Wn.no rfl) rfl (R.pickT (congrArg Value.bool hb40) rfl) ?_
        refine LE.nil ?_
        exact ⟨_, h, f34, f35, f36, f37, rfl⟩
      · refine LE.u (Un.no 2 21 true rfl rfl rfl (congrArg Value.bool hb40)) ?_
        refine LE.u (Un.no 2 21 true rfl rfl rfl (congrArg Value.bool hb40)) ?_
        refine LE.u (Un.no 2 21 true rfl rfl rfl (congrArg Value.bool hb40)) ?_
        refine LE.u (Un.no 2 21 true rfl rfl rfl (congrArg Value.bool hb40)) ?_
        refine LE.u (Un.no 2 21 true rfl rfl rfl (congrArg Value.bool hb40)) ?_
        refine LE.p (v := (Value.bool false)) (Wn.no rfl) rfl (R.pickF (congrArg Value.bool hb40) rfl) ?_
        refine LE.nil ?_
        exact ⟨_, h, f34, f35, f36, f37, rfl⟩
    · rintro e43 w44 ⟨x39, h, f45, f46, f47, f48, f49⟩
      subst hJ38
      refine WE.condT rfl (b := x39) f49 ?_ ?_
      · intro hb50
        replace h := M.ite_t h hb50
        refine WE.skip ?_
        refine WE.seq ?_
        refine WE.block ?_
        refine WE.draw mix ?_
        obtain ⟨w51, hww51, h⟩ := M.drew_use h
        rw [← hww51]
        clear hww51
        refine DE.t 0 (v := (Value.pointer (some (b20.add 1)))) rfl (by kernel_rfl) (Wn.no rfl) rfl (R.fld (off := 1) fa27_1 f47) ?_
        refine DE.t 2 (v := (Value.pointer (some b2))) rfl (by kernel_rfl) (Wn.no rfl) rfl (R.move f45) ?_
        obtain ⟨t52, h53, h⟩ := h
        refine DE.hold 1 (fun w => w.cell? (b20.add 1) = some (SV.v t52)) (v := (SV.v t52)) rfl (by kernel_rfl) (Wn.no rfl) rfl h53 (fun w hs => R.ld sc25 rfl hs) ?_
        refine DE.main 3 (by kernel_rfl) ?_
        refine One.c 3 rfl (Wn.no rfl) rfl (R.call bd63 (Ls.cons rfl Ls.nil) rfl) (Calls.mono h ?_)
        rintro _ w55 ⟨r54, rfl, h⟩
        obtain ⟨k56, h⟩ := h
        refine ⟨_, rfl, ⟨fun _ => k56, trivial⟩, ?_⟩
        obtain ⟨b59, hpb59, w57, hww57, h⟩ := M.new_use h
        obtain ⟨k60, h⟩ := h
        refine DE.main 4 (by kernel_rfl) ?_
        refine One.r 4 (v := (SV.v (SV.mk (some b59) 1 1))) rfl (Wn.no rfl) rfl (R.bsl (by exact (Ls.cons (R.Pr rfl) Ls.nil)) (fun w => bs25_1 r54 w) hpb59 hww57) (.inr ⟨fun _ => k60, trivial⟩) ?_
        obtain ⟨s61, w62, h63, h⟩ := h
        refine DE.main 5 (by kernel_rfl) ?_
        refine One.r 5 (v := (SV.v s61)) rfl (Wn.no rfl) rfl (R.app (s := t52) (r := s61) rfl rfl h63) (.inr ⟨aftT (by kernel_rfl), trivial⟩) ?_
        refine DE.t 6 (v := (Value.pointer (some (b20.add 1)))) rfl (by kernel_rfl) (Wn.no rfl) rfl (R.fld (off := 1) fa27_1 f47) ?_
        obtain ⟨w64, hww64, h65, h66, h⟩ := M.st_use h
        refine DE.main 7 (by kernel_rfl) ?_
        refine One.s 7 rfl (Wn.no rfl) rfl (R.st (a := (b20.add 1)) (v := (SV.v s61)) sz25 rfl rfl rfl rfl h65 h66 hww64) ⟨aftT (by kernel_rfl), trivial⟩ ?_
        refine DE.done (by kernel_rfl) ?_
        refine WE.reg ?_
        refine LE.p (v := (Value.int .i64 x25)) (Wn.no rfl) rfl (R.move f48) ?_
        refine LE.p (v := (Value.int .i64 (IntKind.i64.wrap (x25 - (1 : Int))))) (Wn.no rfl) rfl (R.sub rfl rfl) ?_
        refine LE.p (v := (Value.int .i64 (IntKind.i64.wrap (x25 - (1 : Int))))) (Wn.no rfl) rfl (R.assign rfl) ?_
        refine LE.nil ?_
        obtain ⟨m32, hm33, h⟩ := h
        exact ⟨m32, hm33, _, h, f45, f46, f47, rfl⟩
      · intro hb50
        replace h := M.ite_f h hb50
        refine WE.exit ?_
        refine WE.reg ?_
        refine LE.p (v := (SV.v x3)) (Wn.no rfl) rfl (R.move f46) ?_
        obtain ⟨t67, h68, h⟩ := h
        obtain ⟨t69, h70, h⟩ := h
        refine LE.r (v := (Value.agg #[(Value.int .i64 t67), (SV.v t69)])) (Wn.no rfl) rfl (R.ldA ag27 sz27 f47 rfl (Cs.cons h68 (Cs.cons h70 Cs.nil))) ?_
        obtain ⟨b73, hpb73, w71, hww71, h⟩ := M.new_use h
        refine LE.r (v := (SV.v (SV.mk (some b73) 1 1))) (Wn.no rfl) rfl (R.bsl (by exact (Ls.cons (R.Pr rfl) Ls.nil)) (fun w => bs24_1 t67 t69 w) hpb73 hww71) ?_
        obtain ⟨s74, w75, h76, h⟩ := h
        refine LE.r (v := (SV.v s74)) (Wn.no rfl) rfl (R.app (s := x3) (r := s74) rfl rfl h76) ?_
        refine LE.p (v := (SV.v s74)) (Wn.no rfl) rfl (R.assign rfl) ?_
        refine LE.nil ?_
        obtain ⟨m10, hm11, h⟩ := h
        exact ⟨m10, hm11, _, h, f45, rfl⟩
  · intro hb16
    replace h := M.ite_f h hb16
    refine WE.exit ?_
    refine WE.seq ?_
    refine WE.seq ?_
    obtain ⟨J77, hJ77, h⟩ := M.join_use h
    refine WE.regJ (fun e w => ∃ (x78 : Bool), J77 x78 w ∧ e 5 = (SV.v x3) ∧ e 49 = (Value.bool x78)) ?_ ?_
    · clear hJ77
      refine LE.p (v := (Value.pointer (some b2))) (Wn.no rfl) rfl (R.move f12) ?_
      refine LE.p (v := (Value.pointer (some b2))) (Wn.no rfl) rfl (R.nilC rfl) ?_
      refine LE.p (v := (Value.pointer (some (b2.add 2)))) (Wn.no rfl) rfl (R.fld (off := 2) fa85_2 rfl) ?_
      obtain ⟨t79, h80, h⟩ := h
      refine LE.r (v := (Value.bool t79)) (Wn.no rfl) rfl (R.ld sc4 rfl h80) ?_
      refine LE.p (v := (Value.bool t79)) (Wn.no rfl) rfl (R.move rfl) ?_
      rcases M.ite_use h with ⟨hb81, h⟩ | ⟨hb81, h⟩
      · refine LE.u (Un.no 4 45 false rfl rfl rfl (congrArg Value.bool hb81)) ?_
        refine LE.u (Un.no 4 45 false rfl rfl rfl (congrArg Value.bool hb81)) ?_
        refine LE.u (Un.no 4 45 false rfl rfl rfl (congrArg Value.bool hb81)) ?_
        refine LE.p (v := (Value.bool true)) (Wn.no rfl) rfl (R.pickT (congrArg Value.bool hb81) rfl) ?_
        refine LE.nil ?_
        exact ⟨_, h, f13, rfl⟩
      · refine LE.p (v := (SV.v x3)) (Wn.yes 4 45 false rfl rfl rfl (congrArg Value.bool hb81)) rfl (R.move f13) ?_
        refine LE.c (Wn.yes 4 45 false rfl rfl rfl (congrArg Value.bool hb81)) rfl (R.call bd43 (Ls.cons rfl Ls.nil) rfl) (Calls.mono h ?_)
        rintro _ w83 ⟨r82, rfl, h⟩
        refine ⟨_, rfl, ?_⟩
        refine LE.p (v := (Value.bool (!r82))) (Wn.yes 4 45 false rfl rfl rfl (congrArg Value.bool hb81)) rfl (R.not rfl) ?_
        refine LE.p (v := (Value.bool (!r82))) (Wn.no rfl) rfl (R.pickF (congrArg Value.bool hb81) rfl) ?_
        refine LE.nil ?_
        exact ⟨_, h, f13, rfl⟩
    · rintro e84 w85 ⟨x78, h, f86, f87⟩
      subst hJ77
      refine WE.condT rfl (b := x78) f87 ?_ ?_
      · intro hb88
        replace h := M.ite_t h hb88
        refine WE.seq ?_
        refine WE.reg ?_
        refine LE.p (v := (SV.v SV.nil)) (Wn.no rfl) rfl (R.assign rfl) ?_
        refine LE.p (v := (Value.bool false)) (Wn.no rfl) rfl (R.assign rfl) ?_
        refine LE.nil ?_
        refine WE.ret ?_
        exact ⟨_, (Res.tmp rfl (Res.tmp rfl Res.nil)), _, _, rfl, h⟩
      · intro hb88
        replace h := M.ite_f h hb88
        refine WE.skip ?_
        refine WE.seq ?_
        refine WE.reg ?_
        refine LE.p (v := (SV.v x3)) (Wn.no rfl) rfl (R.move f86) ?_
        refine LE.p (v := (SV.v x3)) (Wn.no rfl) rfl (R.assign rfl) ?_
        refine LE.p (v := (Value.bool true)) (Wn.no rfl) rfl (R.assign rfl) ?_
        refine LE.nil ?_
        refine WE.ret ?_
        exact ⟨_, (Res.tmp rfl (Res.tmp rfl Res.nil)), _, _, rfl, h⟩
/-- The formula of slices.Clone[[]uint32,uint32]. -/
def F49 (p0 : SV) (K : SV → World → Prop) (w0 : World) : Prop :=
M.ite (Option.isNone (SV.a p0)) (
K SV.nil w0) (
M.new (.cells #[] 23) w0 fun b4 w2 =>
M.app Try.prog 25 25 25 (SV.mk (some b4) 0 0) (SV.v p0) w2 fun s5 w6 =>
K s5 w6)
theorem F49_ok {w0 : World} {p0 : SV} {K : SV → World → Prop} (h : F49 p0 K w0) : Calls Try.prog 49 #[(SV.v p0)] w0 (R49 K) := by
  refine calls_of_WE (args := [(SV.v p0)]) (rs := [.tmp 2]) Try.func49 rfl (N := 8) rfl rfl rfl rfl ?_
  refine WE.seq ?_
  refine WE.reg ?_
  refine LE.p (v := (SV.v SV.nil)) (Wn.no rfl) rfl (R.assign rfl) ?_
  refine LE.nil ?_
  refine WE.seq ?_
  refine WE.seq ?_
  refine WE.reg ?_
  refine LE.p (v := (SV.v p0)) (Wn.no rfl) rfl (R.move rfl) ?_
  refine LE.p (v := (Value.bool (Option.isNone (SV.a p0)))) (Wn.no rfl) rfl (R.sleqNil sl25 rfl rfl) ?_
  refine LE.nil ?_
  refine WE.condT rfl (b := (Option.isNone (SV.a p0))) rfl ?_ ?_
  · intro hb1
    replace h := M.ite_t h hb1
    refine WE.seq ?_
    refine WE.reg ?_
    refine LE.p (v := (SV.v SV.nil)) (Wn.no rfl) rfl (R.assign rfl) ?_
    refine LE.nil ?_
    refine WE.ret ?_
    exact ⟨_, (Res.tmp rfl Res.nil), _, rfl, h⟩
  · intro hb1
    replace h := M.ite_f h hb1
    refine WE.skip ?_
    refine WE.seq ?_
    refine WE.reg ?_
    obtain ⟨b4, hpb4, w2, hww2, h⟩ := M.new_use h
    refine LE.r (v := (SV.v (SV.mk (some b4) 0 0))) (Wn.no rfl) rfl (R.bsl (by exact Ls.nil) (fun w => bs25_0  w) hpb4 hww2) ?_
    refine LE.p (v := (SV.v p0)) (Wn.no rfl) rfl (R.move rfl) ?_
    obtain ⟨s5, w6, h7, h⟩ := h
    refine LE.r (v := (SV.v s5)) (Wn.no rfl) rfl (R.app (s := (SV.mk (some b4) 0 0)) (r := s5) rfl rfl h7) ?_
    refine LE.p (v := (SV.v s5)) (Wn.no rfl) rfl (R.assign rfl) ?_
    refine LE.nil ?_
    refine WE.ret ?_
    exact ⟨_, (Res.tmp rfl Res.nil), _, rfl, h⟩
/-- The formula of slices.rotateRight[uint32]. -/
def F51 (p0 : SV) (p1 : Int) (K : World → Prop) (w0 : World) : Prop :=
Calls Try.prog 64 #[(SV.v p0), (Value.int .i64 (IntKind.i64.wrap ((p0.len : Int) - p1)))] w0 (R64 fun w1 =>
K w1)
theorem F51_ok {w0 : World} {p0 : SV} {p1 : Int} {K : World → Prop} (h : F51 p0 p1 K w0) : Calls Try.prog 51 #[(SV.v p0), (Value.int .i64 p1)] w0 (R51 K) := by
  refine calls_of_WE (args := [(SV.v p0), (Value.int .i64 p1)]) (rs := []) Try.func51 rfl (N := 10) rfl rfl rfl rfl ?_
  refine WE.reg ?_
  refine LE.p (v := (SV.v p0)) (Wn.no rfl) rfl (R.move rfl) ?_
  refine LE.p (v := (SV.v p0)) (Wn.no rfl) rfl (R.move rfl) ?_
  refine LE.p (v := (Value.int .i64 (p0.len : Int))) (Wn.no rfl) rfl (R.len sl25 rfl) ?_
  refine LE.p (v := (Value.int .i64 p1)) (Wn.no rfl) rfl (R.move rfl) ?_
  refine LE.p (v := (Value.int .i64 (IntKind.i64.wrap ((p0.len : Int) - p1)))) (Wn.no rfl) rfl (R.sub rfl rfl) ?_
  refine LE.c (Wn.no rfl) rfl (R.call bd64 (Ls.cons rfl (Ls.cons rfl Ls.nil)) rfl) (Calls.mono h ?_)
  rintro _ w1 ⟨rfl, h⟩
  refine ⟨_, rfl, ?_⟩
  refine LE.nil ?_
  exact ⟨_,  Res.nil, rfl, h⟩
/-- The formula of slices.rotateRight[signpost.api.Seg]. -/
def F53 (p0 : SV) (p1 : Int) (K : World → Prop) (w0 : World) : Prop :=
Calls Try.prog 65 #[(SV.v p0), (Value.int .i64 (IntKind.i64.wrap ((p0.len : Int) - p1)))] w0 (R65 fun w1 =>
K w1)
theorem F53_ok {w0 : World} {p0 : SV} {p1 : Int} {K : World → Prop} (h : F53 p0 p1 K w0) : Calls Try.prog 53 #[(SV.v p0), (Value.int .i64 p1)] w0 (R53 K) := by
  refine calls_of_WE (args := [(SV.v p0), (Value.int .i64 p1)]) (rs := []) Try.func53 rfl (N := 10) rfl rfl rfl rfl ?_
  refine WE.reg ?_
  refine LE.p (v := (SV.v p0)) (Wn.no rfl) rfl (R.move rfl) ?_
  refine LE.p (v := (SV.v p0)) (Wn.no rfl) rfl (R.move rfl) ?_
  refine LE.p (v := (Value.int .i64 (p0.len : Int))) (Wn.no rfl) rfl (R.len sl24 rfl) ?_
  refine LE.p (v := (Value.int .i64 p1)) (Wn.no rfl) rfl (R.move rfl) ?_
  refine LE.p (v := (Value.int .i64 (IntKind.i64.wrap ((p0.len : Int) - p1)))) (Wn.no rfl) rfl (R.sub rfl rfl) ?_
  refine LE.c (Wn.no rfl) rfl (R.call bd65 (Ls.cons rfl (Ls.cons rfl Ls.nil)) rfl) (Calls.mono h ?_)
  rintro _ w1 ⟨rfl, h⟩
  refine ⟨_, rfl, ?_⟩
  refine LE.nil ?_
  exact ⟨_,  Res.nil, rfl, h⟩
/-- The formula of slices.CompareFunc[[]signpost.api.Seg,[]signpost.api.Seg,signpost.api.Seg,signpost.api.Seg]. -/
def F54 (p0 : SV) (p1 : SV) (p2 : FV) (K : Int → World → Prop) (w0 : World) : Prop :=
M.loop1 (fun (J2 : Int → World → Prop) (x1 : Int) (w3 : World) => 
M.ite (decide (x1 < (p0.len : Int))) (
M.idx p0 x1 2 fun a17 =>
M.ld (Value.int .i64) (a17.add (x1.toNat * 2)) w3 fun t21 =>
M.ld SV.v ((a17.add (x1.toNat * 2)).add 1) w3 fun t23 =>
M.new (.cells #[(Value.int .i64 (0 : Int)), (SV.v SV.nil)] 27) w3 fun b26 w25 =>
M.stA b26 [(Value.int .i64 t21), (SV.v t23)] w25 fun w27 =>
M.ite (decide ((p1.len : Int) ≤ x1)) (
K (1 : Int) w27) (
M.idx p1 x1 2 fun a30 =>
M.ld (Value.int .i64) (a30.add (x1.toNat * 2)) w27 fun t34 =>
M.ld SV.v ((a30.add (x1.toNat * 2)).add 1) w27 fun t36 =>
M.new (.cells #[(Value.int .i64 (0 : Int)), (SV.v SV.nil)] 27) w27 fun b39 w38 =>
M.stA b39 [(Value.int .i64 t34), (SV.v t36)] w38 fun w40 =>
M.ld (Value.int .i64) b26 w40 fun t42 =>
M.ld SV.v (b26.add 1) w40 fun t44 =>
M.ld (Value.int .i64) b39 w40 fun t46 =>
M.ld SV.v (b39.add 1) w40 fun t48 =>
bodyB Try.prog (FV.f p2) = true ∧ Calls Try.prog (FV.f p2) (List.toArray ([(Value.agg #[(Value.int .i64 t42), (SV.v t44)]), (Value.agg #[(Value.int .i64 t46), (SV.v t48)])] ++ FV.caps p2)) w40 (RV3 fun r50 w51 =>
M.ite (r50 != (0 : Int)) (
K r50 w51) (
J2 (IntKind.i64.wrap (x1 + (1 : Int))) w51)))) (
M.ite (decide ((p0.len : Int) < (p1.len : Int))) (
K (-1 : Int) w3) (
K (0 : Int) w3))) (0 : Int) w0
theorem F54_ok {w0 : World} {p0 : SV} {p1 : SV} {p2 : FV} {K : Int → World → Prop} (h : F54 p0 p1 p2 K w0) : Calls Try.prog 54 #[(SV.v p0), (SV.v p1), (FV.v p2)] w0 (R54 K) := by
  refine calls_of_WE (args := [(SV.v p0), (SV.v p1), (FV.v p2)]) (rs := [.tmp 6]) Try.func54 rfl (N := 39) rfl rfl rfl rfl ?_
  refine WE.seq ?_
  refine WE.reg ?_
  refine LE.p (v := (Value.int .i64 (0 : Int))) (Wn.no rfl) rfl (R.assign rfl) ?_
  refine LE.nil ?_
  refine WE.seq ?_
  refine WE.seq ?_
  refine WE.reg ?_
  refine LE.p (v := (SV.v p0)) (Wn.no rfl) rfl (R.move rfl) ?_
  refine LE.p (v := (Value.int .i64 (p0.len : Int))) (Wn.no rfl) rfl (R.len sl24 rfl) ?_
  refine LE.p (v := (Value.int .i64 (0 : Int))) (Wn.no rfl) rfl (R.move rfl) ?_
  refine LE.nil ?_
  refine WE.block ?_
  obtain ⟨I6, ⟨n5, h⟩, hr7⟩ := h
  refine WE.loop (fun n e w => ∃ (x1 : Int), I6 n x1 w ∧ e 0 = (SV.v p0) ∧ e 1 = (SV.v p1) ∧ e 2 = (FV.v p2) ∧ e 11 = (SV.v p0) ∧ e 12 = (Value.int .i64 (p0.len : Int)) ∧ e 13 = (Value.int .i64 x1)) n5 ⟨_, h, rfl, rfl, rfl, rfl, rfl, rfl⟩ ?_
  clear h
  rintro n5 e4 w3 ⟨x1, h, f10, f11, f12, f13, f14, f15⟩
  replace h := hr7 n5 x1 w3 h
  refine WE.seq ?_
  refine WE.reg ?_
  refine LE.p (v := (Value.bool (decide (x1 < (p0.len : Int))))) (Wn.no rfl) rfl (R.lss f15 f14) ?_
  refine LE.nil ?_
  refine WE.seq ?_
  refine WE.condT rfl (b := (decide (x1 < (p0.len : Int)))) rfl ?_ ?_
  · intro hb16
    replace h := M.ite_t h hb16
    refine WE.skip ?_
    refine WE.seq ?_
    refine WE.block ?_
    refine WE.seq ?_
    refine WE.reg ?_
    refine LE.p (v := (Value.int .i64 x1)) (Wn.no rfl) rfl (R.move f15) ?_
    obtain ⟨a17, h18, h19, h20, h⟩ := h
    refine LE.p (v := (Value.pointer (some (a17.add (x1.toNat * 2))))) (Wn.no rfl) rfl (R.idx (s := p0) sl24 f13 f15 h18 h19 h20) ?_
    obtain ⟨t21, h22, h⟩ := h
    obtain ⟨t23, h24, h⟩ := h
    refine LE.r (v := (Value.agg #[(Value.int .i64 t21), (SV.v t23)])) (Wn.no rfl) rfl (R.ldA ag27 sz27 rfl rfl (Cs.cons h22 (Cs.cons h24 Cs.nil))) ?_
    obtain ⟨b26, hpb26, w25, hww25, h⟩ := M.new_use h
    refine LE.r (v := (Value.pointer (some b26))) (Wn.no rfl) rfl (R.alloc (cs := #[(Value.int .i64 (0 : Int)), (SV.v SV.nil)]) ze27 rfl hpb26 hww25) ?_
    refine LE.p (v := (Value.int .i64 x1)) (Wn.no rfl) rfl (R.assign rfl) ?_
    obtain ⟨w27, hww27, h28, h⟩ := M.stA_use h
    refine LE.s (Wn.no rfl) rfl (R.stA (a := b26) [(Value.int .i64 t21), (SV.v t23)] sz27 rfl rfl rfl (by simp [Value.oneCell']) h28 hww27) ?_
    refine LE.nil ?_
    refine WE.seq ?_
    refine WE.seq ?_
    refine WE.reg ?_
    refine LE.p (v := (Value.int .i64 x1)) (Wn.no rfl) rfl (R.move rfl) ?_
    refine LE.p (v := (SV.v p1)) (Wn.no rfl) rfl (R.move f11) ?_
    refine LE.p (v := (Value.int .i64 (p1.len : Int))) (Wn.no rfl) rfl (R.len sl24 rfl) ?_
    refine LE.p (v := (Value.bool (decide ((p1.len : Int) ≤ x1)))) (Wn.no rfl) rfl (R.geq rfl rfl) ?_
    refine LE.nil ?_
    refine WE.condT rfl (b := (decide ((p1.len : Int) ≤ x1))) rfl ?_ ?_
    · intro hb29
      replace h := M.ite_t h hb29
      refine WE.seq ?_
      refine WE.reg ?_
      refine LE.p (v := (Value.int .i64 (1 : Int))) (Wn.no rfl) rfl (R.assign rfl) ?_
      refine LE.nil ?_
      refine WE.ret ?_
      exact ⟨_, (Res.tmp rfl Res.nil), _, rfl, h⟩
    · intro hb29
      replace h := M.ite_f h hb29
      refine WE.skip ?_
      refine WE.seq ?_
      refine WE.reg ?_
      refine LE.p (v := (SV.v p1)) (Wn.no rfl) rfl (R.move f11) ?_
      refine LE.p (v := (Value.int .i64 x1)) (Wn.no rfl) rfl (R.move rfl) ?_
      obtain ⟨a30, h31, h32, h33, h⟩ := h
      refine LE.p (v := (Value.pointer (some (a30.add (x1.toNat * 2))))) (Wn.no rfl) rfl (R.idx (s := p1) sl24 rfl rfl h31 h32 h33) ?_
      obtain ⟨t34, h35, h⟩ := h
      obtain ⟨t36, h37, h⟩ := h
      refine LE.r (v := (Value.agg #[(Value.int .i64 t34), (SV.v t36)])) (Wn.no rfl) rfl (R.ldA ag27 sz27 rfl rfl (Cs.cons h35 (Cs.cons h37 Cs.nil))) ?_
      obtain ⟨b39, hpb39, w38, hww38, h⟩ := M.new_use h
      refine LE.r (v := (Value.pointer (some b39))) (Wn.no rfl) rfl (R.alloc (cs := #[(Value.int .i64 (0 : Int)), (SV.v SV.nil)]) ze27 rfl hpb39 hww38) ?_
      obtain ⟨w40, hww40, h41, h⟩ := M.stA_use h
      refine LE.s (Wn.no rfl) rfl (R.stA (a := b39) [(Value.int .i64 t34), (SV.v t36)] sz27 rfl rfl rfl (by simp [Value.oneCell']) h41 hww40) ?_
      refine LE.nil ?_
      refine WE.seq ?_
      refine WE.reg ?_
      refine LE.p (v := (FV.v p2)) (Wn.no rfl) rfl (R.move f12) ?_
      obtain ⟨t42, h43, h⟩ := h
      obtain ⟨t44, h45, h⟩ := h
      refine LE.r (v := (Value.agg #[(Value.int .i64 t42), (SV.v t44)])) (Wn.no rfl) rfl (R.ldA ag27 sz27 rfl rfl (Cs.cons h43 (Cs.cons h45 Cs.nil))) ?_
      obtain ⟨t46, h47, h⟩ := h
      obtain ⟨t48, h49, h⟩ := h
      refine LE.r (v := (Value.agg #[(Value.int .i64 t46), (SV.v t48)])) (Wn.no rfl) rfl (R.ldA ag27 sz27 rfl rfl (Cs.cons h47 (Cs.cons h49 Cs.nil))) ?_
      obtain ⟨hb52, h⟩ := h
      refine LE.c (Wn.no rfl) rfl (R.callv hb52 (Ls.cons rfl (Ls.cons rfl Ls.nil)) rfl) (Calls.mono h ?_)
      rintro _ w51 ⟨r50, rfl, h⟩
      refine ⟨_, rfl, ?_⟩
      refine LE.p (v := (Value.int .i64 r50)) (Wn.no rfl) rfl (R.assign rfl) ?_
      refine LE.nil ?_
      refine WE.seq ?_
      refine WE.reg ?_
      refine LE.p (v := (Value.int .i64 r50)) (Wn.no rfl) rfl (R.move rfl) ?_
      refine LE.p (v := (Value.bool (r50 != (0 : Int)))) (Wn.no rfl) rfl (R.neq rfl rfl) ?_
      refine LE.nil ?_
      refine WE.condT rfl (b := (r50 != (0 : Int))) rfl ?_ ?_
      · intro hb53
        replace h := M.ite_t h hb53
        refine WE.seq ?_
        refine WE.reg ?_
        refine LE.p (v := (Value.int .i64 r50)) (Wn.no rfl) rfl (R.move rfl) ?_
        refine LE.p (v := (Value.int .i64 r50)) (Wn.no rfl) rfl (R.assign rfl) ?_
        refine LE.nil ?_
        refine WE.ret ?_
        exact ⟨_, (Res.tmp rfl Res.nil), _, rfl, h⟩
      · intro hb53
        replace h := M.ite_f h hb53
        refine WE.skip ?_
        refine WE.reg ?_
        refine LE.p (v := (Value.int .i64 (IntKind.i64.wrap (x1 + (1 : Int))))) (Wn.no rfl) rfl (R.add f15 rfl) ?_
        refine LE.p (v := (Value.int .i64 (IntKind.i64.wrap (x1 + (1 : Int))))) (Wn.no rfl) rfl (R.move rfl) ?_
        refine LE.nil ?_
        obtain ⟨m8, hm9, h⟩ := h
        exact ⟨m8, hm9, _, h, f10, f11, f12, f13, f14, rfl⟩
  · intro hb16
    replace h := M.ite_f h hb16
    refine WE.exit ?_
    refine WE.seq ?_
    refine WE.seq ?_
    refine WE.reg ?_
    refine LE.p (v := (SV.v p0)) (Wn.no rfl) rfl (R.move f10) ?_
    refine LE.p (v := (Value.int .i64 (p0.len : Int))) (Wn.no rfl) rfl (R.len sl24 rfl) ?_
    refine LE.p (v := (SV.v p1)) (Wn.no rfl) rfl (R.move f11) ?_
    refine LE.p (v := (Value.int .i64 (p1.len : Int))) (Wn.no rfl) rfl (R.len sl24 rfl) ?_
    refine LE.p (v := (Value.bool (decide ((p0.len : Int) < (p1.len : Int))))) (Wn.no rfl) rfl (R.lss rfl rfl) ?_
    refine LE.nil ?_
    refine WE.condT rfl (b := (decide ((p0.len : Int) < (p1.len : Int)))) rfl ?_ ?_
    · intro hb54
      replace h := M.ite_t h hb54
      refine WE.seq ?_
      refine WE.reg ?_
      refine LE.p (v := (Value.int .i64 (-1 : Int))) (Wn.no rfl) rfl (R.assign rfl) ?_
      refine LE.nil ?_
      refine WE.ret ?_
      exact ⟨_, (Res.tmp rfl Res.nil), _, rfl, h⟩
    · intro hb54
      replace h := M.ite_f h hb54
      refine WE.skip ?_
      refine WE.seq ?_
      refine WE.reg ?_
      refine LE.p (v := (Value.int .i64 (0 : Int))) (Wn.no rfl) rfl (R.assign rfl) ?_
      refine LE.nil ?_
      refine WE.ret ?_
      exact ⟨_, (Res.tmp rfl Res.nil), _, rfl, h⟩
/-- The formula of signpost.aspath.compare. -/
def F55 (p0_0 : Int) (p0_1 : SV) (p1_0 : Int) (p1_1 : SV) (K : Int → World → Prop) (w0 : World) : Prop :=
M.new (.cells #[(Value.int .i64 p0_0), (SV.v p0_1)] 27) w0 fun b2 w1 =>
M.new (.cells #[(Value.int .i64 p1_0), (SV.v p1_1)] 27) w1 fun b4 w3 =>
M.drew w3 fun w5 => 
M.ld (Value.int .i64) b2 w5 fun t6 =>
M.ld (Value.int .i64) b4 w5 fun t8 =>
M.ld SV.v (b2.add 1) w5 fun t10 =>
M.ld SV.v (b4.add 1) w5 fun t12 =>
M.ld SV.v (b2.add 1) w5 fun t14 =>
M.ld SV.v (b4.add 1) w5 fun t16 =>
Calls Try.prog 67 #[(Value.int .i64 t6), (Value.int .i64 t8)] w5 (R67 fun r18 w19 =>
M.keep (w19.cell? (b4.add 1) = some (SV.v t16)) <|
M.keep (w19.cell? (b2.add 1) = some (SV.v t14)) <|
M.keep (w19.cell? (b4.add 1) = some (SV.v t12)) <|
M.keep (w19.cell? (b2.add 1) = some (SV.v t10)) <|
Calls Try.prog 67 #[(Value.int .i64 (t10.len : Int)), (Value.int .i64 (t12.len : Int))] w19 (R67 fun r24 w25 =>
M.keep (w25.cell? (b4.add 1) = some (SV.v t16)) <|
M.keep (w25.cell? (b2.add 1) = some (SV.v t14)) <|
Calls Try.prog 68 #[(SV.v t14), (SV.v t16)] w25 (R68 fun r28 w29 =>
M.new (.cells #[(Value.int .i64 r18), (Value.int .i64 r24), (Value.int .i64 r28)] 3) w29 fun b32 w30 =>
Calls Try.prog 66 #[(SV.v (SV.mk (some b32) 3 3))] w30 (R66 fun r33 w34 =>
K r33 w34))))
theorem F55_ok {w0 : World} {p0_0 : Int} {p0_1 : SV} {p1_0 : Int} {p1_1 : SV} {K : Int → World → Prop} (h : F55 p0_0 p0_1 p1_0 p1_1 K w0) : Calls Try.prog 55 #[(Value.agg #[(Value.int .i64 p0_0), (SV.v p0_1)]), (Value.agg #[(Value.int .i64 p1_0), (SV.v p1_1)])] w0 (R55 K) := by
  refine calls_of_WE (args := [(Value.agg #[(Value.int .i64 p0_0), (SV.v p0_1)]), (Value.agg #[(Value.int .i64 p1_0), (SV.v p1_1)])]) (rs := [.tmp 4]) Try.func55 rfl (N := 24) rfl rfl rfl rfl ?_
  refine WE.seq ?_
  refine WE.reg ?_
  obtain ⟨b2, hpb2, w1, hww1, h⟩ := M.new_use h
  refine LE.r (v := (Value.pointer (some b2))) (Wn.no rfl) rfl (R.box (cs := #[(Value.int .i64 p0_0), (SV.v p0_1)]) rfl rfl hpb2 hww1) ?_
  obtain ⟨b4, hpb4, w3, hww3, h⟩ := M.new_use h
  refine LE.r (v := (Value.pointer (some b4))) (Wn.no rfl) rfl (R.box (cs := #[(Value.int .i64 p1_0), (SV.v p1_1)]) rfl rfl hpb4 hww3) ?_
  refine LE.p (v := (Value.int .i64 (0 : Int))) (Wn.no rfl) rfl (R.assign rfl) ?_
  refine LE.nil ?_
  refine WE.seq ?_
  refine WE.draw mix ?_
  obtain ⟨w5, hww5, h⟩ := M.drew_use h
  rw [← hww5]
  clear hww5
  refine DE.t 0 (v := (Value.pointer (some b2))) rfl (by kernel_rfl) (Wn.no rfl) rfl (R.fld (off := 0) fa27_0 rfl) ?_
  refine DE.t 2 (v := (Value.pointer (some b4))) rfl (by kernel_rfl) (Wn.no rfl) rfl (R.fld (off := 0) fa27_0 rfl) ?_
  refine DE.t 5 (v := (Value.pointer (some (b2.add 1)))) rfl (by kernel_rfl) (Wn.no rfl) rfl (R.fld (off := 1) fa27_1 rfl) ?_
  refine DE.t 8 (v := (Value.pointer (some (b4.add 1)))) rfl (by kernel_rfl) (Wn.no rfl) rfl (R.fld (off := 1) fa27_1 rfl) ?_
  refine DE.t 12 (v := (Value.pointer (some (b2.add 1)))) rfl (by kernel_rfl) (Wn.no rfl) rfl (R.fld (off := 1) fa27_1 rfl) ?_
  refine DE.t 14 (v := (Value.pointer (some (b4.add 1)))) rfl (by kernel_rfl) (Wn.no rfl) rfl (R.fld (off := 1) fa27_1 rfl) ?_
  obtain ⟨t6, h7, h⟩ := h
  refine DE.hold 1 (fun w => w.cell? b2 = some (Value.int .i64 t6)) (v := (Value.int .i64 t6)) rfl (by kernel_rfl) (Wn.no rfl) rfl h7 (fun w hs => R.ld sc3 rfl hs) ?_
  obtain ⟨t8, h9, h⟩ := h
  refine DE.hold 3 (fun w => w.cell? b4 = some (Value.int .i64 t8)) (v := (Value.int .i64 t8)) rfl (by kernel_rfl) (Wn.no rfl) rfl h9 (fun w hs => R.ld sc3 rfl hs) ?_
  obtain ⟨t10, h11, h⟩ := h
  refine DE.hold 6 (fun w => w.cell? (b2.add 1) = some (SV.v t10)) (v := (SV.v t10)) rfl (by kernel_rfl) (Wn.no rfl) rfl h11 (fun w hs => R.ld sc25 rfl hs) ?_
  refine DE.t 7 (v := (Value.int .i64 (t10.len : Int))) rfl (by kernel_rfl) (Wn.no rfl) rfl (R.len sl25 rfl) ?_
  obtain ⟨t12, h13, h⟩ := h
  refine DE.hold 9 (fun w => w.cell? (b4.add 1) = some (SV.v t12)) (v := (SV.v t12)) rfl (by kernel_rfl) (Wn.no rfl) rfl h13 (fun w hs => R.ld sc25 rfl hs) ?_
  refine DE.t 10 (v := (Value.int .i64 (t12.len : Int))) rfl (by kernel_rfl) (Wn.no rfl) rfl (R.len sl25 rfl) ?_
  obtain ⟨t14, h15, h⟩ := h
  refine DE.hold 13 (fun w => w.cell? (b2.add 1) = some (SV.v t14)) (v := (SV.v t14)) rfl (by kernel_rfl) (Wn.no rfl) rfl h15 (fun w hs => R.ld sc25 rfl hs) ?_
  obtain ⟨t16, h17, h⟩ := h
  refine DE.hold 15 (fun w => w.cell? (b4.add 1) = some (SV.v t16)) (v := (SV.v t16)) rfl (by kernel_rfl) (Wn.no rfl) rfl h17 (fun w hs => R.ld sc25 rfl hs) ?_
  refine DE.main 4 (by kernel_rfl) ?_
  refine One.c 4 rfl (Wn.no rfl) rfl (R.call bd67 (Ls.cons rfl (Ls.cons rfl Ls.nil)) rfl) (Calls.mono h ?_)
  rintro _ w19 ⟨r18, rfl, h⟩
  obtain ⟨k20, h⟩ := h
  obtain ⟨k21, h⟩ := h
  obtain ⟨k22, h⟩ := h
  obtain ⟨k23, h⟩ := h
  refine ⟨_, rfl, ⟨fun _ => k20, fun _ => k21, fun _ => k22, fun _ => k23, aftT (by kernel_rfl), aftT (by kernel_rfl), trivial⟩, ?_⟩
  refine DE.main 11 (by kernel_rfl) ?_
  refine One.c 11 rfl (Wn.no rfl) rfl (R.call bd67 (Ls.cons rfl (Ls.cons rfl Ls.nil)) rfl) (Calls.mono h ?_)
  rintro _ w25 ⟨r24, rfl, h⟩
  obtain ⟨k26, h⟩ := h
  obtain ⟨k27, h⟩ := h
  refine ⟨_, rfl, ⟨fun _ => k26, fun _ => k27, aftT (by kernel_rfl), aftT (by kernel_rfl), aftT (by kernel_rfl), aftT (by kernel_rfl), trivial⟩, ?_⟩
  refine DE.main 16 (by kernel_rfl) ?_
  refine One.c 16 rfl (Wn.no rfl) rfl (R.call bd68 (Ls.cons rfl (Ls.cons rfl Ls.nil)) rfl) (Calls.mono h ?_)
  rintro _ w29 ⟨r28, rfl, h⟩
  refine ⟨_, rfl, ⟨aftT (by kernel_rfl), aftT (by kernel_rfl), aftT (by kernel_rfl), aftT (by kernel_rfl), aftT (by kernel_rfl), aftT (by kernel_rfl), trivial⟩, ?_⟩
  obtain ⟨b32, hpb32, w30, hww30, h⟩ := M.new_use h
  refine DE.main 17 (by kernel_rfl) ?_
  refine One.r 17 (v := (SV.v (SV.mk (some b32) 3 3))) rfl (Wn.no rfl) rfl (R.bsl (by exact (Ls.cons (R.Pr rfl) (Ls.cons (R.Pr rfl) (Ls.cons (R.Pr rfl) Ls.nil)))) (fun w => bs22_3 r18 r24 r28 w) hpb32 hww30) (.inr ⟨aftT (by kernel_rfl), aftT (by kernel_rfl), aftT (by kernel_rfl), aftT (by kernel_rfl), aftT (by kernel_rfl), aftT (by kernel_rfl), trivial⟩) ?_
  refine DE.main 18 (by kernel_rfl) ?_
  refine One.c 18 rfl (Wn.no rfl) rfl (R.call bd66 (Ls.cons rfl Ls.nil) rfl) (Calls.mono h ?_)
  rintro _ w34 ⟨r33, rfl, h⟩
  refine ⟨_, rfl, ⟨aftT (by kernel_rfl), aftT (by kernel_rfl), aftT (by kernel_rfl), aftT (by kernel_rfl), aftT (by kernel_rfl), aftT (by kernel_rfl), trivial⟩, ?_⟩
  refine DE.t 19 (v := (Value.int .i64 r33)) rfl (by kernel_rfl) (Wn.no rfl) rfl (R.assign rfl) ?_
  refine DE.done (by kernel_rfl) ?_
  refine WE.ret ?_
  exact ⟨_, (Res.tmp rfl Res.nil), _, rfl, h⟩
/-- The formula of (*signpost.wire.Writer).put. -/
def F56 (p0 : Option Addr) (p1 : Int) (p2 : Int) (K : World → Prop) (w0 : World) : Prop :=
M.loop1 (fun (J2 : Int → World → Prop) (x1 : Int) (w3 : World) => 
M.ite (decide ((0 : Int) ≤ x1)) (
M.drew w3 fun w14 => 
M.nil p0 fun a15 =>
M.sh (IntKind.i64.wrap ((8 : Int) * x1)) <|
M.ld SV.v a15 w14 fun t18 =>
M.new (.cells #[(Value.int .u8 (IntKind.u8.wrap (bShr .u64 p1 (IntKind.i64.wrap ((8 : Int) * x1)))))] 5) w14 fun b22 w20 =>
M.keep (w20.cell? a15 = some (SV.v t18)) <|
M.app Try.prog 40 40 40 t18 (SV.v (SV.mk (some b22) 1 1)) w20 fun s24 w25 =>
M.nil p0 fun a27 =>
M.st a27 (SV.v s24) w25 fun w29 =>
J2 (IntKind.i64.wrap (x1 - (1 : Int))) w29) (
K w3)) (IntKind.i64.wrap (p2 - (1 : Int))) w0
theorem F56_ok {w0 : World} {p0 : Option Addr} {p1 : Int} {p2 : Int} {K : World → Prop} (h : F56 p0 p1 p2 K w0) : Calls Try.prog 56 #[(Value.pointer p0), (Value.int .u64 p1), (Value.int .i64 p2)] w0 (R56 K) := by
  refine calls_of_WE (args := [(Value.pointer p0), (Value.int .u64 p1), (Value.int .i64 p2)]) (rs := []) Try.func56 rfl (N := 27) rfl rfl rfl rfl ?_
  refine WE.seq ?_
  refine WE.reg ?_
  refine LE.p (v := (Value.int .i64 p2)) (Wn.no rfl) rfl (R.move rfl) ?_
  refine LE.p (v := (Value.int .i64 (IntKind.i64.wrap (p2 - (1 : Int))))) (Wn.no rfl) rfl (R.sub rfl rfl) ?_
  refine LE.p (v := (Value.int .i64 (IntKind.i64.wrap (p2 - (1 : Int))))) (Wn.no rfl) rfl (R.assign rfl) ?_
  refine LE.nil ?_
  refine WE.block ?_
  obtain ⟨I6, ⟨n5, h⟩, hr7⟩ := h
  refine WE.loop (fun n e w => ∃ (x1 : Int), I6 n x1 w ∧ e 0 = (Value.pointer p0) ∧ e 1 = (Value.int .u64 p1) ∧ e 6 = (Value.int .i64 x1)) n5 ⟨_, h, rfl, rfl, rfl⟩ ?_
  clear h
  rintro n5 e4 w3 ⟨x1, h, f10, f11, f12⟩
  replace h := hr7 n5 x1 w3 h
  refine WE.seq ?_
  refine WE.seq ?_
  refine WE.reg ?_
  refine LE.p (v := (Value.int .i64 x1)) (Wn.no rfl) rfl (R.move f12) ?_
  refine LE.p (v := (Value.bool (decide ((0 : Int) ≤ x1)))) (Wn.no rfl) rfl (R.geq rfl rfl) ?_
  refine LE.nil ?_
  refine WE.condT rfl (b := (decide ((0 : Int) ≤ x1))) rfl ?_ ?_
  · intro hb13
    replace h := M.ite_t h hb13
    refine WE.skip ?_
    refine WE.seq ?_
    refine WE.block ?_
    refine WE.draw mix ?_
    obtain ⟨w14, hww14, h⟩ := M.drew_use h
    rw [← hww14]
    clear hww14
    refine DE.t 0 (v := (Value.pointer p0)) rfl (by kernel_rfl) (Wn.no rfl) rfl (R.move f10) ?_
    refine DE.t 1 (v := (Value.pointer p0)) rfl (by kernel_rfl) (Wn.no rfl) rfl (R.move f10) ?_
    obtain ⟨a15, h16, h⟩ := h
    refine DE.t 2 (v := (Value.pointer (some a15))) rfl (by kernel_rfl) (Wn.no rfl) rfl (R.nilC (congrArg Value.pointer h16)) ?_
    refine DE.t 3 (v := (Value.pointer (some a15))) rfl (by kernel_rfl) (Wn.no rfl) rfl (R.fld (off := 0) fa74_0 rfl) ?_
    refine DE.t 5 (v := (Value.int .u64 p1)) rfl (by kernel_rfl) (Wn.no rfl) rfl (R.move f11) ?_
    refine DE.t 6 (v := (Value.int .i64 x1)) rfl (by kernel_rfl) (Wn.no rfl) rfl (R.move f12) ?_
    refine DE.t 7 (v := (Value.int .i64 (IntKind.i64.wrap ((8 : Int) * x1)))) rfl (by kernel_rfl) (Wn.no rfl) rfl (R.mul rfl rfl) ?_
    obtain ⟨h17, h⟩ := h
    refine DE.t 8 (v := (Value.int .u64 (bShr .u64 p1 (IntKind.i64.wrap ((8 : Int) * x1))))) rfl (by kernel_rfl) (Wn.no rfl) rfl (R.shr rfl rfl h17) ?_
    refine DE.t 9 (v := (Value.int .u8 (IntKind.u8.wrap (bShr .u64 p1 (IntKind.i64.wrap ((8 : Int) * x1)))))) rfl (by kernel_rfl) (Wn.no rfl) rfl (R.conv in5 in76 rfl) ?_
    obtain ⟨t18, h19, h⟩ := h
    refine DE.hold 4 (fun w => w.cell? a15 = some (SV.v t18)) (v := (SV.v t18)) rfl (by kernel_rfl) (Wn.no rfl) rfl h19 (fun w hs => R.ld sc40 rfl hs) ?_
    obtain ⟨b22, hpb22, w20, hww20, h⟩ := M.new_use h
    obtain ⟨k23, h⟩ := h
    refine DE.main 10 (by kernel_rfl) ?_
    refine One.r 10 (v := (SV.v (SV.mk (some b22) 1 1))) rfl (Wn.no rfl) rfl (R.bsl (by exact (Ls.cons (R.Pr rfl) Ls.nil)) (fun w => bs40_1 (IntKind.u8.wrap (bShr .u64 p1 (IntKind.i64.wrap ((8 : Int) * x1)))) w) hpb22 hww20) (.inr ⟨fun _ => k23, trivial⟩) ?_
    obtain ⟨s24, w25, h26, h⟩ := h
    refine DE.main 11 (by kernel_rfl) ?_
    refine One.r 11 (v := (SV.v s24)) rfl (Wn.no rfl) rfl (R.app (s := t18) (r := s24) rfl rfl h26) (.inr ⟨aftT (by kernel_rfl), trivial⟩) ?_
    obtain ⟨a27, h28, h⟩ := h
    refine DE.t 12 (v := (Value.pointer (some a27))) rfl (by kernel_rfl) (Wn.no rfl) rfl (R.nilC (congrArg Value.pointer h28)) ?_
    refine DE.t 13 (v := (Value.pointer (some a27))) rfl (by kernel_rfl) (Wn.no rfl) rfl (R.fld (off := 0) fa74_0 rfl) ?_
    obtain ⟨w29, hww29, h30, h31, h⟩ := M.st_use h
    refine DE.main 14 (by kernel_rfl) ?_
    refine One.s 14 rfl (Wn.no rfl) rfl (R.st (a := a27) (v := (SV.v s24)) sz40 rfl rfl rfl rfl h30 h31 hww29) ⟨aftT (by kernel_rfl), trivial⟩ ?_
    refine DE.done (by kernel_rfl) ?_
    refine WE.reg ?_
    refine LE.p (v := (Value.int .i64 x1)) (Wn.no rfl) rfl (R.move f12) ?_
    refine LE.p (v := (Value.int .i64 (IntKind.i64.wrap (x1 - (1 : Int))))) (Wn.no rfl) rfl (R.sub rfl rfl) ?_
    refine LE.p (v := (Value.int .i64 (IntKind.i64.wrap (x1 - (1 : Int))))) (Wn.no rfl) rfl (R.assign rfl) ?_
    refine LE.nil ?_
    obtain ⟨m8, hm9, h⟩ := h
    exact ⟨m8, hm9, _, h, f10, f11, rfl⟩
  · intro hb13
    replace h := M.ite_f h hb13
    refine WE.exit ?_
    exact ⟨_,  Res.nil, rfl, h⟩
/-- The formula of slices.Clone[[]byte,byte]. -/
def F57 (p0 : SV) (K : SV → World → Prop) (w0 : World) : Prop :=
M.ite (Option.isNone (SV.a p0)) (
K SV.nil w0) (
M.new (.cells #[] 5) w0 fun b4 w2 =>
M.app Try.prog 40 40 40 (SV.mk (some b4) 0 0) (SV.v p0) w2 fun s5 w6 =>
K s5 w6)
theorem F57_ok {w0 : World} {p0 : SV} {K : SV → World → Prop} (h : F57 p0 K w0) : Calls Try.prog 57 #[(SV.v p0)] w0 (R57 K) := by
  refine calls_of_WE (args := [(SV.v p0)]) (rs := [.tmp 2]) Try.func57 rfl (N := 8) rfl rfl rfl rfl ?_
  refine WE.seq ?_
  refine WE.reg ?_
  refine LE.p (v := (SV.v SV.nil)) (Wn.no rfl) rfl (R.assign rfl) ?_
  refine LE.nil ?_
  refine WE.seq ?_
  refine WE.seq ?_
  refine WE.reg ?_
  refine LE.p (v := (SV.v p0)) (Wn.no rfl) rfl (R.move rfl) ?_
  refine LE.p (v := (Value.bool (Option.isNone (SV.a p0)))) (Wn.no rfl) rfl (R.sleqNil sl40 rfl rfl) ?_
  refine LE.nil ?_
  refine WE.condT rfl (b := (Option.isNone (SV.a p0))) rfl ?_ ?_
  · intro hb1
    replace h := M.ite_t h hb1
    refine WE.seq ?_
    refine WE.reg ?_
    refine LE.p (v := (SV.v SV.nil)) (Wn.no rfl) rfl (R.assign rfl) ?_
    refine LE.nil ?_
    refine WE.ret ?_
    exact ⟨_, (Res.tmp rfl Res.nil), _, rfl, h⟩
  · intro hb1
    replace h := M.ite_f h hb1
    refine WE.skip ?_
    refine WE.seq ?_
    refine WE.reg ?_
    obtain ⟨b4, hpb4, w2, hww2, h⟩ := M.new_use h
    refine LE.r (v := (SV.v (SV.mk (some b4) 0 0))) (Wn.no rfl) rfl (R.bsl (by exact Ls.nil) (fun w => bs40_0  w) hpb4 hww2) ?_
    refine LE.p (v := (SV.v p0)) (Wn.no rfl) rfl (R.move rfl) ?_
    obtain ⟨s5, w6, h7, h⟩ := h
    refine LE.r (v := (SV.v s5)) (Wn.no rfl) rfl (R.app (s := (SV.mk (some b4) 0 0)) (r := s5) rfl rfl h7) ?_
    refine LE.p (v := (SV.v s5)) (Wn.no rfl) rfl (R.assign rfl) ?_
    refine LE.nil ?_
    refine WE.ret ?_
    exact ⟨_, (Res.tmp rfl Res.nil), _, rfl, h⟩
/-- The formula of (*signpost.wire.Reader).get. -/
def F58 (p0 : Option Addr) (p1 : Int) (K : Int → World → Prop) (w0 : World) : Prop :=
Calls Try.prog 69 #[(Value.pointer p0), (Value.int .i64 p1)] w0 (R69 fun r1 w2 =>
M.loop2 (fun (J5 : Int → Int → World → Prop) (x3 : Int) (x4 : Int) (w6 : World) => 
M.ite (decide (x4 < (r1.len : Int))) (
M.idx r1 x4 1 fun a18 =>
M.ld (Value.int .u8) (a18.add (x4.toNat * 1)) w6 fun t22 =>
J5 (bOr .u64 (bShl .u64 x3 (8 : Int)) (IntKind.u64.wrap t22)) (IntKind.i64.wrap (x4 + (1 : Int))) w6) (
K x3 w6)) (0 : Int) (0 : Int) w2)
theorem F58_ok {w0 : World} {p0 : Option Addr} {p1 : Int} {K : Int → World → Prop} (h : F58 p0 p1 K w0) : Calls Try.prog 58 #[(Value.pointer p0), (Value.int .i64 p1)] w0 (R58 K) := by
  refine calls_of_WE (args := [(Value.pointer p0), (Value.int .i64 p1)]) (rs := [.tmp 4]) Try.func58 rfl (N := 23) rfl rfl rfl rfl ?_
  refine WE.seq ?_
  refine WE.reg ?_
  refine LE.p (v := (Value.int .u64 (0 : Int))) (Wn.no rfl) rfl (R.assign rfl) ?_
  refine LE.nil ?_
  refine WE.seq ?_
  refine WE.reg ?_
  refine LE.p (v := (Value.int .u64 (0 : Int))) (Wn.no rfl) rfl (R.assign rfl) ?_
  refine LE.nil ?_
  refine WE.seq ?_
  refine WE.seq ?_
  refine WE.reg ?_
  refine LE.p (v := (Value.pointer p0)) (Wn.no rfl) rfl (R.move rfl) ?_
  refine LE.p (v := (Value.int .i64 p1)) (Wn.no rfl) rfl (R.move rfl) ?_
  refine LE.c (Wn.no rfl) rfl (R.call bd69 (Ls.cons rfl (Ls.cons rfl Ls.nil)) rfl) (Calls.mono h ?_)
  rintro _ w2 ⟨r1, rfl, h⟩
  refine ⟨_, rfl, ?_⟩
  refine LE.p (v := (Value.int .i64 (r1.len : Int))) (Wn.no rfl) rfl (R.len sl40 rfl) ?_
  refine LE.p (v := (Value.int .i64 (0 : Int))) (Wn.no rfl) rfl (R.move rfl) ?_
  refine LE.nil ?_
  refine WE.block ?_
  obtain ⟨I9, ⟨n8, h⟩, hr10⟩ := h
  refine WE.loop (fun n e w => ∃ (x3 : Int) (x4 : Int), I9 n x3 x4 w ∧ e 5 = (Value.int .u64 x3) ∧ e 10 = (SV.v r1) ∧ e 11 = (Value.int .i64 (r1.len : Int)) ∧ e 12 = (Value.int .i64 x4)) n8 ⟨_, _, h, rfl, rfl, rfl, rfl⟩ ?_
  clear h
  rintro n8 e7 w6 ⟨x3, x4, h, f13, f14, f15, f16⟩
  replace h := hr10 n8 x3 x4 w6 h
  refine WE.seq ?_
  refine WE.reg ?_
  refine LE.p (v := (Value.bool (decide (x4 < (r1.len : Int))))) (Wn.no rfl) rfl (R.lss f16 f15) ?_
  refine LE.nil ?_
  refine WE.seq ?_
  refine WE.condT rfl (b := (decide (x4 < (r1.len : Int)))) rfl ?_ ?_
  · intro hb17
    replace h := M.ite_t h hb17
    refine WE.skip ?_
    refine WE.seq ?_
    refine WE.block ?_
    refine WE.seq ?_
    refine WE.reg ?_
    obtain ⟨a18, h19, h20, h21, h⟩ := h
    refine LE.p (v := (Value.pointer (some (a18.add (x4.toNat * 1))))) (Wn.no rfl) rfl (R.idx (s := r1) sl40 f14 f16 h19 h20 h21) ?_
    obtain ⟨t22, h23, h⟩ := h
    refine LE.r (v := (Value.int .u8 t22)) (Wn.no rfl) rfl (R.ld sc5 rfl h23) ?_
    refine LE.p (v := (Value.int .u8 t22)) (Wn.no rfl) rfl (R.assign rfl) ?_
    refine LE.nil ?_
    refine WE.reg ?_
    refine LE.p (v := (Value.int .u64 x3)) (Wn.no rfl) rfl (R.move f13) ?_
    refine LE.p (v := (Value.int .u64 (bShl .u64 x3 (8 : Int)))) (Wn.no rfl) rfl (R.shl rfl rfl (by decide)) ?_
    refine LE.p (v := (Value.int .u8 t22)) (Wn.no rfl) rfl (R.move rfl) ?_
    refine LE.p (v := (Value.int .u64 (IntKind.u64.wrap t22))) (Wn.no rfl) rfl (R.conv in76 in5 rfl) ?_
    refine LE.p (v := (Value.int .u64 (bOr .u64 (bShl .u64 x3 (8 : Int)) (IntKind.u64.wrap t22)))) (Wn.no rfl) rfl (R.or rfl rfl) ?_
    refine LE.p (v := (Value.int .u64 (bOr .u64 (bShl .u64 x3 (8 : Int)) (IntKind.u64.wrap t22)))) (Wn.no rfl) rfl (R.assign rfl) ?_
    refine LE.nil ?_
    refine WE.reg ?_
    refine LE.p (v := (Value.int .i64 (IntKind.i64.wrap (x4 + (1 : Int))))) (Wn.no rfl) rfl (R.add f16 rfl) ?_
    refine LE.p (v := (Value.int .i64 (IntKind.i64.wrap (x4 + (1 : Int))))) (Wn.no rfl) rfl (R.move rfl) ?_
    refine LE.nil ?_
    obtain ⟨m11, hm12, h⟩ := h
    exact ⟨m11, hm12, _, _, h, rfl, f14, f15, rfl⟩
  · intro hb17
    replace h := M.ite_f h hb17
    refine WE.exit ?_
    refine WE.seq ?_
    refine WE.reg ?_
    refine LE.p (v := (Value.int .u64 x3)) (Wn.no rfl) rfl (R.move f13) ?_
    refine LE.p (v := (Value.int .u64 x3)) (Wn.no rfl) rfl (R.assign rfl) ?_
    refine LE.nil ?_
    refine WE.ret ?_
    exact ⟨_, (Res.tmp rfl Res.nil), _, rfl, h⟩
/-- The formula of signpost.signpostref6.side. -/
def F59 (p0 : Bool) (K : Int → World → Prop) (w0 : World) : Prop :=
M.ite p0 (
K (-1 : Int) w0) (
K (1 : Int) w0)
theorem F59_ok {w0 : World} {p0 : Bool} {K : Int → World → Prop} (h : F59 p0 K w0) : Calls Try.prog 59 #[(Value.bool p0)] w0 (R59 K) := by
  refine calls_of_WE (args := [(Value.bool p0)]) (rs := [.tmp 2]) Try.func59 rfl (N := 4) rfl rfl rfl rfl ?_
  refine WE.seq ?_
  refine WE.reg ?_
  refine LE.p (v := (Value.int .i64 (0 : Int))) (Wn.no rfl) rfl (R.assign rfl) ?_
  refine LE.nil ?_
  refine WE.seq ?_
  refine WE.seq ?_
  refine WE.reg ?_
  refine LE.p (v := (Value.bool p0)) (Wn.no rfl) rfl (R.move rfl) ?_
  refine LE.nil ?_
  refine WE.condT rfl (b := p0) rfl ?_ ?_
  · intro hb1
    replace h := M.ite_t h hb1
    refine WE.seq ?_
    refine WE.reg ?_
    refine LE.p (v := (Value.int .i64 (-1 : Int))) (Wn.no rfl) rfl (R.assign rfl) ?_
    refine LE.nil ?_
    refine WE.ret ?_
    exact ⟨_, (Res.tmp rfl Res.nil), _, rfl, h⟩
  · intro hb1
    replace h := M.ite_f h hb1
    refine WE.skip ?_
    refine WE.seq ?_
    refine WE.reg ?_
    refine LE.p (v := (Value.int .i64 (1 : Int))) (Wn.no rfl) rfl (R.assign rfl) ?_
    refine LE.nil ?_
    refine WE.ret ?_
    exact ⟨_, (Res.tmp rfl Res.nil), _, rfl, h⟩
/-- The formula of signpost.signpostref6.Copy. -/
def F60 (p0 : SV) (K : SV → World → Prop) (w0 : World) : Prop :=
M.loop2 (fun (J3 : SV → Int → World → Prop) (x1 : SV) (x2 : Int) (w4 : World) => 
M.ite (decide (x2 < (p0.len : Int))) (
M.drew w4 fun w15 => 
M.idx p0 x2 2 fun a16 =>
M.idx p0 x2 2 fun a20 =>
M.ld (Value.int .i64) (a16.add (x2.toNat * 2)) w15 fun t24 =>
M.ld SV.v ((a20.add (x2.toNat * 2)).add 1) w15 fun t26 =>
M.new (.cells #[] 23) w15 fun b30 w28 =>
M.keep (w28.cell? ((a20.add (x2.toNat * 2)).add 1) = some (SV.v t26)) <|
M.keep (w28.cell? (a16.add (x2.toNat * 2)) = some (Value.int .i64 t24)) <|
M.app Try.prog 25 25 25 (SV.mk (some b30) 0 0) (SV.v t26) w28 fun s33 w34 =>
M.keep (w34.cell? (a16.add (x2.toNat * 2)) = some (Value.int .i64 t24)) <|
M.new (.cells #[(Value.int .i64 t24), (SV.v s33)] 27) w34 fun b39 w37 =>
M.app Try.prog 24 24 24 x1 (SV.v (SV.mk (some b39) 1 1)) w37 fun s40 w41 =>
J3 s40 (IntKind.i64.wrap (x2 + (1 : Int))) w41) (
K x1 w4)) SV.nil (0 : Int) w0
theorem F60_ok {w0 : World} {p0 : SV} {K : SV → World → Prop} (h : F60 p0 K w0) : Calls Try.prog 60 #[(SV.v p0)] w0 (R60 K) := by
  refine calls_of_WE (args := [(SV.v p0)]) (rs := [.tmp 2]) Try.func60 rfl (N := 28) rfl rfl rfl rfl ?_
  refine WE.seq ?_
  refine WE.reg ?_
  refine LE.p (v := (SV.v SV.nil)) (Wn.no rfl) rfl (R.assign rfl) ?_
  refine LE.nil ?_
  refine WE.seq ?_
  refine WE.reg ?_
  refine LE.p (v := (SV.v SV.nil)) (Wn.no rfl) rfl (R.assign rfl) ?_
  refine LE.nil ?_
  refine WE.seq ?_
  refine WE.seq ?_
  refine WE.reg ?_
  refine LE.p (v := (Value.int .i64 (0 : Int))) (Wn.no rfl) rfl (R.assign rfl) ?_
  refine LE.nil ?_
  refine WE.block ?_
  obtain ⟨I7, ⟨n6, h⟩, hr8⟩ := h
  refine WE.loop (fun n e w => ∃ (x1 : SV) (x2 : Int), I7 n x1 x2 w ∧ e 0 = (SV.v p0) ∧ e 3 = (SV.v x1) ∧ e 4 = (Value.int .i64 x2)) n6 ⟨_, _, h, rfl, rfl, rfl⟩ ?_
  clear h
  rintro n6 e5 w4 ⟨x1, x2, h, f11, f12, f13⟩
  replace h := hr8 n6 x1 x2 w4 h
  refine WE.seq ?_
  refine WE.seq ?_
  refine WE.reg ?_
  refine LE.p (v := (Value.int .i64 x2)) (Wn.no rfl) rfl (R.move f13) ?_
  refine LE.p (v := (SV.v p0)) (Wn.no rfl) rfl (R.move f11) ?_
  refine LE.p (v := (Value.int .i64 (p0.len : Int))) (Wn.no rfl) rfl (R.len sl24 rfl) ?_
  refine LE.p (v := (Value.bool (decide (x2 < (p0.len : Int))))) (Wn.no rfl) rfl (R.lss rfl rfl) ?_
  refine LE.nil ?_
  refine WE.condT rfl (b := (decide (x2 < (p0.len : Int)))) rfl ?_ ?_
  · intro hb14
    replace h := M.ite_t h hb14
    refine WE.skip ?_
    refine WE.seq ?_
    refine WE.block ?_
    refine WE.draw mix ?_
    obtain ⟨w15, hww15, h⟩ := M.drew_use h
    rw [← hww15]
    clear hww15
    refine DE.t 0 (v := (SV.v x1)) rfl (by kernel_rfl) (Wn.no rfl) rfl (R.move f12) ?_
    refine DE.t 1 (v := (SV.v p0)) rfl (by kernel_rfl) (Wn.no rfl) rfl (R.move f11) ?_
    refine DE.t 2 (v := (Value.int .i64 x2)) rfl (by kernel_rfl) (Wn.no rfl) rfl (R.move f13) ?_
    obtain ⟨a16, h17, h18, h19, h⟩ := h
    refine DE.t 3 (v := (Value.pointer (some (a16.add (x2.toNat * 2))))) rfl (by kernel_rfl) (Wn.no rfl) rfl (R.idx (s := p0) sl24 rfl rfl h17 h18 h19) ?_
    refine DE.t 4 (v := (Value.pointer (some (a16.add (x2.toNat * 2))))) rfl (by kernel_rfl) (Wn.no rfl) rfl (R.fld (off := 0) fa27_0 rfl) ?_
    refine DE.t 7 (v := (SV.v p0)) rfl (by kernel_rfl) (Wn.no rfl) rfl (R.move f11) ?_
    refine DE.t 8 (v := (Value.int .i64 x2)) rfl (by kernel_rfl) (Wn.no rfl) rfl (R.move f13) ?_
    obtain ⟨a20, h21, h22, h23, h⟩ := h
    refine DE.t 9 (v := (Value.pointer (some (a20.add (x2.toNat * 2))))) rfl (by kernel_rfl) (Wn.no rfl) rfl (R.idx (s := p0) sl24 rfl rfl h21 h22 h23) ?_
    refine DE.t 10 (v := (Value.pointer (some ((a20.add (x2.toNat * 2)).add 1)))) rfl (by kernel_rfl) (Wn.no rfl) rfl (R.fld (off := 1) fa27_1 rfl) ?_
    obtain ⟨t24, h25, h⟩ := h
    refine DE.hold 5 (fun w => w.cell? (a16.add (x2.toNat * 2)) = some (Value.int .i64 t24)) (v := (Value.int .i64 t24)) rfl (by kernel_rfl) (Wn.no rfl) rfl h25 (fun w hs => R.ld sc3 rfl hs) ?_
    obtain ⟨t26, h27, h⟩ := h
    refine DE.hold 11 (fun w => w.cell? ((a20.add (x2.toNat * 2)).add 1) = some (SV.v t26)) (v := (SV.v t26)) rfl (by kernel_rfl) (Wn.no rfl) rfl h27 (fun w hs => R.ld sc25 rfl hs) ?_
    obtain ⟨b30, hpb30, w28, hww28, h⟩ := M.new_use h
    obtain ⟨k31, h⟩ := h
    obtain ⟨k32, h⟩ := h
    refine DE.main 6 (by kernel_rfl) ?_
    refine One.r 6 (v := (SV.v (SV.mk (some b30) 0 0))) rfl (Wn.no rfl) rfl (R.bsl (by exact Ls.nil) (fun w => bs25_0  w) hpb30 hww28) (.inr ⟨fun _ => k31, fun _ => k32, trivial⟩) ?_
    obtain ⟨s33, w34, h35, h⟩ := h
    obtain ⟨k36, h⟩ := h
    refine DE.main 12 (by kernel_rfl) ?_
    refine One.r 12 (v := (SV.v s33)) rfl (Wn.no rfl) rfl (R.app (s := (SV.mk (some b30) 0 0)) (r := s33) rfl rfl h35) (.inr ⟨aftT (by kernel_rfl), fun _ => k36, trivial⟩) ?_
    refine DE.t 13 (v := (Value.agg #[(Value.int .i64 t24), (SV.v s33)])) rfl (by kernel_rfl) (Wn.no rfl) rfl (R.bld (by exact (Ls.cons (R.Pr rfl) (Ls.cons (R.Pr rfl) Ls.nil))) (fun w => bu27_0_1 t24 s33 w)) ?_
    obtain ⟨b39, hpb39, w37, hww37, h⟩ := M.new_use h
    refine DE.main 14 (by kernel_rfl) ?_
    refine One.r 14 (v := (SV.v (SV.mk (some b39) 1 1))) rfl (Wn.no rfl) rfl (R.bsl (by exact (Ls.cons (R.Pr rfl) Ls.nil)) (fun w => bs24_1 t24 s33 w) hpb39 hww37) (.inr ⟨aftT (by kernel_rfl), aftT (by kernel_rfl), trivial⟩) ?_
    obtain ⟨s40, w41, h42, h⟩ := h
    refine DE.main 15 (by kernel_rfl) ?_
    refine One.r 15 (v := (SV.v s40)) rfl (Wn.no rfl) rfl (R.app (s := x1) (r := s40) rfl rfl h42) (.inr ⟨aftT (by kernel_rfl), aftT (by kernel_rfl), trivial⟩) ?_
    refine DE.t 16 (v := (SV.v s40)) rfl (by kernel_rfl) (Wn.no rfl) rfl (R.assign rfl) ?_
    refine DE.done (by kernel_rfl) ?_
    refine WE.reg ?_
    refine LE.p (v := (Value.int .i64 x2)) (Wn.no rfl) rfl (R.move f13) ?_
    refine LE.p (v := (Value.int .i64 (IntKind.i64.wrap (x2 + (1 : Int))))) (Wn.no rfl) rfl (R.add rfl rfl) ?_
    refine LE.p (v := (Value.int .i64 (IntKind.i64.wrap (x2 + (1 : Int))))) (Wn.no rfl) rfl (R.assign rfl) ?_
    refine LE.nil ?_
    obtain ⟨m9, hm10, h⟩ := h
    exact ⟨m9, hm10, _, _, h, f11, rfl, rfl⟩
  · intro hb14
    replace h := M.ite_f h hb14
    refine WE.exit ?_
    refine WE.seq ?_
    refine WE.reg ?_
    refine LE.p (v := (SV.v x1)) (Wn.no rfl) rfl (R.move f12) ?_
    refine LE.p (v := (SV.v x1)) (Wn.no rfl) rfl (R.assign rfl) ?_
    refine LE.nil ?_
    refine WE.ret ?_
    exact ⟨_, (Res.tmp rfl Res.nil), _, rfl, h⟩
/-- The formula of (*signpost.signpostref4.Reader).Left. -/
def F61 (p0 : Option Addr) (K : Int → World → Prop) (w0 : World) : Prop :=
M.nil p0 fun a1 =>
M.ld Value.bool (a1.add 2) w0 fun t3 =>
M.ite t3 (
K (0 : Int) w0) (
M.drew w0 fun w6 => 
M.nil p0 fun a7 =>
M.nil p0 fun a9 =>
M.ld SV.v a7 w6 fun t11 =>
M.ld (Value.int .i64) (a9.add 1) w6 fun t13 =>
K (IntKind.i64.wrap ((t11.len : Int) - t13)) w6)
theorem F61_ok {w0 : World} {p0 : Option Addr} {K : Int → World → Prop} (h : F61 p0 K w0) : Calls Try.prog 61 #[(Value.pointer p0)] w0 (R61 K) := by
  refine calls_of_WE (args := [(Value.pointer p0)]) (rs := [.tmp 2]) Try.func61 rfl (N := 17) rfl rfl rfl rfl ?_
  refine WE.seq ?_
  refine WE.reg ?_
  refine LE.p (v := (Value.int .i64 (0 : Int))) (Wn.no rfl) rfl (R.assign rfl) ?_
  refine LE.nil ?_
  refine WE.seq ?_
  refine WE.seq ?_
  refine WE.reg ?_
  refine LE.p (v := (Value.pointer p0)) (Wn.no rfl) rfl (R.move rfl) ?_
  obtain ⟨a1, h2, h⟩ := h
  refine LE.p (v := (Value.pointer (some a1))) (Wn.no rfl) rfl (R.nilC (congrArg Value.pointer h2)) ?_
  refine LE.p (v := (Value.pointer (some (a1.add 2)))) (Wn.no rfl) rfl (R.fld (off := 2) fa85_2 rfl) ?_
  obtain ⟨t3, h4, h⟩ := h
  refine LE.r (v := (Value.bool t3)) (Wn.no rfl) rfl (R.ld sc4 rfl h4) ?_
  refine LE.nil ?_
  refine WE.condT rfl (b := t3) rfl ?_ ?_
  · intro hb5
    replace h := M.ite_t h hb5
    refine WE.seq ?_
    refine WE.reg ?_
    refine LE.p (v := (Value.int .i64 (0 : Int))) (Wn.no rfl) rfl (R.assign rfl) ?_
    refine LE.nil ?_
    refine WE.ret ?_
    exact ⟨_, (Res.tmp rfl Res.nil), _, rfl, h⟩
  · intro hb5
    replace h := M.ite_f h hb5
    refine WE.skip ?_
    refine WE.seq ?_
    refine WE.draw mix ?_
    obtain ⟨w6, hww6, h⟩ := M.drew_use h
    rw [← hww6]
    clear hww6
    refine DE.t 0 (v := (Value.pointer p0)) rfl (by kernel_rfl) (Wn.no rfl) rfl (R.move rfl) ?_
    obtain ⟨a7, h8, h⟩ := h
    refine DE.t 1 (v := (Value.pointer (some a7))) rfl (by kernel_rfl) (Wn.no rfl) rfl (R.nilC (congrArg Value.pointer h8)) ?_
    refine DE.t 2 (v := (Value.pointer (some a7))) rfl (by kernel_rfl) (Wn.no rfl) rfl (R.fld (off := 0) fa85_0 rfl) ?_
    refine DE.t 5 (v := (Value.pointer p0)) rfl (by kernel_rfl) (Wn.no rfl) rfl (R.move rfl) ?_
    obtain ⟨a9, h10, h⟩ := h
    refine DE.t 6 (v := (Value.pointer (some a9))) rfl (by kernel_rfl) (Wn.no rfl) rfl (R.nilC (congrArg Value.pointer h10)) ?_
    refine DE.t 7 (v := (Value.pointer (some (a9.add 1)))) rfl (by kernel_rfl) (Wn.no rfl) rfl (R.fld (off := 1) fa85_1 rfl) ?_
    obtain ⟨t11, h12, h⟩ := h
    refine DE.hold 3 (fun w => w.cell? a7 = some (SV.v t11)) (v := (SV.v t11)) rfl (by kernel_rfl) (Wn.no rfl) rfl h12 (fun w hs => R.ld sc40 rfl hs) ?_
    refine DE.t 4 (v := (Value.int .i64 (t11.len : Int))) rfl (by kernel_rfl) (Wn.no rfl) rfl (R.len sl40 rfl) ?_
    obtain ⟨t13, h14, h⟩ := h
    refine DE.main 8 (by kernel_rfl) ?_
    refine One.r 8 (v := (Value.int .i64 t13)) rfl (Wn.no rfl) rfl (R.ld sc3 rfl h14) (.inl rfl) ?_
    refine DE.t 9 (v := (Value.int .i64 (IntKind.i64.wrap ((t11.len : Int) - t13)))) rfl (by kernel_rfl) (Wn.no rfl) rfl (R.sub rfl rfl) ?_
    refine DE.t 10 (v := (Value.int .i64 (IntKind.i64.wrap ((t11.len : Int) - t13)))) rfl (by kernel_rfl) (Wn.no rfl) rfl (R.assign rfl) ?_
    refine DE.done (by kernel_rfl) ?_
    refine WE.ret ?_
    exact ⟨_, (Res.tmp rfl Res.nil), _, rfl, h⟩
/-- The formula of (*signpost.signpostref4.Reader).U8. -/
def F62 (p0 : Option Addr) (K : Int → World → Prop) (w0 : World) : Prop :=
Calls Try.prog 70 #[(Value.pointer p0), (Value.int .i64 (1 : Int))] w0 (R70 fun r1 w2 =>
K (IntKind.i64.wrap r1) w2)
theorem F62_ok {w0 : World} {p0 : Option Addr} {K : Int → World → Prop} (h : F62 p0 K w0) : Calls Try.prog 62 #[(Value.pointer p0)] w0 (R62 K) := by
  refine calls_of_WE (args := [(Value.pointer p0)]) (rs := [.tmp 2]) Try.func62 rfl (N := 6) rfl rfl rfl rfl ?_
  refine WE.seq ?_
  refine WE.reg ?_
  refine LE.p (v := (Value.int .i64 (0 : Int))) (Wn.no rfl) rfl (R.assign rfl) ?_
  refine LE.nil ?_
  refine WE.seq ?_
  refine WE.reg ?_
  refine LE.p (v := (Value.pointer p0)) (Wn.no rfl) rfl (R.move rfl) ?_
  refine LE.c (Wn.no rfl) rfl (R.call bd70 (Ls.cons rfl (Ls.cons rfl Ls.nil)) rfl) (Calls.mono h ?_)
  rintro _ w2 ⟨r1, rfl, h⟩
  refine ⟨_, rfl, ?_⟩
  refine LE.p (v := (Value.int .i64 (IntKind.i64.wrap r1))) (Wn.no rfl) rfl (R.conv in3 in23 rfl) ?_
  refine LE.p (v := (Value.int .i64 (IntKind.i64.wrap r1))) (Wn.no rfl) rfl (R.assign rfl) ?_
  refine LE.nil ?_
  refine WE.ret ?_
  exact ⟨_, (Res.tmp rfl Res.nil), _, rfl, h⟩
/-- The formula of (*signpost.signpostref4.Reader).U32. -/
def F63 (p0 : Option Addr) (K : Int → World → Prop) (w0 : World) : Prop :=
Calls Try.prog 70 #[(Value.pointer p0), (Value.int .i64 (4 : Int))] w0 (R70 fun r1 w2 =>
K r1 w2)
theorem F63_ok {w0 : World} {p0 : Option Addr} {K : Int → World → Prop} (h : F63 p0 K w0) : Calls Try.prog 63 #[(Value.pointer p0)] w0 (R63 K) := by
  refine calls_of_WE (args := [(Value.pointer p0)]) (rs := [.tmp 2]) Try.func63 rfl (N := 5) rfl rfl rfl rfl ?_
  refine WE.seq ?_
  refine WE.reg ?_
  refine LE.p (v := (Value.int .u32 (0 : Int))) (Wn.no rfl) rfl (R.assign rfl) ?_
  refine LE.nil ?_
  refine WE.seq ?_
  refine WE.reg ?_
  refine LE.p (v := (Value.pointer p0)) (Wn.no rfl) rfl (R.move rfl) ?_
  refine LE.c (Wn.no rfl) rfl (R.call bd70 (Ls.cons rfl (Ls.cons rfl Ls.nil)) rfl) (Calls.mono h ?_)
  rintro _ w2 ⟨r1, rfl, h⟩
  refine ⟨_, rfl, ?_⟩
  refine LE.p (v := (Value.int .u32 r1)) (Wn.no rfl) rfl (R.assign rfl) ?_
  refine LE.nil ?_
  refine WE.ret ?_
  exact ⟨_, (Res.tmp rfl Res.nil), _, rfl, h⟩
/-- The formula of slices.rotateLeft[uint32]. -/
def F64 (p0 : SV) (p1 : Int) (K : World → Prop) (w0 : World) : Prop :=
M.bnd (0 : Int) p1 p0 <|
Calls Try.prog 71 #[(SV.v (SV.sub p0 (Int.toNat (0 : Int)) (Int.toNat p1) 1))] w0 (R71 fun w5 =>
M.bnd p1 (p0.len : Int) p0 <|
Calls Try.prog 71 #[(SV.v (SV.sub p0 (Int.toNat p1) (Int.toNat (p0.len : Int)) 1))] w5 (R71 fun w10 =>
Calls Try.prog 71 #[(SV.v p0)] w10 (R71 fun w11 =>
K w11)))
theorem F64_ok {w0 : World} {p0 : SV} {p1 : Int} {K : World → Prop} (h : F64 p0 p1 K w0) : Calls Try.prog 64 #[(SV.v p0), (Value.int .i64 p1)] w0 (R64 K) := by
  refine calls_of_WE (args := [(SV.v p0), (Value.int .i64 p1)]) (rs := []) Try.func64 rfl (N := 14) rfl rfl rfl rfl ?_
  refine WE.seq ?_
  refine WE.reg ?_
  refine LE.p (v := (SV.v p0)) (Wn.no rfl) rfl (R.move rfl) ?_
  refine LE.p (v := (Value.int .i64 p1)) (Wn.no rfl) rfl (R.move rfl) ?_
  obtain ⟨h1, h2, h3, h⟩ := h
  refine LE.p (v := (SV.v (SV.sub p0 (Int.toNat (0 : Int)) (Int.toNat p1) 1))) (Wn.no rfl) rfl (R.slc (s := p0) (lo := (0 : Int)) (hi := p1) _ _ sl25 rfl rfl rfl h1 h2 h3) ?_
  refine LE.c (Wn.no rfl) rfl (R.call bd71 (Ls.cons rfl Ls.nil) rfl) (Calls.mono h ?_)
  rintro _ w5 ⟨rfl, h⟩
  refine ⟨_, rfl, ?_⟩
  refine LE.nil ?_
  refine WE.seq ?_
  refine WE.reg ?_
  refine LE.p (v := (SV.v p0)) (Wn.no rfl) rfl (R.move rfl) ?_
  refine LE.p (v := (Value.int .i64 p1)) (Wn.no rfl) rfl (R.move rfl) ?_
  obtain ⟨h6, h7, h8, h⟩ := h
  refine LE.p (v := (SV.v (SV.sub p0 (Int.toNat p1) (Int.toNat (p0.len : Int)) 1))) (Wn.no rfl) rfl (R.slc (s := p0) (lo := p1) (hi := (p0.len : Int)) _ _ sl25 rfl rfl rfl h6 h7 h8) ?_
  refine LE.c (Wn.no rfl) rfl (R.call bd71 (Ls.cons rfl Ls.nil) rfl) (Calls.mono h ?_)
  rintro _ w10 ⟨rfl, h⟩
  refine ⟨_, rfl, ?_⟩
  refine LE.nil ?_
  refine WE.reg ?_
  refine LE.p (v := (SV.v p0)) (Wn.no rfl) rfl (R.move rfl) ?_
  refine LE.c (Wn.no rfl) rfl (R.call bd71 (Ls.cons rfl Ls.nil) rfl) (Calls.mono h ?_)
  rintro _ w11 ⟨rfl, h⟩
  refine ⟨_, rfl, ?_⟩
  refine LE.nil ?_
  exact ⟨_,  Res.nil, rfl, h⟩
/-- The formula of slices.rotateLeft[signpost.api.Seg]. -/
def F65 (p0 : SV) (p1 : Int) (K : World → Prop) (w0 : World) : Prop :=
M.bnd (0 : Int) p1 p0 <|
Calls Try.prog 72 #[(SV.v (SV.sub p0 (Int.toNat (0 : Int)) (Int.toNat p1) 2))] w0 (R72 fun w5 =>
M.bnd p1 (p0.len : Int) p0 <|
Calls Try.prog 72 #[(SV.v (SV.sub p0 (Int.toNat p1) (Int.toNat (p0.len : Int)) 2))] w5 (R72 fun w10 =>
Calls Try.prog 72 #[(SV.v p0)] w10 (R72 fun w11 =>
K w11)))
theorem F65_ok {w0 : World} {p0 : SV} {p1 : Int} {K : World → Prop} (h : F65 p0 p1 K w0) : Calls Try.prog 65 #[(SV.v p0), (Value.int .i64 p1)] w0 (R65 K) := by
  refine calls_of_WE (args := [(SV.v p0), (Value.int .i64 p1)]) (rs := []) Try.func65 rfl (N := 14) rfl rfl rfl rfl ?_
  refine WE.seq ?_
  refine WE.reg ?_
  refine LE.p (v := (SV.v p0)) (Wn.no rfl) rfl (R.move rfl) ?_
  refine LE.p (v := (Value.int .i64 p1)) (Wn.no rfl) rfl (R.move rfl) ?_
  obtain ⟨h1, h2, h3, h⟩ := h
  refine LE.p (v := (SV.v (SV.sub p0 (Int.toNat (0 : Int)) (Int.toNat p1) 2))) (Wn.no rfl) rfl (R.slc (s := p0) (lo := (0 : Int)) (hi := p1) _ _ sl24 rfl rfl rfl h1 h2 h3) ?_
  refine LE.c (Wn.no rfl) rfl (R.call bd72 (Ls.cons rfl Ls.nil) rfl) (Calls.mono h ?_)
  rintro _ w5 ⟨rfl, h⟩
  refine ⟨_, rfl, ?_⟩
  refine LE.nil ?_
  refine WE.seq ?_
  refine WE.reg ?_
  refine LE.p (v := (SV.v p0)) (Wn.no rfl) rfl (R.move rfl) ?_
  refine LE.p (v := (Value.int .i64 p1)) (Wn.no rfl) rfl (R.move rfl) ?_
  obtain ⟨h6, h7, h8, h⟩ := h
  refine LE.p (v := (SV.v (SV.sub p0 (Int.toNat p1) (Int.toNat (p0.len : Int)) 2))) (Wn.no rfl) rfl (R.slc (s := p0) (lo := p1) (hi := (p0.len : Int)) _ _ sl24 rfl rfl rfl h6 h7 h8) ?_
  refine LE.c (Wn.no rfl) rfl (R.call bd72 (Ls.cons rfl Ls.nil) rfl) (Calls.mono h ?_)
  rintro _ w10 ⟨rfl, h⟩
  refine ⟨_, rfl, ?_⟩
  refine LE.nil ?_
  refine WE.reg ?_
  refine LE.p (v := (SV.v p0)) (Wn.no rfl) rfl (R.move rfl) ?_
  refine LE.c (Wn.no rfl) rfl (R.call bd72 (Ls.cons rfl Ls.nil) rfl) (Calls.mono h ?_)
  rintro _ w11 ⟨rfl, h⟩
  refine ⟨_, rfl, ?_⟩
  refine LE.nil ?_
  exact ⟨_,  Res.nil, rfl, h⟩
/-- The formula of cmp.Or[int]. -/
def F66 (p0 : SV) (K : Int → World → Prop) (w0 : World) : Prop :=
M.loop1 (fun (J2 : Int → World → Prop) (x1 : Int) (w3 : World) => 
M.ite (decide (x1 < (p0.len : Int))) (
M.idx p0 x1 1 fun a15 =>
M.ld (Value.int .i64) (a15.add (x1.toNat * 1)) w3 fun t19 =>
M.ite (t19 != (0 : Int)) (
K t19 w3) (
J2 (IntKind.i64.wrap (x1 + (1 : Int))) w3)) (
K (0 : Int) w3)) (0 : Int) w0
theorem F66_ok {w0 : World} {p0 : SV} {K : Int → World → Prop} (h : F66 p0 K w0) : Calls Try.prog 66 #[(SV.v p0)] w0 (R66 K) := by
  refine calls_of_WE (args := [(SV.v p0)]) (rs := [.tmp 2]) Try.func66 rfl (N := 18) rfl rfl rfl rfl ?_
  refine WE.seq ?_
  refine WE.reg ?_
  refine LE.p (v := (Value.int .i64 (0 : Int))) (Wn.no rfl) rfl (R.assign rfl) ?_
  refine LE.nil ?_
  refine WE.seq ?_
  refine WE.reg ?_
  refine LE.p (v := (Value.int .i64 (0 : Int))) (Wn.no rfl) rfl (R.assign rfl) ?_
  refine LE.nil ?_
  refine WE.seq ?_
  refine WE.seq ?_
  refine WE.reg ?_
  refine LE.p (v := (SV.v p0)) (Wn.no rfl) rfl (R.move rfl) ?_
  refine LE.p (v := (Value.int .i64 (p0.len : Int))) (Wn.no rfl) rfl (R.len sl22 rfl) ?_
  refine LE.p (v := (Value.int .i64 (0 : Int))) (Wn.no rfl) rfl (R.move rfl) ?_
  refine LE.nil ?_
  refine WE.block ?_
  obtain ⟨I6, ⟨n5, h⟩, hr7⟩ := h
  refine WE.loop (fun n e w => ∃ (x1 : Int), I6 n x1 w ∧ e 3 = (Value.int .i64 (0 : Int)) ∧ e 6 = (SV.v p0) ∧ e 7 = (Value.int .i64 (p0.len : Int)) ∧ e 8 = (Value.int .i64 x1)) n5 ⟨_, h, rfl, rfl, rfl, rfl⟩ ?_
  clear h
  rintro n5 e4 w3 ⟨x1, h, f10, f11, f12, f13⟩
  replace h := hr7 n5 x1 w3 h
  refine WE.seq ?_
  refine WE.reg ?_
  refine LE.p (v := (Value.bool (decide (x1 < (p0.len : Int))))) (Wn.no rfl) rfl (R.lss f13 f12) ?_
  refine LE.nil ?_
  refine WE.seq ?_
  refine WE.condT rfl (b := (decide (x1 < (p0.len : Int)))) rfl ?_ ?_
  · intro hb14
    replace h := M.ite_t h hb14
    refine WE.skip ?_
    refine WE.seq ?_
    refine WE.block ?_
    refine WE.seq ?_
    refine WE.reg ?_
    obtain ⟨a15, h16, h17, h18, h⟩ := h
    refine LE.p (v := (Value.pointer (some (a15.add (x1.toNat * 1))))) (Wn.no rfl) rfl (R.idx (s := p0) sl22 f11 f13 h16 h17 h18) ?_
    obtain ⟨t19, h20, h⟩ := h
    refine LE.r (v := (Value.int .i64 t19)) (Wn.no rfl) rfl (R.ld sc3 rfl h20) ?_
    refine LE.p (v := (Value.int .i64 t19)) (Wn.no rfl) rfl (R.assign rfl) ?_
    refine LE.nil ?_
    refine WE.seq ?_
    refine WE.reg ?_
    refine LE.p (v := (Value.int .i64 t19)) (Wn.no rfl) rfl (R.move rfl) ?_
    refine LE.p (v := (Value.int .i64 (0 : Int))) (Wn.no rfl) rfl (R.move f10) ?_
    refine LE.p (v := (Value.bool (t19 != (0 : Int)))) (Wn.no rfl) rfl (R.neq rfl rfl) ?_
    refine LE.nil ?_
    refine WE.condT rfl (b := (t19 != (0 : Int))) rfl ?_ ?_
    · intro hb21
      replace h := M.ite_t h hb21
      refine WE.seq ?_
      refine WE.reg ?_
      refine LE.p (v := (Value.int .i64 t19)) (Wn.no rfl) rfl (R.move rfl) ?_
      refine LE.p (v := (Value.int .i64 t19)) (Wn.no rfl) rfl (R.assign rfl) ?_
      refine LE.nil ?_
      refine WE.ret ?_
      exact ⟨_, (Res.tmp rfl Res.nil), _, rfl, h⟩
    · intro hb21
      replace h := M.ite_f h hb21
      refine WE.skip ?_
      refine WE.reg ?_
      refine LE.p (v := (Value.int .i64 (IntKind.i64.wrap (x1 + (1 : Int))))) (Wn.no rfl) rfl (R.add f13 rfl) ?_
      refine LE.p (v := (Value.int .i64 (IntKind.i64.wrap (x1 + (1 : Int))))) (Wn.no rfl) rfl (R.move rfl) ?_
      refine LE.nil ?_
      obtain ⟨m8, hm9, h⟩ := h
      exact ⟨m8, hm9, _, h, f10, f11, f12, rfl⟩
  · intro hb14
    replace h := M.ite_f h hb14
    refine WE.exit ?_
    refine WE.seq ?_
    refine WE.reg ?_
    refine LE.p (v := (Value.int .i64 (0 : Int))) (Wn.no rfl) rfl (R.move f10) ?_
    refine LE.p (v := (Value.int .i64 (0 : Int))) (Wn.no rfl) rfl (R.assign rfl) ?_
    refine LE.nil ?_
    refine WE.ret ?_
    exact ⟨_, (Res.tmp rfl Res.nil), _, rfl, h⟩
/-- The formula of cmp.Compare[int]. -/
def F67 (p0 : Int) (p1 : Int) (K : Int → World → Prop) (w0 : World) : Prop :=
Calls Try.prog 73 #[(Value.int .i64 p0)] w0 (R73 fun r1 w2 =>
Calls Try.prog 73 #[(Value.int .i64 p1)] w2 (R73 fun r3 w4 =>
M.ite r1 (
M.ite r3 (
K (0 : Int) w4) (
K (-1 : Int) w4)) (
M.ite r3 (
K (1 : Int) w4) (
M.ite (decide (p0 < p1)) (
K (-1 : Int) w4) (
M.ite (decide (p1 < p0)) (
K (1 : Int) w4) (
K (0 : Int) w4))))))
theorem F67_ok {w0 : World} {p0 : Int} {p1 : Int} {K : Int → World → Prop} (h : F67 p0 p1 K w0) : Calls Try.prog 67 #[(Value.int .i64 p0), (Value.int .i64 p1)] w0 (R67 K) := by
  refine calls_of_WE (args := [(Value.int .i64 p0), (Value.int .i64 p1)]) (rs := [.tmp 4]) Try.func67 rfl (N := 20) rfl rfl rfl rfl ?_
  refine WE.seq ?_
  refine WE.reg ?_
  refine LE.p (v := (Value.int .i64 (0 : Int))) (Wn.no rfl) rfl (R.assign rfl) ?_
  refine LE.nil ?_
  refine WE.seq ?_
  refine WE.reg ?_
  refine LE.p (v := (Value.int .i64 p0)) (Wn.no rfl) rfl (R.move rfl) ?_
  refine LE.c (Wn.no rfl) rfl (R.call bd73 (Ls.cons rfl Ls.nil) rfl) (Calls.mono h ?_)
  rintro _ w2 ⟨r1, rfl, h⟩
  refine ⟨_, rfl, ?_⟩
  refine LE.p (v := (Value.bool r1)) (Wn.no rfl) rfl (R.assign rfl) ?_
  refine LE.nil ?_
  refine WE.seq ?_
  refine WE.reg ?_
  refine LE.p (v := (Value.int .i64 p1)) (Wn.no rfl) rfl (R.move rfl) ?_
  refine LE.c (Wn.no rfl) rfl (R.call bd73 (Ls.cons rfl Ls.nil) rfl) (Calls.mono h ?_)
  rintro _ w4 ⟨r3, rfl, h⟩
  refine ⟨_, rfl, ?_⟩
  refine LE.p (v := (Value.bool r3)) (Wn.no rfl) rfl (R.assign rfl) ?_
  refine LE.nil ?_
  refine WE.seq ?_
  refine WE.seq ?_
  refine WE.reg ?_
  refine LE.p (v := (Value.bool r1)) (Wn.no rfl) rfl (R.move rfl) ?_
  refine LE.nil ?_
  refine WE.condT rfl (b := r1) rfl ?_ ?_
  · intro hb5
    replace h := M.ite_t h hb5
    refine WE.seq ?_
    refine WE.seq ?_
    refine WE.reg ?_
    refine LE.p (v := (Value.bool r3)) (Wn.no rfl) rfl (R.move rfl) ?_
    refine LE.nil ?_
    refine WE.condT rfl (b := r3) rfl ?_ ?_
    · intro hb6
      replace h := M.ite_t h hb6
      refine WE.seq ?_
      refine WE.reg ?_
      refine LE.p (v := (Value.int .i64 (0 : Int))) (Wn.no rfl) rfl (R.assign rfl) ?_
      refine LE.nil ?_
      refine WE.ret ?_
      exact ⟨_, (Res.tmp rfl Res.nil), _, rfl, h⟩
    · intro hb6
      replace h := M.ite_f h hb6
      refine WE.skip ?_
      refine WE.seq ?_
      refine WE.reg ?_
      refine LE.p (v := (Value.int .i64 (-1 : Int))) (Wn.no rfl) rfl (R.assign rfl) ?_
      refine LE.nil ?_
      refine WE.ret ?_
      exact ⟨_, (Res.tmp rfl Res.nil), _, rfl, h⟩
  · intro hb5
    replace h := M.ite_f h hb5
    refine WE.skip ?_
    refine WE.seq ?_
    refine WE.seq ?_
    refine WE.reg ?_
    refine LE.p (v := (Value.bool r3)) (Wn.no rfl) rfl (R.move rfl) ?_
    refine LE.nil ?_
    refine WE.condT rfl (b := r3) rfl ?_ ?_
    · intro hb7
      replace h := M.ite_t h hb7
      refine WE.seq ?_
      refine WE.reg ?_
      refine LE.p (v := (Value.int .i64 (1 : Int))) (Wn.no rfl) rfl (R.assign rfl) ?_
      refine LE.nil ?_
      refine WE.ret ?_
      exact ⟨_, (Res.tmp rfl Res.nil), _, rfl, h⟩
    · intro hb7
      replace h := M.ite_f h hb7
      refine WE.skip ?_
      refine WE.seq ?_
      refine WE.seq ?_
      refine WE.reg ?_
      refine LE.p (v := (Value.int .i64 p0)) (Wn.no rfl) rfl (R.move rfl) ?_
      refine LE.p (v := (Value.int .i64 p1)) (Wn.no rfl) rfl (R.move rfl) ?_
      refine LE.p (v := (Value.bool (decide (p0 < p1)))) (Wn.no rfl) rfl (R.lss rfl rfl) ?_
      refine LE.nil ?_
      refine WE.condT rfl (b := (decide (p0 < p1))) rfl ?_ ?_
      · intro hb8
        replace h := M.ite_t h hb8
        refine WE.seq ?_
        refine WE.reg ?_
        refine LE.p (v := (Value.int .i64 (-1 : Int))) (Wn.no rfl) rfl (R.assign rfl) ?_
        refine LE.nil ?_
        refine WE.ret ?_
        exact ⟨_, (Res.tmp rfl Res.nil), _, rfl, h⟩
      · intro hb8
        replace h := M.ite_f h hb8
        refine WE.skip ?_
        refine WE.seq ?_
        refine WE.seq ?_
        refine WE.reg ?_
        refine LE.p (v := (Value.int .i64 p0)) (Wn.no rfl) rfl (R.move rfl) ?_
        refine LE.p (v := (Value.int .i64 p1)) (Wn.no rfl) rfl (R.move rfl) ?_
        refine LE.p (v := (Value.bool (decide (p1 < p0)))) (Wn.no rfl) rfl (R.gtr rfl rfl) ?_
        refine LE.nil ?_
        refine WE.condT rfl (b := (decide (p1 < p0))) rfl ?_ ?_
        · intro hb9
          replace h := M.ite_t h hb9
          refine WE.seq ?_
          refine WE.reg ?_
          refine LE.p (v := (Value.int .i64 (1 : Int))) (Wn.no rfl) rfl (R.assign rfl) ?_
          refine LE.nil ?_
          refine WE.ret ?_
          exact ⟨_, (Res.tmp rfl Res.nil), _, rfl, h⟩
        · intro hb9
          replace h := M.ite_f h hb9
          refine WE.skip ?_
          refine WE.seq ?_
          refine WE.reg ?_
          refine LE.p (v := (Value.int .i64 (0 : Int))) (Wn.no rfl) rfl (R.assign rfl) ?_
          refine LE.nil ?_
          refine WE.ret ?_
          exact ⟨_, (Res.tmp rfl Res.nil), _, rfl, h⟩
/-- The formula of slices.Compare[[]uint32,uint32]. -/
def F68 (p0 : SV) (p1 : SV) (K : Int → World → Prop) (w0 : World) : Prop :=
M.loop1 (fun (J2 : Int → World → Prop) (x1 : Int) (w3 : World) => 
M.ite (decide (x1 < (p0.len : Int))) (
M.idx p0 x1 1 fun a16 =>
M.ld (Value.int .u32) (a16.add (x1.toNat * 1)) w3 fun t20 =>
M.ite (decide ((p1.len : Int) ≤ x1)) (
K (1 : Int) w3) (
M.idx p1 x1 1 fun a23 =>
M.ld (Value.int .u32) (a23.add (x1.toNat * 1)) w3 fun t27 =>
Calls Try.prog 74 #[(Value.int .u32 t20), (Value.int .u32 t27)] w3 (R74 fun r29 w30 =>
M.ite (r29 != (0 : Int)) (
K r29 w30) (
J2 (IntKind.i64.wrap (x1 + (1 : Int))) w30)))) (
M.ite (decide ((p0.len : Int) < (p1.len : Int))) (
K (-1 : Int) w3) (
K (0 : Int) w3))) (0 : Int) w0
theorem F68_ok {w0 : World} {p0 : SV} {p1 : SV} {K : Int → World → Prop} (h : F68 p0 p1 K w0) : Calls Try.prog 68 #[(SV.v p0), (SV.v p1)] w0 (R68 K) := by
  refine calls_of_WE (args := [(SV.v p0), (SV.v p1)]) (rs := [.tmp 4]) Try.func68 rfl (N := 36) rfl rfl rfl rfl ?_
  refine WE.seq ?_
  refine WE.reg ?_
  refine LE.p (v := (Value.int .i64 (0 : Int))) (Wn.no rfl) rfl (R.assign rfl) ?_
  refine LE.nil ?_
  refine WE.seq ?_
  refine WE.seq ?_
  refine WE.reg ?_
  refine LE.p (v := (SV.v p0)) (Wn.no rfl) rfl (R.move rfl) ?_
  refine LE.p (v := (Value.int .i64 (p0.len : Int))) (Wn.no rfl) rfl (R.len sl25 rfl) ?_
  refine LE.p (v := (Value.int .i64 (0 : Int))) (Wn.no rfl) rfl (R.move rfl) ?_
  refine LE.nil ?_
  refine WE.block ?_
  obtain ⟨I6, ⟨n5, h⟩, hr7⟩ := h
  refine WE.loop (fun n e w => ∃ (x1 : Int), I6 n x1 w ∧ e 0 = (SV.v p0) ∧ e 1 = (SV.v p1) ∧ e 9 = (SV.v p0) ∧ e 10 = (Value.int .i64 (p0.len : Int)) ∧ e 11 = (Value.int .i64 x1)) n5 ⟨_, h, rfl, rfl, rfl, rfl, rfl⟩ ?_
  clear h
  rintro n5 e4 w3 ⟨x1, h, f10, f11, f12, f13, f14⟩
  replace h := hr7 n5 x1 w3 h
  refine WE.seq ?_
  refine WE.reg ?_
  refine LE.p (v := (Value.bool (decide (x1 < (p0.len : Int))))) (Wn.no rfl) rfl (R.lss f14 f13) ?_
  refine LE.nil ?_
  refine WE.seq ?_
  refine WE.condT rfl (b := (decide (x1 < (p0.len : Int)))) rfl ?_ ?_
  · intro hb15
    replace h := M.ite_t h hb15
    refine WE.skip ?_
    refine WE.seq ?_
    refine WE.block ?_
    refine WE.seq ?_
    refine WE.reg ?_
    refine LE.p (v := (Value.int .i64 x1)) (Wn.no rfl) rfl (R.move f14) ?_
    obtain ⟨a16, h17, h18, h19, h⟩ := h
    refine LE.p (v := (Value.pointer (some (a16.add (x1.toNat * 1))))) (Wn.no rfl) rfl (R.idx (s := p0) sl25 f12 f14 h17 h18 h19) ?_
    obtain ⟨t20, h21, h⟩ := h
    refine LE.r (v := (Value.int .u32 t20)) (Wn.no rfl) rfl (R.ld sc23 rfl h21) ?_
    refine LE.p (v := (Value.int .i64 x1)) (Wn.no rfl) rfl (R.assign rfl) ?_
    refine LE.p (v := (Value.int .u32 t20)) (Wn.no rfl) rfl (R.assign rfl) ?_
    refine LE.nil ?_
    refine WE.seq ?_
    refine WE.seq ?_
    refine WE.reg ?_
    refine LE.p (v := (Value.int .i64 x1)) (Wn.no rfl) rfl (R.move rfl) ?_
    refine LE.p (v := (SV.v p1)) (Wn.no rfl) rfl (R.move f11) ?_
    refine LE.p (v := (Value.int .i64 (p1.len : Int))) (Wn.no rfl) rfl (R.len sl25 rfl) ?_
    refine LE.p (v := (Value.bool (decide ((p1.len : Int) ≤ x1)))) (Wn.no rfl) rfl (R.geq rfl rfl) ?_
    refine LE.nil ?_
    refine WE.condT rfl (b := (decide ((p1.len : Int) ≤ x1))) rfl ?_ ?_
    · intro hb22
      replace h := M.ite_t h hb22
      refine WE.seq ?_
      refine WE.reg ?_
      refine LE.p (v := (Value.int .i64 (1 : Int))) (Wn.no rfl) rfl (R.assign rfl) ?_
      refine LE.nil ?_
      refine WE.ret ?_
      exact ⟨_, (Res.tmp rfl Res.nil), _, rfl, h⟩
    · intro hb22
      replace h := M.ite_f h hb22
      refine WE.skip ?_
      refine WE.seq ?_
      refine WE.reg ?_
      refine LE.p (v := (SV.v p1)) (Wn.no rfl) rfl (R.move f11) ?_
      refine LE.p (v := (Value.int .i64 x1)) (Wn.no rfl) rfl (R.move rfl) ?_
      obtain ⟨a23, h24, h25, h26, h⟩ := h
      refine LE.p (v := (Value.pointer (some (a23.add (x1.toNat * 1))))) (Wn.no rfl) rfl (R.idx (s := p1) sl25 rfl rfl h24 h25 h26) ?_
      obtain ⟨t27, h28, h⟩ := h
      refine LE.r (v := (Value.int .u32 t27)) (Wn.no rfl) rfl (R.ld sc23 rfl h28) ?_
      refine LE.p (v := (Value.int .u32 t27)) (Wn.no rfl) rfl (R.assign rfl) ?_
      refine LE.nil ?_
      refine WE.seq ?_
      refine WE.reg ?_
      refine LE.p (v := (Value.int .u32 t20)) (Wn.no rfl) rfl (R.move rfl) ?_
      refine LE.p (v := (Value.int .u32 t27)) (Wn.no rfl) rfl (R.move rfl) ?_
      refine LE.c (Wn.no rfl) rfl (R.call bd74 (Ls.cons rfl (Ls.cons rfl Ls.nil)) rfl) (Calls.mono h ?_)
      rintro _ w30 ⟨r29, rfl, h⟩
      refine ⟨_, rfl, ?_⟩
      refine LE.p (v := (Value.int .i64 r29)) (Wn.no rfl) rfl (R.assign rfl) ?_
      refine LE.nil ?_
      refine WE.seq ?_
      refine WE.reg ?_
      refine LE.p (v := (Value.int .i64 r29)) (Wn.no rfl) rfl (R.move rfl) ?_
      refine LE.p (v := (Value.bool (r29 != (0 : Int)))) (Wn.no rfl) rfl (R.neq rfl rfl) ?_
      refine LE.nil ?_
      refine WE.condT rfl (b := (r29 != (0 : Int))) rfl ?_ ?_
      · intro hb31
        replace h := M.ite_t h hb31
        refine WE.seq ?_
        refine WE.reg ?_
        refine LE.p (v := (Value.int .i64 r29)) (Wn.no rfl) rfl (R.move rfl) ?_
        refine LE.p (v := (Value.int .i64 r29)) (Wn.no rfl) rfl (R.assign rfl) ?_
        refine LE.nil ?_
        refine WE.ret ?_
        exact ⟨_, (Res.tmp rfl Res.nil), _, rfl, h⟩
      · intro hb31
        replace h := M.ite_f h hb31
        refine WE.skip ?_
        refine WE.reg ?_
        refine LE.p (v := (Value.int .i64 (IntKind.i64.wrap (x1 + (1 : Int))))) (Wn.no rfl) rfl (R.add f14 rfl) ?_
        refine LE.p (v := (Value.int .i64 (IntKind.i64.wrap (x1 + (1 : Int))))) (Wn.no rfl) rfl (R.move rfl) ?_
        refine LE.nil ?_
        obtain ⟨m8, hm9, h⟩ := h
        exact ⟨m8, hm9, _, h, f10, f11, f12, f13, rfl⟩
  · intro hb15
    replace h := M.ite_f h hb15
    refine WE.exit ?_
    refine WE.seq ?_
    refine WE.seq ?_
    refine WE.reg ?_
    refine LE.p (v := (SV.v p0)) (Wn.no rfl) rfl (R.move f10) ?_
    refine LE.p (v := (Value.int .i64 (p0.len : Int))) (Wn.no rfl) rfl (R.len sl25 rfl) ?_
    refine LE.p (v := (SV.v p1)) (Wn.no rfl) rfl (R.move f11) ?_
    refine LE.p (v := (Value.int .i64 (p1.len : Int))) (Wn.no rfl) rfl (R.len sl25 rfl) ?_
    refine LE.p (v := (Value.bool (decide ((p0.len : Int) < (p1.len : Int))))) (Wn.no rfl) rfl (R.lss rfl rfl) ?_
    refine LE.nil ?_
    refine WE.condT rfl (b := (decide ((p0.len : Int) < (p1.len : Int)))) rfl ?_ ?_
    · intro hb32
      replace h := M.ite_t h hb32
      refine WE.seq ?_
      refine WE.reg ?_
      refine LE.p (v := (Value.int .i64 (-1 : Int))) (Wn.no rfl) rfl (R.assign rfl) ?_
      refine LE.nil ?_
      refine WE.ret ?_
      exact ⟨_, (Res.tmp rfl Res.nil), _, rfl, h⟩
    · intro hb32
      replace h := M.ite_f h hb32
      refine WE.skip ?_
      refine WE.seq ?_
      refine WE.reg ?_
      refine LE.p (v := (Value.int .i64 (0 : Int))) (Wn.no rfl) rfl (R.assign rfl) ?_
      refine LE.nil ?_
      refine WE.ret ?_
      exact ⟨_, (Res.tmp rfl Res.nil), _, rfl, h⟩
/-- The formula of (*signpost.wire.Reader).Raw. -/
def F69 (p0 : Option Addr) (p1 : Int) (K : SV → World → Prop) (w0 : World) : Prop :=
M.join (fun (w22 : World) => 
M.join (fun (x26 : Bool) (w33 : World) => 
M.ite x26 (
K SV.nil w33) (
M.nil p0 fun a38 =>
M.ld SV.v a38 w33 fun t40 =>
M.bnd (0 : Int) p1 t40 <|
Calls Try.prog 57 #[(SV.v (SV.sub t40 (Int.toNat (0 : Int)) (Int.toNat p1) 1))] w33 (R57 fun r46 w47 =>
M.nil p0 fun a48 =>
M.ld SV.v a48 w47 fun t50 =>
M.bnd p1 (t50.len : Int) t50 <|
M.nil p0 fun a56 =>
M.st a56 (SV.v (SV.sub t50 (Int.toNat p1) (Int.toNat (t50.len : Int)) 1)) w47 fun w58 =>
K r46 w58))) fun J25 => 
M.nil p0 fun a27 =>
M.ld Value.bool (a27.add 1) w22 fun t29 =>
M.ite t29 (
J25 true w22) (
J25 (decide (p1 < (1 : Int))) w22)) fun J1 => 
M.nil p0 fun a2 =>
M.ld Value.bool (a2.add 1) w0 fun t4 =>
M.ite t4 (
M.nil p0 fun a7 =>
M.st (a7.add 1) (Value.bool true) w0 fun w9 =>
J1 w9) (
M.nil p0 fun a12 =>
M.ld SV.v a12 w0 fun t14 =>
M.nil p0 fun a16 =>
M.st (a16.add 1) (Value.bool (decide ((t14.len : Int) < p1))) w0 fun w18 =>
J1 w18)
theorem F69_ok {w0 : World} {p0 : Option Addr} {p1 : Int} {K : SV → World → Prop} (h : F69 p0 p1 K w0) : Calls Try.prog 69 #[(Value.pointer p0), (Value.int .i64 p1)] w0 (R69 K) := by
  refine calls_of_WE (args := [(Value.pointer p0), (Value.int .i64 p1)]) (rs := [.tmp 4]) Try.func69 rfl (N := 47) rfl rfl rfl rfl ?_
  refine WE.seq ?_
  refine WE.reg ?_
  refine LE.p (v := (SV.v SV.nil)) (Wn.no rfl) rfl (R.assign rfl) ?_
  refine LE.nil ?_
  refine WE.seq ?_
  obtain ⟨J1, hJ1, h⟩ := M.join_use h
  refine WE.regJ (fun e w => J1 w ∧ e 0 = (Value.pointer p0) ∧ e 1 = (Value.int .i64 p1)) ?_ ?_
  · clear hJ1
    refine LE.p (v := (Value.pointer p0)) (Wn.no rfl) rfl (R.move rfl) ?_
    refine LE.p (v := (Value.pointer p0)) (Wn.no rfl) rfl (R.move rfl) ?_
    obtain ⟨a2, h3, h⟩ := h
    refine LE.p (v := (Value.pointer (some a2))) (Wn.no rfl) rfl (R.nilC (congrArg Value.pointer h3)) ?_
    refine LE.p (v := (Value.pointer (some (a2.add 1)))) (Wn.no rfl) rfl (R.fld (off := 1) fa79_1 rfl) ?_
    obtain ⟨t4, h5, h⟩ := h
    refine LE.r (v := (Value.bool t4)) (Wn.no rfl) rfl (R.ld sc4 rfl h5) ?_
    refine LE.p (v := (Value.bool t4)) (Wn.no rfl) rfl (R.move rfl) ?_
    rcases M.ite_use h with ⟨hb6, h⟩ | ⟨hb6, h⟩
    · refine LE.u (Un.no 5 11 false rfl rfl rfl (congrArg Value.bool hb6)) ?_
      refine LE.u (Un.no 5 11 false rfl rfl rfl (congrArg Value.bool hb6)) ?_
      refine LE.u (Un.no 5 11 false rfl rfl rfl (congrArg Value.bool hb6)) ?_
      refine LE.u (Un.no 5 11 false rfl rfl rfl (congrArg Value.bool hb6)) ?_
      refine LE.u (Un.no 5 11 false rfl rfl rfl (congrArg Value.bool hb6)) ?_
      refine LE.u (Un.no 5 11 false rfl rfl rfl (congrArg Value.bool hb6)) ?_
      refine LE.u (Un.no 5 11 false rfl rfl rfl (congrArg Value.bool hb6)) ?_
      refine LE.p (v := (Value.bool true)) (Wn.no rfl) rfl (R.pickT (congrArg Value.bool hb6) rfl) ?_
      obtain ⟨a7, h8, h⟩ := h
      refine LE.p (v := (Value.pointer (some a7))) (Wn.no rfl) rfl (R.nilC (congrArg Value.pointer h8)) ?_
      refine LE.p (v := (Value.pointer (some (a7.add 1)))) (Wn.no rfl) rfl (R.fld (off := 1) fa79_1 rfl) ?_
      obtain ⟨w9, hww9, h10, h11, h⟩ := M.st_use h
      refine LE.s (Wn.no rfl) rfl (R.st (a := (a7.add 1)) (v := (Value.bool true)) sz4 rfl rfl rfl rfl h10 h11 hww9) ?_
      refine LE.nil ?_
      exact ⟨h, rfl, rfl⟩
    · refine LE.p (v := (Value.int .i64 p1)) (Wn.yes 5 11 false rfl rfl rfl (congrArg Value.bool hb6)) rfl (R.move rfl) ?_
      refine LE.p (v := (Value.pointer p0)) (Wn.yes 5 11 false rfl rfl rfl (congrArg Value.bool hb6)) rfl (R.move rfl) ?_
      obtain ⟨a12, h13, h⟩ := h
      refine LE.p (v := (Value.pointer (some a12))) (Wn.yes 5 11 false rfl rfl rfl (congrArg Value.bool hb6)) rfl (R.nilC (congrArg Value.pointer h13)) ?_
      refine LE.p (v := (Value.pointer (some a12))) (Wn.yes 5 11 false rfl rfl rfl (congrArg Value.bool hb6)) rfl (R.fld (off := 0) fa79_0 rfl) ?_
      obtain ⟨t14, h15, h⟩ := h
      refine LE.r (v := (SV.v t14)) (Wn.yes 5 11 false rfl rfl rfl (congrArg Value.bool hb6)) rfl (R.ld sc40 rfl h15) ?_
      refine LE.p (v := (Value.int .i64 (t14.len : Int))) (Wn.yes 5 11 false rfl rfl rfl (congrArg Value.bool hb6)) rfl (R.len sl40 rfl) ?_
      refine LE.p (v := (Value.bool (decide ((t14.len : Int) < p1)))) (Wn.yes 5 11 false rfl rfl rfl (congrArg Value.bool hb6)) rfl (R.gtr rfl rfl) ?_
      refine LE.p (v := (Value.bool (decide ((t14.len : Int) < p1)))) (Wn.no rfl) rfl (R.pickF (congrArg Value.bool hb6) rfl) ?_
      obtain ⟨a16, h17, h⟩ := h
      refine LE.p (v := (Value.pointer (some a16))) (Wn.no rfl) rfl (R.nilC (congrArg Value.pointer h17)) ?_
      refine LE.p (v := (Value.pointer (some (a16.add 1)))) (Wn.no rfl) rfl (R.fld (off := 1) fa79_1 rfl) ?_
      obtain ⟨w18, hww18, h19, h20, h⟩ := M.st_use h
      refine LE.s (Wn.no rfl) rfl (R.st (a := (a16.add 1)) (v := (Value.bool (decide ((t14.len : Int) < p1)))) sz4 rfl rfl rfl rfl h19 h20 hww18) ?_
      refine LE.nil ?_
      exact ⟨h, rfl, rfl⟩
  · rintro e21 w22 ⟨h, f23, f24⟩
    subst hJ1
    refine WE.seq ?_
    refine WE.seq ?_
    obtain ⟨J25, hJ25, h⟩ := M.join_use h
    refine WE.regJ (fun e w => ∃ (x26 : Bool), J25 x26 w ∧ e 0 = (Value.pointer p0) ∧ e 1 = (Value.int .i64 p1) ∧ e 29 = (Value.bool x26)) ?_ ?_
    · clear hJ25
      refine LE.p (v := (Value.pointer p0)) (Wn.no rfl) rfl (R.move f23) ?_
      obtain ⟨a27, h28, h⟩ := h
      refine LE.p (v := (Value.pointer (some a27))) (Wn.no rfl) rfl (R.nilC (congrArg Value.pointer h28)) ?_
      refine LE.p (v := (Value.pointer (some (a27.add 1)))) (Wn.no rfl) rfl (R.fld (off := 1) fa79_1 rfl) ?_
      obtain ⟨t29, h30, h⟩ := h
      refine LE.r (v := (Value.bool t29)) (Wn.no rfl) rfl (R.ld sc4 rfl h30) ?_
      refine LE.p (v := (Value.bool t29)) (Wn.no rfl) rfl (R.move rfl) ?_
      rcases M.ite_use h with ⟨hb31, h⟩ | ⟨hb31, h⟩
      · refine LE.u (Un.no 4 26 false rfl rfl rfl (congrArg Value.bool hb31)) ?_
        refine LE.u (Un.no 4 26 false rfl rfl rfl (congrArg Value.bool hb31)) ?_
        refine LE.p (v := (Value.bool true)) (Wn.no rfl) rfl (R.pickT (congrArg Value.bool hb31) rfl) ?_
        refine LE.nil ?_
        exact ⟨_, h, f23, f24, rfl⟩
      · refine LE.p (v := (Value.int .i64 p1)) (Wn.yes 4 26 false rfl rfl rfl (congrArg Value.bool hb31)) rfl (R.move f24) ?_
        refine LE.p (v := (Value.bool (decide (p1 < (1 : Int))))) (Wn.yes 4 26 false rfl rfl rfl (congrArg Value.bool hb31)) rfl (R.lss rfl rfl) ?_
        refine LE.p (v := (Value.bool (decide (p1 < (1 : Int))))) (Wn.no rfl) rfl (R.pickF (congrArg Value.bool hb31) rfl) ?_
        refine LE.nil ?_
        exact ⟨_, h, f23, f24, rfl⟩
    · rintro e32 w33 ⟨x26, h, f34, f35, f36⟩
      subst hJ25
      refine WE.condT rfl (b := x26) f36 ?_ ?_
      · intro hb37
        replace h := M.ite_t h hb37
        refine WE.seq ?_
        refine WE.reg ?_
        refine LE.p (v := (SV.v SV.nil)) (Wn.no rfl) rfl (R.assign rfl) ?_
        refine LE.nil ?_
        refine WE.ret ?_
        exact ⟨_, (Res.tmp rfl Res.nil), _, rfl, h⟩
      · intro hb37
        replace h := M.ite_f h hb37
        refine WE.skip ?_
        refine WE.seq ?_
        refine WE.reg ?_
        refine LE.p (v := (Value.pointer p0)) (Wn.no rfl) rfl (R.move f34) ?_
        obtain ⟨a38, h39, h⟩ := h
        refine LE.p (v := (Value.pointer (some a38))) (Wn.no rfl) rfl (R.nilC (congrArg Value.pointer h39)) ?_
        refine LE.p (v := (Value.pointer (some a38))) (Wn.no rfl) rfl (R.fld (off := 0) fa79_0 rfl) ?_
        obtain ⟨t40, h41, h⟩ := h
        refine LE.r (v := (SV.v t40)) (Wn.no rfl) rfl (R.ld sc40 rfl h41) ?_
        refine LE.p (v := (Value.int .i64 p1)) (Wn.no rfl) rfl (R.move f35) ?_
        obtain ⟨h42, h43, h44, h⟩ := h
        refine LE.p (v := (SV.v (SV.sub t40 (Int.toNat (0 : Int)) (Int.toNat p1) 1))) (Wn.no rfl) rfl (R.slc (s := t40) (lo := (0 : Int)) (hi := p1) _ _ sl40 rfl rfl rfl h42 h43 h44) ?_
        refine LE.c (Wn.no rfl) rfl (R.call bd57 (Ls.cons rfl Ls.nil) rfl) (Calls.mono h ?_)
        rintro _ w47 ⟨r46, rfl, h⟩
        refine ⟨_, rfl, ?_⟩
        refine LE.p (v := (SV.v r46)) (Wn.no rfl) rfl (R.assign rfl) ?_
        refine LE.nil ?_
        refine WE.seq ?_
        refine WE.reg ?_
        refine LE.p (v := (Value.pointer p0)) (Wn.no rfl) rfl (R.move f34) ?_
        refine LE.p (v := (Value.pointer p0)) (Wn.no rfl) rfl (R.move f34) ?_
        obtain ⟨a48, h49, h⟩ := h
        refine LE.p (v := (Value.pointer (some a48))) (Wn.no rfl) rfl (R.nilC (congrArg Value.pointer h49)) ?_
        refine LE.p (v := (Value.pointer (some a48))) (Wn.no rfl) rfl (R.fld (off := 0) fa79_0 rfl) ?_
        obtain ⟨t50, h51, h⟩ := h
        refine LE.r (v := (SV.v t50)) (Wn.no rfl) rfl (R.ld sc40 rfl h51) ?_
        refine LE.p (v := (Value.int .i64 p1)) (Wn.no rfl) rfl (R.move f35) ?_
        obtain ⟨h52, h53, h54, h⟩ := h
        refine LE.p (v := (SV.v (SV.sub t50 (Int.toNat p1) (Int.toNat (t50.len : Int)) 1))) (Wn.no rfl) rfl (R.slc (s := t50) (lo := p1) (hi := (t50.len : Int)) _ _ sl40 rfl rfl rfl h52 h53 h54) ?_
        obtain ⟨a56, h57, h⟩ := h
        refine LE.p (v := (Value.pointer (some a56))) (Wn.no rfl) rfl (R.nilC (congrArg Value.pointer h57)) ?_
        refine LE.p (v := (Value.pointer (some a56))) (Wn.no rfl) rfl (R.fld (off := 0) fa79_0 rfl) ?_
        obtain ⟨w58, hww58, h59, h60, h⟩ := M.st_use h
        refine LE.s (Wn.no rfl) rfl (R.st (a := a56) (v := (SV.v (SV.sub t50 (Int.toNat p1) (Int.toNat (t50.len : Int)) 1))) sz40 rfl rfl rfl rfl h59 h60 hww58) ?_
        refine LE.nil ?_
        refine WE.seq ?_
        refine WE.reg ?_
        refine LE.p (v := (SV.v r46)) (Wn.no rfl) rfl (R.move rfl) ?_
        refine LE.p (v := (SV.v r46)) (Wn.no rfl) rfl (R.assign rfl) ?_
        refine LE.nil ?_
        refine WE.ret ?_
        exact ⟨_, (Res.tmp rfl Res.nil), _, rfl, h⟩
/-- The formula of (*signpost.signpostref4.Reader).number. -/
def F70 (p0 : Option Addr) (p1 : Int) (K : Int → World → Prop) (w0 : World) : Prop :=
Calls Try.prog 75 #[(Value.pointer p0), (Value.int .i64 p1)] w0 (R75 fun r1 w2 =>
M.loop2 (fun (J5 : Int → Int → World → Prop) (x3 : Int) (x4 : Int) (w6 : World) => 
M.ite (decide (x4 < (r1.len : Int))) (
M.idx r1 x4 1 fun a17 =>
M.ld (Value.int .u8) (a17.add (x4.toNat * 1)) w6 fun t21 =>
J5 (bOr .u32 (bShl .u32 x3 (8 : Int)) (IntKind.u32.wrap t21)) (IntKind.i64.wrap (x4 + (1 : Int))) w6) (
K x3 w6)) (0 : Int) (0 : Int) w2)
theorem F70_ok {w0 : World} {p0 : Option Addr} {p1 : Int} {K : Int → World → Prop} (h : F70 p0 p1 K w0) : Calls Try.prog 70 #[(Value.pointer p0), (Value.int .i64 p1)] w0 (R70 K) := by
  refine calls_of_WE (args := [(Value.pointer p0), (Value.int .i64 p1)]) (rs := [.tmp 4]) Try.func70 rfl (N := 26) rfl rfl rfl rfl ?_
  refine WE.seq ?_
  refine WE.reg ?_
  refine LE.p (v := (Value.int .u32 (0 : Int))) (Wn.no rfl) rfl (R.assign rfl) ?_
  refine LE.nil ?_
  refine WE.seq ?_
  refine WE.reg ?_
  refine LE.p (v := (Value.pointer p0)) (Wn.no rfl) rfl (R.move rfl) ?_
  refine LE.p (v := (Value.int .i64 p1)) (Wn.no rfl) rfl (R.move rfl) ?_
  refine LE.c (Wn.no rfl) rfl (R.call bd75 (Ls.cons rfl (Ls.cons rfl Ls.nil)) rfl) (Calls.mono h ?_)
  rintro _ w2 ⟨r1, rfl, h⟩
  refine ⟨_, rfl, ?_⟩
  refine LE.p (v := (SV.v r1)) (Wn.no rfl) rfl (R.assign rfl) ?_
  refine LE.nil ?_
  refine WE.seq ?_
  refine WE.reg ?_
  refine LE.p (v := (Value.int .u32 (0 : Int))) (Wn.no rfl) rfl (R.assign rfl) ?_
  refine LE.nil ?_
  refine WE.seq ?_
  refine WE.seq ?_
  refine WE.reg ?_
  refine LE.p (v := (Value.int .i64 (0 : Int))) (Wn.no rfl) rfl (R.assign rfl) ?_
  refine LE.nil ?_
  refine WE.block ?_
  obtain ⟨I9, ⟨n8, h⟩, hr10⟩ := h
  refine WE.loop (fun n e w => ∃ (x3 : Int) (x4 : Int), I9 n x3 x4 w ∧ e 5 = (SV.v r1) ∧ e 6 = (Value.int .u32 x3) ∧ e 7 = (Value.int .i64 x4)) n8 ⟨_, _, h, rfl, rfl, rfl⟩ ?_
  clear h
  rintro n8 e7 w6 ⟨x3, x4, h, f13, f14, f15⟩
  replace h := hr10 n8 x3 x4 w6 h
  refine WE.seq ?_
  refine WE.seq ?_
  refine WE.reg ?_
  refine LE.p (v := (Value.int .i64 x4)) (Wn.no rfl) rfl (R.move f15) ?_
  refine LE.p (v := (SV.v r1)) (Wn.no rfl) rfl (R.move f13) ?_
  refine LE.p (v := (Value.int .i64 (r1.len : Int))) (Wn.no rfl) rfl (R.len sl40 rfl) ?_
  refine LE.p (v := (Value.bool (decide (x4 < (r1.len : Int))))) (Wn.no rfl) rfl (R.lss rfl rfl) ?_
  refine LE.nil ?_
  refine WE.condT rfl (b := (decide (x4 < (r1.len : Int)))) rfl ?_ ?_
  · intro hb16
    replace h := M.ite_t h hb16
    refine WE.skip ?_
    refine WE.seq ?_
    refine WE.block ?_
    refine WE.reg ?_
    refine LE.p (v := (Value.int .u32 x3)) (Wn.no rfl) rfl (R.move f14) ?_
    refine LE.p (v := (Value.int .u32 (bShl .u32 x3 (8 : Int)))) (Wn.no rfl) rfl (R.shl rfl rfl (by decide)) ?_
    refine LE.p (v := (SV.v r1)) (Wn.no rfl) rfl (R.move f13) ?_
    refine LE.p (v := (Value.int .i64 x4)) (Wn.no rfl) rfl (R.move f15) ?_
    obtain ⟨a17, h18, h19, h20, h⟩ := h
    refine LE.p (v := (Value.pointer (some (a17.add (x4.toNat * 1))))) (Wn.no rfl) rfl (R.idx (s := r1) sl40 rfl rfl h18 h19 h20) ?_
    obtain ⟨t21, h22, h⟩ := h
    refine LE.r (v := (Value.int .u8 t21)) (Wn.no rfl) rfl (R.ld sc5 rfl h22) ?_
    refine LE.p (v := (Value.int .u32 (IntKind.u32.wrap t21))) (Wn.no rfl) rfl (R.conv in23 in5 rfl) ?_
    refine LE.p (v := (Value.int .u32 (bOr .u32 (bShl .u32 x3 (8 : Int)) (IntKind.u32.wrap t21)))) (Wn.no rfl) rfl (R.or rfl rfl) ?_
    refine LE.p (v := (Value.int .u32 (bOr .u32 (bShl .u32 x3 (8 : Int)) (IntKind.u32.wrap t21)))) (Wn.no rfl) rfl (R.assign rfl) ?_
    refine LE.nil ?_
    refine WE.reg ?_
    refine LE.p (v := (Value.int .i64 x4)) (Wn.no rfl) rfl (R.move f15) ?_
    refine LE.p (v := (Value.int .i64 (IntKind.i64.wrap (x4 + (1 : Int))))) (Wn.no rfl) rfl (R.add rfl rfl) ?_
    refine LE.p (v := (Value.int .i64 (IntKind.i64.wrap (x4 + (1 : Int))))) (Wn.no rfl) rfl (R.assign rfl) ?_
    refine LE.nil ?_
    obtain ⟨m11, hm12, h⟩ := h
    exact ⟨m11, hm12, _, _, h, f13, rfl, rfl⟩
  · intro hb16
    replace h := M.ite_f h hb16
    refine WE.exit ?_
    refine WE.seq ?_
    refine WE.reg ?_
    refine LE.p (v := (Value.int .u32 x3)) (Wn.no rfl) rfl (R.move f14) ?_
    refine LE.p (v := (Value.int .u32 x3)) (Wn.no rfl) rfl (R.assign rfl) ?_
    refine LE.nil ?_
    refine WE.ret ?_
    exact ⟨_, (Res.tmp rfl Res.nil), _, rfl, h⟩
/-- The formula of slices.Reverse[[]uint32,uint32]. -/
def F71 (p0 : SV) (K : World → Prop) (w0 : World) : Prop :=
M.loop2 (fun (J3 : Int → Int → World → Prop) (x1 : Int) (x2 : Int) (w4 : World) => 
M.ite (decide (x1 < x2)) (
M.drew w4 fun w15 => 
M.idx p0 x2 1 fun a16 =>
M.idx p0 x1 1 fun a20 =>
M.ld (Value.int .u32) (a16.add (x2.toNat * 1)) w15 fun t24 =>
M.ld (Value.int .u32) (a20.add (x1.toNat * 1)) w15 fun t26 =>
M.idx p0 x1 1 fun a28 =>
M.st (a28.add (x1.toNat * 1)) (Value.int .u32 t24) w15 fun w32 =>
M.idx p0 x2 1 fun a35 =>
M.st (a35.add (x2.toNat * 1)) (Value.int .u32 t26) w32 fun w39 =>
J3 (IntKind.i64.wrap (x1 + (1 : Int))) (IntKind.i64.wrap (x2 - (1 : Int))) w39) (
K w4)) (0 : Int) (IntKind.i64.wrap ((p0.len : Int) - (1 : Int))) w0
theorem F71_ok {w0 : World} {p0 : SV} {K : World → Prop} (h : F71 p0 K w0) : Calls Try.prog 71 #[(SV.v p0)] w0 (R71 K) := by
  refine calls_of_WE (args := [(SV.v p0)]) (rs := []) Try.func71 rfl (N := 28) rfl rfl rfl rfl ?_
  refine WE.seq ?_
  refine WE.reg ?_
  refine LE.p (v := (SV.v p0)) (Wn.no rfl) rfl (R.move rfl) ?_
  refine LE.p (v := (Value.int .i64 (p0.len : Int))) (Wn.no rfl) rfl (R.len sl25 rfl) ?_
  refine LE.p (v := (Value.int .i64 (IntKind.i64.wrap ((p0.len : Int) - (1 : Int))))) (Wn.no rfl) rfl (R.sub rfl rfl) ?_
  refine LE.p (v := (Value.int .i64 (0 : Int))) (Wn.no rfl) rfl (R.assign rfl) ?_
  refine LE.p (v := (Value.int .i64 (IntKind.i64.wrap ((p0.len : Int) - (1 : Int))))) (Wn.no rfl) rfl (R.assign rfl) ?_
  refine LE.nil ?_
  refine WE.block ?_
  obtain ⟨I7, ⟨n6, h⟩, hr8⟩ := h
  refine WE.loop (fun n e w => ∃ (x1 : Int) (x2 : Int), I7 n x1 x2 w ∧ e 0 = (SV.v p0) ∧ e 2 = (Value.int .i64 x1) ∧ e 3 = (Value.int .i64 x2)) n6 ⟨_, _, h, rfl, rfl, rfl⟩ ?_
  clear h
  rintro n6 e5 w4 ⟨x1, x2, h, f11, f12, f13⟩
  replace h := hr8 n6 x1 x2 w4 h
  refine WE.seq ?_
  refine WE.seq ?_
  refine WE.reg ?_
  refine LE.p (v := (Value.int .i64 x1)) (Wn.no rfl) rfl (R.move f12) ?_
  refine LE.p (v := (Value.int .i64 x2)) (Wn.no rfl) rfl (R.move f13) ?_
  refine LE.p (v := (Value.bool (decide (x1 < x2)))) (Wn.no rfl) rfl (R.lss rfl rfl) ?_
  refine LE.nil ?_
  refine WE.condT rfl (b := (decide (x1 < x2))) rfl ?_ ?_
  · intro hb14
    replace h := M.ite_t h hb14
    refine WE.skip ?_
    refine WE.seq ?_
    refine WE.block ?_
    refine WE.draw mix ?_
    obtain ⟨w15, hww15, h⟩ := M.drew_use h
    rw [← hww15]
    clear hww15
    refine DE.t 0 (v := (SV.v p0)) rfl (by kernel_rfl) (Wn.no rfl) rfl (R.move f11) ?_
    refine DE.t 1 (v := (Value.int .i64 x1)) rfl (by kernel_rfl) (Wn.no rfl) rfl (R.move f12) ?_
    refine DE.t 2 (v := (SV.v p0)) rfl (by kernel_rfl) (Wn.no rfl) rfl (R.move f11) ?_
    refine DE.t 3 (v := (Value.int .i64 x2)) rfl (by kernel_rfl) (Wn.no rfl) rfl (R.move f13) ?_
    refine DE.t 4 (v := (SV.v p0)) rfl (by kernel_rfl) (Wn.no rfl) rfl (R.move f11) ?_
    refine DE.t 5 (v := (Value.int .i64 x2)) rfl (by kernel_rfl) (Wn.no rfl) rfl (R.move f13) ?_
    obtain ⟨a16, h17, h18, h19, h⟩ := h
    refine DE.t 6 (v := (Value.pointer (some (a16.add (x2.toNat * 1))))) rfl (by kernel_rfl) (Wn.no rfl) rfl (R.idx (s := p0) sl25 rfl rfl h17 h18 h19) ?_
    refine DE.t 8 (v := (SV.v p0)) rfl (by kernel_rfl) (Wn.no rfl) rfl (R.move f11) ?_
    refine DE.t 9 (v := (Value.int .i64 x1)) rfl (by kernel_rfl) (Wn.no rfl) rfl (R.move f12) ?_
    obtain ⟨a20, h21, h22, h23, h⟩ := h
    refine DE.t 10 (v := (Value.pointer (some (a20.add (x1.toNat * 1))))) rfl (by kernel_rfl) (Wn.no rfl) rfl (R.idx (s := p0) sl25 rfl rfl h21 h22 h23) ?_
    obtain ⟨t24, h25, h⟩ := h
    refine DE.hold 7 (fun w => w.cell? (a16.add (x2.toNat * 1)) = some (Value.int .u32 t24)) (v := (Value.int .u32 t24)) rfl (by kernel_rfl) (Wn.no rfl) rfl h25 (fun w hs => R.ld sc23 rfl hs) ?_
    obtain ⟨t26, h27, h⟩ := h
    refine DE.main 11 (by kernel_rfl) ?_
    refine One.r 11 (v := (Value.int .u32 t26)) rfl (Wn.no rfl) rfl (R.ld sc23 rfl h27) (.inl rfl) ?_
    obtain ⟨a28, h29, h30, h31, h⟩ := h
    refine DE.t 12 (v := (Value.pointer (some (a28.add (x1.toNat * 1))))) rfl (by kernel_rfl) (Wn.no rfl) rfl (R.idx (s := p0) sl25 rfl rfl h29 h30 h31) ?_
    obtain ⟨w32, hww32, h33, h34, h⟩ := M.st_use h
    refine DE.main 13 (by kernel_rfl) ?_
    refine One.s 13 rfl (Wn.no rfl) rfl (R.st (a := (a28.add (x1.toNat * 1))) (v := (Value.int .u32 t24)) sz23 rfl rfl rfl rfl h33 h34 hww32) ⟨aftT (by kernel_rfl), trivial⟩ ?_
    obtain ⟨a35, h36, h37, h38, h⟩ := h
    refine DE.t 14 (v := (Value.pointer (some (a35.add (x2.toNat * 1))))) rfl (by kernel_rfl) (Wn.no rfl) rfl (R.idx (s := p0) sl25 rfl rfl h36 h37 h38) ?_
    obtain ⟨w39, hww39, h40, h41, h⟩ := M.st_use h
    refine DE.main 15 (by kernel_rfl) ?_
    refine One.s 15 rfl (Wn.no rfl) rfl (R.st (a := (a35.add (x2.toNat * 1))) (v := (Value.int .u32 t26)) sz23 rfl rfl rfl rfl h40 h41 hww39) ⟨aftT (by kernel_rfl), trivial⟩ ?_
    refine DE.done (by kernel_rfl) ?_
    refine WE.reg ?_
    refine LE.p (v := (Value.int .i64 x1)) (Wn.no rfl) rfl (R.move f12) ?_
    refine LE.p (v := (Value.int .i64 (IntKind.i64.wrap (x1 + (1 : Int))))) (Wn.no rfl) rfl (R.add rfl rfl) ?_
    refine LE.p (v := (Value.int .i64 x2)) (Wn.no rfl) rfl (R.move f13) ?_
    refine LE.p (v := (Value.int .i64 (IntKind.i64.wrap (x2 - (1 : Int))))) (Wn.no rfl) rfl (R.sub rfl rfl) ?_
    refine LE.p (v := (Value.int .i64 (IntKind.i64.wrap (x1 + (1 : Int))))) (Wn.no rfl) rfl (R.assign rfl) ?_
    refine LE.p (v := (Value.int .i64 (IntKind.i64.wrap (x2 - (1 : Int))))) (Wn.no rfl) rfl (R.assign rfl) ?_
    refine LE.nil ?_
    obtain ⟨m9, hm10, h⟩ := h
    exact ⟨m9, hm10, _, _, h, f11, rfl, rfl⟩
  · intro hb14
    replace h := M.ite_f h hb14
    refine WE.exit ?_
    exact ⟨_,  Res.nil, rfl, h⟩
/-- The formula of slices.Reverse[[]signpost.api.Seg,signpost.api.Seg]. -/
def F72 (p0 : SV) (K : World → Prop) (w0 : World) : Prop :=
M.loop2 (fun (J3 : Int → Int → World → Prop) (x1 : Int) (x2 : Int) (w4 : World) => 
M.ite (decide (x1 < x2)) (
M.drew w4 fun w15 => 
M.idx p0 x2 2 fun a16 =>
M.idx p0 x1 2 fun a20 =>
M.ld (Value.int .i64) (a16.add (x2.toNat * 2)) w15 fun t24 =>
M.ld SV.v ((a16.add (x2.toNat * 2)).add 1) w15 fun t26 =>
M.ld (Value.int .i64) (a20.add (x1.toNat * 2)) w15 fun t28 =>
M.ld SV.v ((a20.add (x1.toNat * 2)).add 1) w15 fun t30 =>
M.idx p0 x1 2 fun a32 =>
M.stA (a32.add (x1.toNat * 2)) [(Value.int .i64 t24), (SV.v t26)] w15 fun w36 =>
M.idx p0 x2 2 fun a38 =>
M.stA (a38.add (x2.toNat * 2)) [(Value.int .i64 t28), (SV.v t30)] w36 fun w42 =>
J3 (IntKind.i64.wrap (x1 + (1 : Int))) (IntKind.i64.wrap (x2 - (1 : Int))) w42) (
K w4)) (0 : Int) (IntKind.i64.wrap ((p0.len : Int) - (1 : Int))) w0
theorem F72_ok {w0 : World} {p0 : SV} {K : World → Prop} (h : F72 p0 K w0) : Calls Try.prog 72 #[(SV.v p0)] w0 (R72 K) := by
  refine calls_of_WE (args := [(SV.v p0)]) (rs := []) Try.func72 rfl (N := 28) rfl rfl rfl rfl ?_
  refine WE.seq ?_
  refine WE.reg ?_
  refine LE.p (v := (SV.v p0)) (Wn.no rfl) rfl (R.move rfl) ?_
  refine LE.p (v := (Value.int .i64 (p0.len : Int))) (Wn.no rfl) rfl (R.len sl24 rfl) ?_
  refine LE.p (v := (Value.int .i64 (IntKind.i64.wrap ((p0.len : Int) - (1 : Int))))) (Wn.no rfl) rfl (R.sub rfl rfl) ?_
  refine LE.p (v := (Value.int .i64 (0 : Int))) (Wn.no rfl) rfl (R.assign rfl) ?_
  refine LE.p (v := (Value.int .i64 (IntKind.i64.wrap ((p0.len : Int) - (1 : Int))))) (Wn.no rfl) rfl (R.assign rfl) ?_
  refine LE.nil ?_
  refine WE.block ?_
  obtain ⟨I7, ⟨n6, h⟩, hr8⟩ := h
  refine WE.loop (fun n e w => ∃ (x1 : Int) (x2 : Int), I7 n x1 x2 w ∧ e 0 = (SV.v p0) ∧ e 2 = (Value.int .i64 x1) ∧ e 3 = (Value.int .i64 x2)) n6 ⟨_, _, h, rfl, rfl, rfl⟩ ?_
  clear h
  rintro n6 e5 w4 ⟨x1, x2, h, f11, f12, f13⟩
  replace h := hr8 n6 x1 x2 w4 h
  refine WE.seq ?_
  refine WE.seq ?_
  refine WE.reg ?_
  refine LE.p (v := (Value.int .i64 x1)) (Wn.no rfl) rfl (R.move f12) ?_
  refine LE.p (v := (Value.int .i64 x2)) (Wn.no rfl) rfl (R.move f13) ?_
  refine LE.p (v := (Value.bool (decide (x1 < x2)))) (Wn.no rfl) rfl (R.lss rfl rfl) ?_
  refine LE.nil ?_
  refine WE.condT rfl (b := (decide (x1 < x2))) rfl ?_ ?_
  · intro hb14
    replace h := M.ite_t h hb14
    refine WE.skip ?_
    refine WE.seq ?_
    refine WE.block ?_
    refine WE.draw mix ?_
    obtain ⟨w15, hww15, h⟩ := M.drew_use h
    rw [← hww15]
    clear hww15
    refine DE.t 0 (v := (SV.v p0)) rfl (by kernel_rfl) (Wn.no rfl) rfl (R.move f11) ?_
    refine DE.t 1 (v := (Value.int .i64 x1)) rfl (by kernel_rfl) (Wn.no rfl) rfl (R.move f12) ?_
    refine DE.t 2 (v := (SV.v p0)) rfl (by kernel_rfl) (Wn.no rfl) rfl (R.move f11) ?_
    refine DE.t 3 (v := (Value.int .i64 x2)) rfl (by kernel_rfl) (Wn.no rfl) rfl (R.move f13) ?_
    refine DE.t 4 (v := (SV.v p0)) rfl (by kernel_rfl) (Wn.no rfl) rfl (R.move f11) ?_
    refine DE.t 5 (v := (Value.int .i64 x2)) rfl (by kernel_rfl) (Wn.no rfl) rfl (R.move f13) ?_
    obtain ⟨a16, h17, h18, h19, h⟩ := h
    refine DE.t 6 (v := (Value.pointer (some (a16.add (x2.toNat * 2))))) rfl (by kernel_rfl) (Wn.no rfl) rfl (R.idx (s := p0) sl24 rfl rfl h17 h18 h19) ?_
    refine DE.t 8 (v := (SV.v p0)) rfl (by kernel_rfl) (Wn.no rfl) rfl (R.move f11) ?_
    refine DE.t 9 (v := (Value.int .i64 x1)) rfl (by kernel_rfl) (Wn.no rfl) rfl (R.move f12) ?_
    obtain ⟨a20, h21, h22, h23, h⟩ := h
    refine DE.t 10 (v := (Value.pointer (some (a20.add (x1.toNat * 2))))) rfl (by kernel_rfl) (Wn.no rfl) rfl (R.idx (s := p0) sl24 rfl rfl h21 h22 h23) ?_
    obtain ⟨t24, h25, h⟩ := h
    obtain ⟨t26, h27, h⟩ := h
    refine DE.hold 7 (fun w => w.cell? (a16.add (x2.toNat * 2)) = some (Value.int .i64 t24) ∧ w.cell? ((a16.add (x2.toNat * 2)).add 1) = some (SV.v t26)) (v := (Value.agg #[(Value.int .i64 t24), (SV.v t26)])) rfl (by kernel_rfl) (Wn.no rfl) rfl ⟨h25, h27⟩ (fun w hs => R.ldA ag27 sz27 rfl rfl (Cs.cons hs.1 (Cs.cons hs.2 Cs.nil))) ?_
    obtain ⟨t28, h29, h⟩ := h
    obtain ⟨t30, h31, h⟩ := h
    refine DE.main 11 (by kernel_rfl) ?_
    refine One.r 11 (v := (Value.agg #[(Value.int .i64 t28), (SV.v t30)])) rfl (Wn.no rfl) rfl (R.ldA ag27 sz27 rfl rfl (Cs.cons h29 (Cs.cons h31 Cs.nil))) (.inl rfl) ?_
    obtain ⟨a32, h33, h34, h35, h⟩ := h
    refine DE.t 12 (v := (Value.pointer (some (a32.add (x1.toNat * 2))))) rfl (by kernel_rfl) (Wn.no rfl) rfl (R.idx (s := p0) sl24 rfl rfl h33 h34 h35) ?_
    obtain ⟨w36, hww36, h37, h⟩ := M.stA_use h
    refine DE.main 13 (by kernel_rfl) ?_
    refine One.s 13 rfl (Wn.no rfl) rfl (R.stA (a := (a32.add (x1.toNat * 2))) [(Value.int .i64 t24), (SV.v t26)] sz27 rfl rfl rfl (by simp [Value.oneCell']) h37 hww36) ⟨aftT (by kernel_rfl), trivial⟩ ?_
    obtain ⟨a38, h39, h40, h41, h⟩ := h
    refine DE.t 14 (v := (Value.pointer (some (a38.add (x2.toNat * 2))))) rfl (by kernel_rfl) (Wn.no rfl) rfl (R.idx (s := p0) sl24 rfl rfl h39 h40 h41) ?_
    obtain ⟨w42, hww42, h43, h⟩ := M.stA_use h
    refine DE.main 15 (by kernel_rfl) ?_
    refine One.s 15 rfl (Wn.no rfl) rfl (R.stA (a := (a38.add (x2.toNat * 2))) [(Value.int .i64 t28), (SV.v t30)] sz27 rfl rfl rfl (by simp [Value.oneCell']) h43 hww42) ⟨aftT (by kernel_rfl), trivial⟩ ?_
    refine DE.done (by kernel_rfl) ?_
    refine WE.reg ?_
    refine LE.p (v := (Value.int .i64 x1)) (Wn.no rfl) rfl (R.move f12) ?_
    refine LE.p (v := (Value.int .i64 (IntKind.i64.wrap (x1 + (1 : Int))))) (Wn.no rfl) rfl (R.add rfl rfl) ?_
    refine LE.p (v := (Value.int .i64 x2)) (Wn.no rfl) rfl (R.move f13) ?_
    refine LE.p (v := (Value.int .i64 (IntKind.i64.wrap (x2 - (1 : Int))))) (Wn.no rfl) rfl (R.sub rfl rfl) ?_
    refine LE.p (v := (Value.int .i64 (IntKind.i64.wrap (x1 + (1 : Int))))) (Wn.no rfl) rfl (R.assign rfl) ?_
    refine LE.p (v := (Value.int .i64 (IntKind.i64.wrap (x2 - (1 : Int))))) (Wn.no rfl) rfl (R.assign rfl) ?_
    refine LE.nil ?_
    obtain ⟨m9, hm10, h⟩ := h
    exact ⟨m9, hm10, _, _, h, f11, rfl, rfl⟩
  · intro hb14
    replace h := M.ite_f h hb14
    refine WE.exit ?_
    exact ⟨_,  Res.nil, rfl, h⟩
/-- The formula of cmp.isNaN[int]. -/
def F73 (p0 : Int) (K : Bool → World → Prop) (w0 : World) : Prop :=
K (p0 != p0) w0
theorem F73_ok {w0 : World} {p0 : Int} {K : Bool → World → Prop} (h : F73 p0 K w0) : Calls Try.prog 73 #[(Value.int .i64 p0)] w0 (R73 K) := by
  refine calls_of_WE (args := [(Value.int .i64 p0)]) (rs := [.tmp 2]) Try.func73 rfl (N := 6) rfl rfl rfl rfl ?_
  refine WE.seq ?_
  refine WE.reg ?_
  refine LE.p (v := (Value.bool false)) (Wn.no rfl) rfl (R.assign rfl) ?_
  refine LE.nil ?_
  refine WE.seq ?_
  refine WE.reg ?_
  refine LE.p (v := (Value.int .i64 p0)) (Wn.no rfl) rfl (R.move rfl) ?_
  refine LE.p (v := (Value.int .i64 p0)) (Wn.no rfl) rfl (R.move rfl) ?_
  refine LE.p (v := (Value.bool (p0 != p0))) (Wn.no rfl) rfl (R.neq rfl rfl) ?_
  refine LE.p (v := (Value.bool (p0 != p0))) (Wn.no rfl) rfl (R.assign rfl) ?_
  refine LE.nil ?_
  refine WE.ret ?_
  exact ⟨_, (Res.tmp rfl Res.nil), _, rfl, h⟩
/-- The formula of cmp.Compare[uint32]. -/
def F74 (p0 : Int) (p1 : Int) (K : Int → World → Prop) (w0 : World) : Prop :=
Calls Try.prog 76 #[(Value.int .u32 p0)] w0 (R76 fun r1 w2 =>
Calls Try.prog 76 #[(Value.int .u32 p1)] w2 (R76 fun r3 w4 =>
M.ite r1 (
M.ite r3 (
K (0 : Int) w4) (
K (-1 : Int) w4)) (
M.ite r3 (
K (1 : Int) w4) (
M.ite (decide (p0 < p1)) (
K (-1 : Int) w4) (
M.ite (decide (p1 < p0)) (
K (1 : Int) w4) (
K (0 : Int) w4))))))
theorem F74_ok {w0 : World} {p0 : Int} {p1 : Int} {K : Int → World → Prop} (h : F74 p0 p1 K w0) : Calls Try.prog 74 #[(Value.int .u32 p0), (Value.int .u32 p1)] w0 (R74 K) := by
  refine calls_of_WE (args := [(Value.int .u32 p0), (Value.int .u32 p1)]) (rs := [.tmp 4]) Try.func74 rfl (N := 20) rfl rfl rfl rfl ?_
  refine WE.seq ?_
  refine WE.reg ?_
  refine LE.p (v := (Value.int .i64 (0 : Int))) (Wn.no rfl) rfl (R.assign rfl) ?_
  refine LE.nil ?_
  refine WE.seq ?_
  refine WE.reg ?_
  refine LE.p (v := (Value.int .u32 p0)) (Wn.no rfl) rfl (R.move rfl) ?_
  refine LE.c (Wn.no rfl) rfl (R.call bd76 (Ls.cons rfl Ls.nil) rfl) (Calls.mono h ?_)
  rintro _ w2 ⟨r1, rfl, h⟩
  refine ⟨_, rfl, ?_⟩
  refine LE.p (v := (Value.bool r1)) (Wn.no rfl) rfl (R.assign rfl) ?_
  refine LE.nil ?_
  refine WE.seq ?_
  refine WE.reg ?_
  refine LE.p (v := (Value.int .u32 p1)) (Wn.no rfl) rfl (R.move rfl) ?_
  refine LE.c (Wn.no rfl) rfl (R.call bd76 (Ls.cons rfl Ls.nil) rfl) (Calls.mono h ?_)
  rintro _ w4 ⟨r3, rfl, h⟩
  refine ⟨_, rfl, ?_⟩
  refine LE.p (v := (Value.bool r3)) (Wn.no rfl) rfl (R.assign rfl) ?_
  refine LE.nil ?_
  refine WE.seq ?_
  refine WE.seq ?_
  refine WE.reg ?_
  refine LE.p (v := (Value.bool r1)) (Wn.no rfl) rfl (R.move rfl) ?_
  refine LE.nil ?_
  refine WE.condT rfl (b := r1) rfl ?_ ?_
  · intro hb5
    replace h := M.ite_t h hb5
    refine WE.seq ?_
    refine WE.seq ?_
    refine WE.reg ?_
    refine LE.p (v := (Value.bool r3)) (Wn.no rfl) rfl (R.move rfl) ?_
    refine LE.nil ?_
    refine WE.condT rfl (b := r3) rfl ?_ ?_
    · intro hb6
      replace h := M.ite_t h hb6
      refine WE.seq ?_
      refine WE.reg ?_
      refine LE.p (v := (Value.int .i64 (0 : Int))) (Wn.no rfl) rfl (R.assign rfl) ?_
      refine LE.nil ?_
      refine WE.ret ?_
      exact ⟨_, (Res.tmp rfl Res.nil), _, rfl, h⟩
    · intro hb6
      replace h := M.ite_f h hb6
      refine WE.skip ?_
      refine WE.seq ?_
      refine WE.reg ?_
      refine LE.p (v := (Value.int .i64 (-1 : Int))) (Wn.no rfl) rfl (R.assign rfl) ?_
      refine LE.nil ?_
      refine WE.ret ?_
      exact ⟨_, (Res.tmp rfl Res.nil), _, rfl, h⟩
  · intro hb5
    replace h := M.ite_f h hb5
    refine WE.skip ?_
    refine WE.seq ?_
    refine WE.seq ?_
    refine WE.reg ?_
    refine LE.p (v := (Value.bool r3)) (Wn.no rfl) rfl (R.move rfl) ?_
    refine LE.nil ?_
    refine WE.condT rfl (b := r3) rfl ?_ ?_
    · intro hb7
      replace h := M.ite_t h hb7
      refine WE.seq ?_
      refine WE.reg ?_
      refine LE.p (v := (Value.int .i64 (1 : Int))) (Wn.no rfl) rfl (R.assign rfl) ?_
      refine LE.nil ?_
      refine WE.ret ?_
      exact ⟨_, (Res.tmp rfl Res.nil), _, rfl, h⟩
    · intro hb7
      replace h := M.ite_f h hb7
      refine WE.skip ?_
      refine WE.seq ?_
      refine WE.seq ?_
      refine WE.reg ?_
      refine LE.p (v := (Value.int .u32 p0)) (Wn.no rfl) rfl (R.move rfl) ?_
      refine LE.p (v := (Value.int .u32 p1)) (Wn.no rfl) rfl (R.move rfl) ?_
      refine LE.p (v := (Value.bool (decide (p0 < p1)))) (Wn.no rfl) rfl (R.lss rfl rfl) ?_
      refine LE.nil ?_
      refine WE.condT rfl (b := (decide (p0 < p1))) rfl ?_ ?_
      · intro hb8
        replace h := M.ite_t h hb8
        refine WE.seq ?_
        refine WE.reg ?_
        refine LE.p (v := (Value.int .i64 (-1 : Int))) (Wn.no rfl) rfl (R.assign rfl) ?_
        refine LE.nil ?_
        refine WE.ret ?_
        exact ⟨_, (Res.tmp rfl Res.nil), _, rfl, h⟩
      · intro hb8
        replace h := M.ite_f h hb8
        refine WE.skip ?_
        refine WE.seq ?_
        refine WE.seq ?_
        refine WE.reg ?_
        refine LE.p (v := (Value.int .u32 p0)) (Wn.no rfl) rfl (R.move rfl) ?_
        refine LE.p (v := (Value.int .u32 p1)) (Wn.no rfl) rfl (R.move rfl) ?_
        refine LE.p (v := (Value.bool (decide (p1 < p0)))) (Wn.no rfl) rfl (R.gtr rfl rfl) ?_
        refine LE.nil ?_
        refine WE.condT rfl (b := (decide (p1 < p0))) rfl ?_ ?_
        · intro hb9
          replace h := M.ite_t h hb9
          refine WE.seq ?_
          refine WE.reg ?_
          refine LE.p (v := (Value.int .i64 (1 : Int))) (Wn.no rfl) rfl (R.assign rfl) ?_
          refine LE.nil ?_
          refine WE.ret ?_
          exact ⟨_, (Res.tmp rfl Res.nil), _, rfl, h⟩
        · intro hb9
          replace h := M.ite_f h hb9
          refine WE.skip ?_
          refine WE.seq ?_
          refine WE.reg ?_
          refine LE.p (v := (Value.int .i64 (0 : Int))) (Wn.no rfl) rfl (R.assign rfl) ?_
          refine LE.nil ?_
          refine WE.ret ?_
          exact ⟨_, (Res.tmp rfl Res.nil), _, rfl, h⟩
/-- The formula of (*signpost.signpostref4.Reader).Raw. -/
def F75 (p0 : Option Addr) (p1 : Int) (K : SV → World → Prop) (w0 : World) : Prop :=
M.join (fun (x2 : Bool) (w9 : World) => 
M.ite x2 (
K SV.nil w9) (
M.drew w9 fun w14 => 
M.nil p0 fun a15 =>
M.nil p0 fun a17 =>
M.ld SV.v a15 w14 fun t19 =>
M.ld (Value.int .i64) (a17.add 1) w14 fun t21 =>
M.ite (decide ((IntKind.i64.wrap ((t19.len : Int) - t21)) < p1)) (
M.nil p0 fun a24 =>
M.st (a24.add 2) (Value.bool true) w14 fun w26 =>
K SV.nil w26) (
M.drew w14 fun w29 => 
M.nil p0 fun a30 =>
M.nil p0 fun a32 =>
M.nil p0 fun a34 =>
M.ld SV.v a30 w29 fun t36 =>
M.ld (Value.int .i64) (a32.add 1) w29 fun t38 =>
M.ld (Value.int .i64) (a34.add 1) w29 fun t40 =>
M.bnd t38 (IntKind.i64.wrap (t40 + p1)) t36 <|
M.new (.cells #[] 5) w29 fun b48 w46 =>
M.keep (w46.cell? (a34.add 1) = some (Value.int .i64 t40)) <|
M.keep (w46.cell? (a32.add 1) = some (Value.int .i64 t38)) <|
M.keep (w46.cell? a30 = some (SV.v t36)) <|
M.app Try.prog 40 40 40 (SV.mk (some b48) 0 0) (SV.v (SV.sub t36 (Int.toNat t38) (Int.toNat (IntKind.i64.wrap (t40 + p1))) 1)) w46 fun s52 w53 =>
M.nil p0 fun a55 =>
M.ld (Value.int .i64) (a55.add 1) w53 fun t57 =>
M.nil p0 fun a59 =>
M.st (a59.add 1) (Value.int .i64 (IntKind.i64.wrap (t57 + p1))) w53 fun w61 =>
K s52 w61))) fun J1 => 
M.nil p0 fun a3 =>
M.ld Value.bool (a3.add 2) w0 fun t5 =>
M.ite t5 (
J1 true w0) (
J1 (decide (p1 < (1 : Int))) w0)
theorem F75_ok {w0 : World} {p0 : Option Addr} {p1 : Int} {K : SV → World → Prop} (h : F75 p0 p1 K w0) : Calls Try.prog 75 #[(Value.pointer p0), (Value.int .i64 p1)] w0 (R75 K) := by
  refine calls_of_WE (args := [(Value.pointer p0), (Value.int .i64 p1)]) (rs := [.tmp 4]) Try.func75 rfl (N := 56) rfl rfl rfl rfl ?_
  refine WE.seq ?_
  refine WE.reg ?_
  refine LE.p (v := (SV.v SV.nil)) (Wn.no rfl) rfl (R.assign rfl) ?_
  refine LE.nil ?_
  refine WE.seq ?_
  refine WE.seq ?_
  obtain ⟨J1, hJ1, h⟩ := M.join_use h
  refine WE.regJ (fun e w => ∃ (x2 : Bool), J1 x2 w ∧ e 0 = (Value.pointer p0) ∧ e 1 = (Value.int .i64 p1) ∧ e 13 = (Value.bool x2)) ?_ ?_
  · clear hJ1
    refine LE.p (v := (Value.pointer p0)) (Wn.no rfl) rfl (R.move rfl) ?_
    obtain ⟨a3, h4, h⟩ := h
    refine LE.p (v := (Value.pointer (some a3))) (Wn.no rfl) rfl (R.nilC (congrArg Value.pointer h4)) ?_
    refine LE.p (v := (Value.pointer (some (a3.add 2)))) (Wn.no rfl) rfl (R.fld (off := 2) fa85_2 rfl) ?_
    obtain ⟨t5, h6, h⟩ := h
    refine LE.r (v := (Value.bool t5)) (Wn.no rfl) rfl (R.ld sc4 rfl h6) ?_
    refine LE.p (v := (Value.bool t5)) (Wn.no rfl) rfl (R.move rfl) ?_
    rcases M.ite_use h with ⟨hb7, h⟩ | ⟨hb7, h⟩
    · refine LE.u (Un.no 4 10 false rfl rfl rfl (congrArg Value.bool hb7)) ?_
      refine LE.u (Un.no 4 10 false rfl rfl rfl (congrArg Value.bool hb7)) ?_
      refine LE.p (v := (Value.bool true)) (Wn.no rfl) rfl (R.pickT (congrArg Value.bool hb7) rfl) ?_
      refine LE.nil ?_
      exact ⟨_, h, rfl, rfl, rfl⟩
    · refine LE.p (v := (Value.int .i64 p1)) (Wn.yes 4 10 false rfl rfl rfl (congrArg Value.bool hb7)) rfl (R.move rfl) ?_
      refine LE.p (v := (Value.bool (decide (p1 < (1 : Int))))) (Wn.yes 4 10 false rfl rfl rfl (congrArg Value.bool hb7)) rfl (R.lss rfl rfl) ?_
      refine LE.p (v := (Value.bool (decide (p1 < (1 : Int))))) (Wn.no rfl) rfl (R.pickF (congrArg Value.bool hb7) rfl) ?_
      refine LE.nil ?_
      exact ⟨_, h, rfl, rfl, rfl⟩
  · rintro e8 w9 ⟨x2, h, f10, f11, f12⟩
    subst hJ1
    refine WE.condT rfl (b := x2) f12 ?_ ?_
    · intro hb13
      replace h := M.ite_t h hb13
      refine WE.seq ?_
      refine WE.reg ?_
      refine LE.p (v := (SV.v SV.nil)) (Wn.no rfl) rfl (R.assign rfl) ?_
      refine LE.nil ?_
      refine WE.ret ?_
      exact ⟨_, (Res.tmp rfl Res.nil), _, rfl, h⟩
    · intro hb13
      replace h := M.ite_f h hb13
      refine WE.skip ?_
      refine WE.seq ?_
      refine WE.seq ?_
      refine WE.draw mix ?_
      obtain ⟨w14, hww14, h⟩ := M.drew_use h
      rw [← hww14]
      clear hww14
      refine DE.t 0 (v := (Value.pointer p0)) rfl (by kernel_rfl) (Wn.no rfl) rfl (R.move f10) ?_
      obtain ⟨a15, h16, h⟩ := h
      refine DE.t 1 (v := (Value.pointer (some a15))) rfl (by kernel_rfl) (Wn.no rfl) rfl (R.nilC (congrArg Value.pointer h16)) ?_
      refine DE.t 2 (v := (Value.pointer (some a15))) rfl (by kernel_rfl) (Wn.no rfl) rfl (R.fld (off := 0) fa85_0 rfl) ?_
      refine DE.t 5 (v := (Value.pointer p0)) rfl (by kernel_rfl) (Wn.no rfl) rfl (R.move f10) ?_
      obtain ⟨a17, h18, h⟩ := h
      refine DE.t 6 (v := (Value.pointer (some a17))) rfl (by kernel_rfl) (Wn.no rfl) rfl (R.nilC (congrArg Value.pointer h18)) ?_
      refine DE.t 7 (v := (Value.pointer (some (a17.add 1)))) rfl (by kernel_rfl) (Wn.no rfl) rfl (R.fld (off := 1) fa85_1 rfl) ?_
      refine DE.t 10 (v := (Value.int .i64 p1)) rfl (by kernel_rfl) (Wn.no rfl) rfl (R.move f11) ?_
      obtain ⟨t19, h20, h⟩ := h
      refine DE.hold 3 (fun w => w.cell? a15 = some (SV.v t19)) (v := (SV.v t19)) rfl (by kernel_rfl) (Wn.no rfl) rfl h20 (fun w hs => R.ld sc40 rfl hs) ?_
      refine DE.t 4 (v := (Value.int .i64 (t19.len : Int))) rfl (by kernel_rfl) (Wn.no rfl) rfl (R.len sl40 rfl) ?_
      obtain ⟨t21, h22, h⟩ := h
      refine DE.main 8 (by kernel_rfl) ?_
      refine One.r 8 (v := (Value.int .i64 t21)) rfl (Wn.no rfl) rfl (R.ld sc3 rfl h22) (.inl rfl) ?_
      refine DE.t 9 (v := (Value.int .i64 (IntKind.i64.wrap ((t19.len : Int) - t21)))) rfl (by kernel_rfl) (Wn.no rfl) rfl (R.sub rfl rfl) ?_
      refine DE.t 11 (v := (Value.bool (decide ((IntKind.i64.wrap ((t19.len : Int) - t21)) < p1)))) rfl (by kernel_rfl) (Wn.no rfl) rfl (R.lss rfl rfl) ?_
      refine DE.done (by kernel_rfl) ?_
      refine WE.condT rfl (b := (decide ((IntKind.i64.wrap ((t19.len : Int) - t21)) < p1))) rfl ?_ ?_
      · intro hb23
        replace h := M.ite_t h hb23
        refine WE.seq ?_
        refine WE.reg ?_
        refine LE.p (v := (Value.pointer p0)) (Wn.no rfl) rfl (R.move f10) ?_
        obtain ⟨a24, h25, h⟩ := h
        refine LE.p (v := (Value.pointer (some a24))) (Wn.no rfl) rfl (R.nilC (congrArg Value.pointer h25)) ?_
        refine LE.p (v := (Value.pointer (some (a24.add 2)))) (Wn.no rfl) rfl (R.fld (off := 2) fa85_2 rfl) ?_
        obtain ⟨w26, hww26, h27, h28, h⟩ := M.st_use h
        refine LE.s (Wn.no rfl) rfl (R.st (a := (a24.add 2)) (v := (Value.bool true)) sz4 rfl rfl rfl rfl h27 h28 hww26) ?_
        refine LE.nil ?_
        refine WE.seq ?_
        refine WE.reg ?_
        refine LE.p (v := (SV.v SV.nil)) (Wn.no rfl) rfl (R.assign rfl) ?_
        refine LE.nil ?_
        refine WE.ret ?_
        exact ⟨_, (Res.tmp rfl Res.nil), _, rfl, h⟩
      · intro hb23
        replace h := M.ite_f h hb23
        refine WE.skip ?_
        refine WE.seq ?_
        refine WE.draw mix ?_
        obtain ⟨w29, hww29, h⟩ := M.drew_use h
        rw [← hww29]
        clear hww29
        refine DE.t 1 (v := (Value.pointer p0)) rfl (by kernel_rfl) (Wn.no rfl) rfl (R.move f10) ?_
        obtain ⟨a30, h31, h⟩ := h
        refine DE.t 2 (v := (Value.pointer (some a30))) rfl (by kernel_rfl) (Wn.no rfl) rfl (R.nilC (congrArg Value.pointer h31)) ?_
        refine DE.t 3 (v := (Value.pointer (some a30))) rfl (by kernel_rfl) (Wn.no rfl) rfl (R.fld (off := 0) fa85_0 rfl) ?_
        refine DE.t 5 (v := (Value.pointer p0)) rfl (by kernel_rfl) (Wn.no rfl) rfl (R.move f10) ?_
        obtain ⟨a32, h33, h⟩ := h
        refine DE.t 6 (v := (Value.pointer (some a32))) rfl (by kernel_rfl) (Wn.no rfl) rfl (R.nilC (congrArg Value.pointer h33)) ?_
        refine DE.t 7 (v := (Value.pointer (some (a32.add 1)))) rfl (by kernel_rfl) (Wn.no rfl) rfl (R.fld (off := 1) fa85_1 rfl) ?_
        refine DE.t 9 (v := (Value.pointer p0)) rfl (by kernel_rfl) (Wn.no rfl) rfl (R.move f10) ?_
        obtain ⟨a34, h35, h⟩ := h
        refine DE.t 10 (v := (Value.pointer (some a34))) rfl (by kernel_rfl) (Wn.no rfl) rfl (R.nilC (congrArg Value.pointer h35)) ?_
        refine DE.t 11 (v := (Value.pointer (some (a34.add 1)))) rfl (by kernel_rfl) (Wn.no rfl) rfl (R.fld (off := 1) fa85_1 rfl) ?_
        refine DE.t 13 (v := (Value.int .i64 p1)) rfl (by kernel_rfl) (Wn.no rfl) rfl (R.move f11) ?_
        obtain ⟨t36, h37, h⟩ := h
        refine DE.hold 4 (fun w => w.cell? a30 = some (SV.v t36)) (v := (SV.v t36)) rfl (by kernel_rfl) (Wn.no rfl) rfl h37 (fun w hs => R.ld sc40 rfl hs) ?_
        obtain ⟨t38, h39, h⟩ := h
        refine DE.hold 8 (fun w => w.cell? (a32.add 1) = some (Value.int .i64 t38)) (v := (Value.int .i64 t38)) rfl (by kernel_rfl) (Wn.no rfl) rfl h39 (fun w hs => R.ld sc3 rfl hs) ?_
        obtain ⟨t40, h41, h⟩ := h
        refine DE.hold 12 (fun w => w.cell? (a34.add 1) = some (Value.int .i64 t40)) (v := (Value.int .i64 t40)) rfl (by kernel_rfl) (Wn.no rfl) rfl h41 (fun w hs => R.ld sc3 rfl hs) ?_
        refine DE.t 14 (v := (Value.int .i64 (IntKind.i64.wrap (t40 + p1)))) rfl (by kernel_rfl) (Wn.no rfl) rfl (R.add rfl rfl) ?_
        obtain ⟨h42, h43, h44, h⟩ := h
        refine DE.t 15 (v := (SV.v (SV.sub t36 (Int.toNat t38) (Int.toNat (IntKind.i64.wrap (t40 + p1))) 1))) rfl (by kernel_rfl) (Wn.no rfl) rfl (R.slc (s := t36) (lo := t38) (hi := (IntKind.i64.wrap (t40 + p1))) _ _ sl40 rfl rfl rfl h42 h43 h44) ?_
        obtain ⟨b48, hpb48, w46, hww46, h⟩ := M.new_use h
        obtain ⟨k49, h⟩ := h
        obtain ⟨k50, h⟩ := h
        obtain ⟨k51, h⟩ := h
        refine DE.main 0 (by kernel_rfl) ?_
        refine One.r 0 (v := (SV.v (SV.mk (some b48) 0 0))) rfl (Wn.no rfl) rfl (R.bsl (by exact Ls.nil) (fun w => bs40_0  w) hpb48 hww46) (.inr ⟨fun _ => k49, fun _ => k50, fun _ => k51, trivial⟩) ?_
        obtain ⟨s52, w53, h54, h⟩ := h
        refine DE.main 16 (by kernel_rfl) ?_
        refine One.r 16 (v := (SV.v s52)) rfl (Wn.no rfl) rfl (R.app (s := (SV.mk (some b48) 0 0)) (r := s52) rfl rfl h54) (.inr ⟨aftT (by kernel_rfl), aftT (by kernel_rfl), aftT (by kernel_rfl), trivial⟩) ?_
        refine DE.t 17 (v := (SV.v s52)) rfl (by kernel_rfl) (Wn.no rfl) rfl (R.assign rfl) ?_
        refine DE.done (by kernel_rfl) ?_
        refine WE.seq ?_
        refine WE.reg ?_
        refine LE.p (v := (Value.pointer p0)) (Wn.no rfl) rfl (R.move f10) ?_
        refine LE.p (v := (Value.pointer p0)) (Wn.no rfl) rfl (R.move f10) ?_
        obtain ⟨a55, h56, h⟩ := h
        refine LE.p (v := (Value.pointer (some a55))) (Wn.no rfl) rfl (R.nilC (congrArg Value.pointer h56)) ?_
        refine LE.p (v := (Value.pointer (some (a55.add 1)))) (Wn.no rfl) rfl (R.fld (off := 1) fa85_1 rfl) ?_
        obtain ⟨t57, h58, h⟩ := h
        refine LE.r (v := (Value.int .i64 t57)) (Wn.no rfl) rfl (R.ld sc3 rfl h58) ?_
        refine LE.p (v := (Value.int .i64 p1)) (Wn.no rfl) rfl (R.move f11) ?_
        refine LE.p (v := (Value.int .i64 (IntKind.i64.wrap (t57 + p1)))) (Wn.no rfl) rfl (R.add rfl rfl) ?_
        obtain ⟨a59, h60, h⟩ := h
        refine LE.p (v := (Value.pointer (some a59))) (Wn.no rfl) rfl (R.nilC (congrArg Value.pointer h60)) ?_
        refine LE.p (v := (Value.pointer (some (a59.add 1)))) (Wn.no rfl) rfl (R.fld (off := 1) fa85_1 rfl) ?_
        obtain ⟨w61, hww61, h62, h63, h⟩ := M.st_use h
        refine LE.s (Wn.no rfl) rfl (R.st (a := (a59.add 1)) (v := (Value.int .i64 (IntKind.i64.wrap (t57 + p1)))) sz3 rfl rfl rfl rfl h62 h63 hww61) ?_
        refine LE.nil ?_
        refine WE.seq ?_
        refine WE.reg ?_
        refine LE.p (v := (SV.v s52)) (Wn.no rfl) rfl (R.move rfl) ?_
        refine LE.p (v := (SV.v s52)) (Wn.no rfl) rfl (R.assign rfl) ?_
        refine LE.nil ?_
        refine WE.ret ?_
        exact ⟨_, (Res.tmp rfl Res.nil), _, rfl, h⟩
/-- The formula of cmp.isNaN[uint32]. -/
def F76 (p0 : Int) (K : Bool → World → Prop) (w0 : World) : Prop :=
K (p0 != p0) w0
theorem F76_ok {w0 : World} {p0 : Int} {K : Bool → World → Prop} (h : F76 p0 K w0) : Calls Try.prog 76 #[(Value.int .u32 p0)] w0 (R76 K) := by
  refine calls_of_WE (args := [(Value.int .u32 p0)]) (rs := [.tmp 2]) Try.func76 rfl (N := 6) rfl rfl rfl rfl ?_
  refine WE.seq ?_
  refine WE.reg ?_
  refine LE.p (v := (Value.bool false)) (Wn.no rfl) rfl (R.assign rfl) ?_
  refine LE.nil ?_
  refine WE.seq ?_
  refine WE.reg ?_
  refine LE.p (v := (Value.int .u32 p0)) (Wn.no rfl) rfl (R.move rfl) ?_
  refine LE.p (v := (Value.int .u32 p0)) (Wn.no rfl) rfl (R.move rfl) ?_
  refine LE.p (v := (Value.bool (p0 != p0))) (Wn.no rfl) rfl (R.neq rfl rfl) ?_
  refine LE.p (v := (Value.bool (p0 != p0))) (Wn.no rfl) rfl (R.assign rfl) ?_
  refine LE.nil ?_
  refine WE.ret ?_
  exact ⟨_, (Res.tmp rfl Res.nil), _, rfl, h⟩
end Go.Proofs.Ytflffabmfoldeaa
