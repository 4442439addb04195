/-
  Printed by gen.py: the formula of each function, and that it holds of the function.
-/
import Derived.Test.YtkbfpjkikjmmeaaTy
namespace Go.Proofs.Ytkbfpjkikjmmeaa
set_option linter.unusedVariables false
set_option linter.unusedSimpArgs false
open Go.Sp
set_option linter.unusedVariables false
/-- The formula of signpost.signpostlaw2.MetricShares. -/
def F3 (p0 : SV) (p1 : Int) (K : Bool → World → Prop) (w0 : World) : Prop :=
M.join (fun (x2 : SV) (w9 : World) => 
Calls Try.prog 10 #[(Value.int .i64 p1), (Value.int .i64 (1 : Int)), (Value.int .i64 (1000 : Int))] w9 (R10 fun r12 w13 =>
Calls Try.prog 11 #[(SV.v x2), (Value.int .i64 r12)] w13 (R11 fun r14 w15 =>
M.ite ((r14.len : Int) != (x2.len : Int)) (
K false w15) (
M.loop3 (fun (J20 : Int → Bool → Int → World → Prop) (x17 : Int) (x18 : Bool) (x19 : Int) (w21 : World) => 
M.ite (decide (x19 < (x2.len : Int))) (
M.idx r14 x19 1 fun a35 =>
M.ld (Value.int .i64) (a35.add (x19.toNat * 1)) w21 fun t39 =>
M.join (fun (x42 : Bool) (w51 : World) => 
M.join (fun (x59 : Bool) (w81 : World) => 
M.ite x59 (
K false w81) (
M.loop1 (fun (J91 : Int → World → Prop) (x90 : Int) (w92 : World) => 
M.ite (decide (x90 < x19)) (
M.join (fun (x108 : Bool) (w149 : World) => 
M.ite x108 (
K false w149) (
J91 (IntKind.i64.wrap (x90 + (1 : Int))) w149)) fun J107 => 
M.drew w92 fun w109 => 
M.idx x2 x19 1 fun a110 =>
M.idx x2 x90 1 fun a114 =>
M.ld (Value.float .f64) (a110.add (x19.toNat * 1)) w109 fun t118 =>
M.ld (Value.float .f64) (a114.add (x90.toNat * 1)) w109 fun t120 =>
M.ite (fEql t118 t120) (
M.idx r14 x90 1 fun a123 =>
M.idx r14 x19 1 fun a127 =>
M.ld (Value.int .i64) (a123.add (x90.toNat * 1)) w109 fun t131 =>
M.ld (Value.int .i64) (a127.add (x19.toNat * 1)) w109 fun t133 =>
M.ite (decide (t131 < t133)) (
J107 true w109) (
M.idx r14 x90 1 fun a136 =>
M.idx r14 x19 1 fun a140 =>
M.ld (Value.int .i64) (a136.add (x90.toNat * 1)) w109 fun t144 =>
M.ld (Value.int .i64) (a140.add (x19.toNat * 1)) w109 fun t146 =>
J107 (decide ((1 : Int) < (IntKind.i64.wrap (t144 - t146)))) w109)) (
J107 false w109)) (
J20 (IntKind.i64.wrap (x17 + t39)) x42 (IntKind.i64.wrap (x19 + (1 : Int))) w92)) (0 : Int) w81)) fun J58 => 
M.idx r14 x19 1 fun a60 =>
M.ld (Value.int .i64) (a60.add (x19.toNat * 1)) w51 fun t64 =>
M.ite (decide (t64 < (0 : Int))) (
J58 true w51) (
M.idx x2 x19 1 fun a67 =>
M.ld (Value.float .f64) (a67.add (x19.toNat * 1)) w51 fun t71 =>
M.ite (!(fGtr t71 (0 : Nat))) (
M.idx r14 x19 1 fun a74 =>
M.ld (Value.int .i64) (a74.add (x19.toNat * 1)) w51 fun t78 =>
J58 (t78 != (0 : Int)) w51) (
J58 false w51))) fun J41 => 
M.ite x18 (
J41 true w21) (
M.idx x2 x19 1 fun a44 =>
M.ld (Value.float .f64) (a44.add (x19.toNat * 1)) w21 fun t48 =>
J41 (fGtr t48 (0 : Nat)) w21)) (
M.join (fun (x160 : Bool) (w169 : World) => 
K x160 w169) fun J159 => 
M.ite ((x17 == r12) == x18) (
M.ite x18 (
Calls Try.prog 12 #[] w21 (R12 fun r163 w164 =>
J159 r163 w164)) (
M.ite (x17 == (0 : Int)) (
Calls Try.prog 12 #[] w21 (R12 fun r166 w167 =>
J159 r166 w167)) (
J159 false w21))) (
J159 false w21))) (0 : Int) false (0 : Int) w15)))) fun J1 => 
M.ite (decide ((30 : Int) < (p0.len : Int))) (
M.bnd (0 : Int) (30 : Int) p0 <|
J1 (SV.sub p0 (Int.toNat (0 : Int)) (Int.toNat (30 : Int)) 1) w0) (
J1 p0 w0)
theorem F3_ok {w0 : World} {p0 : SV} {p1 : Int} {K : Bool → World → Prop} (h : F3 p0 p1 K w0) : Calls Try.prog 3 #[(SV.v p0), (Value.int .i64 p1)] w0 (R3 K) := by
  refine calls_of_WE (args := [(SV.v p0), (Value.int .i64 p1)]) (rs := [.tmp 4]) Try.func3 rfl (N := 118) rfl rfl rfl rfl ?_
  refine WE.seq ?_
  refine WE.reg ?_
  refine LE.p (v := (Value.bool false)) (Wn.no rfl) rfl (R.assign rfl) ?_
  refine LE.nil ?_
  obtain ⟨J1, hJ1, h⟩ := M.join_use h
  refine WE.join (fun e w => ∃ (x2 : SV), J1 x2 w ∧ e 0 = (SV.v x2) ∧ e 1 = (Value.int .i64 p1)) ?_ ?_
  · clear hJ1
    refine WE.seq ?_
    refine WE.reg ?_
    refine LE.p (v := (SV.v p0)) (Wn.no rfl) rfl (R.move rfl) ?_
    refine LE.p (v := (Value.int .i64 (p0.len : Int))) (Wn.no rfl) rfl (R.len sl22 rfl) ?_
    refine LE.p (v := (Value.bool (decide ((30 : Int) < (p0.len : Int))))) (Wn.no rfl) rfl (R.gtr rfl rfl) ?_
    refine LE.nil ?_
    refine WE.condT rfl (b := (decide ((30 : Int) < (p0.len : Int)))) rfl ?_ ?_
    · intro hb3
      replace h := M.ite_t h hb3
      refine WE.reg ?_
      refine LE.p (v := (SV.v p0)) (Wn.no rfl) rfl (R.move rfl) ?_
      obtain ⟨h4, h5, h6, h⟩ := h
      refine LE.p (v := (SV.v (SV.sub p0 (Int.toNat (0 : Int)) (Int.toNat (30 : Int)) 1))) (Wn.no rfl) rfl (R.slc (s := p0) (lo := (0 : Int)) (hi := (30 : Int)) _ _ sl22 rfl rfl rfl h4 h5 h6) ?_
      refine LE.p (v := (SV.v (SV.sub p0 (Int.toNat (0 : Int)) (Int.toNat (30 : Int)) 1))) (Wn.no rfl) rfl (R.assign rfl) ?_
      refine LE.nil ?_
      exact ⟨_, h, rfl, rfl⟩
    · intro hb3
      replace h := M.ite_f h hb3
      refine WE.skip ?_
      exact ⟨_, h, rfl, rfl⟩
  · rintro e8 w9 ⟨x2, h, f10, f11⟩
    subst hJ1
    refine WE.seq ?_
    refine WE.reg ?_
    refine LE.p (v := (Value.int .i64 p1)) (Wn.no rfl) rfl (R.move f11) ?_
    refine LE.c (Wn.no rfl) rfl (R.call bd10 (Ls.cons rfl (Ls.cons rfl (Ls.cons rfl Ls.nil))) rfl) (Calls.mono h ?_)
    rintro _ w13 ⟨r12, rfl, h⟩
    refine ⟨_, rfl, ?_⟩
    refine LE.p (v := (Value.int .i64 r12)) (Wn.no rfl) rfl (R.assign rfl) ?_
    refine LE.nil ?_
    refine WE.seq ?_
    refine WE.reg ?_
    refine LE.p (v := (SV.v x2)) (Wn.no rfl) rfl (R.move f10) ?_
    refine LE.p (v := (Value.int .i64 r12)) (Wn.no rfl) rfl (R.move rfl) ?_
    refine LE.c (Wn.no rfl) rfl (R.call bd11 (Ls.cons rfl (Ls.cons rfl Ls.nil)) rfl) (Calls.mono h ?_)
    rintro _ w15 ⟨r14, rfl, h⟩
    refine ⟨_, rfl, ?_⟩
    refine LE.p (v := (SV.v r14)) (Wn.no rfl) rfl (R.assign rfl) ?_
    refine LE.nil ?_
    refine WE.seq ?_
    refine WE.seq ?_
    refine WE.reg ?_
    refine LE.p (v := (SV.v r14)) (Wn.no rfl) rfl (R.move rfl) ?_
    refine LE.p (v := (Value.int .i64 (r14.len : Int))) (Wn.no rfl) rfl (R.len sl24 rfl) ?_
    refine LE.p (v := (SV.v x2)) (Wn.no rfl) rfl (R.move f10) ?_
    refine LE.p (v := (Value.int .i64 (x2.len : Int))) (Wn.no rfl) rfl (R.len sl22 rfl) ?_
    refine LE.p (v := (Value.bool ((r14.len : Int) != (x2.len : Int)))) (Wn.no rfl) rfl (R.neq rfl rfl) ?_
    refine LE.nil ?_
    refine WE.condT rfl (b := ((r14.len : Int) != (x2.len : Int))) rfl ?_ ?_
    · intro hb16
      replace h := M.ite_t h hb16
      refine WE.seq ?_
      refine WE.reg ?_
      refine LE.p (v := (Value.bool false)) (Wn.no rfl) rfl (R.assign rfl) ?_
      refine LE.nil ?_
      refine WE.ret ?_
      exact ⟨_, (Res.tmp rfl Res.nil), _, rfl, h⟩
    · intro hb16
      replace h := M.ite_f h hb16
      refine WE.skip ?_
      refine WE.seq ?_
      refine WE.reg ?_
      refine LE.p (v := (Value.int .i64 (0 : Int))) (Wn.no rfl) rfl (R.assign rfl) ?_
      refine LE.p (v := (Value.bool false)) (Wn.no rfl) rfl (R.assign rfl) ?_
      refine LE.nil ?_
      refine WE.seq ?_
      refine WE.seq ?_
      refine WE.reg ?_
      refine LE.p (v := (Value.int .i64 (0 : Int))) (Wn.no rfl) rfl (R.assign rfl) ?_
      refine LE.nil ?_
      refine WE.block ?_
      obtain ⟨I24, ⟨n23, h⟩, hr25⟩ := h
      refine WE.loop (fun n e w => ∃ (x17 : Int) (x18 : Bool) (x19 : Int), I24 n x17 x18 x19 w ∧ e 0 = (SV.v x2) ∧ e 5 = (Value.int .i64 r12) ∧ e 6 = (SV.v r14) ∧ e 7 = (Value.int .i64 x17) ∧ e 8 = (Value.bool x18) ∧ e 9 = (Value.int .i64 x19)) n23 ⟨_, _, _, h, f10, rfl, rfl, rfl, rfl, rfl⟩ ?_
      clear h
      rintro n23 e22 w21 ⟨x17, x18, x19, h, f28, f29, f30, f31, f32, f33⟩
      replace h := hr25 n23 x17 x18 x19 w21 h
      refine WE.seq ?_
      refine WE.seq ?_
      refine WE.reg ?_
      refine LE.p (v := (Value.int .i64 x19)) (Wn.no rfl) rfl (R.move f33) ?_
      refine LE.p (v := (SV.v x2)) (Wn.no rfl) rfl (R.move f28) ?_
      refine LE.p (v := (Value.int .i64 (x2.len : Int))) (Wn.no rfl) rfl (R.len sl22 rfl) ?_
      refine LE.p (v := (Value.bool (decide (x19 < (x2.len : Int))))) (Wn.no rfl) rfl (R.lss rfl rfl) ?_
      refine LE.nil ?_
      refine WE.condT rfl (b := (decide (x19 < (x2.len : Int)))) rfl ?_ ?_
      · intro hb34
        replace h := M.ite_t h hb34
        refine WE.skip ?_
        refine WE.seq ?_
        refine WE.block ?_
        refine WE.seq ?_
        refine WE.reg ?_
        refine LE.p (v := (Value.int .i64 x17)) (Wn.no rfl) rfl (R.move f31) ?_
        refine LE.p (v := (SV.v r14)) (Wn.no rfl) rfl (R.move f30) ?_
        refine LE.p (v := (Value.int .i64 x19)) (Wn.no rfl) rfl (R.move f33) ?_
        obtain ⟨a35, h36, h37, h38, h⟩ := h
        refine LE.p (v := (Value.pointer (some (a35.add (x19.toNat * 1))))) (Wn.no rfl) rfl (R.idx (s := r14) sl24 rfl rfl h36 h37 h38) ?_
        obtain ⟨t39, h40, h⟩ := h
        refine LE.r (v := (Value.int .i64 t39)) (Wn.no rfl) rfl (R.ld sc3 rfl h40) ?_
        refine LE.p (v := (Value.int .i64 (IntKind.i64.wrap (x17 + t39)))) (Wn.no rfl) rfl (R.add rfl rfl) ?_
        refine LE.p (v := (Value.int .i64 (IntKind.i64.wrap (x17 + t39)))) (Wn.no rfl) rfl (R.assign rfl) ?_
        refine LE.nil ?_
        refine WE.seq ?_
        obtain ⟨J41, hJ41, h⟩ := M.join_use h
        refine WE.regJ (fun e w => ∃ (x42 : Bool), J41 x42 w ∧ e 0 = (SV.v x2) ∧ e 5 = (Value.int .i64 r12) ∧ e 6 = (SV.v r14) ∧ e 7 = (Value.int .i64 (IntKind.i64.wrap (x17 + t39))) ∧ e 8 = (Value.bool x42) ∧ e 9 = (Value.int .i64 x19)) ?_ ?_
        · clear hJ41
          refine LE.p (v := (Value.bool x18)) (Wn.no rfl) rfl (R.move f32) ?_
          refine LE.p (v := (Value.bool x18)) (Wn.no rfl) rfl (R.move rfl) ?_
          rcases M.ite_use h with ⟨hb43, h⟩ | ⟨hb43, h⟩
          · refine LE.u (Un.no 1 39 false rfl rfl rfl (congrArg Value.bool hb43)) ?_
            refine LE.u (Un.no 1 39 false rfl rfl rfl (congrArg Value.bool hb43)) ?_
            refine LE.u (Un.no 1 39 false rfl rfl rfl (congrArg Value.bool hb43)) ?_
            refine LE.u (Un.no 1 39 false rfl rfl rfl (congrArg Value.bool hb43)) ?_
            refine LE.u (Un.no 1 39 false rfl rfl rfl (congrArg Value.bool hb43)) ?_
            refine LE.p (v := (Value.bool true)) (Wn.no rfl) rfl (R.pickT (congrArg Value.bool hb43) rfl) ?_
            refine LE.p (v := (Value.bool true)) (Wn.no rfl) rfl (R.assign rfl) ?_
            refine LE.nil ?_
            exact ⟨_, h, f28, f29, f30, rfl, rfl, f33⟩
          · refine LE.p (v := (SV.v x2)) (Wn.yes 1 39 false rfl rfl rfl (congrArg Value.bool hb43)) rfl (R.move f28) ?_
            refine LE.p (v := (Value.int .i64 x19)) (Wn.yes 1 39 false rfl rfl rfl (congrArg Value.bool hb43)) rfl (R.move f33) ?_
            obtain ⟨a44, h45, h46, h47, h⟩ := h
            refine LE.p (v := (Value.pointer (some (a44.add (x19.toNat * 1))))) (Wn.yes 1 39 false rfl rfl rfl (congrArg Value.bool hb43)) rfl (R.idx (s := x2) sl22 rfl rfl h45 h46 h47) ?_
            obtain ⟨t48, h49, h⟩ := h
            refine LE.r (v := (Value.float .f64 t48)) (Wn.yes 1 39 false rfl rfl rfl (congrArg Value.bool hb43)) rfl (R.ld sc26 rfl h49) ?_
            refine LE.p (v := (Value.bool (fGtr t48 (0 : Nat)))) (Wn.yes 1 39 false rfl rfl rfl (congrArg Value.bool hb43)) rfl (R.fgtr rfl rfl) ?_
            refine LE.p (v := (Value.bool (fGtr t48 (0 : Nat)))) (Wn.no rfl) rfl (R.pickF (congrArg Value.bool hb43) rfl) ?_
            refine LE.p (v := (Value.bool (fGtr t48 (0 : Nat)))) (Wn.no rfl) rfl (R.assign rfl) ?_
            refine LE.nil ?_
            exact ⟨_, h, f28, f29, f30, rfl, rfl, f33⟩
        · rintro e50 w51 ⟨x42, h, f52, f53, f54, f55, f56, f57⟩
          subst hJ41
          refine WE.seq ?_
          refine WE.seq ?_
          obtain ⟨J58, hJ58, h⟩ := M.join_use h
          refine WE.regJ (fun e w => ∃ (x59 : Bool), J58 x59 w ∧ e 0 = (SV.v x2) ∧ e 5 = (Value.int .i64 r12) ∧ e 6 = (SV.v r14) ∧ e 7 = (Value.int .i64 (IntKind.i64.wrap (x17 + t39))) ∧ e 8 = (Value.bool x42) ∧ e 9 = (Value.int .i64 x19) ∧ e 65 = (Value.bool x59)) ?_ ?_
          · clear hJ58
            refine LE.p (v := (SV.v r14)) (Wn.no rfl) rfl (R.move f54) ?_
            refine LE.p (v := (Value.int .i64 x19)) (Wn.no rfl) rfl (R.move f57) ?_
            obtain ⟨a60, h61, h62, h63, h⟩ := h
            refine LE.p (v := (Value.pointer (some (a60.add (x19.toNat * 1))))) (Wn.no rfl) rfl (R.idx (s := r14) sl24 rfl rfl h61 h62 h63) ?_
            obtain ⟨t64, h65, h⟩ := h
            refine LE.r (v := (Value.int .i64 t64)) (Wn.no rfl) rfl (R.ld sc3 rfl h65) ?_
            refine LE.p (v := (Value.bool (decide (t64 < (0 : Int))))) (Wn.no rfl) rfl (R.lss rfl rfl) ?_
            refine LE.p (v := (Value.bool (decide (t64 < (0 : Int))))) (Wn.no rfl) rfl (R.move rfl) ?_
            rcases M.ite_use h with ⟨hb66, h⟩ | ⟨hb66, h⟩
            · refine LE.u (Un.no 5 51 false rfl rfl rfl (congrArg Value.bool hb66)) ?_
              refine LE.u (Un.no 5 51 false rfl rfl rfl (congrArg Value.bool hb66)) ?_
              refine LE.u (Un.no 5 51 false rfl rfl rfl (congrArg Value.bool hb66)) ?_
              refine LE.u (Un.no 5 51 false rfl rfl rfl (congrArg Value.bool hb66)) ?_
              refine LE.u (Un.no 5 51 false rfl rfl rfl (congrArg Value.bool hb66)) ?_
              refine LE.u (Un.no 5 51 false rfl rfl rfl (congrArg Value.bool hb66)) ?_
              refine LE.u (Un.no 5 51 false rfl rfl rfl (congrArg Value.bool hb66)) ?_
              refine LE.u (Un.un 12 58 true rfl rfl rfl rfl) ?_
              refine LE.u (Un.un 12 58 true rfl rfl rfl rfl) ?_
              refine LE.u (Un.un 12 58 true rfl rfl rfl rfl) ?_
              refine LE.u (Un.un 12 58 true rfl rfl rfl rfl) ?_
              refine LE.u (Un.un 12 58 true rfl rfl rfl rfl) ?_
              refine LE.u (Un.no 5 51 false rfl rfl rfl (congrArg Value.bool hb66)) ?_
              refine LE.p (v := (Value.bool true)) (Wn.no rfl) rfl (R.pickT (congrArg Value.bool hb66) rfl) ?_
              refine LE.nil ?_
              exact ⟨_, h, f52, f53, f54, f55, f56, f57, rfl⟩
            · refine LE.p (v := (SV.v x2)) (Wn.yes 5 51 false rfl rfl rfl (congrArg Value.bool hb66)) rfl (R.move f52) ?_
              refine LE.p (v := (Value.int .i64 x19)) (Wn.yes 5 51 false rfl rfl rfl (congrArg Value.bool hb66)) rfl (R.move f57) ?_
              obtain ⟨a67, h68, h69, h70, h⟩ := h
              refine LE.p (v := (Value.pointer (some (a67.add (x19.toNat * 1))))) (Wn.yes 5 51 false rfl rfl rfl (congrArg Value.bool hb66)) rfl (R.idx (s := x2) sl22 rfl rfl h68 h69 h70) ?_
              obtain ⟨t71, h72, h⟩ := h
              refine LE.r (v := (Value.float .f64 t71)) (Wn.yes 5 51 false rfl rfl rfl (congrArg Value.bool hb66)) rfl (R.ld sc26 rfl h72) ?_
              refine LE.p (v := (Value.bool (fGtr t71 (0 : Nat)))) (Wn.yes 5 51 false rfl rfl rfl (congrArg Value.bool hb66)) rfl (R.fgtr rfl rfl) ?_
              refine LE.p (v := (Value.bool (!(fGtr t71 (0 : Nat))))) (Wn.yes 5 51 false rfl rfl rfl (congrArg Value.bool hb66)) rfl (R.not rfl) ?_
              refine LE.p (v := (Value.bool (!(fGtr t71 (0 : Nat))))) (Wn.yes 5 51 false rfl rfl rfl (congrArg Value.bool hb66)) rfl (R.move rfl) ?_
              rcases M.ite_use h with ⟨hb73, h⟩ | ⟨hb73, h⟩
              · refine LE.p (v := (SV.v r14)) (Wn.yes 12 58 true rfl rfl rfl (congrArg Value.bool hb73)) rfl (R.move f54) ?_
                refine LE.p (v := (Value.int .i64 x19)) (Wn.yes 12 58 true rfl rfl rfl (congrArg Value.bool hb73)) rfl (R.move f57) ?_
                obtain ⟨a74, h75, h76, h77, h⟩ := h
                refine LE.p (v := (Value.pointer (some (a74.add (x19.toNat * 1))))) (Wn.yes 12 58 true rfl rfl rfl (congrArg Value.bool hb73)) rfl (R.idx (s := r14) sl24 rfl rfl h75 h76 h77) ?_
                obtain ⟨t78, h79, h⟩ := h
                refine LE.r (v := (Value.int .i64 t78)) (Wn.yes 12 58 true rfl rfl rfl (congrArg Value.bool hb73)) rfl (R.ld sc3 rfl h79) ?_
                refine LE.p (v := (Value.bool (t78 != (0 : Int)))) (Wn.yes 12 58 true rfl rfl rfl (congrArg Value.bool hb73)) rfl (R.neq rfl rfl) ?_
                refine LE.p (v := (Value.bool (t78 != (0 : Int)))) (Wn.yes 5 51 false rfl rfl rfl (congrArg Value.bool hb66)) rfl (R.pickT (congrArg Value.bool hb73) rfl) ?_
                refine LE.p (v := (Value.bool (t78 != (0 : Int)))) (Wn.no rfl) rfl (R.pickF (congrArg Value.bool hb66) rfl) ?_
                refine LE.nil ?_
                exact ⟨_, h, f52, f53, f54, f55, f56, f57, rfl⟩
              · refine LE.u (Un.no 12 58 true rfl rfl rfl (congrArg Value.bool hb73)) ?_
                refine LE.u (Un.no 12 58 true rfl rfl rfl (congrArg Value.bool hb73)) ?_
                refine LE.u (Un.no 12 58 true rfl rfl rfl (congrArg Value.bool hb73)) ?_
                refine LE.u (Un.no 12 58 true rfl rfl rfl (congrArg Value.bool hb73)) ?_
                refine LE.u (Un.no 12 58 true rfl rfl rfl (congrArg Value.bool hb73)) ?_
                refine LE.p (v := (Value.bool false)) (Wn.yes 5 51 false rfl rfl rfl (congrArg Value.bool hb66)) rfl (R.pickF (congrArg Value.bool hb73) rfl) ?_
                refine LE.p (v := (Value.bool false)) (Wn.no rfl) rfl (R.pickF (congrArg Value.bool hb66) rfl) ?_
                refine LE.nil ?_
                exact ⟨_, h, f52, f53, f54, f55, f56, f57, rfl⟩
          · rintro e80 w81 ⟨x59, h, f82, f83, f84, f85, f86, f87, f88⟩
            subst hJ58
            refine WE.condT rfl (b := x59) f88 ?_ ?_
            · intro hb89
              replace h := M.ite_t h hb89
              refine WE.seq ?_
              refine WE.reg ?_
              refine LE.p (v := (Value.bool false)) (Wn.no rfl) rfl (R.assign rfl) ?_
              refine LE.nil ?_
              refine WE.ret ?_
              exact ⟨_, (Res.tmp rfl Res.nil), _, rfl, h⟩
            · intro hb89
              replace h := M.ite_f h hb89
              refine WE.skip ?_
              refine WE.seq ?_
              refine WE.reg ?_
              refine LE.p (v := (Value.int .i64 (0 : Int))) (Wn.no rfl) rfl (R.assign rfl) ?_
              refine LE.nil ?_
              refine WE.block ?_
              obtain ⟨I95, ⟨n94, h⟩, hr96⟩ := h
              refine WE.loop (fun n e w => ∃ (x90 : Int), I95 n x90 w ∧ e 0 = (SV.v x2) ∧ e 5 = (Value.int .i64 r12) ∧ e 6 = (SV.v r14) ∧ e 7 = (Value.int .i64 (IntKind.i64.wrap (x17 + t39))) ∧ e 8 = (Value.bool x42) ∧ e 9 = (Value.int .i64 x19) ∧ e 10 = (Value.int .i64 x90)) n94 ⟨_, h, f82, f83, f84, f85, f86, f87, rfl⟩ ?_
              clear h
              rintro n94 e93 w92 ⟨x90, h, f99, f100, f101, f102, f103, f104, f105⟩
              replace h := hr96 n94 x90 w92 h
              refine WE.seq ?_
              refine WE.seq ?_
              refine WE.reg ?_
              refine LE.p (v := (Value.int .i64 x90)) (Wn.no rfl) rfl (R.move f105) ?_
              refine LE.p (v := (Value.int .i64 x19)) (Wn.no rfl) rfl (R.move f104) ?_
              refine LE.p (v := (Value.bool (decide (x90 < x19)))) (Wn.no rfl) rfl (R.lss rfl rfl) ?_
              refine LE.nil ?_
              refine WE.condT rfl (b := (decide (x90 < x19))) rfl ?_ ?_
              · intro hb106
                replace h := M.ite_t h hb106
                refine WE.skip ?_
                refine WE.seq ?_
                refine WE.block ?_
                refine WE.seq ?_
                obtain ⟨J107, hJ107, h⟩ := M.join_use h
                refine WE.drawJ (fun e w => ∃ (x108 : Bool), J107 x108 w ∧ e 0 = (SV.v x2) ∧ e 5 = (Value.int .i64 r12) ∧ e 6 = (SV.v r14) ∧ e 7 = (Value.int .i64 (IntKind.i64.wrap (x17 + t39))) ∧ e 8 = (Value.bool x42) ∧ e 9 = (Value.int .i64 x19) ∧ e 10 = (Value.int .i64 x90) ∧ e 102 = (Value.bool x108)) mix ?_ ?_
                · clear hJ107
                  obtain ⟨w109, hww109, h⟩ := M.drew_use h
                  rw [← hww109]
                  clear hww109
                  refine DE.t 0 (v := (SV.v x2)) rfl (by kernel_rfl) (Wn.no rfl) rfl (R.move f99) ?_
                  refine DE.t 1 (v := (Value.int .i64 x19)) rfl (by kernel_rfl) (Wn.no rfl) rfl (R.move f104) ?_
                  obtain ⟨a110, h111, h112, h113, h⟩ := h
                  refine DE.t 2 (v := (Value.pointer (some (a110.add (x19.toNat * 1))))) rfl (by kernel_rfl) (Wn.no rfl) rfl (R.idx (s := x2) sl22 rfl rfl h111 h112 h113) ?_
                  refine DE.t 4 (v := (SV.v x2)) rfl (by kernel_rfl) (Wn.no rfl) rfl (R.move f99) ?_
                  refine DE.t 5 (v := (Value.int .i64 x90)) rfl (by kernel_rfl) (Wn.no rfl) rfl (R.move f105) ?_
                  obtain ⟨a114, h115, h116, h117, h⟩ := h
                  refine DE.t 6 (v := (Value.pointer (some (a114.add (x90.toNat * 1))))) rfl (by kernel_rfl) (Wn.no rfl) rfl (R.idx (s := x2) sl22 rfl rfl h115 h116 h117) ?_
                  obtain ⟨t118, h119, h⟩ := h
                  refine DE.hold 3 (fun w => w.cell? (a110.add (x19.toNat * 1)) = some (Value.float .f64 t118)) (v := (Value.float .f64 t118)) rfl (by kernel_rfl) (Wn.no rfl) rfl h119 (fun w hs => R.ld sc26 rfl hs) ?_
                  obtain ⟨t120, h121, h⟩ := h
                  refine DE.main 7 (by kernel_rfl) ?_
                  refine One.r 7 (v := (Value.float .f64 t120)) rfl (Wn.no rfl) rfl (R.ld sc26 rfl h121) (.inl rfl) ?_
                  refine DE.t 8 (v := (Value.bool (fEql t118 t120))) rfl (by kernel_rfl) (Wn.no rfl) rfl (R.feql rfl rfl) ?_
                  refine DE.t 9 (v := (Value.bool (fEql t118 t120))) rfl (by kernel_rfl) (Wn.no rfl) rfl (R.move rfl) ?_
                  rcases M.ite_use h with ⟨hb122, h⟩ | ⟨hb122, h⟩
                  · refine DE.t 10 (v := (SV.v r14)) rfl (by kernel_rfl) (Wn.yes 9 80 true rfl rfl rfl (congrArg Value.bool hb122)) rfl (R.move f101) ?_
                    refine DE.t 11 (v := (Value.int .i64 x90)) rfl (by kernel_rfl) (Wn.yes 9 80 true rfl rfl rfl (congrArg Value.bool hb122)) rfl (R.move f105) ?_
                    obtain ⟨a123, h124, h125, h126, h⟩ := h
                    refine DE.t 12 (v := (Value.pointer (some (a123.add (x90.toNat * 1))))) rfl (by kernel_rfl) (Wn.yes 9 80 true rfl rfl rfl (congrArg Value.bool hb122)) rfl (R.idx (s := r14) sl24 rfl rfl h124 h125 h126) ?_
                    refine DE.t 14 (v := (SV.v r14)) rfl (by kernel_rfl) (Wn.yes 9 80 true rfl rfl rfl (congrArg Value.bool hb122)) rfl (R.move f101) ?_
                    refine DE.t 15 (v := (Value.int .i64 x19)) rfl (by kernel_rfl) (Wn.yes 9 80 true rfl rfl rfl (congrArg Value.bool hb122)) rfl (R.move f104) ?_
                    obtain ⟨a127, h128, h129, h130, h⟩ := h
                    refine DE.t 16 (v := (Value.pointer (some (a127.add (x19.toNat * 1))))) rfl (by kernel_rfl) (Wn.yes 9 80 true rfl rfl rfl (congrArg Value.bool hb122)) rfl (R.idx (s := r14) sl24 rfl rfl h128 h129 h130) ?_
                    obtain ⟨t131, h132, h⟩ := h
                    refine DE.hold 13 (fun w => w.cell? (a123.add (x90.toNat * 1)) = some (Value.int .i64 t131)) (v := (Value.int .i64 t131)) rfl (by kernel_rfl) (Wn.yes 9 80 true rfl rfl rfl (congrArg Value.bool hb122)) rfl h132 (fun w hs => R.ld sc3 rfl hs) ?_
                    obtain ⟨t133, h134, h⟩ := h
                    refine DE.main 17 (by kernel_rfl) ?_
                    refine One.r 17 (v := (Value.int .i64 t133)) rfl (Wn.yes 9 80 true rfl rfl rfl (congrArg Value.bool hb122)) rfl (R.ld sc3 rfl h134) (.inl rfl) ?_
                    refine DE.t 18 (v := (Value.bool (decide (t131 < t133)))) rfl (by kernel_rfl) (Wn.yes 9 80 true rfl rfl rfl (congrArg Value.bool hb122)) rfl (R.lss rfl rfl) ?_
                    refine DE.t 19 (v := (Value.bool (decide (t131 < t133)))) rfl (by kernel_rfl) (Wn.yes 9 80 true rfl rfl rfl (congrArg Value.bool hb122)) rfl (R.move rfl) ?_
                    rcases M.ite_use h with ⟨hb135, h⟩ | ⟨hb135, h⟩
                    · refine DE.u 20 rfl (by kernel_rfl) (Un.no 19 90 false rfl rfl rfl (congrArg Value.bool hb135)) ?_
                      refine DE.u 21 rfl (by kernel_rfl) (Un.no 19 90 false rfl rfl rfl (congrArg Value.bool hb135)) ?_
                      refine DE.u 22 rfl (by kernel_rfl) (Un.no 19 90 false rfl rfl rfl (congrArg Value.bool hb135)) ?_
                      refine DE.u 23 rfl (by kernel_rfl) (Un.no 19 90 false rfl rfl rfl (congrArg Value.bool hb135)) ?_
                      refine DE.u 24 rfl (by kernel_rfl) (Un.no 19 90 false rfl rfl rfl (congrArg Value.bool hb135)) ?_
                      refine DE.u 25 rfl (by kernel_rfl) (Un.no 19 90 false rfl rfl rfl (congrArg Value.bool hb135)) ?_
                      refine DE.u 26 rfl (by kernel_rfl) (Un.no 19 90 false rfl rfl rfl (congrArg Value.bool hb135)) ?_
                      refine DE.u 27 rfl (by kernel_rfl) (Un.no 19 90 false rfl rfl rfl (congrArg Value.bool hb135)) ?_
                      refine DE.u 28 rfl (by kernel_rfl) (Un.no 19 90 false rfl rfl rfl (congrArg Value.bool hb135)) ?_
                      refine DE.u 29 rfl (by kernel_rfl) (Un.no 19 90 false rfl rfl rfl (congrArg Value.bool hb135)) ?_
                      refine DE.t 30 (v := (Value.bool true)) rfl (by kernel_rfl) (Wn.yes 9 80 true rfl rfl rfl (congrArg Value.bool hb122)) rfl (R.pickT (congrArg Value.bool hb135) rfl) ?_
                      refine DE.t 31 (v := (Value.bool true)) rfl (by kernel_rfl) (Wn.no rfl) rfl (R.pickT (congrArg Value.bool hb122) rfl) ?_
                      refine DE.done (by kernel_rfl) ?_
                      exact ⟨_, h, f99, f100, f101, f102, f103, f104, f105, rfl⟩
                    · refine DE.t 20 (v := (SV.v r14)) rfl (by kernel_rfl) (Wn.yes 19 90 false rfl rfl rfl (congrArg Value.bool hb135)) rfl (R.move f101) ?_
                      refine DE.t 21 (v := (Value.int .i64 x90)) rfl (by kernel_rfl) (Wn.yes 19 90 false rfl rfl rfl (congrArg Value.bool hb135)) rfl (R.move f105) ?_
                      obtain ⟨a136, h137, h138, h139, h⟩ := h
                      refine DE.t 22 (v := (Value.pointer (some (a136.add (x90.toNat * 1))))) rfl (by kernel_rfl) (Wn.yes 19 90 false rfl rfl rfl (congrArg Value.bool hb135)) rfl (R.idx (s := r14) sl24 rfl rfl h137 h138 h139) ?_
                      refine DE.t 24 (v := (SV.v r14)) rfl (by kernel_rfl) (Wn.yes 19 90 false rfl rfl rfl (congrArg Value.bool hb135)) rfl (R.move f101) ?_
                      refine DE.t 25 (v := (Value.int .i64 x19)) rfl (by kernel_rfl) (Wn.yes 19 90 false rfl rfl rfl (congrArg Value.bool hb135)) rfl (R.move f104) ?_
                      obtain ⟨a140, h141, h142, h143, h⟩ := h
                      refine DE.t 26 (v := (Value.pointer (some (a140.add (x19.toNat * 1))))) rfl (by kernel_rfl) (Wn.yes 19 90 false rfl rfl rfl (congrArg Value.bool hb135)) rfl (R.idx (s := r14) sl24 rfl rfl h141 h142 h143) ?_
                      obtain ⟨t144, h145, h⟩ := h
                      refine DE.hold 23 (fun w => w.cell? (a136.add (x90.toNat * 1)) = some (Value.int .i64 t144)) (v := (Value.int .i64 t144)) rfl (by kernel_rfl) (Wn.yes 19 90 false rfl rfl rfl (congrArg Value.bool hb135)) rfl h145 (fun w hs => R.ld sc3 rfl hs) ?_
                      obtain ⟨t146, h147, h⟩ := h
                      refine DE.main 27 (by kernel_rfl) ?_
                      refine One.r 27 (v := (Value.int .i64 t146)) rfl (Wn.yes 19 90 false rfl rfl rfl (congrArg Value.bool hb135)) rfl (R.ld sc3 rfl h147) (.inl rfl) ?_
                      refine DE.t 28 (v := (Value.int .i64 (IntKind.i64.wrap (t144 - t146)))) rfl (by kernel_rfl) (Wn.yes 19 90 false rfl rfl rfl (congrArg Value.bool hb135)) rfl (R.sub rfl rfl) ?_
                      refine DE.t 29 (v := (Value.bool (decide ((1 : Int) < (IntKind.i64.wrap (t144 - t146)))))) rfl (by kernel_rfl) (Wn.yes 19 90 false rfl rfl rfl (congrArg Value.bool hb135)) rfl (R.gtr rfl rfl) ?_
                      refine DE.t 30 (v := (Value.bool (decide ((1 : Int) < (IntKind.i64.wrap (t144 - t146)))))) rfl (by kernel_rfl) (Wn.yes 9 80 true rfl rfl rfl (congrArg Value.bool hb122)) rfl (R.pickF (congrArg Value.bool hb135) rfl) ?_
                      refine DE.t 31 (v := (Value.bool (decide ((1 : Int) < (IntKind.i64.wrap (t144 - t146)))))) rfl (by kernel_rfl) (Wn.no rfl) rfl (R.pickT (congrArg Value.bool hb122) rfl) ?_
                      refine DE.done (by kernel_rfl) ?_
                      exact ⟨_, h, f99, f100, f101, f102, f103, f104, f105, rfl⟩
                  · refine DE.u 10 rfl (by kernel_rfl) (Un.no 9 80 true rfl rfl rfl (congrArg Value.bool hb122)) ?_
                    refine DE.u 11 rfl (by kernel_rfl) (Un.no 9 80 true rfl rfl rfl (congrArg Value.bool hb122)) ?_
                    refine DE.u 12 rfl (by kernel_rfl) (Un.no 9 80 true rfl rfl rfl (congrArg Value.bool hb122)) ?_
                    refine DE.u 13 rfl (by kernel_rfl) (Un.no 9 80 true rfl rfl rfl (congrArg Value.bool hb122)) ?_
                    refine DE.u 14 rfl (by kernel_rfl) (Un.no 9 80 true rfl rfl rfl (congrArg Value.bool hb122)) ?_
                    refine DE.u 15 rfl (by kernel_rfl) (Un.no 9 80 true rfl rfl rfl (congrArg Value.bool hb122)) ?_
                    refine DE.u 16 rfl (by kernel_rfl) (Un.no 9 80 true rfl rfl rfl (congrArg Value.bool hb122)) ?_
                    refine DE.u 17 rfl (by kernel_rfl) (Un.no 9 80 true rfl rfl rfl (congrArg Value.bool hb122)) ?_
                    refine DE.u 18 rfl (by kernel_rfl) (Un.no 9 80 true rfl rfl rfl (congrArg Value.bool hb122)) ?_
                    refine DE.u 19 rfl (by kernel_rfl) (Un.no 9 80 true rfl rfl rfl (congrArg Value.bool hb122)) ?_
                    refine DE.u 20 rfl (by kernel_rfl) (Un.un 19 90 false rfl rfl rfl rfl) ?_
                    refine DE.u 21 rfl (by kernel_rfl) (Un.un 19 90 false rfl rfl rfl rfl) ?_
                    refine DE.u 22 rfl (by kernel_rfl) (Un.un 19 90 false rfl rfl rfl rfl) ?_
                    refine DE.u 23 rfl (by kernel_rfl) (Un.un 19 90 false rfl rfl rfl rfl) ?_
                    refine DE.u 24 rfl (by kernel_rfl) (Un.un 19 90 false rfl rfl rfl rfl) ?_
                    refine DE.u 25 rfl (by kernel_rfl) (Un.un 19 90 false rfl rfl rfl rfl) ?_
                    refine DE.u 26 rfl (by kernel_rfl) (Un.un 19 90 false rfl rfl rfl rfl) ?_
                    refine DE.u 27 rfl (by kernel_rfl) (Un.un 19 90 false rfl rfl rfl rfl) ?_
                    refine DE.u 28 rfl (by kernel_rfl) (Un.un 19 90 false rfl rfl rfl rfl) ?_
                    refine DE.u 29 rfl (by kernel_rfl) (Un.un 19 90 false rfl rfl rfl rfl) ?_
                    refine DE.u 30 rfl (by kernel_rfl) (Un.no 9 80 true rfl rfl rfl (congrArg Value.bool hb122)) ?_
                    refine DE.t 31 (v := (Value.bool false)) rfl (by kernel_rfl) (Wn.no rfl) rfl (R.pickF (congrArg Value.bool hb122) rfl) ?_
                    refine DE.done (by kernel_rfl) ?_
                    exact ⟨_, h, f99, f100, f101, f102, f103, f104, f105, rfl⟩
                · rintro e148 w149 ⟨x108, h, f150, f151, f152, f153, f154, f155, f156, f157⟩
                  subst hJ107
                  refine WE.condT rfl (b := x108) f157 ?_ ?_
                  · intro hb158
                    replace h := M.ite_t h hb158
                    refine WE.seq ?_
                    refine WE.reg ?_
                    refine LE.p (v := (Value.bool false)) (Wn.no rfl) rfl (R.assign rfl) ?_
                    refine LE.nil ?_
                    refine WE.ret ?_
                    exact ⟨_, (Res.tmp rfl Res.nil), _, rfl, h⟩
                  · intro hb158
                    replace h := M.ite_f h hb158
                    refine WE.skip ?_
                    refine WE.reg ?_
                    refine LE.p (v := (Value.int .i64 x90)) (Wn.no rfl) rfl (R.move f156) ?_
                    refine LE.p (v := (Value.int .i64 (IntKind.i64.wrap (x90 + (1 : Int))))) (Wn.no rfl) rfl (R.add rfl rfl) ?_
                    refine LE.p (v := (Value.int .i64 (IntKind.i64.wrap (x90 + (1 : Int))))) (Wn.no rfl) rfl (R.assign rfl) ?_
                    refine LE.nil ?_
                    obtain ⟨m97, hm98, h⟩ := h
                    exact ⟨m97, hm98, _, h, f150, f151, f152, f153, f154, f155, rfl⟩
              · intro hb106
                replace h := M.ite_f h hb106
                refine WE.exit ?_
                refine WE.reg ?_
                refine LE.p (v := (Value.int .i64 x19)) (Wn.no rfl) rfl (R.move f104) ?_
                refine LE.p (v := (Value.int .i64 (IntKind.i64.wrap (x19 + (1 : Int))))) (Wn.no rfl) rfl (R.add rfl rfl) ?_
                refine LE.p (v := (Value.int .i64 (IntKind.i64.wrap (x19 + (1 : Int))))) (Wn.no rfl) rfl (R.assign rfl) ?_
                refine LE.nil ?_
                obtain ⟨m26, hm27, h⟩ := h
                exact ⟨m26, hm27, _, _, _, h, f99, f100, f101, f102, f103, rfl⟩
      · intro hb34
        replace h := M.ite_f h hb34
        refine WE.exit ?_
        refine WE.seq ?_
        obtain ⟨J159, hJ159, h⟩ := M.join_use h
        refine WE.regJ (fun e w => ∃ (x160 : Bool), J159 x160 w ∧ e 4 = (Value.bool x160)) ?_ ?_
        · clear hJ159
          refine LE.p (v := (Value.int .i64 x17)) (Wn.no rfl) rfl (R.move f31) ?_
          refine LE.p (v := (Value.int .i64 r12)) (Wn.no rfl) rfl (R.move f29) ?_
          refine LE.p (v := (Value.bool (x17 == r12))) (Wn.no rfl) rfl (R.eql rfl rfl) ?_
          refine LE.p (v := (Value.bool x18)) (Wn.no rfl) rfl (R.move f32) ?_
          refine LE.p (v := (Value.bool ((x17 == r12) == x18))) (Wn.no rfl) rfl (R.beql bo4 rfl rfl) ?_
          refine LE.p (v := (Value.bool ((x17 == r12) == x18))) (Wn.no rfl) rfl (R.move rfl) ?_
          rcases M.ite_use h with ⟨hb161, h⟩ | ⟨hb161, h⟩
          · refine LE.p (v := (Value.bool x18)) (Wn.yes 5 108 true rfl rfl rfl (congrArg Value.bool hb161)) rfl (R.move f32) ?_
            refine LE.p (v := (Value.bool x18)) (Wn.yes 5 108 true rfl rfl rfl (congrArg Value.bool hb161)) rfl (R.move rfl) ?_
            rcases M.ite_use h with ⟨hb162, h⟩ | ⟨hb162, h⟩
            · refine LE.u (Un.no 7 110 false rfl rfl rfl (congrArg Value.bool hb162)) ?_
              refine LE.u (Un.no 7 110 false rfl rfl rfl (congrArg Value.bool hb162)) ?_
              refine LE.p (v := (Value.bool true)) (Wn.yes 5 108 true rfl rfl rfl (congrArg Value.bool hb161)) rfl (R.pickT (congrArg Value.bool hb162) rfl) ?_
              refine LE.p (v := (Value.bool true)) (Wn.no rfl) rfl (R.pickT (congrArg Value.bool hb161) rfl) ?_
              refine LE.p (v := (Value.bool true)) (Wn.no rfl) rfl (R.move rfl) ?_
              refine LE.c (Wn.yes 12 115 true rfl rfl rfl rfl) rfl (R.call bd12 Ls.nil rfl) (Calls.mono h ?_)
              rintro _ w164 ⟨r163, rfl, h⟩
              refine ⟨_, rfl, ?_⟩
              refine LE.p (v := (Value.bool r163)) (Wn.no rfl) rfl (R.pickT rfl rfl) ?_
              refine LE.p (v := (Value.bool r163)) (Wn.no rfl) rfl (R.assign rfl) ?_
              refine LE.nil ?_
              exact ⟨_, h, rfl⟩
            · refine LE.p (v := (Value.int .i64 x17)) (Wn.yes 7 110 false rfl rfl rfl (congrArg Value.bool hb162)) rfl (R.move f31) ?_
              refine LE.p (v := (Value.bool (x17 == (0 : Int)))) (Wn.yes 7 110 false rfl rfl rfl (congrArg Value.bool hb162)) rfl (R.eql rfl rfl) ?_
              refine LE.p (v := (Value.bool (x17 == (0 : Int)))) (Wn.yes 5 108 true rfl rfl rfl (congrArg Value.bool hb161)) rfl (R.pickF (congrArg Value.bool hb162) rfl) ?_
              refine LE.p (v := (Value.bool (x17 == (0 : Int)))) (Wn.no rfl) rfl (R.pickT (congrArg Value.bool hb161) rfl) ?_
              refine LE.p (v := (Value.bool (x17 == (0 : Int)))) (Wn.no rfl) rfl (R.move rfl) ?_
              rcases M.ite_use h with ⟨hb165, h⟩ | ⟨hb165, h⟩
              · refine LE.c (Wn.yes 12 115 true rfl rfl rfl (congrArg Value.bool hb165)) rfl (R.call bd12 Ls.nil rfl) (Calls.mono h ?_)
                rintro _ w167 ⟨r166, rfl, h⟩
                refine ⟨_, rfl, ?_⟩
                refine LE.p (v := (Value.bool r166)) (Wn.no rfl) rfl (R.pickT (congrArg Value.bool hb165) rfl) ?_
                refine LE.p (v := (Value.bool r166)) (Wn.no rfl) rfl (R.assign rfl) ?_
                refine LE.nil ?_
                exact ⟨_, h, rfl⟩
              · refine LE.u (Un.no 12 115 true rfl rfl rfl (congrArg Value.bool hb165)) ?_
                refine LE.p (v := (Value.bool false)) (Wn.no rfl) rfl (R.pickF (congrArg Value.bool hb165) rfl) ?_
                refine LE.p (v := (Value.bool false)) (Wn.no rfl) rfl (R.assign rfl) ?_
                refine LE.nil ?_
                exact ⟨_, h, rfl⟩
          · refine LE.u (Un.no 5 108 true rfl rfl rfl (congrArg Value.bool hb161)) ?_
            refine LE.u (Un.no 5 108 true rfl rfl rfl (congrArg Value.bool hb161)) ?_
            refine LE.u (Un.un 7 110 false rfl rfl rfl rfl) ?_
            refine LE.u (Un.un 7 110 false rfl rfl rfl rfl) ?_
            refine LE.u (Un.no 5 108 true rfl rfl rfl (congrArg Value.bool hb161)) ?_
            refine LE.p (v := (Value.bool false)) (Wn.no rfl) rfl (R.pickF (congrArg Value.bool hb161) rfl) ?_
            refine LE.p (v := (Value.bool false)) (Wn.no rfl) rfl (R.move rfl) ?_
            refine LE.u (Un.no 12 115 true rfl rfl rfl rfl) ?_
            refine LE.p (v := (Value.bool false)) (Wn.no rfl) rfl (R.pickF rfl rfl) ?_
            refine LE.p (v := (Value.bool false)) (Wn.no rfl) rfl (R.assign rfl) ?_
            refine LE.nil ?_
            exact ⟨_, h, rfl⟩
        · rintro e168 w169 ⟨x160, h, f170⟩
          subst hJ159
          refine WE.ret ?_
          exact ⟨_, (Res.tmp f170 Res.nil), _, rfl, h⟩
/-- The formula of signpost.signpostlaw2.MetricScale. -/
def F4 (p0 : SV) (p1 : Int) (p2 : Int) (K : Bool → World → Prop) (w0 : World) : Prop :=
M.join (fun (x2 : SV) (w9 : World) => 
Calls Try.prog 10 #[(Value.int .i64 p1), (Value.int .i64 (1 : Int)), (Value.int .i64 (1000 : Int))] w9 (R10 fun r13 w14 =>
M.loop4 (fun (J19 : SV → SV → SV → Int → World → Prop) (x15 : SV) (x16 : SV) (x17 : SV) (x18 : Int) (w20 : World) => 
M.ite (decide (x18 < (x2.len : Int))) (
M.idx x2 x18 1 fun a35 =>
M.ld (Value.float .f64) (a35.add (x18.toNat * 1)) w20 fun t39 =>
M.join (fun (x42 : Nat) (w64 : World) => 
M.new (.cells #[(Value.float .f64 x42)] 26) w64 fun b75 w73 =>
M.app Try.prog 22 22 22 x15 (SV.v (SV.mk (some b75) 1 1)) w73 fun s76 w77 =>
M.fw .mul (4611686018427387904 : Nat) x42 w77 fun r79 w81 =>
M.new (.cells #[(Value.float .f64 r79)] 26) w81 fun b84 w82 =>
M.app Try.prog 22 22 22 x16 (SV.v (SV.mk (some b84) 1 1)) w82 fun s85 w86 =>
M.fw .quo x42 (4611686018427387904 : Nat) w86 fun r88 w90 =>
M.new (.cells #[(Value.float .f64 r88)] 26) w90 fun b93 w91 =>
M.app Try.prog 22 22 22 x17 (SV.v (SV.mk (some b93) 1 1)) w91 fun s94 w95 =>
J19 s76 s85 s94 (IntKind.i64.wrap (x18 + (1 : Int))) w95) fun J41 => 
M.join (fun (x44 : Bool) (w52 : World) => 
M.ite x44 (
J41 (4613937818241073152 : Nat) w52) (
J41 t39 w52)) fun J43 => 
M.ite (fGtr t39 (5055640609639927018 : Nat)) (
Calls Try.prog 13 #[(Value.float .f64 t39), (Value.int .i64 (1 : Int))] w20 (R13 fun r46 w47 =>
M.ite (!r46) (
J43 true w47) (
M.ite (fGtr t39 (0 : Nat)) (
J43 (fLss t39 (4158027847206421152 : Nat)) w47) (
J43 false w47)))) (
M.ite (fGtr t39 (0 : Nat)) (
J43 (fLss t39 (4158027847206421152 : Nat)) w20) (
J43 false w20))) (
M.join (fun (x98 : Bool) (w113 : World) => 
M.ite x98 (
K false w113) (
M.mk Try.prog 22 (Value.int .i64 (IntKind.i64.wrap ((1 : Int) + (x2.len : Int)))) (Value.int .i64 (IntKind.i64.wrap ((1 : Int) + (x2.len : Int)))) w113 fun s119 w120 =>
Calls Try.prog 10 #[(Value.int .i64 p2), (Value.int .i64 (0 : Int)), (Value.int .i64 (x2.len : Int))] w120 (R10 fun r122 w123 =>
M.idx s119 r122 1 fun a124 =>
M.st (a124.add (r122.toNat * 1)) (Value.float .f64 (4617315517961601024 : Nat)) w123 fun w128 =>
Calls Try.prog 11 #[(SV.v s119), (Value.int .i64 r13)] w128 (R11 fun r131 w132 =>
M.join (fun (x134 : Bool) (w146 : World) => 
K x134 w146) fun J133 => 
M.ite ((r131.len : Int) == (s119.len : Int)) (
M.idx r131 r122 1 fun a136 =>
M.ld (Value.int .i64) (a136.add (r122.toNat * 1)) w132 fun t140 =>
M.ite (t140 == r13) (
Calls Try.prog 12 #[] w132 (R12 fun r143 w144 =>
J133 r143 w144)) (
J133 false w132)) (
J133 false w132))))) fun J97 => 
Calls Try.prog 11 #[(SV.v x15), (Value.int .i64 r13)] w20 (R11 fun r99 w100 =>
Calls Try.prog 11 #[(SV.v x16), (Value.int .i64 r13)] w100 (R11 fun r101 w102 =>
Calls Try.prog 14 #[(SV.v r99), (SV.v r101)] w102 (R14 fun r103 w104 =>
M.ite (!r103) (
J97 true w104) (
Calls Try.prog 11 #[(SV.v x15), (Value.int .i64 r13)] w104 (R11 fun r106 w107 =>
Calls Try.prog 11 #[(SV.v x17), (Value.int .i64 r13)] w107 (R11 fun r108 w109 =>
Calls Try.prog 14 #[(SV.v r106), (SV.v r108)] w109 (R14 fun r110 w111 =>
J97 (!r110) w111))))))))) SV.nil SV.nil SV.nil (0 : Int) w14)) fun J1 => 
M.ite (decide ((20 : Int) < (p0.len : Int))) (
M.bnd (0 : Int) (20 : Int) p0 <|
J1 (SV.sub p0 (Int.toNat (0 : Int)) (Int.toNat (20 : Int)) 1) w0) (
J1 p0 w0)
theorem F4_ok {w0 : World} {p0 : SV} {p1 : Int} {p2 : Int} {K : Bool → World → Prop} (h : F4 p0 p1 p2 K w0) : Calls Try.prog 4 #[(SV.v p0), (Value.int .i64 p1), (Value.int .i64 p2)] w0 (R4 K) := by
  refine calls_of_WE (args := [(SV.v p0), (Value.int .i64 p1), (Value.int .i64 p2)]) (rs := [.tmp 6]) Try.func4 rfl (N := 110) rfl rfl rfl rfl ?_
  refine WE.seq ?_
  refine WE.reg ?_
  refine LE.p (v := (Value.bool false)) (Wn.no rfl) rfl (R.assign rfl) ?_
  refine LE.nil ?_
  obtain ⟨J1, hJ1, h⟩ := M.join_use h
  refine WE.join (fun e w => ∃ (x2 : SV), J1 x2 w ∧ e 0 = (SV.v x2) ∧ e 1 = (Value.int .i64 p1) ∧ e 2 = (Value.int .i64 p2)) ?_ ?_
  · clear hJ1
    refine WE.seq ?_
    refine WE.reg ?_
    refine LE.p (v := (SV.v p0)) (Wn.no rfl) rfl (R.move rfl) ?_
    refine LE.p (v := (Value.int .i64 (p0.len : Int))) (Wn.no rfl) rfl (R.len sl22 rfl) ?_
    refine LE.p (v := (Value.bool (decide ((20 : Int) < (p0.len : Int))))) (Wn.no rfl) rfl (R.gtr rfl rfl) ?_
    refine LE.nil ?_
    refine WE.condT rfl (b := (decide ((20 : Int) < (p0.len : Int)))) rfl ?_ ?_
    · intro hb3
      replace h := M.ite_t h hb3
      refine WE.reg ?_
      refine LE.p (v := (SV.v p0)) (Wn.no rfl) rfl (R.move rfl) ?_
      obtain ⟨h4, h5, h6, h⟩ := h
      refine LE.p (v := (SV.v (SV.sub p0 (Int.toNat (0 : Int)) (Int.toNat (20 : Int)) 1))) (Wn.no rfl) rfl (R.slc (s := p0) (lo := (0 : Int)) (hi := (20 : Int)) _ _ sl22 rfl rfl rfl h4 h5 h6) ?_
      refine LE.p (v := (SV.v (SV.sub p0 (Int.toNat (0 : Int)) (Int.toNat (20 : Int)) 1))) (Wn.no rfl) rfl (R.assign rfl) ?_
      refine LE.nil ?_
      exact ⟨_, h, rfl, rfl, rfl⟩
    · intro hb3
      replace h := M.ite_f h hb3
      refine WE.skip ?_
      exact ⟨_, h, rfl, rfl, rfl⟩
  · rintro e8 w9 ⟨x2, h, f10, f11, f12⟩
    subst hJ1
    refine WE.seq ?_
    refine WE.reg ?_
    refine LE.p (v := (Value.int .i64 p1)) (Wn.no rfl) rfl (R.move f11) ?_
    refine LE.c (Wn.no rfl) rfl (R.call bd10 (Ls.cons rfl (Ls.cons rfl (Ls.cons rfl Ls.nil))) rfl) (Calls.mono h ?_)
    rintro _ w14 ⟨r13, rfl, h⟩
    refine ⟨_, rfl, ?_⟩
    refine LE.p (v := (Value.int .i64 r13)) (Wn.no rfl) rfl (R.assign rfl) ?_
    refine LE.nil ?_
    refine WE.seq ?_
    refine WE.reg ?_
    refine LE.p (v := (SV.v SV.nil)) (Wn.no rfl) rfl (R.assign rfl) ?_
    refine LE.p (v := (SV.v SV.nil)) (Wn.no rfl) rfl (R.assign rfl) ?_
    refine LE.p (v := (SV.v SV.nil)) (Wn.no rfl) rfl (R.assign rfl) ?_
    refine LE.nil ?_
    refine WE.seq ?_
    refine WE.seq ?_
    refine WE.reg ?_
    refine LE.p (v := (Value.int .i64 (0 : Int))) (Wn.no rfl) rfl (R.assign rfl) ?_
    refine LE.nil ?_
    refine WE.block ?_
    obtain ⟨I23, ⟨n22, h⟩, hr24⟩ := h
    refine WE.loop (fun n e w => ∃ (x15 : SV) (x16 : SV) (x17 : SV) (x18 : Int), I23 n x15 x16 x17 x18 w ∧ e 0 = (SV.v x2) ∧ e 2 = (Value.int .i64 p2) ∧ e 7 = (Value.int .i64 r13) ∧ e 8 = (SV.v x15) ∧ e 9 = (SV.v x16) ∧ e 10 = (SV.v x17) ∧ e 11 = (Value.int .i64 x18)) n22 ⟨_, _, _, _, h, f10, f12, rfl, rfl, rfl, rfl, rfl⟩ ?_
    clear h
    rintro n22 e21 w20 ⟨x15, x16, x17, x18, h, f27, f28, f29, f30, f31, f32, f33⟩
    replace h := hr24 n22 x15 x16 x17 x18 w20 h
    refine WE.seq ?_
    refine WE.seq ?_
    refine WE.reg ?_
    refine LE.p (v := (Value.int .i64 x18)) (Wn.no rfl) rfl (R.move f33) ?_
    refine LE.p (v := (SV.v x2)) (Wn.no rfl) rfl (R.move f27) ?_
    refine LE.p (v := (Value.int .i64 (x2.len : Int))) (Wn.no rfl) rfl (R.len sl22 rfl) ?_
    refine LE.p (v := (Value.bool (decide (x18 < (x2.len : Int))))) (Wn.no rfl) rfl (R.lss rfl rfl) ?_
    refine LE.nil ?_
    refine WE.condT rfl (b := (decide (x18 < (x2.len : Int)))) rfl ?_ ?_
    · intro hb34
      replace h := M.ite_t h hb34
      refine WE.skip ?_
      refine WE.seq ?_
      refine WE.block ?_
      refine WE.seq ?_
      refine WE.reg ?_
      refine LE.p (v := (SV.v x2)) (Wn.no rfl) rfl (R.move f27) ?_
      refine LE.p (v := (Value.int .i64 x18)) (Wn.no rfl) rfl (R.move f33) ?_
      obtain ⟨a35, h36, h37, h38, h⟩ := h
      refine LE.p (v := (Value.pointer (some (a35.add (x18.toNat * 1))))) (Wn.no rfl) rfl (R.idx (s := x2) sl22 rfl rfl h36 h37 h38) ?_
      obtain ⟨t39, h40, h⟩ := h
      refine LE.r (v := (Value.float .f64 t39)) (Wn.no rfl) rfl (R.ld sc26 rfl h40) ?_
      refine LE.p (v := (Value.float .f64 t39)) (Wn.no rfl) rfl (R.assign rfl) ?_
      refine LE.nil ?_
      obtain ⟨J41, hJ41, h⟩ := M.join_use h
      refine WE.join (fun e w => ∃ (x42 : Nat), J41 x42 w ∧ e 0 = (SV.v x2) ∧ e 2 = (Value.int .i64 p2) ∧ e 7 = (Value.int .i64 r13) ∧ e 8 = (SV.v x15) ∧ e 9 = (SV.v x16) ∧ e 10 = (SV.v x17) ∧ e 11 = (Value.int .i64 x18) ∧ e 12 = (Value.float .f64 x42)) ?_ ?_
      · clear hJ41
        refine WE.seq ?_
        obtain ⟨J43, hJ43, h⟩ := M.join_use h
        refine WE.regJ (fun e w => ∃ (x44 : Bool), J43 x44 w ∧ e 0 = (SV.v x2) ∧ e 2 = (Value.int .i64 p2) ∧ e 7 = (Value.int .i64 r13) ∧ e 8 = (SV.v x15) ∧ e 9 = (SV.v x16) ∧ e 10 = (SV.v x17) ∧ e 11 = (Value.int .i64 x18) ∧ e 12 = (Value.float .f64 t39) ∧ e 47 = (Value.bool x44)) ?_ ?_
        · clear hJ43
          refine LE.p (v := (Value.float .f64 t39)) (Wn.no rfl) rfl (R.move rfl) ?_
          refine LE.p (v := (Value.bool (fGtr t39 (5055640609639927018 : Nat)))) (Wn.no rfl) rfl (R.fgtr rfl rfl) ?_
          refine LE.p (v := (Value.bool (fGtr t39 (5055640609639927018 : Nat)))) (Wn.no rfl) rfl (R.move rfl) ?_
          rcases M.ite_use h with ⟨hb45, h⟩ | ⟨hb45, h⟩
          · refine LE.p (v := (Value.float .f64 t39)) (Wn.yes 2 35 true rfl rfl rfl (congrArg Value.bool hb45)) rfl (R.move rfl) ?_
            refine LE.c (Wn.yes 2 35 true rfl rfl rfl (congrArg Value.bool hb45)) rfl (R.call bd13 (Ls.cons rfl (Ls.cons rfl Ls.nil)) rfl) (Calls.mono h ?_)
            rintro _ w47 ⟨r46, rfl, h⟩
            refine ⟨_, rfl, ?_⟩
            refine LE.p (v := (Value.bool (!r46))) (Wn.yes 2 35 true rfl rfl rfl (congrArg Value.bool hb45)) rfl (R.not rfl) ?_
            refine LE.p (v := (Value.bool (!r46))) (Wn.no rfl) rfl (R.pickT (congrArg Value.bool hb45) rfl) ?_
            refine LE.p (v := (Value.bool (!r46))) (Wn.no rfl) rfl (R.move rfl) ?_
            rcases M.ite_use h with ⟨hb48, h⟩ | ⟨hb48, h⟩
            · refine LE.u (Un.no 7 40 false rfl rfl rfl (congrArg Value.bool hb48)) ?_
              refine LE.u (Un.no 7 40 false rfl rfl rfl (congrArg Value.bool hb48)) ?_
              refine LE.u (Un.no 7 40 false rfl rfl rfl (congrArg Value.bool hb48)) ?_
              refine LE.u (Un.un 10 43 true rfl rfl rfl rfl) ?_
              refine LE.u (Un.un 10 43 true rfl rfl rfl rfl) ?_
              refine LE.u (Un.no 7 40 false rfl rfl rfl (congrArg Value.bool hb48)) ?_
              refine LE.p (v := (Value.bool true)) (Wn.no rfl) rfl (R.pickT (congrArg Value.bool hb48) rfl) ?_
              refine LE.nil ?_
              exact ⟨_, h, f27, f28, f29, f30, f31, f32, f33, rfl, rfl⟩
            · refine LE.p (v := (Value.float .f64 t39)) (Wn.yes 7 40 false rfl rfl rfl (congrArg Value.bool hb48)) rfl (R.move rfl) ?_
              refine LE.p (v := (Value.bool (fGtr t39 (0 : Nat)))) (Wn.yes 7 40 false rfl rfl rfl (congrArg Value.bool hb48)) rfl (R.fgtr rfl rfl) ?_
              refine LE.p (v := (Value.bool (fGtr t39 (0 : Nat)))) (Wn.yes 7 40 false rfl rfl rfl (congrArg Value.bool hb48)) rfl (R.move rfl) ?_
              rcases M.ite_use h with ⟨hb49, h⟩ | ⟨hb49, h⟩
              · refine LE.p (v := (Value.float .f64 t39)) (Wn.yes 10 43 true rfl rfl rfl (congrArg Value.bool hb49)) rfl (R.move rfl) ?_
                refine LE.p (v := (Value.bool (fLss t39 (4158027847206421152 : Nat)))) (Wn.yes 10 43 true rfl rfl rfl (congrArg Value.bool hb49)) rfl (R.flss rfl rfl) ?_
                refine LE.p (v := (Value.bool (fLss t39 (4158027847206421152 : Nat)))) (Wn.yes 7 40 false rfl rfl rfl (congrArg Value.bool hb48)) rfl (R.pickT (congrArg Value.bool hb49) rfl) ?_
                refine LE.p (v := (Value.bool (fLss t39 (4158027847206421152 : Nat)))) (Wn.no rfl) rfl (R.pickF (congrArg Value.bool hb48) rfl) ?_
                refine LE.nil ?_
                exact ⟨_, h, f27, f28, f29, f30, f31, f32, f33, rfl, rfl⟩
              · refine LE.u (Un.no 10 43 true rfl rfl rfl (congrArg Value.bool hb49)) ?_
                refine LE.u (Un.no 10 43 true rfl rfl rfl (congrArg Value.bool hb49)) ?_
                refine LE.p (v := (Value.bool false)) (Wn.yes 7 40 false rfl rfl rfl (congrArg Value.bool hb48)) rfl (R.pickF (congrArg Value.bool hb49) rfl) ?_
                refine LE.p (v := (Value.bool false)) (Wn.no rfl) rfl (R.pickF (congrArg Value.bool hb48) rfl) ?_
                refine LE.nil ?_
                exact ⟨_, h, f27, f28, f29, f30, f31, f32, f33, rfl, rfl⟩
          · refine LE.u (Un.no 2 35 true rfl rfl rfl (congrArg Value.bool hb45)) ?_
            refine LE.u (Un.no 2 35 true rfl rfl rfl (congrArg Value.bool hb45)) ?_
            refine LE.u (Un.no 2 35 true rfl rfl rfl (congrArg Value.bool hb45)) ?_
            refine LE.p (v := (Value.bool false)) (Wn.no rfl) rfl (R.pickF (congrArg Value.bool hb45) rfl) ?_
            refine LE.p (v := (Value.bool false)) (Wn.no rfl) rfl (R.move rfl) ?_
            refine LE.p (v := (Value.float .f64 t39)) (Wn.yes 7 40 false rfl rfl rfl rfl) rfl (R.move rfl) ?_
            refine LE.p (v := (Value.bool (fGtr t39 (0 : Nat)))) (Wn.yes 7 40 false rfl rfl rfl rfl) rfl (R.fgtr rfl rfl) ?_
            refine LE.p (v := (Value.bool (fGtr t39 (0 : Nat)))) (Wn.yes 7 40 false rfl rfl rfl rfl) rfl (R.move rfl) ?_
            rcases M.ite_use h with ⟨hb50, h⟩ | ⟨hb50, h⟩
            · refine LE.p (v := (Value.float .f64 t39)) (Wn.yes 10 43 true rfl rfl rfl (congrArg Value.bool hb50)) rfl (R.move rfl) ?_
              refine LE.p (v := (Value.bool (fLss t39 (4158027847206421152 : Nat)))) (Wn.yes 10 43 true rfl rfl rfl (congrArg Value.bool hb50)) rfl (R.flss rfl rfl) ?_
              refine LE.p (v := (Value.bool (fLss t39 (4158027847206421152 : Nat)))) (Wn.yes 7 40 false rfl rfl rfl rfl) rfl (R.pickT (congrArg Value.bool hb50) rfl) ?_
              refine LE.p (v := (Value.bool (fLss t39 (4158027847206421152 : Nat)))) (Wn.no rfl) rfl (R.pickF rfl rfl) ?_
              refine LE.nil ?_
              exact ⟨_, h, f27, f28, f29, f30, f31, f32, f33, rfl, rfl⟩
            · refine LE.u (Un.no 10 43 true rfl rfl rfl (congrArg Value.bool hb50)) ?_
              refine LE.u (Un.no 10 43 true rfl rfl rfl (congrArg Value.bool hb50)) ?_
              refine LE.p (v := (Value.bool false)) (Wn.yes 7 40 false rfl rfl rfl rfl) rfl (R.pickF (congrArg Value.bool hb50) rfl) ?_
              refine LE.p (v := (Value.bool false)) (Wn.no rfl) rfl (R.pickF rfl rfl) ?_
              refine LE.nil ?_
              exact ⟨_, h, f27, f28, f29, f30, f31, f32, f33, rfl, rfl⟩
        · rintro e51 w52 ⟨x44, h, f53, f54, f55, f56, f57, f58, f59, f60, f61⟩
          subst hJ43
          refine WE.condT rfl (b := x44) f61 ?_ ?_
          · intro hb62
            replace h := M.ite_t h hb62
            refine WE.reg ?_
            refine LE.p (v := (Value.float .f64 (4613937818241073152 : Nat))) (Wn.no rfl) rfl (R.assign rfl) ?_
            refine LE.nil ?_
            exact ⟨_, h, f53, f54, f55, f56, f57, f58, f59, rfl⟩
          · intro hb62
            replace h := M.ite_f h hb62
            refine WE.skip ?_
            exact ⟨_, h, f53, f54, f55, f56, f57, f58, f59, f60⟩
      · rintro e63 w64 ⟨x42, h, f65, f66, f67, f68, f69, f70, f71, f72⟩
        subst hJ41
        refine WE.seq ?_
        refine WE.reg ?_
        refine LE.p (v := (SV.v x15)) (Wn.no rfl) rfl (R.move f68) ?_
        refine LE.p (v := (Value.float .f64 x42)) (Wn.no rfl) rfl (R.move f72) ?_
        obtain ⟨b75, hpb75, w73, hww73, h⟩ := M.new_use h
        refine LE.r (v := (SV.v (SV.mk (some b75) 1 1))) (Wn.no rfl) rfl (R.bsl (by exact (Ls.cons (R.Pr rfl) Ls.nil)) (fun w => bs22_1 x42 w) hpb75 hww73) ?_
        obtain ⟨s76, w77, h78, h⟩ := h
        refine LE.r (v := (SV.v s76)) (Wn.no rfl) rfl (R.app (s := x15) (r := s76) rfl rfl h78) ?_
        refine LE.p (v := (SV.v s76)) (Wn.no rfl) rfl (R.assign rfl) ?_
        refine LE.nil ?_
        refine WE.seq ?_
        refine WE.reg ?_
        refine LE.p (v := (SV.v x16)) (Wn.no rfl) rfl (R.move f69) ?_
        refine LE.p (v := (Value.float .f64 x42)) (Wn.no rfl) rfl (R.move f72) ?_
        obtain ⟨r79, w81, h80, h⟩ := M.fw_use (P := Try.prog) 26 (by simp) h
        refine LE.r (v := (Value.float .f64 r79)) (Wn.no rfl) rfl (R.farithW h80 rfl rfl) ?_
        obtain ⟨b84, hpb84, w82, hww82, h⟩ := M.new_use h
        refine LE.r (v := (SV.v (SV.mk (some b84) 1 1))) (Wn.no rfl) rfl (R.bsl (by exact (Ls.cons (R.Pr rfl) Ls.nil)) (fun w => bs22_1 r79 w) hpb84 hww82) ?_
        obtain ⟨s85, w86, h87, h⟩ := h
        refine LE.r (v := (SV.v s85)) (Wn.no rfl) rfl (R.app (s := x16) (r := s85) rfl rfl h87) ?_
        refine LE.p (v := (SV.v s85)) (Wn.no rfl) rfl (R.assign rfl) ?_
        refine LE.nil ?_
        refine WE.reg ?_
        refine LE.p (v := (SV.v x17)) (Wn.no rfl) rfl (R.move f70) ?_
        refine LE.p (v := (Value.float .f64 x42)) (Wn.no rfl) rfl (R.move f72) ?_
        obtain ⟨r88, w90, h89, h⟩ := M.fw_use (P := Try.prog) 26 (by simp) h
        refine LE.r (v := (Value.float .f64 r88)) (Wn.no rfl) rfl (R.farithW h89 rfl rfl) ?_
        obtain ⟨b93, hpb93, w91, hww91, h⟩ := M.new_use h
        refine LE.r (v := (SV.v (SV.mk (some b93) 1 1))) (Wn.no rfl) rfl (R.bsl (by exact (Ls.cons (R.Pr rfl) Ls.nil)) (fun w => bs22_1 r88 w) hpb93 hww91) ?_
        obtain ⟨s94, w95, h96, h⟩ := h
        refine LE.r (v := (SV.v s94)) (Wn.no rfl) rfl (R.app (s := x17) (r := s94) rfl rfl h96) ?_
        refine LE.p (v := (SV.v s94)) (Wn.no rfl) rfl (R.assign rfl) ?_
        refine LE.nil ?_
        refine WE.reg ?_
        refine LE.p (v := (Value.int .i64 x18)) (Wn.no rfl) rfl (R.move f71) ?_
        refine LE.p (v := (Value.int .i64 (IntKind.i64.wrap (x18 + (1 : Int))))) (Wn.no rfl) rfl (R.add rfl rfl) ?_
        refine LE.p (v := (Value.int .i64 (IntKind.i64.wrap (x18 + (1 : Int))))) (Wn.no rfl) rfl (R.assign rfl) ?_
        refine LE.nil ?_
        obtain ⟨m25, hm26, h⟩ := h
        exact ⟨m25, hm26, _, _, _, _, h, f65, f66, f67, rfl, rfl, rfl, rfl⟩
    · intro hb34
      replace h := M.ite_f h hb34
      refine WE.exit ?_
      refine WE.seq ?_
      refine WE.seq ?_
      obtain ⟨J97, hJ97, h⟩ := M.join_use h
      refine WE.regJ (fun e w => ∃ (x98 : Bool), J97 x98 w ∧ e 0 = (SV.v x2) ∧ e 2 = (Value.int .i64 p2) ∧ e 7 = (Value.int .i64 r13) ∧ e 79 = (Value.bool x98)) ?_ ?_
      · clear hJ97
        refine LE.p (v := (SV.v x15)) (Wn.no rfl) rfl (R.move f30) ?_
        refine LE.p (v := (Value.int .i64 r13)) (Wn.no rfl) rfl (R.move f29) ?_
        refine LE.c (Wn.no rfl) rfl (R.call bd11 (Ls.cons rfl (Ls.cons rfl Ls.nil)) rfl) (Calls.mono h ?_)
        rintro _ w100 ⟨r99, rfl, h⟩
        refine ⟨_, rfl, ?_⟩
        refine LE.p (v := (SV.v x16)) (Wn.no rfl) rfl (R.move f31) ?_
        refine LE.p (v := (Value.int .i64 r13)) (Wn.no rfl) rfl (R.move f29) ?_
        refine LE.c (Wn.no rfl) rfl (R.call bd11 (Ls.cons rfl (Ls.cons rfl Ls.nil)) rfl) (Calls.mono h ?_)
        rintro _ w102 ⟨r101, rfl, h⟩
        refine ⟨_, rfl, ?_⟩
        refine LE.c (Wn.no rfl) rfl (R.call bd14 (Ls.cons rfl (Ls.cons rfl Ls.nil)) rfl) (Calls.mono h ?_)
        rintro _ w104 ⟨r103, rfl, h⟩
        refine ⟨_, rfl, ?_⟩
        refine LE.p (v := (Value.bool (!r103))) (Wn.no rfl) rfl (R.not rfl) ?_
        refine LE.p (v := (Value.bool (!r103))) (Wn.no rfl) rfl (R.move rfl) ?_
        rcases M.ite_use h with ⟨hb105, h⟩ | ⟨hb105, h⟩
        · refine LE.u (Un.no 8 70 false rfl rfl rfl (congrArg Value.bool hb105)) ?_
          refine LE.u (Un.no 8 70 false rfl rfl rfl (congrArg Value.bool hb105)) ?_
          refine LE.u (Un.no 8 70 false rfl rfl rfl (congrArg Value.bool hb105)) ?_
          refine LE.u (Un.no 8 70 false rfl rfl rfl (congrArg Value.bool hb105)) ?_
          refine LE.u (Un.no 8 70 false rfl rfl rfl (congrArg Value.bool hb105)) ?_
          refine LE.u (Un.no 8 70 false rfl rfl rfl (congrArg Value.bool hb105)) ?_
          refine LE.u (Un.no 8 70 false rfl rfl rfl (congrArg Value.bool hb105)) ?_
          refine LE.u (Un.no 8 70 false rfl rfl rfl (congrArg Value.bool hb105)) ?_
          refine LE.p (v := (Value.bool true)) (Wn.no rfl) rfl (R.pickT (congrArg Value.bool hb105) rfl) ?_
          refine LE.nil ?_
          exact ⟨_, h, f27, f28, f29, rfl⟩
        · refine LE.p (v := (SV.v x15)) (Wn.yes 8 70 false rfl rfl rfl (congrArg Value.bool hb105)) rfl (R.move f30) ?_
          refine LE.p (v := (Value.int .i64 r13)) (Wn.yes 8 70 false rfl rfl rfl (congrArg Value.bool hb105)) rfl (R.move f29) ?_
          refine LE.c (Wn.yes 8 70 false rfl rfl rfl (congrArg Value.bool hb105)) rfl (R.call bd11 (Ls.cons rfl (Ls.cons rfl Ls.nil)) rfl) (Calls.mono h ?_)
          rintro _ w107 ⟨r106, rfl, h⟩
          refine ⟨_, rfl, ?_⟩
          refine LE.p (v := (SV.v x17)) (Wn.yes 8 70 false rfl rfl rfl (congrArg Value.bool hb105)) rfl (R.move f32) ?_
          refine LE.p (v := (Value.int .i64 r13)) (Wn.yes 8 70 false rfl rfl rfl (congrArg Value.bool hb105)) rfl (R.move f29) ?_
          refine LE.c (Wn.yes 8 70 false rfl rfl rfl (congrArg Value.bool hb105)) rfl (R.call bd11 (Ls.cons rfl (Ls.cons rfl Ls.nil)) rfl) (Calls.mono h ?_)
          rintro _ w109 ⟨r108, rfl, h⟩
          refine ⟨_, rfl, ?_⟩
          refine LE.c (Wn.yes 8 70 false rfl rfl rfl (congrArg Value.bool hb105)) rfl (R.call bd14 (Ls.cons rfl (Ls.cons rfl Ls.nil)) rfl) (Calls.mono h ?_)
          rintro _ w111 ⟨r110, rfl, h⟩
          refine ⟨_, rfl, ?_⟩
          refine LE.p (v := (Value.bool (!r110))) (Wn.yes 8 70 false rfl rfl rfl (congrArg Value.bool hb105)) rfl (R.not rfl) ?_
          refine LE.p (v := (Value.bool (!r110))) (Wn.no rfl) rfl (R.pickF (congrArg Value.bool hb105) rfl) ?_
          refine LE.nil ?_
          exact ⟨_, h, f27, f28, f29, rfl⟩
      · rintro e112 w113 ⟨x98, h, f114, f115, f116, f117⟩
        subst hJ97
        refine WE.condT rfl (b := x98) f117 ?_ ?_
        · intro hb118
          replace h := M.ite_t h hb118
          refine WE.seq ?_
          refine WE.reg ?_
          refine LE.p (v := (Value.bool false)) (Wn.no rfl) rfl (R.assign rfl) ?_
          refine LE.nil ?_
          refine WE.ret ?_
          exact ⟨_, (Res.tmp rfl Res.nil), _, rfl, h⟩
        · intro hb118
          replace h := M.ite_f h hb118
          refine WE.skip ?_
          refine WE.seq ?_
          refine WE.reg ?_
          refine LE.p (v := (SV.v x2)) (Wn.no rfl) rfl (R.move f114) ?_
          refine LE.p (v := (Value.int .i64 (x2.len : Int))) (Wn.no rfl) rfl (R.len sl22 rfl) ?_
          refine LE.p (v := (Value.int .i64 (IntKind.i64.wrap ((1 : Int) + (x2.len : Int))))) (Wn.no rfl) rfl (R.add rfl rfl) ?_
          obtain ⟨s119, w120, h121, h⟩ := h
          refine LE.r (v := (SV.v s119)) (Wn.no rfl) rfl (R.mks rfl rfl h121) ?_
          refine LE.p (v := (SV.v s119)) (Wn.no rfl) rfl (R.assign rfl) ?_
          refine LE.nil ?_
          refine WE.seq ?_
          refine WE.reg ?_
          refine LE.p (v := (Value.int .i64 p2)) (Wn.no rfl) rfl (R.move f115) ?_
          refine LE.p (v := (SV.v x2)) (Wn.no rfl) rfl (R.move f114) ?_
          refine LE.p (v := (Value.int .i64 (x2.len : Int))) (Wn.no rfl) rfl (R.len sl22 rfl) ?_
          refine LE.c (Wn.no rfl) rfl (R.call bd10 (Ls.cons rfl (Ls.cons rfl (Ls.cons rfl Ls.nil))) rfl) (Calls.mono h ?_)
          rintro _ w123 ⟨r122, rfl, h⟩
          refine ⟨_, rfl, ?_⟩
          refine LE.p (v := (Value.int .i64 r122)) (Wn.no rfl) rfl (R.assign rfl) ?_
          refine LE.nil ?_
          refine WE.seq ?_
          refine WE.reg ?_
          refine LE.p (v := (SV.v s119)) (Wn.no rfl) rfl (R.move rfl) ?_
          refine LE.p (v := (Value.int .i64 r122)) (Wn.no rfl) rfl (R.move rfl) ?_
          obtain ⟨a124, h125, h126, h127, h⟩ := h
          refine LE.p (v := (Value.pointer (some (a124.add (r122.toNat * 1))))) (Wn.no rfl) rfl (R.idx (s := s119) sl22 rfl rfl h125 h126 h127) ?_
          obtain ⟨w128, hww128, h129, h130, h⟩ := M.st_use h
          refine LE.s (Wn.no rfl) rfl (R.st (a := (a124.add (r122.toNat * 1))) (v := (Value.float .f64 (4617315517961601024 : Nat))) sz26 rfl rfl rfl rfl h129 h130 hww128) ?_
          refine LE.nil ?_
          refine WE.seq ?_
          refine WE.reg ?_
          refine LE.p (v := (SV.v s119)) (Wn.no rfl) rfl (R.move rfl) ?_
          refine LE.p (v := (Value.int .i64 r13)) (Wn.no rfl) rfl (R.move f116) ?_
          refine LE.c (Wn.no rfl) rfl (R.call bd11 (Ls.cons rfl (Ls.cons rfl Ls.nil)) rfl) (Calls.mono h ?_)
          rintro _ w132 ⟨r131, rfl, h⟩
          refine ⟨_, rfl, ?_⟩
          refine LE.p (v := (SV.v r131)) (Wn.no rfl) rfl (R.assign rfl) ?_
          refine LE.nil ?_
          refine WE.seq ?_
          obtain ⟨J133, hJ133, h⟩ := M.join_use h
          refine WE.regJ (fun e w => ∃ (x134 : Bool), J133 x134 w ∧ e 6 = (Value.bool x134)) ?_ ?_
          · clear hJ133
            refine LE.p (v := (SV.v r131)) (Wn.no rfl) rfl (R.move rfl) ?_
            refine LE.p (v := (Value.int .i64 (r131.len : Int))) (Wn.no rfl) rfl (R.len sl24 rfl) ?_
            refine LE.p (v := (SV.v s119)) (Wn.no rfl) rfl (R.move rfl) ?_
            refine LE.p (v := (Value.int .i64 (s119.len : Int))) (Wn.no rfl) rfl (R.len sl22 rfl) ?_
            refine LE.p (v := (Value.bool ((r131.len : Int) == (s119.len : Int)))) (Wn.no rfl) rfl (R.eql rfl rfl) ?_
            refine LE.p (v := (Value.bool ((r131.len : Int) == (s119.len : Int)))) (Wn.no rfl) rfl (R.move rfl) ?_
            rcases M.ite_use h with ⟨hb135, h⟩ | ⟨hb135, h⟩
            · refine LE.p (v := (SV.v r131)) (Wn.yes 5 99 true rfl rfl rfl (congrArg Value.bool hb135)) rfl (R.move rfl) ?_
              refine LE.p (v := (Value.int .i64 r122)) (Wn.yes 5 99 true rfl rfl rfl (congrArg Value.bool hb135)) rfl (R.move rfl) ?_
              obtain ⟨a136, h137, h138, h139, h⟩ := h
              refine LE.p (v := (Value.pointer (some (a136.add (r122.toNat * 1))))) (Wn.yes 5 99 true rfl rfl rfl (congrArg Value.bool hb135)) rfl (R.idx (s := r131) sl24 rfl rfl h137 h138 h139) ?_
              obtain ⟨t140, h141, h⟩ := h
              refine LE.r (v := (Value.int .i64 t140)) (Wn.yes 5 99 true rfl rfl rfl (congrArg Value.bool hb135)) rfl (R.ld sc3 rfl h141) ?_
              refine LE.p (v := (Value.int .i64 r13)) (Wn.yes 5 99 true rfl rfl rfl (congrArg Value.bool hb135)) rfl (R.move f116) ?_
              refine LE.p (v := (Value.bool (t140 == r13))) (Wn.yes 5 99 true rfl rfl rfl (congrArg Value.bool hb135)) rfl (R.eql rfl rfl) ?_
              refine LE.p (v := (Value.bool (t140 == r13))) (Wn.no rfl) rfl (R.pickT (congrArg Value.bool hb135) rfl) ?_
              refine LE.p (v := (Value.bool (t140 == r13))) (Wn.no rfl) rfl (R.move rfl) ?_
              rcases M.ite_use h with ⟨hb142, h⟩ | ⟨hb142, h⟩
              · refine LE.c (Wn.yes 13 107 true rfl rfl rfl (congrArg Value.bool hb142)) rfl (R.call bd12 Ls.nil rfl) (Calls.mono h ?_)
                rintro _ w144 ⟨r143, rfl, h⟩
                refine ⟨_, rfl, ?_⟩
                refine LE.p (v := (Value.bool r143)) (Wn.no rfl) rfl (R.pickT (congrArg Value.bool hb142) rfl) ?_
                refine LE.p (v := (Value.bool r143)) (Wn.no rfl) rfl (R.assign rfl) ?_
                refine LE.nil ?_
                exact ⟨_, h, rfl⟩
              · refine LE.u (Un.no 13 107 true rfl rfl rfl (congrArg Value.bool hb142)) ?_
                refine LE.p (v := (Value.bool false)) (Wn.no rfl) rfl (R.pickF (congrArg Value.bool hb142) rfl) ?_
                refine LE.p (v := (Value.bool false)) (Wn.no rfl) rfl (R.assign rfl) ?_
                refine LE.nil ?_
                exact ⟨_, h, rfl⟩
            · refine LE.u (Un.no 5 99 true rfl rfl rfl (congrArg Value.bool hb135)) ?_
              refine LE.u (Un.no 5 99 true rfl rfl rfl (congrArg Value.bool hb135)) ?_
              refine LE.u (Un.no 5 99 true rfl rfl rfl (congrArg Value.bool hb135)) ?_
              refine LE.u (Un.no 5 99 true rfl rfl rfl (congrArg Value.bool hb135)) ?_
              refine LE.u (Un.no 5 99 true rfl rfl rfl (congrArg Value.bool hb135)) ?_
              refine LE.u (Un.no 5 99 true rfl rfl rfl (congrArg Value.bool hb135)) ?_
              refine LE.p (v := (Value.bool false)) (Wn.no rfl) rfl (R.pickF (congrArg Value.bool hb135) rfl) ?_
              refine LE.p (v := (Value.bool false)) (Wn.no rfl) rfl (R.move rfl) ?_
              refine LE.u (Un.no 13 107 true rfl rfl rfl rfl) ?_
              refine LE.p (v := (Value.bool false)) (Wn.no rfl) rfl (R.pickF rfl rfl) ?_
              refine LE.p (v := (Value.bool false)) (Wn.no rfl) rfl (R.assign rfl) ?_
              refine LE.nil ?_
              exact ⟨_, h, rfl⟩
          · rintro e145 w146 ⟨x134, h, f147⟩
            subst hJ133
            refine WE.ret ?_
            exact ⟨_, (Res.tmp f147 Res.nil), _, rfl, h⟩
/-- The formula of signpost.signpostlaw2.MetricPath. -/
def F5 (p0 : SV) (p1 : Int) (K : Bool → World → Prop) (w0 : World) : Prop :=
M.join (fun (x2 : SV) (w9 : World) => 
M.loop4 (fun (J16 : Nat → Nat → Int → Int → World → Prop) (x12 : Nat) (x13 : Nat) (x14 : Int) (x15 : Int) (w17 : World) => 
M.ite (decide (x15 < (x2.len : Int))) (
M.idx x2 x15 1 fun a31 =>
M.ld (Value.int .u16) (a31.add (x15.toNat * 1)) w17 fun t35 =>
Calls Try.prog 15 #[(Value.float .f64 x12), (Value.float .f64 (fOfInt t35))] w17 (R15 fun r37 w38 =>
M.idx x2 (IntKind.i64.wrap ((IntKind.i64.wrap ((x2.len : Int) - (1 : Int))) - x15)) 1 fun a39 =>
M.ld (Value.int .u16) (a39.add ((IntKind.i64.wrap ((IntKind.i64.wrap ((x2.len : Int) - (1 : Int))) - x15)).toNat * 1)) w38 fun t43 =>
Calls Try.prog 15 #[(Value.float .f64 (fOfInt t43)), (Value.float .f64 x13)] w38 (R15 fun r45 w46 =>
M.idx x2 x15 1 fun a47 =>
M.ld (Value.int .u16) (a47.add (x15.toNat * 1)) w46 fun t51 =>
J16 r37 r45 (IntKind.i64.wrap (x14 + (IntKind.i64.wrap t51))) (IntKind.i64.wrap (x15 + (1 : Int))) w46))) (
M.join (fun (x54 : Bool) (w57 : World) => 
M.ite x54 (
K false w57) (
Calls Try.prog 10 #[(Value.int .i64 p1), (Value.int .i64 (0 : Int)), (Value.int .i64 (x2.len : Int))] w57 (R10 fun r62 w63 =>
M.loop2 (fun (J66 : Nat → Int → World → Prop) (x64 : Nat) (x65 : Int) (w67 : World) => 
M.ite (decide (x65 ≤ (x2.len : Int))) (
M.join (fun (x80 : Nat) (w104 : World) => 
J66 x80 (IntKind.i64.wrap (x65 + (1 : Int))) w104) fun J79 => 
M.join (fun (x82 : Nat) (w89 : World) => 
M.ite (decide (x65 < (x2.len : Int))) (
M.idx x2 x65 1 fun a95 =>
M.ld (Value.int .u16) (a95.add (x65.toNat * 1)) w89 fun t99 =>
Calls Try.prog 15 #[(Value.float .f64 x82), (Value.float .f64 (fOfInt t99))] w89 (R15 fun r101 w102 =>
J79 r101 w102)) (
J79 x82 w89)) fun J81 => 
M.ite (x65 == r62) (
Calls Try.prog 16 #[] w67 (R16 fun r84 w85 =>
Calls Try.prog 15 #[(Value.float .f64 x64), (Value.float .f64 r84)] w85 (R15 fun r86 w87 =>
J81 r86 w87))) (
J81 x64 w67)) (
M.join (fun (x110 : Bool) (w117 : World) => 
K x110 w117) fun J109 => 
Calls Try.prog 13 #[(Value.float .f64 x64), (Value.int .i64 (1 : Int))] w67 (R13 fun r111 w112 =>
M.ite r111 (
Calls Try.prog 12 #[] w112 (R12 fun r114 w115 =>
J109 r114 w115)) (
J109 false w112)))) (0 : Nat) (0 : Int) w63))) fun J53 => 
M.ite (fNeq x12 (fOfInt x14)) (
J53 true w17) (
J53 (fNeq x13 x12) w17))) (0 : Nat) (0 : Nat) (0 : Int) (0 : Int) w9) fun J1 => 
M.ite (decide ((50 : Int) < (p0.len : Int))) (
M.bnd (0 : Int) (50 : Int) p0 <|
J1 (SV.sub p0 (Int.toNat (0 : Int)) (Int.toNat (50 : Int)) 1) w0) (
J1 p0 w0)
theorem F5_ok {w0 : World} {p0 : SV} {p1 : Int} {K : Bool → World → Prop} (h : F5 p0 p1 K w0) : Calls Try.prog 5 #[(SV.v p0), (Value.int .i64 p1)] w0 (R5 K) := by
  refine calls_of_WE (args := [(SV.v p0), (Value.int .i64 p1)]) (rs := [.tmp 4]) Try.func5 rfl (N := 89) rfl rfl rfl rfl ?_
  refine WE.seq ?_
  refine WE.reg ?_
  refine LE.p (v := (Value.bool false)) (Wn.no rfl) rfl (R.assign rfl) ?_
  refine LE.nil ?_
  obtain ⟨J1, hJ1, h⟩ := M.join_use h
  refine WE.join (fun e w => ∃ (x2 : SV), J1 x2 w ∧ e 0 = (SV.v x2) ∧ e 1 = (Value.int .i64 p1)) ?_ ?_
  · clear hJ1
    refine WE.seq ?_
    refine WE.reg ?_
    refine LE.p (v := (SV.v p0)) (Wn.no rfl) rfl (R.move rfl) ?_
    refine LE.p (v := (Value.int .i64 (p0.len : Int))) (Wn.no rfl) rfl (R.len sl32 rfl) ?_
    refine LE.p (v := (Value.bool (decide ((50 : Int) < (p0.len : Int))))) (Wn.no rfl) rfl (R.gtr rfl rfl) ?_
    refine LE.nil ?_
    refine WE.condT rfl (b := (decide ((50 : Int) < (p0.len : Int)))) rfl ?_ ?_
    · intro hb3
      replace h := M.ite_t h hb3
      refine WE.reg ?_
      refine LE.p (v := (SV.v p0)) (Wn.no rfl) rfl (R.move rfl) ?_
      obtain ⟨h4, h5, h6, h⟩ := h
      refine LE.p (v := (SV.v (SV.sub p0 (Int.toNat (0 : Int)) (Int.toNat (50 : Int)) 1))) (Wn.no rfl) rfl (R.slc (s := p0) (lo := (0 : Int)) (hi := (50 : Int)) _ _ sl32 rfl rfl rfl h4 h5 h6) ?_
      refine LE.p (v := (SV.v (SV.sub p0 (Int.toNat (0 : Int)) (Int.toNat (50 : Int)) 1))) (Wn.no rfl) rfl (R.assign rfl) ?_
      refine LE.nil ?_
      exact ⟨_, h, rfl, rfl⟩
    · intro hb3
      replace h := M.ite_f h hb3
      refine WE.skip ?_
      exact ⟨_, h, rfl, rfl⟩
  · rintro e8 w9 ⟨x2, h, f10, f11⟩
    subst hJ1
    refine WE.seq ?_
    refine WE.reg ?_
    refine LE.p (v := (Value.float .f64 (0 : Nat))) (Wn.no rfl) rfl (R.assign rfl) ?_
    refine LE.p (v := (Value.float .f64 (0 : Nat))) (Wn.no rfl) rfl (R.assign rfl) ?_
    refine LE.p (v := (Value.int .i64 (0 : Int))) (Wn.no rfl) rfl (R.assign rfl) ?_
    refine LE.nil ?_
    refine WE.seq ?_
    refine WE.seq ?_
    refine WE.reg ?_
    refine LE.p (v := (Value.int .i64 (0 : Int))) (Wn.no rfl) rfl (R.assign rfl) ?_
    refine LE.nil ?_
    refine WE.block ?_
    obtain ⟨I20, ⟨n19, h⟩, hr21⟩ := h
    refine WE.loop (fun n e w => ∃ (x12 : Nat) (x13 : Nat) (x14 : Int) (x15 : Int), I20 n x12 x13 x14 x15 w ∧ e 0 = (SV.v x2) ∧ e 1 = (Value.int .i64 p1) ∧ e 5 = (Value.float .f64 x12) ∧ e 6 = (Value.float .f64 x13) ∧ e 7 = (Value.int .i64 x14) ∧ e 8 = (Value.int .i64 x15)) n19 ⟨_, _, _, _, h, f10, f11, rfl, rfl, rfl, rfl⟩ ?_
    clear h
    rintro n19 e18 w17 ⟨x12, x13, x14, x15, h, f24, f25, f26, f27, f28, f29⟩
    replace h := hr21 n19 x12 x13 x14 x15 w17 h
    refine WE.seq ?_
    refine WE.seq ?_
    refine WE.reg ?_
    refine LE.p (v := (Value.int .i64 x15)) (Wn.no rfl) rfl (R.move f29) ?_
    refine LE.p (v := (SV.v x2)) (Wn.no rfl) rfl (R.move f24) ?_
    refine LE.p (v := (Value.int .i64 (x2.len : Int))) (Wn.no rfl) rfl (R.len sl32 rfl) ?_
    refine LE.p (v := (Value.bool (decide (x15 < (x2.len : Int))))) (Wn.no rfl) rfl (R.lss rfl rfl) ?_
    refine LE.nil ?_
    refine WE.condT rfl (b := (decide (x15 < (x2.len : Int)))) rfl ?_ ?_
    · intro hb30
      replace h := M.ite_t h hb30
      refine WE.skip ?_
      refine WE.seq ?_
      refine WE.block ?_
      refine WE.seq ?_
      refine WE.reg ?_
      refine LE.p (v := (Value.float .f64 x12)) (Wn.no rfl) rfl (R.move f26) ?_
      refine LE.p (v := (SV.v x2)) (Wn.no rfl) rfl (R.move f24) ?_
      refine LE.p (v := (Value.int .i64 x15)) (Wn.no rfl) rfl (R.move f29) ?_
      obtain ⟨a31, h32, h33, h34, h⟩ := h
      refine LE.p (v := (Value.pointer (some (a31.add (x15.toNat * 1))))) (Wn.no rfl) rfl (R.idx (s := x2) sl32 rfl rfl h32 h33 h34) ?_
      obtain ⟨t35, h36, h⟩ := h
      refine LE.r (v := (Value.int .u16 t35)) (Wn.no rfl) rfl (R.ld sc34 rfl h36) ?_
      refine LE.p (v := (Value.float .f64 (fOfInt t35))) (Wn.no rfl) rfl (R.i2f fo26 in34 rfl) ?_
      refine LE.c (Wn.no rfl) rfl (R.call bd15 (Ls.cons rfl (Ls.cons rfl Ls.nil)) rfl) (Calls.mono h ?_)
      rintro _ w38 ⟨r37, rfl, h⟩
      refine ⟨_, rfl, ?_⟩
      refine LE.p (v := (Value.float .f64 r37)) (Wn.no rfl) rfl (R.assign rfl) ?_
      refine LE.nil ?_
      refine WE.seq ?_
      refine WE.reg ?_
      refine LE.p (v := (SV.v x2)) (Wn.no rfl) rfl (R.move f24) ?_
      refine LE.p (v := (SV.v x2)) (Wn.no rfl) rfl (R.move f24) ?_
      refine LE.p (v := (Value.int .i64 (x2.len : Int))) (Wn.no rfl) rfl (R.len sl32 rfl) ?_
      refine LE.p (v := (Value.int .i64 (IntKind.i64.wrap ((x2.len : Int) - (1 : Int))))) (Wn.no rfl) rfl (R.sub rfl rfl) ?_
      refine LE.p (v := (Value.int .i64 x15)) (Wn.no rfl) rfl (R.move f29) ?_
      refine LE.p (v := (Value.int .i64 (IntKind.i64.wrap ((IntKind.i64.wrap ((x2.len : Int) - (1 : Int))) - x15)))) (Wn.no rfl) rfl (R.sub rfl rfl) ?_
      obtain ⟨a39, h40, h41, h42, h⟩ := h
      refine LE.p (v := (Value.pointer (some (a39.add ((IntKind.i64.wrap ((IntKind.i64.wrap ((x2.len : Int) - (1 : Int))) - x15)).toNat * 1))))) (Wn.no rfl) rfl (R.idx (s := x2) sl32 rfl rfl h40 h41 h42) ?_
      obtain ⟨t43, h44, h⟩ := h
      refine LE.r (v := (Value.int .u16 t43)) (Wn.no rfl) rfl (R.ld sc34 rfl h44) ?_
      refine LE.p (v := (Value.float .f64 (fOfInt t43))) (Wn.no rfl) rfl (R.i2f fo26 in34 rfl) ?_
      refine LE.p (v := (Value.float .f64 x13)) (Wn.no rfl) rfl (R.move f27) ?_
      refine LE.c (Wn.no rfl) rfl (R.call bd15 (Ls.cons rfl (Ls.cons rfl Ls.nil)) rfl) (Calls.mono h ?_)
      rintro _ w46 ⟨r45, rfl, h⟩
      refine ⟨_, rfl, ?_⟩
      refine LE.p (v := (Value.float .f64 r45)) (Wn.no rfl) rfl (R.assign rfl) ?_
      refine LE.nil ?_
      refine WE.reg ?_
      refine LE.p (v := (Value.int .i64 x14)) (Wn.no rfl) rfl (R.move f28) ?_
      refine LE.p (v := (SV.v x2)) (Wn.no rfl) rfl (R.move f24) ?_
      refine LE.p (v := (Value.int .i64 x15)) (Wn.no rfl) rfl (R.move f29) ?_
      obtain ⟨a47, h48, h49, h50, h⟩ := h
      refine LE.p (v := (Value.pointer (some (a47.add (x15.toNat * 1))))) (Wn.no rfl) rfl (R.idx (s := x2) sl32 rfl rfl h48 h49 h50) ?_
      obtain ⟨t51, h52, h⟩ := h
      refine LE.r (v := (Value.int .u16 t51)) (Wn.no rfl) rfl (R.ld sc34 rfl h52) ?_
      refine LE.p (v := (Value.int .i64 (IntKind.i64.wrap t51))) (Wn.no rfl) rfl (R.conv in3 in34 rfl) ?_
      refine LE.p (v := (Value.int .i64 (IntKind.i64.wrap (x14 + (IntKind.i64.wrap t51))))) (Wn.no rfl) rfl (R.add rfl rfl) ?_
      refine LE.p (v := (Value.int .i64 (IntKind.i64.wrap (x14 + (IntKind.i64.wrap t51))))) (Wn.no rfl) rfl (R.assign rfl) ?_
      refine LE.nil ?_
      refine WE.reg ?_
      refine LE.p (v := (Value.int .i64 x15)) (Wn.no rfl) rfl (R.move f29) ?_
      refine LE.p (v := (Value.int .i64 (IntKind.i64.wrap (x15 + (1 : Int))))) (Wn.no rfl) rfl (R.add rfl rfl) ?_
      refine LE.p (v := (Value.int .i64 (IntKind.i64.wrap (x15 + (1 : Int))))) (Wn.no rfl) rfl (R.assign rfl) ?_
      refine LE.nil ?_
      obtain ⟨m22, hm23, h⟩ := h
      exact ⟨m22, hm23, _, _, _, _, h, f24, f25, rfl, rfl, rfl, rfl⟩
    · intro hb30
      replace h := M.ite_f h hb30
      refine WE.exit ?_
      refine WE.seq ?_
      refine WE.seq ?_
      obtain ⟨J53, hJ53, h⟩ := M.join_use h
      refine WE.regJ (fun e w => ∃ (x54 : Bool), J53 x54 w ∧ e 0 = (SV.v x2) ∧ e 1 = (Value.int .i64 p1) ∧ e 56 = (Value.bool x54)) ?_ ?_
      · clear hJ53
        refine LE.p (v := (Value.float .f64 x12)) (Wn.no rfl) rfl (R.move f26) ?_
        refine LE.p (v := (Value.int .i64 x14)) (Wn.no rfl) rfl (R.move f28) ?_
        refine LE.p (v := (Value.float .f64 (fOfInt x14))) (Wn.no rfl) rfl (R.i2f fo26 in3 rfl) ?_
        refine LE.p (v := (Value.bool (fNeq x12 (fOfInt x14)))) (Wn.no rfl) rfl (R.fneq rfl rfl) ?_
        refine LE.p (v := (Value.bool (fNeq x12 (fOfInt x14)))) (Wn.no rfl) rfl (R.move rfl) ?_
        rcases M.ite_use h with ⟨hb55, h⟩ | ⟨hb55, h⟩
        · refine LE.u (Un.no 4 52 false rfl rfl rfl (congrArg Value.bool hb55)) ?_
          refine LE.u (Un.no 4 52 false rfl rfl rfl (congrArg Value.bool hb55)) ?_
          refine LE.u (Un.no 4 52 false rfl rfl rfl (congrArg Value.bool hb55)) ?_
          refine LE.p (v := (Value.bool true)) (Wn.no rfl) rfl (R.pickT (congrArg Value.bool hb55) rfl) ?_
          refine LE.nil ?_
          exact ⟨_, h, f24, f25, rfl⟩
        · refine LE.p (v := (Value.float .f64 x13)) (Wn.yes 4 52 false rfl rfl rfl (congrArg Value.bool hb55)) rfl (R.move f27) ?_
          refine LE.p (v := (Value.float .f64 x12)) (Wn.yes 4 52 false rfl rfl rfl (congrArg Value.bool hb55)) rfl (R.move f26) ?_
          refine LE.p (v := (Value.bool (fNeq x13 x12))) (Wn.yes 4 52 false rfl rfl rfl (congrArg Value.bool hb55)) rfl (R.fneq rfl rfl) ?_
          refine LE.p (v := (Value.bool (fNeq x13 x12))) (Wn.no rfl) rfl (R.pickF (congrArg Value.bool hb55) rfl) ?_
          refine LE.nil ?_
          exact ⟨_, h, f24, f25, rfl⟩
      · rintro e56 w57 ⟨x54, h, f58, f59, f60⟩
        subst hJ53
        refine WE.condT rfl (b := x54) f60 ?_ ?_
        · intro hb61
          replace h := M.ite_t h hb61
          refine WE.seq ?_
          refine WE.reg ?_
          refine LE.p (v := (Value.bool false)) (Wn.no rfl) rfl (R.assign rfl) ?_
          refine LE.nil ?_
          refine WE.ret ?_
          exact ⟨_, (Res.tmp rfl Res.nil), _, rfl, h⟩
        · intro hb61
          replace h := M.ite_f h hb61
          refine WE.skip ?_
          refine WE.seq ?_
          refine WE.reg ?_
          refine LE.p (v := (Value.float .f64 (0 : Nat))) (Wn.no rfl) rfl (R.assign rfl) ?_
          refine LE.nil ?_
          refine WE.seq ?_
          refine WE.reg ?_
          refine LE.p (v := (Value.int .i64 p1)) (Wn.no rfl) rfl (R.move f59) ?_
          refine LE.p (v := (SV.v x2)) (Wn.no rfl) rfl (R.move f58) ?_
          refine LE.p (v := (Value.int .i64 (x2.len : Int))) (Wn.no rfl) rfl (R.len sl32 rfl) ?_
          refine LE.c (Wn.no rfl) rfl (R.call bd10 (Ls.cons rfl (Ls.cons rfl (Ls.cons rfl Ls.nil))) rfl) (Calls.mono h ?_)
          rintro _ w63 ⟨r62, rfl, h⟩
          refine ⟨_, rfl, ?_⟩
          refine LE.p (v := (Value.int .i64 r62)) (Wn.no rfl) rfl (R.assign rfl) ?_
          refine LE.nil ?_
          refine WE.seq ?_
          refine WE.seq ?_
          refine WE.reg ?_
          refine LE.p (v := (Value.int .i64 (0 : Int))) (Wn.no rfl) rfl (R.assign rfl) ?_
          refine LE.nil ?_
          refine WE.block ?_
          obtain ⟨I70, ⟨n69, h⟩, hr71⟩ := h
          refine WE.loop (fun n e w => ∃ (x64 : Nat) (x65 : Int), I70 n x64 x65 w ∧ e 0 = (SV.v x2) ∧ e 9 = (Value.float .f64 x64) ∧ e 10 = (Value.int .i64 r62) ∧ e 11 = (Value.int .i64 x65)) n69 ⟨_, _, h, f58, rfl, rfl, rfl⟩ ?_
          clear h
          rintro n69 e68 w67 ⟨x64, x65, h, f74, f75, f76, f77⟩
          replace h := hr71 n69 x64 x65 w67 h
          refine WE.seq ?_
          refine WE.seq ?_
          refine WE.reg ?_
          refine LE.p (v := (Value.int .i64 x65)) (Wn.no rfl) rfl (R.move f77) ?_
          refine LE.p (v := (SV.v x2)) (Wn.no rfl) rfl (R.move f74) ?_
          refine LE.p (v := (Value.int .i64 (x2.len : Int))) (Wn.no rfl) rfl (R.len sl32 rfl) ?_
          refine LE.p (v := (Value.bool (decide (x65 ≤ (x2.len : Int))))) (Wn.no rfl) rfl (R.leq rfl rfl) ?_
          refine LE.nil ?_
          refine WE.condT rfl (b := (decide (x65 ≤ (x2.len : Int)))) rfl ?_ ?_
          · intro hb78
            replace h := M.ite_t h hb78
            refine WE.skip ?_
            refine WE.seq ?_
            obtain ⟨J79, hJ79, h⟩ := M.join_use h
            refine WE.blkJ (fun e w => ∃ (x80 : Nat), J79 x80 w ∧ e 0 = (SV.v x2) ∧ e 9 = (Value.float .f64 x80) ∧ e 10 = (Value.int .i64 r62) ∧ e 11 = (Value.int .i64 x65)) ?_ ?_
            · clear hJ79
              obtain ⟨J81, hJ81, h⟩ := M.join_use h
              refine WE.join (fun e w => ∃ (x82 : Nat), J81 x82 w ∧ e 0 = (SV.v x2) ∧ e 9 = (Value.float .f64 x82) ∧ e 10 = (Value.int .i64 r62) ∧ e 11 = (Value.int .i64 x65)) ?_ ?_
              · clear hJ81
                refine WE.seq ?_
                refine WE.reg ?_
                refine LE.p (v := (Value.int .i64 x65)) (Wn.no rfl) rfl (R.move f77) ?_
                refine LE.p (v := (Value.int .i64 r62)) (Wn.no rfl) rfl (R.move f76) ?_
                refine LE.p (v := (Value.bool (x65 == r62))) (Wn.no rfl) rfl (R.eql rfl rfl) ?_
                refine LE.nil ?_
                refine WE.condT rfl (b := (x65 == r62)) rfl ?_ ?_
                · intro hb83
                  replace h := M.ite_t h hb83
                  refine WE.reg ?_
                  refine LE.p (v := (Value.float .f64 x64)) (Wn.no rfl) rfl (R.move f75) ?_
                  refine LE.c (Wn.no rfl) rfl (R.call bd16 Ls.nil rfl) (Calls.mono h ?_)
                  rintro _ w85 ⟨r84, rfl, h⟩
                  refine ⟨_, rfl, ?_⟩
                  refine LE.c (Wn.no rfl) rfl (R.call bd15 (Ls.cons rfl (Ls.cons rfl Ls.nil)) rfl) (Calls.mono h ?_)
                  rintro _ w87 ⟨r86, rfl, h⟩
                  refine ⟨_, rfl, ?_⟩
                  refine LE.p (v := (Value.float .f64 r86)) (Wn.no rfl) rfl (R.assign rfl) ?_
                  refine LE.nil ?_
                  exact ⟨_, h, f74, rfl, f76, f77⟩
                · intro hb83
                  replace h := M.ite_f h hb83
                  refine WE.skip ?_
                  exact ⟨_, h, f74, f75, f76, f77⟩
              · rintro e88 w89 ⟨x82, h, f90, f91, f92, f93⟩
                subst hJ81
                refine WE.seq ?_
                refine WE.reg ?_
                refine LE.p (v := (Value.int .i64 x65)) (Wn.no rfl) rfl (R.move f93) ?_
                refine LE.p (v := (SV.v x2)) (Wn.no rfl) rfl (R.move f90) ?_
                refine LE.p (v := (Value.int .i64 (x2.len : Int))) (Wn.no rfl) rfl (R.len sl32 rfl) ?_
                refine LE.p (v := (Value.bool (decide (x65 < (x2.len : Int))))) (Wn.no rfl) rfl (R.lss rfl rfl) ?_
                refine LE.nil ?_
                refine WE.condT rfl (b := (decide (x65 < (x2.len : Int)))) rfl ?_ ?_
                · intro hb94
                  replace h := M.ite_t h hb94
                  refine WE.reg ?_
                  refine LE.p (v := (Value.float .f64 x82)) (Wn.no rfl) rfl (R.move f91) ?_
                  refine LE.p (v := (SV.v x2)) (Wn.no rfl) rfl (R.move f90) ?_
                  refine LE.p (v := (Value.int .i64 x65)) (Wn.no rfl) rfl (R.move f93) ?_
                  obtain ⟨a95, h96, h97, h98, h⟩ := h
                  refine LE.p (v := (Value.pointer (some (a95.add (x65.toNat * 1))))) (Wn.no rfl) rfl (R.idx (s := x2) sl32 rfl rfl h96 h97 h98) ?_
                  obtain ⟨t99, h100, h⟩ := h
                  refine LE.r (v := (Value.int .u16 t99)) (Wn.no rfl) rfl (R.ld sc34 rfl h100) ?_
                  refine LE.p (v := (Value.float .f64 (fOfInt t99))) (Wn.no rfl) rfl (R.i2f fo26 in34 rfl) ?_
                  refine LE.c (Wn.no rfl) rfl (R.call bd15 (Ls.cons rfl (Ls.cons rfl Ls.nil)) rfl) (Calls.mono h ?_)
                  rintro _ w102 ⟨r101, rfl, h⟩
                  refine ⟨_, rfl, ?_⟩
                  refine LE.p (v := (Value.float .f64 r101)) (Wn.no rfl) rfl (R.assign rfl) ?_
                  refine LE.nil ?_
                  exact ⟨_, h, f90, rfl, f92, f93⟩
                · intro hb94
                  replace h := M.ite_f h hb94
                  refine WE.skip ?_
                  exact ⟨_, h, f90, f91, f92, f93⟩
            · rintro e103 w104 ⟨x80, h, f105, f106, f107, f108⟩
              subst hJ79
              refine WE.reg ?_
              refine LE.p (v := (Value.int .i64 x65)) (Wn.no rfl) rfl (R.move f108) ?_
              refine LE.p (v := (Value.int .i64 (IntKind.i64.wrap (x65 + (1 : Int))))) (Wn.no rfl) rfl (R.add rfl rfl) ?_
              refine LE.p (v := (Value.int .i64 (IntKind.i64.wrap (x65 + (1 : Int))))) (Wn.no rfl) rfl (R.assign rfl) ?_
              refine LE.nil ?_
              obtain ⟨m72, hm73, h⟩ := h
              exact ⟨m72, hm73, _, _, h, f105, f106, f107, rfl⟩
          · intro hb78
            replace h := M.ite_f h hb78
            refine WE.exit ?_
            refine WE.seq ?_
            obtain ⟨J109, hJ109, h⟩ := M.join_use h
            refine WE.regJ (fun e w => ∃ (x110 : Bool), J109 x110 w ∧ e 4 = (Value.bool x110)) ?_ ?_
            · clear hJ109
              refine LE.p (v := (Value.float .f64 x64)) (Wn.no rfl) rfl (R.move f75) ?_
              refine LE.c (Wn.no rfl) rfl (R.call bd13 (Ls.cons rfl (Ls.cons rfl Ls.nil)) rfl) (Calls.mono h ?_)
              rintro _ w112 ⟨r111, rfl, h⟩
              refine ⟨_, rfl, ?_⟩
              refine LE.p (v := (Value.bool r111)) (Wn.no rfl) rfl (R.move rfl) ?_
              rcases M.ite_use h with ⟨hb113, h⟩ | ⟨hb113, h⟩
              · refine LE.c (Wn.yes 2 86 true rfl rfl rfl (congrArg Value.bool hb113)) rfl (R.call bd12 Ls.nil rfl) (Calls.mono h ?_)
                rintro _ w115 ⟨r114, rfl, h⟩
                refine ⟨_, rfl, ?_⟩
                refine LE.p (v := (Value.bool r114)) (Wn.no rfl) rfl (R.pickT (congrArg Value.bool hb113) rfl) ?_
                refine LE.p (v := (Value.bool r114)) (Wn.no rfl) rfl (R.assign rfl) ?_
                refine LE.nil ?_
                exact ⟨_, h, rfl⟩
              · refine LE.u (Un.no 2 86 true rfl rfl rfl (congrArg Value.bool hb113)) ?_
                refine LE.p (v := (Value.bool false)) (Wn.no rfl) rfl (R.pickF (congrArg Value.bool hb113) rfl) ?_
                refine LE.p (v := (Value.bool false)) (Wn.no rfl) rfl (R.assign rfl) ?_
                refine LE.nil ?_
                exact ⟨_, h, rfl⟩
            · rintro e116 w117 ⟨x110, h, f118⟩
              subst hJ109
              refine WE.ret ?_
              exact ⟨_, (Res.tmp f118 Res.nil), _, rfl, h⟩
/-- The formula of signpost.signpostlaw2.MetricTells. -/
def F6 (p0 : Nat) (p1 : Nat) (p2 : Int) (p3 : SV) (p4 : Int) (K : Bool → World → Prop) (w0 : World) : Prop :=
M.join (fun (x2 : SV) (w9 : World) => 
Calls Try.prog 17 #[(Value.int .u64 p2)] w9 (R17 fun r15 r16 w17 =>
Calls Try.prog 18 #[(Value.int .u64 p2)] w17 (R18 fun r18 r19 w20 =>
M.join (fun (x22 : Bool) (w62 : World) => 
K x22 w62) fun J21 => 
Calls Try.prog 20 #[(Value.float .f64 p0), (Value.float .f64 p1)] w20 (R20 fun r23 w24 =>
M.ite r23 (
Calls Try.prog 20 #[(Value.float .f64 (Int.toNat p2)), (Value.float .f64 p0)] w24 (R20 fun r26 w27 =>
M.ite r26 (
Calls Try.prog 21 #[(Value.float .f64 r15), (Value.float .f64 r18)] w27 (R21 fun r29 w30 =>
M.ite r29 (
M.ite (r16 == r19) (
Calls Try.prog 11 #[(SV.v x2), (Value.int .i64 p4)] w30 (R11 fun r33 w34 =>
Calls Try.prog 22 #[(SV.v x2), (Value.int .i64 p4)] w34 (R22 fun r35 w36 =>
Calls Try.prog 14 #[(SV.v r33), (SV.v r35)] w36 (R14 fun r37 w38 =>
M.ite r37 (
M.new (.cells #[(Value.float .f64 (Int.toNat p2)), (Value.float .f64 p0)] 26) w38 fun b42 w40 =>
M.app Try.prog 22 22 22 (SV.mk (some b42) 2 2) (SV.v x2) w40 fun s43 w44 =>
Calls Try.prog 11 #[(SV.v s43), (Value.int .i64 (16 : Int))] w44 (R11 fun r46 w47 =>
M.new (.cells #[(Value.float .f64 (Int.toNat p2)), (Value.float .f64 p0)] 26) w47 fun b50 w48 =>
M.app Try.prog 22 22 22 (SV.mk (some b50) 2 2) (SV.v x2) w48 fun s51 w52 =>
Calls Try.prog 22 #[(SV.v s51), (Value.int .i64 (16 : Int))] w52 (R22 fun r54 w55 =>
Calls Try.prog 14 #[(SV.v r46), (SV.v r54)] w55 (R14 fun r56 w57 =>
M.ite r56 (
Calls Try.prog 12 #[] w57 (R12 fun r59 w60 =>
J21 r59 w60)) (
J21 false w57))))) (
J21 false w38))))) (
J21 false w30)) (
J21 false w30))) (
J21 false w27))) (
J21 false w24))))) fun J1 => 
M.ite (decide ((30 : Int) < (p3.len : Int))) (
M.bnd (0 : Int) (30 : Int) p3 <|
J1 (SV.sub p3 (Int.toNat (0 : Int)) (Int.toNat (30 : Int)) 1) w0) (
J1 p3 w0)
theorem F6_ok {w0 : World} {p0 : Nat} {p1 : Nat} {p2 : Int} {p3 : SV} {p4 : Int} {K : Bool → World → Prop} (h : F6 p0 p1 p2 p3 p4 K w0) : Calls Try.prog 6 #[(Value.float .f64 p0), (Value.float .f64 p1), (Value.int .u64 p2), (SV.v p3), (Value.int .i64 p4)] w0 (R6 K) := by
  refine calls_of_WE (args := [(Value.float .f64 p0), (Value.float .f64 p1), (Value.int .u64 p2), (SV.v p3), (Value.int .i64 p4)]) (rs := [.tmp 10]) Try.func6 rfl (N := 78) rfl rfl rfl rfl ?_
  refine WE.seq ?_
  refine WE.reg ?_
  refine LE.p (v := (Value.bool false)) (Wn.no rfl) rfl (R.assign rfl) ?_
  refine LE.nil ?_
  obtain ⟨J1, hJ1, h⟩ := M.join_use h
  refine WE.join (fun e w => ∃ (x2 : SV), J1 x2 w ∧ e 0 = (Value.float .f64 p0) ∧ e 1 = (Value.float .f64 p1) ∧ e 2 = (Value.int .u64 p2) ∧ e 3 = (SV.v x2) ∧ e 4 = (Value.int .i64 p4)) ?_ ?_
  · clear hJ1
    refine WE.seq ?_
    refine WE.reg ?_
    refine LE.p (v := (SV.v p3)) (Wn.no rfl) rfl (R.move rfl) ?_
    refine LE.p (v := (Value.int .i64 (p3.len : Int))) (Wn.no rfl) rfl (R.len sl22 rfl) ?_
    refine LE.p (v := (Value.bool (decide ((30 : Int) < (p3.len : Int))))) (Wn.no rfl) rfl (R.gtr rfl rfl) ?_
    refine LE.nil ?_
    refine WE.condT rfl (b := (decide ((30 : Int) < (p3.len : Int)))) rfl ?_ ?_
    · intro hb3
      replace h := M.ite_t h hb3
      refine WE.reg ?_
      refine LE.p (v := (SV.v p3)) (Wn.no rfl) rfl (R.move rfl) ?_
      obtain ⟨h4, h5, h6, h⟩ := h
      refine LE.p (v := (SV.v (SV.sub p3 (Int.toNat (0 : Int)) (Int.toNat (30 : Int)) 1))) (Wn.no rfl) rfl (R.slc (s := p3) (lo := (0 : Int)) (hi := (30 : Int)) _ _ sl22 rfl rfl rfl h4 h5 h6) ?_
      refine LE.p (v := (SV.v (SV.sub p3 (Int.toNat (0 : Int)) (Int.toNat (30 : Int)) 1))) (Wn.no rfl) rfl (R.assign rfl) ?_
      refine LE.nil ?_
      exact ⟨_, h, rfl, rfl, rfl, rfl, rfl⟩
    · intro hb3
      replace h := M.ite_f h hb3
      refine WE.skip ?_
      exact ⟨_, h, rfl, rfl, rfl, rfl, rfl⟩
  · rintro e8 w9 ⟨x2, h, f10, f11, f12, f13, f14⟩
    subst hJ1
    refine WE.seq ?_
    refine WE.reg ?_
    refine LE.p (v := (Value.int .u64 p2)) (Wn.no rfl) rfl (R.move f12) ?_
    refine LE.c (Wn.no rfl) rfl (R.call bd17 (Ls.cons rfl Ls.nil) rfl) (Calls.mono h ?_)
    rintro _ w17 ⟨r15, r16, rfl, h⟩
    refine ⟨_, rfl, ?_⟩
    refine LE.p (v := (Value.tuple #[(Value.float .f64 r15), (Value.bool r16)])) (Wn.no rfl) rfl (R.move rfl) ?_
    refine LE.p (v := (Value.float .f64 r15)) (Wn.no rfl) rfl (R.ext rfl rfl) ?_
    refine LE.p (v := (Value.bool r16)) (Wn.no rfl) rfl (R.ext rfl rfl) ?_
    refine LE.p (v := (Value.float .f64 r15)) (Wn.no rfl) rfl (R.assign rfl) ?_
    refine LE.p (v := (Value.bool r16)) (Wn.no rfl) rfl (R.assign rfl) ?_
    refine LE.nil ?_
    refine WE.seq ?_
    refine WE.reg ?_
    refine LE.p (v := (Value.int .u64 p2)) (Wn.no rfl) rfl (R.move f12) ?_
    refine LE.c (Wn.no rfl) rfl (R.call bd18 (Ls.cons rfl Ls.nil) rfl) (Calls.mono h ?_)
    rintro _ w20 ⟨r18, r19, rfl, h⟩
    refine ⟨_, rfl, ?_⟩
    refine LE.p (v := (Value.tuple #[(Value.float .f64 r18), (Value.bool r19)])) (Wn.no rfl) rfl (R.move rfl) ?_
    refine LE.p (v := (Value.float .f64 r18)) (Wn.no rfl) rfl (R.ext rfl rfl) ?_
    refine LE.p (v := (Value.bool r19)) (Wn.no rfl) rfl (R.ext rfl rfl) ?_
    refine LE.p (v := (Value.float .f64 r18)) (Wn.no rfl) rfl (R.assign rfl) ?_
    refine LE.p (v := (Value.bool r19)) (Wn.no rfl) rfl (R.assign rfl) ?_
    refine LE.nil ?_
    refine WE.seq ?_
    refine WE.reg ?_
    refine LE.p (v := (Value.int .u64 p2)) (Wn.no rfl) rfl (R.move f12) ?_
    refine LE.p (v := (Value.float .f64 (Int.toNat p2))) (Wn.no rfl) rfl (R.callx (xt19 p2) (by exact (Ls.cons rfl Ls.nil)) rfl) ?_
    refine LE.p (v := (Value.float .f64 (Int.toNat p2))) (Wn.no rfl) rfl (R.assign rfl) ?_
    refine LE.nil ?_
    refine WE.seq ?_
    obtain ⟨J21, hJ21, h⟩ := M.join_use h
    refine WE.regJ (fun e w => ∃ (x22 : Bool), J21 x22 w ∧ e 10 = (Value.bool x22)) ?_ ?_
    · clear hJ21
      refine LE.p (v := (Value.float .f64 p0)) (Wn.no rfl) rfl (R.move f10) ?_
      refine LE.p (v := (Value.float .f64 p1)) (Wn.no rfl) rfl (R.move f11) ?_
      refine LE.c (Wn.no rfl) rfl (R.call bd20 (Ls.cons rfl (Ls.cons rfl Ls.nil)) rfl) (Calls.mono h ?_)
      rintro _ w24 ⟨r23, rfl, h⟩
      refine ⟨_, rfl, ?_⟩
      refine LE.p (v := (Value.bool r23)) (Wn.no rfl) rfl (R.move rfl) ?_
      rcases M.ite_use h with ⟨hb25, h⟩ | ⟨hb25, h⟩
      · refine LE.p (v := (Value.float .f64 (Int.toNat p2))) (Wn.yes 3 36 true rfl rfl rfl (congrArg Value.bool hb25)) rfl (R.move rfl) ?_
        refine LE.p (v := (Value.float .f64 p0)) (Wn.yes 3 36 true rfl rfl rfl (congrArg Value.bool hb25)) rfl (R.move f10) ?_
        refine LE.c (Wn.yes 3 36 true rfl rfl rfl (congrArg Value.bool hb25)) rfl (R.call bd20 (Ls.cons rfl (Ls.cons rfl Ls.nil)) rfl) (Calls.mono h ?_)
        rintro _ w27 ⟨r26, rfl, h⟩
        refine ⟨_, rfl, ?_⟩
        refine LE.p (v := (Value.bool r26)) (Wn.no rfl) rfl (R.pickT (congrArg Value.bool hb25) rfl) ?_
        refine LE.p (v := (Value.bool r26)) (Wn.no rfl) rfl (R.move rfl) ?_
        rcases M.ite_use h with ⟨hb28, h⟩ | ⟨hb28, h⟩
        · refine LE.p (v := (Value.float .f64 r15)) (Wn.yes 8 41 true rfl rfl rfl (congrArg Value.bool hb28)) rfl (R.move rfl) ?_
          refine LE.p (v := (Value.float .f64 r18)) (Wn.yes 8 41 true rfl rfl rfl (congrArg Value.bool hb28)) rfl (R.move rfl) ?_
          refine LE.c (Wn.yes 8 41 true rfl rfl rfl (congrArg Value.bool hb28)) rfl (R.call bd21 (Ls.cons rfl (Ls.cons rfl Ls.nil)) rfl) (Calls.mono h ?_)
          rintro _ w30 ⟨r29, rfl, h⟩
          refine ⟨_, rfl, ?_⟩
          refine LE.p (v := (Value.bool r29)) (Wn.no rfl) rfl (R.pickT (congrArg Value.bool hb28) rfl) ?_
          refine LE.p (v := (Value.bool r29)) (Wn.no rfl) rfl (R.move rfl) ?_
          rcases M.ite_use h with ⟨hb31, h⟩ | ⟨hb31, h⟩
          · refine LE.p (v := (Value.bool r16)) (Wn.yes 13 46 true rfl rfl rfl (congrArg Value.bool hb31)) rfl (R.move rfl) ?_
            refine LE.p (v := (Value.bool r19)) (Wn.yes 13 46 true rfl rfl rfl (congrArg Value.bool hb31)) rfl (R.move rfl) ?_
            refine LE.p (v := (Value.bool (r16 == r19))) (Wn.yes 13 46 true rfl rfl rfl (congrArg Value.bool hb31)) rfl (R.beql bo4 rfl rfl) ?_
            refine LE.p (v := (Value.bool (r16 == r19))) (Wn.no rfl) rfl (R.pickT (congrArg Value.bool hb31) rfl) ?_
            refine LE.p (v := (Value.bool (r16 == r19))) (Wn.no rfl) rfl (R.move rfl) ?_
            rcases M.ite_use h with ⟨hb32, h⟩ | ⟨hb32, h⟩
            · refine LE.p (v := (SV.v x2)) (Wn.yes 18 51 true rfl rfl rfl (congrArg Value.bool hb32)) rfl (R.move f13) ?_
              refine LE.p (v := (Value.int .i64 p4)) (Wn.yes 18 51 true rfl rfl rfl (congrArg Value.bool hb32)) rfl (R.move f14) ?_
              refine LE.c (Wn.yes 18 51 true rfl rfl rfl (congrArg Value.bool hb32)) rfl (R.call bd11 (Ls.cons rfl (Ls.cons rfl Ls.nil)) rfl) (Calls.mono h ?_)
              rintro _ w34 ⟨r33, rfl, h⟩
              refine ⟨_, rfl, ?_⟩
              refine LE.p (v := (SV.v x2)) (Wn.yes 18 51 true rfl rfl rfl (congrArg Value.bool hb32)) rfl (R.move f13) ?_
              refine LE.p (v := (Value.int .i64 p4)) (Wn.yes 18 51 true rfl rfl rfl (congrArg Value.bool hb32)) rfl (R.move f14) ?_
              refine LE.c (Wn.yes 18 51 true rfl rfl rfl (congrArg Value.bool hb32)) rfl (R.call bd22 (Ls.cons rfl (Ls.cons rfl Ls.nil)) rfl) (Calls.mono h ?_)
              rintro _ w36 ⟨r35, rfl, h⟩
              refine ⟨_, rfl, ?_⟩
              refine LE.c (Wn.yes 18 51 true rfl rfl rfl (congrArg Value.bool hb32)) rfl (R.call bd14 (Ls.cons rfl (Ls.cons rfl Ls.nil)) rfl) (Calls.mono h ?_)
              rintro _ w38 ⟨r37, rfl, h⟩
              refine ⟨_, rfl, ?_⟩
              refine LE.p (v := (Value.bool r37)) (Wn.no rfl) rfl (R.pickT (congrArg Value.bool hb32) rfl) ?_
              refine LE.p (v := (Value.bool r37)) (Wn.no rfl) rfl (R.move rfl) ?_
              rcases M.ite_use h with ⟨hb39, h⟩ | ⟨hb39, h⟩
              · refine LE.p (v := (Value.float .f64 (Int.toNat p2))) (Wn.yes 27 60 true rfl rfl rfl (congrArg Value.bool hb39)) rfl (R.move rfl) ?_
                refine LE.p (v := (Value.float .f64 p0)) (Wn.yes 27 60 true rfl rfl rfl (congrArg Value.bool hb39)) rfl (R.move f10) ?_
                obtain ⟨b42, hpb42, w40, hww40, h⟩ := M.new_use h
                refine LE.r (v := (SV.v (SV.mk (some b42) 2 2))) (Wn.yes 27 60 true rfl rfl rfl (congrArg Value.bool hb39)) rfl (R.bsl (by exact (Ls.cons (R.Pr rfl) (Ls.cons (R.Pr rfl) Ls.nil))) (fun w => bs22_2 (Int.toNat p2) p0 w) hpb42 hww40) ?_
                refine LE.p (v := (SV.v x2)) (Wn.yes 27 60 true rfl rfl rfl (congrArg Value.bool hb39)) rfl (R.move f13) ?_
                obtain ⟨s43, w44, h45, h⟩ := h
                refine LE.r (v := (SV.v s43)) (Wn.yes 27 60 true rfl rfl rfl (congrArg Value.bool hb39)) rfl (R.app (s := (SV.mk (some b42) 2 2)) (r := s43) rfl rfl h45) ?_
                refine LE.c (Wn.yes 27 60 true rfl rfl rfl (congrArg Value.bool hb39)) rfl (R.call bd11 (Ls.cons rfl (Ls.cons rfl Ls.nil)) rfl) (Calls.mono h ?_)
                rintro _ w47 ⟨r46, rfl, h⟩
                refine ⟨_, rfl, ?_⟩
                refine LE.p (v := (Value.float .f64 (Int.toNat p2))) (Wn.yes 27 60 true rfl rfl rfl (congrArg Value.bool hb39)) rfl (R.move rfl) ?_
                refine LE.p (v := (Value.float .f64 p0)) (Wn.yes 27 60 true rfl rfl rfl (congrArg Value.bool hb39)) rfl (R.move f10) ?_
                obtain ⟨b50, hpb50, w48, hww48, h⟩ := M.new_use h
                refine LE.r (v := (SV.v (SV.mk (some b50) 2 2))) (Wn.yes 27 60 true rfl rfl rfl (congrArg Value.bool hb39)) rfl (R.bsl (by exact (Ls.cons (R.Pr rfl) (Ls.cons (R.Pr rfl) Ls.nil))) (fun w => bs22_2 (Int.toNat p2) p0 w) hpb50 hww48) ?_
                refine LE.p (v := (SV.v x2)) (Wn.yes 27 60 true rfl rfl rfl (congrArg Value.bool hb39)) rfl (R.move f13) ?_
                obtain ⟨s51, w52, h53, h⟩ := h
                refine LE.r (v := (SV.v s51)) (Wn.yes 27 60 true rfl rfl rfl (congrArg Value.bool hb39)) rfl (R.app (s := (SV.mk (some b50) 2 2)) (r := s51) rfl rfl h53) ?_
                refine LE.c (Wn.yes 27 60 true rfl rfl rfl (congrArg Value.bool hb39)) rfl (R.call bd22 (Ls.cons rfl (Ls.cons rfl Ls.nil)) rfl) (Calls.mono h ?_)
                rintro _ w55 ⟨r54, rfl, h⟩
                refine ⟨_, rfl, ?_⟩
                refine LE.c (Wn.yes 27 60 true rfl rfl rfl (congrArg Value.bool hb39)) rfl (R.call bd14 (Ls.cons rfl (Ls.cons rfl Ls.nil)) rfl) (Calls.mono h ?_)
                rintro _ w57 ⟨r56, rfl, h⟩
                refine ⟨_, rfl, ?_⟩
                refine LE.p (v := (Value.bool r56)) (Wn.no rfl) rfl (R.pickT (congrArg Value.bool hb39) rfl) ?_
                refine LE.p (v := (Value.bool r56)) (Wn.no rfl) rfl (R.move rfl) ?_
                rcases M.ite_use h with ⟨hb58, h⟩ | ⟨hb58, h⟩
                · refine LE.c (Wn.yes 42 75 true rfl rfl rfl (congrArg Value.bool hb58)) rfl (R.call bd12 Ls.nil rfl) (Calls.mono h ?_)
                  rintro _ w60 ⟨r59, rfl, h⟩
                  refine ⟨_, rfl, ?_⟩
                  refine LE.p (v := (Value.bool r59)) (Wn.no rfl) rfl (R.pickT (congrArg Value.bool hb58) rfl) ?_
                  refine LE.p (v := (Value.bool r59)) (Wn.no rfl) rfl (R.assign rfl) ?_
                  refine LE.nil ?_
                  exact ⟨_, h, rfl⟩
                · refine LE.u (Un.no 42 75 true rfl rfl rfl (congrArg Value.bool hb58)) ?_
                  refine LE.p (v := (Value.bool false)) (Wn.no rfl) rfl (R.pickF (congrArg Value.bool hb58) rfl) ?_
                  refine LE.p (v := (Value.bool false)) (Wn.no rfl) rfl (R.assign rfl) ?_
                  refine LE.nil ?_
                  exact ⟨_, h, rfl⟩
              · refine LE.u (Un.no 27 60 true rfl rfl rfl (congrArg Value.bool hb39)) ?_
                refine LE.u (Un.no 27 60 true rfl rfl rfl (congrArg Value.bool hb39)) ?_
                refine LE.u (Un.no 27 60 true rfl rfl rfl (congrArg Value.bool hb39)) ?_
                refine LE.u (Un.no 27 60 true rfl rfl rfl (congrArg Value.bool hb39)) ?_
                refine LE.u (Un.no 27 60 true rfl rfl rfl (congrArg Value.bool hb39)) ?_
                refine LE.u (Un.no 27 60 true rfl rfl rfl (congrArg Value.bool hb39)) ?_
                refine LE.u (Un.no 27 60 true rfl rfl rfl (congrArg Value.bool hb39)) ?_
                refine LE.u (Un.no 27 60 true rfl rfl rfl (congrArg Value.bool hb39)) ?_
                refine LE.u (Un.no 27 60 true rfl rfl rfl (congrArg Value.bool hb39)) ?_
                refine LE.u (Un.no 27 60 true rfl rfl rfl (congrArg Value.bool hb39)) ?_
                refine LE.u (Un.no 27 60 true rfl rfl rfl (congrArg Value.bool hb39)) ?_
                refine LE.u (Un.no 27 60 true rfl rfl rfl (congrArg Value.bool hb39)) ?_
                refine LE.u (Un.no 27 60 true rfl rfl rfl (congrArg Value.bool hb39)) ?_
                refine LE.p (v := (Value.bool false)) (Wn.no rfl) rfl (R.pickF (congrArg Value.bool hb39) rfl) ?_
                refine LE.p (v := (Value.bool false)) (Wn.no rfl) rfl (R.move rfl) ?_
                refine LE.u (Un.no 42 75 true rfl rfl rfl rfl) ?_
                refine LE.p (v := (Value.bool false)) (Wn.no rfl) rfl (R.pickF rfl rfl) ?_
                refine LE.p (v := (Value.bool false)) (Wn.no rfl) rfl (R.assign rfl) ?_
                refine LE.nil ?_
                exact ⟨_, h, rfl⟩
            · refine LE.u (Un.no 18 51 true rfl rfl rfl (congrArg Value.bool hb32)) ?_
              refine LE.u (Un.no 18 51 true rfl rfl rfl (congrArg Value.bool hb32)) ?_
              refine LE.u (Un.no 18 51 true rfl rfl rfl (congrArg Value.bool hb32)) ?_
              refine LE.u (Un.no 18 51 true rfl rfl rfl (congrArg Value.bool hb32)) ?_
              refine LE.u (Un.no 18 51 true rfl rfl rfl (congrArg Value.bool hb32)) ?_
              refine LE.u (Un.no 18 51 true rfl rfl rfl (congrArg Value.bool hb32)) ?_
              refine LE.u (Un.no 18 51 true rfl rfl rfl (congrArg Value.bool hb32)) ?_
              refine LE.p (v := (Value.bool false)) (Wn.no rfl) rfl (R.pickF (congrArg Value.bool hb32) rfl) ?_
              refine LE.p (v := (Value.bool false)) (Wn.no rfl) rfl (R.move rfl) ?_
              refine LE.u (Un.no 27 60 true rfl rfl rfl rfl) ?_
              refine LE.u (Un.no 27 60 true rfl rfl rfl rfl) ?_
              refine LE.u (Un.no 27 60 true rfl rfl rfl rfl) ?_
              refine LE.u (Un.no 27 60 true rfl rfl rfl rfl) ?_
              refine LE.u (Un.no 27 60 true rfl rfl rfl rfl) ?_
              refine LE.u (Un.no 27 60 true rfl rfl rfl rfl) ?_
              refine LE.u (Un.no 27 60 true rfl rfl rfl rfl) ?_
              refine LE.u (Un.no 27 60 true rfl rfl rfl rfl) ?_
              refine LE.u (Un.no 27 60 true rfl rfl rfl rfl) ?_
              refine LE.u (Un.no 27 60 true rfl rfl rfl rfl) ?_
              refine LE.u (Un.no 27 60 true rfl rfl rfl rfl) ?_
              refine LE.u (Un.no 27 60 true rfl rfl rfl rfl) ?_
              refine LE.u (Un.no 27 60 true rfl rfl rfl rfl) ?_
              refine LE.p (v := (Value.bool false)) (Wn.no rfl) rfl (R.pickF rfl rfl) ?_
              refine LE.p (v := (Value.bool false)) (Wn.no rfl) rfl (R.move rfl) ?_
              refine LE.u (Un.no 42 75 true rfl rfl rfl rfl) ?_
              refine LE.p (v := (Value.bool false)) (Wn.no rfl) rfl (R.pickF rfl rfl) ?_
              refine LE.p (v := (Value.bool false)) (Wn.no rfl) rfl (R.assign rfl) ?_
              refine LE.nil ?_
              exact ⟨_, h, rfl⟩
          · refine LE.u (Un.no 13 46 true rfl rfl rfl (congrArg Value.bool hb31)) ?_
            refine LE.u (Un.no 13 46 true rfl rfl rfl (congrArg Value.bool hb31)) ?_
            refine LE.u (Un.no 13 46 true rfl rfl rfl (congrArg Value.bool hb31)) ?_
            refine LE.p (v := (Value.bool false)) (Wn.no rfl) rfl (R.pickF (congrArg Value.bool hb31) rfl) ?_
            refine LE.p (v := (Value.bool false)) (Wn.no rfl) rfl (R.move rfl) ?_
            refine LE.u (Un.no 18 51 true rfl rfl rfl rfl) ?_
            refine LE.u (Un.no 18 51 true rfl rfl rfl rfl) ?_
            refine LE.u (Un.no 18 51 true rfl rfl rfl rfl) ?_
            refine LE.u (Un.no 18 51 true rfl rfl rfl rfl) ?_
            refine LE.u (Un.no 18 51 true rfl rfl rfl rfl) ?_
            refine LE.u (Un.no 18 51 true rfl rfl rfl rfl) ?_
            refine LE.u (Un.no 18 51 true rfl rfl rfl rfl) ?_
            refine LE.p (v := (Value.bool false)) (Wn.no rfl) rfl (R.pickF rfl rfl) ?_
            refine LE.p (v := (Value.bool false)) (Wn.no rfl) rfl (R.move rfl) ?_
            refine LE.u (Un.no 27 60 true rfl rfl rfl rfl) ?_
            refine LE.u (Un.no 27 60 true rfl rfl rfl rfl) ?_
            refine LE.u (Un.no 27 60 true rfl rfl rfl rfl) ?_
            refine LE.u (Un.no 27 60 true rfl rfl rfl rfl) ?_
            refine LE.u (Un.no 27 60 true rfl rfl rfl rfl) ?_
            refine LE.u (Un.no 27 60 true rfl rfl rfl rfl) ?_
            refine LE.u (Un.no 27 60 true rfl rfl rfl rfl) ?_
            refine LE.u (Un.no 27 60 true rfl rfl rfl rfl) ?_
            refine LE.u (Un.no 27 60 true rfl rfl rfl rfl) ?_
            refine LE.u (Un.no 27 60 true rfl rfl rfl rfl) ?_
            refine LE.u (Un.no 27 60 true rfl rfl rfl rfl) ?_
            refine LE.u (Un.no 27 60 true rfl rfl rfl rfl) ?_
            refine LE.u (Un.no 27 60 true rfl rfl rfl rfl) ?_
            refine LE.p (v := (Value.bool false)) (Wn.no rfl) rfl (R.pickF rfl rfl) ?_
            refine LE.p (v := (Value.bool false)) (Wn.no rfl) rfl (R.move rfl) ?_
            refine LE.u (Un.no 42 75 true rfl rfl rfl rfl) ?_
            refine LE.p (v := (Value.bool false)) (Wn.no rfl) rfl (R.pickF rfl rfl) ?_
            refine LE.p (v := (Value.bool false)) (Wn.no rfl) rfl (R.assign rfl) ?_
            refine LE.nil ?_
            exact ⟨_, h, rfl⟩
        · refine LE.u (Un.no 8 41 true rfl rfl rfl (congrArg Value.bool hb28)) ?_
          refine LE.u (Un.no 8 41 true rfl rfl rfl (congrArg Value.bool hb28)) ?_
          refine LE.u (Un.no 8 41 true rfl rfl rfl (congrArg Value.bool hb28)) ?_
          refine LE.p (v := (Value.bool false)) (Wn.no rfl) rfl (R.pickF (congrArg Value.bool hb28) rfl) ?_
          refine LE.p (v := (Value.bool false)) (Wn.no rfl) rfl (R.move rfl) ?_
          refine LE.u (Un.no 13 46 true rfl rfl rfl rfl) ?_
          refine LE.u (Un.no 13 46 true rfl rfl rfl rfl) ?_
          refine LE.u (Un.no 13 46 true rfl rfl rfl rfl) ?_
          refine LE.p (v := (Value.bool false)) (Wn.no rfl) rfl (R.pickF rfl rfl) ?_
          refine LE.p (v := (Value.bool false)) (Wn.no rfl) rfl (R.move rfl) ?_
          refine LE.u (Un.no 18 51 true rfl rfl rfl rfl) ?_
          refine LE.u (Un.no 18 51 true rfl rfl rfl rfl) ?_
          refine LE.u (Un.no 18 51 true rfl rfl rfl rfl) ?_
          refine LE.u (Un.no 18 51 true rfl rfl rfl rfl) ?_
          refine LE.u (Un.no 18 51 true rfl rfl rfl rfl) ?_
          refine LE.u (Un.no 18 51 true rfl rfl rfl rfl) ?_
          refine LE.u (Un.no 18 51 true rfl rfl rfl rfl) ?_
          refine LE.p (v := (Value.bool false)) (Wn.no rfl) rfl (R.pickF rfl rfl) ?_
          refine LE.p (v := (Value.bool false)) (Wn.no rfl) rfl (R.move rfl) ?_
          refine LE.u (Un.no 27 60 true rfl rfl rfl rfl) ?_
          refine LE.u (Un.no 27 60 true rfl rfl rfl rfl) ?_
          refine LE.u (Un.no 27 60 true rfl rfl rfl rfl) ?_
          refine LE.u (Un.no 27 60 true rfl rfl rfl rfl) ?_
          refine LE.u (Un.no 27 60 true rfl rfl rfl rfl) ?_
          refine LE.u (Un.no 27 60 true rfl rfl rfl rfl) ?_
          refine LE.u (Un.no 27 60 true rfl rfl rfl rfl) ?_
          refine LE.u (Un.no 27 60 true rfl rfl rfl rfl) ?_
          refine LE.u (Un.no 27 60 true rfl rfl rfl rfl) ?_
          refine LE.u (Un.no 27 60 true rfl rfl rfl rfl) ?_
          refine LE.u (Un.no 27 60 true rfl rfl rfl rfl) ?_
          refine LE.u (Un.no 27 60 true rfl rfl rfl rfl) ?_
          refine LE.u (Un.no 27 60 true rfl rfl rfl rfl) ?_
          refine LE.p (v := (Value.bool false)) (Wn.no rfl) rfl (R.pickF rfl rfl) ?_
          refine LE.p (v := (Value.bool false)) (Wn.no rfl) rfl (R.move rfl) ?_
          refine LE.u (Un.no 42 75 true rfl rfl rfl rfl) ?_
          refine LE.p (v := (Value.bool false)) (Wn.no rfl) rfl (R.pickF rfl rfl) ?_
          refine LE.p (v := (Value.bool false)) (Wn.no rfl) rfl (R.assign rfl) ?_
          refine LE.nil ?_
          exact ⟨_, h, rfl⟩
      · refine LE.u (Un.no 3 36 true rfl rfl rfl (congrArg Value.bool hb25)) ?_
        refine LE.u (Un.no 3 36 true rfl rfl rfl (congrArg Value.bool hb25)) ?_
        refine LE.u (Un.no 3 36 true rfl rfl rfl (congrArg Value.bool hb25)) ?_
        refine LE.p (v := (Value.bool false)) (Wn.no rfl) rfl (R.pickF (congrArg Value.bool hb25) rfl) ?_
        refine LE.p (v := (Value.bool false)) (Wn.no rfl) rfl (R.move rfl) ?_
        refine LE.u (Un.no 8 41 true rfl rfl rfl rfl) ?_
        refine LE.u (Un.no 8 41 true rfl rfl rfl rfl) ?_
        refine LE.u (Un.no 8 41 true rfl rfl rfl rfl) ?_
        refine LE.p (v := (Value.bool false)) (Wn.no rfl) rfl (R.pickF rfl rfl) ?_
        refine LE.p (v := (Value.bool false)) (Wn.no rfl) rfl (R.move rfl) ?_
        refine LE.u (Un.no 13 46 true rfl rfl rfl rfl) ?_
        refine LE.u (Un.no 13 46 true rfl rfl rfl rfl) ?_
        refine LE.u (Un.no 13 46 true rfl rfl rfl rfl) ?_
        refine LE.p (v := (Value.bool false)) (Wn.no rfl) rfl (R.pickF rfl rfl) ?_
        refine LE.p (v := (Value.bool false)) (Wn.no rfl) rfl (R.move rfl) ?_
        refine LE.u (Un.no 18 51 true rfl rfl rfl rfl) ?_
        refine LE.u (Un.no 18 51 true rfl rfl rfl rfl) ?_
        refine LE.u (Un.no 18 51 true rfl rfl rfl rfl) ?_
        refine LE.u (Un.no 18 51 true rfl rfl rfl rfl) ?_
        refine LE.u (Un.no 18 51 true rfl rfl rfl rfl) ?_
        refine LE.u (Un.no 18 51 true rfl rfl rfl rfl) ?_
        refine LE.u (Un.no 18 51 true rfl rfl rfl rfl) ?_
        refine LE.p (v := (Value.bool false)) (Wn.no rfl) rfl (R.pickF rfl rfl) ?_
        refine LE.p (v := (Value.bool false)) (Wn.no rfl) rfl (R.move rfl) ?_
        refine LE.u (Un.no 27 60 true rfl rfl rfl rfl) ?_
        refine LE.u (Un.no 27 60 true rfl rfl rfl rfl) ?_
        refine LE.u (Un.no 27 60 true rfl rfl rfl rfl) ?_
        refine LE.u (Un.no 27 60 true rfl rfl rfl rfl) ?_
        refine LE.u (Un.no 27 60 true rfl rfl rfl rfl) ?_
        refine LE.u (Un.no 27 60 true rfl rfl rfl rfl) ?_
        refine LE.u (Un.no 27 60 true rfl rfl rfl rfl) ?_
        refine LE.u (Un.no 27 60 true rfl rfl rfl rfl) ?_
        refine LE.u (Un.no 27 60 true rfl rfl rfl rfl) ?_
        refine LE.u (Un.no 27 60 true rfl rfl rfl rfl) ?_
        refine LE.u (Un.no 27 60 true rfl rfl rfl rfl) ?_
        refine LE.u (Un.no 27 60 true rfl rfl rfl rfl) ?_
        refine LE.u (Un.no 27 60 true rfl rfl rfl rfl) ?_
        refine LE.p (v := (Value.bool false)) (Wn.no rfl) rfl (R.pickF rfl rfl) ?_
        refine LE.p (v := (Value.bool false)) (Wn.no rfl) rfl (R.move rfl) ?_
        refine LE.u (Un.no 42 75 true rfl rfl rfl rfl) ?_
        refine LE.p (v := (Value.bool false)) (Wn.no rfl) rfl (R.pickF rfl rfl) ?_
        refine LE.p (v := (Value.bool false)) (Wn.no rfl) rfl (R.assign rfl) ?_
        refine LE.nil ?_
        exact ⟨_, h, rfl⟩
    · rintro e61 w62 ⟨x22, h, f63⟩
      subst hJ21
      refine WE.ret ?_
      exact ⟨_, (Res.tmp f63 Res.nil), _, rfl, h⟩
/-- The formula of signpost.signpostlaw2.MetricBits. -/
def F7 (p0 : Nat) (p1 : Nat) (p2 : Int) (K : Bool → World → Prop) (w0 : World) : Prop :=
M.join (fun (x2 : Bool) (w17 : World) => 
M.ite x2 (
K false w17) (
Calls Try.prog 17 #[(Value.int .u64 p2)] w17 (R17 fun r21 r22 w23 =>
M.join (fun (x25 : Bool) (w44 : World) => 
K x25 w44) fun J24 => 
M.ite (r22 == (decide (p2 ≤ (9218868437227405312 : Int)))) (
M.ite (!r22) (
M.ite (fEql r21 (0 : Nat)) (
Calls Try.prog 12 #[] w23 (R12 fun r29 w30 =>
J24 r29 w30)) (
M.ite r22 (
Calls Try.prog 24 #[(Value.float .f64 r21)] w23 (R24 fun r32 w33 =>
M.ite (r32 == p2) (
Calls Try.prog 12 #[] w33 (R12 fun r35 w36 =>
J24 r35 w36)) (
J24 false w33))) (
J24 false w23))) (
M.ite r22 (
Calls Try.prog 24 #[(Value.float .f64 r21)] w23 (R24 fun r38 w39 =>
M.ite (r38 == p2) (
Calls Try.prog 12 #[] w39 (R12 fun r41 w42 =>
J24 r41 w42)) (
J24 false w39))) (
J24 false w23))) (
J24 false w23)))) fun J1 => 
Calls Try.prog 23 #[(Value.float .f64 p0), (Value.float .f64 p1)] w0 (R23 fun r3 w4 =>
Calls Try.prog 24 #[(Value.float .f64 p0)] w4 (R24 fun r5 w6 =>
Calls Try.prog 24 #[(Value.float .f64 p1)] w6 (R24 fun r7 w8 =>
M.ite (!(r3 == (decide (r5 < r7)))) (
J1 true w8) (
Calls Try.prog 25 #[(Value.float .f64 p0), (Value.float .f64 p1)] w8 (R25 fun r10 w11 =>
Calls Try.prog 24 #[(Value.float .f64 p0)] w11 (R24 fun r12 w13 =>
Calls Try.prog 24 #[(Value.float .f64 p1)] w13 (R24 fun r14 w15 =>
J1 (!(r10 == (r12 == r14))) w15)))))))
theorem F7_ok {w0 : World} {p0 : Nat} {p1 : Nat} {p2 : Int} {K : Bool → World → Prop} (h : F7 p0 p1 p2 K w0) : Calls Try.prog 7 #[(Value.float .f64 p0), (Value.float .f64 p1), (Value.int .u64 p2)] w0 (R7 K) := by
  refine calls_of_WE (args := [(Value.float .f64 p0), (Value.float .f64 p1), (Value.int .u64 p2)]) (rs := [.tmp 6]) Try.func7 rfl (N := 58) rfl rfl rfl rfl ?_
  refine WE.seq ?_
  refine WE.reg ?_
  refine LE.p (v := (Value.bool false)) (Wn.no rfl) rfl (R.assign rfl) ?_
  refine LE.nil ?_
  refine WE.seq ?_
  refine WE.seq ?_
  obtain ⟨J1, hJ1, h⟩ := M.join_use h
  refine WE.regJ (fun e w => ∃ (x2 : Bool), J1 x2 w ∧ e 2 = (Value.int .u64 p2) ∧ e 28 = (Value.bool x2)) ?_ ?_
  · clear hJ1
    refine LE.p (v := (Value.float .f64 p0)) (Wn.no rfl) rfl (R.move rfl) ?_
    refine LE.p (v := (Value.float .f64 p1)) (Wn.no rfl) rfl (R.move rfl) ?_
    refine LE.c (Wn.no rfl) rfl (R.call bd23 (Ls.cons rfl (Ls.cons rfl Ls.nil)) rfl) (Calls.mono h ?_)
    rintro _ w4 ⟨r3, rfl, h⟩
    refine ⟨_, rfl, ?_⟩
    refine LE.p (v := (Value.float .f64 p0)) (Wn.no rfl) rfl (R.move rfl) ?_
    refine LE.c (Wn.no rfl) rfl (R.call bd24 (Ls.cons rfl Ls.nil) rfl) (Calls.mono h ?_)
    rintro _ w6 ⟨r5, rfl, h⟩
    refine ⟨_, rfl, ?_⟩
    refine LE.p (v := (Value.float .f64 p1)) (Wn.no rfl) rfl (R.move rfl) ?_
    refine LE.c (Wn.no rfl) rfl (R.call bd24 (Ls.cons rfl Ls.nil) rfl) (Calls.mono h ?_)
    rintro _ w8 ⟨r7, rfl, h⟩
    refine ⟨_, rfl, ?_⟩
    refine LE.p (v := (Value.bool (decide (r5 < r7)))) (Wn.no rfl) rfl (R.lss rfl rfl) ?_
    refine LE.p (v := (Value.bool (!(r3 == (decide (r5 < r7)))))) (Wn.no rfl) rfl (R.bneq bo4 rfl rfl) ?_
    refine LE.p (v := (Value.bool (!(r3 == (decide (r5 < r7)))))) (Wn.no rfl) rfl (R.move rfl) ?_
    rcases M.ite_use h with ⟨hb9, h⟩ | ⟨hb9, h⟩
    · refine LE.u (Un.no 9 18 false rfl rfl rfl (congrArg Value.bool hb9)) ?_
      refine LE.u (Un.no 9 18 false rfl rfl rfl (congrArg Value.bool hb9)) ?_
      refine LE.u (Un.no 9 18 false rfl rfl rfl (congrArg Value.bool hb9)) ?_
      refine LE.u (Un.no 9 18 false rfl rfl rfl (congrArg Value.bool hb9)) ?_
      refine LE.u (Un.no 9 18 false rfl rfl rfl (congrArg Value.bool hb9)) ?_
      refine LE.u (Un.no 9 18 false rfl rfl rfl (congrArg Value.bool hb9)) ?_
      refine LE.u (Un.no 9 18 false rfl rfl rfl (congrArg Value.bool hb9)) ?_
      refine LE.u (Un.no 9 18 false rfl rfl rfl (congrArg Value.bool hb9)) ?_
      refine LE.u (Un.no 9 18 false rfl rfl rfl (congrArg Value.bool hb9)) ?_
      refine LE.p (v := (Value.bool true)) (Wn.no rfl) rfl (R.pickT (congrArg Value.bool hb9) rfl) ?_
      refine LE.nil ?_
      exact ⟨_, h, rfl, rfl⟩
    · refine LE.p (v := (Value.float .f64 p0)) (Wn.yes 9 18 false rfl rfl rfl (congrArg Value.bool hb9)) rfl (R.move rfl) ?_
      refine LE.p (v := (Value.float .f64 p1)) (Wn.yes 9 18 false rfl rfl rfl (congrArg Value.bool hb9)) rfl (R.move rfl) ?_
      refine LE.c (Wn.yes 9 18 false rfl rfl rfl (congrArg Value.bool hb9)) rfl (R.call bd25 (Ls.cons rfl (Ls.cons rfl Ls.nil)) rfl) (Calls.mono h ?_)
      rintro _ w11 ⟨r10, rfl, h⟩
      refine ⟨_, rfl, ?_⟩
      refine LE.p (v := (Value.float .f64 p0)) (Wn.yes 9 18 false rfl rfl rfl (congrArg Value.bool hb9)) rfl (R.move rfl) ?_
      refine LE.c (Wn.yes 9 18 false rfl rfl rfl (congrArg Value.bool hb9)) rfl (R.call bd24 (Ls.cons rfl Ls.nil) rfl) (Calls.mono h ?_)
      rintro _ w13 ⟨r12, rfl, h⟩
      refine ⟨_, rfl, ?_⟩
      refine LE.p (v := (Value.float .f64 p1)) (Wn.yes 9 18 false rfl rfl rfl (congrArg Value.bool hb9)) rfl (R.move rfl) ?_
      refine LE.c (Wn.yes 9 18 false rfl rfl rfl (congrArg Value.bool hb9)) rfl (R.call bd24 (Ls.cons rfl Ls.nil) rfl) (Calls.mono h ?_)
      rintro _ w15 ⟨r14, rfl, h⟩
      refine ⟨_, rfl, ?_⟩
      refine LE.p (v := (Value.bool (r12 == r14))) (Wn.yes 9 18 false rfl rfl rfl (congrArg Value.bool hb9)) rfl (R.eql rfl rfl) ?_
      refine LE.p (v := (Value.bool (!(r10 == (r12 == r14))))) (Wn.yes 9 18 false rfl rfl rfl (congrArg Value.bool hb9)) rfl (R.bneq bo4 rfl rfl) ?_
      refine LE.p (v := (Value.bool (!(r10 == (r12 == r14))))) (Wn.no rfl) rfl (R.pickF (congrArg Value.bool hb9) rfl) ?_
      refine LE.nil ?_
      exact ⟨_, h, rfl, rfl⟩
  · rintro e16 w17 ⟨x2, h, f18, f19⟩
    subst hJ1
    refine WE.condT rfl (b := x2) f19 ?_ ?_
    · intro hb20
      replace h := M.ite_t h hb20
      refine WE.seq ?_
      refine WE.reg ?_
      refine LE.p (v := (Value.bool false)) (Wn.no rfl) rfl (R.assign rfl) ?_
      refine LE.nil ?_
      refine WE.ret ?_
      exact ⟨_, (Res.tmp rfl Res.nil), _, rfl, h⟩
    · intro hb20
      replace h := M.ite_f h hb20
      refine WE.skip ?_
      refine WE.seq ?_
      refine WE.reg ?_
      refine LE.p (v := (Value.int .u64 p2)) (Wn.no rfl) rfl (R.move f18) ?_
      refine LE.c (Wn.no rfl) rfl (R.call bd17 (Ls.cons rfl Ls.nil) rfl) (Calls.mono h ?_)
      rintro _ w23 ⟨r21, r22, rfl, h⟩
      refine ⟨_, rfl, ?_⟩
      refine LE.p (v := (Value.tuple #[(Value.float .f64 r21), (Value.bool r22)])) (Wn.no rfl) rfl (R.move rfl) ?_
      refine LE.p (v := (Value.float .f64 r21)) (Wn.no rfl) rfl (R.ext rfl rfl) ?_
      refine LE.p (v := (Value.bool r22)) (Wn.no rfl) rfl (R.ext rfl rfl) ?_
      refine LE.p (v := (Value.float .f64 r21)) (Wn.no rfl) rfl (R.assign rfl) ?_
      refine LE.p (v := (Value.bool r22)) (Wn.no rfl) rfl (R.assign rfl) ?_
      refine LE.nil ?_
      refine WE.seq ?_
      obtain ⟨J24, hJ24, h⟩ := M.join_use h
      refine WE.regJ (fun e w => ∃ (x25 : Bool), J24 x25 w ∧ e 6 = (Value.bool x25)) ?_ ?_
      · clear hJ24
        refine LE.p (v := (Value.bool r22)) (Wn.no rfl) rfl (R.move rfl) ?_
        refine LE.p (v := (Value.int .u64 p2)) (Wn.no rfl) rfl (R.move f18) ?_
        refine LE.p (v := (Value.bool (decide (p2 ≤ (9218868437227405312 : Int))))) (Wn.no rfl) rfl (R.leq rfl rfl) ?_
        refine LE.p (v := (Value.bool (r22 == (decide (p2 ≤ (9218868437227405312 : Int)))))) (Wn.no rfl) rfl (R.beql bo4 rfl rfl) ?_
        refine LE.p (v := (Value.bool (r22 == (decide (p2 ≤ (9218868437227405312 : Int)))))) (Wn.no rfl) rfl (R.move rfl) ?_
        rcases M.ite_use h with ⟨hb26, h⟩ | ⟨hb26, h⟩
        · refine LE.p (v := (Value.bool r22)) (Wn.yes 4 38 true rfl rfl rfl (congrArg Value.bool hb26)) rfl (R.move rfl) ?_
          refine LE.p (v := (Value.bool (!r22))) (Wn.yes 4 38 true rfl rfl rfl (congrArg Value.bool hb26)) rfl (R.not rfl) ?_
          refine LE.p (v := (Value.bool (!r22))) (Wn.yes 4 38 true rfl rfl rfl (congrArg Value.bool hb26)) rfl (R.move rfl) ?_
          rcases M.ite_use h with ⟨hb27, h⟩ | ⟨hb27, h⟩
          · refine LE.p (v := (Value.float .f64 r21)) (Wn.yes 7 41 true rfl rfl rfl (congrArg Value.bool hb27)) rfl (R.move rfl) ?_
            refine LE.p (v := (Value.bool (fEql r21 (0 : Nat)))) (Wn.yes 7 41 true rfl rfl rfl (congrArg Value.bool hb27)) rfl (R.feql rfl rfl) ?_
            refine LE.p (v := (Value.bool (fEql r21 (0 : Nat)))) (Wn.yes 4 38 true rfl rfl rfl (congrArg Value.bool hb26)) rfl (R.pickT (congrArg Value.bool hb27) rfl) ?_
            refine LE.p (v := (Value.bool (fEql r21 (0 : Nat)))) (Wn.yes 4 38 true rfl rfl rfl (congrArg Value.bool hb26)) rfl (R.move rfl) ?_
            rcases M.ite_use h with ⟨hb28, h⟩ | ⟨hb28, h⟩
            · refine LE.u (Un.no 11 45 false rfl rfl rfl (congrArg Value.bool hb28)) ?_
              refine LE.u (Un.no 11 45 false rfl rfl rfl (congrArg Value.bool hb28)) ?_
              refine LE.u (Un.un 13 47 true rfl rfl rfl rfl) ?_
              refine LE.u (Un.un 13 47 true rfl rfl rfl rfl) ?_
              refine LE.u (Un.un 13 47 true rfl rfl rfl rfl) ?_
              refine LE.u (Un.un 13 47 true rfl rfl rfl rfl) ?_
              refine LE.u (Un.no 11 45 false rfl rfl rfl (congrArg Value.bool hb28)) ?_
              refine LE.p (v := (Value.bool true)) (Wn.yes 4 38 true rfl rfl rfl (congrArg Value.bool hb26)) rfl (R.pickT (congrArg Value.bool hb28) rfl) ?_
              refine LE.p (v := (Value.bool true)) (Wn.no rfl) rfl (R.pickT (congrArg Value.bool hb26) rfl) ?_
              refine LE.p (v := (Value.bool true)) (Wn.no rfl) rfl (R.move rfl) ?_
              refine LE.c (Wn.yes 21 55 true rfl rfl rfl rfl) rfl (R.call bd12 Ls.nil rfl) (Calls.mono h ?_)
              rintro _ w30 ⟨r29, rfl, h⟩
              refine ⟨_, rfl, ?_⟩
              refine LE.p (v := (Value.bool r29)) (Wn.no rfl) rfl (R.pickT rfl rfl) ?_
              refine LE.p (v := (Value.bool r29)) (Wn.no rfl) rfl (R.assign rfl) ?_
              refine LE.nil ?_
              exact ⟨_, h, rfl⟩
            · refine LE.p (v := (Value.bool r22)) (Wn.yes 11 45 false rfl rfl rfl (congrArg Value.bool hb28)) rfl (R.move rfl) ?_
              refine LE.p (v := (Value.bool r22)) (Wn.yes 11 45 false rfl rfl rfl (congrArg Value.bool hb28)) rfl (R.move rfl) ?_
              rcases M.ite_use h with ⟨hb31, h⟩ | ⟨hb31, h⟩
              · refine LE.p (v := (Value.float .f64 r21)) (Wn.yes 13 47 true rfl rfl rfl (congrArg Value.bool hb31)) rfl (R.move rfl) ?_
                refine LE.c (Wn.yes 13 47 true rfl rfl rfl (congrArg Value.bool hb31)) rfl (R.call bd24 (Ls.cons rfl Ls.nil) rfl) (Calls.mono h ?_)
                rintro _ w33 ⟨r32, rfl, h⟩
                refine ⟨_, rfl, ?_⟩
                refine LE.p (v := (Value.int .u64 p2)) (Wn.yes 13 47 true rfl rfl rfl (congrArg Value.bool hb31)) rfl (R.move f18) ?_
                refine LE.p (v := (Value.bool (r32 == p2))) (Wn.yes 13 47 true rfl rfl rfl (congrArg Value.bool hb31)) rfl (R.eql rfl rfl) ?_
                refine LE.p (v := (Value.bool (r32 == p2))) (Wn.yes 11 45 false rfl rfl rfl (congrArg Value.bool hb28)) rfl (R.pickT (congrArg Value.bool hb31) rfl) ?_
                refine LE.p (v := (Value.bool (r32 == p2))) (Wn.yes 4 38 true rfl rfl rfl (congrArg Value.bool hb26)) rfl (R.pickF (congrArg Value.bool hb28) rfl) ?_
                refine LE.p (v := (Value.bool (r32 == p2))) (Wn.no rfl) rfl (R.pickT (congrArg Value.bool hb26) rfl) ?_
                refine LE.p (v := (Value.bool (r32 == p2))) (Wn.no rfl) rfl (R.move rfl) ?_
                rcases M.ite_use h with ⟨hb34, h⟩ | ⟨hb34, h⟩
                · refine LE.c (Wn.yes 21 55 true rfl rfl rfl (congrArg Value.bool hb34)) rfl (R.call bd12 Ls.nil rfl) (Calls.mono h ?_)
                  rintro _ w36 ⟨r35, rfl, h⟩
                  refine ⟨_, rfl, ?_⟩
                  refine LE.p (v := (Value.bool r35)) (Wn.no rfl) rfl (R.pickT (congrArg Value.bool hb34) rfl) ?_
                  refine LE.p (v := (Value.bool r35)) (Wn.no rfl) rfl (R.assign rfl) ?_
                  refine LE.nil ?_
                  exact ⟨_, h, rfl⟩
                · refine LE.u (Un.no 21 55 true rfl rfl rfl (congrArg Value.bool hb34)) ?_
                  refine LE.p (v := (Value.bool false)) (Wn.no rfl) rfl (R.pickF (congrArg Value.bool hb34) rfl) ?_
                  refine LE.p (v := (Value.bool false)) (Wn.no rfl) rfl (R.assign rfl) ?_
                  refine LE.nil ?_
                  exact ⟨_, h, rfl⟩
              · refine LE.u (Un.no 13 47 true rfl rfl rfl (congrArg Value.bool hb31)) ?_
                refine LE.u (Un.no 13 47 true rfl rfl rfl (congrArg Value.bool hb31)) ?_
                refine LE.u (Un.no 13 47 true rfl rfl rfl (congrArg Value.bool hb31)) ?_
                refine LE.u (Un.no 13 47 true rfl rfl rfl (congrArg Value.bool hb31)) ?_
                refine LE.p (v := (Value.bool false)) (Wn.yes 11 45 false rfl rfl rfl (congrArg Value.bool hb28)) rfl (R.pickF (congrArg Value.bool hb31) rfl) ?_
                refine LE.p (v := (Value.bool false)) (Wn.yes 4 38 true rfl rfl rfl (congrArg Value.bool hb26)) rfl (R.pickF (congrArg Value.bool hb28) rfl) ?_
                refine LE.p (v := (Value.bool false)) (Wn.no rfl) rfl (R.pickT (congrArg Value.bool hb26) rfl) ?_
                refine LE.p (v := (Value.bool false)) (Wn.no rfl) rfl (R.move rfl) ?_
                refine LE.u (Un.no 21 55 true rfl rfl rfl rfl) ?_
                refine LE.p (v := (Value.bool false)) (Wn.no rfl) rfl (R.pickF rfl rfl) ?_
                refine LE.p (v := (Value.bool false)) (Wn.no rfl) rfl (R.assign rfl) ?_
                refine LE.nil ?_
                exact ⟨_, h, rfl⟩
          · refine LE.u (Un.no 7 41 true rfl rfl rfl (congrArg Value.bool hb27)) ?_
            refine LE.u (Un.no 7 41 true rfl rfl rfl (congrArg Value.bool hb27)) ?_
            refine LE.p (v := (Value.bool false)) (Wn.yes 4 38 true rfl rfl rfl (congrArg Value.bool hb26)) rfl (R.pickF (congrArg Value.bool hb27) rfl) ?_
            refine LE.p (v := (Value.bool false)) (Wn.yes 4 38 true rfl rfl rfl (congrArg Value.bool hb26)) rfl (R.move rfl) ?_
            refine LE.p (v := (Value.bool r22)) (Wn.yes 11 45 false rfl rfl rfl rfl) rfl (R.move rfl) ?_
            refine LE.p (v := (Value.bool r22)) (Wn.yes 11 45 false rfl rfl rfl rfl) rfl (R.move rfl) ?_
            rcases M.ite_use h with ⟨hb37, h⟩ | ⟨hb37, h⟩
            · refine LE.p (v := (Value.float .f64 r21)) (Wn.yes 13 47 true rfl rfl rfl (congrArg Value.bool hb37)) rfl (R.move rfl) ?_
              refine LE.c (Wn.yes 13 47 true rfl rfl rfl (congrArg Value.bool hb37)) rfl (R.call bd24 (Ls.cons rfl Ls.nil) rfl) (Calls.mono h ?_)
              rintro _ w39 ⟨r38, rfl, h⟩
              refine ⟨_, rfl, ?_⟩
              refine LE.p (v := (Value.int .u64 p2)) (Wn.yes 13 47 true rfl rfl rfl (congrArg Value.bool hb37)) rfl (R.move f18) ?_
              refine LE.p (v := (Value.bool (r38 == p2))) (Wn.yes 13 47 true rfl rfl rfl (congrArg Value.bool hb37)) rfl (R.eql rfl rfl) ?_
              refine LE.p (v := (Value.bool (r38 == p2))) (Wn.yes 11 45 false rfl rfl rfl rfl) rfl (R.pickT (congrArg Value.bool hb37) rfl) ?_
              refine LE.p (v := (Value.bool (r38 == p2))) (Wn.yes 4 38 true rfl rfl rfl (congrArg Value.bool hb26)) rfl (R.pickF rfl rfl) ?_
              refine LE.p (v := (Value.bool (r38 == p2))) (Wn.no rfl) rfl (R.pickT (congrArg Value.bool hb26) rfl) ?_
              refine LE.p (v := (Value.bool (r38 == p2))) (Wn.no rfl) rfl (R.move rfl) ?_
              rcases M.ite_use h with ⟨hb40, h⟩ | ⟨hb40, h⟩
              · refine LE.c (Wn.yes 21 55 true rfl rfl rfl (congrArg Value.bool hb40)) rfl (R.call bd12 Ls.nil rfl) (Calls.mono h ?_)
                rintro _ w42 ⟨r41, rfl, h⟩
                refine ⟨_, rfl, ?_⟩
                refine LE.p (v := (Value.bool r41)) (Wn.no rfl) rfl (R.pickT (congrArg Value.bool hb40) rfl) ?_
                refine LE.p (v := (Value.bool r41)) (Wn.no rfl) rfl (R.assign rfl) ?_
                refine LE.nil ?_
                exact ⟨_, h, rfl⟩
              · refine LE.u (Un.no 21 55 true rfl rfl rfl (congrArg Value.bool hb40)) ?_
                refine LE.p (v := (Value.bool false)) (Wn.no rfl) rfl (R.pickF (congrArg Value.bool hb40) rfl) ?_
                refine LE.p (v := (Value.bool false)) (Wn.no rfl) rfl (R.assign rfl) ?_
                refine LE.nil ?_
                exact ⟨_, h, rfl⟩
            · refine LE.u (Un.no 13 47 true rfl rfl rfl (congrArg Value.bool hb37)) ?_
              refine LE.u (Un.no 13 47 true rfl rfl rfl (congrArg Value.bool hb37)) ?_
              refine LE.u (Un.no 13 47 true rfl rfl rfl (congrArg Value.bool hb37)) ?_
              refine LE.u (Un.no 13 47 true rfl rfl rfl (congrArg Value.bool hb37)) ?_
              refine LE.p (v := (Value.bool false)) (Wn.yes 11 45 false rfl rfl rfl rfl) rfl (R.pickF (congrArg Value.bool hb37) rfl) ?_
              refine LE.p (v := (Value.bool false)) (Wn.yes 4 38 true rfl rfl rfl (congrArg Value.bool hb26)) rfl (R.pickF rfl rfl) ?_
              refine LE.p (v := (Value.bool false)) (Wn.no rfl) rfl (R.pickT (congrArg Value.bool hb26) rfl) ?_
              refine LE.p (v := (Value.bool false)) (Wn.no rfl) rfl (R.move rfl) ?_
              refine LE.u (Un.no 21 55 true rfl rfl rfl rfl) ?_
              refine LE.p (v := (Value.bool false)) (Wn.no rfl) rfl (R.pickF rfl rfl) ?_
              refine LE.p (v := (Value.bool false)) (Wn.no rfl) rfl (R.assign rfl) ?_
              refine LE.nil ?_
              exact ⟨_, h, rfl⟩
        · refine LE.u (Un.no 4 38 true rfl rfl rfl (congrArg Value.bool hb26)) ?_
          refine LE.u (Un.no 4 38 true rfl rfl rfl (congrArg Value.bool hb26)) ?_
          refine LE.u (Un.no 4 38 true rfl rfl rfl (congrArg Value.bool hb26)) ?_
          refine LE.u (Un.un 7 41 true rfl rfl rfl rfl) ?_
          refine LE.u (Un.un 7 41 true rfl rfl rfl rfl) ?_
          refine LE.u (Un.no 4 38 true rfl rfl rfl (congrArg Value.bool hb26)) ?_
          refine LE.u (Un.no 4 38 true rfl rfl rfl (congrArg Value.bool hb26)) ?_
          refine LE.u (Un.un 11 45 false rfl rfl rfl rfl) ?_
          refine LE.u (Un.un 11 45 false rfl rfl rfl rfl) ?_
          refine LE.u (Un.un 13 47 true rfl rfl rfl rfl) ?_
          refine LE.u (Un.un 13 47 true rfl rfl rfl rfl) ?_
          refine LE.u (Un.un 13 47 true rfl rfl rfl rfl) ?_
          refine LE.u (Un.un 13 47 true rfl rfl rfl rfl) ?_
          refine LE.u (Un.un 11 45 false rfl rfl rfl rfl) ?_
          refine LE.u (Un.no 4 38 true rfl rfl rfl (congrArg Value.bool hb26)) ?_
          refine LE.p (v := (Value.bool false)) (Wn.no rfl) rfl (R.pickF (congrArg Value.bool hb26) rfl) ?_
          refine LE.p (v := (Value.bool false)) (Wn.no rfl) rfl (R.move rfl) ?_
          refine LE.u (Un.no 21 55 true rfl rfl rfl rfl) ?_
          refine LE.p (v := (Value.bool false)) (Wn.no rfl) rfl (R.pickF rfl rfl) ?_
          refine LE.p (v := (Value.bool false)) (Wn.no rfl) rfl (R.assign rfl) ?_
          refine LE.nil ?_
          exact ⟨_, h, rfl⟩
      · rintro e43 w44 ⟨x25, h, f45⟩
        subst hJ24
        refine WE.ret ?_
        exact ⟨_, (Res.tmp f45 Res.nil), _, rfl, h⟩
end Go.Proofs.Ytkbfpjkikjmmeaa
