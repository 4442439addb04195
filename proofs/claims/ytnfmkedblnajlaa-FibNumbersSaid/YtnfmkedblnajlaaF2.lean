/-
  Printed by gen.py: the formula of each function, and that it holds of the function.
-/
import Derived.Test.YtnfmkedblnajlaaTy
namespace Go.Proofs.Ytnfmkedblnajlaa
set_option linter.unusedVariables false
set_option linter.unusedSimpArgs false
open Go.Sp
set_option linter.unusedVariables false
/-- The formula of signpost.signpostlaw25.known. -/
def F14  (K : Bool → World → Prop) (w0 : World) : Prop :=
Calls Try.prog 7 #[(Value.int .i64 (1 : Int))] w0 (R7 fun r1 r2 w3 =>
M.join (fun (x5 : Bool) (w8 : World) => 
M.ite x5 (
K false w8) (
M.new (.cells #[(Value.int .u32 (0 : Int)), (Value.int .i64 (0 : Int))] 33) w8 fun b13 w12 =>
M.stA b13 [(Value.int .u32 (167772160 : Int)), (Value.int .i64 (8 : Int))] w12 fun w14 =>
M.ld (Value.int .u32) b13 w14 fun t16 =>
M.ld (Value.int .i64) (b13.add 1) w14 fun t18 =>
M.new (.cells #[(Value.int .i64 (3 : Int)), (Value.int .i64 (16 : Int))] 55) w14 fun b22 w20 =>
Calls Try.prog 8 #[(Value.pointer r1), (Value.agg #[(Value.int .u32 t16), (Value.int .i64 t18), (SV.v (SV.mk (some b22) 1 1))])] w20 (R8 fun r23 w24 =>
Calls Try.prog 8 #[(Value.pointer r1), (Value.agg #[(Value.int .u32 (0 : Int)), (Value.int .i64 (0 : Int)), (SV.v SV.nil)])] w24 (R8 fun r25 w26 =>
Calls Try.prog 10 #[(Value.pointer r1), (Value.int .u32 (167838211 : Int))] w26 (R10 fun r27 r28 w29 =>
Calls Try.prog 10 #[(Value.pointer r1), (Value.int .u32 (1 : Int))] w29 (R10 fun r30 r31 w32 =>
M.join (fun (x34 : Bool) (w53 : World) => 
K x34 w53) fun J33 => 
M.ite (r23 == (0 : Int)) (
M.ite (r25 == (13 : Int)) (
M.ite r28 (
M.ite ((r27.len : Int) == (1 : Int)) (
M.idx r27 (0 : Int) 2 fun a39 =>
M.ld (Value.int .i64) (a39.add ((0 : Int).toNat * 2)) w32 fun t43 =>
M.ite (t43 == (3 : Int)) (
M.ite (!r31) (
Calls Try.prog 19 #[(Value.pointer r1)] w32 (R19 fun r47 w48 =>
M.ite (r47 == (1 : Int)) (
Calls Try.prog 17 #[(Value.pointer r1)] w48 (R17 fun r50 w51 =>
J33 (r50 == (1 : Int)) w51)) (
J33 false w48))) (
J33 false w32)) (
J33 false w32)) (
J33 false w32)) (
J33 false w32)) (
J33 false w32)) (
J33 false w32))))))) fun J4 => 
M.ite (Option.isNone r1) (
J4 true w3) (
J4 (r2 != (0 : Int)) w3))
theorem F14_ok {w0 : World}  {K : Bool → World → Prop} (h : F14 K w0) : Calls Try.prog 14 #[] w0 (R14 K) := by
  refine calls_of_WE (args := []) (rs := [.tmp 0]) Try.func14 rfl (N := 75) rfl rfl rfl rfl ?_
  refine WE.seq ?_
  refine WE.reg ?_
  refine LE.p (v := (Value.bool false)) (Wn.no rfl) rfl (R.assign rfl) ?_
  refine LE.nil ?_
  refine WE.seq ?_
  refine WE.reg ?_
  refine LE.c (Wn.no rfl) rfl (R.call bd7 (Ls.cons rfl Ls.nil) rfl) (Calls.mono h ?_)
  rintro _ w3 ⟨r1, r2, rfl, h⟩
  refine ⟨_, rfl, ?_⟩
  refine LE.p (v := (Value.tuple #[(Value.pointer r1), (Value.int .i64 r2)])) (Wn.no rfl) rfl (R.move rfl) ?_
  refine LE.p (v := (Value.pointer r1)) (Wn.no rfl) rfl (R.ext rfl rfl) ?_
  refine LE.p (v := (Value.int .i64 r2)) (Wn.no rfl) rfl (R.ext rfl rfl) ?_
  refine LE.p (v := (Value.pointer r1)) (Wn.no rfl) rfl (R.assign rfl) ?_
  refine LE.p (v := (Value.int .i64 r2)) (Wn.no rfl) rfl (R.assign rfl) ?_
  refine LE.nil ?_
  refine WE.seq ?_
  refine WE.seq ?_
  obtain ⟨J4, hJ4, h⟩ := M.join_use h
  refine WE.regJ (fun e w => ∃ (x5 : Bool), J4 x5 w ∧ e 1 = (Value.pointer r1) ∧ e 19 = (Value.bool x5)) ?_ ?_
  · clear hJ4
    refine LE.p (v := (Value.pointer r1)) (Wn.no rfl) rfl (R.move rfl) ?_
    refine LE.p (v := (Value.bool (Option.isNone r1))) (Wn.no rfl) rfl (R.peqNil pt24 rfl rfl) ?_
    refine LE.p (v := (Value.bool (Option.isNone r1))) (Wn.no rfl) rfl (R.move rfl) ?_
    rcases M.ite_use h with ⟨hb6, h⟩ | ⟨hb6, h⟩
    · refine LE.u (Un.no 2 16 false rfl rfl rfl (congrArg Value.bool hb6)) ?_
      refine LE.u (Un.no 2 16 false rfl rfl rfl (congrArg Value.bool hb6)) ?_
      refine LE.p (v := (Value.bool true)) (Wn.no rfl) rfl (R.pickT (congrArg Value.bool hb6) rfl) ?_
      refine LE.nil ?_
      exact ⟨_, h, rfl, rfl⟩
    · refine LE.p (v := (Value.int .i64 r2)) (Wn.yes 2 16 false rfl rfl rfl (congrArg Value.bool hb6)) rfl (R.move rfl) ?_
      refine LE.p (v := (Value.bool (r2 != (0 : Int)))) (Wn.yes 2 16 false rfl rfl rfl (congrArg Value.bool hb6)) rfl (R.neq rfl rfl) ?_
      refine LE.p (v := (Value.bool (r2 != (0 : Int)))) (Wn.no rfl) rfl (R.pickF (congrArg Value.bool hb6) rfl) ?_
      refine LE.nil ?_
      exact ⟨_, h, rfl, rfl⟩
  · rintro e7 w8 ⟨x5, h, f9, f10⟩
    subst hJ4
    refine WE.condT rfl (b := x5) f10 ?_ ?_
    · intro hb11
      replace h := M.ite_t h hb11
      refine WE.seq ?_
      refine WE.reg ?_
      refine LE.p (v := (Value.bool false)) (Wn.no rfl) rfl (R.assign rfl) ?_
      refine LE.nil ?_
      refine WE.ret ?_
      exact ⟨_, (Res.tmp rfl Res.nil), _, rfl, h⟩
    · intro hb11
      replace h := M.ite_f h hb11
      refine WE.skip ?_
      refine WE.seq ?_
      refine WE.reg ?_
      refine LE.p (v := (Value.agg #[(Value.int .u32 (167772160 : Int)), (Value.int .i64 (8 : Int))])) (Wn.no rfl) rfl (R.bld (by exact (Ls.cons (R.Pr rfl) (Ls.cons (R.Pr rfl) Ls.nil))) (fun w => bu33_0_1 (167772160 : Int) (8 : Int) w)) ?_
      obtain ⟨b13, hpb13, w12, hww12, h⟩ := M.new_use h
      refine LE.r (v := (Value.pointer (some b13))) (Wn.no rfl) rfl (R.alloc (cs := #[(Value.int .u32 (0 : Int)), (Value.int .i64 (0 : Int))]) ze33 rfl hpb13 hww12) ?_
      obtain ⟨w14, hww14, h15, h⟩ := M.stA_use h
      refine LE.s (Wn.no rfl) rfl (R.stA (a := b13) [(Value.int .u32 (167772160 : Int)), (Value.int .i64 (8 : Int))] sz33 rfl rfl rfl (by simp [Value.oneCell']) h15 hww14) ?_
      refine LE.nil ?_
      refine WE.seq ?_
      refine WE.reg ?_
      refine LE.p (v := (Value.pointer r1)) (Wn.no rfl) rfl (R.move f9) ?_
      obtain ⟨t16, h17, h⟩ := h
      obtain ⟨t18, h19, h⟩ := h
      refine LE.r (v := (Value.agg #[(Value.int .u32 t16), (Value.int .i64 t18)])) (Wn.no rfl) rfl (R.ldA ag33 sz33 rfl rfl (Cs.cons h17 (Cs.cons h19 Cs.nil))) ?_
      refine LE.p (v := (Value.agg #[(Value.int .i64 (3 : Int)), (Value.int .i64 (16 : Int))])) (Wn.no rfl) rfl (R.bld (by exact (Ls.cons (R.Pr rfl) (Ls.cons (R.Pr rfl) Ls.nil))) (fun w => bu55_0_1 (3 : Int) (16 : Int) w)) ?_
      obtain ⟨b22, hpb22, w20, hww20, h⟩ := M.new_use h
      refine LE.r (v := (SV.v (SV.mk (some b22) 1 1))) (Wn.no rfl) rfl (R.bsl (by exact (Ls.cons (R.Pr rfl) Ls.nil)) (fun w => bs28_1 (3 : Int) (16 : Int) w) hpb22 hww20) ?_
      refine LE.p (v := (Value.agg #[(Value.int .u32 t16), (Value.int .i64 t18), (SV.v (SV.mk (some b22) 1 1))])) (Wn.no rfl) rfl (R.bld (by exact (Ls.cons (R.Pr rfl) (Ls.cons (R.Pr rfl) Ls.nil))) (fun w => bu35_0_1 t16 t18 (SV.mk (some b22) 1 1) w)) ?_
      refine LE.c (Wn.no rfl) rfl (R.call bd8 (Ls.cons rfl (Ls.cons rfl Ls.nil)) rfl) (Calls.mono h ?_)
      rintro _ w24 ⟨r23, rfl, h⟩
      refine ⟨_, rfl, ?_⟩
      refine LE.p (v := (Value.int .i64 r23)) (Wn.no rfl) rfl (R.assign rfl) ?_
      refine LE.nil ?_
      refine WE.seq ?_
      refine WE.reg ?_
      refine LE.p (v := (Value.pointer r1)) (Wn.no rfl) rfl (R.move f9) ?_
      refine LE.p (v := (Value.agg #[(Value.int .u32 (0 : Int)), (Value.int .i64 (0 : Int)), (SV.v SV.nil)])) (Wn.no rfl) rfl (R.bld (by exact Ls.nil) (fun w => bu35_  w)) ?_
      refine LE.c (Wn.no rfl) rfl (R.call bd8 (Ls.cons rfl (Ls.cons rfl Ls.nil)) rfl) (Calls.mono h ?_)
      rintro _ w26 ⟨r25, rfl, h⟩
      refine ⟨_, rfl, ?_⟩
      refine LE.p (v := (Value.int .i64 r25)) (Wn.no rfl) rfl (R.assign rfl) ?_
      refine LE.nil ?_
      refine WE.seq ?_
      refine WE.reg ?_
      refine LE.p (v := (Value.pointer r1)) (Wn.no rfl) rfl (R.move f9) ?_
      refine LE.c (Wn.no rfl) rfl (R.call bd10 (Ls.cons rfl (Ls.cons rfl Ls.nil)) rfl) (Calls.mono h ?_)
      rintro _ w29 ⟨r27, r28, rfl, h⟩
      refine ⟨_, rfl, ?_⟩
      refine LE.p (v := (Value.tuple #[(SV.v r27), (Value.bool r28)])) (Wn.no rfl) rfl (R.move rfl) ?_
      refine LE.p (v := (SV.v r27)) (Wn.no rfl) rfl (R.ext rfl rfl) ?_
      refine LE.p (v := (Value.bool r28)) (Wn.no rfl) rfl (R.ext rfl rfl) ?_
      refine LE.p (v := (SV.v r27)) (Wn.no rfl) rfl (R.assign rfl) ?_
      refine LE.p (v := (Value.bool r28)) (Wn.no rfl) rfl (R.assign rfl) ?_
      refine LE.nil ?_
      refine WE.seq ?_
      refine WE.reg ?_
      refine LE.p (v := (Value.pointer r1)) (Wn.no rfl) rfl (R.move f9) ?_
      refine LE.c (Wn.no rfl) rfl (R.call bd10 (Ls.cons rfl (Ls.cons rfl Ls.nil)) rfl) (Calls.mono h ?_)
      rintro _ w32 ⟨r30, r31, rfl, h⟩
      refine ⟨_, rfl, ?_⟩
      refine LE.p (v := (Value.tuple #[(SV.v r30), (Value.bool r31)])) (Wn.no rfl) rfl (R.move rfl) ?_
      refine LE.p (v := (SV.v r30)) (Wn.no rfl) rfl (R.ext rfl rfl) ?_
      refine LE.p (v := (Value.bool r31)) (Wn.no rfl) rfl (R.ext rfl rfl) ?_
      refine LE.p (v := (SV.v r30)) (Wn.no rfl) rfl (R.assign rfl) ?_
      refine LE.p (v := (Value.bool r31)) (Wn.no rfl) rfl (R.assign rfl) ?_
      refine LE.nil ?_
      refine WE.seq ?_
      obtain ⟨J33, hJ33, h⟩ := M.join_use h
      refine WE.regJ (fun e w => ∃ (x34 : Bool), J33 x34 w ∧ e 0 = (Value.bool x34)) ?_ ?_
      · clear hJ33
        refine LE.p (v := (Value.int .i64 r23)) (Wn.no rfl) rfl (R.move rfl) ?_
        refine LE.p (v := (Value.bool (r23 == (0 : Int)))) (Wn.no rfl) rfl (R.eql rfl rfl) ?_
        refine LE.p (v := (Value.bool (r23 == (0 : Int)))) (Wn.no rfl) rfl (R.move rfl) ?_
        rcases M.ite_use h with ⟨hb35, h⟩ | ⟨hb35, h⟩
        · refine LE.p (v := (Value.int .i64 r25)) (Wn.yes 2 42 true rfl rfl rfl (congrArg Value.bool hb35)) rfl (R.move rfl) ?_
          refine LE.p (v := (Value.bool (r25 == (13 : Int)))) (Wn.yes 2 42 true rfl rfl rfl (congrArg Value.bool hb35)) rfl (R.eql rfl rfl) ?_
          refine LE.p (v := (Value.bool (r25 == (13 : Int)))) (Wn.no rfl) rfl (R.pickT (congrArg Value.bool hb35) rfl) ?_
          refine LE.p (v := (Value.bool (r25 == (13 : Int)))) (Wn.no rfl) rfl (R.move rfl) ?_
          rcases M.ite_use h with ⟨hb36, h⟩ | ⟨hb36, h⟩
          · refine LE.p (v := (Value.bool r28)) (Wn.yes 6 46 true rfl rfl rfl (congrArg Value.bool hb36)) rfl (R.move rfl) ?_
            refine LE.p (v := (Value.bool r28)) (Wn.no rfl) rfl (R.pickT (congrArg Value.bool hb36) rfl) ?_
            refine LE.p (v := (Value.bool r28)) (Wn.no rfl) rfl (R.move rfl) ?_
            rcases M.ite_use h with ⟨hb37, h⟩ | ⟨hb37, h⟩
            · refine LE.p (v := (SV.v r27)) (Wn.yes 9 49 true rfl rfl rfl (congrArg Value.bool hb37)) rfl (R.move rfl) ?_
              refine LE.p (v := (Value.int .i64 (r27.len : Int))) (Wn.yes 9 49 true rfl rfl rfl (congrArg Value.bool hb37)) rfl (R.len sl28 rfl) ?_
              refine LE.p (v := (Value.bool ((r27.len : Int) == (1 : Int)))) (Wn.yes 9 49 true rfl rfl rfl (congrArg Value.bool hb37)) rfl (R.eql rfl rfl) ?_
              refine LE.p (v := (Value.bool ((r27.len : Int) == (1 : Int)))) (Wn.no rfl) rfl (R.pickT (congrArg Value.bool hb37) rfl) ?_
              refine LE.p (v := (Value.bool ((r27.len : Int) == (1 : Int)))) (Wn.no rfl) rfl (R.move rfl) ?_
              rcases M.ite_use h with ⟨hb38, h⟩ | ⟨hb38, h⟩
              · refine LE.p (v := (SV.v r27)) (Wn.yes 14 54 true rfl rfl rfl (congrArg Value.bool hb38)) rfl (R.move rfl) ?_
                obtain ⟨a39, h40, h41, h42, h⟩ := h
                refine LE.p (v := (Value.pointer (some (a39.add ((0 : Int).toNat * 2))))) (Wn.yes 14 54 true rfl rfl rfl (congrArg Value.bool hb38)) rfl (R.idx (s := r27) sl28 rfl rfl h40 h41 h42) ?_
                refine LE.p (v := (Value.pointer (some (a39.add ((0 : Int).toNat * 2))))) (Wn.yes 14 54 true rfl rfl rfl (congrArg Value.bool hb38)) rfl (R.fld (off := 0) fa55_0 rfl) ?_
                obtain ⟨t43, h44, h⟩ := h
                refine LE.r (v := (Value.int .i64 t43)) (Wn.yes 14 54 true rfl rfl rfl (congrArg Value.bool hb38)) rfl (R.ld sc3 rfl h44) ?_
                refine LE.p (v := (Value.bool (t43 == (3 : Int)))) (Wn.yes 14 54 true rfl rfl rfl (congrArg Value.bool hb38)) rfl (R.eql rfl rfl) ?_
                refine LE.p (v := (Value.bool (t43 == (3 : Int)))) (Wn.no rfl) rfl (R.pickT (congrArg Value.bool hb38) rfl) ?_
                refine LE.p (v := (Value.bool (t43 == (3 : Int)))) (Wn.no rfl) rfl (R.move rfl) ?_
                rcases M.ite_use h with ⟨hb45, h⟩ | ⟨hb45, h⟩
                · refine LE.p (v := (Value.bool r31)) (Wn.yes 21 61 true rfl rfl rfl (congrArg Value.bool hb45)) rfl (R.move rfl) ?_
                  refine LE.p (v := (Value.bool (!r31))) (Wn.yes 21 61 true rfl rfl rfl (congrArg Value.bool hb45)) rfl (R.not rfl) ?_
                  refine LE.p (v := (Value.bool (!r31))) (Wn.no rfl) rfl (R.pickT (congrArg Value.bool hb45) rfl) ?_
                  refine LE.p (v := (Value.bool (!r31))) (Wn.no rfl) rfl (R.move rfl) ?_
                  rcases M.ite_use h with ⟨hb46, h⟩ | ⟨hb46, h⟩
                  · refine LE.p (v := (Value.pointer r1)) (Wn.yes 25 65 true rfl rfl rfl (congrArg Value.bool hb46)) rfl (R.move f9) ?_
                    refine LE.c (Wn.yes 25 65 true rfl rfl rfl (congrArg Value.bool hb46)) rfl (R.call bd19 (Ls.cons rfl Ls.nil) rfl) (Calls.mono h ?_)
                    rintro _ w48 ⟨r47, rfl, h⟩
                    refine ⟨_, rfl, ?_⟩
                    refine LE.p (v := (Value.bool (r47 == (1 : Int)))) (Wn.yes 25 65 true rfl rfl rfl (congrArg Value.bool hb46)) rfl (R.eql rfl rfl) ?_
                    refine LE.p (v := (Value.bool (r47 == (1 : Int)))) (Wn.no rfl) rfl (R.pickT (congrArg Value.bool hb46) rfl) ?_
                    refine LE.p (v := (Value.bool (r47 == (1 : Int)))) (Wn.no rfl) rfl (R.move rfl) ?_
                    rcases M.ite_use h with ⟨hb49, h⟩ | ⟨hb49, h⟩
                    · refine LE.p (v := (Value.pointer r1)) (Wn.yes 30 70 true rfl rfl rfl (congrArg Value.bool hb49)) rfl (R.move f9) ?_
                      refine LE.c (Wn.yes 30 70 true rfl rfl rfl (congrArg Value.bool hb49)) rfl (R.call bd17 (Ls.cons rfl Ls.nil) rfl) (Calls.mono h ?_)
                      rintro _ w51 ⟨r50, rfl, h⟩
                      refine ⟨_, rfl, ?_⟩
                      refine LE.p (v := (Value.bool (r50 == (1 : Int)))) (Wn.yes 30 70 true rfl rfl rfl (congrArg Value.bool hb49)) rfl (R.eql rfl rfl) ?_
                      refine LE.p (v := (Value.bool (r50 == (1 : Int)))) (Wn.no rfl) rfl (R.pickT (congrArg Value.bool hb49) rfl) ?_
                      refine LE.p (v := (Value.bool (r50 == (1 : Int)))) (Wn.no rfl) rfl (R.assign rfl) ?_
                      refine LE.nil ?_
                      exact ⟨_, h, rfl⟩
                    · refine LE.u (Un.no 30 70 true rfl rfl rfl (congrArg Value.bool hb49)) ?_
                      refine LE.u (Un.no 30 70 true rfl rfl rfl (congrArg Value.bool hb49)) ?_
                      refine LE.u (Un.no 30 70 true rfl rfl rfl (congrArg Value.bool hb49)) ?_
                      refine LE.p (v := (Value.bool false)) (Wn.no rfl) rfl (R.pickF (congrArg Value.bool hb49) rfl) ?_
                      refine LE.p (v := (Value.bool false)) (Wn.no rfl) rfl (R.assign rfl) ?_
                      refine LE.nil ?_
                      exact ⟨_, h, rfl⟩
                  · refine LE.u (Un.no 25 65 true rfl rfl rfl (congrArg Value.bool hb46)) ?_
                    refine LE.u (Un.no 25 65 true rfl rfl rfl (congrArg Value.bool hb46)) ?_
                    refine LE.u (Un.no 25 65 true rfl rfl rfl (congrArg Value.bool hb46)) ?_
                    refine LE.p (v := (Value.bool false)) (Wn.no rfl) rfl (R.pickF (congrArg Value.bool hb46) rfl) ?_
                    refine LE.p (v := (Value.bool false)) (Wn.no rfl) rfl (R.move rfl) ?_
                    refine LE.u (Un.no 30 70 true rfl rfl rfl rfl) ?_
                    refine LE.u (Un.no 30 70 true rfl rfl rfl rfl) ?_
                    refine LE.u (Un.no 30 70 true rfl rfl rfl rfl) ?_
                    refine LE.p (v := (Value.bool false)) (Wn.no rfl) rfl (R.pickF rfl rfl) ?_
                    refine LE.p (v := (Value.bool false)) (Wn.no rfl) rfl (R.assign rfl) ?_
                    refine LE.nil ?_
                    exact ⟨_, h, rfl⟩
                · refine LE.u (Un.no 21 61 true rfl rfl rfl (congrArg Value.bool hb45)) ?_
                  refine LE.u (Un.no 21 61 true rfl rfl rfl (congrArg Value.bool hb45)) ?_
                  refine LE.p (v := (Value.bool false)) (Wn.no rfl) rfl (R.pickF (congrArg Value.bool hb45) rfl) ?_
                  refine LE.p (v := (Value.bool false)) (Wn.no rfl) rfl (R.move rfl) ?_
                  refine LE.u (Un.no 25 65 true rfl rfl rfl rfl) ?_
                  refine LE.u (Un.no 25 65 true rfl rfl rfl rfl) ?_
                  refine LE.u (Un.no 25 65 true rfl rfl rfl rfl) ?_
                  refine LE.p (v := (Value.bool false)) (Wn.no rfl) rfl (R.pickF rfl rfl) ?_
                  refine LE.p (v := (Value.bool false)) (Wn.no rfl) rfl (R.move rfl) ?_
                  refine LE.u (Un.no 30 70 true rfl rfl rfl rfl) ?_
                  refine LE.u (Un.no 30 70 true rfl rfl rfl rfl) ?_
                  refine LE.u (Un.no 30 70 true rfl rfl rfl rfl) ?_
                  refine LE.p (v := (Value.bool false)) (Wn.no rfl) rfl (R.pickF rfl rfl) ?_
                  refine LE.p (v := (Value.bool false)) (Wn.no rfl) rfl (R.assign rfl) ?_
                  refine LE.nil ?_
                  exact ⟨_, h, rfl⟩
              · refine LE.u (Un.no 14 54 true rfl rfl rfl (congrArg Value.bool hb38)) ?_
                refine LE.u (Un.no 14 54 true rfl rfl rfl (congrArg Value.bool hb38)) ?_
                refine LE.u (Un.no 14 54 true rfl rfl rfl (congrArg Value.bool hb38)) ?_
                refine LE.u (Un.no 14 54 true rfl rfl rfl (congrArg Value.bool hb38)) ?_
                refine LE.u (Un.no 14 54 true rfl rfl rfl (congrArg Value.bool hb38)) ?_
                refine LE.p (v := (Value.bool false)) (Wn.no rfl) rfl (R.pickF (congrArg Value.bool hb38) rfl) ?_
                refine LE.p (v := (Value.bool false)) (Wn.no rfl) rfl (R.move rfl) ?_
                refine LE.u (Un.no 21 61 true rfl rfl rfl rfl) ?_
                refine LE.u (Un.no 21 61 true rfl rfl rfl rfl) ?_
                refine LE.p (v := (Value.bool false)) (Wn.no rfl) rfl (R.pickF rfl rfl) ?_
                refine LE.p (v := (Value.bool false)) (Wn.no rfl) rfl (R.move rfl) ?_
                refine LE.u (Un.no 25 65 true rfl rfl rfl rfl) ?_
                refine LE.u (Un.no 25 65 true rfl rfl rfl rfl) ?_
                refine LE.u (Un.no 25 65 true rfl rfl rfl rfl) ?_
                refine LE.p (v := (Value.bool false)) (Wn.no rfl) rfl (R.pickF rfl rfl) ?_
                refine LE.p (v := (Value.bool false)) (Wn.no rfl) rfl (R.move rfl) ?_
                refine LE.u (Un.no 30 70 true rfl rfl rfl rfl) ?_
                refine LE.u (Un.no 30 70 true rfl rfl rfl rfl) ?_
                refine LE.u (Un.no 30 70 true rfl rfl rfl rfl) ?_
                refine LE.p (v := (Value.bool false)) (Wn.no rfl) rfl (R.pickF rfl rfl) ?_
                refine LE.p (v := (Value.bool false)) (Wn.no rfl) rfl (R.assign rfl) ?_
                refine LE.nil ?_
                exact ⟨_, h, rfl⟩
            · refine LE.u (Un.no 9 49 true rfl rfl rfl (congrArg Value.bool hb37)) ?_
              refine LE.u (Un.no 9 49 true rfl rfl rfl (congrArg Value.bool hb37)) ?_
              refine LE.u (Un.no 9 49 true rfl rfl rfl (congrArg Value.bool hb37)) ?_
              refine LE.p (v := (Value.bool false)) (Wn.no rfl) rfl (R.pickF (congrArg Value.bool hb37) rfl) ?_
              refine LE.p (v := (Value.bool false)) (Wn.no rfl) rfl (R.move rfl) ?_
              refine LE.u (Un.no 14 54 true rfl rfl rfl rfl) ?_
              refine LE.u (Un.no 14 54 true rfl rfl rfl rfl) ?_
              refine LE.u (Un.no 14 54 true rfl rfl rfl rfl) ?_
              refine LE.u (Un.no 14 54 true rfl rfl rfl rfl) ?_
              refine LE.u (Un.no 14 54 true rfl rfl rfl rfl) ?_
              refine LE.p (v := (Value.bool false)) (Wn.no rfl) rfl (R.pickF rfl rfl) ?_
              refine LE.p (v := (Value.bool false)) (Wn.no rfl) rfl (R.move rfl) ?_
              refine LE.u (Un.no 21 61 true rfl rfl rfl rfl) ?_
              refine LE.u (Un.no 21 61 true rfl rfl rfl rfl) ?_
              refine LE.p (v := (Value.bool false)) (Wn.no rfl) rfl (R.pickF rfl rfl) ?_
              refine LE.p (v := (Value.bool false)) (Wn.no rfl) rfl (R.move rfl) ?_
              refine LE.u (Un.no 25 65 true rfl rfl rfl rfl) ?_
              refine LE.u (Un.no 25 65 true rfl rfl rfl rfl) ?_
              refine LE.u (Un.no 25 65 true rfl rfl rfl rfl) ?_
              refine LE.p (v := (Value.bool false)) (Wn.no rfl) rfl (R.pickF rfl rfl) ?_
              refine LE.p (v := (Value.bool false)) (Wn.no rfl) rfl (R.move rfl) ?_
              refine LE.u (Un.no 30 70 true rfl rfl rfl rfl) ?_
              refine LE.u (Un.no 30 70 true rfl rfl rfl rfl) ?_
              refine LE.u (Un.no 30 70 true rfl rfl rfl rfl) ?_
              refine LE.p (v := (Value.bool false)) (Wn.no rfl) rfl (R.pickF rfl rfl) ?_
              refine LE.p (v := (Value.bool false)) (Wn.no rfl) rfl (R.assign rfl) ?_
              refine LE.nil ?_
              exact ⟨_, h, rfl⟩
          · refine LE.u (Un.no 6 46 true rfl rfl rfl (congrArg Value.bool hb36)) ?_
            refine LE.p (v := (Value.bool false)) (Wn.no rfl) rfl (R.pickF (congrArg Value.bool hb36) rfl) ?_
            refine LE.p (v := (Value.bool false)) (Wn.no rfl) rfl (R.move rfl) ?_
            refine LE.u (Un.no 9 49 true rfl rfl rfl rfl) ?_
            refine LE.u (Un.no 9 49 true rfl rfl rfl rfl) ?_
            refine LE.u (Un.no 9 49 true rfl rfl rfl rfl) ?_
            refine LE.p (v := (Value.bool false)) (Wn.no rfl) rfl (R.pickF rfl rfl) ?_
            refine LE.p (v := (Value.bool false)) (Wn.no rfl) rfl (R.move rfl) ?_
            refine LE.u (Un.no 14 54 true rfl rfl rfl rfl) ?_
            refine LE.u (Un.no 14 54 true rfl rfl rfl rfl) ?_
            refine LE.u (Un.no 14 54 true rfl rfl rfl rfl) ?_
            refine LE.u (Un.no 14 54 true rfl rfl rfl rfl) ?_
            refine LE.u (Un.no 14 54 true rfl rfl rfl rfl) ?_
            refine LE.p (v := (Value.bool false)) (Wn.no rfl) rfl (R.pickF rfl rfl) ?_
            refine LE.p (v := (Value.bool false)) (Wn.no rfl) rfl (R.move rfl) ?_
            refine LE.u (Un.no 21 61 true rfl rfl rfl rfl) ?_
            refine LE.u (Un.no 21 61 true rfl rfl rfl rfl) ?_
            refine LE.p (v := (Value.bool false)) (Wn.no rfl) rfl (R.pickF rfl rfl) ?_
            refine LE.p (v := (Value.bool false)) (Wn.no rfl) rfl (R.move rfl) ?_
            refine LE.u (Un.no 25 65 true rfl rfl rfl rfl) ?_
            refine LE.u (Un.no 25 65 true rfl rfl rfl rfl) ?_
            refine LE.u (Un.no 25 65 true rfl rfl rfl rfl) ?_
            refine LE.p (v := (Value.bool false)) (Wn.no rfl) rfl (R.pickF rfl rfl) ?_
            refine LE.p (v := (Value.bool false)) (Wn.no rfl) rfl (R.move rfl) ?_
            refine LE.u (Un.no 30 70 true rfl rfl rfl rfl) ?_
            refine LE.u (Un.no 30 70 true rfl rfl rfl rfl) ?_
            refine LE.u (Un.no 30 70 true rfl rfl rfl rfl) ?_
            refine LE.p (v := (Value.bool false)) (Wn.no rfl) rfl (R.pickF rfl rfl) ?_
            refine LE.p (v := (Value.bool false)) (Wn.no rfl) rfl (R.assign rfl) ?_
            refine LE.nil ?_
            exact ⟨_, h, rfl⟩
        · refine LE.u (Un.no 2 42 true rfl rfl rfl (congrArg Value.bool hb35)) ?_
          refine LE.u (Un.no 2 42 true rfl rfl rfl (congrArg Value.bool hb35)) ?_
          refine LE.p (v := (Value.bool false)) (Wn.no rfl) rfl (R.pickF (congrArg Value.bool hb35) rfl) ?_
          refine LE.p (v := (Value.bool false)) (Wn.no rfl) rfl (R.move rfl) ?_
          refine LE.u (Un.no 6 46 true rfl rfl rfl rfl) ?_
          refine LE.p (v := (Value.bool false)) (Wn.no rfl) rfl (R.pickF rfl rfl) ?_
          refine LE.p (v := (Value.bool false)) (Wn.no rfl) rfl (R.move rfl) ?_
          refine LE.u (Un.no 9 49 true rfl rfl rfl rfl) ?_
          refine LE.u (Un.no 9 49 true rfl rfl rfl rfl) ?_
          refine LE.u (Un.no 9 49 true rfl rfl rfl rfl) ?_
          refine LE.p (v := (Value.bool false)) (Wn.no rfl) rfl (R.pickF rfl rfl) ?_
          refine LE.p (v := (Value.bool false)) (Wn.no rfl) rfl (R.move rfl) ?_
          refine LE.u (Un.no 14 54 true rfl rfl rfl rfl) ?_
          refine LE.u (Un.no 14 54 true rfl rfl rfl rfl) ?_
          refine LE.u (Un.no 14 54 true rfl rfl rfl rfl) ?_
          refine LE.u (Un.no 14 54 true rfl rfl rfl rfl) ?_
          refine LE.u (Un.no 14 54 true rfl rfl rfl rfl) ?_
          refine LE.p (v := (Value.bool false)) (Wn.no rfl) rfl (R.pickF rfl rfl) ?_
          refine LE.p (v := (Value.bool false)) (Wn.no rfl) rfl (R.move rfl) ?_
          refine LE.u (Un.no 21 61 true rfl rfl rfl rfl) ?_
          refine LE.u (Un.no 21 61 true rfl rfl rfl rfl) ?_
          refine LE.p (v := (Value.bool false)) (Wn.no rfl) rfl (R.pickF rfl rfl) ?_
          refine LE.p (v := (Value.bool false)) (Wn.no rfl) rfl (R.move rfl) ?_
          refine LE.u (Un.no 25 65 true rfl rfl rfl rfl) ?_
          refine LE.u (Un.no 25 65 true rfl rfl rfl rfl) ?_
          refine LE.u (Un.no 25 65 true rfl rfl rfl rfl) ?_
          refine LE.p (v := (Value.bool false)) (Wn.no rfl) rfl (R.pickF rfl rfl) ?_
          refine LE.p (v := (Value.bool false)) (Wn.no rfl) rfl (R.move rfl) ?_
          refine LE.u (Un.no 30 70 true rfl rfl rfl rfl) ?_
          refine LE.u (Un.no 30 70 true rfl rfl rfl rfl) ?_
          refine LE.u (Un.no 30 70 true rfl rfl rfl rfl) ?_
          refine LE.p (v := (Value.bool false)) (Wn.no rfl) rfl (R.pickF rfl rfl) ?_
          refine LE.p (v := (Value.bool false)) (Wn.no rfl) rfl (R.assign rfl) ?_
          refine LE.nil ?_
          exact ⟨_, h, rfl⟩
      · rintro e52 w53 ⟨x34, h, f54⟩
        subst hJ33
        refine WE.ret ?_
        exact ⟨_, (Res.tmp f54 Res.nil), _, rfl, h⟩
/-- The formula of signpost.signpostbook.Within. -/
def F15 (p0 : Int) (p1 : Int) (p2 : Int) (K : Int → World → Prop) (w0 : World) : Prop :=
M.nz (IntKind.i64.wrap ((IntKind.i64.wrap (p2 - p1)) + (1 : Int))) <|
M.join (fun (x3 : Int) (w6 : World) => 
K (IntKind.i64.wrap (p1 + x3)) w6) fun J2 => 
M.ite (decide ((Int.tmod p0 (IntKind.i64.wrap ((IntKind.i64.wrap (p2 - p1)) + (1 : Int)))) < (0 : Int))) (
J2 (IntKind.i64.wrap ((IntKind.i64.wrap ((IntKind.i64.wrap ((Int.tmod p0 (IntKind.i64.wrap ((IntKind.i64.wrap (p2 - p1)) + (1 : Int)))) + p2)) - p1)) + (1 : Int))) w0) (
J2 (Int.tmod p0 (IntKind.i64.wrap ((IntKind.i64.wrap (p2 - p1)) + (1 : Int)))) w0)
theorem F15_ok {w0 : World} {p0 : Int} {p1 : Int} {p2 : Int} {K : Int → World → Prop} (h : F15 p0 p1 p2 K w0) : Calls Try.prog 15 #[(Value.int .i64 p0), (Value.int .i64 p1), (Value.int .i64 p2)] w0 (R15 K) := by
  refine calls_of_WE (args := [(Value.int .i64 p0), (Value.int .i64 p1), (Value.int .i64 p2)]) (rs := [.tmp 6]) Try.func15 rfl (N := 24) rfl rfl rfl rfl ?_
  refine WE.seq ?_
  refine WE.reg ?_
  refine LE.p (v := (Value.int .i64 (0 : Int))) (Wn.no rfl) rfl (R.assign rfl) ?_
  refine LE.nil ?_
  refine WE.seq ?_
  refine WE.reg ?_
  refine LE.p (v := (Value.int .i64 p0)) (Wn.no rfl) rfl (R.move rfl) ?_
  refine LE.p (v := (Value.int .i64 p2)) (Wn.no rfl) rfl (R.move rfl) ?_
  refine LE.p (v := (Value.int .i64 p1)) (Wn.no rfl) rfl (R.move rfl) ?_
  refine LE.p (v := (Value.int .i64 (IntKind.i64.wrap (p2 - p1)))) (Wn.no rfl) rfl (R.sub rfl rfl) ?_
  refine LE.p (v := (Value.int .i64 (IntKind.i64.wrap ((IntKind.i64.wrap (p2 - p1)) + (1 : Int))))) (Wn.no rfl) rfl (R.add rfl rfl) ?_
  obtain ⟨h1, h⟩ := h
  refine LE.p (v := (Value.int .i64 (Int.tmod p0 (IntKind.i64.wrap ((IntKind.i64.wrap (p2 - p1)) + (1 : Int)))))) (Wn.no rfl) rfl (R.rem rfl rfl h1) ?_
  refine LE.p (v := (Value.int .i64 (Int.tmod p0 (IntKind.i64.wrap ((IntKind.i64.wrap (p2 - p1)) + (1 : Int)))))) (Wn.no rfl) rfl (R.assign rfl) ?_
  refine LE.nil ?_
  obtain ⟨J2, hJ2, h⟩ := M.join_use h
  refine WE.join (fun e w => ∃ (x3 : Int), J2 x3 w ∧ e 0 = (Value.int .i64 x3) ∧ e 1 = (Value.int .i64 p1)) ?_ ?_
  · clear hJ2
    refine WE.seq ?_
    refine WE.reg ?_
    refine LE.p (v := (Value.int .i64 (Int.tmod p0 (IntKind.i64.wrap ((IntKind.i64.wrap (p2 - p1)) + (1 : Int)))))) (Wn.no rfl) rfl (R.move rfl) ?_
    refine LE.p (v := (Value.bool (decide ((Int.tmod p0 (IntKind.i64.wrap ((IntKind.i64.wrap (p2 - p1)) + (1 : Int)))) < (0 : Int))))) (Wn.no rfl) rfl (R.lss rfl rfl) ?_
    refine LE.nil ?_
    refine WE.condT rfl (b := (decide ((Int.tmod p0 (IntKind.i64.wrap ((IntKind.i64.wrap (p2 - p1)) + (1 : Int)))) < (0 : Int)))) rfl ?_ ?_
    · intro hb4
      replace h := M.ite_t h hb4
      refine WE.reg ?_
      refine LE.p (v := (Value.int .i64 (Int.tmod p0 (IntKind.i64.wrap ((IntKind.i64.wrap (p2 - p1)) + (1 : Int)))))) (Wn.no rfl) rfl (R.move rfl) ?_
      refine LE.p (v := (Value.int .i64 p2)) (Wn.no rfl) rfl (R.move rfl) ?_
      refine LE.p (v := (Value.int .i64 (IntKind.i64.wrap ((Int.tmod p0 (IntKind.i64.wrap ((IntKind.i64.wrap (p2 - p1)) + (1 : Int)))) + p2)))) (Wn.no rfl) rfl (R.add rfl rfl) ?_
      refine LE.p (v := (Value.int .i64 p1)) (Wn.no rfl) rfl (R.move rfl) ?_
      refine LE.p (v := (Value.int .i64 (IntKind.i64.wrap ((IntKind.i64.wrap ((Int.tmod p0 (IntKind.i64.wrap ((IntKind.i64.wrap (p2 - p1)) + (1 : Int)))) + p2)) - p1)))) (Wn.no rfl) rfl (R.sub rfl rfl) ?_
      refine LE.p (v := (Value.int .i64 (IntKind.i64.wrap ((IntKind.i64.wrap ((IntKind.i64.wrap ((Int.tmod p0 (IntKind.i64.wrap ((IntKind.i64.wrap (p2 - p1)) + (1 : Int)))) + p2)) - p1)) + (1 : Int))))) (Wn.no rfl) rfl (R.add rfl rfl) ?_
      refine LE.p (v := (Value.int .i64 (IntKind.i64.wrap ((IntKind.i64.wrap ((IntKind.i64.wrap ((Int.tmod p0 (IntKind.i64.wrap ((IntKind.i64.wrap (p2 - p1)) + (1 : Int)))) + p2)) - p1)) + (1 : Int))))) (Wn.no rfl) rfl (R.assign rfl) ?_
      refine LE.nil ?_
      exact ⟨_, h, rfl, rfl⟩
    · intro hb4
      replace h := M.ite_f h hb4
      refine WE.skip ?_
      exact ⟨_, h, rfl, rfl⟩
  · rintro e5 w6 ⟨x3, h, f7, f8⟩
    subst hJ2
    refine WE.seq ?_
    refine WE.reg ?_
    refine LE.p (v := (Value.int .i64 p1)) (Wn.no rfl) rfl (R.move f8) ?_
    refine LE.p (v := (Value.int .i64 x3)) (Wn.no rfl) rfl (R.move f7) ?_
    refine LE.p (v := (Value.int .i64 (IntKind.i64.wrap (p1 + x3)))) (Wn.no rfl) rfl (R.add rfl rfl) ?_
    refine LE.p (v := (Value.int .i64 (IntKind.i64.wrap (p1 + x3)))) (Wn.no rfl) rfl (R.assign rfl) ?_
    refine LE.nil ?_
    refine WE.ret ?_
    exact ⟨_, (Res.tmp rfl Res.nil), _, rfl, h⟩
/-- The formula of (*signpost.fib.Table).All. -/
def F16 (p0 : Option Addr) (K : SV → World → Prop) (w0 : World) : Prop :=
M.nil p0 fun a1 =>
M.ld Value.pointer (a1.add 1) w0 fun t3 =>
Calls Try.prog 30 #[(Value.pointer t3)] w0 (R30 fun r5 w6 =>
M.loop2 (fun (J9 : SV → Int → World → Prop) (x7 : SV) (x8 : Int) (w10 : World) => 
M.ite (decide (x8 < (r5.len : Int))) (
M.idx r5 x8 2 fun a23 =>
M.ld (Value.int .u32) (a23.add (x8.toNat * 2)) w10 fun t27 =>
M.ld (Value.int .i64) ((a23.add (x8.toNat * 2)).add 1) w10 fun t29 =>
M.new (.cells #[(Value.int .u32 (0 : Int)), (Value.int .i64 (0 : Int))] 33) w10 fun b32 w31 =>
M.stA b32 [(Value.int .u32 t27), (Value.int .i64 t29)] w31 fun w33 =>
M.drew w33 fun w35 => 
M.nil p0 fun a36 =>
M.ld (Value.int .u32) b32 w35 fun t38 =>
M.ld (Value.int .i64) (b32.add 1) w35 fun t40 =>
M.ld Value.map (a36.add 2) w35 fun t42 =>
M.ld (Value.int .u32) b32 w35 fun t44 =>
M.ld (Value.int .i64) (b32.add 1) w35 fun t46 =>
∃ (t48 : SV), (Instr.lookup 60 (Value.map t42) (Value.agg #[(Value.int .u32 t44), (Value.int .i64 t46)]) false).run Try.prog w35 = .ok (SV.v t48) w35 ∧
Calls Try.prog 26 #[(SV.v t48)] w35 (R26 fun r50 w51 =>
M.keep (w51.cell? b32 = some (Value.int .u32 t38)) <|
M.keep (w51.cell? (b32.add 1) = some (Value.int .i64 t40)) <|
M.new (.cells #[(Value.int .u32 t38), (Value.int .i64 t40), (SV.v r50)] 35) w51 fun b56 w54 =>
M.app Try.prog 45 45 45 x7 (SV.v (SV.mk (some b56) 1 1)) w54 fun s57 w58 =>
J9 s57 (IntKind.i64.wrap (x8 + (1 : Int))) w58)) (
K x7 w10)) SV.nil (0 : Int) w6)
theorem F16_ok {w0 : World} {p0 : Option Addr} {K : SV → World → Prop} (h : F16 p0 K w0) : Calls Try.prog 16 #[(Value.pointer p0)] w0 (R16 K) := by
  refine calls_of_WE (args := [(Value.pointer p0)]) (rs := [.tmp 2]) Try.func16 rfl (N := 30) rfl rfl rfl rfl ?_
  refine WE.seq ?_
  refine WE.reg ?_
  refine LE.p (v := (SV.v SV.nil)) (Wn.no rfl) rfl (R.assign rfl) ?_
  refine LE.nil ?_
  refine WE.seq ?_
  refine WE.reg ?_
  refine LE.p (v := (SV.v SV.nil)) (Wn.no rfl) rfl (R.assign rfl) ?_
  refine LE.nil ?_
  refine WE.seq ?_
  refine WE.seq ?_
  refine WE.reg ?_
  refine LE.p (v := (Value.pointer p0)) (Wn.no rfl) rfl (R.move rfl) ?_
  obtain ⟨a1, h2, h⟩ := h
  refine LE.p (v := (Value.pointer (some a1))) (Wn.no rfl) rfl (R.nilC (congrArg Value.pointer h2)) ?_
  refine LE.p (v := (Value.pointer (some (a1.add 1)))) (Wn.no rfl) rfl (R.fld (off := 1) fa62_1 rfl) ?_
  obtain ⟨t3, h4, h⟩ := h
  refine LE.r (v := (Value.pointer t3)) (Wn.no rfl) rfl (R.ld sc58 rfl h4) ?_
  refine LE.c (Wn.no rfl) rfl (R.call bd30 (Ls.cons rfl Ls.nil) rfl) (Calls.mono h ?_)
  rintro _ w6 ⟨r5, rfl, h⟩
  refine ⟨_, rfl, ?_⟩
  refine LE.p (v := (Value.int .i64 (r5.len : Int))) (Wn.no rfl) rfl (R.len sl69 rfl) ?_
  refine LE.p (v := (Value.int .i64 (0 : Int))) (Wn.no rfl) rfl (R.move rfl) ?_
  refine LE.nil ?_
  refine WE.block ?_
  obtain ⟨I13, ⟨n12, h⟩, hr14⟩ := h
  refine WE.loop (fun n e w => ∃ (x7 : SV) (x8 : Int), I13 n x7 x8 w ∧ e 0 = (Value.pointer p0) ∧ e 3 = (SV.v x7) ∧ e 10 = (SV.v r5) ∧ e 11 = (Value.int .i64 (r5.len : Int)) ∧ e 12 = (Value.int .i64 x8)) n12 ⟨_, _, h, rfl, rfl, rfl, rfl, rfl⟩ ?_
  clear h
  rintro n12 e11 w10 ⟨x7, x8, h, f17, f18, f19, f20, f21⟩
  replace h := hr14 n12 x7 x8 w10 h
  refine WE.seq ?_
  refine WE.reg ?_
  refine LE.p (v := (Value.bool (decide (x8 < (r5.len : Int))))) (Wn.no rfl) rfl (R.lss f21 f20) ?_
  refine LE.nil ?_
  refine WE.seq ?_
  refine WE.condT rfl (b := (decide (x8 < (r5.len : Int)))) rfl ?_ ?_
  · intro hb22
    replace h := M.ite_t h hb22
    refine WE.skip ?_
    refine WE.seq ?_
    refine WE.block ?_
    refine WE.seq ?_
    refine WE.reg ?_
    obtain ⟨a23, h24, h25, h26, h⟩ := h
    refine LE.p (v := (Value.pointer (some (a23.add (x8.toNat * 2))))) (Wn.no rfl) rfl (R.idx (s := r5) sl69 f19 f21 h24 h25 h26) ?_
    obtain ⟨t27, h28, h⟩ := h
    obtain ⟨t29, h30, h⟩ := h
    refine LE.r (v := (Value.agg #[(Value.int .u32 t27), (Value.int .i64 t29)])) (Wn.no rfl) rfl (R.ldA ag33 sz33 rfl rfl (Cs.cons h28 (Cs.cons h30 Cs.nil))) ?_
    obtain ⟨b32, hpb32, w31, hww31, h⟩ := M.new_use h
    refine LE.r (v := (Value.pointer (some b32))) (Wn.no rfl) rfl (R.alloc (cs := #[(Value.int .u32 (0 : Int)), (Value.int .i64 (0 : Int))]) ze33 rfl hpb32 hww31) ?_
    obtain ⟨w33, hww33, h34, h⟩ := M.stA_use h
    refine LE.s (Wn.no rfl) rfl (R.stA (a := b32) [(Value.int .u32 t27), (Value.int .i64 t29)] sz33 rfl rfl rfl (by simp [Value.oneCell']) h34 hww33) ?_
    refine LE.nil ?_
    refine WE.draw mix ?_
    obtain ⟨w35, hww35, h⟩ := M.drew_use h
    rw [← hww35]
    clear hww35
    refine DE.t 0 (v := (SV.v x7)) rfl (by kernel_rfl) (Wn.no rfl) rfl (R.move f18) ?_
    refine DE.t 2 (v := (Value.pointer p0)) rfl (by kernel_rfl) (Wn.no rfl) rfl (R.move f17) ?_
    obtain ⟨a36, h37, h⟩ := h
    refine DE.t 3 (v := (Value.pointer (some a36))) rfl (by kernel_rfl) (Wn.no rfl) rfl (R.nilC (congrArg Value.pointer h37)) ?_
    refine DE.t 4 (v := (Value.pointer (some (a36.add 2)))) rfl (by kernel_rfl) (Wn.no rfl) rfl (R.fld (off := 2) fa62_2 rfl) ?_
    obtain ⟨t38, h39, h⟩ := h
    obtain ⟨t40, h41, h⟩ := h
    refine DE.hold 1 (fun w => w.cell? b32 = some (Value.int .u32 t38) ∧ w.cell? (b32.add 1) = some (Value.int .i64 t40)) (v := (Value.agg #[(Value.int .u32 t38), (Value.int .i64 t40)])) rfl (by kernel_rfl) (Wn.no rfl) rfl ⟨h39, h41⟩ (fun w hs => R.ldA ag33 sz33 rfl rfl (Cs.cons hs.1 (Cs.cons hs.2 Cs.nil))) ?_
    obtain ⟨t42, h43, h⟩ := h
    refine DE.hold 5 (fun w => w.cell? (a36.add 2) = some (Value.map t42)) (v := (Value.map t42)) rfl (by kernel_rfl) (Wn.no rfl) rfl h43 (fun w hs => R.ld sc60 rfl hs) ?_
    obtain ⟨t44, h45, h⟩ := h
    obtain ⟨t46, h47, h⟩ := h
    refine DE.main 6 (by kernel_rfl) ?_
    refine One.r 6 (v := (Value.agg #[(Value.int .u32 t44), (Value.int .i64 t46)])) rfl (Wn.no rfl) rfl (R.ldA ag33 sz33 rfl rfl (Cs.cons h45 (Cs.cons h47 Cs.nil))) (.inl rfl) ?_
    obtain ⟨t48, h49, h⟩ := h
    refine DE.main 7 (by kernel_rfl) ?_
    refine One.r 7 (v := (SV.v t48)) rfl (Wn.no rfl) rfl (R.look rfl rfl h49) (.inl rfl) ?_
    refine DE.main 8 (by kernel_rfl) ?_
    refine One.c 8 rfl (Wn.no rfl) rfl (R.call bd26 (Ls.cons rfl Ls.nil) rfl) (Calls.mono h ?_)
    rintro _ w51 ⟨r50, rfl, h⟩
    obtain ⟨k52, h⟩ := h
    obtain ⟨k53, h⟩ := h
    refine ⟨_, rfl, ⟨aftT (by kernel_rfl), fun _ => ⟨k52, k53⟩, trivial⟩, ?_⟩
    refine DE.t 9 (v := (Value.agg #[(Value.int .u32 t38), (Value.int .i64 t40), (SV.v r50)])) rfl (by kernel_rfl) (Wn.no rfl) rfl (R.bld (by exact (Ls.cons (R.Pr rfl) (Ls.cons (R.Pr rfl) Ls.nil))) (fun w => bu35_0_1 t38 t40 r50 w)) ?_
    obtain ⟨b56, hpb56, w54, hww54, h⟩ := M.new_use h
    refine DE.main 10 (by kernel_rfl) ?_
    refine One.r 10 (v := (SV.v (SV.mk (some b56) 1 1))) rfl (Wn.no rfl) rfl (R.bsl (by exact (Ls.cons (R.Pr rfl) Ls.nil)) (fun w => bs45_1 t38 t40 r50 w) hpb56 hww54) (.inr ⟨aftT (by kernel_rfl), aftT (by kernel_rfl), trivial⟩) ?_
    obtain ⟨s57, w58, h59, h⟩ := h
    refine DE.main 11 (by kernel_rfl) ?_
    refine One.r 11 (v := (SV.v s57)) rfl (Wn.no rfl) rfl (R.app (s := x7) (r := s57) rfl rfl h59) (.inr ⟨aftT (by kernel_rfl), aftT (by kernel_rfl), trivial⟩) ?_
    refine DE.t 12 (v := (SV.v s57)) rfl (by kernel_rfl) (Wn.no rfl) rfl (R.assign rfl) ?_
    refine DE.done (by kernel_rfl) ?_
    refine WE.reg ?_
    refine LE.p (v := (Value.int .i64 (IntKind.i64.wrap (x8 + (1 : Int))))) (Wn.no rfl) rfl (R.add f21 rfl) ?_
    refine LE.p (v := (Value.int .i64 (IntKind.i64.wrap (x8 + (1 : Int))))) (Wn.no rfl) rfl (R.move rfl) ?_
    refine LE.nil ?_
    obtain ⟨m15, hm16, h⟩ := h
    exact ⟨m15, hm16, _, _, h, f17, rfl, f19, f20, rfl⟩
  · intro hb22
    replace h := M.ite_f h hb22
    refine WE.exit ?_
    refine WE.seq ?_
    refine WE.reg ?_
    refine LE.p (v := (SV.v x7)) (Wn.no rfl) rfl (R.move f18) ?_
    refine LE.p (v := (SV.v x7)) (Wn.no rfl) rfl (R.assign rfl) ?_
    refine LE.nil ?_
    refine WE.ret ?_
    exact ⟨_, (Res.tmp rfl Res.nil), _, rfl, h⟩
/-- The formula of (*signpost.fib.Table).Writes. -/
def F17 (p0 : Option Addr) (K : Int → World → Prop) (w0 : World) : Prop :=
M.nil p0 fun a1 =>
M.ld (Value.int .i64) (a1.add 3) w0 fun t3 =>
K t3 w0
theorem F17_ok {w0 : World} {p0 : Option Addr} {K : Int → World → Prop} (h : F17 p0 K w0) : Calls Try.prog 17 #[(Value.pointer p0)] w0 (R17 K) := by
  refine calls_of_WE (args := [(Value.pointer p0)]) (rs := [.tmp 2]) Try.func17 rfl (N := 7) rfl rfl rfl rfl ?_
  refine WE.seq ?_
  refine WE.reg ?_
  refine LE.p (v := (Value.int .i64 (0 : Int))) (Wn.no rfl) rfl (R.assign rfl) ?_
  refine LE.nil ?_
  refine WE.seq ?_
  refine WE.reg ?_
  refine LE.p (v := (Value.pointer p0)) (Wn.no rfl) rfl (R.move rfl) ?_
  obtain ⟨a1, h2, h⟩ := h
  refine LE.p (v := (Value.pointer (some a1))) (Wn.no rfl) rfl (R.nilC (congrArg Value.pointer h2)) ?_
  refine LE.p (v := (Value.pointer (some (a1.add 3)))) (Wn.no rfl) rfl (R.fld (off := 3) fa62_3 rfl) ?_
  obtain ⟨t3, h4, h⟩ := h
  refine LE.r (v := (Value.int .i64 t3)) (Wn.no rfl) rfl (R.ld sc3 rfl h4) ?_
  refine LE.p (v := (Value.int .i64 t3)) (Wn.no rfl) rfl (R.assign rfl) ?_
  refine LE.nil ?_
  refine WE.ret ?_
  exact ⟨_, (Res.tmp rfl Res.nil), _, rfl, h⟩
/-- The formula of signpost.signpostkeep.Entries. -/
def F18 (p0 : SV) (p1 : SV) (K : Bool → World → Prop) (w0 : World) : Prop :=
M.ite ((p0.len : Int) != (p1.len : Int)) (
K false w0) (
M.loop1 (fun (J3 : Int → World → Prop) (x2 : Int) (w4 : World) => 
M.ite (decide (x2 < (p0.len : Int))) (
M.join (fun (x16 : Bool) (w50 : World) => 
M.ite x16 (
K false w50) (
J3 (IntKind.i64.wrap (x2 + (1 : Int))) w50)) fun J15 => 
M.drew w4 fun w17 => 
M.idx p0 x2 3 fun a18 =>
M.idx p1 x2 3 fun a22 =>
M.ld (Value.int .u32) (a18.add (x2.toNat * 3)) w17 fun t26 =>
M.ld (Value.int .i64) ((a18.add (x2.toNat * 3)).add 1) w17 fun t28 =>
M.ld (Value.int .u32) (a22.add (x2.toNat * 3)) w17 fun t30 =>
M.ld (Value.int .i64) ((a22.add (x2.toNat * 3)).add 1) w17 fun t32 =>
M.ite (!((t26 == t30) && (t28 == t32))) (
J15 true w17) (
M.idx p0 x2 3 fun a35 =>
M.idx p1 x2 3 fun a39 =>
M.ld SV.v ((a35.add (x2.toNat * 3)).add 2) w17 fun t43 =>
M.ld SV.v ((a39.add (x2.toNat * 3)).add 2) w17 fun t45 =>
Calls Try.prog 13 #[(SV.v t43), (SV.v t45)] w17 (R13 fun r47 w48 =>
J15 (!r47) w48))) (
K true w4)) (0 : Int) w0)
theorem F18_ok {w0 : World} {p0 : SV} {p1 : SV} {K : Bool → World → Prop} (h : F18 p0 p1 K w0) : Calls Try.prog 18 #[(SV.v p0), (SV.v p1)] w0 (R18 K) := by
  refine calls_of_WE (args := [(SV.v p0), (SV.v p1)]) (rs := [.tmp 4]) Try.func18 rfl (N := 42) rfl rfl rfl rfl ?_
  refine WE.seq ?_
  refine WE.reg ?_
  refine LE.p (v := (Value.bool false)) (Wn.no rfl) rfl (R.assign rfl) ?_
  refine LE.nil ?_
  refine WE.seq ?_
  refine WE.seq ?_
  refine WE.reg ?_
  refine LE.p (v := (SV.v p0)) (Wn.no rfl) rfl (R.move rfl) ?_
  refine LE.p (v := (Value.int .i64 (p0.len : Int))) (Wn.no rfl) rfl (R.len sl45 rfl) ?_
  refine LE.p (v := (SV.v p1)) (Wn.no rfl) rfl (R.move rfl) ?_
  refine LE.p (v := (Value.int .i64 (p1.len : Int))) (Wn.no rfl) rfl (R.len sl45 rfl) ?_
  refine LE.p (v := (Value.bool ((p0.len : Int) != (p1.len : Int)))) (Wn.no rfl) rfl (R.neq rfl rfl) ?_
  refine LE.nil ?_
  refine WE.condT rfl (b := ((p0.len : Int) != (p1.len : Int))) rfl ?_ ?_
  · intro hb1
    replace h := M.ite_t h hb1
    refine WE.seq ?_
    refine WE.reg ?_
    refine LE.p (v := (Value.bool false)) (Wn.no rfl) rfl (R.assign rfl) ?_
    refine LE.nil ?_
    refine WE.ret ?_
    exact ⟨_, (Res.tmp rfl Res.nil), _, rfl, h⟩
  · intro hb1
    replace h := M.ite_f h hb1
    refine WE.skip ?_
    refine WE.seq ?_
    refine WE.seq ?_
    refine WE.reg ?_
    refine LE.p (v := (Value.int .i64 (0 : Int))) (Wn.no rfl) rfl (R.assign rfl) ?_
    refine LE.nil ?_
    refine WE.block ?_
    obtain ⟨I7, ⟨n6, h⟩, hr8⟩ := h
    refine WE.loop (fun n e w => ∃ (x2 : Int), I7 n x2 w ∧ e 0 = (SV.v p0) ∧ e 1 = (SV.v p1) ∧ e 5 = (Value.int .i64 x2)) n6 ⟨_, h, rfl, rfl, rfl⟩ ?_
    clear h
    rintro n6 e5 w4 ⟨x2, h, f11, f12, f13⟩
    replace h := hr8 n6 x2 w4 h
    refine WE.seq ?_
    refine WE.seq ?_
    refine WE.reg ?_
    refine LE.p (v := (Value.int .i64 x2)) (Wn.no rfl) rfl (R.move f13) ?_
    refine LE.p (v := (SV.v p0)) (Wn.no rfl) rfl (R.move f11) ?_
    refine LE.p (v := (Value.int .i64 (p0.len : Int))) (Wn.no rfl) rfl (R.len sl45 rfl) ?_
    refine LE.p (v := (Value.bool (decide (x2 < (p0.len : Int))))) (Wn.no rfl) rfl (R.lss rfl rfl) ?_
    refine LE.nil ?_
    refine WE.condT rfl (b := (decide (x2 < (p0.len : Int)))) rfl ?_ ?_
    · intro hb14
      replace h := M.ite_t h hb14
      refine WE.skip ?_
      refine WE.seq ?_
      refine WE.block ?_
      refine WE.seq ?_
      obtain ⟨J15, hJ15, h⟩ := M.join_use h
      refine WE.drawJ (fun e w => ∃ (x16 : Bool), J15 x16 w ∧ e 0 = (SV.v p0) ∧ e 1 = (SV.v p1) ∧ e 5 = (Value.int .i64 x2) ∧ e 41 = (Value.bool x16)) mix ?_ ?_
      · clear hJ15
        obtain ⟨w17, hww17, h⟩ := M.drew_use h
        rw [← hww17]
        clear hww17
        refine DE.t 0 (v := (SV.v p0)) rfl (by kernel_rfl) (Wn.no rfl) rfl (R.move f11) ?_
        refine DE.t 1 (v := (Value.int .i64 x2)) rfl (by kernel_rfl) (Wn.no rfl) rfl (R.move f13) ?_
        obtain ⟨a18, h19, h20, h21, h⟩ := h
        refine DE.t 2 (v := (Value.pointer (some (a18.add (x2.toNat * 3))))) rfl (by kernel_rfl) (Wn.no rfl) rfl (R.idx (s := p0) sl45 rfl rfl h19 h20 h21) ?_
        refine DE.t 3 (v := (Value.pointer (some (a18.add (x2.toNat * 3))))) rfl (by kernel_rfl) (Wn.no rfl) rfl (R.fld (off := 0) fa35_0 rfl) ?_
        refine DE.t 5 (v := (SV.v p1)) rfl (by kernel_rfl) (Wn.no rfl) rfl (R.move f12) ?_
        refine DE.t 6 (v := (Value.int .i64 x2)) rfl (by kernel_rfl) (Wn.no rfl) rfl (R.move f13) ?_
        obtain ⟨a22, h23, h24, h25, h⟩ := h
        refine DE.t 7 (v := (Value.pointer (some (a22.add (x2.toNat * 3))))) rfl (by kernel_rfl) (Wn.no rfl) rfl (R.idx (s := p1) sl45 rfl rfl h23 h24 h25) ?_
        refine DE.t 8 (v := (Value.pointer (some (a22.add (x2.toNat * 3))))) rfl (by kernel_rfl) (Wn.no rfl) rfl (R.fld (off := 0) fa35_0 rfl) ?_
        obtain ⟨t26, h27, h⟩ := h
        obtain ⟨t28, h29, h⟩ := h
        refine DE.hold 4 (fun w => w.cell? (a18.add (x2.toNat * 3)) = some (Value.int .u32 t26) ∧ w.cell? ((a18.add (x2.toNat * 3)).add 1) = some (Value.int .i64 t28)) (v := (Value.agg #[(Value.int .u32 t26), (Value.int .i64 t28)])) rfl (by kernel_rfl) (Wn.no rfl) rfl ⟨h27, h29⟩ (fun w hs => R.ldA ag33 sz33 rfl rfl (Cs.cons hs.1 (Cs.cons hs.2 Cs.nil))) ?_
        obtain ⟨t30, h31, h⟩ := h
        obtain ⟨t32, h33, h⟩ := h
        refine DE.main 9 (by kernel_rfl) ?_
        refine One.r 9 (v := (Value.agg #[(Value.int .u32 t30), (Value.int .i64 t32)])) rfl (Wn.no rfl) rfl (R.ldA ag33 sz33 rfl rfl (Cs.cons h31 (Cs.cons h33 Cs.nil))) (.inl rfl) ?_
        refine DE.t 10 (v := (Value.bool (!((t26 == t30) && (t28 == t32))))) rfl (by kernel_rfl) (Wn.no rfl) rfl (R.neS (fun w => eq33 t26 t30 t28 t32 w) sg33 rfl rfl) ?_
        refine DE.t 11 (v := (Value.bool (!((t26 == t30) && (t28 == t32))))) rfl (by kernel_rfl) (Wn.no rfl) rfl (R.move rfl) ?_
        rcases M.ite_use h with ⟨hb34, h⟩ | ⟨hb34, h⟩
        · refine DE.u 12 rfl (by kernel_rfl) (Un.no 11 28 false rfl rfl rfl (congrArg Value.bool hb34)) ?_
          refine DE.u 13 rfl (by kernel_rfl) (Un.no 11 28 false rfl rfl rfl (congrArg Value.bool hb34)) ?_
          refine DE.u 14 rfl (by kernel_rfl) (Un.no 11 28 false rfl rfl rfl (congrArg Value.bool hb34)) ?_
          refine DE.u 15 rfl (by kernel_rfl) (Un.no 11 28 false rfl rfl rfl (congrArg Value.bool hb34)) ?_
          refine DE.u 16 rfl (by kernel_rfl) (Un.no 11 28 false rfl rfl rfl (congrArg Value.bool hb34)) ?_
          refine DE.u 17 rfl (by kernel_rfl) (Un.no 11 28 false rfl rfl rfl (congrArg Value.bool hb34)) ?_
          refine DE.u 18 rfl (by kernel_rfl) (Un.no 11 28 false rfl rfl rfl (congrArg Value.bool hb34)) ?_
          refine DE.u 19 rfl (by kernel_rfl) (Un.no 11 28 false rfl rfl rfl (congrArg Value.bool hb34)) ?_
          refine DE.u 20 rfl (by kernel_rfl) (Un.no 11 28 false rfl rfl rfl (congrArg Value.bool hb34)) ?_
          refine DE.u 21 rfl (by kernel_rfl) (Un.no 11 28 false rfl rfl rfl (congrArg Value.bool hb34)) ?_
          refine DE.u 22 rfl (by kernel_rfl) (Un.no 11 28 false rfl rfl rfl (congrArg Value.bool hb34)) ?_
          refine DE.u 23 rfl (by kernel_rfl) (Un.no 11 28 false rfl rfl rfl (congrArg Value.bool hb34)) ?_
          refine DE.t 24 (v := (Value.bool true)) rfl (by kernel_rfl) (Wn.no rfl) rfl (R.pickT (congrArg Value.bool hb34) rfl) ?_
          refine DE.done (by kernel_rfl) ?_
          exact ⟨_, h, f11, f12, f13, rfl⟩
        · refine DE.t 12 (v := (SV.v p0)) rfl (by kernel_rfl) (Wn.yes 11 28 false rfl rfl rfl (congrArg Value.bool hb34)) rfl (R.move f11) ?_
          refine DE.t 13 (v := (Value.int .i64 x2)) rfl (by kernel_rfl) (Wn.yes 11 28 false rfl rfl rfl (congrArg Value.bool hb34)) rfl (R.move f13) ?_
          obtain ⟨a35, h36, h37, h38, h⟩ := h
          refine DE.t 14 (v := (Value.pointer (some (a35.add (x2.toNat * 3))))) rfl (by kernel_rfl) (Wn.yes 11 28 false rfl rfl rfl (congrArg Value.bool hb34)) rfl (R.idx (s := p0) sl45 rfl rfl h36 h37 h38) ?_
          refine DE.t 15 (v := (Value.pointer (some ((a35.add (x2.toNat * 3)).add 2)))) rfl (by kernel_rfl) (Wn.yes 11 28 false rfl rfl rfl (congrArg Value.bool hb34)) rfl (R.fld (off := 2) fa35_1 rfl) ?_
          refine DE.t 17 (v := (SV.v p1)) rfl (by kernel_rfl) (Wn.yes 11 28 false rfl rfl rfl (congrArg Value.bool hb34)) rfl (R.move f12) ?_
          refine DE.t 18 (v := (Value.int .i64 x2)) rfl (by kernel_rfl) (Wn.yes 11 28 false rfl rfl rfl (congrArg Value.bool hb34)) rfl (R.move f13) ?_
          obtain ⟨a39, h40, h41, h42, h⟩ := h
          refine DE.t 19 (v := (Value.pointer (some (a39.add (x2.toNat * 3))))) rfl (by kernel_rfl) (Wn.yes 11 28 false rfl rfl rfl (congrArg Value.bool hb34)) rfl (R.idx (s := p1) sl45 rfl rfl h40 h41 h42) ?_
          refine DE.t 20 (v := (Value.pointer (some ((a39.add (x2.toNat * 3)).add 2)))) rfl (by kernel_rfl) (Wn.yes 11 28 false rfl rfl rfl (congrArg Value.bool hb34)) rfl (R.fld (off := 2) fa35_1 rfl) ?_
          obtain ⟨t43, h44, h⟩ := h
          refine DE.hold 16 (fun w => w.cell? ((a35.add (x2.toNat * 3)).add 2) = some (SV.v t43)) (v := (SV.v t43)) rfl (by kernel_rfl) (Wn.yes 11 28 false rfl rfl rfl (congrArg Value.bool hb34)) rfl h44 (fun w hs => R.ld sc28 rfl hs) ?_
          obtain ⟨t45, h46, h⟩ := h
          refine DE.main 21 (by kernel_rfl) ?_
          refine One.r 21 (v := (SV.v t45)) rfl (Wn.yes 11 28 false rfl rfl rfl (congrArg Value.bool hb34)) rfl (R.ld sc28 rfl h46) (.inl rfl) ?_
          refine DE.main 22 (by kernel_rfl) ?_
          refine One.c 22 rfl (Wn.yes 11 28 false rfl rfl rfl (congrArg Value.bool hb34)) rfl (R.call bd13 (Ls.cons rfl (Ls.cons rfl Ls.nil)) rfl) (Calls.mono h ?_)
          rintro _ w48 ⟨r47, rfl, h⟩
          refine ⟨_, rfl, ⟨aftT (by kernel_rfl), aftT (by kernel_rfl), trivial⟩, ?_⟩
          refine DE.t 23 (v := (Value.bool (!r47))) rfl (by kernel_rfl) (Wn.yes 11 28 false rfl rfl rfl (congrArg Value.bool hb34)) rfl (R.not rfl) ?_
          refine DE.t 24 (v := (Value.bool (!r47))) rfl (by kernel_rfl) (Wn.no rfl) rfl (R.pickF (congrArg Value.bool hb34) rfl) ?_
          refine DE.done (by kernel_rfl) ?_
          exact ⟨_, h, f11, f12, f13, rfl⟩
      · rintro e49 w50 ⟨x16, h, f51, f52, f53, f54⟩
        subst hJ15
        refine WE.condT rfl (b := x16) f54 ?_ ?_
        · intro hb55
          replace h := M.ite_t h hb55
          refine WE.seq ?_
          refine WE.reg ?_
          refine LE.p (v := (Value.bool false)) (Wn.no rfl) rfl (R.assign rfl) ?_
          refine LE.nil ?_
          refine WE.ret ?_
          exact ⟨_, (Res.tmp rfl Res.nil), _, rfl, h⟩
        · intro hb55
          replace h := M.ite_f h hb55
          refine WE.skip ?_
          refine WE.reg ?_
          refine LE.p (v := (Value.int .i64 x2)) (Wn.no rfl) rfl (R.move f53) ?_
          refine LE.p (v := (Value.int .i64 (IntKind.i64.wrap (x2 + (1 : Int))))) (Wn.no rfl) rfl (R.add rfl rfl) ?_
          refine LE.p (v := (Value.int .i64 (IntKind.i64.wrap (x2 + (1 : Int))))) (Wn.no rfl) rfl (R.assign rfl) ?_
          refine LE.nil ?_
          obtain ⟨m9, hm10, h⟩ := h
          exact ⟨m9, hm10, _, h, f51, f52, rfl⟩
    · intro hb14
      replace h := M.ite_f h hb14
      refine WE.exit ?_
      refine WE.seq ?_
      refine WE.reg ?_
      refine LE.p (v := (Value.bool true)) (Wn.no rfl) rfl (R.assign rfl) ?_
      refine LE.nil ?_
      refine WE.ret ?_
      exact ⟨_, (Res.tmp rfl Res.nil), _, rfl, h⟩
/-- The formula of (*signpost.fib.Table).Len. -/
def F19 (p0 : Option Addr) (K : Int → World → Prop) (w0 : World) : Prop :=
M.nil p0 fun a1 =>
M.ld Value.map (a1.add 2) w0 fun t3 =>
∃ (t5 : Int), (Builtin.len_ #[60] 3 #[(Value.map t3)]).run Try.prog w0 = .ok (.int .i64 t5) w0 ∧
K t5 w0
theorem F19_ok {w0 : World} {p0 : Option Addr} {K : Int → World → Prop} (h : F19 p0 K w0) : Calls Try.prog 19 #[(Value.pointer p0)] w0 (R19 K) := by
  refine calls_of_WE (args := [(Value.pointer p0)]) (rs := [.tmp 2]) Try.func19 rfl (N := 8) rfl rfl rfl rfl ?_
  refine WE.seq ?_
  refine WE.reg ?_
  refine LE.p (v := (Value.int .i64 (0 : Int))) (Wn.no rfl) rfl (R.assign rfl) ?_
  refine LE.nil ?_
  refine WE.seq ?_
  refine WE.reg ?_
  refine LE.p (v := (Value.pointer p0)) (Wn.no rfl) rfl (R.move rfl) ?_
  obtain ⟨a1, h2, h⟩ := h
  refine LE.p (v := (Value.pointer (some a1))) (Wn.no rfl) rfl (R.nilC (congrArg Value.pointer h2)) ?_
  refine LE.p (v := (Value.pointer (some (a1.add 2)))) (Wn.no rfl) rfl (R.fld (off := 2) fa62_2 rfl) ?_
  obtain ⟨t3, h4, h⟩ := h
  refine LE.r (v := (Value.map t3)) (Wn.no rfl) rfl (R.ld sc60 rfl h4) ?_
  obtain ⟨t5, h6, h⟩ := h
  refine LE.r (v := (Value.int .i64 t5)) (Wn.no rfl) rfl (R.mlen rfl h6) ?_
  refine LE.p (v := (Value.int .i64 t5)) (Wn.no rfl) rfl (R.assign rfl) ?_
  refine LE.nil ?_
  refine WE.ret ?_
  exact ⟨_, (Res.tmp rfl Res.nil), _, rfl, h⟩
/-- The formula of (*signpost.fib.Table).Cut. -/
def F20 (p0 : Option Addr) (p1_0 : Int) (p1_1 : Int) (K : Bool → World → Prop) (w0 : World) : Prop :=
M.new (.cells #[(Value.int .u32 p1_0), (Value.int .i64 p1_1)] 33) w0 fun b2 w1 =>
M.drew w1 fun w3 => 
M.nil p0 fun a4 =>
M.ld Value.map (a4.add 2) w3 fun t6 =>
M.ld (Value.int .u32) b2 w3 fun t8 =>
M.ld (Value.int .i64) (b2.add 1) w3 fun t10 =>
∃ (t12 : SV) (t14 : Bool), (Instr.lookup 60 (Value.map t6) (Value.agg #[(Value.int .u32 t8), (Value.int .i64 t10)]) true).run Try.prog w3 = .ok (Value.tuple #[(SV.v t12), (Value.bool t14)]) w3 ∧
M.ite (!t14) (
K false w3) (
M.drew w3 fun w16 => 
M.nil p0 fun a17 =>
M.ld Value.pointer (a17.add 1) w16 fun t19 =>
M.ld (Value.int .u32) b2 w16 fun t21 =>
M.ld (Value.int .i64) (b2.add 1) w16 fun t23 =>
Calls Try.prog 31 #[(Value.pointer t19), (Value.agg #[(Value.int .u32 t21), (Value.int .i64 t23)])] w16 (R31 fun r25 w26 =>
M.drew w26 fun w27 => 
M.nil p0 fun a28 =>
M.ld Value.map (a28.add 2) w27 fun t30 =>
M.ld (Value.int .u32) b2 w27 fun t32 =>
M.ld (Value.int .i64) (b2.add 1) w27 fun t34 =>
∃ w36, (Builtin.delete_ #[60, 33] 0 #[(Value.map t30), (Value.agg #[(Value.int .u32 t32), (Value.int .i64 t34)])]).run Try.prog w27 = .ok (.tuple #[]) w36 ∧
M.nil p0 fun a38 =>
M.ld (Value.int .i64) (a38.add 3) w36 fun t40 =>
M.nil p0 fun a42 =>
M.st (a42.add 3) (Value.int .i64 (IntKind.i64.wrap (t40 + (1 : Int)))) w36 fun w44 =>
K true w44))
theorem F20_ok {w0 : World} {p0 : Option Addr} {p1_0 : Int} {p1_1 : Int} {K : Bool → World → Prop} (h : F20 p0 p1_0 p1_1 K w0) : Calls Try.prog 20 #[(Value.pointer p0), (Value.agg #[(Value.int .u32 p1_0), (Value.int .i64 p1_1)])] w0 (R20 K) := by
  refine calls_of_WE (args := [(Value.pointer p0), (Value.agg #[(Value.int .u32 p1_0), (Value.int .i64 p1_1)])]) (rs := [.tmp 4]) Try.func20 rfl (N := 36) rfl rfl rfl rfl ?_
  refine WE.seq ?_
  refine WE.reg ?_
  obtain ⟨b2, hpb2, w1, hww1, h⟩ := M.new_use h
  refine LE.r (v := (Value.pointer (some b2))) (Wn.no rfl) rfl (R.box (cs := #[(Value.int .u32 p1_0), (Value.int .i64 p1_1)]) rfl rfl hpb2 hww1) ?_
  refine LE.p (v := (Value.bool false)) (Wn.no rfl) rfl (R.assign rfl) ?_
  refine LE.nil ?_
  refine WE.seq ?_
  refine WE.seq ?_
  refine WE.draw mix ?_
  obtain ⟨w3, hww3, h⟩ := M.drew_use h
  rw [← hww3]
  clear hww3
  refine DE.t 0 (v := (Value.pointer p0)) rfl (by kernel_rfl) (Wn.no rfl) rfl (R.move rfl) ?_
  obtain ⟨a4, h5, h⟩ := h
  refine DE.t 1 (v := (Value.pointer (some a4))) rfl (by kernel_rfl) (Wn.no rfl) rfl (R.nilC (congrArg Value.pointer h5)) ?_
  refine DE.t 2 (v := (Value.pointer (some (a4.add 2)))) rfl (by kernel_rfl) (Wn.no rfl) rfl (R.fld (off := 2) fa62_2 rfl) ?_
  obtain ⟨t6, h7, h⟩ := h
  refine DE.hold 3 (fun w => w.cell? (a4.add 2) = some (Value.map t6)) (v := (Value.map t6)) rfl (by kernel_rfl) (Wn.no rfl) rfl h7 (fun w hs => R.ld sc60 rfl hs) ?_
  obtain ⟨t8, h9, h⟩ := h
  obtain ⟨t10, h11, h⟩ := h
  refine DE.main 4 (by kernel_rfl) ?_
  refine One.r 4 (v := (Value.agg #[(Value.int .u32 t8), (Value.int .i64 t10)])) rfl (Wn.no rfl) rfl (R.ldA ag33 sz33 rfl rfl (Cs.cons h9 (Cs.cons h11 Cs.nil))) (.inl rfl) ?_
  obtain ⟨t12, t14, h13, h⟩ := h
  refine DE.main 5 (by kernel_rfl) ?_
  refine One.r 5 (v := (Value.tuple #[(SV.v t12), (Value.bool t14)])) rfl (Wn.no rfl) rfl (R.look rfl rfl h13) (.inl rfl) ?_
  refine DE.t 6 (v := (Value.tuple #[(SV.v t12), (Value.bool t14)])) rfl (by kernel_rfl) (Wn.no rfl) rfl (R.move rfl) ?_
  refine DE.t 7 (v := (SV.v t12)) rfl (by kernel_rfl) (Wn.no rfl) rfl (R.ext rfl rfl) ?_
  refine DE.t 8 (v := (Value.bool t14)) rfl (by kernel_rfl) (Wn.no rfl) rfl (R.ext rfl rfl) ?_
  refine DE.t 9 (v := (SV.v t12)) rfl (by kernel_rfl) (Wn.no rfl) rfl (R.assign rfl) ?_
  refine DE.t 10 (v := (Value.bool t14)) rfl (by kernel_rfl) (Wn.no rfl) rfl (R.assign rfl) ?_
  refine DE.done (by kernel_rfl) ?_
  refine WE.seq ?_
  refine WE.reg ?_
  refine LE.p (v := (Value.bool t14)) (Wn.no rfl) rfl (R.move rfl) ?_
  refine LE.p (v := (Value.bool (!t14))) (Wn.no rfl) rfl (R.not rfl) ?_
  refine LE.nil ?_
  refine WE.condT rfl (b := (!t14)) rfl ?_ ?_
  · intro hb15
    replace h := M.ite_t h hb15
    refine WE.seq ?_
    refine WE.reg ?_
    refine LE.p (v := (Value.bool false)) (Wn.no rfl) rfl (R.assign rfl) ?_
    refine LE.nil ?_
    refine WE.ret ?_
    exact ⟨_, (Res.tmp rfl Res.nil), _, rfl, h⟩
  · intro hb15
    replace h := M.ite_f h hb15
    refine WE.skip ?_
    refine WE.seq ?_
    refine WE.draw mix ?_
    obtain ⟨w16, hww16, h⟩ := M.drew_use h
    rw [← hww16]
    clear hww16
    refine DE.t 0 (v := (Value.pointer p0)) rfl (by kernel_rfl) (Wn.no rfl) rfl (R.move rfl) ?_
    obtain ⟨a17, h18, h⟩ := h
    refine DE.t 1 (v := (Value.pointer (some a17))) rfl (by kernel_rfl) (Wn.no rfl) rfl (R.nilC (congrArg Value.pointer h18)) ?_
    refine DE.t 2 (v := (Value.pointer (some (a17.add 1)))) rfl (by kernel_rfl) (Wn.no rfl) rfl (R.fld (off := 1) fa62_1 rfl) ?_
    obtain ⟨t19, h20, h⟩ := h
    refine DE.hold 3 (fun w => w.cell? (a17.add 1) = some (Value.pointer t19)) (v := (Value.pointer t19)) rfl (by kernel_rfl) (Wn.no rfl) rfl h20 (fun w hs => R.ld sc58 rfl hs) ?_
    obtain ⟨t21, h22, h⟩ := h
    obtain ⟨t23, h24, h⟩ := h
    refine DE.main 4 (by kernel_rfl) ?_
    refine One.r 4 (v := (Value.agg #[(Value.int .u32 t21), (Value.int .i64 t23)])) rfl (Wn.no rfl) rfl (R.ldA ag33 sz33 rfl rfl (Cs.cons h22 (Cs.cons h24 Cs.nil))) (.inl rfl) ?_
    refine DE.main 5 (by kernel_rfl) ?_
    refine One.c 5 rfl (Wn.no rfl) rfl (R.call bd31 (Ls.cons rfl (Ls.cons rfl Ls.nil)) rfl) (Calls.mono h ?_)
    rintro _ w26 ⟨r25, rfl, h⟩
    refine ⟨_, rfl, ⟨aftT (by kernel_rfl), trivial⟩, ?_⟩
    refine DE.done (by kernel_rfl) ?_
    refine WE.seq ?_
    refine WE.draw mix ?_
    obtain ⟨w27, hww27, h⟩ := M.drew_use h
    rw [← hww27]
    clear hww27
    refine DE.t 0 (v := (Value.pointer p0)) rfl (by kernel_rfl) (Wn.no rfl) rfl (R.move rfl) ?_
    obtain ⟨a28, h29, h⟩ := h
    refine DE.t 1 (v := (Value.pointer (some a28))) rfl (by kernel_rfl) (Wn.no rfl) rfl (R.nilC (congrArg Value.pointer h29)) ?_
    refine DE.t 2 (v := (Value.pointer (some (a28.add 2)))) rfl (by kernel_rfl) (Wn.no rfl) rfl (R.fld (off := 2) fa62_2 rfl) ?_
    obtain ⟨t30, h31, h⟩ := h
    refine DE.hold 3 (fun w => w.cell? (a28.add 2) = some (Value.map t30)) (v := (Value.map t30)) rfl (by kernel_rfl) (Wn.no rfl) rfl h31 (fun w hs => R.ld sc60 rfl hs) ?_
    obtain ⟨t32, h33, h⟩ := h
    obtain ⟨t34, h35, h⟩ := h
    refine DE.main 4 (by kernel_rfl) ?_
    refine One.r 4 (v := (Value.agg #[(Value.int .u32 t32), (Value.int .i64 t34)])) rfl (Wn.no rfl) rfl (R.ldA ag33 sz33 rfl rfl (Cs.cons h33 (Cs.cons h35 Cs.nil))) (.inl rfl) ?_
    obtain ⟨w36, h37, h⟩ := h
    refine DE.main 5 (by kernel_rfl) ?_
    refine One.r 5 (v := (Value.tuple #[])) rfl (Wn.no rfl) rfl (R.del rfl rfl h37) (.inr ⟨aftT (by kernel_rfl), trivial⟩) ?_
    refine DE.done (by kernel_rfl) ?_
    refine WE.seq ?_
    refine WE.reg ?_
    refine LE.p (v := (Value.pointer p0)) (Wn.no rfl) rfl (R.move rfl) ?_
    obtain ⟨a38, h39, h⟩ := h
    refine LE.p (v := (Value.pointer (some a38))) (Wn.no rfl) rfl (R.nilC (congrArg Value.pointer h39)) ?_
    refine LE.p (v := (Value.pointer (some (a38.add 3)))) (Wn.no rfl) rfl (R.fld (off := 3) fa62_3 rfl) ?_
    obtain ⟨t40, h41, h⟩ := h
    refine LE.r (v := (Value.int .i64 t40)) (Wn.no rfl) rfl (R.ld sc3 rfl h41) ?_
    refine LE.p (v := (Value.int .i64 (IntKind.i64.wrap (t40 + (1 : Int))))) (Wn.no rfl) rfl (R.add rfl rfl) ?_
    obtain ⟨a42, h43, h⟩ := h
    refine LE.p (v := (Value.pointer (some a42))) (Wn.no rfl) rfl (R.nilC (congrArg Value.pointer h43)) ?_
    refine LE.p (v := (Value.pointer (some (a42.add 3)))) (Wn.no rfl) rfl (R.fld (off := 3) fa62_3 rfl) ?_
    obtain ⟨w44, hww44, h45, h46, h⟩ := M.st_use h
    refine LE.s (Wn.no rfl) rfl (R.st (a := (a42.add 3)) (v := (Value.int .i64 (IntKind.i64.wrap (t40 + (1 : Int))))) sz3 rfl rfl rfl rfl h45 h46 hww44) ?_
    refine LE.nil ?_
    refine WE.seq ?_
    refine WE.reg ?_
    refine LE.p (v := (Value.bool true)) (Wn.no rfl) rfl (R.assign rfl) ?_
    refine LE.nil ?_
    refine WE.ret ?_
    exact ⟨_, (Res.tmp rfl Res.nil), _, rfl, h⟩
/-- The formula of signpost.signpostlaw25.do. -/
def F21 (p0 : Option Addr) (p1 : Option Addr) (p2_0 : Int) (p2_1 : Int) (p2_2 : Int) (p2_3 : Int) (p2_4 : SV) (p2_5 : Bool) (K : Bool → World → Prop) (w0 : World) : Prop :=
M.new (.cells #[(Value.int .i64 p2_0), (Value.int .i64 p2_1), (Value.int .i64 p2_2), (Value.int .u32 p2_3), (SV.v p2_4), (Value.bool p2_5)] 30) w0 fun b2 w1 =>
∃ (t3 : Int) (t4 : Int) (t5 : Int) (t6 : Int) (t7 : SV) (t8 : Bool), Cs w1 b2 0 [(Value.int .i64 t3), (Value.int .i64 t4), (Value.int .i64 t5), (Value.int .u32 t6), (SV.v t7), (Value.bool t8)] ∧
Calls Try.prog 9 #[(Value.agg #[(Value.int .i64 t3), (Value.int .i64 t4), (Value.int .i64 t5), (Value.int .u32 t6), (SV.v t7), (Value.bool t8)])] w1 (R9 fun r10 r11 r12 w13 =>
M.new (.cells #[(Value.int .u32 (0 : Int)), (Value.int .i64 (0 : Int)), (SV.v SV.nil)] 35) w13 fun b15 w14 =>
M.stA b15 [(Value.int .u32 r10), (Value.int .i64 r11), (SV.v r12)] w14 fun w16 =>
M.ld (Value.int .u32) b15 w16 fun t18 =>
M.ld (Value.int .i64) (b15.add 1) w16 fun t20 =>
Calls Try.prog 32 #[(Value.pointer p1), (Value.agg #[(Value.int .u32 t18), (Value.int .i64 t20)])] w16 (R32 fun r22 w23 =>
M.ld (Value.int .i64) b2 w23 fun t24 =>
M.join (fun (w169 : World) => 
M.ld (Value.int .u32) b15 w169 fun t173 =>
M.ld (Value.int .i64) (b15.add 1) w169 fun t175 =>
Calls Try.prog 11 #[(Value.pointer p0), (Value.agg #[(Value.int .u32 t173), (Value.int .i64 t175)])] w169 (R11 fun r177 r178 w179 =>
M.ld (Value.int .u32) b15 w179 fun t180 =>
M.ld (Value.int .i64) (b15.add 1) w179 fun t182 =>
Calls Try.prog 32 #[(Value.pointer p1), (Value.agg #[(Value.int .u32 t180), (Value.int .i64 t182)])] w179 (R32 fun r184 w185 =>
M.join (fun (x187 : Bool) (w235 : World) => 
K x187 w235) fun J186 => 
M.drew w185 fun w188 => 
M.ite (r178 == (decide ((0 : Int) ≤ r184))) (
M.ite (!r178) (
M.nil p1 fun a191 =>
M.ld SV.v a191 w188 fun t193 =>
Calls Try.prog 19 #[(Value.pointer p0)] w188 (R19 fun r195 w196 =>
M.keep (w196.cell? a191 = some (SV.v t193)) <|
M.ite (r195 == (t193.len : Int)) (
M.nil p1 fun a199 =>
M.ld (Value.int .i64) (a199.add 2) w196 fun t201 =>
Calls Try.prog 17 #[(Value.pointer p0)] w196 (R17 fun r203 w204 =>
M.keep (w204.cell? (a199.add 2) = some (Value.int .i64 t201)) <|
J186 (r203 == t201) w204)) (
J186 false w196))) (
M.nil p1 fun a206 =>
M.ld SV.v a206 w188 fun t208 =>
M.idx t208 r184 3 fun a210 =>
M.ld SV.v ((a210.add (r184.toNat * 3)).add 2) w188 fun t214 =>
Calls Try.prog 13 #[(SV.v r177), (SV.v t214)] w188 (R13 fun r216 w217 =>
M.ite r216 (
M.nil p1 fun a219 =>
M.ld SV.v a219 w217 fun t221 =>
Calls Try.prog 19 #[(Value.pointer p0)] w217 (R19 fun r223 w224 =>
M.keep (w224.cell? a219 = some (SV.v t221)) <|
M.ite (r223 == (t221.len : Int)) (
M.nil p1 fun a227 =>
M.ld (Value.int .i64) (a227.add 2) w224 fun t229 =>
Calls Try.prog 17 #[(Value.pointer p0)] w224 (R17 fun r231 w232 =>
M.keep (w232.cell? (a227.add 2) = some (Value.int .i64 t229)) <|
J186 (r231 == t229) w232)) (
J186 false w224))) (
J186 false w217)))) (
J186 false w188)))) fun J26 => 
M.ite (t24 == (1 : Int)) (
M.join (fun (x29 : Int) (w86 : World) => 
∃ (t91 : Int) (t92 : Int) (t93 : SV), Cs w86 b15 0 [(Value.int .u32 t91), (Value.int .i64 t92), (SV.v t93)] ∧
Calls Try.prog 8 #[(Value.pointer p0), (Value.agg #[(Value.int .u32 t91), (Value.int .i64 t92), (SV.v t93)])] w86 (R8 fun r95 w96 =>
M.ite (r95 != x29) (
K false w96) (
J26 w96))) fun J28 => 
∃ (t30 : Int) (t31 : Int) (t32 : SV), Cs w23 b15 0 [(Value.int .u32 t30), (Value.int .i64 t31), (SV.v t32)] ∧
M.new (.cells #[(Value.int .u32 t30), (Value.int .i64 t31), (SV.v t32)] 35) w23 fun b36 w34 =>
Calls Try.prog 33 #[(SV.v (SV.mk (some b36) 1 1))] w34 (R33 fun r37 w38 =>
M.ite (!r37) (
J28 (12 : Int) w38) (
M.join (fun (x41 : Bool) (w53 : World) => 
M.ite x41 (
J28 (13 : Int) w53) (
M.drew w53 fun w60 => 
M.nil p1 fun a61 =>
M.ld SV.v a61 w60 fun t63 =>
∃ (t65 : Int) (t66 : Int) (t67 : SV), Cs w60 b15 0 [(Value.int .u32 t65), (Value.int .i64 t66), (SV.v t67)] ∧
Calls Try.prog 34 #[(SV.v t63), (Value.agg #[(Value.bool false), (Value.int .u32 t65), (Value.int .i64 t66), (SV.v t67)])] w60 (R34 fun r69 w70 =>
M.nil p1 fun a71 =>
M.st a71 (SV.v r69) w70 fun w73 =>
M.nil p1 fun a76 =>
M.ld (Value.int .i64) (a76.add 2) w73 fun t78 =>
M.nil p1 fun a80 =>
M.st (a80.add 2) (Value.int .i64 (IntKind.i64.wrap (t78 + (1 : Int)))) w73 fun w82 =>
J28 (0 : Int) w82))) fun J40 => 
M.drew w38 fun w42 => 
M.ite (decide (r22 < (0 : Int))) (
M.nil p1 fun a44 =>
M.nil p1 fun a46 =>
M.ld SV.v a44 w42 fun t48 =>
M.ld (Value.int .i64) (a46.add 1) w42 fun t50 =>
J40 (decide (t50 ≤ (t48.len : Int))) w42) (
J40 false w42)))) (
M.ite (t24 == (2 : Int)) (
M.ld (Value.int .u32) b15 w23 fun t99 =>
M.ld (Value.int .i64) (b15.add 1) w23 fun t101 =>
Calls Try.prog 20 #[(Value.pointer p0), (Value.agg #[(Value.int .u32 t99), (Value.int .i64 t101)])] w23 (R20 fun r103 w104 =>
M.ite (!(r103 == (decide ((0 : Int) ≤ r22)))) (
K false w104) (
M.ite (decide ((0 : Int) ≤ r22)) (
M.drew w104 fun w107 => 
M.nil p1 fun a108 =>
M.ld SV.v a108 w107 fun t110 =>
∃ (t112 : Int) (t113 : Int) (t114 : SV), Cs w107 b15 0 [(Value.int .u32 t112), (Value.int .i64 t113), (SV.v t114)] ∧
Calls Try.prog 34 #[(SV.v t110), (Value.agg #[(Value.bool true), (Value.int .u32 t112), (Value.int .i64 t113), (SV.v t114)])] w107 (R34 fun r116 w117 =>
M.nil p1 fun a118 =>
M.st a118 (SV.v r116) w117 fun w120 =>
M.nil p1 fun a123 =>
M.ld (Value.int .i64) (a123.add 2) w120 fun t125 =>
M.nil p1 fun a127 =>
M.st (a127.add 2) (Value.int .i64 (IntKind.i64.wrap (t125 + (1 : Int)))) w120 fun w129 =>
J26 w129)) (
J26 w104)))) (
M.ite (t24 == (3 : Int)) (
M.ld (Value.int .i64) (b2.add 1) w23 fun t133 =>
Calls Try.prog 35 #[(Value.pointer p0), (Value.int .i64 t133)] w23 (R35 fun w135 =>
M.ld (Value.int .i64) (b2.add 1) w135 fun t136 =>
Calls Try.prog 15 #[(Value.int .i64 t136), (Value.int .i64 (0 : Int)), (Value.int .i64 (4096 : Int))] w135 (R15 fun r138 w139 =>
M.nil p1 fun a140 =>
M.st (a140.add 1) (Value.int .i64 r138) w139 fun w142 =>
M.join (fun (w155 : World) => 
M.ld (Value.int .i64) (b2.add 1) w155 fun t160 =>
M.ite (decide ((4096 : Int) < t160)) (
M.nil p1 fun a163 =>
M.st (a163.add 1) (Value.int .i64 (4096 : Int)) w155 fun w165 =>
J26 w165) (
J26 w155)) fun J145 => 
M.ld (Value.int .i64) (b2.add 1) w142 fun t146 =>
M.ite (decide (t146 < (0 : Int))) (
M.nil p1 fun a149 =>
M.st (a149.add 1) (Value.int .i64 (0 : Int)) w142 fun w151 =>
J145 w151) (
J145 w142)))) (
J26 w23)))))
theorem F21_ok {w0 : World} {p0 : Option Addr} {p1 : Option Addr} {p2_0 : Int} {p2_1 : Int} {p2_2 : Int} {p2_3 : Int} {p2_4 : SV} {p2_5 : Bool} {K : Bool → World → Prop} (h : F21 p0 p1 p2_0 p2_1 p2_2 p2_3 p2_4 p2_5 K w0) : Calls Try.prog 21 #[(Value.pointer p0), (Value.pointer p1), (Value.agg #[(Value.int .i64 p2_0), (Value.int .i64 p2_1), (Value.int .i64 p2_2), (Value.int .u32 p2_3), (SV.v p2_4), (Value.bool p2_5)])] w0 (R21 K) := by
  refine calls_of_WE (args := [(Value.pointer p0), (Value.pointer p1), (Value.agg #[(Value.int .i64 p2_0), (Value.int .i64 p2_1), (Value.int .i64 p2_2), (Value.int .u32 p2_3), (SV.v p2_4), (Value.bool p2_5)])]) (rs := [.tmp 6]) Try.func21 rfl (N := 166) rfl rfl rfl rfl ?_
  refine WE.seq ?_
  refine WE.reg ?_
  obtain ⟨b2, hpb2, w1, hww1, h⟩ := M.new_use h
  refine LE.r (v := (Value.pointer (some b2))) (Wn.no rfl) rfl (R.box (cs := #[(Value.int .i64 p2_0), (Value.int .i64 p2_1), (Value.int .i64 p2_2), (Value.int .u32 p2_3), (SV.v p2_4), (Value.bool p2_5)]) rfl rfl hpb2 hww1) ?_
  refine LE.p (v := (Value.bool false)) (Wn.no rfl) rfl (R.assign rfl) ?_
  refine LE.nil ?_
  refine WE.seq ?_
  refine WE.reg ?_
  obtain ⟨t3, t4, t5, t6, t7, t8, h9, h⟩ := h
  refine LE.r (v := (Value.agg #[(Value.int .i64 t3), (Value.int .i64 t4), (Value.int .i64 t5), (Value.int .u32 t6), (SV.v t7), (Value.bool t8)])) (Wn.no rfl) rfl (R.ldA ag30 sz30 rfl rfl h9) ?_
  refine LE.c (Wn.no rfl) rfl (R.call bd9 (Ls.cons rfl Ls.nil) rfl) (Calls.mono h ?_)
  rintro _ w13 ⟨r10, r11, r12, rfl, h⟩
  refine ⟨_, rfl, ?_⟩
  obtain ⟨b15, hpb15, w14, hww14, h⟩ := M.new_use h
  refine LE.r (v := (Value.pointer (some b15))) (Wn.no rfl) rfl (R.alloc (cs := #[(Value.int .u32 (0 : Int)), (Value.int .i64 (0 : Int)), (SV.v SV.nil)]) ze35 rfl hpb15 hww14) ?_
  obtain ⟨w16, hww16, h17, h⟩ := M.stA_use h
  refine LE.s (Wn.no rfl) rfl (R.stA (a := b15) [(Value.int .u32 r10), (Value.int .i64 r11), (SV.v r12)] sz35 rfl rfl rfl (by simp [Value.oneCell']) h17 hww16) ?_
  refine LE.nil ?_
  refine WE.seq ?_
  refine WE.reg ?_
  refine LE.p (v := (Value.pointer p1)) (Wn.no rfl) rfl (R.move rfl) ?_
  refine LE.p (v := (Value.pointer (some b15))) (Wn.no rfl) rfl (R.fld (off := 0) fa35_0 rfl) ?_
  obtain ⟨t18, h19, h⟩ := h
  obtain ⟨t20, h21, h⟩ := h
  refine LE.r (v := (Value.agg #[(Value.int .u32 t18), (Value.int .i64 t20)])) (Wn.no rfl) rfl (R.ldA ag33 sz33 rfl rfl (Cs.cons h19 (Cs.cons h21 Cs.nil))) ?_
  refine LE.c (Wn.no rfl) rfl (R.call bd32 (Ls.cons rfl (Ls.cons rfl Ls.nil)) rfl) (Calls.mono h ?_)
  rintro _ w23 ⟨r22, rfl, h⟩
  refine ⟨_, rfl, ?_⟩
  refine LE.p (v := (Value.int .i64 r22)) (Wn.no rfl) rfl (R.assign rfl) ?_
  refine LE.nil ?_
  refine WE.seq ?_
  refine WE.seq ?_
  refine WE.reg ?_
  refine LE.p (v := (Value.pointer (some b2))) (Wn.no rfl) rfl (R.fld (off := 0) fa30_0 rfl) ?_
  obtain ⟨t24, h25, h⟩ := h
  refine LE.r (v := (Value.int .i64 t24)) (Wn.no rfl) rfl (R.ld sc3 rfl h25) ?_
  refine LE.nil ?_
  obtain ⟨J26, hJ26, h⟩ := M.join_use h
  refine WE.blkJ (fun e w => J26 w ∧ e 0 = (Value.pointer p0) ∧ e 1 = (Value.pointer p1) ∧ e 7 = (Value.pointer (some b15))) ?_ ?_
  · clear hJ26
    refine WE.seq ?_
    refine WE.reg ?_
    refine LE.p (v := (Value.bool (t24 == (1 : Int)))) (Wn.no rfl) rfl (R.eql rfl rfl) ?_
    refine LE.p (v := (Value.bool (t24 == (1 : Int)))) (Wn.no rfl) rfl (R.assign rfl) ?_
    refine LE.nil ?_
    refine WE.condT rfl (b := (t24 == (1 : Int))) rfl ?_ ?_
    · intro hb27
      replace h := M.ite_t h hb27
      refine WE.seq ?_
      refine WE.reg ?_
      refine LE.p (v := (Value.int .i64 (0 : Int))) (Wn.no rfl) rfl (R.assign rfl) ?_
      refine LE.nil ?_
      refine WE.seq ?_
      obtain ⟨J28, hJ28, h⟩ := M.join_use h
      refine WE.blkJ (fun e w => ∃ (x29 : Int), J28 x29 w ∧ e 0 = (Value.pointer p0) ∧ e 1 = (Value.pointer p1) ∧ e 7 = (Value.pointer (some b15)) ∧ e 9 = (Value.int .i64 x29)) ?_ ?_
      · clear hJ28
        refine WE.seq ?_
        refine WE.reg ?_
        obtain ⟨t30, t31, t32, h33, h⟩ := h
        refine LE.r (v := (Value.agg #[(Value.int .u32 t30), (Value.int .i64 t31), (SV.v t32)])) (Wn.no rfl) rfl (R.ldA ag35 sz35 rfl rfl h33) ?_
        obtain ⟨b36, hpb36, w34, hww34, h⟩ := M.new_use h
        refine LE.r (v := (SV.v (SV.mk (some b36) 1 1))) (Wn.no rfl) rfl (R.bsl (by exact (Ls.cons (R.Pr rfl) Ls.nil)) (fun w => bs45_1 t30 t31 t32 w) hpb36 hww34) ?_
        refine LE.c (Wn.no rfl) rfl (R.call bd33 (Ls.cons rfl Ls.nil) rfl) (Calls.mono h ?_)
        rintro _ w38 ⟨r37, rfl, h⟩
        refine ⟨_, rfl, ?_⟩
        refine LE.p (v := (Value.bool (!r37))) (Wn.no rfl) rfl (R.not rfl) ?_
        refine LE.p (v := (Value.bool (!r37))) (Wn.no rfl) rfl (R.assign rfl) ?_
        refine LE.nil ?_
        refine WE.condT rfl (b := (!r37)) rfl ?_ ?_
        · intro hb39
          replace h := M.ite_t h hb39
          refine WE.reg ?_
          refine LE.p (v := (Value.int .i64 (12 : Int))) (Wn.no rfl) rfl (R.assign rfl) ?_
          refine LE.nil ?_
          exact ⟨_, h, rfl, rfl, rfl, rfl⟩
        · intro hb39
          replace h := M.ite_f h hb39
          refine WE.seq ?_
          obtain ⟨J40, hJ40, h⟩ := M.join_use h
          refine WE.drawJ (fun e w => ∃ (x41 : Bool), J40 x41 w ∧ e 0 = (Value.pointer p0) ∧ e 1 = (Value.pointer p1) ∧ e 7 = (Value.pointer (some b15)) ∧ e 9 = (Value.int .i64 (0 : Int)) ∧ e 44 = (Value.bool x41)) mix ?_ ?_
          · clear hJ40
            obtain ⟨w42, hww42, h⟩ := M.drew_use h
            rw [← hww42]
            clear hww42
            refine DE.t 0 (v := (Value.int .i64 r22)) rfl (by kernel_rfl) (Wn.no rfl) rfl (R.move rfl) ?_
            refine DE.t 1 (v := (Value.bool (decide (r22 < (0 : Int))))) rfl (by kernel_rfl) (Wn.no rfl) rfl (R.lss rfl rfl) ?_
            refine DE.t 2 (v := (Value.bool (decide (r22 < (0 : Int))))) rfl (by kernel_rfl) (Wn.no rfl) rfl (R.move rfl) ?_
            rcases M.ite_use h with ⟨hb43, h⟩ | ⟨hb43, h⟩
            · refine DE.t 3 (v := (Value.pointer p1)) rfl (by kernel_rfl) (Wn.yes 2 47 true rfl rfl rfl (congrArg Value.bool hb43)) rfl (R.move rfl) ?_
              obtain ⟨a44, h45, h⟩ := h
              refine DE.t 4 (v := (Value.pointer (some a44))) rfl (by kernel_rfl) (Wn.yes 2 47 true rfl rfl rfl (congrArg Value.bool hb43)) rfl (R.nilC (congrArg Value.pointer h45)) ?_
              refine DE.t 5 (v := (Value.pointer (some a44))) rfl (by kernel_rfl) (Wn.yes 2 47 true rfl rfl rfl (congrArg Value.bool hb43)) rfl (R.fld (off := 0) fa53_0 rfl) ?_
              refine DE.t 8 (v := (Value.pointer p1)) rfl (by kernel_rfl) (Wn.yes 2 47 true rfl rfl rfl (congrArg Value.bool hb43)) rfl (R.move rfl) ?_
              obtain ⟨a46, h47, h⟩ := h
              refine DE.t 9 (v := (Value.pointer (some a46))) rfl (by kernel_rfl) (Wn.yes 2 47 true rfl rfl rfl (congrArg Value.bool hb43)) rfl (R.nilC (congrArg Value.pointer h47)) ?_
              refine DE.t 10 (v := (Value.pointer (some (a46.add 1)))) rfl (by kernel_rfl) (Wn.yes 2 47 true rfl rfl rfl (congrArg Value.bool hb43)) rfl (R.fld (off := 1) fa53_1 rfl) ?_
              obtain ⟨t48, h49, h⟩ := h
              refine DE.hold 6 (fun w => w.cell? a44 = some (SV.v t48)) (v := (SV.v t48)) rfl (by kernel_rfl) (Wn.yes 2 47 true rfl rfl rfl (congrArg Value.bool hb43)) rfl h49 (fun w hs => R.ld sc45 rfl hs) ?_
              refine DE.t 7 (v := (Value.int .i64 (t48.len : Int))) rfl (by kernel_rfl) (Wn.yes 2 47 true rfl rfl rfl (congrArg Value.bool hb43)) rfl (R.len sl45 rfl) ?_
              obtain ⟨t50, h51, h⟩ := h
              refine DE.main 11 (by kernel_rfl) ?_
              refine One.r 11 (v := (Value.int .i64 t50)) rfl (Wn.yes 2 47 true rfl rfl rfl (congrArg Value.bool hb43)) rfl (R.ld sc3 rfl h51) (.inl rfl) ?_
              refine DE.t 12 (v := (Value.bool (decide (t50 ≤ (t48.len : Int))))) rfl (by kernel_rfl) (Wn.yes 2 47 true rfl rfl rfl (congrArg Value.bool hb43)) rfl (R.geq rfl rfl) ?_
              refine DE.t 13 (v := (Value.bool (decide (t50 ≤ (t48.len : Int))))) rfl (by kernel_rfl) (Wn.no rfl) rfl (R.pickT (congrArg Value.bool hb43) rfl) ?_
              refine DE.t 14 (v := (Value.bool (decide (t50 ≤ (t48.len : Int))))) rfl (by kernel_rfl) (Wn.no rfl) rfl (R.assign rfl) ?_
              refine DE.done (by kernel_rfl) ?_
              exact ⟨_, h, rfl, rfl, rfl, rfl, rfl⟩
            · refine DE.u 3 rfl (by kernel_rfl) (Un.no 2 47 true rfl rfl rfl (congrArg Value.bool hb43)) ?_
              refine DE.u 4 rfl (by kernel_rfl) (Un.no 2 47 true rfl rfl rfl (congrArg Value.bool hb43)) ?_
              refine DE.u 5 rfl (by kernel_rfl) (Un.no 2 47 true rfl rfl rfl (congrArg Value.bool hb43)) ?_
              refine DE.u 6 rfl (by kernel_rfl) (Un.no 2 47 true rfl rfl rfl (congrArg Value.bool hb43)) ?_
              refine DE.u 7 rfl (by kernel_rfl) (Un.no 2 47 true rfl rfl rfl (congrArg Value.bool hb43)) ?_
              refine DE.u 8 rfl (by kernel_rfl) (Un.no 2 47 true rfl rfl rfl (congrArg Value.bool hb43)) ?_
              refine DE.u 9 rfl (by kernel_rfl) (Un.no 2 47 true rfl rfl rfl (congrArg Value.bool hb43)) ?_
              refine DE.u 10 rfl (by kernel_rfl) (Un.no 2 47 true rfl rfl rfl (congrArg Value.bool hb43)) ?_
              refine DE.u 11 rfl (by kernel_rfl) (Un.no 2 47 true rfl rfl rfl (congrArg Value.bool hb43)) ?_
              refine DE.u 12 rfl (by kernel_rfl) (Un.no 2 47 true rfl rfl rfl (congrArg Value.bool hb43)) ?_
              refine DE.t 13 (v := (Value.bool false)) rfl (by kernel_rfl) (Wn.no rfl) rfl (R.pickF (congrArg Value.bool hb43) rfl) ?_
              refine DE.t 14 (v := (Value.bool false)) rfl (by kernel_rfl) (Wn.no rfl) rfl (R.assign rfl) ?_
              refine DE.done (by kernel_rfl) ?_
              exact ⟨_, h, rfl, rfl, rfl, rfl, rfl⟩
          · rintro e52 w53 ⟨x41, h, f54, f55, f56, f57, f58⟩
            subst hJ40
            refine WE.condT rfl (b := x41) f58 ?_ ?_
            · intro hb59
              replace h := M.ite_t h hb59
              refine WE.reg ?_
              refine LE.p (v := (Value.int .i64 (13 : Int))) (Wn.no rfl) rfl (R.assign rfl) ?_
              refine LE.nil ?_
              exact ⟨_, h, f54, f55, f56, rfl⟩
            · intro hb59
              replace h := M.ite_f h hb59
              refine WE.seq ?_
              refine WE.draw mix ?_
              obtain ⟨w60, hww60, h⟩ := M.drew_use h
              rw [← hww60]
              clear hww60
              refine DE.t 0 (v := (Value.pointer p1)) rfl (by kernel_rfl) (Wn.no rfl) rfl (R.move f55) ?_
              refine DE.t 1 (v := (Value.pointer p1)) rfl (by kernel_rfl) (Wn.no rfl) rfl (R.move f55) ?_
              obtain ⟨a61, h62, h⟩ := h
              refine DE.t 2 (v := (Value.pointer (some a61))) rfl (by kernel_rfl) (Wn.no rfl) rfl (R.nilC (congrArg Value.pointer h62)) ?_
              refine DE.t 3 (v := (Value.pointer (some a61))) rfl (by kernel_rfl) (Wn.no rfl) rfl (R.fld (off := 0) fa53_0 rfl) ?_
              obtain ⟨t63, h64, h⟩ := h
              refine DE.hold 4 (fun w => w.cell? a61 = some (SV.v t63)) (v := (SV.v t63)) rfl (by kernel_rfl) (Wn.no rfl) rfl h64 (fun w hs => R.ld sc45 rfl hs) ?_
              obtain ⟨t65, t66, t67, h68, h⟩ := h
              refine DE.main 5 (by kernel_rfl) ?_
              refine One.r 5 (v := (Value.agg #[(Value.int .u32 t65), (Value.int .i64 t66), (SV.v t67)])) rfl (Wn.no rfl) rfl (R.ldA ag35 sz35 f56 rfl h68) (.inl rfl) ?_
              refine DE.t 6 (v := (Value.agg #[(Value.bool false), (Value.int .u32 t65), (Value.int .i64 t66), (SV.v t67)])) rfl (by kernel_rfl) (Wn.no rfl) rfl (R.bld (by exact (Ls.cons (R.Pr rfl) Ls.nil)) (fun w => bu74_1 t65 t66 t67 w)) ?_
              refine DE.main 7 (by kernel_rfl) ?_
              refine One.c 7 rfl (Wn.no rfl) rfl (R.call bd34 (Ls.cons rfl (Ls.cons rfl Ls.nil)) rfl) (Calls.mono h ?_)
              rintro _ w70 ⟨r69, rfl, h⟩
              refine ⟨_, rfl, ⟨aftT (by kernel_rfl), trivial⟩, ?_⟩
              obtain ⟨a71, h72, h⟩ := h
              refine DE.t 8 (v := (Value.pointer (some a71))) rfl (by kernel_rfl) (Wn.no rfl) rfl (R.nilC (congrArg Value.pointer h72)) ?_
              refine DE.t 9 (v := (Value.pointer (some a71))) rfl (by kernel_rfl) (Wn.no rfl) rfl (R.fld (off := 0) fa53_0 rfl) ?_
              obtain ⟨w73, hww73, h74, h75, h⟩ := M.st_use h
              refine DE.main 10 (by kernel_rfl) ?_
              refine One.s 10 rfl (Wn.no rfl) rfl (R.st (a := a71) (v := (SV.v r69)) sz45 rfl rfl rfl rfl h74 h75 hww73) ⟨aftT (by kernel_rfl), trivial⟩ ?_
              refine DE.done (by kernel_rfl) ?_
              refine WE.reg ?_
              refine LE.p (v := (Value.pointer p1)) (Wn.no rfl) rfl (R.move f55) ?_
              obtain ⟨a76, h77, h⟩ := h
              refine LE.p (v := (Value.pointer (some a76))) (Wn.no rfl) rfl (R.nilC (congrArg Value.pointer h77)) ?_
              refine LE.p (v := (Value.pointer (some (a76.add 2)))) (Wn.no rfl) rfl (R.fld (off := 2) fa53_2 rfl) ?_
              obtain ⟨t78, h79, h⟩ := h
              refine LE.r (v := (Value.int .i64 t78)) (Wn.no rfl) rfl (R.ld sc3 rfl h79) ?_
              refine LE.p (v := (Value.int .i64 (IntKind.i64.wrap (t78 + (1 : Int))))) (Wn.no rfl) rfl (R.add rfl rfl) ?_
              obtain ⟨a80, h81, h⟩ := h
              refine LE.p (v := (Value.pointer (some a80))) (Wn.no rfl) rfl (R.nilC (congrArg Value.pointer h81)) ?_
              refine LE.p (v := (Value.pointer (some (a80.add 2)))) (Wn.no rfl) rfl (R.fld (off := 2) fa53_2 rfl) ?_
              obtain ⟨w82, hww82, h83, h84, h⟩ := M.st_use h
              refine LE.s (Wn.no rfl) rfl (R.st (a := (a80.add 2)) (v := (Value.int .i64 (IntKind.i64.wrap (t78 + (1 : Int))))) sz3 rfl rfl rfl rfl h83 h84 hww82) ?_
              refine LE.nil ?_
              exact ⟨_, h, f54, f55, f56, f57⟩
      · rintro e85 w86 ⟨x29, h, f87, f88, f89, f90⟩
        subst hJ28
        refine WE.seq ?_
        refine WE.reg ?_
        refine LE.p (v := (Value.pointer p0)) (Wn.no rfl) rfl (R.move f87) ?_
        obtain ⟨t91, t92, t93, h94, h⟩ := h
        refine LE.r (v := (Value.agg #[(Value.int .u32 t91), (Value.int .i64 t92), (SV.v t93)])) (Wn.no rfl) rfl (R.ldA ag35 sz35 f89 rfl h94) ?_
        refine LE.c (Wn.no rfl) rfl (R.call bd8 (Ls.cons rfl (Ls.cons rfl Ls.nil)) rfl) (Calls.mono h ?_)
        rintro _ w96 ⟨r95, rfl, h⟩
        refine ⟨_, rfl, ?_⟩
        refine LE.p (v := (Value.int .i64 x29)) (Wn.no rfl) rfl (R.move f90) ?_
        refine LE.p (v := (Value.bool (r95 != x29))) (Wn.no rfl) rfl (R.neq rfl rfl) ?_
        refine LE.nil ?_
        refine WE.condT rfl (b := (r95 != x29)) rfl ?_ ?_
        · intro hb97
          replace h := M.ite_t h hb97
          refine WE.seq ?_
          refine WE.reg ?_
          refine LE.p (v := (Value.bool false)) (Wn.no rfl) rfl (R.assign rfl) ?_
          refine LE.nil ?_
          refine WE.ret ?_
          exact ⟨_, (Res.tmp rfl Res.nil), _, rfl, h⟩
        · intro hb97
          replace h := M.ite_f h hb97
          refine WE.skip ?_
          exact ⟨h, f87, f88, f89⟩
    · intro hb27
      replace h := M.ite_f h hb27
      refine WE.seq ?_
      refine WE.reg ?_
      refine LE.p (v := (Value.bool (t24 == (2 : Int)))) (Wn.no rfl) rfl (R.eql rfl rfl) ?_
      refine LE.p (v := (Value.bool (t24 == (2 : Int)))) (Wn.no rfl) rfl (R.assign rfl) ?_
      refine LE.nil ?_
      refine WE.condT rfl (b := (t24 == (2 : Int))) rfl ?_ ?_
      · intro hb98
        replace h := M.ite_t h hb98
        refine WE.seq ?_
        refine WE.seq ?_
        refine WE.reg ?_
        refine LE.p (v := (Value.pointer p0)) (Wn.no rfl) rfl (R.move rfl) ?_
        refine LE.p (v := (Value.pointer (some b15))) (Wn.no rfl) rfl (R.fld (off := 0) fa35_0 rfl) ?_
        obtain ⟨t99, h100, h⟩ := h
        obtain ⟨t101, h102, h⟩ := h
        refine LE.r (v := (Value.agg #[(Value.int .u32 t99), (Value.int .i64 t101)])) (Wn.no rfl) rfl (R.ldA ag33 sz33 rfl rfl (Cs.cons h100 (Cs.cons h102 Cs.nil))) ?_
        refine LE.c (Wn.no rfl) rfl (R.call bd20 (Ls.cons rfl (Ls.cons rfl Ls.nil)) rfl) (Calls.mono h ?_)
        rintro _ w104 ⟨r103, rfl, h⟩
        refine ⟨_, rfl, ?_⟩
        refine LE.p (v := (Value.int .i64 r22)) (Wn.no rfl) rfl (R.move rfl) ?_
        refine LE.p (v := (Value.bool (decide ((0 : Int) ≤ r22)))) (Wn.no rfl) rfl (R.geq rfl rfl) ?_
        refine LE.p (v := (Value.bool (!(r103 == (decide ((0 : Int) ≤ r22)))))) (Wn.no rfl) rfl (R.bneq bo4 rfl rfl) ?_
        refine LE.nil ?_
        refine WE.condT rfl (b := (!(r103 == (decide ((0 : Int) ≤ r22))))) rfl ?_ ?_
        · intro hb105
          replace h := M.ite_t h hb105
          refine WE.seq ?_
          refine WE.reg ?_
          refine LE.p (v := (Value.bool false)) (Wn.no rfl) rfl (R.assign rfl) ?_
          refine LE.nil ?_
          refine WE.ret ?_
          exact ⟨_, (Res.tmp rfl Res.nil), _, rfl, h⟩
        · intro hb105
          replace h := M.ite_f h hb105
          refine WE.skip ?_
          refine WE.seq ?_
          refine WE.reg ?_
          refine LE.p (v := (Value.int .i64 r22)) (Wn.no rfl) rfl (R.move rfl) ?_
          refine LE.p (v := (Value.bool (decide ((0 : Int) ≤ r22)))) (Wn.no rfl) rfl (R.geq rfl rfl) ?_
          refine LE.nil ?_
          refine WE.condT rfl (b := (decide ((0 : Int) ≤ r22))) rfl ?_ ?_
          · intro hb106
            replace h := M.ite_t h hb106
            refine WE.seq ?_
            refine WE.draw mix ?_
            obtain ⟨w107, hww107, h⟩ := M.drew_use h
            rw [← hww107]
            clear hww107
            refine DE.t 0 (v := (Value.pointer p1)) rfl (by kernel_rfl) (Wn.no rfl) rfl (R.move rfl) ?_
            refine DE.t 1 (v := (Value.pointer p1)) rfl (by kernel_rfl) (Wn.no rfl) rfl (R.move rfl) ?_
            obtain ⟨a108, h109, h⟩ := h
            refine DE.t 2 (v := (Value.pointer (some a108))) rfl (by kernel_rfl) (Wn.no rfl) rfl (R.nilC (congrArg Value.pointer h109)) ?_
            refine DE.t 3 (v := (Value.pointer (some a108))) rfl (by kernel_rfl) (Wn.no rfl) rfl (R.fld (off := 0) fa53_0 rfl) ?_
            obtain ⟨t110, h111, h⟩ := h
            refine DE.hold 4 (fun w => w.cell? a108 = some (SV.v t110)) (v := (SV.v t110)) rfl (by kernel_rfl) (Wn.no rfl) rfl h111 (fun w hs => R.ld sc45 rfl hs) ?_
            obtain ⟨t112, t113, t114, h115, h⟩ := h
            refine DE.main 5 (by kernel_rfl) ?_
            refine One.r 5 (v := (Value.agg #[(Value.int .u32 t112), (Value.int .i64 t113), (SV.v t114)])) rfl (Wn.no rfl) rfl (R.ldA ag35 sz35 rfl rfl h115) (.inl rfl) ?_
            refine DE.t 6 (v := (Value.agg #[(Value.bool true), (Value.int .u32 t112), (Value.int .i64 t113), (SV.v t114)])) rfl (by kernel_rfl) (Wn.no rfl) rfl (R.bld (by exact (Ls.cons (R.Pr rfl) (Ls.cons (R.Pr rfl) Ls.nil))) (fun w => bu74_0_1 true t112 t113 t114 w)) ?_
            refine DE.main 7 (by kernel_rfl) ?_
            refine One.c 7 rfl (Wn.no rfl) rfl (R.call bd34 (Ls.cons rfl (Ls.cons rfl Ls.nil)) rfl) (Calls.mono h ?_)
            rintro _ w117 ⟨r116, rfl, h⟩
            refine ⟨_, rfl, ⟨aftT (by kernel_rfl), trivial⟩, ?_⟩
            obtain ⟨a118, h119, h⟩ := h
            refine DE.t 8 (v := (Value.pointer (some a118))) rfl (by kernel_rfl) (Wn.no rfl) rfl (R.nilC (congrArg Value.pointer h119)) ?_
            refine DE.t 9 (v := (Value.pointer (some a118))) rfl (by kernel_rfl) (Wn.no rfl) rfl (R.fld (off := 0) fa53_0 rfl) ?_
            obtain ⟨w120, hww120, h121, h122, h⟩ := M.st_use h
            refine DE.main 10 (by kernel_rfl) ?_
            refine One.s 10 rfl (Wn.no rfl) rfl (R.st (a := a118) (v := (SV.v r116)) sz45 rfl rfl rfl rfl h121 h122 hww120) ⟨aftT (by kernel_rfl), trivial⟩ ?_
            refine DE.done (by kernel_rfl) ?_
            refine WE.reg ?_
            refine LE.p (v := (Value.pointer p1)) (Wn.no rfl) rfl (R.move rfl) ?_
            obtain ⟨a123, h124, h⟩ := h
            refine LE.p (v := (Value.pointer (some a123))) (Wn.no rfl) rfl (R.nilC (congrArg Value.pointer h124)) ?_
            refine LE.p (v := (Value.pointer (some (a123.add 2)))) (Wn.no rfl) rfl (R.fld (off := 2) fa53_2 rfl) ?_
            obtain ⟨t125, h126, h⟩ := h
            refine LE.r (v := (Value.int .i64 t125)) (Wn.no rfl) rfl (R.ld sc3 rfl h126) ?_
            refine LE.p (v := (Value.int .i64 (IntKind.i64.wrap (t125 + (1 : Int))))) (Wn.no rfl) rfl (R.add rfl rfl) ?_
            obtain ⟨a127, h128, h⟩ := h
            refine LE.p (v := (Value.pointer (some a127))) (Wn.no rfl) rfl (R.nilC (congrArg Value.pointer h128)) ?_
            refine LE.p (v := (Value.pointer (some (a127.add 2)))) (Wn.no rfl) rfl (R.fld (off := 2) fa53_2 rfl) ?_
            obtain ⟨w129, hww129, h130, h131, h⟩ := M.st_use h
            refine LE.s (Wn.no rfl) rfl (R.st (a := (a127.add 2)) (v := (Value.int .i64 (IntKind.i64.wrap (t125 + (1 : Int))))) sz3 rfl rfl rfl rfl h130 h131 hww129) ?_
            refine LE.nil ?_
            exact ⟨h, rfl, rfl, rfl⟩
          · intro hb106
            replace h := M.ite_f h hb106
            refine WE.skip ?_
            exact ⟨h, rfl, rfl, rfl⟩
      · intro hb98
        replace h := M.ite_f h hb98
        refine WE.seq ?_
        refine WE.reg ?_
        refine LE.p (v := (Value.bool (t24 == (3 : Int)))) (Wn.no rfl) rfl (R.eql rfl rfl) ?_
        refine LE.p (v := (Value.bool (t24 == (3 : Int)))) (Wn.no rfl) rfl (R.assign rfl) ?_
        refine LE.nil ?_
        refine WE.condT rfl (b := (t24 == (3 : Int))) rfl ?_ ?_
        · intro hb132
          replace h := M.ite_t h hb132
          refine WE.seq ?_
          refine WE.reg ?_
          refine LE.p (v := (Value.pointer p0)) (Wn.no rfl) rfl (R.move rfl) ?_
          refine LE.p (v := (Value.pointer (some (b2.add 1)))) (Wn.no rfl) rfl (R.fld (off := 1) fa30_1 rfl) ?_
          obtain ⟨t133, h134, h⟩ := h
          refine LE.r (v := (Value.int .i64 t133)) (Wn.no rfl) rfl (R.ld sc3 rfl h134) ?_
          refine LE.c (Wn.no rfl) rfl (R.call bd35 (Ls.cons rfl (Ls.cons rfl Ls.nil)) rfl) (Calls.mono h ?_)
          rintro _ w135 ⟨rfl, h⟩
          refine ⟨_, rfl, ?_⟩
          refine LE.nil ?_
          refine WE.seq ?_
          refine WE.reg ?_
          refine LE.p (v := (Value.pointer p1)) (Wn.no rfl) rfl (R.move rfl) ?_
          refine LE.p (v := (Value.pointer (some (b2.add 1)))) (Wn.no rfl) rfl (R.fld (off := 1) fa30_1 rfl) ?_
          obtain ⟨t136, h137, h⟩ := h
          refine LE.r (v := (Value.int .i64 t136)) (Wn.no rfl) rfl (R.ld sc3 rfl h137) ?_
          refine LE.c (Wn.no rfl) rfl (R.call bd15 (Ls.cons rfl (Ls.cons rfl (Ls.cons rfl Ls.nil))) rfl) (Calls.mono h ?_)
          rintro _ w139 ⟨r138, rfl, h⟩
          refine ⟨_, rfl, ?_⟩
          obtain ⟨a140, h141, h⟩ := h
          refine LE.p (v := (Value.pointer (some a140))) (Wn.no rfl) rfl (R.nilC (congrArg Value.pointer h141)) ?_
          refine LE.p (v := (Value.pointer (some (a140.add 1)))) (Wn.no rfl) rfl (R.fld (off := 1) fa53_1 rfl) ?_
          obtain ⟨w142, hww142, h143, h144, h⟩ := M.st_use h
          refine LE.s (Wn.no rfl) rfl (R.st (a := (a140.add 1)) (v := (Value.int .i64 r138)) sz3 rfl rfl rfl rfl h143 h144 hww142) ?_
          refine LE.nil ?_
          obtain ⟨J145, hJ145, h⟩ := M.join_use h
          refine WE.join (fun e w => J145 w ∧ e 0 = (Value.pointer p0) ∧ e 1 = (Value.pointer p1) ∧ e 5 = (Value.pointer (some b2)) ∧ e 7 = (Value.pointer (some b15))) ?_ ?_
          · clear hJ145
            refine WE.seq ?_
            refine WE.reg ?_
            refine LE.p (v := (Value.pointer (some (b2.add 1)))) (Wn.no rfl) rfl (R.fld (off := 1) fa30_1 rfl) ?_
            obtain ⟨t146, h147, h⟩ := h
            refine LE.r (v := (Value.int .i64 t146)) (Wn.no rfl) rfl (R.ld sc3 rfl h147) ?_
            refine LE.p (v := (Value.bool (decide (t146 < (0 : Int))))) (Wn.no rfl) rfl (R.lss rfl rfl) ?_
            refine LE.nil ?_
            refine WE.condT rfl (b := (decide (t146 < (0 : Int)))) rfl ?_ ?_
            · intro hb148
              replace h := M.ite_t h hb148
              refine WE.reg ?_
              refine LE.p (v := (Value.pointer p1)) (Wn.no rfl) rfl (R.move rfl) ?_
              obtain ⟨a149, h150, h⟩ := h
              refine LE.p (v := (Value.pointer (some a149))) (Wn.no rfl) rfl (R.nilC (congrArg Value.pointer h150)) ?_
              refine LE.p (v := (Value.pointer (some (a149.add 1)))) (Wn.no rfl) rfl (R.fld (off := 1) fa53_1 rfl) ?_
              obtain ⟨w151, hww151, h152, h153, h⟩ := M.st_use h
              refine LE.s (Wn.no rfl) rfl (R.st (a := (a149.add 1)) (v := (Value.int .i64 (0 : Int))) sz3 rfl rfl rfl rfl h152 h153 hww151) ?_
              refine LE.nil ?_
              exact ⟨h, rfl, rfl, rfl, rfl⟩
            · intro hb148
              replace h := M.ite_f h hb148
              refine WE.skip ?_
              exact ⟨h, rfl, rfl, rfl, rfl⟩
          · rintro e154 w155 ⟨h, f156, f157, f158, f159⟩
            subst hJ145
            refine WE.seq ?_
            refine WE.reg ?_
            refine LE.p (v := (Value.pointer (some (b2.add 1)))) (Wn.no rfl) rfl (R.fld (off := 1) fa30_1 f158) ?_
            obtain ⟨t160, h161, h⟩ := h
            refine LE.r (v := (Value.int .i64 t160)) (Wn.no rfl) rfl (R.ld sc3 rfl h161) ?_
            refine LE.p (v := (Value.bool (decide ((4096 : Int) < t160)))) (Wn.no rfl) rfl (R.gtr rfl rfl) ?_
            refine LE.nil ?_
            refine WE.condT rfl (b := (decide ((4096 : Int) < t160))) rfl ?_ ?_
            · intro hb162
              replace h := M.ite_t h hb162
              refine WE.reg ?_
              refine LE.p (v := (Value.pointer p1)) (Wn.no rfl) rfl (R.move f157) ?_
              obtain ⟨a163, h164, h⟩ := h
              refine LE.p (v := (Value.pointer (some a163))) (Wn.no rfl) rfl (R.nilC (congrArg Value.pointer h164)) ?_
              refine LE.p (v := (Value.pointer (some (a163.add 1)))) (Wn.no rfl) rfl (R.fld (off := 1) fa53_1 rfl) ?_
              obtain ⟨w165, hww165, h166, h167, h⟩ := M.st_use h
              refine LE.s (Wn.no rfl) rfl (R.st (a := (a163.add 1)) (v := (Value.int .i64 (4096 : Int))) sz3 rfl rfl rfl rfl h166 h167 hww165) ?_
              refine LE.nil ?_
              exact ⟨h, f156, f157, f159⟩
            · intro hb162
              replace h := M.ite_f h hb162
              refine WE.skip ?_
              exact ⟨h, f156, f157, f159⟩
        · intro hb132
          replace h := M.ite_f h hb132
          refine WE.skip ?_
          exact ⟨h, rfl, rfl, rfl⟩
  · rintro e168 w169 ⟨h, f170, f171, f172⟩
    subst hJ26
    refine WE.seq ?_
    refine WE.reg ?_
    refine LE.p (v := (Value.pointer p0)) (Wn.no rfl) rfl (R.move f170) ?_
    refine LE.p (v := (Value.pointer (some b15))) (Wn.no rfl) rfl (R.fld (off := 0) fa35_0 f172) ?_
    obtain ⟨t173, h174, h⟩ := h
    obtain ⟨t175, h176, h⟩ := h
    refine LE.r (v := (Value.agg #[(Value.int .u32 t173), (Value.int .i64 t175)])) (Wn.no rfl) rfl (R.ldA ag33 sz33 rfl rfl (Cs.cons h174 (Cs.cons h176 Cs.nil))) ?_
    refine LE.c (Wn.no rfl) rfl (R.call bd11 (Ls.cons rfl (Ls.cons rfl Ls.nil)) rfl) (Calls.mono h ?_)
    rintro _ w179 ⟨r177, r178, rfl, h⟩
    refine ⟨_, rfl, ?_⟩
    refine LE.p (v := (Value.tuple #[(SV.v r177), (Value.bool r178)])) (Wn.no rfl) rfl (R.move rfl) ?_
    refine LE.p (v := (SV.v r177)) (Wn.no rfl) rfl (R.ext rfl rfl) ?_
    refine LE.p (v := (Value.bool r178)) (Wn.no rfl) rfl (R.ext rfl rfl) ?_
    refine LE.p (v := (SV.v r177)) (Wn.no rfl) rfl (R.assign rfl) ?_
    refine LE.p (v := (Value.bool r178)) (Wn.no rfl) rfl (R.assign rfl) ?_
    refine LE.nil ?_
    refine WE.seq ?_
    refine WE.reg ?_
    refine LE.p (v := (Value.pointer p1)) (Wn.no rfl) rfl (R.move f171) ?_
    refine LE.p (v := (Value.pointer (some b15))) (Wn.no rfl) rfl (R.fld (off := 0) fa35_0 f172) ?_
    obtain ⟨t180, h181, h⟩ := h
    obtain ⟨t182, h183, h⟩ := h
    refine LE.r (v := (Value.agg #[(Value.int .u32 t180), (Value.int .i64 t182)])) (Wn.no rfl) rfl (R.ldA ag33 sz33 rfl rfl (Cs.cons h181 (Cs.cons h183 Cs.nil))) ?_
    refine LE.c (Wn.no rfl) rfl (R.call bd32 (Ls.cons rfl (Ls.cons rfl Ls.nil)) rfl) (Calls.mono h ?_)
    rintro _ w185 ⟨r184, rfl, h⟩
    refine ⟨_, rfl, ?_⟩
    refine LE.p (v := (Value.int .i64 r184)) (Wn.no rfl) rfl (R.assign rfl) ?_
    refine LE.nil ?_
    refine WE.seq ?_
    obtain ⟨J186, hJ186, h⟩ := M.join_use h
    refine WE.drawJ (fun e w => ∃ (x187 : Bool), J186 x187 w ∧ e 6 = (Value.bool x187)) mix ?_ ?_
    · clear hJ186
      obtain ⟨w188, hww188, h⟩ := M.drew_use h
      rw [← hww188]
      clear hww188
      refine DE.t 0 (v := (Value.bool r178)) rfl (by kernel_rfl) (Wn.no rfl) rfl (R.move rfl) ?_
      refine DE.t 1 (v := (Value.int .i64 r184)) rfl (by kernel_rfl) (Wn.no rfl) rfl (R.move rfl) ?_
      refine DE.t 2 (v := (Value.bool (decide ((0 : Int) ≤ r184)))) rfl (by kernel_rfl) (Wn.no rfl) rfl (R.geq rfl rfl) ?_
      refine DE.t 3 (v := (Value.bool (r178 == (decide ((0 : Int) ≤ r184))))) rfl (by kernel_rfl) (Wn.no rfl) rfl (R.beql bo4 rfl rfl) ?_
      refine DE.t 4 (v := (Value.bool (r178 == (decide ((0 : Int) ≤ r184))))) rfl (by kernel_rfl) (Wn.no rfl) rfl (R.move rfl) ?_
      rcases M.ite_use h with ⟨hb189, h⟩ | ⟨hb189, h⟩
      · refine DE.t 5 (v := (Value.bool r178)) rfl (by kernel_rfl) (Wn.yes 4 131 true rfl rfl rfl (congrArg Value.bool hb189)) rfl (R.move rfl) ?_
        refine DE.t 6 (v := (Value.bool (!r178))) rfl (by kernel_rfl) (Wn.yes 4 131 true rfl rfl rfl (congrArg Value.bool hb189)) rfl (R.not rfl) ?_
        refine DE.t 7 (v := (Value.bool (!r178))) rfl (by kernel_rfl) (Wn.yes 4 131 true rfl rfl rfl (congrArg Value.bool hb189)) rfl (R.move rfl) ?_
        rcases M.ite_use h with ⟨hb190, h⟩ | ⟨hb190, h⟩
        · refine DE.u 8 rfl (by kernel_rfl) (Un.no 7 134 false rfl rfl rfl (congrArg Value.bool hb190)) ?_
          refine DE.u 9 rfl (by kernel_rfl) (Un.no 7 134 false rfl rfl rfl (congrArg Value.bool hb190)) ?_
          refine DE.u 10 rfl (by kernel_rfl) (Un.no 7 134 false rfl rfl rfl (congrArg Value.bool hb190)) ?_
          refine DE.u 11 rfl (by kernel_rfl) (Un.no 7 134 false rfl rfl rfl (congrArg Value.bool hb190)) ?_
          refine DE.u 12 rfl (by kernel_rfl) (Un.no 7 134 false rfl rfl rfl (congrArg Value.bool hb190)) ?_
          refine DE.u 13 rfl (by kernel_rfl) (Un.no 7 134 false rfl rfl rfl (congrArg Value.bool hb190)) ?_
          refine DE.u 14 rfl (by kernel_rfl) (Un.no 7 134 false rfl rfl rfl (congrArg Value.bool hb190)) ?_
          refine DE.u 15 rfl (by kernel_rfl) (Un.no 7 134 false rfl rfl rfl (congrArg Value.bool hb190)) ?_
          refine DE.u 16 rfl (by kernel_rfl) (Un.no 7 134 false rfl rfl rfl (congrArg Value.bool hb190)) ?_
          refine DE.u 17 rfl (by kernel_rfl) (Un.no 7 134 false rfl rfl rfl (congrArg Value.bool hb190)) ?_
          refine DE.t 18 (v := (Value.bool true)) rfl (by kernel_rfl) (Wn.yes 4 131 true rfl rfl rfl (congrArg Value.bool hb189)) rfl (R.pickT (congrArg Value.bool hb190) rfl) ?_
          refine DE.t 19 (v := (Value.bool true)) rfl (by kernel_rfl) (Wn.no rfl) rfl (R.pickT (congrArg Value.bool hb189) rfl) ?_
          refine DE.t 20 (v := (Value.bool true)) rfl (by kernel_rfl) (Wn.no rfl) rfl (R.move rfl) ?_
          refine DE.t 21 (v := (Value.pointer p0)) rfl (by kernel_rfl) (Wn.yes 20 147 true rfl rfl rfl rfl) rfl (R.move f170) ?_
          refine DE.t 23 (v := (Value.pointer p1)) rfl (by kernel_rfl) (Wn.yes 20 147 true rfl rfl rfl rfl) rfl (R.move f171) ?_
          obtain ⟨a191, h192, h⟩ := h
          refine DE.t 24 (v := (Value.pointer (some a191))) rfl (by kernel_rfl) (Wn.yes 20 147 true rfl rfl rfl rfl) rfl (R.nilC (congrArg Value.pointer h192)) ?_
          refine DE.t 25 (v := (Value.pointer (some a191))) rfl (by kernel_rfl) (Wn.yes 20 147 true rfl rfl rfl rfl) rfl (R.fld (off := 0) fa53_0 rfl) ?_
          obtain ⟨t193, h194, h⟩ := h
          refine DE.hold 26 (fun w => w.cell? a191 = some (SV.v t193)) (v := (SV.v t193)) rfl (by kernel_rfl) (Wn.yes 20 147 true rfl rfl rfl rfl) rfl h194 (fun w hs => R.ld sc45 rfl hs) ?_
          refine DE.t 27 (v := (Value.int .i64 (t193.len : Int))) rfl (by kernel_rfl) (Wn.yes 20 147 true rfl rfl rfl rfl) rfl (R.len sl45 rfl) ?_
          refine DE.main 22 (by kernel_rfl) ?_
          refine One.c 22 rfl (Wn.yes 20 147 true rfl rfl rfl rfl) rfl (R.call bd19 (Ls.cons rfl Ls.nil) rfl) (Calls.mono h ?_)
          rintro _ w196 ⟨r195, rfl, h⟩
          obtain ⟨k197, h⟩ := h
          refine ⟨_, rfl, ⟨fun _ => k197, trivial⟩, ?_⟩
          refine DE.t 28 (v := (Value.bool (r195 == (t193.len : Int)))) rfl (by kernel_rfl) (Wn.yes 20 147 true rfl rfl rfl rfl) rfl (R.eql rfl rfl) ?_
          refine DE.t 29 (v := (Value.bool (r195 == (t193.len : Int)))) rfl (by kernel_rfl) (Wn.no rfl) rfl (R.pickT rfl rfl) ?_
          refine DE.t 30 (v := (Value.bool (r195 == (t193.len : Int)))) rfl (by kernel_rfl) (Wn.no rfl) rfl (R.move rfl) ?_
          rcases M.ite_use h with ⟨hb198, h⟩ | ⟨hb198, h⟩
          · refine DE.t 31 (v := (Value.pointer p0)) rfl (by kernel_rfl) (Wn.yes 30 157 true rfl rfl rfl (congrArg Value.bool hb198)) rfl (R.move f170) ?_
            refine DE.t 33 (v := (Value.pointer p1)) rfl (by kernel_rfl) (Wn.yes 30 157 true rfl rfl rfl (congrArg Value.bool hb198)) rfl (R.move f171) ?_
            obtain ⟨a199, h200, h⟩ := h
            refine DE.t 34 (v := (Value.pointer (some a199))) rfl (by kernel_rfl) (Wn.yes 30 157 true rfl rfl rfl (congrArg Value.bool hb198)) rfl (R.nilC (congrArg Value.pointer h200)) ?_
            refine DE.t 35 (v := (Value.pointer (some (a199.add 2)))) rfl (by kernel_rfl) (Wn.yes 30 157 true rfl rfl rfl (congrArg Value.bool hb198)) rfl (R.fld (off := 2) fa53_2 rfl) ?_
            obtain ⟨t201, h202, h⟩ := h
            refine DE.hold 36 (fun w => w.cell? (a199.add 2) = some (Value.int .i64 t201)) (v := (Value.int .i64 t201)) rfl (by kernel_rfl) (Wn.yes 30 157 true rfl rfl rfl (congrArg Value.bool hb198)) rfl h202 (fun w hs => R.ld sc3 rfl hs) ?_
            refine DE.main 32 (by kernel_rfl) ?_
            refine One.c 32 rfl (Wn.yes 30 157 true rfl rfl rfl (congrArg Value.bool hb198)) rfl (R.call bd17 (Ls.cons rfl Ls.nil) rfl) (Calls.mono h ?_)
            rintro _ w204 ⟨r203, rfl, h⟩
            obtain ⟨k205, h⟩ := h
            refine ⟨_, rfl, ⟨fun _ => k205, aftT (by kernel_rfl), trivial⟩, ?_⟩
            refine DE.t 37 (v := (Value.bool (r203 == t201))) rfl (by kernel_rfl) (Wn.yes 30 157 true rfl rfl rfl (congrArg Value.bool hb198)) rfl (R.eql rfl rfl) ?_
            refine DE.t 38 (v := (Value.bool (r203 == t201))) rfl (by kernel_rfl) (Wn.no rfl) rfl (R.pickT (congrArg Value.bool hb198) rfl) ?_
            refine DE.t 39 (v := (Value.bool (r203 == t201))) rfl (by kernel_rfl) (Wn.no rfl) rfl (R.assign rfl) ?_
            refine DE.done (by kernel_rfl) ?_
            exact ⟨_, h, rfl⟩
          · refine DE.u 31 rfl (by kernel_rfl) (Un.no 30 157 true rfl rfl rfl (congrArg Value.bool hb198)) ?_
            refine DE.u 32 rfl (by kernel_rfl) (Un.no 30 157 true rfl rfl rfl (congrArg Value.bool hb198)) ?_
            refine DE.u 33 rfl (by kernel_rfl) (Un.no 30 157 true rfl rfl rfl (congrArg Value.bool hb198)) ?_
            refine DE.u 34 rfl (by kernel_rfl) (Un.no 30 157 true rfl rfl rfl (congrArg Value.bool hb198)) ?_
            refine DE.u 35 rfl (by kernel_rfl) (Un.no 30 157 true rfl rfl rfl (congrArg Value.bool hb198)) ?_
            refine DE.u 36 rfl (by kernel_rfl) (Un.no 30 157 true rfl rfl rfl (congrArg Value.bool hb198)) ?_
            refine DE.u 37 rfl (by kernel_rfl) (Un.no 30 157 true rfl rfl rfl (congrArg Value.bool hb198)) ?_
            refine DE.t 38 (v := (Value.bool false)) rfl (by kernel_rfl) (Wn.no rfl) rfl (R.pickF (congrArg Value.bool hb198) rfl) ?_
            refine DE.t 39 (v := (Value.bool false)) rfl (by kernel_rfl) (Wn.no rfl) rfl (R.assign rfl) ?_
            refine DE.done (by kernel_rfl) ?_
            exact ⟨_, h, rfl⟩
        · refine DE.t 8 (v := (SV.v r177)) rfl (by kernel_rfl) (Wn.yes 7 134 false rfl rfl rfl (congrArg Value.bool hb190)) rfl (R.move rfl) ?_
          refine DE.t 9 (v := (Value.pointer p1)) rfl (by kernel_rfl) (Wn.yes 7 134 false rfl rfl rfl (congrArg Value.bool hb190)) rfl (R.move f171) ?_
          obtain ⟨a206, h207, h⟩ := h
          refine DE.t 10 (v := (Value.pointer (some a206))) rfl (by kernel_rfl) (Wn.yes 7 134 false rfl rfl rfl (congrArg Value.bool hb190)) rfl (R.nilC (congrArg Value.pointer h207)) ?_
          refine DE.t 11 (v := (Value.pointer (some a206))) rfl (by kernel_rfl) (Wn.yes 7 134 false rfl rfl rfl (congrArg Value.bool hb190)) rfl (R.fld (off := 0) fa53_0 rfl) ?_
          refine DE.t 13 (v := (Value.int .i64 r184)) rfl (by kernel_rfl) (Wn.yes 7 134 false rfl rfl rfl (congrArg Value.bool hb190)) rfl (R.move rfl) ?_
          obtain ⟨t208, h209, h⟩ := h
          refine DE.main 12 (by kernel_rfl) ?_
          refine One.r 12 (v := (SV.v t208)) rfl (Wn.yes 7 134 false rfl rfl rfl (congrArg Value.bool hb190)) rfl (R.ld sc45 rfl h209) (.inl rfl) ?_
          obtain ⟨a210, h211, h212, h213, h⟩ := h
          refine DE.t 14 (v := (Value.pointer (some (a210.add (r184.toNat * 3))))) rfl (by kernel_rfl) (Wn.yes 7 134 false rfl rfl rfl (congrArg Value.bool hb190)) rfl (R.idx (s := t208) sl45 rfl rfl h211 h212 h213) ?_
          refine DE.t 15 (v := (Value.pointer (some ((a210.add (r184.toNat * 3)).add 2)))) rfl (by kernel_rfl) (Wn.yes 7 134 false rfl rfl rfl (congrArg Value.bool hb190)) rfl (R.fld (off := 2) fa35_1 rfl) ?_
          obtain ⟨t214, h215, h⟩ := h
          refine DE.main 16 (by kernel_rfl) ?_
          refine One.r 16 (v := (SV.v t214)) rfl (Wn.yes 7 134 false rfl rfl rfl (congrArg Value.bool hb190)) rfl (R.ld sc28 rfl h215) (.inl rfl) ?_
          refine DE.main 17 (by kernel_rfl) ?_
          refine One.c 17 rfl (Wn.yes 7 134 false rfl rfl rfl (congrArg Value.bool hb190)) rfl (R.call bd13 (Ls.cons rfl (Ls.cons rfl Ls.nil)) rfl) (Calls.mono h ?_)
          rintro _ w217 ⟨r216, rfl, h⟩
          refine ⟨_, rfl, trivial, ?_⟩
          refine DE.t 18 (v := (Value.bool r216)) rfl (by kernel_rfl) (Wn.yes 4 131 true rfl rfl rfl (congrArg Value.bool hb189)) rfl (R.pickF (congrArg Value.bool hb190) rfl) ?_
          refine DE.t 19 (v := (Value.bool r216)) rfl (by kernel_rfl) (Wn.no rfl) rfl (R.pickT (congrArg Value.bool hb189) rfl) ?_
          refine DE.t 20 (v := (Value.bool r216)) rfl (by kernel_rfl) (Wn.no rfl) rfl (R.move rfl) ?_
          rcases M.ite_use h with ⟨hb218, h⟩ | ⟨hb218, h⟩
          · refine DE.t 21 (v := (Value.pointer p0)) rfl (by kernel_rfl) (Wn.yes 20 147 true rfl rfl rfl (congrArg Value.bool hb218)) rfl (R.move f170) ?_
            refine DE.t 23 (v := (Value.pointer p1)) rfl (by kernel_rfl) (Wn.yes 20 147 true rfl rfl rfl (congrArg Value.bool hb218)) rfl (R.move f171) ?_
            obtain ⟨a219, h220, h⟩ := h
            refine DE.t 24 (v := (Value.pointer (some a219))) rfl (by kernel_rfl) (Wn.yes 20 147 true rfl rfl rfl (congrArg Value.bool hb218)) rfl (R.nilC (congrArg Value.pointer h220)) ?_
            refine DE.t 25 (v := (Value.pointer (some a219))) rfl (by kernel_rfl) (Wn.yes 20 147 true rfl rfl rfl (congrArg Value.bool hb218)) rfl (R.fld (off := 0) fa53_0 rfl) ?_
            obtain ⟨t221, h222, h⟩ := h
            refine DE.hold 26 (fun w => w.cell? a219 = some (SV.v t221)) (v := (SV.v t221)) rfl (by kernel_rfl) (Wn.yes 20 147 true rfl rfl rfl (congrArg Value.bool hb218)) rfl h222 (fun w hs => R.ld sc45 rfl hs) ?_
            refine DE.t 27 (v := (Value.int .i64 (t221.len : Int))) rfl (by kernel_rfl) (Wn.yes 20 147 true rfl rfl rfl (congrArg Value.bool hb218)) rfl (R.len sl45 rfl) ?_
            refine DE.main 22 (by kernel_rfl) ?_
            refine One.c 22 rfl (Wn.yes 20 147 true rfl rfl rfl (congrArg Value.bool hb218)) rfl (R.call bd19 (Ls.cons rfl Ls.nil) rfl) (Calls.mono h ?_)
            rintro _ w224 ⟨r223, rfl, h⟩
            obtain ⟨k225, h⟩ := h
            refine ⟨_, rfl, ⟨fun _ => k225, trivial⟩, ?_⟩
            refine DE.t 28 (v := (Value.bool (r223 == (t221.len : Int)))) rfl (by kernel_rfl) (Wn.yes 20 147 true rfl rfl rfl (congrArg Value.bool hb218)) rfl (R.eql rfl rfl) ?_
            refine DE.t 29 (v := (Value.bool (r223 == (t221.len : Int)))) rfl (by kernel_rfl) (Wn.no rfl) rfl (R.pickT (congrArg Value.bool hb218) rfl) ?_
            refine DE.t 30 (v := (Value.bool (r223 == (t221.len : Int)))) rfl (by kernel_rfl) (Wn.no rfl) rfl (R.move rfl) ?_
            rcases M.ite_use h with ⟨hb226, h⟩ | ⟨hb226, h⟩
            · refine DE.t 31 (v := (Value.pointer p0)) rfl (by kernel_rfl) (Wn.yes 30 157 true rfl rfl rfl (congrArg Value.bool hb226)) rfl (R.move f170) ?_
              refine DE.t 33 (v := (Value.pointer p1)) rfl (by kernel_rfl) (Wn.yes 30 157 true rfl rfl rfl (congrArg Value.bool hb226)) rfl (R.move f171) ?_
              obtain ⟨a227, h228, h⟩ := h
              refine DE.t 34 (v := (Value.pointer (some a227))) rfl (by kernel_rfl) (Wn.yes 30 157 true rfl rfl rfl (congrArg Value.bool hb226)) rfl (R.nilC (congrArg Value.pointer h228)) ?_
              refine DE.t 35 (v := (Value.pointer (some (a227.add 2)))) rfl (by kernel_rfl) (Wn.yes 30 157 true rfl rfl rfl (congrArg Value.bool hb226)) rfl (R.fld (off := 2) fa53_2 rfl) ?_
              obtain ⟨t229, h230, h⟩ := h
              refine DE.hold 36 (fun w => w.cell? (a227.add 2) = some (Value.int .i64 t229)) (v := (Value.int .i64 t229)) rfl (by kernel_rfl) (Wn.yes 30 157 true rfl rfl rfl (congrArg Value.bool hb226)) rfl h230 (fun w hs => R.ld sc3 rfl hs) ?_
              refine DE.main 32 (by kernel_rfl) ?_
              refine One.c 32 rfl (Wn.yes 30 157 true rfl rfl rfl (congrArg Value.bool hb226)) rfl (R.call bd17 (Ls.cons rfl Ls.nil) rfl) (Calls.mono h ?_)
              rintro _ w232 ⟨r231, rfl, h⟩
              obtain ⟨k233, h⟩ := h
              refine ⟨_, rfl, ⟨fun _ => k233, aftT (by kernel_rfl), trivial⟩, ?_⟩
              refine DE.t 37 (v := (Value.bool (r231 == t229))) rfl (by kernel_rfl) (Wn.yes 30 157 true rfl rfl rfl (congrArg Value.bool hb226)) rfl (R.eql rfl rfl) ?_
              refine DE.t 38 (v := (Value.bool (r231 == t229))) rfl (by kernel_rfl) (Wn.no rfl) rfl (R.pickT (congrArg Value.bool hb226) rfl) ?_
              refine DE.t 39 (v := (Value.bool (r231 == t229))) rfl (by kernel_rfl) (Wn.no rfl) rfl (R.assign rfl) ?_
              refine DE.done (by kernel_rfl) ?_
              exact ⟨_, h, rfl⟩
            · refine DE.u 31 rfl (by kernel_rfl) (Un.no 30 157 true rfl rfl rfl (congrArg Value.bool hb226)) ?_
              refine DE.u 32 rfl (by kernel_rfl) (Un.no 30 157 true rfl rfl rfl (congrArg Value.bool hb226)) ?_
              refine DE.u 33 rfl (by kernel_rfl) (Un.no 30 157 true rfl rfl rfl (congrArg Value.bool hb226)) ?_
              refine DE.u 34 rfl (by kernel_rfl) (Un.no 30 157 true rfl rfl rfl (congrArg Value.bool hb226)) ?_
              refine DE.u 35 rfl (by kernel_rfl) (Un.no 30 157 true rfl rfl rfl (congrArg Value.bool hb226)) ?_
              refine DE.u 36 rfl (by kernel_rfl) (Un.no 30 157 true rfl rfl rfl (congrArg Value.bool hb226)) ?_
              refine DE.u 37 rfl (by kernel_rfl) (Un.no 30 157 true rfl rfl rfl (congrArg Value.bool hb226)) ?_
              refine DE.t 38 (v := (Value.bool false)) rfl (by kernel_rfl) (Wn.no rfl) rfl (R.pickF (congrArg Value.bool hb226) rfl) ?_
              refine DE.t 39 (v := (Value.bool false)) rfl (by kernel_rfl) (Wn.no rfl) rfl (R.assign rfl) ?_
              refine DE.done (by kernel_rfl) ?_
              exact ⟨_, h, rfl⟩
          · refine DE.u 21 rfl (by kernel_rfl) (Un.no 20 147 true rfl rfl rfl (congrArg Value.bool hb218)) ?_
            refine DE.u 22 rfl (by kernel_rfl) (Un.no 20 147 true rfl rfl rfl (congrArg Value.bool hb218)) ?_
            refine DE.u 23 rfl (by kernel_rfl) (Un.no 20 147 true rfl rfl rfl (congrArg Value.bool hb218)) ?_
            refine DE.u 24 rfl (by kernel_rfl) (Un.no 20 147 true rfl rfl rfl (congrArg Value.bool hb218)) ?_
            refine DE.u 25 rfl (by kernel_rfl) (Un.no 20 147 true rfl rfl rfl (congrArg Value.bool hb218)) ?_
            refine DE.u 26 rfl (by kernel_rfl) (Un.no 20 147 true rfl rfl rfl (congrArg Value.bool hb218)) ?_
            refine DE.u 27 rfl (by kernel_rfl) (Un.no 20 147 true rfl rfl rfl (congrArg Value.bool hb218)) ?_
            refine DE.u 28 rfl (by kernel_rfl) (Un.no 20 147 true rfl rfl rfl (congrArg Value.bool hb218)) ?_
            refine DE.t 29 (v := (Value.bool false)) rfl (by kernel_rfl) (Wn.no rfl) rfl (R.pickF (congrArg Value.bool hb218) rfl) ?_
            refine DE.t 30 (v := (Value.bool false)) rfl (by kernel_rfl) (Wn.no rfl) rfl (R.move rfl) ?_
            refine DE.u 31 rfl (by kernel_rfl) (Un.no 30 157 true rfl rfl rfl rfl) ?_
            refine DE.u 32 rfl (by kernel_rfl) (Un.no 30 157 true rfl rfl rfl rfl) ?_
            refine DE.u 33 rfl (by kernel_rfl) (Un.no 30 157 true rfl rfl rfl rfl) ?_
            refine DE.u 34 rfl (by kernel_rfl) (Un.no 30 157 true rfl rfl rfl rfl) ?_
            refine DE.u 35 rfl (by kernel_rfl) (Un.no 30 157 true rfl rfl rfl rfl) ?_
            refine DE.u 36 rfl (by kernel_rfl) (Un.no 30 157 true rfl rfl rfl rfl) ?_
            refine DE.u 37 rfl (by kernel_rfl) (Un.no 30 157 true rfl rfl rfl rfl) ?_
            refine DE.t 38 (v := (Value.bool false)) rfl (by kernel_rfl) (Wn.no rfl) rfl (R.pickF rfl rfl) ?_
            refine DE.t 39 (v := (Value.bool false)) rfl (by kernel_rfl) (Wn.no rfl) rfl (R.assign rfl) ?_
            refine DE.done (by kernel_rfl) ?_
            exact ⟨_, h, rfl⟩
      · refine DE.u 5 rfl (by kernel_rfl) (Un.no 4 131 true rfl rfl rfl (congrArg Value.bool hb189)) ?_
        refine DE.u 6 rfl (by kernel_rfl) (Un.no 4 131 true rfl rfl rfl (congrArg Value.bool hb189)) ?_
        refine DE.u 7 rfl (by kernel_rfl) (Un.no 4 131 true rfl rfl rfl (congrArg Value.bool hb189)) ?_
        refine DE.u 8 rfl (by kernel_rfl) (Un.un 7 134 false rfl rfl rfl rfl) ?_
        refine DE.u 9 rfl (by kernel_rfl) (Un.un 7 134 false rfl rfl rfl rfl) ?_
        refine DE.u 10 rfl (by kernel_rfl) (Un.un 7 134 false rfl rfl rfl rfl) ?_
        refine DE.u 11 rfl (by kernel_rfl) (Un.un 7 134 false rfl rfl rfl rfl) ?_
        refine DE.u 12 rfl (by kernel_rfl) (Un.un 7 134 false rfl rfl rfl rfl) ?_
        refine DE.u 13 rfl (by kernel_rfl) (Un.un 7 134 false rfl rfl rfl rfl) ?_
        refine DE.u 14 rfl (by kernel_rfl) (Un.un 7 134 false rfl rfl rfl rfl) ?_
        refine DE.u 15 rfl (by kernel_rfl) (Un.un 7 134 false rfl rfl rfl rfl) ?_
        refine DE.u 16 rfl (by kernel_rfl) (Un.un 7 134 false rfl rfl rfl rfl) ?_
        refine DE.u 17 rfl (by kernel_rfl) (Un.un 7 134 false rfl rfl rfl rfl) ?_
        refine DE.u 18 rfl (by kernel_rfl) (Un.no 4 131 true rfl rfl rfl (congrArg Value.bool hb189)) ?_
        refine DE.t 19 (v := (Value.bool false)) rfl (by kernel_rfl) (Wn.no rfl) rfl (R.pickF (congrArg Value.bool hb189) rfl) ?_
        refine DE.t 20 (v := (Value.bool false)) rfl (by kernel_rfl) (Wn.no rfl) rfl (R.move rfl) ?_
        refine DE.u 21 rfl (by kernel_rfl) (Un.no 20 147 true rfl rfl rfl rfl) ?_
        refine DE.u 22 rfl (by kernel_rfl) (Un.no 20 147 true rfl rfl rfl rfl) ?_
        refine DE.u 23 rfl (by kernel_rfl) (Un.no 20 147 true rfl rfl rfl rfl) ?_
        refine DE.u 24 rfl (by kernel_rfl) (Un.no 20 147 true rfl rfl rfl rfl) ?_
        refine DE.u 25 rfl (by kernel_rfl) (Un.no 20 147 true rfl rfl rfl rfl) ?_
        refine DE.u 26 rfl (by kernel_rfl) (Un.no 20 147 true rfl rfl rfl rfl) ?_
        refine DE.u 27 rfl (by kernel_rfl) (Un.no 20 147 true rfl rfl rfl rfl) ?_
        refine DE.u 28 rfl (by kernel_rfl) (Un.no 20 147 true rfl rfl rfl rfl) ?_
        refine DE.t 29 (v := (Value.bool false)) rfl (by kernel_rfl) (Wn.no rfl) rfl (R.pickF rfl rfl) ?_
        refine DE.t 30 (v := (Value.bool false)) rfl (by kernel_rfl) (Wn.no rfl) rfl (R.move rfl) ?_
        refine DE.u 31 rfl (by kernel_rfl) (Un.no 30 157 true rfl rfl rfl rfl) ?_
        refine DE.u 32 rfl (by kernel_rfl) (Un.no 30 157 true rfl rfl rfl rfl) ?_
        refine DE.u 33 rfl (by kernel_rfl) (Un.no 30 157 true rfl rfl rfl rfl) ?_
        refine DE.u 34 rfl (by kernel_rfl) (Un.no 30 157 true rfl rfl rfl rfl) ?_
        refine DE.u 35 rfl (by kernel_rfl) (Un.no 30 157 true rfl rfl rfl rfl) ?_
        refine DE.u 36 rfl (by kernel_rfl) (Un.no 30 157 true rfl rfl rfl rfl) ?_
        refine DE.u 37 rfl (by kernel_rfl) (Un.no 30 157 true rfl rfl rfl rfl) ?_
        refine DE.t 38 (v := (Value.bool false)) rfl (by kernel_rfl) (Wn.no rfl) rfl (R.pickF rfl rfl) ?_
        refine DE.t 39 (v := (Value.bool false)) rfl (by kernel_rfl) (Wn.no rfl) rfl (R.assign rfl) ?_
        refine DE.done (by kernel_rfl) ?_
        exact ⟨_, h, rfl⟩
    · rintro e234 w235 ⟨x187, h, f236⟩
      subst hJ186
      refine WE.ret ?_
      exact ⟨_, (Res.tmp f236 Res.nil), _, rfl, h⟩
/-- The formula of signpost.signpostlaw25.alike. -/
def F22 (p0 : Option Addr) (p1 : Option Addr) (K : Bool → World → Prop) (w0 : World) : Prop :=
M.drew w0 fun w1 => 
M.nil p1 fun a2 =>
M.ld SV.v a2 w1 fun t4 =>
Calls Try.prog 16 #[(Value.pointer p0)] w1 (R16 fun r6 w7 =>
M.keep (w7.cell? a2 = some (SV.v t4)) <|
Calls Try.prog 18 #[(SV.v r6), (SV.v t4)] w7 (R18 fun r9 w10 =>
M.ite (!r9) (
K false w10) (
M.nil p1 fun a12 =>
M.ld SV.v a12 w10 fun t14 =>
M.new (.cells #[(SV.v t14)] 45) w10 fun b18 w16 =>
Calls Try.prog 36 #[(SV.v (SV.mk (some b18) 1 1))] w16 (R36 fun r19 w20 =>
M.loop1 (fun (J22 : Int → World → Prop) (x21 : Int) (w23 : World) => 
M.join (fun (x35 : Bool) (w38 : World) => 
M.ite x35 (
M.idx r19 x21 1 fun a45 =>
M.ld (Value.int .u32) (a45.add (x21.toNat * 1)) w38 fun t49 =>
Calls Try.prog 10 #[(Value.pointer p0), (Value.int .u32 t49)] w38 (R10 fun r51 r52 w53 =>
M.loop2 (fun (J56 : Bool → Int → World → Prop) (x54 : Bool) (x55 : Int) (w57 : World) => 
M.nil p1 fun a72 =>
M.ld SV.v a72 w57 fun t74 =>
M.ite (decide (x55 < (t74.len : Int))) (
M.join (fun (x78 : Bool) (w102 : World) => 
J56 x78 (IntKind.i64.wrap (x55 + (1 : Int))) w102) fun J77 => 
M.drew w57 fun w79 => 
M.ite x54 (
J77 true w79) (
M.nil p1 fun a81 =>
M.idx r19 x21 1 fun a83 =>
M.ld SV.v a81 w79 fun t87 =>
M.idx t87 x55 3 fun a89 =>
M.ld (Value.int .u32) (a89.add (x55.toNat * 3)) w79 fun t93 =>
M.ld (Value.int .i64) ((a89.add (x55.toNat * 3)).add 1) w79 fun t95 =>
M.ld (Value.int .u32) (a83.add (x21.toNat * 1)) w79 fun t97 =>
Calls Try.prog 37 #[(Value.agg #[(Value.int .u32 t93), (Value.int .i64 t95)]), (Value.int .u32 t97)] w79 (R37 fun r99 w100 =>
J77 r99 w100))) (
M.join (fun (x112 : Bool) (w130 : World) => 
M.ite x112 (
K false w130) (
J22 (IntKind.i64.wrap (x21 + (1 : Int))) w130)) fun J111 => 
M.drew w57 fun w113 => 
M.ite (!(r52 == x54)) (
J111 true w113) (
M.nil p1 fun a115 =>
M.idx r19 x21 1 fun a117 =>
M.ld SV.v a115 w113 fun t121 =>
M.ld (Value.int .u32) (a117.add (x21.toNat * 1)) w113 fun t123 =>
Calls Try.prog 38 #[(SV.v t121), (Value.int .u32 t123)] w113 (R38 fun r125 w126 =>
Calls Try.prog 13 #[(SV.v r51), (SV.v r125)] w126 (R13 fun r127 w128 =>
J111 (!r127) w128))))) false (0 : Int) w53)) (
K true w38)) fun J34 => 
M.ite (decide (x21 < (r19.len : Int))) (
J34 (decide (x21 < (40 : Int))) w23) (
J34 false w23)) (0 : Int) w20))))
theorem F22_ok {w0 : World} {p0 : Option Addr} {p1 : Option Addr} {K : Bool → World → Prop} (h : F22 p0 p1 K w0) : Calls Try.prog 22 #[(Value.pointer p0), (Value.pointer p1)] w0 (R22 K) := by
  refine calls_of_WE (args := [(Value.pointer p0), (Value.pointer p1)]) (rs := [.tmp 4]) Try.func22 rfl (N := 86) rfl rfl rfl rfl ?_
  refine WE.seq ?_
  refine WE.reg ?_
  refine LE.p (v := (Value.bool false)) (Wn.no rfl) rfl (R.assign rfl) ?_
  refine LE.nil ?_
  refine WE.seq ?_
  refine WE.seq ?_
  refine WE.draw mix ?_
  obtain ⟨w1, hww1, h⟩ := M.drew_use h
  rw [← hww1]
  clear hww1
  refine DE.t 0 (v := (Value.pointer p0)) rfl (by kernel_rfl) (Wn.no rfl) rfl (R.move rfl) ?_
  refine DE.t 2 (v := (Value.pointer p1)) rfl (by kernel_rfl) (Wn.no rfl) rfl (R.move rfl) ?_
  obtain ⟨a2, h3, h⟩ := h
  refine DE.t 3 (v := (Value.pointer (some a2))) rfl (by kernel_rfl) (Wn.no rfl) rfl (R.nilC (congrArg Value.pointer h3)) ?_
  refine DE.t 4 (v := (Value.pointer (some a2))) rfl (by kernel_rfl) (Wn.no rfl) rfl (R.fld (off := 0) fa53_0 rfl) ?_
  obtain ⟨t4, h5, h⟩ := h
  refine DE.hold 5 (fun w => w.cell? a2 = some (SV.v t4)) (v := (SV.v t4)) rfl (by kernel_rfl) (Wn.no rfl) rfl h5 (fun w hs => R.ld sc45 rfl hs) ?_
  refine DE.main 1 (by kernel_rfl) ?_
  refine One.c 1 rfl (Wn.no rfl) rfl (R.call bd16 (Ls.cons rfl Ls.nil) rfl) (Calls.mono h ?_)
  rintro _ w7 ⟨r6, rfl, h⟩
  obtain ⟨k8, h⟩ := h
  refine ⟨_, rfl, ⟨fun _ => k8, trivial⟩, ?_⟩
  refine DE.main 6 (by kernel_rfl) ?_
  refine One.c 6 rfl (Wn.no rfl) rfl (R.call bd18 (Ls.cons rfl (Ls.cons rfl Ls.nil)) rfl) (Calls.mono h ?_)
  rintro _ w10 ⟨r9, rfl, h⟩
  refine ⟨_, rfl, ⟨aftT (by kernel_rfl), trivial⟩, ?_⟩
  refine DE.t 7 (v := (Value.bool (!r9))) rfl (by kernel_rfl) (Wn.no rfl) rfl (R.not rfl) ?_
  refine DE.done (by kernel_rfl) ?_
  refine WE.condT rfl (b := (!r9)) rfl ?_ ?_
  · intro hb11
    replace h := M.ite_t h hb11
    refine WE.seq ?_
    refine WE.reg ?_
    refine LE.p (v := (Value.bool false)) (Wn.no rfl) rfl (R.assign rfl) ?_
    refine LE.nil ?_
    refine WE.ret ?_
    exact ⟨_, (Res.tmp rfl Res.nil), _, rfl, h⟩
  · intro hb11
    replace h := M.ite_f h hb11
    refine WE.skip ?_
    refine WE.seq ?_
    refine WE.reg ?_
    refine LE.p (v := (Value.pointer p1)) (Wn.no rfl) rfl (R.move rfl) ?_
    obtain ⟨a12, h13, h⟩ := h
    refine LE.p (v := (Value.pointer (some a12))) (Wn.no rfl) rfl (R.nilC (congrArg Value.pointer h13)) ?_
    refine LE.p (v := (Value.pointer (some a12))) (Wn.no rfl) rfl (R.fld (off := 0) fa53_0 rfl) ?_
    obtain ⟨t14, h15, h⟩ := h
    refine LE.r (v := (SV.v t14)) (Wn.no rfl) rfl (R.ld sc45 rfl h15) ?_
    obtain ⟨b18, hpb18, w16, hww16, h⟩ := M.new_use h
    refine LE.r (v := (SV.v (SV.mk (some b18) 1 1))) (Wn.no rfl) rfl (R.bsl (by exact (Ls.cons (R.Pr rfl) Ls.nil)) (fun w => bs95_1 t14 w) hpb18 hww16) ?_
    refine LE.c (Wn.no rfl) rfl (R.call bd36 (Ls.cons rfl Ls.nil) rfl) (Calls.mono h ?_)
    rintro _ w20 ⟨r19, rfl, h⟩
    refine ⟨_, rfl, ?_⟩
    refine LE.p (v := (SV.v r19)) (Wn.no rfl) rfl (R.assign rfl) ?_
    refine LE.nil ?_
    refine WE.seq ?_
    refine WE.seq ?_
    refine WE.reg ?_
    refine LE.p (v := (Value.int .i64 (0 : Int))) (Wn.no rfl) rfl (R.assign rfl) ?_
    refine LE.nil ?_
    refine WE.block ?_
    obtain ⟨I26, ⟨n25, h⟩, hr27⟩ := h
    refine WE.loop (fun n e w => ∃ (x21 : Int), I26 n x21 w ∧ e 0 = (Value.pointer p0) ∧ e 1 = (Value.pointer p1) ∧ e 5 = (SV.v r19) ∧ e 6 = (Value.int .i64 x21)) n25 ⟨_, h, rfl, rfl, rfl, rfl⟩ ?_
    clear h
    rintro n25 e24 w23 ⟨x21, h, f30, f31, f32, f33⟩
    replace h := hr27 n25 x21 w23 h
    refine WE.seq ?_
    refine WE.seq ?_
    obtain ⟨J34, hJ34, h⟩ := M.join_use h
    refine WE.regJ (fun e w => ∃ (x35 : Bool), J34 x35 w ∧ e 0 = (Value.pointer p0) ∧ e 1 = (Value.pointer p1) ∧ e 5 = (SV.v r19) ∧ e 6 = (Value.int .i64 x21) ∧ e 32 = (Value.bool x35)) ?_ ?_
    · clear hJ34
      refine LE.p (v := (Value.int .i64 x21)) (Wn.no rfl) rfl (R.move f33) ?_
      refine LE.p (v := (SV.v r19)) (Wn.no rfl) rfl (R.move f32) ?_
      refine LE.p (v := (Value.int .i64 (r19.len : Int))) (Wn.no rfl) rfl (R.len sl76 rfl) ?_
      refine LE.p (v := (Value.bool (decide (x21 < (r19.len : Int))))) (Wn.no rfl) rfl (R.lss rfl rfl) ?_
      refine LE.p (v := (Value.bool (decide (x21 < (r19.len : Int))))) (Wn.no rfl) rfl (R.move rfl) ?_
      rcases M.ite_use h with ⟨hb36, h⟩ | ⟨hb36, h⟩
      · refine LE.p (v := (Value.int .i64 x21)) (Wn.yes 4 29 true rfl rfl rfl (congrArg Value.bool hb36)) rfl (R.move f33) ?_
        refine LE.p (v := (Value.bool (decide (x21 < (40 : Int))))) (Wn.yes 4 29 true rfl rfl rfl (congrArg Value.bool hb36)) rfl (R.lss rfl rfl) ?_
        refine LE.p (v := (Value.bool (decide (x21 < (40 : Int))))) (Wn.no rfl) rfl (R.pickT (congrArg Value.bool hb36) rfl) ?_
        refine LE.nil ?_
        exact ⟨_, h, f30, f31, f32, f33, rfl⟩
      · refine LE.u (Un.no 4 29 true rfl rfl rfl (congrArg Value.bool hb36)) ?_
        refine LE.u (Un.no 4 29 true rfl rfl rfl (congrArg Value.bool hb36)) ?_
        refine LE.p (v := (Value.bool false)) (Wn.no rfl) rfl (R.pickF (congrArg Value.bool hb36) rfl) ?_
        refine LE.nil ?_
        exact ⟨_, h, f30, f31, f32, f33, rfl⟩
    · rintro e37 w38 ⟨x35, h, f39, f40, f41, f42, f43⟩
      subst hJ34
      refine WE.condT rfl (b := x35) f43 ?_ ?_
      · intro hb44
        replace h := M.ite_t h hb44
        refine WE.skip ?_
        refine WE.seq ?_
        refine WE.block ?_
        refine WE.seq ?_
        refine WE.reg ?_
        refine LE.p (v := (Value.pointer p0)) (Wn.no rfl) rfl (R.move f39) ?_
        refine LE.p (v := (SV.v r19)) (Wn.no rfl) rfl (R.move f41) ?_
        refine LE.p (v := (Value.int .i64 x21)) (Wn.no rfl) rfl (R.move f42) ?_
        obtain ⟨a45, h46, h47, h48, h⟩ := h
        refine LE.p (v := (Value.pointer (some (a45.add (x21.toNat * 1))))) (Wn.no rfl) rfl (R.idx (s := r19) sl76 rfl rfl h46 h47 h48) ?_
        obtain ⟨t49, h50, h⟩ := h
        refine LE.r (v := (Value.int .u32 t49)) (Wn.no rfl) rfl (R.ld sc23 rfl h50) ?_
        refine LE.c (Wn.no rfl) rfl (R.call bd10 (Ls.cons rfl (Ls.cons rfl Ls.nil)) rfl) (Calls.mono h ?_)
        rintro _ w53 ⟨r51, r52, rfl, h⟩
        refine ⟨_, rfl, ?_⟩
        refine LE.p (v := (Value.tuple #[(SV.v r51), (Value.bool r52)])) (Wn.no rfl) rfl (R.move rfl) ?_
        refine LE.p (v := (SV.v r51)) (Wn.no rfl) rfl (R.ext rfl rfl) ?_
        refine LE.p (v := (Value.bool r52)) (Wn.no rfl) rfl (R.ext rfl rfl) ?_
        refine LE.p (v := (SV.v r51)) (Wn.no rfl) rfl (R.assign rfl) ?_
        refine LE.p (v := (Value.bool r52)) (Wn.no rfl) rfl (R.assign rfl) ?_
        refine LE.nil ?_
        refine WE.seq ?_
        refine WE.reg ?_
        refine LE.p (v := (Value.bool false)) (Wn.no rfl) rfl (R.assign rfl) ?_
        refine LE.nil ?_
        refine WE.seq ?_
        refine WE.seq ?_
        refine WE.reg ?_
        refine LE.p (v := (Value.int .i64 (0 : Int))) (Wn.no rfl) rfl (R.assign rfl) ?_
        refine LE.nil ?_
        refine WE.block ?_
        obtain ⟨I60, ⟨n59, h⟩, hr61⟩ := h
        refine WE.loop (fun n e w => ∃ (x54 : Bool) (x55 : Int), I60 n x54 x55 w ∧ e 0 = (Value.pointer p0) ∧ e 1 = (Value.pointer p1) ∧ e 5 = (SV.v r19) ∧ e 6 = (Value.int .i64 x21) ∧ e 7 = (SV.v r51) ∧ e 8 = (Value.bool r52) ∧ e 9 = (Value.bool x54) ∧ e 10 = (Value.int .i64 x55)) n59 ⟨_, _, h, f39, f40, f41, f42, rfl, rfl, rfl, rfl⟩ ?_
        clear h
        rintro n59 e58 w57 ⟨x54, x55, h, f64, f65, f66, f67, f68, f69, f70, f71⟩
        replace h := hr61 n59 x54 x55 w57 h
        refine WE.seq ?_
        refine WE.seq ?_
        refine WE.reg ?_
        refine LE.p (v := (Value.int .i64 x55)) (Wn.no rfl) rfl (R.move f71) ?_
        refine LE.p (v := (Value.pointer p1)) (Wn.no rfl) rfl (R.move f65) ?_
        obtain ⟨a72, h73, h⟩ := h
        refine LE.p (v := (Value.pointer (some a72))) (Wn.no rfl) rfl (R.nilC (congrArg Value.pointer h73)) ?_
        refine LE.p (v := (Value.pointer (some a72))) (Wn.no rfl) rfl (R.fld (off := 0) fa53_0 rfl) ?_
        obtain ⟨t74, h75, h⟩ := h
        refine LE.r (v := (SV.v t74)) (Wn.no rfl) rfl (R.ld sc45 rfl h75) ?_
        refine LE.p (v := (Value.int .i64 (t74.len : Int))) (Wn.no rfl) rfl (R.len sl45 rfl) ?_
        refine LE.p (v := (Value.bool (decide (x55 < (t74.len : Int))))) (Wn.no rfl) rfl (R.lss rfl rfl) ?_
        refine LE.nil ?_
        refine WE.condT rfl (b := (decide (x55 < (t74.len : Int)))) rfl ?_ ?_
        · intro hb76
          replace h := M.ite_t h hb76
          refine WE.skip ?_
          refine WE.seq ?_
          refine WE.block ?_
          obtain ⟨J77, hJ77, h⟩ := M.join_use h
          refine WE.drawJ (fun e w => ∃ (x78 : Bool), J77 x78 w ∧ e 0 = (Value.pointer p0) ∧ e 1 = (Value.pointer p1) ∧ e 5 = (SV.v r19) ∧ e 6 = (Value.int .i64 x21) ∧ e 7 = (SV.v r51) ∧ e 8 = (Value.bool r52) ∧ e 9 = (Value.bool x78) ∧ e 10 = (Value.int .i64 x55)) mix ?_ ?_
          · clear hJ77
            obtain ⟨w79, hww79, h⟩ := M.drew_use h
            rw [← hww79]
            clear hww79
            refine DE.t 0 (v := (Value.bool x54)) rfl (by kernel_rfl) (Wn.no rfl) rfl (R.move f70) ?_
            refine DE.t 1 (v := (Value.bool x54)) rfl (by kernel_rfl) (Wn.no rfl) rfl (R.move rfl) ?_
            rcases M.ite_use h with ⟨hb80, h⟩ | ⟨hb80, h⟩
            · refine DE.u 2 rfl (by kernel_rfl) (Un.no 1 54 false rfl rfl rfl (congrArg Value.bool hb80)) ?_
              refine DE.u 3 rfl (by kernel_rfl) (Un.no 1 54 false rfl rfl rfl (congrArg Value.bool hb80)) ?_
              refine DE.u 4 rfl (by kernel_rfl) (Un.no 1 54 false rfl rfl rfl (congrArg Value.bool hb80)) ?_
              refine DE.u 5 rfl (by kernel_rfl) (Un.no 1 54 false rfl rfl rfl (congrArg Value.bool hb80)) ?_
              refine DE.u 6 rfl (by kernel_rfl) (Un.no 1 54 false rfl rfl rfl (congrArg Value.bool hb80)) ?_
              refine DE.u 7 rfl (by kernel_rfl) (Un.no 1 54 false rfl rfl rfl (congrArg Value.bool hb80)) ?_
              refine DE.u 8 rfl (by kernel_rfl) (Un.no 1 54 false rfl rfl rfl (congrArg Value.bool hb80)) ?_
              refine DE.u 9 rfl (by kernel_rfl) (Un.no 1 54 false rfl rfl rfl (congrArg Value.bool hb80)) ?_
              refine DE.u 10 rfl (by kernel_rfl) (Un.no 1 54 false rfl rfl rfl (congrArg Value.bool hb80)) ?_
              refine DE.u 11 rfl (by kernel_rfl) (Un.no 1 54 false rfl rfl rfl (congrArg Value.bool hb80)) ?_
              refine DE.u 12 rfl (by kernel_rfl) (Un.no 1 54 false rfl rfl rfl (congrArg Value.bool hb80)) ?_
              refine DE.u 13 rfl (by kernel_rfl) (Un.no 1 54 false rfl rfl rfl (congrArg Value.bool hb80)) ?_
              refine DE.u 14 rfl (by kernel_rfl) (Un.no 1 54 false rfl rfl rfl (congrArg Value.bool hb80)) ?_
              refine DE.t 15 (v := (Value.bool true)) rfl (by kernel_rfl) (Wn.no rfl) rfl (R.pickT (congrArg Value.bool hb80) rfl) ?_
              refine DE.t 16 (v := (Value.bool true)) rfl (by kernel_rfl) (Wn.no rfl) rfl (R.assign rfl) ?_
              refine DE.done (by kernel_rfl) ?_
              exact ⟨_, h, f64, f65, f66, f67, f68, f69, rfl, f71⟩
            · refine DE.t 2 (v := (Value.pointer p1)) rfl (by kernel_rfl) (Wn.yes 1 54 false rfl rfl rfl (congrArg Value.bool hb80)) rfl (R.move f65) ?_
              obtain ⟨a81, h82, h⟩ := h
              refine DE.t 3 (v := (Value.pointer (some a81))) rfl (by kernel_rfl) (Wn.yes 1 54 false rfl rfl rfl (congrArg Value.bool hb80)) rfl (R.nilC (congrArg Value.pointer h82)) ?_
              refine DE.t 4 (v := (Value.pointer (some a81))) rfl (by kernel_rfl) (Wn.yes 1 54 false rfl rfl rfl (congrArg Value.bool hb80)) rfl (R.fld (off := 0) fa53_0 rfl) ?_
              refine DE.t 6 (v := (Value.int .i64 x55)) rfl (by kernel_rfl) (Wn.yes 1 54 false rfl rfl rfl (congrArg Value.bool hb80)) rfl (R.move f71) ?_
              refine DE.t 10 (v := (SV.v r19)) rfl (by kernel_rfl) (Wn.yes 1 54 false rfl rfl rfl (congrArg Value.bool hb80)) rfl (R.move f66) ?_
              refine DE.t 11 (v := (Value.int .i64 x21)) rfl (by kernel_rfl) (Wn.yes 1 54 false rfl rfl rfl (congrArg Value.bool hb80)) rfl (R.move f67) ?_
              obtain ⟨a83, h84, h85, h86, h⟩ := h
              refine DE.t 12 (v := (Value.pointer (some (a83.add (x21.toNat * 1))))) rfl (by kernel_rfl) (Wn.yes 1 54 false rfl rfl rfl (congrArg Value.bool hb80)) rfl (R.idx (s := r19) sl76 rfl rfl h84 h85 h86) ?_
              obtain ⟨t87, h88, h⟩ := h
              refine DE.hold 5 (fun w => w.cell? a81 = some (SV.v t87)) (v := (SV.v t87)) rfl (by kernel_rfl) (Wn.yes 1 54 false rfl rfl rfl (congrArg Value.bool hb80)) rfl h88 (fun w hs => R.ld sc45 rfl hs) ?_
              obtain ⟨a89, h90, h91, h92, h⟩ := h
              refine DE.t 7 (v := (Value.pointer (some (a89.add (x55.toNat * 3))))) rfl (by kernel_rfl) (Wn.yes 1 54 false rfl rfl rfl (congrArg Value.bool hb80)) rfl (R.idx (s := t87) sl45 rfl rfl h90 h91 h92) ?_
              refine DE.t 8 (v := (Value.pointer (some (a89.add (x55.toNat * 3))))) rfl (by kernel_rfl) (Wn.yes 1 54 false rfl rfl rfl (congrArg Value.bool hb80)) rfl (R.fld (off := 0) fa35_0 rfl) ?_
              obtain ⟨t93, h94, h⟩ := h
              obtain ⟨t95, h96, h⟩ := h
              refine DE.hold 9 (fun w => w.cell? (a89.add (x55.toNat * 3)) = some (Value.int .u32 t93) ∧ w.cell? ((a89.add (x55.toNat * 3)).add 1) = some (Value.int .i64 t95)) (v := (Value.agg #[(Value.int .u32 t93), (Value.int .i64 t95)])) rfl (by kernel_rfl) (Wn.yes 1 54 false rfl rfl rfl (congrArg Value.bool hb80)) rfl ⟨h94, h96⟩ (fun w hs => R.ldA ag33 sz33 rfl rfl (Cs.cons hs.1 (Cs.cons hs.2 Cs.nil))) ?_
              obtain ⟨t97, h98, h⟩ := h
              refine DE.main 13 (by kernel_rfl) ?_
              refine One.r 13 (v := (Value.int .u32 t97)) rfl (Wn.yes 1 54 false rfl rfl rfl (congrArg Value.bool hb80)) rfl (R.ld sc23 rfl h98) (.inl rfl) ?_
              refine DE.main 14 (by kernel_rfl) ?_
              refine One.c 14 rfl (Wn.yes 1 54 false rfl rfl rfl (congrArg Value.bool hb80)) rfl (R.call bd37 (Ls.cons rfl (Ls.cons rfl Ls.nil)) rfl) (Calls.mono h ?_)
              rintro _ w100 ⟨r99, rfl, h⟩
              refine ⟨_, rfl, ⟨aftT (by kernel_rfl), aftT (by kernel_rfl), trivial⟩, ?_⟩
              refine DE.t 15 (v := (Value.bool r99)) rfl (by kernel_rfl) (Wn.no rfl) rfl (R.pickF (congrArg Value.bool hb80) rfl) ?_
              refine DE.t 16 (v := (Value.bool r99)) rfl (by kernel_rfl) (Wn.no rfl) rfl (R.assign rfl) ?_
              refine DE.done (by kernel_rfl) ?_
              exact ⟨_, h, f64, f65, f66, f67, f68, f69, rfl, f71⟩
          · rintro e101 w102 ⟨x78, h, f103, f104, f105, f106, f107, f108, f109, f110⟩
            subst hJ77
            refine WE.reg ?_
            refine LE.p (v := (Value.int .i64 x55)) (Wn.no rfl) rfl (R.move f110) ?_
            refine LE.p (v := (Value.int .i64 (IntKind.i64.wrap (x55 + (1 : Int))))) (Wn.no rfl) rfl (R.add rfl rfl) ?_
            refine LE.p (v := (Value.int .i64 (IntKind.i64.wrap (x55 + (1 : Int))))) (Wn.no rfl) rfl (R.assign rfl) ?_
            refine LE.nil ?_
            obtain ⟨m62, hm63, h⟩ := h
            exact ⟨m62, hm63, _, _, h, f103, f104, f105, f106, f107, f108, f109, rfl⟩
        · intro hb76
          replace h := M.ite_f h hb76
          refine WE.exit ?_
          refine WE.seq ?_
          obtain ⟨J111, hJ111, h⟩ := M.join_use h
          refine WE.drawJ (fun e w => ∃ (x112 : Bool), J111 x112 w ∧ e 0 = (Value.pointer p0) ∧ e 1 = (Value.pointer p1) ∧ e 5 = (SV.v r19) ∧ e 6 = (Value.int .i64 x21) ∧ e 85 = (Value.bool x112)) mix ?_ ?_
          · clear hJ111
            obtain ⟨w113, hww113, h⟩ := M.drew_use h
            rw [← hww113]
            clear hww113
            refine DE.t 0 (v := (Value.bool r52)) rfl (by kernel_rfl) (Wn.no rfl) rfl (R.move f69) ?_
            refine DE.t 1 (v := (Value.bool x54)) rfl (by kernel_rfl) (Wn.no rfl) rfl (R.move f70) ?_
            refine DE.t 2 (v := (Value.bool (!(r52 == x54)))) rfl (by kernel_rfl) (Wn.no rfl) rfl (R.bneq bo4 rfl rfl) ?_
            refine DE.t 3 (v := (Value.bool (!(r52 == x54)))) rfl (by kernel_rfl) (Wn.no rfl) rfl (R.move rfl) ?_
            rcases M.ite_use h with ⟨hb114, h⟩ | ⟨hb114, h⟩
            · refine DE.u 4 rfl (by kernel_rfl) (Un.no 3 72 false rfl rfl rfl (congrArg Value.bool hb114)) ?_
              refine DE.u 5 rfl (by kernel_rfl) (Un.no 3 72 false rfl rfl rfl (congrArg Value.bool hb114)) ?_
              refine DE.u 6 rfl (by kernel_rfl) (Un.no 3 72 false rfl rfl rfl (congrArg Value.bool hb114)) ?_
              refine DE.u 7 rfl (by kernel_rfl) (Un.no 3 72 false rfl rfl rfl (congrArg Value.bool hb114)) ?_
              refine DE.u 8 rfl (by kernel_rfl) (Un.no 3 72 false rfl rfl rfl (congrArg Value.bool hb114)) ?_
              refine DE.u 9 rfl (by kernel_rfl) (Un.no 3 72 false rfl rfl rfl (congrArg Value.bool hb114)) ?_
              refine DE.u 10 rfl (by kernel_rfl) (Un.no 3 72 false rfl rfl rfl (congrArg Value.bool hb114)) ?_
              refine DE.u 11 rfl (by kernel_rfl) (Un.no 3 72 false rfl rfl rfl (congrArg Value.bool hb114)) ?_
              refine DE.u 12 rfl (by kernel_rfl) (Un.no 3 72 false rfl rfl rfl (congrArg Value.bool hb114)) ?_
              refine DE.u 13 rfl (by kernel_rfl) (Un.no 3 72 false rfl rfl rfl (congrArg Value.bool hb114)) ?_
              refine DE.u 14 rfl (by kernel_rfl) (Un.no 3 72 false rfl rfl rfl (congrArg Value.bool hb114)) ?_
              refine DE.u 15 rfl (by kernel_rfl) (Un.no 3 72 false rfl rfl rfl (congrArg Value.bool hb114)) ?_
              refine DE.t 16 (v := (Value.bool true)) rfl (by kernel_rfl) (Wn.no rfl) rfl (R.pickT (congrArg Value.bool hb114) rfl) ?_
              refine DE.done (by kernel_rfl) ?_
              exact ⟨_, h, f64, f65, f66, f67, rfl⟩
            · refine DE.t 4 (v := (SV.v r51)) rfl (by kernel_rfl) (Wn.yes 3 72 false rfl rfl rfl (congrArg Value.bool hb114)) rfl (R.move f68) ?_
              refine DE.t 5 (v := (Value.pointer p1)) rfl (by kernel_rfl) (Wn.yes 3 72 false rfl rfl rfl (congrArg Value.bool hb114)) rfl (R.move f65) ?_
              obtain ⟨a115, h116, h⟩ := h
              refine DE.t 6 (v := (Value.pointer (some a115))) rfl (by kernel_rfl) (Wn.yes 3 72 false rfl rfl rfl (congrArg Value.bool hb114)) rfl (R.nilC (congrArg Value.pointer h116)) ?_
              refine DE.t 7 (v := (Value.pointer (some a115))) rfl (by kernel_rfl) (Wn.yes 3 72 false rfl rfl rfl (congrArg Value.bool hb114)) rfl (R.fld (off := 0) fa53_0 rfl) ?_
              refine DE.t 9 (v := (SV.v r19)) rfl (by kernel_rfl) (Wn.yes 3 72 false rfl rfl rfl (congrArg Value.bool hb114)) rfl (R.move f66) ?_
              refine DE.t 10 (v := (Value.int .i64 x21)) rfl (by kernel_rfl) (Wn.yes 3 72 false rfl rfl rfl (congrArg Value.bool hb114)) rfl (R.move f67) ?_
              obtain ⟨a117, h118, h119, h120, h⟩ := h
              refine DE.t 11 (v := (Value.pointer (some (a117.add (x21.toNat * 1))))) rfl (by kernel_rfl) (Wn.yes 3 72 false rfl rfl rfl (congrArg Value.bool hb114)) rfl (R.idx (s := r19) sl76 rfl rfl h118 h119 h120) ?_
              obtain ⟨t121, h122, h⟩ := h
              refine DE.hold 8 (fun w => w.cell? a115 = some (SV.v t121)) (v := (SV.v t121)) rfl (by kernel_rfl) (Wn.yes 3 72 false rfl rfl rfl (congrArg Value.bool hb114)) rfl h122 (fun w hs => R.ld sc45 rfl hs) ?_
              obtain ⟨t123, h124, h⟩ := h
              refine DE.main 12 (by kernel_rfl) ?_
              refine One.r 12 (v := (Value.int .u32 t123)) rfl (Wn.yes 3 72 false rfl rfl rfl (congrArg Value.bool hb114)) rfl (R.ld sc23 rfl h124) (.inl rfl) ?_
              refine DE.main 13 (by kernel_rfl) ?_
              refine One.c 13 rfl (Wn.yes 3 72 false rfl rfl rfl (congrArg Value.bool hb114)) rfl (R.call bd38 (Ls.cons rfl (Ls.cons rfl Ls.nil)) rfl) (Calls.mono h ?_)
              rintro _ w126 ⟨r125, rfl, h⟩
              refine ⟨_, rfl, ⟨aftT (by kernel_rfl), trivial⟩, ?_⟩
              refine DE.main 14 (by kernel_rfl) ?_
              refine One.c 14 rfl (Wn.yes 3 72 false rfl rfl rfl (congrArg Value.bool hb114)) rfl (R.call bd13 (Ls.cons rfl (Ls.cons rfl Ls.nil)) rfl) (Calls.mono h ?_)
              rintro _ w128 ⟨r127, rfl, h⟩
              refine ⟨_, rfl, ⟨aftT (by kernel_rfl), trivial⟩, ?_⟩
              refine DE.t 15 (v := (Value.bool (!r127))) rfl (by kernel_rfl) (Wn.yes 3 72 false rfl rfl rfl (congrArg Value.bool hb114)) rfl (R.not rfl) ?_
              refine DE.t 16 (v := (Value.bool (!r127))) rfl (by kernel_rfl) (Wn.no rfl) rfl (R.pickF (congrArg Value.bool hb114) rfl) ?_
              refine DE.done (by kernel_rfl) ?_
              exact ⟨_, h, f64, f65, f66, f67, rfl⟩
          · rintro e129 w130 ⟨x112, h, f131, f132, f133, f134, f135⟩
            subst hJ111
            refine WE.condT rfl (b := x112) f135 ?_ ?_
            · intro hb136
              replace h := M.ite_t h hb136
              refine WE.seq ?_
              refine WE.reg ?_
              refine LE.p (v := (Value.bool false)) (Wn.no rfl) rfl (R.assign rfl) ?_
              refine LE.nil ?_
              refine WE.ret ?_
              exact ⟨_, (Res.tmp rfl Res.nil), _, rfl, h⟩
            · intro hb136
              replace h := M.ite_f h hb136
              refine WE.skip ?_
              refine WE.reg ?_
              refine LE.p (v := (Value.int .i64 x21)) (Wn.no rfl) rfl (R.move f134) ?_
              refine LE.p (v := (Value.int .i64 (IntKind.i64.wrap (x21 + (1 : Int))))) (Wn.no rfl) rfl (R.add rfl rfl) ?_
              refine LE.p (v := (Value.int .i64 (IntKind.i64.wrap (x21 + (1 : Int))))) (Wn.no rfl) rfl (R.assign rfl) ?_
              refine LE.nil ?_
              obtain ⟨m28, hm29, h⟩ := h
              exact ⟨m28, hm29, _, h, f131, f132, f133, rfl⟩
      · intro hb44
        replace h := M.ite_f h hb44
        refine WE.exit ?_
        refine WE.seq ?_
        refine WE.reg ?_
        refine LE.p (v := (Value.bool true)) (Wn.no rfl) rfl (R.assign rfl) ?_
        refine LE.nil ?_
        refine WE.ret ?_
        exact ⟨_, (Res.tmp rfl Res.nil), _, rfl, h⟩
/-- The formula of signpost.trie.New. -/
def F23  (K : Option Addr → World → Prop) (w0 : World) : Prop :=
M.new (.cells #[(Value.pointer (none : Option Addr)), (Value.pointer (none : Option Addr)), (Value.bool false), (Value.int .i64 (0 : Int)), (Value.int .i64 (0 : Int))] 85) w0 fun b2 w1 =>
K (some b2) w1
theorem F23_ok {w0 : World}  {K : Option Addr → World → Prop} (h : F23 K w0) : Calls Try.prog 23 #[] w0 (R23 K) := by
  refine calls_of_WE (args := []) (rs := [.tmp 0]) Try.func23 rfl (N := 3) rfl rfl rfl rfl ?_
  refine WE.seq ?_
  refine WE.reg ?_
  refine LE.p (v := (Value.pointer (none : Option Addr))) (Wn.no rfl) rfl (R.assign rfl) ?_
  refine LE.nil ?_
  refine WE.seq ?_
  refine WE.reg ?_
  refine LE.p (v := (Value.agg #[(Value.pointer (none : Option Addr)), (Value.pointer (none : Option Addr)), (Value.bool false), (Value.int .i64 (0 : Int)), (Value.int .i64 (0 : Int))])) (Wn.no rfl) rfl (R.bld (by exact Ls.nil) (fun w => bu85_  w)) ?_
  obtain ⟨b2, hpb2, w1, hww1, h⟩ := M.new_use h
  refine LE.r (v := (Value.pointer (some b2))) (Wn.no rfl) rfl (R.box (cs := #[(Value.pointer (none : Option Addr)), (Value.pointer (none : Option Addr)), (Value.bool false), (Value.int .i64 (0 : Int)), (Value.int .i64 (0 : Int))]) rfl rfl hpb2 hww1) ?_
  refine LE.p (v := (Value.pointer (some b2))) (Wn.no rfl) rfl (R.assign rfl) ?_
  refine LE.nil ?_
  refine WE.ret ?_
  exact ⟨_, (Res.tmp rfl Res.nil), _, rfl, h⟩
/-- The formula of signpost.ortc.Right. -/
def F24 (p0 : SV) (K : Bool → World → Prop) (w0 : World) : Prop :=
M.loop1 (fun (J2 : Int → World → Prop) (x1 : Int) (w3 : World) => 
M.ite (decide (x1 < (p0.len : Int))) (
M.idx p0 x1 3 fun a15 =>
∃ (t19 : Int) (t20 : Int) (t21 : SV), Cs w3 (a15.add (x1.toNat * 3)) 0 [(Value.int .u32 t19), (Value.int .i64 t20), (SV.v t21)] ∧
M.new (.cells #[(Value.int .u32 (0 : Int)), (Value.int .i64 (0 : Int)), (SV.v SV.nil)] 35) w3 fun b24 w23 =>
M.stA b24 [(Value.int .u32 t19), (Value.int .i64 t20), (SV.v t21)] w23 fun w25 =>
M.join (fun (x28 : Bool) (w58 : World) => 
M.ite x28 (
K false w58) (
J2 (IntKind.i64.wrap (x1 + (1 : Int))) w58)) fun J27 => 
M.drew w25 fun w29 => 
M.ld (Value.int .u32) b24 w29 fun t30 =>
M.ld (Value.int .i64) (b24.add 1) w29 fun t32 =>
Calls Try.prog 39 #[(Value.agg #[(Value.int .u32 t30), (Value.int .i64 t32)])] w29 (R39 fun r34 w35 =>
M.ite (!r34) (
J27 true w35) (
M.ld SV.v (b24.add 2) w35 fun t37 =>
Calls Try.prog 40 #[(SV.v t37)] w35 (R40 fun r39 w40 =>
M.ite (!r39) (
J27 true w40) (
M.ite (decide ((0 : Int) < x1)) (
M.idx p0 (IntKind.i64.wrap (x1 - (1 : Int))) 3 fun a43 =>
M.ld (Value.int .u32) (a43.add ((IntKind.i64.wrap (x1 - (1 : Int))).toNat * 3)) w40 fun t47 =>
M.ld (Value.int .i64) ((a43.add ((IntKind.i64.wrap (x1 - (1 : Int))).toNat * 3)).add 1) w40 fun t49 =>
M.ld (Value.int .u32) b24 w40 fun t51 =>
M.ld (Value.int .i64) (b24.add 1) w40 fun t53 =>
Calls Try.prog 41 #[(Value.agg #[(Value.int .u32 t47), (Value.int .i64 t49)]), (Value.agg #[(Value.int .u32 t51), (Value.int .i64 t53)])] w40 (R41 fun r55 w56 =>
J27 (!r55) w56)) (
J27 false w40)))))) (
K (decide ((p0.len : Int) ≤ (4096 : Int))) w3)) (0 : Int) w0
theorem F24_ok {w0 : World} {p0 : SV} {K : Bool → World → Prop} (h : F24 p0 K w0) : Calls Try.prog 24 #[(SV.v p0)] w0 (R24 K) := by
  refine calls_of_WE (args := [(SV.v p0)]) (rs := [.tmp 2]) Try.func24 rfl (N := 42) rfl rfl rfl rfl ?_
  refine WE.seq ?_
  refine WE.reg ?_
  refine LE.p (v := (Value.bool false)) (Wn.no rfl) rfl (R.assign rfl) ?_
  refine LE.nil ?_
  refine WE.seq ?_
  refine WE.seq ?_
  refine WE.reg ?_
  refine LE.p (v := (SV.v p0)) (Wn.no rfl) rfl (R.move rfl) ?_
  refine LE.p (v := (Value.int .i64 (p0.len : Int))) (Wn.no rfl) rfl (R.len sl45 rfl) ?_
  refine LE.p (v := (Value.int .i64 (0 : Int))) (Wn.no rfl) rfl (R.move rfl) ?_
  refine LE.nil ?_
  refine WE.block ?_
  obtain ⟨I6, ⟨n5, h⟩, hr7⟩ := h
  refine WE.loop (fun n e w => ∃ (x1 : Int), I6 n x1 w ∧ e 0 = (SV.v p0) ∧ e 5 = (SV.v p0) ∧ e 6 = (Value.int .i64 (p0.len : Int)) ∧ e 7 = (Value.int .i64 x1)) n5 ⟨_, h, rfl, rfl, rfl, rfl⟩ ?_
  clear h
  rintro n5 e4 w3 ⟨x1, h, f10, f11, f12, f13⟩
  replace h := hr7 n5 x1 w3 h
  refine WE.seq ?_
  refine WE.reg ?_
  refine LE.p (v := (Value.bool (decide (x1 < (p0.len : Int))))) (Wn.no rfl) rfl (R.lss f13 f12) ?_
  refine LE.nil ?_
  refine WE.seq ?_
  refine WE.condT rfl (b := (decide (x1 < (p0.len : Int)))) rfl ?_ ?_
  · intro hb14
    replace h := M.ite_t h hb14
    refine WE.skip ?_
    refine WE.seq ?_
    refine WE.block ?_
    refine WE.seq ?_
    refine WE.reg ?_
    refine LE.p (v := (Value.int .i64 x1)) (Wn.no rfl) rfl (R.move f13) ?_
    obtain ⟨a15, h16, h17, h18, h⟩ := h
    refine LE.p (v := (Value.pointer (some (a15.add (x1.toNat * 3))))) (Wn.no rfl) rfl (R.idx (s := p0) sl45 f11 f13 h16 h17 h18) ?_
    obtain ⟨t19, t20, t21, h22, h⟩ := h
    refine LE.r (v := (Value.agg #[(Value.int .u32 t19), (Value.int .i64 t20), (SV.v t21)])) (Wn.no rfl) rfl (R.ldA ag35 sz35 rfl rfl h22) ?_
    obtain ⟨b24, hpb24, w23, hww23, h⟩ := M.new_use h
    refine LE.r (v := (Value.pointer (some b24))) (Wn.no rfl) rfl (R.alloc (cs := #[(Value.int .u32 (0 : Int)), (Value.int .i64 (0 : Int)), (SV.v SV.nil)]) ze35 rfl hpb24 hww23) ?_
    refine LE.p (v := (Value.int .i64 x1)) (Wn.no rfl) rfl (R.assign rfl) ?_
    obtain ⟨w25, hww25, h26, h⟩ := M.stA_use h
    refine LE.s (Wn.no rfl) rfl (R.stA (a := b24) [(Value.int .u32 t19), (Value.int .i64 t20), (SV.v t21)] sz35 rfl rfl rfl (by simp [Value.oneCell']) h26 hww25) ?_
    refine LE.nil ?_
    refine WE.seq ?_
    obtain ⟨J27, hJ27, h⟩ := M.join_use h
    refine WE.drawJ (fun e w => ∃ (x28 : Bool), J27 x28 w ∧ e 0 = (SV.v p0) ∧ e 5 = (SV.v p0) ∧ e 6 = (Value.int .i64 (p0.len : Int)) ∧ e 7 = (Value.int .i64 x1) ∧ e 37 = (Value.bool x28)) mix ?_ ?_
    · clear hJ27
      obtain ⟨w29, hww29, h⟩ := M.drew_use h
      rw [← hww29]
      clear hww29
      refine DE.t 0 (v := (Value.pointer (some b24))) rfl (by kernel_rfl) (Wn.no rfl) rfl (R.fld (off := 0) fa35_0 rfl) ?_
      obtain ⟨t30, h31, h⟩ := h
      obtain ⟨t32, h33, h⟩ := h
      refine DE.main 1 (by kernel_rfl) ?_
      refine One.r 1 (v := (Value.agg #[(Value.int .u32 t30), (Value.int .i64 t32)])) rfl (Wn.no rfl) rfl (R.ldA ag33 sz33 rfl rfl (Cs.cons h31 (Cs.cons h33 Cs.nil))) (.inl rfl) ?_
      refine DE.main 2 (by kernel_rfl) ?_
      refine One.c 2 rfl (Wn.no rfl) rfl (R.call bd39 (Ls.cons rfl Ls.nil) rfl) (Calls.mono h ?_)
      rintro _ w35 ⟨r34, rfl, h⟩
      refine ⟨_, rfl, trivial, ?_⟩
      refine DE.t 3 (v := (Value.bool (!r34))) rfl (by kernel_rfl) (Wn.no rfl) rfl (R.not rfl) ?_
      refine DE.t 4 (v := (Value.bool (!r34))) rfl (by kernel_rfl) (Wn.no rfl) rfl (R.move rfl) ?_
      rcases M.ite_use h with ⟨hb36, h⟩ | ⟨hb36, h⟩
      · refine DE.u 5 rfl (by kernel_rfl) (Un.no 4 16 false rfl rfl rfl (congrArg Value.bool hb36)) ?_
        refine DE.u 6 rfl (by kernel_rfl) (Un.no 4 16 false rfl rfl rfl (congrArg Value.bool hb36)) ?_
        refine DE.u 7 rfl (by kernel_rfl) (Un.no 4 16 false rfl rfl rfl (congrArg Value.bool hb36)) ?_
        refine DE.u 8 rfl (by kernel_rfl) (Un.no 4 16 false rfl rfl rfl (congrArg Value.bool hb36)) ?_
        refine DE.t 9 (v := (Value.bool true)) rfl (by kernel_rfl) (Wn.no rfl) rfl (R.pickT (congrArg Value.bool hb36) rfl) ?_
        refine DE.t 10 (v := (Value.bool true)) rfl (by kernel_rfl) (Wn.no rfl) rfl (R.move rfl) ?_
        refine DE.u 11 rfl (by kernel_rfl) (Un.no 10 22 false rfl rfl rfl rfl) ?_
        refine DE.u 12 rfl (by kernel_rfl) (Un.no 10 22 false rfl rfl rfl rfl) ?_
        refine DE.u 13 rfl (by kernel_rfl) (Un.no 10 22 false rfl rfl rfl rfl) ?_
        refine DE.u 14 rfl (by kernel_rfl) (Un.un 13 25 true rfl rfl rfl rfl) ?_
        refine DE.u 15 rfl (by kernel_rfl) (Un.un 13 25 true rfl rfl rfl rfl) ?_
        refine DE.u 16 rfl (by kernel_rfl) (Un.un 13 25 true rfl rfl rfl rfl) ?_
        refine DE.u 17 rfl (by kernel_rfl) (Un.un 13 25 true rfl rfl rfl rfl) ?_
        refine DE.u 18 rfl (by kernel_rfl) (Un.un 13 25 true rfl rfl rfl rfl) ?_
        refine DE.u 19 rfl (by kernel_rfl) (Un.un 13 25 true rfl rfl rfl rfl) ?_
        refine DE.u 20 rfl (by kernel_rfl) (Un.un 13 25 true rfl rfl rfl rfl) ?_
        refine DE.u 21 rfl (by kernel_rfl) (Un.un 13 25 true rfl rfl rfl rfl) ?_
        refine DE.u 22 rfl (by kernel_rfl) (Un.un 13 25 true rfl rfl rfl rfl) ?_
        refine DE.u 23 rfl (by kernel_rfl) (Un.un 13 25 true rfl rfl rfl rfl) ?_
        refine DE.u 24 rfl (by kernel_rfl) (Un.no 10 22 false rfl rfl rfl rfl) ?_
        refine DE.t 25 (v := (Value.bool true)) rfl (by kernel_rfl) (Wn.no rfl) rfl (R.pickT rfl rfl) ?_
        refine DE.done (by kernel_rfl) ?_
        exact ⟨_, h, f10, f11, f12, f13, rfl⟩
      · refine DE.t 5 (v := (Value.pointer (some (b24.add 2)))) rfl (by kernel_rfl) (Wn.yes 4 16 false rfl rfl rfl (congrArg Value.bool hb36)) rfl (R.fld (off := 2) fa35_1 rfl) ?_
        obtain ⟨t37, h38, h⟩ := h
        refine DE.main 6 (by kernel_rfl) ?_
        refine One.r 6 (v := (SV.v t37)) rfl (Wn.yes 4 16 false rfl rfl rfl (congrArg Value.bool hb36)) rfl (R.ld sc28 rfl h38) (.inl rfl) ?_
        refine DE.main 7 (by kernel_rfl) ?_
        refine One.c 7 rfl (Wn.yes 4 16 false rfl rfl rfl (congrArg Value.bool hb36)) rfl (R.call bd40 (Ls.cons rfl Ls.nil) rfl) (Calls.mono h ?_)
        rintro _ w40 ⟨r39, rfl, h⟩
        refine ⟨_, rfl, trivial, ?_⟩
        refine DE.t 8 (v := (Value.bool (!r39))) rfl (by kernel_rfl) (Wn.yes 4 16 false rfl rfl rfl (congrArg Value.bool hb36)) rfl (R.not rfl) ?_
        refine DE.t 9 (v := (Value.bool (!r39))) rfl (by kernel_rfl) (Wn.no rfl) rfl (R.pickF (congrArg Value.bool hb36) rfl) ?_
        refine DE.t 10 (v := (Value.bool (!r39))) rfl (by kernel_rfl) (Wn.no rfl) rfl (R.move rfl) ?_
        rcases M.ite_use h with ⟨hb41, h⟩ | ⟨hb41, h⟩
        · refine DE.u 11 rfl (by kernel_rfl) (Un.no 10 22 false rfl rfl rfl (congrArg Value.bool hb41)) ?_
          refine DE.u 12 rfl (by kernel_rfl) (Un.no 10 22 false rfl rfl rfl (congrArg Value.bool hb41)) ?_
          refine DE.u 13 rfl (by kernel_rfl) (Un.no 10 22 false rfl rfl rfl (congrArg Value.bool hb41)) ?_
          refine DE.u 14 rfl (by kernel_rfl) (Un.un 13 25 true rfl rfl rfl rfl) ?_
          refine DE.u 15 rfl (by kernel_rfl) (Un.un 13 25 true rfl rfl rfl rfl) ?_
          refine DE.u 16 rfl (by kernel_rfl) (Un.un 13 25 true rfl rfl rfl rfl) ?_
          refine DE.u 17 rfl (by kernel_rfl) (Un.un 13 25 true rfl rfl rfl rfl) ?_
          refine DE.u 18 rfl (by kernel_rfl) (Un.un 13 25 true rfl rfl rfl rfl) ?_
          refine DE.u 19 rfl (by kernel_rfl) (Un.un 13 25 true rfl rfl rfl rfl) ?_
          refine DE.u 20 rfl (by kernel_rfl) (Un.un 13 25 true rfl rfl rfl rfl) ?_
          refine DE.u 21 rfl (by kernel_rfl) (Un.un 13 25 true rfl rfl rfl rfl) ?_
          refine DE.u 22 rfl (by kernel_rfl) (Un.un 13 25 true rfl rfl rfl rfl) ?_
          refine DE.u 23 rfl (by kernel_rfl) (Un.un 13 25 true rfl rfl rfl rfl) ?_
          refine DE.u 24 rfl (by kernel_rfl) (Un.no 10 22 false rfl rfl rfl (congrArg Value.bool hb41)) ?_
          refine DE.t 25 (v := (Value.bool true)) rfl (by kernel_rfl) (Wn.no rfl) rfl (R.pickT (congrArg Value.bool hb41) rfl) ?_
          refine DE.done (by kernel_rfl) ?_
          exact ⟨_, h, f10, f11, f12, f13, rfl⟩
        · refine DE.t 11 (v := (Value.int .i64 x1)) rfl (by kernel_rfl) (Wn.yes 10 22 false rfl rfl rfl (congrArg Value.bool hb41)) rfl (R.move rfl) ?_
          refine DE.t 12 (v := (Value.bool (decide ((0 : Int) < x1)))) rfl (by kernel_rfl) (Wn.yes 10 22 false rfl rfl rfl (congrArg Value.bool hb41)) rfl (R.gtr rfl rfl) ?_
          refine DE.t 13 (v := (Value.bool (decide ((0 : Int) < x1)))) rfl (by kernel_rfl) (Wn.yes 10 22 false rfl rfl rfl (congrArg Value.bool hb41)) rfl (R.move rfl) ?_
          rcases M.ite_use h with ⟨hb42, h⟩ | ⟨hb42, h⟩
          · refine DE.t 14 (v := (SV.v p0)) rfl (by kernel_rfl) (Wn.yes 13 25 true rfl rfl rfl (congrArg Value.bool hb42)) rfl (R.move f10) ?_
            refine DE.t 15 (v := (Value.int .i64 x1)) rfl (by kernel_rfl) (Wn.yes 13 25 true rfl rfl rfl (congrArg Value.bool hb42)) rfl (R.move rfl) ?_
            refine DE.t 16 (v := (Value.int .i64 (IntKind.i64.wrap (x1 - (1 : Int))))) rfl (by kernel_rfl) (Wn.yes 13 25 true rfl rfl rfl (congrArg Value.bool hb42)) rfl (R.sub rfl rfl) ?_
            obtain ⟨a43, h44, h45, h46, h⟩ := h
            refine DE.t 17 (v := (Value.pointer (some (a43.add ((IntKind.i64.wrap (x1 - (1 : Int))).toNat * 3))))) rfl (by kernel_rfl) (Wn.yes 13 25 true rfl rfl rfl (congrArg Value.bool hb42)) rfl (R.idx (s := p0) sl45 rfl rfl h44 h45 h46) ?_
            refine DE.t 18 (v := (Value.pointer (some (a43.add ((IntKind.i64.wrap (x1 - (1 : Int))).toNat * 3))))) rfl (by kernel_rfl) (Wn.yes 13 25 true rfl rfl rfl (congrArg Value.bool hb42)) rfl (R.fld (off := 0) fa35_0 rfl) ?_
            refine DE.t 20 (v := (Value.pointer (some b24))) rfl (by kernel_rfl) (Wn.yes 13 25 true rfl rfl rfl (congrArg Value.bool hb42)) rfl (R.fld (off := 0) fa35_0 rfl) ?_
            obtain ⟨t47, h48, h⟩ := h
            obtain ⟨t49, h50, h⟩ := h
            refine DE.hold 19 (fun w => w.cell? (a43.add ((IntKind.i64.wrap (x1 - (1 : Int))).toNat * 3)) = some (Value.int .u32 t47) ∧ w.cell? ((a43.add ((IntKind.i64.wrap (x1 - (1 : Int))).toNat * 3)).add 1) = some (Value.int .i64 t49)) (v := (Value.agg #[(Value.int .u32 t47), (Value.int .i64 t49)])) rfl (by kernel_rfl) (Wn.yes 13 25 true rfl rfl rfl (congrArg Value.bool hb42)) rfl ⟨h48, h50⟩ (fun w hs => R.ldA ag33 sz33 rfl rfl (Cs.cons hs.1 (Cs.cons hs.2 Cs.nil))) ?_
            obtain ⟨t51, h52, h⟩ := h
            obtain ⟨t53, h54, h⟩ := h
            refine DE.main 21 (by kernel_rfl) ?_
            refine One.r 21 (v := (Value.agg #[(Value.int .u32 t51), (Value.int .i64 t53)])) rfl (Wn.yes 13 25 true rfl rfl rfl (congrArg Value.bool hb42)) rfl (R.ldA ag33 sz33 rfl rfl (Cs.cons h52 (Cs.cons h54 Cs.nil))) (.inl rfl) ?_
            refine DE.main 22 (by kernel_rfl) ?_
            refine One.c 22 rfl (Wn.yes 13 25 true rfl rfl rfl (congrArg Value.bool hb42)) rfl (R.call bd41 (Ls.cons rfl (Ls.cons rfl Ls.nil)) rfl) (Calls.mono h ?_)
            rintro _ w56 ⟨r55, rfl, h⟩
            refine ⟨_, rfl, ⟨aftT (by kernel_rfl), trivial⟩, ?_⟩
            refine DE.t 23 (v := (Value.bool (!r55))) rfl (by kernel_rfl) (Wn.yes 13 25 true rfl rfl rfl (congrArg Value.bool hb42)) rfl (R.not rfl) ?_
            refine DE.t 24 (v := (Value.bool (!r55))) rfl (by kernel_rfl) (Wn.yes 10 22 false rfl rfl rfl (congrArg Value.bool hb41)) rfl (R.pickT (congrArg Value.bool hb42) rfl) ?_
            refine DE.t 25 (v := (Value.bool (!r55))) rfl (by kernel_rfl) (Wn.no rfl) rfl (R.pickF (congrArg Value.bool hb41) rfl) ?_
            refine DE.done (by kernel_rfl) ?_
            exact ⟨_, h, f10, f11, f12, f13, rfl⟩
          · refine DE.u 14 rfl (by kernel_rfl) (Un.no 13 25 true rfl rfl rfl (congrArg Value.bool hb42)) ?_
            refine DE.u 15 rfl (by kernel_rfl) (Un.no 13 25 true rfl rfl rfl (congrArg Value.bool hb42)) ?_
            refine DE.u 16 rfl (by kernel_rfl) (Un.no 13 25 true rfl rfl rfl (congrArg Value.bool hb42)) ?_
            refine DE.u 17 rfl (by kernel_rfl) (Un.no 13 25 true rfl rfl rfl (congrArg Value.bool hb42)) ?_
            refine DE.u 18 rfl (by kernel_rfl) (Un.no 13 25 true rfl rfl rfl (congrArg Value.bool hb42)) ?_
            refine DE.u 19 rfl (by kernel_rfl) (Un.no 13 25 true rfl rfl rfl (congrArg Value.bool hb42)) ?_
            refine DE.u 20 rfl (by kernel_rfl) (Un.no 13 25 true rfl rfl rfl (congrArg Value.bool hb42)) ?_
            refine DE.u 21 rfl (by kernel_rfl) (Un.no 13 25 true rfl rfl rfl (congrArg Value.bool hb42)) ?_
            refine DE.u 22 rfl (by kernel_rfl) (Un.no 13 25 true rfl rfl rfl (congrArg Value.bool hb42)) ?_
            refine DE.u 23 rfl (by kernel_rfl) (Un.no 13 25 true rfl rfl rfl (congrArg Value.bool hb42)) ?_
            refine DE.t 24 (v := (Value.bool false)) rfl (by kernel_rfl) (Wn.yes 10 22 false rfl rfl rfl (congrArg Value.bool hb41)) rfl (R.pickF (congrArg Value.bool hb42) rfl) ?_
            refine DE.t 25 (v := (Value.bool false)) rfl (by kernel_rfl) (Wn.no rfl) rfl (R.pickF (congrArg Value.bool hb41) rfl) ?_
            refine DE.done (by kernel_rfl) ?_
            exact ⟨_, h, f10, f11, f12, f13, rfl⟩
    · rintro e57 w58 ⟨x28, h, f59, f60, f61, f62, f63⟩
      subst hJ27
      refine WE.condT rfl (b := x28) f63 ?_ ?_
      · intro hb64
        replace h := M.ite_t h hb64
        refine WE.seq ?_
        refine WE.reg ?_
        refine LE.p (v := (Value.bool false)) (Wn.no rfl) rfl (R.assign rfl) ?_
        refine LE.nil ?_
        refine WE.ret ?_
        exact ⟨_, (Res.tmp rfl Res.nil), _, rfl, h⟩
      · intro hb64
        replace h := M.ite_f h hb64
        refine WE.skip ?_
        refine WE.reg ?_
        refine LE.p (v := (Value.int .i64 (IntKind.i64.wrap (x1 + (1 : Int))))) (Wn.no rfl) rfl (R.add f62 rfl) ?_
        refine LE.p (v := (Value.int .i64 (IntKind.i64.wrap (x1 + (1 : Int))))) (Wn.no rfl) rfl (R.move rfl) ?_
        refine LE.nil ?_
        obtain ⟨m8, hm9, h⟩ := h
        exact ⟨m8, hm9, _, h, f59, f60, f61, rfl⟩
  · intro hb14
    replace h := M.ite_f h hb14
    refine WE.exit ?_
    refine WE.seq ?_
    refine WE.reg ?_
    refine LE.p (v := (SV.v p0)) (Wn.no rfl) rfl (R.move f10) ?_
    refine LE.p (v := (Value.int .i64 (p0.len : Int))) (Wn.no rfl) rfl (R.len sl45 rfl) ?_
    refine LE.p (v := (Value.bool (decide ((p0.len : Int) ≤ (4096 : Int))))) (Wn.no rfl) rfl (R.leq rfl rfl) ?_
    refine LE.p (v := (Value.bool (decide ((p0.len : Int) ≤ (4096 : Int))))) (Wn.no rfl) rfl (R.assign rfl) ?_
    refine LE.nil ?_
    refine WE.ret ?_
    exact ⟨_, (Res.tmp rfl Res.nil), _, rfl, h⟩
/-- The formula of (*signpost.trie.Trie).Put. -/
def F25 (p0 : Option Addr) (p1_0 : Int) (p1_1 : Int) (p2 : Int) (K : Bool → World → Prop) (w0 : World) : Prop :=
M.new (.cells #[(Value.int .u32 p1_0), (Value.int .i64 p1_1)] 33) w0 fun b2 w1 =>
M.ld (Value.int .u32) b2 w1 fun t3 =>
M.ld (Value.int .i64) (b2.add 1) w1 fun t5 =>
Calls Try.prog 39 #[(Value.agg #[(Value.int .u32 t3), (Value.int .i64 t5)])] w1 (R39 fun r7 w8 =>
M.ite (!r7) (
K false w8) (
M.nil p0 fun a10 =>
M.ld (Value.int .i64) (b2.add 1) w8 fun t12 =>
M.loop2 (fun (J16 : Option Addr → Int → World → Prop) (x14 : Option Addr) (x15 : Int) (w17 : World) => 
M.ite (decide (x15 < t12)) (
M.ld (Value.int .u32) b2 w17 fun t31 =>
Calls Try.prog 42 #[(Value.int .u32 t31), (Value.int .i64 x15)] w17 (R42 fun r33 w34 =>
M.join (fun (w53 : World) => 
M.nil x14 fun a61 =>
M.inb r33 2 <|
M.ld Value.pointer (a61.add (r33.toNat * 1)) w53 fun t65 =>
J16 t65 (IntKind.i64.wrap (x15 + (1 : Int))) w53) fun J35 => 
M.nil x14 fun a36 =>
M.inb r33 2 <|
M.ld Value.pointer (a36.add (r33.toNat * 1)) w34 fun t40 =>
M.ite (Option.isNone t40) (
M.new (.cells #[(Value.pointer (none : Option Addr)), (Value.pointer (none : Option Addr)), (Value.bool false), (Value.int .i64 (0 : Int))] 83) w34 fun b44 w43 =>
M.nil x14 fun a45 =>
M.inb r33 2 <|
M.st (a45.add (r33.toNat * 1)) (Value.pointer (some b44)) w43 fun w49 =>
J35 w49) (
J35 w34))) (
M.nil x14 fun a67 =>
M.ld Value.bool (a67.add 2) w17 fun t69 =>
M.nil x14 fun a71 =>
M.st (a71.add 2) (Value.bool true) w17 fun w73 =>
M.nil x14 fun a76 =>
M.st (a76.add 3) (Value.int .i64 p2) w73 fun w78 =>
M.join (fun (w93 : World) => 
K (!t69) w93) fun J81 => 
M.ite (!t69) (
M.nil p0 fun a83 =>
M.ld (Value.int .i64) (a83.add 4) w78 fun t85 =>
M.nil p0 fun a87 =>
M.st (a87.add 4) (Value.int .i64 (IntKind.i64.wrap (t85 + (1 : Int)))) w78 fun w89 =>
J81 w89) (
J81 w78))) (some a10) (0 : Int) w8))
theorem F25_ok {w0 : World} {p0 : Option Addr} {p1_0 : Int} {p1_1 : Int} {p2 : Int} {K : Bool → World → Prop} (h : F25 p0 p1_0 p1_1 p2 K w0) : Calls Try.prog 25 #[(Value.pointer p0), (Value.agg #[(Value.int .u32 p1_0), (Value.int .i64 p1_1)]), (Value.int .i64 p2)] w0 (R25 K) := by
  refine calls_of_WE (args := [(Value.pointer p0), (Value.agg #[(Value.int .u32 p1_0), (Value.int .i64 p1_1)]), (Value.int .i64 p2)]) (rs := [.tmp 6]) Try.func25 rfl (N := 68) rfl rfl rfl rfl ?_
  refine WE.seq ?_
  refine WE.reg ?_
  obtain ⟨b2, hpb2, w1, hww1, h⟩ := M.new_use h
  refine LE.r (v := (Value.pointer (some b2))) (Wn.no rfl) rfl (R.box (cs := #[(Value.int .u32 p1_0), (Value.int .i64 p1_1)]) rfl rfl hpb2 hww1) ?_
  refine LE.p (v := (Value.bool false)) (Wn.no rfl) rfl (R.assign rfl) ?_
  refine LE.nil ?_
  refine WE.seq ?_
  refine WE.seq ?_
  refine WE.reg ?_
  obtain ⟨t3, h4, h⟩ := h
  obtain ⟨t5, h6, h⟩ := h
  refine LE.r (v := (Value.agg #[(Value.int .u32 t3), (Value.int .i64 t5)])) (Wn.no rfl) rfl (R.ldA ag33 sz33 rfl rfl (Cs.cons h4 (Cs.cons h6 Cs.nil))) ?_
  refine LE.c (Wn.no rfl) rfl (R.call bd39 (Ls.cons rfl Ls.nil) rfl) (Calls.mono h ?_)
  rintro _ w8 ⟨r7, rfl, h⟩
  refine ⟨_, rfl, ?_⟩
  refine LE.p (v := (Value.bool (!r7))) (Wn.no rfl) rfl (R.not rfl) ?_
  refine LE.nil ?_
  refine WE.condT rfl (b := (!r7)) rfl ?_ ?_
  · intro hb9
    replace h := M.ite_t h hb9
    refine WE.seq ?_
    refine WE.reg ?_
    refine LE.p (v := (Value.bool false)) (Wn.no rfl) rfl (R.assign rfl) ?_
    refine LE.nil ?_
    refine WE.ret ?_
    exact ⟨_, (Res.tmp rfl Res.nil), _, rfl, h⟩
  · intro hb9
    replace h := M.ite_f h hb9
    refine WE.skip ?_
    refine WE.seq ?_
    refine WE.reg ?_
    refine LE.p (v := (Value.pointer p0)) (Wn.no rfl) rfl (R.move rfl) ?_
    obtain ⟨a10, h11, h⟩ := h
    refine LE.p (v := (Value.pointer (some a10))) (Wn.no rfl) rfl (R.nilC (congrArg Value.pointer h11)) ?_
    refine LE.p (v := (Value.pointer (some a10))) (Wn.no rfl) rfl (R.fld (off := 0) fa85_0 rfl) ?_
    refine LE.p (v := (Value.pointer (some a10))) (Wn.no rfl) rfl (R.assign rfl) ?_
    refine LE.nil ?_
    refine WE.seq ?_
    refine WE.seq ?_
    refine WE.reg ?_
    refine LE.p (v := (Value.pointer (some (b2.add 1)))) (Wn.no rfl) rfl (R.fld (off := 1) fa33_1 rfl) ?_
    obtain ⟨t12, h13, h⟩ := h
    refine LE.r (v := (Value.int .i64 t12)) (Wn.no rfl) rfl (R.ld sc3 rfl h13) ?_
    refine LE.p (v := (Value.int .i64 (0 : Int))) (Wn.no rfl) rfl (R.move rfl) ?_
    refine LE.nil ?_
    refine WE.block ?_
    obtain ⟨I20, ⟨n19, h⟩, hr21⟩ := h
    refine WE.loop (fun n e w => ∃ (x14 : Option Addr) (x15 : Int), I20 n x14 x15 w ∧ e 0 = (Value.pointer p0) ∧ e 2 = (Value.int .i64 p2) ∧ e 4 = (Value.pointer (some b2)) ∧ e 7 = (Value.pointer x14) ∧ e 18 = (Value.int .i64 t12) ∧ e 19 = (Value.int .i64 x15)) n19 ⟨_, _, h, rfl, rfl, rfl, rfl, rfl, rfl⟩ ?_
    clear h
    rintro n19 e18 w17 ⟨x14, x15, h, f24, f25, f26, f27, f28, f29⟩
    replace h := hr21 n19 x14 x15 w17 h
    refine WE.seq ?_
    refine WE.reg ?_
    refine LE.p (v := (Value.bool (decide (x15 < t12)))) (Wn.no rfl) rfl (R.lss f29 f28) ?_
    refine LE.nil ?_
    refine WE.seq ?_
    refine WE.condT rfl (b := (decide (x15 < t12))) rfl ?_ ?_
    · intro hb30
      replace h := M.ite_t h hb30
      refine WE.skip ?_
      refine WE.seq ?_
      refine WE.block ?_
      refine WE.seq ?_
      refine WE.reg ?_
      refine LE.p (v := (Value.int .i64 x15)) (Wn.no rfl) rfl (R.move f29) ?_
      refine LE.p (v := (Value.int .i64 x15)) (Wn.no rfl) rfl (R.assign rfl) ?_
      refine LE.nil ?_
      refine WE.seq ?_
      refine WE.reg ?_
      refine LE.p (v := (Value.pointer (some b2))) (Wn.no rfl) rfl (R.fld (off := 0) fa33_0 f26) ?_
      obtain ⟨t31, h32, h⟩ := h
      refine LE.r (v := (Value.int .u32 t31)) (Wn.no rfl) rfl (R.ld sc23 rfl h32) ?_
      refine LE.p (v := (Value.int .i64 x15)) (Wn.no rfl) rfl (R.move rfl) ?_
      refine LE.c (Wn.no rfl) rfl (R.call bd42 (Ls.cons rfl (Ls.cons rfl Ls.nil)) rfl) (Calls.mono h ?_)
      rintro _ w34 ⟨r33, rfl, h⟩
      refine ⟨_, rfl, ?_⟩
      refine LE.p (v := (Value.int .i64 r33)) (Wn.no rfl) rfl (R.assign rfl) ?_
      refine LE.nil ?_
      obtain ⟨J35, hJ35, h⟩ := M.join_use h
      refine WE.join (fun e w => J35 w ∧ e 0 = (Value.pointer p0) ∧ e 2 = (Value.int .i64 p2) ∧ e 4 = (Value.pointer (some b2)) ∧ e 7 = (Value.pointer x14) ∧ e 9 = (Value.int .i64 r33) ∧ e 18 = (Value.int .i64 t12) ∧ e 19 = (Value.int .i64 x15)) ?_ ?_
      · clear hJ35
        refine WE.seq ?_
        refine WE.reg ?_
        refine LE.p (v := (Value.pointer x14)) (Wn.no rfl) rfl (R.move f27) ?_
        refine LE.p (v := (Value.int .i64 r33)) (Wn.no rfl) rfl (R.move rfl) ?_
        obtain ⟨a36, h37, h⟩ := h
        refine LE.p (v := (Value.pointer (some a36))) (Wn.no rfl) rfl (R.nilC (congrArg Value.pointer h37)) ?_
        refine LE.p (v := (Value.pointer (some a36))) (Wn.no rfl) rfl (R.fld (off := 0) fa83_0 rfl) ?_
        obtain ⟨h38, h39, h⟩ := h
        refine LE.p (v := (Value.pointer (some (a36.add (r33.toNat * 1))))) (Wn.no rfl) rfl (R.idxArr ar81 rfl rfl h38 h39) ?_
        obtain ⟨t40, h41, h⟩ := h
        refine LE.r (v := (Value.pointer t40)) (Wn.no rfl) rfl (R.ld sc80 rfl h41) ?_
        refine LE.p (v := (Value.bool (Option.isNone t40))) (Wn.no rfl) rfl (R.peqNil pt80 rfl rfl) ?_
        refine LE.nil ?_
        refine WE.condT rfl (b := (Option.isNone t40)) rfl ?_ ?_
        · intro hb42
          replace h := M.ite_t h hb42
          refine WE.reg ?_
          refine LE.p (v := (Value.pointer x14)) (Wn.no rfl) rfl (R.move f27) ?_
          refine LE.p (v := (Value.int .i64 r33)) (Wn.no rfl) rfl (R.move rfl) ?_
          refine LE.p (v := (Value.agg #[(Value.pointer (none : Option Addr)), (Value.pointer (none : Option Addr)), (Value.bool false), (Value.int .i64 (0 : Int))])) (Wn.no rfl) rfl (R.bld (by exact Ls.nil) (fun w => bu83_  w)) ?_
          obtain ⟨b44, hpb44, w43, hww43, h⟩ := M.new_use h
          refine LE.r (v := (Value.pointer (some b44))) (Wn.no rfl) rfl (R.box (cs := #[(Value.pointer (none : Option Addr)), (Value.pointer (none : Option Addr)), (Value.bool false), (Value.int .i64 (0 : Int))]) rfl rfl hpb44 hww43) ?_
          obtain ⟨a45, h46, h⟩ := h
          refine LE.p (v := (Value.pointer (some a45))) (Wn.no rfl) rfl (R.nilC (congrArg Value.pointer h46)) ?_
          refine LE.p (v := (Value.pointer (some a45))) (Wn.no rfl) rfl (R.fld (off := 0) fa83_0 rfl) ?_
          obtain ⟨h47, h48, h⟩ := h
          refine LE.p (v := (Value.pointer (some (a45.add (r33.toNat * 1))))) (Wn.no rfl) rfl (R.idxArr ar81 rfl rfl h47 h48) ?_
          obtain ⟨w49, hww49, h50, h51, h⟩ := M.st_use h
          refine LE.s (Wn.no rfl) rfl (R.st (a := (a45.add (r33.toNat * 1))) (v := (Value.pointer (some b44))) sz80 rfl rfl rfl rfl h50 h51 hww49) ?_
          refine LE.nil ?_
          exact ⟨h, f24, f25, f26, f27, rfl, f28, f29⟩
        · intro hb42
          replace h := M.ite_f h hb42
          refine WE.skip ?_
          exact ⟨h, f24, f25, f26, f27, rfl, f28, f29⟩
      · rintro e52 w53 ⟨h, f54, f55, f56, f57, f58, f59, f60⟩
        subst hJ35
        refine WE.reg ?_
        refine LE.p (v := (Value.pointer x14)) (Wn.no rfl) rfl (R.move f57) ?_
        refine LE.p (v := (Value.int .i64 r33)) (Wn.no rfl) rfl (R.move f58) ?_
        obtain ⟨a61, h62, h⟩ := h
        refine LE.p (v := (Value.pointer (some a61))) (Wn.no rfl) rfl (R.nilC (congrArg Value.pointer h62)) ?_
        refine LE.p (v := (Value.pointer (some a61))) (Wn.no rfl) rfl (R.fld (off := 0) fa83_0 rfl) ?_
        obtain ⟨h63, h64, h⟩ := h
        refine LE.p (v := (Value.pointer (some (a61.add (r33.toNat * 1))))) (Wn.no rfl) rfl (R.idxArr ar81 rfl rfl h63 h64) ?_
        obtain ⟨t65, h66, h⟩ := h
        refine LE.r (v := (Value.pointer t65)) (Wn.no rfl) rfl (R.ld sc80 rfl h66) ?_
        refine LE.p (v := (Value.pointer t65)) (Wn.no rfl) rfl (R.assign rfl) ?_
        refine LE.nil ?_
        refine WE.reg ?_
        refine LE.p (v := (Value.int .i64 (IntKind.i64.wrap (x15 + (1 : Int))))) (Wn.no rfl) rfl (R.add f60 rfl) ?_
        refine LE.p (v := (Value.int .i64 (IntKind.i64.wrap (x15 + (1 : Int))))) (Wn.no rfl) rfl (R.move rfl) ?_
        refine LE.nil ?_
        obtain ⟨m22, hm23, h⟩ := h
        exact ⟨m22, hm23, _, _, h, f54, f55, f56, rfl, f59, rfl⟩
    · intro hb30
      replace h := M.ite_f h hb30
      refine WE.exit ?_
      refine WE.seq ?_
      refine WE.reg ?_
      refine LE.p (v := (Value.pointer x14)) (Wn.no rfl) rfl (R.move f27) ?_
      obtain ⟨a67, h68, h⟩ := h
      refine LE.p (v := (Value.pointer (some a67))) (Wn.no rfl) rfl (R.nilC (congrArg Value.pointer h68)) ?_
      refine LE.p (v := (Value.pointer (some (a67.add 2)))) (Wn.no rfl) rfl (R.fld (off := 2) fa83_1 rfl) ?_
      obtain ⟨t69, h70, h⟩ := h
      refine LE.r (v := (Value.bool t69)) (Wn.no rfl) rfl (R.ld sc4 rfl h70) ?_
      refine LE.p (v := (Value.bool (!t69))) (Wn.no rfl) rfl (R.not rfl) ?_
      refine LE.p (v := (Value.bool (!t69))) (Wn.no rfl) rfl (R.assign rfl) ?_
      refine LE.nil ?_
      refine WE.seq ?_
      refine WE.reg ?_
      refine LE.p (v := (Value.pointer x14)) (Wn.no rfl) rfl (R.move f27) ?_
      refine LE.p (v := (Value.pointer x14)) (Wn.no rfl) rfl (R.move f27) ?_
      refine LE.p (v := (Value.int .i64 p2)) (Wn.no rfl) rfl (R.move f25) ?_
      obtain ⟨a71, h72, h⟩ := h
      refine LE.p (v := (Value.pointer (some a71))) (Wn.no rfl) rfl (R.nilC (congrArg Value.pointer h72)) ?_
      refine LE.p (v := (Value.pointer (some (a71.add 2)))) (Wn.no rfl) rfl (R.fld (off := 2) fa83_1 rfl) ?_
      obtain ⟨w73, hww73, h74, h75, h⟩ := M.st_use h
      refine LE.s (Wn.no rfl) rfl (R.st (a := (a71.add 2)) (v := (Value.bool true)) sz4 rfl rfl rfl rfl h74 h75 hww73) ?_
      obtain ⟨a76, h77, h⟩ := h
      refine LE.p (v := (Value.pointer (some a76))) (Wn.no rfl) rfl (R.nilC (congrArg Value.pointer h77)) ?_
      refine LE.p (v := (Value.pointer (some (a76.add 3)))) (Wn.no rfl) rfl (R.fld (off := 3) fa83_2 rfl) ?_
      obtain ⟨w78, hww78, h79, h80, h⟩ := M.st_use h
      refine LE.s (Wn.no rfl) rfl (R.st (a := (a76.add 3)) (v := (Value.int .i64 p2)) sz3 rfl rfl rfl rfl h79 h80 hww78) ?_
      refine LE.nil ?_
      obtain ⟨J81, hJ81, h⟩ := M.join_use h
      refine WE.join (fun e w => J81 w ∧ e 10 = (Value.bool (!t69))) ?_ ?_
      · clear hJ81
        refine WE.seq ?_
        refine WE.reg ?_
        refine LE.p (v := (Value.bool (!t69))) (Wn.no rfl) rfl (R.move rfl) ?_
        refine LE.nil ?_
        refine WE.condT rfl (b := (!t69)) rfl ?_ ?_
        · intro hb82
          replace h := M.ite_t h hb82
          refine WE.reg ?_
          refine LE.p (v := (Value.pointer p0)) (Wn.no rfl) rfl (R.move f24) ?_
          obtain ⟨a83, h84, h⟩ := h
          refine LE.p (v := (Value.pointer (some a83))) (Wn.no rfl) rfl (R.nilC (congrArg Value.pointer h84)) ?_
          refine LE.p (v := (Value.pointer (some (a83.add 4)))) (Wn.no rfl) rfl (R.fld (off := 4) fa85_1 rfl) ?_
          obtain ⟨t85, h86, h⟩ := h
          refine LE.r (v := (Value.int .i64 t85)) (Wn.no rfl) rfl (R.ld sc3 rfl h86) ?_
          refine LE.p (v := (Value.int .i64 (IntKind.i64.wrap (t85 + (1 : Int))))) (Wn.no rfl) rfl (R.add rfl rfl) ?_
          obtain ⟨a87, h88, h⟩ := h
          refine LE.p (v := (Value.pointer (some a87))) (Wn.no rfl) rfl (R.nilC (congrArg Value.pointer h88)) ?_
          refine LE.p (v := (Value.pointer (some (a87.add 4)))) (Wn.no rfl) rfl (R.fld (off := 4) fa85_1 rfl) ?_
          obtain ⟨w89, hww89, h90, h91, h⟩ := M.st_use h
          refine LE.s (Wn.no rfl) rfl (R.st (a := (a87.add 4)) (v := (Value.int .i64 (IntKind.i64.wrap (t85 + (1 : Int))))) sz3 rfl rfl rfl rfl h90 h91 hww89) ?_
          refine LE.nil ?_
          exact ⟨h, rfl⟩
        · intro hb82
          replace h := M.ite_f h hb82
          refine WE.skip ?_
          exact ⟨h, rfl⟩
      · rintro e92 w93 ⟨h, f94⟩
        subst hJ81
        refine WE.seq ?_
        refine WE.reg ?_
        refine LE.p (v := (Value.bool (!t69))) (Wn.no rfl) rfl (R.move f94) ?_
        refine LE.p (v := (Value.bool (!t69))) (Wn.no rfl) rfl (R.assign rfl) ?_
        refine LE.nil ?_
        refine WE.ret ?_
        exact ⟨_, (Res.tmp rfl Res.nil), _, rfl, h⟩
/-- The formula of slices.Clone[[]signpost.api.Hop,signpost.api.Hop]. -/
def F26 (p0 : SV) (K : SV → World → Prop) (w0 : World) : Prop :=
M.ite (Option.isNone (SV.a p0)) (
K SV.nil w0) (
M.new (.cells #[] 55) w0 fun b4 w2 =>
M.app Try.prog 28 28 28 (SV.mk (some b4) 0 0) (SV.v p0) w2 fun s5 w6 =>
K s5 w6)
theorem F26_ok {w0 : World} {p0 : SV} {K : SV → World → Prop} (h : F26 p0 K w0) : Calls Try.prog 26 #[(SV.v p0)] w0 (R26 K) := by
  refine calls_of_WE (args := [(SV.v p0)]) (rs := [.tmp 2]) Try.func26 rfl (N := 8) rfl rfl rfl rfl ?_
  refine WE.seq ?_
  refine WE.reg ?_
  refine LE.p (v := (SV.v SV.nil)) (Wn.no rfl) rfl (R.assign rfl) ?_
  refine LE.nil ?_
  refine WE.seq ?_
  refine WE.seq ?_
  refine WE.reg ?_
  refine LE.p (v := (SV.v p0)) (Wn.no rfl) rfl (R.move rfl) ?_
  refine LE.p (v := (Value.bool (Option.isNone (SV.a p0)))) (Wn.no rfl) rfl (R.sleqNil sl28 rfl rfl) ?_
  refine LE.nil ?_
  refine WE.condT rfl (b := (Option.isNone (SV.a p0))) rfl ?_ ?_
  · intro hb1
    replace h := M.ite_t h hb1
    refine WE.seq ?_
    refine WE.reg ?_
    refine LE.p (v := (SV.v SV.nil)) (Wn.no rfl) rfl (R.assign rfl) ?_
    refine LE.nil ?_
    refine WE.ret ?_
    exact ⟨_, (Res.tmp rfl Res.nil), _, rfl, h⟩
  · intro hb1
    replace h := M.ite_f h hb1
    refine WE.skip ?_
    refine WE.seq ?_
    refine WE.reg ?_
    obtain ⟨b4, hpb4, w2, hww2, h⟩ := M.new_use h
    refine LE.r (v := (SV.v (SV.mk (some b4) 0 0))) (Wn.no rfl) rfl (R.bsl (by exact Ls.nil) (fun w => bs28_0  w) hpb4 hww2) ?_
    refine LE.p (v := (SV.v p0)) (Wn.no rfl) rfl (R.move rfl) ?_
    obtain ⟨s5, w6, h7, h⟩ := h
    refine LE.r (v := (SV.v s5)) (Wn.no rfl) rfl (R.app (s := (SV.mk (some b4) 0 0)) (r := s5) rfl rfl h7) ?_
    refine LE.p (v := (SV.v s5)) (Wn.no rfl) rfl (R.assign rfl) ?_
    refine LE.nil ?_
    refine WE.ret ?_
    exact ⟨_, (Res.tmp rfl Res.nil), _, rfl, h⟩
/-- The formula of signpost.signpostkeep.Prefix. -/
def F27 (p0 : Int) (p1 : Int) (K : Int → Int → World → Prop) (w0 : World) : Prop :=
M.new (.cells #[(Value.int .u32 (0 : Int)), (Value.int .i64 (0 : Int))] 33) w0 fun b2 w1 =>
Calls Try.prog 15 #[(Value.int .i64 p1), (Value.int .i64 (0 : Int)), (Value.int .i64 (6 : Int))] w1 (R15 fun r3 w4 =>
Calls Try.prog 12 #[(Value.int .u32 (bOr .u32 (167772160 : Int) (bShl .u32 (Int.tmod p0 (64 : Int)) (18 : Int)))), (Value.int .i64 (IntKind.i64.wrap ((8 : Int) + r3)))] w4 (R12 fun r5 r6 w7 =>
M.stA b2 [(Value.int .u32 r5), (Value.int .i64 r6)] w7 fun w8 =>
M.ld (Value.int .u32) b2 w8 fun t10 =>
M.ld (Value.int .i64) (b2.add 1) w8 fun t12 =>
K t10 t12 w8))
theorem F27_ok {w0 : World} {p0 : Int} {p1 : Int} {K : Int → Int → World → Prop} (h : F27 p0 p1 K w0) : Calls Try.prog 27 #[(Value.int .u32 p0), (Value.int .i64 p1)] w0 (R27 K) := by
  refine calls_of_WE (args := [(Value.int .u32 p0), (Value.int .i64 p1)]) (rs := [.cell 4 33]) Try.func27 rfl (N := 13) rfl rfl rfl rfl ?_
  refine WE.seq ?_
  refine WE.reg ?_
  obtain ⟨b2, hpb2, w1, hww1, h⟩ := M.new_use h
  refine LE.r (v := (Value.pointer (some b2))) (Wn.no rfl) rfl (R.alloc (cs := #[(Value.int .u32 (0 : Int)), (Value.int .i64 (0 : Int))]) ze33 rfl hpb2 hww1) ?_
  refine LE.nil ?_
  refine WE.seq ?_
  refine WE.reg ?_
  refine LE.p (v := (Value.int .u32 p0)) (Wn.no rfl) rfl (R.move rfl) ?_
  refine LE.p (v := (Value.int .u32 (Int.tmod p0 (64 : Int)))) (Wn.no rfl) rfl (R.rem rfl rfl (by decide)) ?_
  refine LE.p (v := (Value.int .u32 (bShl .u32 (Int.tmod p0 (64 : Int)) (18 : Int)))) (Wn.no rfl) rfl (R.shl rfl rfl (by decide)) ?_
  refine LE.p (v := (Value.int .u32 (bOr .u32 (167772160 : Int) (bShl .u32 (Int.tmod p0 (64 : Int)) (18 : Int))))) (Wn.no rfl) rfl (R.or rfl rfl) ?_
  refine LE.p (v := (Value.int .i64 p1)) (Wn.no rfl) rfl (R.move rfl) ?_
  refine LE.c (Wn.no rfl) rfl (R.call bd15 (Ls.cons rfl (Ls.cons rfl (Ls.cons rfl Ls.nil))) rfl) (Calls.mono h ?_)
  rintro _ w4 ⟨r3, rfl, h⟩
  refine ⟨_, rfl, ?_⟩
  refine LE.p (v := (Value.int .i64 (IntKind.i64.wrap ((8 : Int) + r3)))) (Wn.no rfl) rfl (R.add rfl rfl) ?_
  refine LE.c (Wn.no rfl) rfl (R.call bd12 (Ls.cons rfl (Ls.cons rfl Ls.nil)) rfl) (Calls.mono h ?_)
  rintro _ w7 ⟨r5, r6, rfl, h⟩
  refine ⟨_, rfl, ?_⟩
  obtain ⟨w8, hww8, h9, h⟩ := M.stA_use h
  refine LE.s (Wn.no rfl) rfl (R.stA (a := b2) [(Value.int .u32 r5), (Value.int .i64 r6)] sz33 rfl rfl rfl (by simp [Value.oneCell']) h9 hww8) ?_
  refine LE.nil ?_
  refine WE.ret ?_
  obtain ⟨t10, h11, h⟩ := h
  obtain ⟨t12, h13, h⟩ := h
  exact ⟨_, (Res.cell rfl (R.ldCellA ag33 sz33 rfl (Cs.cons h11 (Cs.cons h13 Cs.nil))) Res.nil), _, _, rfl, h⟩
end Go.Proofs.Ytnfmkedblnajlaa
