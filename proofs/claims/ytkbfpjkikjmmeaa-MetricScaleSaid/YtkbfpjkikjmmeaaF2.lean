/-
  Printed by gen.py: the formula of each function, and that it holds of the function.
-/
import Derived.Test.YtkbfpjkikjmmeaaTy
namespace Go.Proofs.Ytkbfpjkikjmmeaa
set_option linter.unusedVariables false
set_option linter.unusedSimpArgs false
open Go.Sp
set_option linter.unusedVariables false
/-- The formula of signpost.signpostlaw2.MetricRules. -/
def F8 (p0 : Nat) (p1 : Nat) (p2 : Nat) (K : Bool → World → Prop) (w0 : World) : Prop :=
Calls Try.prog 15 #[(Value.float .f64 p0), (Value.float .f64 p1)] w0 (R15 fun r1 w2 =>
M.join (fun (x4 : Bool) (w22 : World) => 
M.ite x4 (
K false w22) (
M.join (fun (x29 : Bool) (w106 : World) => 
M.ite x29 (
K false w106) (
M.join (fun (x113 : Bool) (w124 : World) => 
M.ite x113 (
K false w124) (
Calls Try.prog 24 #[(Value.float .f64 p0)] w124 (R24 fun r128 w129 =>
Calls Try.prog 17 #[(Value.int .u64 r128)] w129 (R17 fun r130 r131 w132 =>
M.join (fun (x134 : Bool) (w154 : World) => 
K x134 w154) fun J133 => 
M.ite r131 (
Calls Try.prog 28 #[(Value.float .f64 p0)] w132 (R28 fun r136 w137 =>
Calls Try.prog 21 #[(Value.float .f64 r130), (Value.float .f64 r136)] w137 (R21 fun r138 w139 =>
M.ite r138 (
Calls Try.prog 25 #[(Value.float .f64 p0), (Value.float .f64 r130)] w139 (R25 fun r141 w142 =>
M.ite r141 (
Calls Try.prog 15 #[(Value.float .f64 p0), (Value.float .f64 (0 : Nat))] w142 (R15 fun r144 w145 =>
Calls Try.prog 28 #[(Value.float .f64 p0)] w145 (R28 fun r146 w147 =>
Calls Try.prog 21 #[(Value.float .f64 r144), (Value.float .f64 r146)] w147 (R21 fun r148 w149 =>
M.ite r148 (
Calls Try.prog 12 #[] w149 (R12 fun r151 w152 =>
J133 r151 w152)) (
J133 false w149))))) (
J133 false w142))) (
J133 false w139)))) (
J133 false w132))))) fun J112 => 
Calls Try.prog 23 #[(Value.float .f64 p0), (Value.float .f64 p1)] w106 (R23 fun r114 w115 =>
M.ite r114 (
Calls Try.prog 15 #[(Value.float .f64 p1), (Value.float .f64 p2)] w115 (R15 fun r117 w118 =>
Calls Try.prog 15 #[(Value.float .f64 p0), (Value.float .f64 p2)] w118 (R15 fun r119 w120 =>
Calls Try.prog 23 #[(Value.float .f64 r117), (Value.float .f64 r119)] w120 (R23 fun r121 w122 =>
J112 r121 w122)))) (
J112 false w115)))) fun J28 => 
Calls Try.prog 23 #[(Value.float .f64 p0), (Value.float .f64 p1)] w22 (R23 fun r30 w31 =>
M.ite r30 (
Calls Try.prog 23 #[(Value.float .f64 p1), (Value.float .f64 p0)] w31 (R23 fun r33 w34 =>
M.ite r33 (
J28 true w34) (
Calls Try.prog 25 #[(Value.float .f64 p0), (Value.float .f64 p1)] w34 (R25 fun r36 w37 =>
M.ite r36 (
J28 true w37) (
Calls Try.prog 23 #[(Value.float .f64 p0), (Value.float .f64 p1)] w37 (R23 fun r39 w40 =>
M.ite (!r39) (
Calls Try.prog 23 #[(Value.float .f64 p1), (Value.float .f64 p0)] w40 (R23 fun r42 w43 =>
M.ite (!r42) (
Calls Try.prog 25 #[(Value.float .f64 p0), (Value.float .f64 p1)] w43 (R25 fun r45 w46 =>
M.ite (!r45) (
J28 true w46) (
Calls Try.prog 23 #[(Value.float .f64 p0), (Value.float .f64 p1)] w46 (R23 fun r48 w49 =>
M.ite r48 (
Calls Try.prog 23 #[(Value.float .f64 p1), (Value.float .f64 p2)] w49 (R23 fun r51 w52 =>
M.ite r51 (
Calls Try.prog 23 #[(Value.float .f64 p0), (Value.float .f64 p2)] w52 (R23 fun r54 w55 =>
J28 (!r54) w55)) (
J28 false w52))) (
J28 false w49))))) (
Calls Try.prog 23 #[(Value.float .f64 p0), (Value.float .f64 p1)] w43 (R23 fun r56 w57 =>
M.ite r56 (
Calls Try.prog 23 #[(Value.float .f64 p1), (Value.float .f64 p2)] w57 (R23 fun r59 w60 =>
M.ite r59 (
Calls Try.prog 23 #[(Value.float .f64 p0), (Value.float .f64 p2)] w60 (R23 fun r62 w63 =>
J28 (!r62) w63)) (
J28 false w60))) (
J28 false w57))))) (
Calls Try.prog 23 #[(Value.float .f64 p0), (Value.float .f64 p1)] w40 (R23 fun r64 w65 =>
M.ite r64 (
Calls Try.prog 23 #[(Value.float .f64 p1), (Value.float .f64 p2)] w65 (R23 fun r67 w68 =>
M.ite r67 (
Calls Try.prog 23 #[(Value.float .f64 p0), (Value.float .f64 p2)] w68 (R23 fun r70 w71 =>
J28 (!r70) w71)) (
J28 false w68))) (
J28 false w65))))))))) (
Calls Try.prog 23 #[(Value.float .f64 p0), (Value.float .f64 p1)] w31 (R23 fun r72 w73 =>
M.ite (!r72) (
Calls Try.prog 23 #[(Value.float .f64 p1), (Value.float .f64 p0)] w73 (R23 fun r75 w76 =>
M.ite (!r75) (
Calls Try.prog 25 #[(Value.float .f64 p0), (Value.float .f64 p1)] w76 (R25 fun r78 w79 =>
M.ite (!r78) (
J28 true w79) (
Calls Try.prog 23 #[(Value.float .f64 p0), (Value.float .f64 p1)] w79 (R23 fun r81 w82 =>
M.ite r81 (
Calls Try.prog 23 #[(Value.float .f64 p1), (Value.float .f64 p2)] w82 (R23 fun r84 w85 =>
M.ite r84 (
Calls Try.prog 23 #[(Value.float .f64 p0), (Value.float .f64 p2)] w85 (R23 fun r87 w88 =>
J28 (!r87) w88)) (
J28 false w85))) (
J28 false w82))))) (
Calls Try.prog 23 #[(Value.float .f64 p0), (Value.float .f64 p1)] w76 (R23 fun r89 w90 =>
M.ite r89 (
Calls Try.prog 23 #[(Value.float .f64 p1), (Value.float .f64 p2)] w90 (R23 fun r92 w93 =>
M.ite r92 (
Calls Try.prog 23 #[(Value.float .f64 p0), (Value.float .f64 p2)] w93 (R23 fun r95 w96 =>
J28 (!r95) w96)) (
J28 false w93))) (
J28 false w90))))) (
Calls Try.prog 23 #[(Value.float .f64 p0), (Value.float .f64 p1)] w73 (R23 fun r97 w98 =>
M.ite r97 (
Calls Try.prog 23 #[(Value.float .f64 p1), (Value.float .f64 p2)] w98 (R23 fun r100 w101 =>
M.ite r100 (
Calls Try.prog 23 #[(Value.float .f64 p0), (Value.float .f64 p2)] w101 (R23 fun r103 w104 =>
J28 (!r103) w104)) (
J28 false w101))) (
J28 false w98)))))))) fun J3 => 
Calls Try.prog 15 #[(Value.float .f64 p1), (Value.float .f64 p0)] w2 (R15 fun r5 w6 =>
Calls Try.prog 21 #[(Value.float .f64 r1), (Value.float .f64 r5)] w6 (R21 fun r7 w8 =>
M.ite (!r7) (
J3 true w8) (
Calls Try.prog 23 #[(Value.float .f64 r1), (Value.float .f64 p0)] w8 (R23 fun r10 w11 =>
M.ite r10 (
J3 true w11) (
Calls Try.prog 23 #[(Value.float .f64 r1), (Value.float .f64 p1)] w11 (R23 fun r13 w14 =>
M.ite r13 (
J3 true w14) (
Calls Try.prog 26 #[(Value.float .f64 r1)] w14 (R26 fun r16 w17 =>
M.ite (!r16) (
J3 true w17) (
Calls Try.prog 27 #[(Value.float .f64 r1)] w17 (R27 fun r19 w20 =>
J3 r19 w20)))))))))))
theorem F8_ok {w0 : World} {p0 : Nat} {p1 : Nat} {p2 : Nat} {K : Bool → World → Prop} (h : F8 p0 p1 p2 K w0) : Calls Try.prog 8 #[(Value.float .f64 p0), (Value.float .f64 p1), (Value.float .f64 p2)] w0 (R8 K) := by
  refine calls_of_WE (args := [(Value.float .f64 p0), (Value.float .f64 p1), (Value.float .f64 p2)]) (rs := [.tmp 6]) Try.func8 rfl (N := 125) rfl rfl rfl rfl ?_
  refine WE.seq ?_
  refine WE.reg ?_
  refine LE.p (v := (Value.bool false)) (Wn.no rfl) rfl (R.assign rfl) ?_
  refine LE.nil ?_
  refine WE.seq ?_
  refine WE.reg ?_
  refine LE.p (v := (Value.float .f64 p0)) (Wn.no rfl) rfl (R.move rfl) ?_
  refine LE.p (v := (Value.float .f64 p1)) (Wn.no rfl) rfl (R.move rfl) ?_
  refine LE.c (Wn.no rfl) rfl (R.call bd15 (Ls.cons rfl (Ls.cons rfl Ls.nil)) rfl) (Calls.mono h ?_)
  rintro _ w2 ⟨r1, rfl, h⟩
  refine ⟨_, rfl, ?_⟩
  refine LE.p (v := (Value.float .f64 r1)) (Wn.no rfl) rfl (R.assign rfl) ?_
  refine LE.nil ?_
  refine WE.seq ?_
  refine WE.seq ?_
  obtain ⟨J3, hJ3, h⟩ := M.join_use h
  refine WE.regJ (fun e w => ∃ (x4 : Bool), J3 x4 w ∧ e 0 = (Value.float .f64 p0) ∧ e 1 = (Value.float .f64 p1) ∧ e 2 = (Value.float .f64 p2) ∧ e 37 = (Value.bool x4)) ?_ ?_
  · clear hJ3
    refine LE.p (v := (Value.float .f64 r1)) (Wn.no rfl) rfl (R.move rfl) ?_
    refine LE.p (v := (Value.float .f64 p1)) (Wn.no rfl) rfl (R.move rfl) ?_
    refine LE.p (v := (Value.float .f64 p0)) (Wn.no rfl) rfl (R.move rfl) ?_
    refine LE.c (Wn.no rfl) rfl (R.call bd15 (Ls.cons rfl (Ls.cons rfl Ls.nil)) rfl) (Calls.mono h ?_)
    rintro _ w6 ⟨r5, rfl, h⟩
    refine ⟨_, rfl, ?_⟩
    refine LE.c (Wn.no rfl) rfl (R.call bd21 (Ls.cons rfl (Ls.cons rfl Ls.nil)) rfl) (Calls.mono h ?_)
    rintro _ w8 ⟨r7, rfl, h⟩
    refine ⟨_, rfl, ?_⟩
    refine LE.p (v := (Value.bool (!r7))) (Wn.no rfl) rfl (R.not rfl) ?_
    refine LE.p (v := (Value.bool (!r7))) (Wn.no rfl) rfl (R.move rfl) ?_
    rcases M.ite_use h with ⟨hb9, h⟩ | ⟨hb9, h⟩
    · refine LE.u (Un.no 6 19 false rfl rfl rfl (congrArg Value.bool hb9)) ?_
      refine LE.u (Un.no 6 19 false rfl rfl rfl (congrArg Value.bool hb9)) ?_
      refine LE.u (Un.no 6 19 false rfl rfl rfl (congrArg Value.bool hb9)) ?_
      refine LE.p (v := (Value.bool true)) (Wn.no rfl) rfl (R.pickT (congrArg Value.bool hb9) rfl) ?_
      refine LE.p (v := (Value.bool true)) (Wn.no rfl) rfl (R.move rfl) ?_
      refine LE.u (Un.no 11 24 false rfl rfl rfl rfl) ?_
      refine LE.u (Un.no 11 24 false rfl rfl rfl rfl) ?_
      refine LE.u (Un.no 11 24 false rfl rfl rfl rfl) ?_
      refine LE.p (v := (Value.bool true)) (Wn.no rfl) rfl (R.pickT rfl rfl) ?_
      refine LE.p (v := (Value.bool true)) (Wn.no rfl) rfl (R.move rfl) ?_
      refine LE.u (Un.no 16 29 false rfl rfl rfl rfl) ?_
      refine LE.u (Un.no 16 29 false rfl rfl rfl rfl) ?_
      refine LE.u (Un.no 16 29 false rfl rfl rfl rfl) ?_
      refine LE.p (v := (Value.bool true)) (Wn.no rfl) rfl (R.pickT rfl rfl) ?_
      refine LE.p (v := (Value.bool true)) (Wn.no rfl) rfl (R.move rfl) ?_
      refine LE.u (Un.no 21 34 false rfl rfl rfl rfl) ?_
      refine LE.u (Un.no 21 34 false rfl rfl rfl rfl) ?_
      refine LE.p (v := (Value.bool true)) (Wn.no rfl) rfl (R.pickT rfl rfl) ?_
      refine LE.nil ?_
      exact ⟨_, h, rfl, rfl, rfl, rfl⟩
    · refine LE.p (v := (Value.float .f64 r1)) (Wn.yes 6 19 false rfl rfl rfl (congrArg Value.bool hb9)) rfl (R.move rfl) ?_
      refine LE.p (v := (Value.float .f64 p0)) (Wn.yes 6 19 false rfl rfl rfl (congrArg Value.bool hb9)) rfl (R.move rfl) ?_
      refine LE.c (Wn.yes 6 19 false rfl rfl rfl (congrArg Value.bool hb9)) rfl (R.call bd23 (Ls.cons rfl (Ls.cons rfl Ls.nil)) rfl) (Calls.mono h ?_)
      rintro _ w11 ⟨r10, rfl, h⟩
      refine ⟨_, rfl, ?_⟩
      refine LE.p (v := (Value.bool r10)) (Wn.no rfl) rfl (R.pickF (congrArg Value.bool hb9) rfl) ?_
      refine LE.p (v := (Value.bool r10)) (Wn.no rfl) rfl (R.move rfl) ?_
      rcases M.ite_use h with ⟨hb12, h⟩ | ⟨hb12, h⟩
      · refine LE.u (Un.no 11 24 false rfl rfl rfl (congrArg Value.bool hb12)) ?_
        refine LE.u (Un.no 11 24 false rfl rfl rfl (congrArg Value.bool hb12)) ?_
        refine LE.u (Un.no 11 24 false rfl rfl rfl (congrArg Value.bool hb12)) ?_
        refine LE.p (v := (Value.bool true)) (Wn.no rfl) rfl (R.pickT (congrArg Value.bool hb12) rfl) ?_
        refine LE.p (v := (Value.bool true)) (Wn.no rfl) rfl (R.move rfl) ?_
        refine LE.u (Un.no 16 29 false rfl rfl rfl rfl) ?_
        refine LE.u (Un.no 16 29 false rfl rfl rfl rfl) ?_
        refine LE.u (Un.no 16 29 false rfl rfl rfl rfl) ?_
        refine LE.p (v := (Value.bool true)) (Wn.no rfl) rfl (R.pickT rfl rfl) ?_
        refine LE.p (v := (Value.bool true)) (Wn.no rfl) rfl (R.move rfl) ?_
        refine LE.u (Un.no 21 34 false rfl rfl rfl rfl) ?_
        refine LE.u (Un.no 21 34 false rfl rfl rfl rfl) ?_
        refine LE.p (v := (Value.bool true)) (Wn.no rfl) rfl (R.pickT rfl rfl) ?_
        refine LE.nil ?_
        exact ⟨_, h, rfl, rfl, rfl, rfl⟩
      · refine LE.p (v := (Value.float .f64 r1)) (Wn.yes 11 24 false rfl rfl rfl (congrArg Value.bool hb12)) rfl (R.move rfl) ?_
        refine LE.p (v := (Value.float .f64 p1)) (Wn.yes 11 24 false rfl rfl rfl (congrArg Value.bool hb12)) rfl (R.move rfl) ?_
        refine LE.c (Wn.yes 11 24 false rfl rfl rfl (congrArg Value.bool hb12)) rfl (R.call bd23 (Ls.cons rfl (Ls.cons rfl Ls.nil)) rfl) (Calls.mono h ?_)
        rintro _ w14 ⟨r13, rfl, h⟩
        refine ⟨_, rfl, ?_⟩
        refine LE.p (v := (Value.bool r13)) (Wn.no rfl) rfl (R.pickF (congrArg Value.bool hb12) rfl) ?_
        refine LE.p (v := (Value.bool r13)) (Wn.no rfl) rfl (R.move rfl) ?_
        rcases M.ite_use h with ⟨hb15, h⟩ | ⟨hb15, h⟩
        · refine LE.u (Un.no 16 29 false rfl rfl rfl (congrArg Value.bool hb15)) ?_
          refine LE.u (Un.no 16 29 false rfl rfl rfl (congrArg Value.bool hb15)) ?_
          refine LE.u (Un.no 16 29 false rfl rfl rfl (congrArg Value.bool hb15)) ?_
          refine LE.p (v := (Value.bool true)) (Wn.no rfl) rfl (R.pickT (congrArg Value.bool hb15) rfl) ?_
          refine LE.p (v := (Value.bool true)) (Wn.no rfl) rfl (R.move rfl) ?_
          refine LE.u (Un.no 21 34 false rfl rfl rfl rfl) ?_
          refine LE.u (Un.no 21 34 false rfl rfl rfl rfl) ?_
          refine LE.p (v := (Value.bool true)) (Wn.no rfl) rfl (R.pickT rfl rfl) ?_
          refine LE.nil ?_
          exact ⟨_, h, rfl, rfl, rfl, rfl⟩
        · refine LE.p (v := (Value.float .f64 r1)) (Wn.yes 16 29 false rfl rfl rfl (congrArg Value.bool hb15)) rfl (R.move rfl) ?_
          refine LE.c (Wn.yes 16 29 false rfl rfl rfl (congrArg Value.bool hb15)) rfl (R.call bd26 (Ls.cons rfl Ls.nil) rfl) (Calls.mono h ?_)
          rintro _ w17 ⟨r16, rfl, h⟩
          refine ⟨_, rfl, ?_⟩
          refine LE.p (v := (Value.bool (!r16))) (Wn.yes 16 29 false rfl rfl rfl (congrArg Value.bool hb15)) rfl (R.not rfl) ?_
          refine LE.p (v := (Value.bool (!r16))) (Wn.no rfl) rfl (R.pickF (congrArg Value.bool hb15) rfl) ?_
          refine LE.p (v := (Value.bool (!r16))) (Wn.no rfl) rfl (R.move rfl) ?_
          rcases M.ite_use h with ⟨hb18, h⟩ | ⟨hb18, h⟩
          · refine LE.u (Un.no 21 34 false rfl rfl rfl (congrArg Value.bool hb18)) ?_
            refine LE.u (Un.no 21 34 false rfl rfl rfl (congrArg Value.bool hb18)) ?_
            refine LE.p (v := (Value.bool true)) (Wn.no rfl) rfl (R.pickT (congrArg Value.bool hb18) rfl) ?_
            refine LE.nil ?_
            exact ⟨_, h, rfl, rfl, rfl, rfl⟩
          · refine LE.p (v := (Value.float .f64 r1)) (Wn.yes 21 34 false rfl rfl rfl (congrArg Value.bool hb18)) rfl (R.move rfl) ?_
            refine LE.c (Wn.yes 21 34 false rfl rfl rfl (congrArg Value.bool hb18)) rfl (R.call bd27 (Ls.cons rfl Ls.nil) rfl) (Calls.mono h ?_)
            rintro _ w20 ⟨r19, rfl, h⟩
            refine ⟨_, rfl, ?_⟩
            refine LE.p (v := (Value.bool r19)) (Wn.no rfl) rfl (R.pickF (congrArg Value.bool hb18) rfl) ?_
            refine LE.nil ?_
            exact ⟨_, h, rfl, rfl, rfl, rfl⟩
  · rintro e21 w22 ⟨x4, h, f23, f24, f25, f26⟩
    subst hJ3
    refine WE.condT rfl (b := x4) f26 ?_ ?_
    · intro hb27
      replace h := M.ite_t h hb27
      refine WE.seq ?_
      refine WE.reg ?_
      refine LE.p (v := (Value.bool false)) (Wn.no rfl) rfl (R.assign rfl) ?_
      refine LE.nil ?_
      refine WE.ret ?_
      exact ⟨_, (Res.tmp rfl Res.nil), _, rfl, h⟩
    · intro hb27
      replace h := M.ite_f h hb27
      refine WE.skip ?_
      refine WE.seq ?_
      refine WE.seq ?_
      obtain ⟨J28, hJ28, h⟩ := M.join_use h
      refine WE.regJ (fun e w => ∃ (x29 : Bool), J28 x29 w ∧ e 0 = (Value.float .f64 p0) ∧ e 1 = (Value.float .f64 p1) ∧ e 2 = (Value.float .f64 p2) ∧ e 84 = (Value.bool x29)) ?_ ?_
      · clear hJ28
        refine LE.p (v := (Value.float .f64 p0)) (Wn.no rfl) rfl (R.move f23) ?_
        refine LE.p (v := (Value.float .f64 p1)) (Wn.no rfl) rfl (R.move f24) ?_
        refine LE.c (Wn.no rfl) rfl (R.call bd23 (Ls.cons rfl (Ls.cons rfl Ls.nil)) rfl) (Calls.mono h ?_)
        rintro _ w31 ⟨r30, rfl, h⟩
        refine ⟨_, rfl, ?_⟩
        refine LE.p (v := (Value.bool r30)) (Wn.no rfl) rfl (R.move rfl) ?_
        rcases M.ite_use h with ⟨hb32, h⟩ | ⟨hb32, h⟩
        · refine LE.p (v := (Value.float .f64 p1)) (Wn.yes 3 41 true rfl rfl rfl (congrArg Value.bool hb32)) rfl (R.move f24) ?_
          refine LE.p (v := (Value.float .f64 p0)) (Wn.yes 3 41 true rfl rfl rfl (congrArg Value.bool hb32)) rfl (R.move f23) ?_
          refine LE.c (Wn.yes 3 41 true rfl rfl rfl (congrArg Value.bool hb32)) rfl (R.call bd23 (Ls.cons rfl (Ls.cons rfl Ls.nil)) rfl) (Calls.mono h ?_)
          rintro _ w34 ⟨r33, rfl, h⟩
          refine ⟨_, rfl, ?_⟩
          refine LE.p (v := (Value.bool r33)) (Wn.yes 3 41 true rfl rfl rfl (congrArg Value.bool hb32)) rfl (R.move rfl) ?_
          rcases M.ite_use h with ⟨hb35, h⟩ | ⟨hb35, h⟩
          · refine LE.u (Un.no 7 45 false rfl rfl rfl (congrArg Value.bool hb35)) ?_
            refine LE.u (Un.no 7 45 false rfl rfl rfl (congrArg Value.bool hb35)) ?_
            refine LE.u (Un.no 7 45 false rfl rfl rfl (congrArg Value.bool hb35)) ?_
            refine LE.p (v := (Value.bool true)) (Wn.yes 3 41 true rfl rfl rfl (congrArg Value.bool hb32)) rfl (R.pickT (congrArg Value.bool hb35) rfl) ?_
            refine LE.p (v := (Value.bool true)) (Wn.no rfl) rfl (R.pickT (congrArg Value.bool hb32) rfl) ?_
            refine LE.p (v := (Value.bool true)) (Wn.no rfl) rfl (R.move rfl) ?_
            refine LE.u (Un.no 13 51 false rfl rfl rfl rfl) ?_
            refine LE.u (Un.no 13 51 false rfl rfl rfl rfl) ?_
            refine LE.u (Un.no 13 51 false rfl rfl rfl rfl) ?_
            refine LE.u (Un.no 13 51 false rfl rfl rfl rfl) ?_
            refine LE.u (Un.no 13 51 false rfl rfl rfl rfl) ?_
            refine LE.u (Un.un 18 56 true rfl rfl rfl rfl) ?_
            refine LE.u (Un.un 18 56 true rfl rfl rfl rfl) ?_
            refine LE.u (Un.un 18 56 true rfl rfl rfl rfl) ?_
            refine LE.u (Un.un 18 56 true rfl rfl rfl rfl) ?_
            refine LE.u (Un.no 13 51 false rfl rfl rfl rfl) ?_
            refine LE.u (Un.no 13 51 false rfl rfl rfl rfl) ?_
            refine LE.u (Un.un 24 62 true rfl rfl rfl rfl) ?_
            refine LE.u (Un.un 24 62 true rfl rfl rfl rfl) ?_
            refine LE.u (Un.un 24 62 true rfl rfl rfl rfl) ?_
            refine LE.u (Un.un 24 62 true rfl rfl rfl rfl) ?_
            refine LE.u (Un.no 13 51 false rfl rfl rfl rfl) ?_
            refine LE.p (v := (Value.bool true)) (Wn.no rfl) rfl (R.pickT rfl rfl) ?_
            refine LE.p (v := (Value.bool true)) (Wn.no rfl) rfl (R.move rfl) ?_
            refine LE.u (Un.no 31 69 false rfl rfl rfl rfl) ?_
            refine LE.u (Un.no 31 69 false rfl rfl rfl rfl) ?_
            refine LE.u (Un.no 31 69 false rfl rfl rfl rfl) ?_
            refine LE.u (Un.no 31 69 false rfl rfl rfl rfl) ?_
            refine LE.u (Un.un 35 73 true rfl rfl rfl rfl) ?_
            refine LE.u (Un.un 35 73 true rfl rfl rfl rfl) ?_
            refine LE.u (Un.un 35 73 true rfl rfl rfl rfl) ?_
            refine LE.u (Un.no 31 69 false rfl rfl rfl rfl) ?_
            refine LE.u (Un.no 31 69 false rfl rfl rfl rfl) ?_
            refine LE.u (Un.un 40 78 true rfl rfl rfl rfl) ?_
            refine LE.u (Un.un 40 78 true rfl rfl rfl rfl) ?_
            refine LE.u (Un.un 40 78 true rfl rfl rfl rfl) ?_
            refine LE.u (Un.un 40 78 true rfl rfl rfl rfl) ?_
            refine LE.u (Un.no 31 69 false rfl rfl rfl rfl) ?_
            refine LE.p (v := (Value.bool true)) (Wn.no rfl) rfl (R.pickT rfl rfl) ?_
            refine LE.nil ?_
            exact ⟨_, h, f23, f24, f25, rfl⟩
          · refine LE.p (v := (Value.float .f64 p0)) (Wn.yes 7 45 false rfl rfl rfl (congrArg Value.bool hb35)) rfl (R.move f23) ?_
            refine LE.p (v := (Value.float .f64 p1)) (Wn.yes 7 45 false rfl rfl rfl (congrArg Value.bool hb35)) rfl (R.move f24) ?_
            refine LE.c (Wn.yes 7 45 false rfl rfl rfl (congrArg Value.bool hb35)) rfl (R.call bd25 (Ls.cons rfl (Ls.cons rfl Ls.nil)) rfl) (Calls.mono h ?_)
            rintro _ w37 ⟨r36, rfl, h⟩
            refine ⟨_, rfl, ?_⟩
            refine LE.p (v := (Value.bool r36)) (Wn.yes 3 41 true rfl rfl rfl (congrArg Value.bool hb32)) rfl (R.pickF (congrArg Value.bool hb35) rfl) ?_
            refine LE.p (v := (Value.bool r36)) (Wn.no rfl) rfl (R.pickT (congrArg Value.bool hb32) rfl) ?_
            refine LE.p (v := (Value.bool r36)) (Wn.no rfl) rfl (R.move rfl) ?_
            rcases M.ite_use h with ⟨hb38, h⟩ | ⟨hb38, h⟩
            · refine LE.u (Un.no 13 51 false rfl rfl rfl (congrArg Value.bool hb38)) ?_
              refine LE.u (Un.no 13 51 false rfl rfl rfl (congrArg Value.bool hb38)) ?_
              refine LE.u (Un.no 13 51 false rfl rfl rfl (congrArg Value.bool hb38)) ?_
              refine LE.u (Un.no 13 51 false rfl rfl rfl (congrArg Value.bool hb38)) ?_
              refine LE.u (Un.no 13 51 false rfl rfl rfl (congrArg Value.bool hb38)) ?_
              refine LE.u (Un.un 18 56 true rfl rfl rfl rfl) ?_
              refine LE.u (Un.un 18 56 true rfl rfl rfl rfl) ?_
              refine LE.u (Un.un 18 56 true rfl rfl rfl rfl) ?_
              refine LE.u (Un.un 18 56 true rfl rfl rfl rfl) ?_
              refine LE.u (Un.no 13 51 false rfl rfl rfl (congrArg Value.bool hb38)) ?_
              refine LE.u (Un.no 13 51 false rfl rfl rfl (congrArg Value.bool hb38)) ?_
              refine LE.u (Un.un 24 62 true rfl rfl rfl rfl) ?_
              refine LE.u (Un.un 24 62 true rfl rfl rfl rfl) ?_
              refine LE.u (Un.un 24 62 true rfl rfl rfl rfl) ?_
              refine LE.u (Un.un 24 62 true rfl rfl rfl rfl) ?_
              refine LE.u (Un.no 13 51 false rfl rfl rfl (congrArg Value.bool hb38)) ?_
              refine LE.p (v := (Value.bool true)) (Wn.no rfl) rfl (R.pickT (congrArg Value.bool hb38) rfl) ?_
              refine LE.p (v := (Value.bool true)) (Wn.no rfl) rfl (R.move rfl) ?_
              refine LE.u (Un.no 31 69 false rfl rfl rfl rfl) ?_
              refine LE.u (Un.no 31 69 false rfl rfl rfl rfl) ?_
              refine LE.u (Un.no 31 69 false rfl rfl rfl rfl) ?_
              refine LE.u (Un.no 31 69 false rfl rfl rfl rfl) ?_
              refine LE.u (Un.un 35 73 true rfl rfl rfl rfl) ?_
              refine LE.u (Un.un 35 73 true rfl rfl rfl rfl) ?_
              refine LE.u (Un.un 35 73 true rfl rfl rfl rfl) ?_
              refine LE.u (Un.no 31 69 false rfl rfl rfl rfl) ?_
              refine LE.u (Un.no 31 69 false rfl rfl rfl rfl) ?_
              refine LE.u (Un.un 40 78 true rfl rfl rfl rfl) ?_
              refine LE.u (Un.un 40 78 true rfl rfl rfl rfl) ?_
              refine LE.u (Un.un 40 78 true rfl rfl rfl rfl) ?_
              refine LE.u (Un.un 40 78 true rfl rfl rfl rfl) ?_
              refine LE.u (Un.no 31 69 false rfl rfl rfl rfl) ?_
              refine LE.p (v := (Value.bool true)) (Wn.no rfl) rfl (R.pickT rfl rfl) ?_
              refine LE.nil ?_
              exact ⟨_, h, f23, f24, f25, rfl⟩
            · refine LE.p (v := (Value.float .f64 p0)) (Wn.yes 13 51 false rfl rfl rfl (congrArg Value.bool hb38)) rfl (R.move f23) ?_
              refine LE.p (v := (Value.float .f64 p1)) (Wn.yes 13 51 false rfl rfl rfl (congrArg Value.bool hb38)) rfl (R.move f24) ?_
              refine LE.c (Wn.yes 13 51 false rfl rfl rfl (congrArg Value.bool hb38)) rfl (R.call bd23 (Ls.cons rfl (Ls.cons rfl Ls.nil)) rfl) (Calls.mono h ?_)
              rintro _ w40 ⟨r39, rfl, h⟩
              refine ⟨_, rfl, ?_⟩
              refine LE.p (v := (Value.bool (!r39))) (Wn.yes 13 51 false rfl rfl rfl (congrArg Value.bool hb38)) rfl (R.not rfl) ?_
              refine LE.p (v := (Value.bool (!r39))) (Wn.yes 13 51 false rfl rfl rfl (congrArg Value.bool hb38)) rfl (R.move rfl) ?_
              rcases M.ite_use h with ⟨hb41, h⟩ | ⟨hb41, h⟩
              · refine LE.p (v := (Value.float .f64 p1)) (Wn.yes 18 56 true rfl rfl rfl (congrArg Value.bool hb41)) rfl (R.move f24) ?_
                refine LE.p (v := (Value.float .f64 p0)) (Wn.yes 18 56 true rfl rfl rfl (congrArg Value.bool hb41)) rfl (R.move f23) ?_
                refine LE.c (Wn.yes 18 56 true rfl rfl rfl (congrArg Value.bool hb41)) rfl (R.call bd23 (Ls.cons rfl (Ls.cons rfl Ls.nil)) rfl) (Calls.mono h ?_)
                rintro _ w43 ⟨r42, rfl, h⟩
                refine ⟨_, rfl, ?_⟩
                refine LE.p (v := (Value.bool (!r42))) (Wn.yes 18 56 true rfl rfl rfl (congrArg Value.bool hb41)) rfl (R.not rfl) ?_
                refine LE.p (v := (Value.bool (!r42))) (Wn.yes 13 51 false rfl rfl rfl (congrArg Value.bool hb38)) rfl (R.pickT (congrArg Value.bool hb41) rfl) ?_
                refine LE.p (v := (Value.bool (!r42))) (Wn.yes 13 51 false rfl rfl rfl (congrArg Value.bool hb38)) rfl (R.move rfl) ?_
                rcases M.ite_use h with ⟨hb44, h⟩ | ⟨hb44, h⟩
                · refine LE.p (v := (Value.float .f64 p0)) (Wn.yes 24 62 true rfl rfl rfl (congrArg Value.bool hb44)) rfl (R.move f23) ?_
                  refine LE.p (v := (Value.float .f64 p1)) (Wn.yes 24 62 true rfl rfl rfl (congrArg Value.bool hb44)) rfl (R.move f24) ?_
                  refine LE.c (Wn.yes 24 62 true rfl rfl rfl (congrArg Value.bool hb44)) rfl (R.call bd25 (Ls.cons rfl (Ls.cons rfl Ls.nil)) rfl) (Calls.mono h ?_)
                  rintro _ w46 ⟨r45, rfl, h⟩
                  refine ⟨_, rfl, ?_⟩
                  refine LE.p (v := (Value.bool (!r45))) (Wn.yes 24 62 true rfl rfl rfl (congrArg Value.bool hb44)) rfl (R.not rfl) ?_
                  refine LE.p (v := (Value.bool (!r45))) (Wn.yes 13 51 false rfl rfl rfl (congrArg Value.bool hb38)) rfl (R.pickT (congrArg Value.bool hb44) rfl) ?_
                  refine LE.p (v := (Value.bool (!r45))) (Wn.no rfl) rfl (R.pickF (congrArg Value.bool hb38) rfl) ?_
                  refine LE.p (v := (Value.bool (!r45))) (Wn.no rfl) rfl (R.move rfl) ?_
                  rcases M.ite_use h with ⟨hb47, h⟩ | ⟨hb47, h⟩
                  · refine LE.u (Un.no 31 69 false rfl rfl rfl (congrArg Value.bool hb47)) ?_
                    refine LE.u (Un.no 31 69 false rfl rfl rfl (congrArg Value.bool hb47)) ?_
                    refine LE.u (Un.no 31 69 false rfl rfl rfl (congrArg Value.bool hb47)) ?_
                    refine LE.u (Un.no 31 69 false rfl rfl rfl (congrArg Value.bool hb47)) ?_
                    refine LE.u (Un.un 35 73 true rfl rfl rfl rfl) ?_
                    refine LE.u (Un.un 35 73 true rfl rfl rfl rfl) ?_
                    refine LE.u (Un.un 35 73 true rfl rfl rfl rfl) ?_
                    refine LE.u (Un.no 31 69 false rfl rfl rfl (congrArg Value.bool hb47)) ?_
                    refine LE.u (Un.no 31 69 false rfl rfl rfl (congrArg Value.bool hb47)) ?_
                    refine LE.u (Un.un 40 78 true rfl rfl rfl rfl) ?_
                    refine LE.u (Un.un 40 78 true rfl rfl rfl rfl) ?_
                    refine LE.u (Un.un 40 78 true rfl rfl rfl rfl) ?_
                    refine LE.u (Un.un 40 78 true rfl rfl rfl rfl) ?_
                    refine LE.u (Un.no 31 69 false rfl rfl rfl (congrArg Value.bool hb47)) ?_
                    refine LE.p (v := (Value.bool true)) (Wn.no rfl) rfl (R.pickT (congrArg Value.bool hb47) rfl) ?_
                    refine LE.nil ?_
                    exact ⟨_, h, f23, f24, f25, rfl⟩
                  · refine LE.p (v := (Value.float .f64 p0)) (Wn.yes 31 69 false rfl rfl rfl (congrArg Value.bool hb47)) rfl (R.move f23) ?_
                    refine LE.p (v := (Value.float .f64 p1)) (Wn.yes 31 69 false rfl rfl rfl (congrArg Value.bool hb47)) rfl (R.move f24) ?_
                    refine LE.c (Wn.yes 31 69 false rfl rfl rfl (congrArg Value.bool hb47)) rfl (R.call bd23 (Ls.cons rfl (Ls.cons rfl Ls.nil)) rfl) (Calls.mono h ?_)
                    rintro _ w49 ⟨r48, rfl, h⟩
                    refine ⟨_, rfl, ?_⟩
                    refine LE.p (v := (Value.bool r48)) (Wn.yes 31 69 false rfl rfl rfl (congrArg Value.bool hb47)) rfl (R.move rfl) ?_
                    rcases M.ite_use h with ⟨hb50, h⟩ | ⟨hb50, h⟩
                    · refine LE.p (v := (Value.float .f64 p1)) (Wn.yes 35 73 true rfl rfl rfl (congrArg Value.bool hb50)) rfl (R.move f24) ?_
                      refine LE.p (v := (Value.float .f64 p2)) (Wn.yes 35 73 true rfl rfl rfl (congrArg Value.bool hb50)) rfl (R.move f25) ?_
                      refine LE.c (Wn.yes 35 73 true rfl rfl rfl (congrArg Value.bool hb50)) rfl (R.call bd23 (Ls.cons rfl (Ls.cons rfl Ls.nil)) rfl) (Calls.mono h ?_)
                      rintro _ w52 ⟨r51, rfl, h⟩
                      refine ⟨_, rfl, ?_⟩
                      refine LE.p (v := (Value.bool r51)) (Wn.yes 31 69 false rfl rfl rfl (congrArg Value.bool hb47)) rfl (R.pickT (congrArg Value.bool hb50) rfl) ?_
                      refine LE.p (v := (Value.bool r51)) (Wn.yes 31 69 false rfl rfl rfl (congrArg Value.bool hb47)) rfl (R.move rfl) ?_
                      rcases M.ite_use h with ⟨hb53, h⟩ | ⟨hb53, h⟩
                      · refine LE.p (v := (Value.float .f64 p0)) (Wn.yes 40 78 true rfl rfl rfl (congrArg Value.bool hb53)) rfl (R.move f23) ?_
                        refine LE.p (v := (Value.float .f64 p2)) (Wn.yes 40 78 true rfl rfl rfl (congrArg Value.bool hb53)) rfl (R.move f25) ?_
                        refine LE.c (Wn.yes 40 78 true rfl rfl rfl (congrArg Value.bool hb53)) rfl (R.call bd23 (Ls.cons rfl (Ls.cons rfl Ls.nil)) rfl) (Calls.mono h ?_)
                        rintro _ w55 ⟨r54, rfl, h⟩
                        refine ⟨_, rfl, ?_⟩
                        refine LE.p (v := (Value.bool (!r54))) (Wn.yes 40 78 true rfl rfl rfl (congrArg Value.bool hb53)) rfl (R.not rfl) ?_
                        refine LE.p (v := (Value.bool (!r54))) (Wn.yes 31 69 false rfl rfl rfl (congrArg Value.bool hb47)) rfl (R.pickT (congrArg Value.bool hb53) rfl) ?_
                        refine LE.p (v := (Value.bool (!r54))) (Wn.no rfl) rfl (R.pickF (congrArg Value.bool hb47) rfl) ?_
                        refine LE.nil ?_
                        exact ⟨_, h, f23, f24, f25, rfl⟩
                      · refine LE.u (Un.no 40 78 true rfl rfl rfl (congrArg Value.bool hb53)) ?_
                        refine LE.u (Un.no 40 78 true rfl rfl rfl (congrArg Value.bool hb53)) ?_
                        refine LE.u (Un.no 40 78 true rfl rfl rfl (congrArg Value.bool hb53)) ?_
                        refine LE.u (Un.no 40 78 true rfl rfl rfl (congrArg Value.bool hb53)) ?_
                        refine LE.p (v := (Value.bool false)) (Wn.yes 31 69 false rfl rfl rfl (congrArg Value.bool hb47)) rfl (R.pickF (congrArg Value.bool hb53) rfl) ?_
                        refine LE.p (v := (Value.bool false)) (Wn.no rfl) rfl (R.pickF (congrArg Value.bool hb47) rfl) ?_
                        refine LE.nil ?_
                        exact ⟨_, h, f23, f24, f25, rfl⟩
                    · refine LE.u (Un.no 35 73 true rfl rfl rfl (congrArg Value.bool hb50)) ?_
                      refine LE.u (Un.no 35 73 true rfl rfl rfl (congrArg Value.bool hb50)) ?_
                      refine LE.u (Un.no 35 73 true rfl rfl rfl (congrArg Value.bool hb50)) ?_
                      refine LE.p (v := (Value.bool false)) (Wn.yes 31 69 false rfl rfl rfl (congrArg Value.bool hb47)) rfl (R.pickF (congrArg Value.bool hb50) rfl) ?_
                      refine LE.p (v := (Value.bool false)) (Wn.yes 31 69 false rfl rfl rfl (congrArg Value.bool hb47)) rfl (R.move rfl) ?_
                      refine LE.u (Un.no 40 78 true rfl rfl rfl rfl) ?_
                      refine LE.u (Un.no 40 78 true rfl rfl rfl rfl) ?_
                      refine LE.u (Un.no 40 78 true rfl rfl rfl rfl) ?_
                      refine LE.u (Un.no 40 78 true rfl rfl rfl rfl) ?_
                      refine LE.p (v := (Value.bool false)) (Wn.yes 31 69 false rfl rfl rfl (congrArg Value.bool hb47)) rfl (R.pickF rfl rfl) ?_
                      refine LE.p (v := (Value.bool false)) (Wn.no rfl) rfl (R.pickF (congrArg Value.bool hb47) rfl) ?_
                      refine LE.nil ?_
                      exact ⟨_, h, f23, f24, f25, rfl⟩
                · refine LE.u (Un.no 24 62 true rfl rfl rfl (congrArg Value.bool hb44)) ?_
                  refine LE.u (Un.no 24 62 true rfl rfl rfl (congrArg Value.bool hb44)) ?_
                  refine LE.u (Un.no 24 62 true rfl rfl rfl (congrArg Value.bool hb44)) ?_
                  refine LE.u (Un.no 24 62 true rfl rfl rfl (congrArg Value.bool hb44)) ?_
                  refine LE.p (v := (Value.bool false)) (Wn.yes 13 51 false rfl rfl rfl (congrArg Value.bool hb38)) rfl (R.pickF (congrArg Value.bool hb44) rfl) ?_
                  refine LE.p (v := (Value.bool false)) (Wn.no rfl) rfl (R.pickF (congrArg Value.bool hb38) rfl) ?_
                  refine LE.p (v := (Value.bool false)) (Wn.no rfl) rfl (R.move rfl) ?_
                  refine LE.p (v := (Value.float .f64 p0)) (Wn.yes 31 69 false rfl rfl rfl rfl) rfl (R.move f23) ?_
                  refine LE.p (v := (Value.float .f64 p1)) (Wn.yes 31 69 false rfl rfl rfl rfl) rfl (R.move f24) ?_
                  refine LE.c (Wn.yes 31 69 false rfl rfl rfl rfl) rfl (R.call bd23 (Ls.cons rfl (Ls.cons rfl Ls.nil)) rfl) (Calls.mono h ?_)
                  rintro _ w57 ⟨r56, rfl, h⟩
                  refine ⟨_, rfl, ?_⟩
                  refine LE.p (v := (Value.bool r56)) (Wn.yes 31 69 false rfl rfl rfl rfl) rfl (R.move rfl) ?_
                  rcases M.ite_use h with ⟨hb58, h⟩ | ⟨hb58, h⟩
                  · refine LE.p (v := (Value.float .f64 p1)) (Wn.yes 35 73 true rfl rfl rfl (congrArg Value.bool hb58)) rfl (R.move f24) ?_
                    refine LE.p (v := (Value.float .f64 p2)) (Wn.yes 35 73 true rfl rfl rfl (congrArg Value.bool hb58)) rfl (R.move f25) ?_
                    refine LE.c (Wn.yes 35 73 true rfl rfl rfl (congrArg Value.bool hb58)) rfl (R.call bd23 (Ls.cons rfl (Ls.cons rfl Ls.nil)) rfl) (Calls.mono h ?_)
                    rintro _ w60 ⟨r59, rfl, h⟩
                    refine ⟨_, rfl, ?_⟩
                    refine LE.p (v := (Value.bool r59)) (Wn.yes 31 69 false rfl rfl rfl rfl) rfl (R.pickT (congrArg Value.bool hb58) rfl) ?_
                    refine LE.p (v := (Value.bool r59)) (Wn.yes 31 69 false rfl rfl rfl rfl) rfl (R.move rfl) ?_
                    rcases M.ite_use h with ⟨hb61, h⟩ | ⟨hb61, h⟩
                    · refine LE.p (v := (Value.float .f64 p0)) (Wn.yes 40 78 true rfl rfl rfl (congrArg Value.bool hb61)) rfl (R.move f23) ?_
                      refine LE.p (v := (Value.float .f64 p2)) (Wn.yes 40 78 true rfl rfl rfl (congrArg Value.bool hb61)) rfl (R.move f25) ?_
                      refine LE.c (Wn.yes 40 78 true rfl rfl rfl (congrArg Value.bool hb61)) rfl (R.call bd23 (Ls.cons rfl (Ls.cons rfl Ls.nil)) rfl) (Calls.mono h ?_)
                      rintro _ w63 ⟨r62, rfl, h⟩
                      refine ⟨_, rfl, ?_⟩
                      refine LE.p (v := (Value.bool (!r62))) (Wn.yes 40 78 true rfl rfl rfl (congrArg Value.bool hb61)) rfl (R.not rfl) ?_
                      refine LE.p (v := (Value.bool (!r62))) (Wn.yes 31 69 false rfl rfl rfl rfl) rfl (R.pickT (congrArg Value.bool hb61) rfl) ?_
                      refine LE.p (v := (Value.bool (!r62))) (Wn.no rfl) rfl (R.pickF rfl rfl) ?_
                      refine LE.nil ?_
                      exact ⟨_, h, f23, f24, f25, rfl⟩
                    · refine LE.u (Un.no 40 78 true rfl rfl rfl (congrArg Value.bool hb61)) ?_
                      refine LE.u (Un.no 40 78 true rfl rfl rfl (congrArg Value.bool hb61)) ?_
                      refine LE.u (Un.no 40 78 true rfl rfl rfl (congrArg Value.bool hb61)) ?_
                      refine LE.u (Un.no 40 78 true rfl rfl rfl (congrArg Value.bool hb61)) ?_
                      refine LE.p (v := (Value.bool false)) (Wn.yes 31 69 false rfl rfl rfl rfl) rfl (R.pickF (congrArg Value.bool hb61) rfl) ?_
                      refine LE.p (v := (Value.bool false)) (Wn.no rfl) rfl (R.pickF rfl rfl) ?_
                      refine LE.nil ?_
                      exact ⟨_, h, f23, f24, f25, rfl⟩
                  · refine LE.u (Un.no 35 73 true rfl rfl rfl (congrArg Value.bool hb58)) ?_
                    refine LE.u (Un.no 35 73 true rfl rfl rfl (congrArg Value.bool hb58)) ?_
                    refine LE.u (Un.no 35 73 true rfl rfl rfl (congrArg Value.bool hb58)) ?_
                    refine LE.p (v := (Value.bool false)) (Wn.yes 31 69 false rfl rfl rfl rfl) rfl (R.pickF (congrArg Value.bool hb58) rfl) ?_
                    refine LE.p (v := (Value.bool false)) (Wn.yes 31 69 false rfl rfl rfl rfl) rfl (R.move rfl) ?_
                    refine LE.u (Un.no 40 78 true rfl rfl rfl rfl) ?_
                    refine LE.u (Un.no 40 78 true rfl rfl rfl rfl) ?_
                    refine LE.u (Un.no 40 78 true rfl rfl rfl rfl) ?_
                    refine LE.u (Un.no 40 78 true rfl rfl rfl rfl) ?_
                    refine LE.p (v := (Value.bool false)) (Wn.yes 31 69 false rfl rfl rfl rfl) rfl (R.pickF rfl rfl) ?_
                    refine LE.p (v := (Value.bool false)) (Wn.no rfl) rfl (R.pickF rfl rfl) ?_
                    refine LE.nil ?_
                    exact ⟨_, h, f23, f24, f25, rfl⟩
              · refine LE.u (Un.no 18 56 true rfl rfl rfl (congrArg Value.bool hb41)) ?_
                refine LE.u (Un.no 18 56 true rfl rfl rfl (congrArg Value.bool hb41)) ?_
                refine LE.u (Un.no 18 56 true rfl rfl rfl (congrArg Value.bool hb41)) ?_
                refine LE.u (Un.no 18 56 true rfl rfl rfl (congrArg Value.bool hb41)) ?_
                refine LE.p (v := (Value.bool false)) (Wn.yes 13 51 false rfl rfl rfl (congrArg Value.bool hb38)) rfl (R.pickF (congrArg Value.bool hb41) rfl) ?_
                refine LE.p (v := (Value.bool false)) (Wn.yes 13 51 false rfl rfl rfl (congrArg Value.bool hb38)) rfl (R.move rfl) ?_
                refine LE.u (Un.no 24 62 true rfl rfl rfl rfl) ?_
                refine LE.u (Un.no 24 62 true rfl rfl rfl rfl) ?_
                refine LE.u (Un.no 24 62 true rfl rfl rfl rfl) ?_
                refine LE.u (Un.no 24 62 true rfl rfl rfl rfl) ?_
                refine LE.p (v := (Value.bool false)) (Wn.yes 13 51 false rfl rfl rfl (congrArg Value.bool hb38)) rfl (R.pickF rfl rfl) ?_
                refine LE.p (v := (Value.bool false)) (Wn.no rfl) rfl (R.pickF (congrArg Value.bool hb38) rfl) ?_
                refine LE.p (v := (Value.bool false)) (Wn.no rfl) rfl (R.move rfl) ?_
                refine LE.p (v := (Value.float .f64 p0)) (Wn.yes 31 69 false rfl rfl rfl rfl) rfl (R.move f23) ?_
                refine LE.p (v := (Value.float .f64 p1)) (Wn.yes 31 69 false rfl rfl rfl rfl) rfl (R.move f24) ?_
                refine LE.c (Wn.yes 31 69 false rfl rfl rfl rfl) rfl (R.call bd23 (Ls.cons rfl (Ls.cons rfl Ls.nil)) rfl) (Calls.mono h ?_)
                rintro _ w65 ⟨r64, rfl, h⟩
                refine ⟨_, rfl, ?_⟩
                refine LE.p (v := (Value.bool r64)) (Wn.yes 31 69 false rfl rfl rfl rfl) rfl (R.move rfl) ?_
                rcases M.ite_use h with ⟨hb66, h⟩ | ⟨hb66, h⟩
                · refine LE.p (v := (Value.float .f64 p1)) (Wn.yes 35 73 true rfl rfl rfl (congrArg Value.bool hb66)) rfl (R.move f24) ?_
                  refine LE.p (v := (Value.float .f64 p2)) (Wn.yes 35 73 true rfl rfl rfl (congrArg Value.bool hb66)) rfl (R.move f25) ?_
                  refine LE.c (Wn.yes 35 73 true rfl rfl rfl (congrArg Value.bool hb66)) rfl (R.call bd23 (Ls.cons rfl (Ls.cons rfl Ls.nil)) rfl) (Calls.mono h ?_)
                  rintro _ w68 ⟨r67, rfl, h⟩
                  refine ⟨_, rfl, ?_⟩
                  refine LE.p (v := (Value.bool r67)) (Wn.yes 31 69 false rfl rfl rfl rfl) rfl (R.pickT (congrArg Value.bool hb66) rfl) ?_
                  refine LE.p (v := (Value.bool r67)) (Wn.yes 31 69 false rfl rfl rfl rfl) rfl (R.move rfl) ?_
                  rcases M.ite_use h with ⟨hb69, h⟩ | ⟨hb69, h⟩
                  · refine LE.p (v := (Value.float .f64 p0)) (Wn.yes 40 78 true rfl rfl rfl (congrArg Value.bool hb69)) rfl (R.move f23) ?_
                    refine LE.p (v := (Value.float .f64 p2)) (Wn.yes 40 78 true rfl rfl rfl (congrArg Value.bool hb69)) rfl (R.move f25) ?_
                    refine LE.c (Wn.yes 40 78 true rfl rfl rfl (congrArg Value.bool hb69)) rfl (R.call bd23 (Ls.cons rfl (Ls.cons rfl Ls.nil)) rfl) (Calls.mono h ?_)
                    rintro _ w71 ⟨r70, rfl, h⟩
                    refine ⟨_, rfl, ?_⟩
                    refine LE.p (v := (Value.bool (!r70))) (Wn.yes 40 78 true rfl rfl rfl (congrArg Value.bool hb69)) rfl (R.not rfl) ?_
                    refine LE.p (v := (Value.bool (!r70))) (Wn.yes 31 69 false rfl rfl rfl rfl) rfl (R.pickT (congrArg Value.bool hb69) rfl) ?_
                    refine LE.p (v := (Value.bool (!r70))) (Wn.no rfl) rfl (R.pickF rfl rfl) ?_
                    refine LE.nil ?_
                    exact ⟨_, h, f23, f24, f25, rfl⟩
                  · refine LE.u (Un.no 40 78 true rfl rfl rfl (congrArg Value.bool hb69)) ?_
                    refine LE.u (Un.no 40 78 true rfl rfl rfl (congrArg Value.bool hb69)) ?_
                    refine LE.u (Un.no 40 78 true rfl rfl rfl (congrArg Value.bool hb69)) ?_
                    refine LE.u (Un.no 40 78 true rfl rfl rfl (congrArg Value.bool hb69)) ?_
                    refine LE.p (v := (Value.bool false)) (Wn.yes 31 69 false rfl rfl rfl rfl) rfl (R.pickF (congrArg Value.bool hb69) rfl) ?_
                    refine LE.p (v := (Value.bool false)) (Wn.no rfl) rfl (R.pickF rfl rfl) ?_
                    refine LE.nil ?_
                    exact ⟨_, h, f23, f24, f25, rfl⟩
                · refine LE.u (Un.no 35 73 true rfl rfl rfl (congrArg Value.bool hb66)) ?_
                  refine LE.u (Un.no 35 73 true rfl rfl rfl (congrArg Value.bool hb66)) ?_
                  refine LE.u (Un.no 35 73 true rfl rfl rfl (congrArg Value.bool hb66)) ?_
                  refine LE.p (v := (Value.bool false)) (Wn.yes 31 69 false rfl rfl rfl rfl) rfl (R.pickF (congrArg Value.bool hb66) rfl) ?_
                  refine LE.p (v := (Value.bool false)) (Wn.yes 31 69 false rfl rfl rfl rfl) rfl (R.move rfl) ?_
                  refine LE.u (Un.no 40 78 true rfl rfl rfl rfl) ?_
                  refine LE.u (Un.no 40 78 true rfl rfl rfl rfl) ?_
                  refine LE.u (Un.no 40 78 true rfl rfl rfl rfl) ?_
                  refine LE.u (Un.no 40 78 true rfl rfl rfl rfl) ?_
                  refine LE.p (v := (Value.bool false)) (Wn.yes 31 69 false rfl rfl rfl rfl) rfl (R.pickF rfl rfl) ?_
                  refine LE.p (v := (Value.bool false)) (Wn.no rfl) rfl (R.pickF rfl rfl) ?_
                  refine LE.nil ?_
                  exact ⟨_, h, f23, f24, f25, rfl⟩
        · refine LE.u (Un.no 3 41 true rfl rfl rfl (congrArg Value.bool hb32)) ?_
          refine LE.u (Un.no 3 41 true rfl rfl rfl (congrArg Value.bool hb32)) ?_
          refine LE.u (Un.no 3 41 true rfl rfl rfl (congrArg Value.bool hb32)) ?_
          refine LE.u (Un.no 3 41 true rfl rfl rfl (congrArg Value.bool hb32)) ?_
          refine LE.u (Un.un 7 45 false rfl rfl rfl rfl) ?_
          refine LE.u (Un.un 7 45 false rfl rfl rfl rfl) ?_
          refine LE.u (Un.un 7 45 false rfl rfl rfl rfl) ?_
          refine LE.u (Un.no 3 41 true rfl rfl rfl (congrArg Value.bool hb32)) ?_
          refine LE.p (v := (Value.bool false)) (Wn.no rfl) rfl (R.pickF (congrArg Value.bool hb32) rfl) ?_
          refine LE.p (v := (Value.bool false)) (Wn.no rfl) rfl (R.move rfl) ?_
          refine LE.p (v := (Value.float .f64 p0)) (Wn.yes 13 51 false rfl rfl rfl rfl) rfl (R.move f23) ?_
          refine LE.p (v := (Value.float .f64 p1)) (Wn.yes 13 51 false rfl rfl rfl rfl) rfl (R.move f24) ?_
          refine LE.c (Wn.yes 13 51 false rfl rfl rfl rfl) rfl (R.call bd23 (Ls.cons rfl (Ls.cons rfl Ls.nil)) rfl) (Calls.mono h ?_)
          rintro _ w73 ⟨r72, rfl, h⟩
          refine ⟨_, rfl, ?_⟩
          refine LE.p (v := (Value.bool (!r72))) (Wn.yes 13 51 false rfl rfl rfl rfl) rfl (R.not rfl) ?_
          refine LE.p (v := (Value.bool (!r72))) (Wn.yes 13 51 false rfl rfl rfl rfl) rfl (R.move rfl) ?_
          rcases M.ite_use h with ⟨hb74, h⟩ | ⟨hb74, h⟩
          · refine LE.p (v := (Value.float .f64 p1)) (Wn.yes 18 56 true rfl rfl rfl (congrArg Value.bool hb74)) rfl (R.move f24) ?_
            refine LE.p (v := (Value.float .f64 p0)) (Wn.yes 18 56 true rfl rfl rfl (congrArg Value.bool hb74)) rfl (R.move f23) ?_
            refine LE.c (Wn.yes 18 56 true rfl rfl rfl (congrArg Value.bool hb74)) rfl (R.call bd23 (Ls.cons rfl (Ls.cons rfl Ls.nil)) rfl) (Calls.mono h ?_)
            rintro _ w76 ⟨r75, rfl, h⟩
            refine ⟨_, rfl, ?_⟩
            refine LE.p (v := (Value.bool (!r75))) (Wn.yes 18 56 true rfl rfl rfl (congrArg Value.bool hb74)) rfl (R.not rfl) ?_
            refine LE.p (v := (Value.bool (!r75))) (Wn.yes 13 51 false rfl rfl rfl rfl) rfl (R.pickT (congrArg Value.bool hb74) rfl) ?_
            refine LE.p (v := (Value.bool (!r75))) (Wn.yes 13 51 false rfl rfl rfl rfl) rfl (R.move rfl) ?_
            rcases M.ite_use h with ⟨hb77, h⟩ | ⟨hb77, h⟩
            · refine LE.p (v := (Value.float .f64 p0)) (Wn.yes 24 62 true rfl rfl rfl (congrArg Value.bool hb77)) rfl (R.move f23) ?_
              refine LE.p (v := (Value.float .f64 p1)) (Wn.yes 24 62 true rfl rfl rfl (congrArg Value.bool hb77)) rfl (R.move f24) ?_
              refine LE.c (Wn.yes 24 62 true rfl rfl rfl (congrArg Value.bool hb77)) rfl (R.call bd25 (Ls.cons rfl (Ls.cons rfl Ls.nil)) rfl) (Calls.mono h ?_)
              rintro _ w79 ⟨r78, rfl, h⟩
              refine ⟨_, rfl, ?_⟩
              refine LE.p (v := (Value.bool (!r78))) (Wn.yes 24 62 true rfl rfl rfl (congrArg Value.bool hb77)) rfl (R.not rfl) ?_
              refine LE.p (v := (Value.bool (!r78))) (Wn.yes 13 51 false rfl rfl rfl rfl) rfl (R.pickT (congrArg Value.bool hb77) rfl) ?_
              refine LE.p (v := (Value.bool (!r78))) (Wn.no rfl) rfl (R.pickF rfl rfl) ?_
              refine LE.p (v := (Value.bool (!r78))) (Wn.no rfl) rfl (R.move rfl) ?_
              rcases M.ite_use h with ⟨hb80, h⟩ | ⟨hb80, h⟩
              · refine LE.u (Un.no 31 69 false rfl rfl rfl (congrArg Value.bool hb80)) ?_
                refine LE.u (Un.no 31 69 false rfl rfl rfl (congrArg Value.bool hb80)) ?_
                refine LE.u (Un.no 31 69 false rfl rfl rfl (congrArg Value.bool hb80)) ?_
                refine LE.u (Un.no 31 69 false rfl rfl rfl (congrArg Value.bool hb80)) ?_
                refine LE.u (Un.un 35 73 true rfl rfl rfl rfl) ?_
                refine LE.u (Un.un 35 73 true rfl rfl rfl rfl) ?_
                refine LE.u (Un.un 35 73 true rfl rfl rfl rfl) ?_
                refine LE.u (Un.no 31 69 false rfl rfl rfl (congrArg Value.bool hb80)) ?_
                refine LE.u (Un.no 31 69 false rfl rfl rfl (congrArg Value.bool hb80)) ?_
                refine LE.u (Un.un 40 78 true rfl rfl rfl rfl) ?_
                refine LE.u (Un.un 40 78 true rfl rfl rfl rfl) ?_
                refine LE.u (Un.un 40 78 true rfl rfl rfl rfl) ?_
                refine LE.u (Un.un 40 78 true rfl rfl rfl rfl) ?_
                refine LE.u (Un.no 31 69 false rfl rfl rfl (congrArg Value.bool hb80)) ?_
                refine LE.p (v := (Value.bool true)) (Wn.no rfl) rfl (R.pickT (congrArg Value.bool hb80) rfl) ?_
                refine LE.nil ?_
                exact ⟨_, h, f23, f24, f25, rfl⟩
              · refine LE.p (v := (Value.float .f64 p0)) (Wn.yes 31 69 false rfl rfl rfl (congrArg Value.bool hb80)) rfl (R.move f23) ?_
                refine LE.p (v := (Value.float .f64 p1)) (Wn.yes 31 69 false rfl rfl rfl (congrArg Value.bool hb80)) rfl (R.move f24) ?_
                refine LE.c (Wn.yes 31 69 false rfl rfl rfl (congrArg Value.bool hb80)) rfl (R.call bd23 (Ls.cons rfl (Ls.cons rfl Ls.nil)) rfl) (Calls.mono h ?_)
                rintro _ w82 ⟨r81, rfl, h⟩
                refine ⟨_, rfl, ?_⟩
                refine LE.p (v := (Value.bool r81)) (Wn.yes 31 69 false rfl rfl rfl (congrArg Value.bool hb80)) rfl (R.move rfl) ?_
                rcases M.ite_use h with ⟨hb83, h⟩ | ⟨hb83, h⟩
                · refine LE.p (v := (Value.float .f64 p1)) (Wn.yes 35 73 true rfl rfl rfl (congrArg Value.bool hb83)) rfl (R.move f24) ?_
                  refine LE.p (v := (Value.float .f64 p2)) (Wn.yes 35 73 true rfl rfl rfl (congrArg Value.bool hb83)) rfl (R.move f25) ?_
                  refine LE.c (Wn.yes 35 73 true rfl rfl rfl (congrArg Value.bool hb83)) rfl (R.call bd23 (Ls.cons rfl (Ls.cons rfl Ls.nil)) rfl) (Calls.mono h ?_)
                  rintro _ w85 ⟨r84, rfl, h⟩
                  refine ⟨_, rfl, ?_⟩
                  refine LE.p (v := (Value.bool r84)) (Wn.yes 31 69 false rfl rfl rfl (congrArg Value.bool hb80)) rfl (R.pickT (congrArg Value.bool hb83) rfl) ?_
                  refine LE.p (v := (Value.bool r84)) (Wn.yes 31 69 false rfl rfl rfl (congrArg Value.bool hb80)) rfl (R.move rfl) ?_
                  rcases M.ite_use h with ⟨hb86, h⟩ | ⟨hb86, h⟩
                  · refine LE.p (v := (Value.float .f64 p0)) (Wn.yes 40 78 true rfl rfl rfl (congrArg Value.bool hb86)) rfl (R.move f23) ?_
                    refine LE.p (v := (Value.float .f64 p2)) (Wn.yes 40 78 true rfl rfl rfl (congrArg Value.bool hb86)) rfl (R.move f25) ?_
                    refine LE.c (Wn.yes 40 78 true rfl rfl rfl (congrArg Value.bool hb86)) rfl (R.call bd23 (Ls.cons rfl (Ls.cons rfl Ls.nil)) rfl) (Calls.mono h ?_)
                    rintro _ w88 ⟨r87, rfl, h⟩
                    refine ⟨_, rfl, ?_⟩
                    refine LE.p (v := (Value.bool (!r87))) (Wn.yes 40 78 true rfl rfl rfl (congrArg Value.bool hb86)) rfl (R.not rfl) ?_
                    refine LE.p (v := (Value.bool (!r87))) (Wn.yes 31 69 false rfl rfl rfl (congrArg Value.bool hb80)) rfl (R.pickT (congrArg Value.bool hb86) rfl) ?_
                    refine LE.p (v := (Value.bool (!r87))) (Wn.no rfl) rfl (R.pickF (congrArg Value.bool hb80) rfl) ?_
                    refine LE.nil ?_
                    exact ⟨_, h, f23, f24, f25, rfl⟩
                  · refine LE.u (Un.no 40 78 true rfl rfl rfl (congrArg Value.bool hb86)) ?_
                    refine LE.u (Un.no 40 78 true rfl rfl rfl (congrArg Value.bool hb86)) ?_
                    refine LE.u (Un.no 40 78 true rfl rfl rfl (congrArg Value.bool hb86)) ?_
                    refine LE.u (Un.no 40 78 true rfl rfl rfl (congrArg Value.bool hb86)) ?_
                    refine LE.p (v := (Value.bool false)) (Wn.yes 31 69 false rfl rfl rfl (congrArg Value.bool hb80)) rfl (R.pickF (congrArg Value.bool hb86) rfl) ?_
                    refine LE.p (v := (Value.bool false)) (Wn.no rfl) rfl (R.pickF (congrArg Value.bool hb80) rfl) ?_
                    refine LE.nil ?_
                    exact ⟨_, h, f23, f24, f25, rfl⟩
                · refine LE.u (Un.no 35 73 true rfl rfl rfl (congrArg Value.bool hb83)) ?_
                  refine LE.u (Un.no 35 73 true rfl rfl rfl (congrArg Value.bool hb83)) ?_
                  refine LE.u (Un.no 35 73 true rfl rfl rfl (congrArg Value.bool hb83)) ?_
                  refine LE.p (v := (Value.bool false)) (Wn.yes 31 69 false rfl rfl rfl (congrArg Value.bool hb80)) rfl (R.pickF (congrArg Value.bool hb83) rfl) ?_
                  refine LE.p (v := (Value.bool false)) (Wn.yes 31 69 false rfl rfl rfl (congrArg Value.bool hb80)) rfl (R.move rfl) ?_
                  refine LE.u (Un.no 40 78 true rfl rfl rfl rfl) ?_
                  refine LE.u (Un.no 40 78 true rfl rfl rfl rfl) ?_
                  refine LE.u (Un.no 40 78 true rfl rfl rfl rfl) ?_
                  refine LE.u (Un.no 40 78 true rfl rfl rfl rfl) ?_
                  refine LE.p (v := (Value.bool false)) (Wn.yes 31 69 false rfl rfl rfl (congrArg Value.bool hb80)) rfl (R.pickF rfl rfl) ?_
                  refine LE.p (v := (Value.bool false)) (Wn.no rfl) rfl (R.pickF (congrArg Value.bool hb80) rfl) ?_
                  refine LE.nil ?_
                  exact ⟨_, h, f23, f24, f25, rfl⟩
            · refine LE.u (Un.no 24 62 true rfl rfl rfl (congrArg Value.bool hb77)) ?_
              refine LE.u (Un.no 24 62 true rfl rfl rfl (congrArg Value.bool hb77)) ?_
              refine LE.u (Un.no 24 62 true rfl rfl rfl (congrArg Value.bool hb77)) ?_
              refine LE.u (Un.no 24 62 true rfl rfl rfl (congrArg Value.bool hb77)) ?_
              refine LE.p (v := (Value.bool false)) (Wn.yes 13 51 false rfl rfl rfl rfl) rfl (R.pickF (congrArg Value.bool hb77) rfl) ?_
              refine LE.p (v := (Value.bool false)) (Wn.no rfl) rfl (R.pickF rfl rfl) ?_
              refine LE.p (v := (Value.bool false)) (Wn.no rfl) rfl (R.move rfl) ?_
              refine LE.p (v := (Value.float .f64 p0)) (Wn.yes 31 69 false rfl rfl rfl rfl) rfl (R.move f23) ?_
              refine LE.p (v := (Value.float .f64 p1)) (Wn.yes 31 69 false rfl rfl rfl rfl) rfl (R.move f24) ?_
              refine LE.c (Wn.yes 31 69 false rfl rfl rfl rfl) rfl (R.call bd23 (Ls.cons rfl (Ls.cons rfl Ls.nil)) rfl) (Calls.mono h ?_)
              rintro _ w90 ⟨r89, rfl, h⟩
              refine ⟨_, rfl, ?_⟩
              refine LE.p (v := (Value.bool r89)) (Wn.yes 31 69 false rfl rfl rfl rfl) rfl (R.move rfl) ?_
              rcases M.ite_use h with ⟨hb91, h⟩ | ⟨hb91, h⟩
              · refine LE.p (v := (Value.float .f64 p1)) (Wn.yes 35 73 true rfl rfl rfl (congrArg Value.bool hb91)) rfl (R.move f24) ?_
                refine LE.p (v := (Value.float .f64 p2)) (Wn.yes 35 73 true rfl rfl rfl (congrArg Value.bool hb91)) rfl (R.move f25) ?_
                refine LE.c (Wn.yes 35 73 true rfl rfl rfl (congrArg Value.bool hb91)) rfl (R.call bd23 (Ls.cons rfl (Ls.cons rfl Ls.nil)) rfl) (Calls.mono h ?_)
                rintro _ w93 ⟨r92, rfl, h⟩
                refine ⟨_, rfl, ?_⟩
                refine LE.p (v := (Value.bool r92)) (Wn.yes 31 69 false rfl rfl rfl rfl) rfl (R.pickT (congrArg Value.bool hb91) rfl) ?_
                refine LE.p (v := (Value.bool r92)) (Wn.yes 31 69 false rfl rfl rfl rfl) rfl (R.move rfl) ?_
                rcases M.ite_use h with ⟨hb94, h⟩ | ⟨hb94, h⟩
                · refine LE.p (v := (Value.float .f64 p0)) (Wn.yes 40 78 true rfl rfl rfl (congrArg Value.bool hb94)) rfl (R.move f23) ?_
                  refine LE.p (v := (Value.float .f64 p2)) (Wn.yes 40 78 true rfl rfl rfl (congrArg Value.bool hb94)) rfl (R.move f25) ?_
                  refine LE.c (Wn.yes 40 78 true rfl rfl rfl (congrArg Value.bool hb94)) rfl (R.call bd23 (Ls.cons rfl (Ls.cons rfl Ls.nil)) rfl) (Calls.mono h ?_)
                  rintro _ w96 ⟨r95, rfl, h⟩
                  refine ⟨_, rfl, ?_⟩
                  refine LE.p (v := (Value.bool (!r95))) (Wn.yes 40 78 true rfl rfl rfl (congrArg Value.bool hb94)) rfl (R.not rfl) ?_
                  refine LE.p (v := (Value.bool (!r95))) (Wn.yes 31 69 false rfl rfl rfl rfl) rfl (R.pickT (congrArg Value.bool hb94) rfl) ?_
                  refine LE.p (v := (Value.bool (!r95))) (Wn.no rfl) rfl (R.pickF rfl rfl) ?_
                  refine LE.nil ?_
                  exact ⟨_, h, f23, f24, f25, rfl⟩
                · refine LE.u (Un.no 40 78 true rfl rfl rfl (congrArg Value.bool hb94)) ?_
                  refine LE.u (Un.no 40 78 true rfl rfl rfl (congrArg Value.bool hb94)) ?_
                  refine LE.u (Un.no 40 78 true rfl rfl rfl (congrArg Value.bool hb94)) ?_
                  refine LE.u (Un.no 40 78 true rfl rfl rfl (congrArg Value.bool hb94)) ?_
                  refine LE.p (v := (Value.bool false)) (Wn.yes 31 69 false rfl rfl rfl rfl) rfl (R.pickF (congrArg Value.bool hb94) rfl) ?_
                  refine LE.p (v := (Value.bool false)) (Wn.no rfl) rfl (R.pickF rfl rfl) ?_
                  refine LE.nil ?_
                  exact ⟨_, h, f23, f24, f25, rfl⟩
              · refine LE.u (Un.no 35 73 true rfl rfl rfl (congrArg Value.bool hb91)) ?_
                refine LE.u (Un.no 35 73 true rfl rfl rfl (congrArg Value.bool hb91)) ?_
                refine LE.u (Un.no 35 73 true rfl rfl rfl (congrArg Value.bool hb91)) ?_
                refine LE.p (v := (Value.bool false)) (Wn.yes 31 69 false rfl rfl rfl rfl) rfl (R.pickF (congrArg Value.bool hb91) rfl) ?_
                refine LE.p (v := (Value.bool false)) (Wn.yes 31 69 false rfl rfl rfl rfl) rfl (R.move rfl) ?_
                refine LE.u (Un.no 40 78 true rfl rfl rfl rfl) ?_
                refine LE.u (Un.no 40 78 true rfl rfl rfl rfl) ?_
                refine LE.u (Un.no 40 78 true rfl rfl rfl rfl) ?_
                refine LE.u (Un.no 40 78 true rfl rfl rfl rfl) ?_
                refine LE.p (v := (Value.bool false)) (Wn.yes 31 69 false rfl rfl rfl rfl) rfl (R.pickF rfl rfl) ?_
                refine LE.p (v := (Value.bool false)) (Wn.no rfl) rfl (R.pickF rfl rfl) ?_
                refine LE.nil ?_
                exact ⟨_, h, f23, f24, f25, rfl⟩
          · refine LE.u (Un.no 18 56 true rfl rfl rfl (congrArg Value.bool hb74)) ?_
            refine LE.u (Un.no 18 56 true rfl rfl rfl (congrArg Value.bool hb74)) ?_
            refine LE.u (Un.no 18 56 true rfl rfl rfl (congrArg Value.bool hb74)) ?_
            refine LE.u (Un.no 18 56 true rfl rfl rfl (congrArg Value.bool hb74)) ?_
            refine LE.p (v := (Value.bool false)) (Wn.yes 13 51 false rfl rfl rfl rfl) rfl (R.pickF (congrArg Value.bool hb74) rfl) ?_
            refine LE.p (v := (Value.bool false)) (Wn.yes 13 51 false rfl rfl rfl rfl) rfl (R.move rfl) ?_
            refine LE.u (Un.no 24 62 true rfl rfl rfl rfl) ?_
            refine LE.u (Un.no 24 62 true rfl rfl rfl rfl) ?_
            refine LE.u (Un.no 24 62 true rfl rfl rfl rfl) ?_
            refine LE.u (Un.no 24 62 true rfl rfl rfl rfl) ?_
            refine LE.p (v := (Value.bool false)) (Wn.yes 13 51 false rfl rfl rfl rfl) rfl (R.pickF rfl rfl) ?_
            refine LE.p (v := (Value.bool false)) (Wn.no rfl) rfl (R.pickF rfl rfl) ?_
            refine LE.p (v := (Value.bool false)) (Wn.no rfl) rfl (R.move rfl) ?_
            refine LE.p (v := (Value.float .f64 p0)) (Wn.yes 31 69 false rfl rfl rfl rfl) rfl (R.move f23) ?_
            refine LE.p (v := (Value.float .f64 p1)) (Wn.yes 31 69 false rfl rfl rfl rfl) rfl (R.move f24) ?_
            refine LE.c (Wn.yes 31 69 false rfl rfl rfl rfl) rfl (R.call bd23 (Ls.cons rfl (Ls.cons rfl Ls.nil)) rfl) (Calls.mono h ?_)
            rintro _ w98 ⟨r97, rfl, h⟩
            refine ⟨_, rfl, ?_⟩
            refine LE.p (v := (Value.bool r97)) (Wn.yes 31 69 false rfl rfl rfl rfl) rfl (R.move rfl) ?_
            rcases M.ite_use h with ⟨hb99, h⟩ | ⟨hb99, h⟩
            · refine LE.p (v := (Value.float .f64 p1)) (Wn.yes 35 73 true rfl rfl rfl (congrArg Value.bool hb99)) rfl (R.move f24) ?_
              refine LE.p (v := (Value.float .f64 p2)) (Wn.yes 35 73 true rfl rfl rfl (congrArg Value.bool hb99)) rfl (R.move f25) ?_
              refine LE.c (Wn.yes 35 73 true rfl rfl rfl (congrArg Value.bool hb99)) rfl (R.call bd23 (Ls.cons rfl (Ls.cons rfl Ls.nil)) rfl) (Calls.mono h ?_)
              rintro _ w101 ⟨r100, rfl, h⟩
              refine ⟨_, rfl, ?_⟩
              refine LE.p (v := (Value.bool r100)) (Wn.yes 31 69 false rfl rfl rfl rfl) rfl (R.pickT (congrArg Value.bool hb99) rfl) ?_
              refine LE.p (v := (Value.bool r100)) (Wn.yes 31 69 false rfl rfl rfl rfl) rfl (R.move rfl) ?_
              rcases M.ite_use h with ⟨hb102, h⟩ | ⟨hb102, h⟩
              · refine LE.p (v := (Value.float .f64 p0)) (Wn.yes 40 78 true rfl rfl rfl (congrArg Value.bool hb102)) rfl (R.move f23) ?_
                refine LE.p (v := (Value.float .f64 p2)) (Wn.yes 40 78 true rfl rfl rfl (congrArg Value.bool hb102)) rfl (R.move f25) ?_
                refine LE.c (Wn.yes 40 78 true rfl rfl rfl (congrArg Value.bool hb102)) rfl (R.call bd23 (Ls.cons rfl (Ls.cons rfl Ls.nil)) rfl) (Calls.mono h ?_)
                rintro _ w104 ⟨r103, rfl, h⟩
                refine ⟨_, rfl, ?_⟩
                refine LE.p (v := (Value.bool (!r103))) (Wn.yes 40 78 true rfl rfl rfl (congrArg Value.bool hb102)) rfl (R.not rfl) ?_
                refine LE.p (v := (Value.bool (!r103))) (Wn.yes 31 69 false rfl rfl rfl rfl) rfl (R.pickT (congrArg Value.bool hb102) rfl) ?_
                refine LE.p (v := (Value.bool (!r103))) (Wn.no rfl) rfl (R.pickF rfl rfl) ?_
                refine LE.nil ?_
                exact ⟨_, h, f23, f24, f25, rfl⟩
              · refine LE.u (Un.no 40 78 true rfl rfl rfl (congrArg Value.bool hb102)) ?_
                refine LE.u (Un.no 40 78 true rfl rfl rfl (congrArg Value.bool hb102)) ?_
                refine LE.u (Un.no 40 78 true rfl rfl rfl (congrArg Value.bool hb102)) ?_
                refine LE.u (Un.no 40 78 true rfl rfl rfl (congrArg Value.bool hb102)) ?_
                refine LE.p (v := (Value.bool false)) (Wn.yes 31 69 false rfl rfl rfl rfl) rfl (R.pickF (congrArg Value.bool hb102) rfl) ?_
                refine LE.p (v := (Value.bool false)) (Wn.no rfl) rfl (R.pickF rfl rfl) ?_
                refine LE.nil ?_
                exact ⟨_, h, f23, f24, f25, rfl⟩
            · refine LE.u (Un.no 35 73 true rfl rfl rfl (congrArg Value.bool hb99)) ?_
              refine LE.u (Un.no 35 73 true rfl rfl rfl (congrArg Value.bool hb99)) ?_
              refine LE.u (Un.no 35 73 true rfl rfl rfl (congrArg Value.bool hb99)) ?_
              refine LE.p (v := (Value.bool false)) (Wn.yes 31 69 false rfl rfl rfl rfl) rfl (R.pickF (congrArg Value.bool hb99) rfl) ?_
              refine LE.p (v := (Value.bool false)) (Wn.yes 31 69 false rfl rfl rfl rfl) rfl (R.move rfl) ?_
              refine LE.u (Un.no 40 78 true rfl rfl rfl rfl) ?_
              refine LE.u (Un.no 40 78 true rfl rfl rfl rfl) ?_
              refine LE.u (Un.no 40 78 true rfl rfl rfl rfl) ?_
              refine LE.u (Un.no 40 78 true rfl rfl rfl rfl) ?_
              refine LE.p (v := (Value.bool false)) (Wn.yes 31 69 false rfl rfl rfl rfl) rfl (R.pickF rfl rfl) ?_
              refine LE.p (v := (Value.bool false)) (Wn.no rfl) rfl (R.pickF rfl rfl) ?_
              refine LE.nil ?_
              exact ⟨_, h, f23, f24, f25, rfl⟩
      · rintro e105 w106 ⟨x29, h, f107, f108, f109, f110⟩
        subst hJ28
        refine WE.condT rfl (b := x29) f110 ?_ ?_
        · intro hb111
          replace h := M.ite_t h hb111
          refine WE.seq ?_
          refine WE.reg ?_
          refine LE.p (v := (Value.bool false)) (Wn.no rfl) rfl (R.assign rfl) ?_
          refine LE.nil ?_
          refine WE.ret ?_
          exact ⟨_, (Res.tmp rfl Res.nil), _, rfl, h⟩
        · intro hb111
          replace h := M.ite_f h hb111
          refine WE.skip ?_
          refine WE.seq ?_
          refine WE.seq ?_
          obtain ⟨J112, hJ112, h⟩ := M.join_use h
          refine WE.regJ (fun e w => ∃ (x113 : Bool), J112 x113 w ∧ e 0 = (Value.float .f64 p0) ∧ e 96 = (Value.bool x113)) ?_ ?_
          · clear hJ112
            refine LE.p (v := (Value.float .f64 p0)) (Wn.no rfl) rfl (R.move f107) ?_
            refine LE.p (v := (Value.float .f64 p1)) (Wn.no rfl) rfl (R.move f108) ?_
            refine LE.c (Wn.no rfl) rfl (R.call bd23 (Ls.cons rfl (Ls.cons rfl Ls.nil)) rfl) (Calls.mono h ?_)
            rintro _ w115 ⟨r114, rfl, h⟩
            refine ⟨_, rfl, ?_⟩
            refine LE.p (v := (Value.bool r114)) (Wn.no rfl) rfl (R.move rfl) ?_
            rcases M.ite_use h with ⟨hb116, h⟩ | ⟨hb116, h⟩
            · refine LE.p (v := (Value.float .f64 p1)) (Wn.yes 3 88 true rfl rfl rfl (congrArg Value.bool hb116)) rfl (R.move f108) ?_
              refine LE.p (v := (Value.float .f64 p2)) (Wn.yes 3 88 true rfl rfl rfl (congrArg Value.bool hb116)) rfl (R.move f109) ?_
              refine LE.c (Wn.yes 3 88 true rfl rfl rfl (congrArg Value.bool hb116)) rfl (R.call bd15 (Ls.cons rfl (Ls.cons rfl Ls.nil)) rfl) (Calls.mono h ?_)
              rintro _ w118 ⟨r117, rfl, h⟩
              refine ⟨_, rfl, ?_⟩
              refine LE.p (v := (Value.float .f64 p0)) (Wn.yes 3 88 true rfl rfl rfl (congrArg Value.bool hb116)) rfl (R.move f107) ?_
              refine LE.p (v := (Value.float .f64 p2)) (Wn.yes 3 88 true rfl rfl rfl (congrArg Value.bool hb116)) rfl (R.move f109) ?_
              refine LE.c (Wn.yes 3 88 true rfl rfl rfl (congrArg Value.bool hb116)) rfl (R.call bd15 (Ls.cons rfl (Ls.cons rfl Ls.nil)) rfl) (Calls.mono h ?_)
              rintro _ w120 ⟨r119, rfl, h⟩
              refine ⟨_, rfl, ?_⟩
              refine LE.c (Wn.yes 3 88 true rfl rfl rfl (congrArg Value.bool hb116)) rfl (R.call bd23 (Ls.cons rfl (Ls.cons rfl Ls.nil)) rfl) (Calls.mono h ?_)
              rintro _ w122 ⟨r121, rfl, h⟩
              refine ⟨_, rfl, ?_⟩
              refine LE.p (v := (Value.bool r121)) (Wn.no rfl) rfl (R.pickT (congrArg Value.bool hb116) rfl) ?_
              refine LE.nil ?_
              exact ⟨_, h, f107, rfl⟩
            · refine LE.u (Un.no 3 88 true rfl rfl rfl (congrArg Value.bool hb116)) ?_
              refine LE.u (Un.no 3 88 true rfl rfl rfl (congrArg Value.bool hb116)) ?_
              refine LE.u (Un.no 3 88 true rfl rfl rfl (congrArg Value.bool hb116)) ?_
              refine LE.u (Un.no 3 88 true rfl rfl rfl (congrArg Value.bool hb116)) ?_
              refine LE.u (Un.no 3 88 true rfl rfl rfl (congrArg Value.bool hb116)) ?_
              refine LE.u (Un.no 3 88 true rfl rfl rfl (congrArg Value.bool hb116)) ?_
              refine LE.u (Un.no 3 88 true rfl rfl rfl (congrArg Value.bool hb116)) ?_
              refine LE.p (v := (Value.bool false)) (Wn.no rfl) rfl (R.pickF (congrArg Value.bool hb116) rfl) ?_
              refine LE.nil ?_
              exact ⟨_, h, f107, rfl⟩
          · rintro e123 w124 ⟨x113, h, f125, f126⟩
            subst hJ112
            refine WE.condT rfl (b := x113) f126 ?_ ?_
            · intro hb127
              replace h := M.ite_t h hb127
              refine WE.seq ?_
              refine WE.reg ?_
              refine LE.p (v := (Value.bool false)) (Wn.no rfl) rfl (R.assign rfl) ?_
              refine LE.nil ?_
              refine WE.ret ?_
              exact ⟨_, (Res.tmp rfl Res.nil), _, rfl, h⟩
            · intro hb127
              replace h := M.ite_f h hb127
              refine WE.skip ?_
              refine WE.seq ?_
              refine WE.reg ?_
              refine LE.p (v := (Value.float .f64 p0)) (Wn.no rfl) rfl (R.move f125) ?_
              refine LE.c (Wn.no rfl) rfl (R.call bd24 (Ls.cons rfl Ls.nil) rfl) (Calls.mono h ?_)
              rintro _ w129 ⟨r128, rfl, h⟩
              refine ⟨_, rfl, ?_⟩
              refine LE.c (Wn.no rfl) rfl (R.call bd17 (Ls.cons rfl Ls.nil) rfl) (Calls.mono h ?_)
              rintro _ w132 ⟨r130, r131, rfl, h⟩
              refine ⟨_, rfl, ?_⟩
              refine LE.p (v := (Value.tuple #[(Value.float .f64 r130), (Value.bool r131)])) (Wn.no rfl) rfl (R.move rfl) ?_
              refine LE.p (v := (Value.float .f64 r130)) (Wn.no rfl) rfl (R.ext rfl rfl) ?_
              refine LE.p (v := (Value.bool r131)) (Wn.no rfl) rfl (R.ext rfl rfl) ?_
              refine LE.p (v := (Value.float .f64 r130)) (Wn.no rfl) rfl (R.assign rfl) ?_
              refine LE.p (v := (Value.bool r131)) (Wn.no rfl) rfl (R.assign rfl) ?_
              refine LE.nil ?_
              refine WE.seq ?_
              obtain ⟨J133, hJ133, h⟩ := M.join_use h
              refine WE.regJ (fun e w => ∃ (x134 : Bool), J133 x134 w ∧ e 6 = (Value.bool x134)) ?_ ?_
              · clear hJ133
                refine LE.p (v := (Value.bool r131)) (Wn.no rfl) rfl (R.move rfl) ?_
                refine LE.p (v := (Value.bool r131)) (Wn.no rfl) rfl (R.move rfl) ?_
                rcases M.ite_use h with ⟨hb135, h⟩ | ⟨hb135, h⟩
                · refine LE.p (v := (Value.float .f64 r130)) (Wn.yes 1 104 true rfl rfl rfl (congrArg Value.bool hb135)) rfl (R.move rfl) ?_
                  refine LE.p (v := (Value.float .f64 p0)) (Wn.yes 1 104 true rfl rfl rfl (congrArg Value.bool hb135)) rfl (R.move f125) ?_
                  refine LE.c (Wn.yes 1 104 true rfl rfl rfl (congrArg Value.bool hb135)) rfl (R.call bd28 (Ls.cons rfl Ls.nil) rfl) (Calls.mono h ?_)
                  rintro _ w137 ⟨r136, rfl, h⟩
                  refine ⟨_, rfl, ?_⟩
                  refine LE.c (Wn.yes 1 104 true rfl rfl rfl (congrArg Value.bool hb135)) rfl (R.call bd21 (Ls.cons rfl (Ls.cons rfl Ls.nil)) rfl) (Calls.mono h ?_)
                  rintro _ w139 ⟨r138, rfl, h⟩
                  refine ⟨_, rfl, ?_⟩
                  refine LE.p (v := (Value.bool r138)) (Wn.no rfl) rfl (R.pickT (congrArg Value.bool hb135) rfl) ?_
                  refine LE.p (v := (Value.bool r138)) (Wn.no rfl) rfl (R.move rfl) ?_
                  rcases M.ite_use h with ⟨hb140, h⟩ | ⟨hb140, h⟩
                  · refine LE.p (v := (Value.float .f64 p0)) (Wn.yes 7 110 true rfl rfl rfl (congrArg Value.bool hb140)) rfl (R.move f125) ?_
                    refine LE.p (v := (Value.float .f64 r130)) (Wn.yes 7 110 true rfl rfl rfl (congrArg Value.bool hb140)) rfl (R.move rfl) ?_
                    refine LE.c (Wn.yes 7 110 true rfl rfl rfl (congrArg Value.bool hb140)) rfl (R.call bd25 (Ls.cons rfl (Ls.cons rfl Ls.nil)) rfl) (Calls.mono h ?_)
                    rintro _ w142 ⟨r141, rfl, h⟩
                    refine ⟨_, rfl, ?_⟩
                    refine LE.p (v := (Value.bool r141)) (Wn.no rfl) rfl (R.pickT (congrArg Value.bool hb140) rfl) ?_
                    refine LE.p (v := (Value.bool r141)) (Wn.no rfl) rfl (R.move rfl) ?_
                    rcases M.ite_use h with ⟨hb143, h⟩ | ⟨hb143, h⟩
                    · refine LE.p (v := (Value.float .f64 p0)) (Wn.yes 12 115 true rfl rfl rfl (congrArg Value.bool hb143)) rfl (R.move f125) ?_
                      refine LE.c (Wn.yes 12 115 true rfl rfl rfl (congrArg Value.bool hb143)) rfl (R.call bd15 (Ls.cons rfl (Ls.cons rfl Ls.nil)) rfl) (Calls.mono h ?_)
                      rintro _ w145 ⟨r144, rfl, h⟩
                      refine ⟨_, rfl, ?_⟩
                      refine LE.p (v := (Value.float .f64 p0)) (Wn.yes 12 115 true rfl rfl rfl (congrArg Value.bool hb143)) rfl (R.move f125) ?_
                      refine LE.c (Wn.yes 12 115 true rfl rfl rfl (congrArg Value.bool hb143)) rfl (R.call bd28 (Ls.cons rfl Ls.nil) rfl) (Calls.mono h ?_)
                      rintro _ w147 ⟨r146, rfl, h⟩
                      refine ⟨_, rfl, ?_⟩
                      refine LE.c (Wn.yes 12 115 true rfl rfl rfl (congrArg Value.bool hb143)) rfl (R.call bd21 (Ls.cons rfl (Ls.cons rfl Ls.nil)) rfl) (Calls.mono h ?_)
                      rintro _ w149 ⟨r148, rfl, h⟩
                      refine ⟨_, rfl, ?_⟩
                      refine LE.p (v := (Value.bool r148)) (Wn.no rfl) rfl (R.pickT (congrArg Value.bool hb143) rfl) ?_
                      refine LE.p (v := (Value.bool r148)) (Wn.no rfl) rfl (R.move rfl) ?_
                      rcases M.ite_use h with ⟨hb150, h⟩ | ⟨hb150, h⟩
                      · refine LE.c (Wn.yes 19 122 true rfl rfl rfl (congrArg Value.bool hb150)) rfl (R.call bd12 Ls.nil rfl) (Calls.mono h ?_)
                        rintro _ w152 ⟨r151, rfl, h⟩
                        refine ⟨_, rfl, ?_⟩
                        refine LE.p (v := (Value.bool r151)) (Wn.no rfl) rfl (R.pickT (congrArg Value.bool hb150) rfl) ?_
                        refine LE.p (v := (Value.bool r151)) (Wn.no rfl) rfl (R.assign rfl) ?_
                        refine LE.nil ?_
                        exact ⟨_, h, rfl⟩
                      · refine LE.u (Un.no 19 122 true rfl rfl rfl (congrArg Value.bool hb150)) ?_
                        refine LE.p (v := (Value.bool false)) (Wn.no rfl) rfl (R.pickF (congrArg Value.bool hb150) rfl) ?_
                        refine LE.p (v := (Value.bool false)) (Wn.no rfl) rfl (R.assign rfl) ?_
                        refine LE.nil ?_
                        exact ⟨_, h, rfl⟩
                    · refine LE.u (Un.no 12 115 true rfl rfl rfl (congrArg Value.bool hb143)) ?_
                      refine LE.u (Un.no 12 115 true rfl rfl rfl (congrArg Value.bool hb143)) ?_
                      refine LE.u (Un.no 12 115 true rfl rfl rfl (congrArg Value.bool hb143)) ?_
                      refine LE.u (Un.no 12 115 true rfl rfl rfl (congrArg Value.bool hb143)) ?_
                      refine LE.u (Un.no 12 115 true rfl rfl rfl (congrArg Value.bool hb143)) ?_
                      refine LE.p (v := (Value.bool false)) (Wn.no rfl) rfl (R.pickF (congrArg Value.bool hb143) rfl) ?_
                      refine LE.p (v := (Value.bool false)) (Wn.no rfl) rfl (R.move rfl) ?_
                      refine LE.u (Un.no 19 122 true rfl rfl rfl rfl) ?_
                      refine LE.p (v := (Value.bool false)) (Wn.no rfl) rfl (R.pickF rfl rfl) ?_
                      refine LE.p (v := (Value.bool false)) (Wn.no rfl) rfl (R.assign rfl) ?_
                      refine LE.nil ?_
                      exact ⟨_, h, rfl⟩
                  · refine LE.u (Un.no 7 110 true rfl rfl rfl (congrArg Value.bool hb140)) ?_
                    refine LE.u (Un.no 7 110 true rfl rfl rfl (congrArg Value.bool hb140)) ?_
                    refine LE.u (Un.no 7 110 true rfl rfl rfl (congrArg Value.bool hb140)) ?_
                    refine LE.p (v := (Value.bool false)) (Wn.no rfl) rfl (R.pickF (congrArg Value.bool hb140) rfl) ?_
                    refine LE.p (v := (Value.bool false)) (Wn.no rfl) rfl (R.move rfl) ?_
                    refine LE.u (Un.no 12 115 true rfl rfl rfl rfl) ?_
                    refine LE.u (Un.no 12 115 true rfl rfl rfl rfl) ?_
                    refine LE.u (Un.no 12 115 true rfl rfl rfl rfl) ?_
                    refine LE.u (Un.no 12 115 true rfl rfl rfl rfl) ?_
                    refine LE.u (Un.no 12 115 true rfl rfl rfl rfl) ?_
                    refine LE.p (v := (Value.bool false)) (Wn.no rfl) rfl (R.pickF rfl rfl) ?_
                    refine LE.p (v := (Value.bool false)) (Wn.no rfl) rfl (R.move rfl) ?_
                    refine LE.u (Un.no 19 122 true rfl rfl rfl rfl) ?_
                    refine LE.p (v := (Value.bool false)) (Wn.no rfl) rfl (R.pickF rfl rfl) ?_
                    refine LE.p (v := (Value.bool false)) (Wn.no rfl) rfl (R.assign rfl) ?_
                    refine LE.nil ?_
                    exact ⟨_, h, rfl⟩
                · refine LE.u (Un.no 1 104 true rfl rfl rfl (congrArg Value.bool hb135)) ?_
                  refine LE.u (Un.no 1 104 true rfl rfl rfl (congrArg Value.bool hb135)) ?_
                  refine LE.u (Un.no 1 104 true rfl rfl rfl (congrArg Value.bool hb135)) ?_
                  refine LE.u (Un.no 1 104 true rfl rfl rfl (congrArg Value.bool hb135)) ?_
                  refine LE.p (v := (Value.bool false)) (Wn.no rfl) rfl (R.pickF (congrArg Value.bool hb135) rfl) ?_
                  refine LE.p (v := (Value.bool false)) (Wn.no rfl) rfl (R.move rfl) ?_
                  refine LE.u (Un.no 7 110 true rfl rfl rfl rfl) ?_
                  refine LE.u (Un.no 7 110 true rfl rfl rfl rfl) ?_
                  refine LE.u (Un.no 7 110 true rfl rfl rfl rfl) ?_
                  refine LE.p (v := (Value.bool false)) (Wn.no rfl) rfl (R.pickF rfl rfl) ?_
                  refine LE.p (v := (Value.bool false)) (Wn.no rfl) rfl (R.move rfl) ?_
                  refine LE.u (Un.no 12 115 true rfl rfl rfl rfl) ?_
                  refine LE.u (Un.no 12 115 true rfl rfl rfl rfl) ?_
                  refine LE.u (Un.no 12 115 true rfl rfl rfl rfl) ?_
                  refine LE.u (Un.no 12 115 true rfl rfl rfl rfl) ?_
                  refine LE.u (Un.no 12 115 true rfl rfl rfl rfl) ?_
                  refine LE.p (v := (Value.bool false)) (Wn.no rfl) rfl (R.pickF rfl rfl) ?_
                  refine LE.p (v := (Value.bool false)) (Wn.no rfl) rfl (R.move rfl) ?_
                  refine LE.u (Un.no 19 122 true rfl rfl rfl rfl) ?_
                  refine LE.p (v := (Value.bool false)) (Wn.no rfl) rfl (R.pickF rfl rfl) ?_
                  refine LE.p (v := (Value.bool false)) (Wn.no rfl) rfl (R.assign rfl) ?_
                  refine LE.nil ?_
                  exact ⟨_, h, rfl⟩
              · rintro e153 w154 ⟨x134, h, f155⟩
                subst hJ133
                refine WE.ret ?_
                exact ⟨_, (Res.tmp f155 Res.nil), _, rfl, h⟩
/-- The formula of signpost.signpostlaw2.MetricNumbers. -/
def F9  (K : Bool → World → Prop) (w0 : World) : Prop :=
Calls Try.prog 29 #[] w0 (R29 fun r1 w2 =>
M.loop1 (fun (J4 : Int → World → Prop) (x3 : Int) (w5 : World) => 
M.ite (decide (x3 < (r1.len : Int))) (
M.loop1 (fun (J16 : Int → World → Prop) (x15 : Int) (w17 : World) => 
M.ite (decide (x15 < (r1.len : Int))) (
M.drew w17 fun w28 => 
M.idx r1 x3 1 fun a29 =>
M.idx r1 x15 1 fun a33 =>
M.ld (Value.float .f64) (a29.add (x3.toNat * 1)) w28 fun t37 =>
M.ld (Value.float .f64) (a33.add (x15.toNat * 1)) w28 fun t39 =>
Calls Try.prog 20 #[(Value.float .f64 t37), (Value.float .f64 t39)] w28 (R20 fun r41 w42 =>
M.ite (!r41) (
K false w42) (
M.loop1 (fun (J45 : Int → World → Prop) (x44 : Int) (w46 : World) => 
M.ite (decide (x44 < (20 : Int))) (
M.drew w46 fun w58 => 
M.idx r1 x3 1 fun a59 =>
M.idx r1 x15 1 fun a63 =>
M.idx r1 x3 1 fun a67 =>
M.ld (Value.float .f64) (a59.add (x3.toNat * 1)) w58 fun t71 =>
M.ld (Value.float .f64) (a63.add (x15.toNat * 1)) w58 fun t73 =>
M.ld (Value.float .f64) (a67.add (x3.toNat * 1)) w58 fun t75 =>
M.new (.cells #[(Value.float .f64 t71), (Value.float .f64 t73), (Value.float .f64 (4607182418800017408 : Nat)), (Value.float .f64 t75)] 26) w58 fun b79 w77 =>
Calls Try.prog 11 #[(SV.v (SV.mk (some b79) 4 4)), (Value.int .i64 x44)] w77 (R11 fun r80 w81 =>
Calls Try.prog 22 #[(SV.v (SV.mk (some b79) 4 4)), (Value.int .i64 x44)] w81 (R22 fun r82 w83 =>
Calls Try.prog 14 #[(SV.v r80), (SV.v r82)] w83 (R14 fun r84 w85 =>
M.ite (!r84) (
K false w85) (
J45 (IntKind.i64.wrap (x44 + (1 : Int))) w85))))) (
J16 (IntKind.i64.wrap (x15 + (1 : Int))) w46)) (-1 : Int) w42))) (
M.idx r1 x3 1 fun a87 =>
M.ld (Value.float .f64) (a87.add (x3.toNat * 1)) w17 fun t91 =>
Calls Try.prog 17 #[(Value.int .u64 (t91 : Int))] w17 (R17 fun r93 r94 w95 =>
M.idx r1 x3 1 fun a96 =>
M.ld (Value.float .f64) (a96.add (x3.toNat * 1)) w95 fun t100 =>
Calls Try.prog 18 #[(Value.int .u64 (t100 : Int))] w95 (R18 fun r102 r103 w104 =>
M.join (fun (x106 : Bool) (w111 : World) => 
M.ite x106 (
K false w111) (
J4 (IntKind.i64.wrap (x3 + (1 : Int))) w111)) fun J105 => 
Calls Try.prog 21 #[(Value.float .f64 r93), (Value.float .f64 r102)] w104 (R21 fun r107 w108 =>
M.ite (!r107) (
J105 true w108) (
J105 (!(r94 == r103)) w108)))))) (0 : Int) w5) (
M.join (fun (x117 : Bool) (w131 : World) => 
K x117 w131) fun J116 => 
Calls Try.prog 11 #[(SV.v r1), (Value.int .i64 (5000 : Int))] w5 (R11 fun r118 w119 =>
Calls Try.prog 22 #[(SV.v r1), (Value.int .i64 (5000 : Int))] w119 (R22 fun r120 w121 =>
Calls Try.prog 14 #[(SV.v r118), (SV.v r120)] w121 (R14 fun r122 w123 =>
M.ite r122 (
Calls Try.prog 11 #[(SV.v SV.nil), (Value.int .i64 (5 : Int))] w123 (R11 fun r125 w126 =>
M.ite ((r125.len : Int) == (0 : Int)) (
Calls Try.prog 12 #[] w126 (R12 fun r128 w129 =>
J116 r128 w129)) (
J116 false w126))) (
J116 false w123)))))) (0 : Int) w2)
theorem F9_ok {w0 : World}  {K : Bool → World → Prop} (h : F9 K w0) : Calls Try.prog 9 #[] w0 (R9 K) := by
  refine calls_of_WE (args := []) (rs := [.tmp 0]) Try.func9 rfl (N := 98) rfl rfl rfl rfl ?_
  refine WE.seq ?_
  refine WE.reg ?_
  refine LE.p (v := (Value.bool false)) (Wn.no rfl) rfl (R.assign rfl) ?_
  refine LE.nil ?_
  refine WE.seq ?_
  refine WE.reg ?_
  refine LE.c (Wn.no rfl) rfl (R.call bd29 Ls.nil rfl) (Calls.mono h ?_)
  rintro _ w2 ⟨r1, rfl, h⟩
  refine ⟨_, rfl, ?_⟩
  refine LE.p (v := (SV.v r1)) (Wn.no rfl) rfl (R.assign rfl) ?_
  refine LE.nil ?_
  refine WE.seq ?_
  refine WE.seq ?_
  refine WE.reg ?_
  refine LE.p (v := (Value.int .i64 (0 : Int))) (Wn.no rfl) rfl (R.assign rfl) ?_
  refine LE.nil ?_
  refine WE.block ?_
  obtain ⟨I8, ⟨n7, h⟩, hr9⟩ := h
  refine WE.loop (fun n e w => ∃ (x3 : Int), I8 n x3 w ∧ e 1 = (SV.v r1) ∧ e 2 = (Value.int .i64 x3)) n7 ⟨_, h, rfl, rfl⟩ ?_
  clear h
  rintro n7 e6 w5 ⟨x3, h, f12, f13⟩
  replace h := hr9 n7 x3 w5 h
  refine WE.seq ?_
  refine WE.seq ?_
  refine WE.reg ?_
  refine LE.p (v := (Value.int .i64 x3)) (Wn.no rfl) rfl (R.move f13) ?_
  refine LE.p (v := (SV.v r1)) (Wn.no rfl) rfl (R.move f12) ?_
  refine LE.p (v := (Value.int .i64 (r1.len : Int))) (Wn.no rfl) rfl (R.len sl22 rfl) ?_
  refine LE.p (v := (Value.bool (decide (x3 < (r1.len : Int))))) (Wn.no rfl) rfl (R.lss rfl rfl) ?_
  refine LE.nil ?_
  refine WE.condT rfl (b := (decide (x3 < (r1.len : Int)))) rfl ?_ ?_
  · intro hb14
    replace h := M.ite_t h hb14
    refine WE.skip ?_
    refine WE.seq ?_
    refine WE.block ?_
    refine WE.seq ?_
    refine WE.seq ?_
    refine WE.reg ?_
    refine LE.p (v := (Value.int .i64 (0 : Int))) (Wn.no rfl) rfl (R.assign rfl) ?_
    refine LE.nil ?_
    refine WE.block ?_
    obtain ⟨I20, ⟨n19, h⟩, hr21⟩ := h
    refine WE.loop (fun n e w => ∃ (x15 : Int), I20 n x15 w ∧ e 1 = (SV.v r1) ∧ e 2 = (Value.int .i64 x3) ∧ e 3 = (Value.int .i64 x15)) n19 ⟨_, h, f12, f13, rfl⟩ ?_
    clear h
    rintro n19 e18 w17 ⟨x15, h, f24, f25, f26⟩
    replace h := hr21 n19 x15 w17 h
    refine WE.seq ?_
    refine WE.seq ?_
    refine WE.reg ?_
    refine LE.p (v := (Value.int .i64 x15)) (Wn.no rfl) rfl (R.move f26) ?_
    refine LE.p (v := (SV.v r1)) (Wn.no rfl) rfl (R.move f24) ?_
    refine LE.p (v := (Value.int .i64 (r1.len : Int))) (Wn.no rfl) rfl (R.len sl22 rfl) ?_
    refine LE.p (v := (Value.bool (decide (x15 < (r1.len : Int))))) (Wn.no rfl) rfl (R.lss rfl rfl) ?_
    refine LE.nil ?_
    refine WE.condT rfl (b := (decide (x15 < (r1.len : Int)))) rfl ?_ ?_
    · intro hb27
      replace h := M.ite_t h hb27
      refine WE.skip ?_
      refine WE.seq ?_
      refine WE.block ?_
      refine WE.seq ?_
      refine WE.seq ?_
      refine WE.draw mix ?_
      obtain ⟨w28, hww28, h⟩ := M.drew_use h
      rw [← hww28]
      clear hww28
      refine DE.t 0 (v := (SV.v r1)) rfl (by kernel_rfl) (Wn.no rfl) rfl (R.move f24) ?_
      refine DE.t 1 (v := (Value.int .i64 x3)) rfl (by kernel_rfl) (Wn.no rfl) rfl (R.move f25) ?_
      obtain ⟨a29, h30, h31, h32, h⟩ := h
      refine DE.t 2 (v := (Value.pointer (some (a29.add (x3.toNat * 1))))) rfl (by kernel_rfl) (Wn.no rfl) rfl (R.idx (s := r1) sl22 rfl rfl h30 h31 h32) ?_
      refine DE.t 4 (v := (SV.v r1)) rfl (by kernel_rfl) (Wn.no rfl) rfl (R.move f24) ?_
      refine DE.t 5 (v := (Value.int .i64 x15)) rfl (by kernel_rfl) (Wn.no rfl) rfl (R.move f26) ?_
      obtain ⟨a33, h34, h35, h36, h⟩ := h
      refine DE.t 6 (v := (Value.pointer (some (a33.add (x15.toNat * 1))))) rfl (by kernel_rfl) (Wn.no rfl) rfl (R.idx (s := r1) sl22 rfl rfl h34 h35 h36) ?_
      obtain ⟨t37, h38, h⟩ := h
      refine DE.hold 3 (fun w => w.cell? (a29.add (x3.toNat * 1)) = some (Value.float .f64 t37)) (v := (Value.float .f64 t37)) rfl (by kernel_rfl) (Wn.no rfl) rfl h38 (fun w hs => R.ld sc26 rfl hs) ?_
      obtain ⟨t39, h40, h⟩ := h
      refine DE.main 7 (by kernel_rfl) ?_
      refine One.r 7 (v := (Value.float .f64 t39)) rfl (Wn.no rfl) rfl (R.ld sc26 rfl h40) (.inl rfl) ?_
      refine DE.main 8 (by kernel_rfl) ?_
      refine One.c 8 rfl (Wn.no rfl) rfl (R.call bd20 (Ls.cons rfl (Ls.cons rfl Ls.nil)) rfl) (Calls.mono h ?_)
      rintro _ w42 ⟨r41, rfl, h⟩
      refine ⟨_, rfl, ⟨aftT (by kernel_rfl), trivial⟩, ?_⟩
      refine DE.t 9 (v := (Value.bool (!r41))) rfl (by kernel_rfl) (Wn.no rfl) rfl (R.not rfl) ?_
      refine DE.done (by kernel_rfl) ?_
      refine WE.condT rfl (b := (!r41)) rfl ?_ ?_
      · intro hb43
        replace h := M.ite_t h hb43
        refine WE.seq ?_
        refine WE.reg ?_
        refine LE.p (v := (Value.bool false)) (Wn.no rfl) rfl (R.assign rfl) ?_
        refine LE.nil ?_
        refine WE.ret ?_
        exact ⟨_, (Res.tmp rfl Res.nil), _, rfl, h⟩
      · intro hb43
        replace h := M.ite_f h hb43
        refine WE.skip ?_
        refine WE.seq ?_
        refine WE.reg ?_
        refine LE.p (v := (Value.int .i64 (-1 : Int))) (Wn.no rfl) rfl (R.assign rfl) ?_
        refine LE.nil ?_
        refine WE.block ?_
        obtain ⟨I49, ⟨n48, h⟩, hr50⟩ := h
        refine WE.loop (fun n e w => ∃ (x44 : Int), I49 n x44 w ∧ e 1 = (SV.v r1) ∧ e 2 = (Value.int .i64 x3) ∧ e 3 = (Value.int .i64 x15) ∧ e 4 = (Value.int .i64 x44)) n48 ⟨_, h, f24, f25, f26, rfl⟩ ?_
        clear h
        rintro n48 e47 w46 ⟨x44, h, f53, f54, f55, f56⟩
        replace h := hr50 n48 x44 w46 h
        refine WE.seq ?_
        refine WE.seq ?_
        refine WE.reg ?_
        refine LE.p (v := (Value.int .i64 x44)) (Wn.no rfl) rfl (R.move f56) ?_
        refine LE.p (v := (Value.bool (decide (x44 < (20 : Int))))) (Wn.no rfl) rfl (R.lss rfl rfl) ?_
        refine LE.nil ?_
        refine WE.condT rfl (b := (decide (x44 < (20 : Int)))) rfl ?_ ?_
        · intro hb57
          replace h := M.ite_t h hb57
          refine WE.skip ?_
          refine WE.seq ?_
          refine WE.block ?_
          refine WE.seq ?_
          refine WE.draw mix ?_
          obtain ⟨w58, hww58, h⟩ := M.drew_use h
          rw [← hww58]
          clear hww58
          refine DE.t 0 (v := (SV.v r1)) rfl (by kernel_rfl) (Wn.no rfl) rfl (R.move f53) ?_
          refine DE.t 1 (v := (Value.int .i64 x3)) rfl (by kernel_rfl) (Wn.no rfl) rfl (R.move f54) ?_
          obtain ⟨a59, h60, h61, h62, h⟩ := h
          refine DE.t 2 (v := (Value.pointer (some (a59.add (x3.toNat * 1))))) rfl (by kernel_rfl) (Wn.no rfl) rfl (R.idx (s := r1) sl22 rfl rfl h60 h61 h62) ?_
          refine DE.t 4 (v := (SV.v r1)) rfl (by kernel_rfl) (Wn.no rfl) rfl (R.move f53) ?_
          refine DE.t 5 (v := (Value.int .i64 x15)) rfl (by kernel_rfl) (Wn.no rfl) rfl (R.move f55) ?_
          obtain ⟨a63, h64, h65, h66, h⟩ := h
          refine DE.t 6 (v := (Value.pointer (some (a63.add (x15.toNat * 1))))) rfl (by kernel_rfl) (Wn.no rfl) rfl (R.idx (s := r1) sl22 rfl rfl h64 h65 h66) ?_
          refine DE.t 8 (v := (SV.v r1)) rfl (by kernel_rfl) (Wn.no rfl) rfl (R.move f53) ?_
          refine DE.t 9 (v := (Value.int .i64 x3)) rfl (by kernel_rfl) (Wn.no rfl) rfl (R.move f54) ?_
          obtain ⟨a67, h68, h69, h70, h⟩ := h
          refine DE.t 10 (v := (Value.pointer (some (a67.add (x3.toNat * 1))))) rfl (by kernel_rfl) (Wn.no rfl) rfl (R.idx (s := r1) sl22 rfl rfl h68 h69 h70) ?_
          obtain ⟨t71, h72, h⟩ := h
          refine DE.hold 3 (fun w => w.cell? (a59.add (x3.toNat * 1)) = some (Value.float .f64 t71)) (v := (Value.float .f64 t71)) rfl (by kernel_rfl) (Wn.no rfl) rfl h72 (fun w hs => R.ld sc26 rfl hs) ?_
          obtain ⟨t73, h74, h⟩ := h
          refine DE.hold 7 (fun w => w.cell? (a63.add (x15.toNat * 1)) = some (Value.float .f64 t73)) (v := (Value.float .f64 t73)) rfl (by kernel_rfl) (Wn.no rfl) rfl h74 (fun w hs => R.ld sc26 rfl hs) ?_
          obtain ⟨t75, h76, h⟩ := h
          refine DE.main 11 (by kernel_rfl) ?_
          refine One.r 11 (v := (Value.float .f64 t75)) rfl (Wn.no rfl) rfl (R.ld sc26 rfl h76) (.inl rfl) ?_
          obtain ⟨b79, hpb79, w77, hww77, h⟩ := M.new_use h
          refine DE.main 12 (by kernel_rfl) ?_
          refine One.r 12 (v := (SV.v (SV.mk (some b79) 4 4))) rfl (Wn.no rfl) rfl (R.bsl (by exact (Ls.cons (R.Pr rfl) (Ls.cons (R.Pr rfl) (Ls.cons (R.Pr rfl) (Ls.cons (R.Pr rfl) Ls.nil))))) (fun w => bs22_4 t71 t73 (4607182418800017408 : Nat) t75 w) hpb79 hww77) (.inr ⟨aftT (by kernel_rfl), aftT (by kernel_rfl), trivial⟩) ?_
          refine DE.t 13 (v := (SV.v (SV.mk (some b79) 4 4))) rfl (by kernel_rfl) (Wn.no rfl) rfl (R.assign rfl) ?_
          refine DE.done (by kernel_rfl) ?_
          refine WE.seq ?_
          refine WE.reg ?_
          refine LE.p (v := (SV.v (SV.mk (some b79) 4 4))) (Wn.no rfl) rfl (R.move rfl) ?_
          refine LE.p (v := (Value.int .i64 x44)) (Wn.no rfl) rfl (R.move f56) ?_
          refine LE.c (Wn.no rfl) rfl (R.call bd11 (Ls.cons rfl (Ls.cons rfl Ls.nil)) rfl) (Calls.mono h ?_)
          rintro _ w81 ⟨r80, rfl, h⟩
          refine ⟨_, rfl, ?_⟩
          refine LE.p (v := (SV.v (SV.mk (some b79) 4 4))) (Wn.no rfl) rfl (R.move rfl) ?_
          refine LE.p (v := (Value.int .i64 x44)) (Wn.no rfl) rfl (R.move f56) ?_
          refine LE.c (Wn.no rfl) rfl (R.call bd22 (Ls.cons rfl (Ls.cons rfl Ls.nil)) rfl) (Calls.mono h ?_)
          rintro _ w83 ⟨r82, rfl, h⟩
          refine ⟨_, rfl, ?_⟩
          refine LE.c (Wn.no rfl) rfl (R.call bd14 (Ls.cons rfl (Ls.cons rfl Ls.nil)) rfl) (Calls.mono h ?_)
          rintro _ w85 ⟨r84, rfl, h⟩
          refine ⟨_, rfl, ?_⟩
          refine LE.p (v := (Value.bool (!r84))) (Wn.no rfl) rfl (R.not rfl) ?_
          refine LE.nil ?_
          refine WE.condT rfl (b := (!r84)) rfl ?_ ?_
          · intro hb86
            replace h := M.ite_t h hb86
            refine WE.seq ?_
            refine WE.reg ?_
            refine LE.p (v := (Value.bool false)) (Wn.no rfl) rfl (R.assign rfl) ?_
            refine LE.nil ?_
            refine WE.ret ?_
            exact ⟨_, (Res.tmp rfl Res.nil), _, rfl, h⟩
          · intro hb86
            replace h := M.ite_f h hb86
            refine WE.skip ?_
            refine WE.reg ?_
            refine LE.p (v := (Value.int .i64 x44)) (Wn.no rfl) rfl (R.move f56) ?_
            refine LE.p (v := (Value.int .i64 (IntKind.i64.wrap (x44 + (1 : Int))))) (Wn.no rfl) rfl (R.add rfl rfl) ?_
            refine LE.p (v := (Value.int .i64 (IntKind.i64.wrap (x44 + (1 : Int))))) (Wn.no rfl) rfl (R.assign rfl) ?_
            refine LE.nil ?_
            obtain ⟨m51, hm52, h⟩ := h
            exact ⟨m51, hm52, _, h, f53, f54, f55, rfl⟩
        · intro hb57
          replace h := M.ite_f h hb57
          refine WE.exit ?_
          refine WE.reg ?_
          refine LE.p (v := (Value.int .i64 x15)) (Wn.no rfl) rfl (R.move f55) ?_
          refine LE.p (v := (Value.int .i64 (IntKind.i64.wrap (x15 + (1 : Int))))) (Wn.no rfl) rfl (R.add rfl rfl) ?_
          refine LE.p (v := (Value.int .i64 (IntKind.i64.wrap (x15 + (1 : Int))))) (Wn.no rfl) rfl (R.assign rfl) ?_
          refine LE.nil ?_
          obtain ⟨m22, hm23, h⟩ := h
          exact ⟨m22, hm23, _, h, f53, f54, rfl⟩
    · intro hb27
      replace h := M.ite_f h hb27
      refine WE.exit ?_
      refine WE.seq ?_
      refine WE.reg ?_
      refine LE.p (v := (SV.v r1)) (Wn.no rfl) rfl (R.move f24) ?_
      refine LE.p (v := (Value.int .i64 x3)) (Wn.no rfl) rfl (R.move f25) ?_
      obtain ⟨a87, h88, h89, h90, h⟩ := h
      refine LE.p (v := (Value.pointer (some (a87.add (x3.toNat * 1))))) (Wn.no rfl) rfl (R.idx (s := r1) sl22 rfl rfl h88 h89 h90) ?_
      obtain ⟨t91, h92, h⟩ := h
      refine LE.r (v := (Value.float .f64 t91)) (Wn.no rfl) rfl (R.ld sc26 rfl h92) ?_
      refine LE.p (v := (Value.int .u64 (t91 : Int))) (Wn.no rfl) rfl (R.callx (xt30 t91) (by exact (Ls.cons rfl Ls.nil)) rfl) ?_
      refine LE.c (Wn.no rfl) rfl (R.call bd17 (Ls.cons rfl Ls.nil) rfl) (Calls.mono h ?_)
      rintro _ w95 ⟨r93, r94, rfl, h⟩
      refine ⟨_, rfl, ?_⟩
      refine LE.p (v := (Value.tuple #[(Value.float .f64 r93), (Value.bool r94)])) (Wn.no rfl) rfl (R.move rfl) ?_
      refine LE.p (v := (Value.float .f64 r93)) (Wn.no rfl) rfl (R.ext rfl rfl) ?_
      refine LE.p (v := (Value.bool r94)) (Wn.no rfl) rfl (R.ext rfl rfl) ?_
      refine LE.p (v := (Value.float .f64 r93)) (Wn.no rfl) rfl (R.assign rfl) ?_
      refine LE.p (v := (Value.bool r94)) (Wn.no rfl) rfl (R.assign rfl) ?_
      refine LE.nil ?_
      refine WE.seq ?_
      refine WE.reg ?_
      refine LE.p (v := (SV.v r1)) (Wn.no rfl) rfl (R.move f24) ?_
      refine LE.p (v := (Value.int .i64 x3)) (Wn.no rfl) rfl (R.move f25) ?_
      obtain ⟨a96, h97, h98, h99, h⟩ := h
      refine LE.p (v := (Value.pointer (some (a96.add (x3.toNat * 1))))) (Wn.no rfl) rfl (R.idx (s := r1) sl22 rfl rfl h97 h98 h99) ?_
      obtain ⟨t100, h101, h⟩ := h
      refine LE.r (v := (Value.float .f64 t100)) (Wn.no rfl) rfl (R.ld sc26 rfl h101) ?_
      refine LE.p (v := (Value.int .u64 (t100 : Int))) (Wn.no rfl) rfl (R.callx (xt30 t100) (by exact (Ls.cons rfl Ls.nil)) rfl) ?_
      refine LE.c (Wn.no rfl) rfl (R.call bd18 (Ls.cons rfl Ls.nil) rfl) (Calls.mono h ?_)
      rintro _ w104 ⟨r102, r103, rfl, h⟩
      refine ⟨_, rfl, ?_⟩
      refine LE.p (v := (Value.tuple #[(Value.float .f64 r102), (Value.bool r103)])) (Wn.no rfl) rfl (R.move rfl) ?_
      refine LE.p (v := (Value.float .f64 r102)) (Wn.no rfl) rfl (R.ext rfl rfl) ?_
      refine LE.p (v := (Value.bool r103)) (Wn.no rfl) rfl (R.ext rfl rfl) ?_
      refine LE.p (v := (Value.float .f64 r102)) (Wn.no rfl) rfl (R.assign rfl) ?_
      refine LE.p (v := (Value.bool r103)) (Wn.no rfl) rfl (R.assign rfl) ?_
      refine LE.nil ?_
      refine WE.seq ?_
      obtain ⟨J105, hJ105, h⟩ := M.join_use h
      refine WE.regJ (fun e w => ∃ (x106 : Bool), J105 x106 w ∧ e 1 = (SV.v r1) ∧ e 2 = (Value.int .i64 x3) ∧ e 84 = (Value.bool x106)) ?_ ?_
      · clear hJ105
        refine LE.p (v := (Value.float .f64 r93)) (Wn.no rfl) rfl (R.move rfl) ?_
        refine LE.p (v := (Value.float .f64 r102)) (Wn.no rfl) rfl (R.move rfl) ?_
        refine LE.c (Wn.no rfl) rfl (R.call bd21 (Ls.cons rfl (Ls.cons rfl Ls.nil)) rfl) (Calls.mono h ?_)
        rintro _ w108 ⟨r107, rfl, h⟩
        refine ⟨_, rfl, ?_⟩
        refine LE.p (v := (Value.bool (!r107))) (Wn.no rfl) rfl (R.not rfl) ?_
        refine LE.p (v := (Value.bool (!r107))) (Wn.no rfl) rfl (R.move rfl) ?_
        rcases M.ite_use h with ⟨hb109, h⟩ | ⟨hb109, h⟩
        · refine LE.u (Un.no 4 80 false rfl rfl rfl (congrArg Value.bool hb109)) ?_
          refine LE.u (Un.no 4 80 false rfl rfl rfl (congrArg Value.bool hb109)) ?_
          refine LE.u (Un.no 4 80 false rfl rfl rfl (congrArg Value.bool hb109)) ?_
          refine LE.p (v := (Value.bool true)) (Wn.no rfl) rfl (R.pickT (congrArg Value.bool hb109) rfl) ?_
          refine LE.nil ?_
          exact ⟨_, h, f24, f25, rfl⟩
        · refine LE.p (v := (Value.bool r94)) (Wn.yes 4 80 false rfl rfl rfl (congrArg Value.bool hb109)) rfl (R.move rfl) ?_
          refine LE.p (v := (Value.bool r103)) (Wn.yes 4 80 false rfl rfl rfl (congrArg Value.bool hb109)) rfl (R.move rfl) ?_
          refine LE.p (v := (Value.bool (!(r94 == r103)))) (Wn.yes 4 80 false rfl rfl rfl (congrArg Value.bool hb109)) rfl (R.bneq bo4 rfl rfl) ?_
          refine LE.p (v := (Value.bool (!(r94 == r103)))) (Wn.no rfl) rfl (R.pickF (congrArg Value.bool hb109) rfl) ?_
          refine LE.nil ?_
          exact ⟨_, h, f24, f25, rfl⟩
      · rintro e110 w111 ⟨x106, h, f112, f113, f114⟩
        subst hJ105
        refine WE.condT rfl (b := x106) f114 ?_ ?_
        · intro hb115
          replace h := M.ite_t h hb115
          refine WE.seq ?_
          refine WE.reg ?_
          refine LE.p (v := (Value.bool false)) (Wn.no rfl) rfl (R.assign rfl) ?_
          refine LE.nil ?_
          refine WE.ret ?_
          exact ⟨_, (Res.tmp rfl Res.nil), _, rfl, h⟩
        · intro hb115
          replace h := M.ite_f h hb115
          refine WE.skip ?_
          refine WE.reg ?_
          refine LE.p (v := (Value.int .i64 x3)) (Wn.no rfl) rfl (R.move f113) ?_
          refine LE.p (v := (Value.int .i64 (IntKind.i64.wrap (x3 + (1 : Int))))) (Wn.no rfl) rfl (R.add rfl rfl) ?_
          refine LE.p (v := (Value.int .i64 (IntKind.i64.wrap (x3 + (1 : Int))))) (Wn.no rfl) rfl (R.assign rfl) ?_
          refine LE.nil ?_
          obtain ⟨m10, hm11, h⟩ := h
          exact ⟨m10, hm11, _, h, f112, rfl⟩
  · intro hb14
    replace h := M.ite_f h hb14
    refine WE.exit ?_
    refine WE.seq ?_
    obtain ⟨J116, hJ116, h⟩ := M.join_use h
    refine WE.regJ (fun e w => ∃ (x117 : Bool), J116 x117 w ∧ e 0 = (Value.bool x117)) ?_ ?_
    · clear hJ116
      refine LE.p (v := (SV.v r1)) (Wn.no rfl) rfl (R.move f12) ?_
      refine LE.c (Wn.no rfl) rfl (R.call bd11 (Ls.cons rfl (Ls.cons rfl Ls.nil)) rfl) (Calls.mono h ?_)
      rintro _ w119 ⟨r118, rfl, h⟩
      refine ⟨_, rfl, ?_⟩
      refine LE.p (v := (SV.v r1)) (Wn.no rfl) rfl (R.move f12) ?_
      refine LE.c (Wn.no rfl) rfl (R.call bd22 (Ls.cons rfl (Ls.cons rfl Ls.nil)) rfl) (Calls.mono h ?_)
      rintro _ w121 ⟨r120, rfl, h⟩
      refine ⟨_, rfl, ?_⟩
      refine LE.c (Wn.no rfl) rfl (R.call bd14 (Ls.cons rfl (Ls.cons rfl Ls.nil)) rfl) (Calls.mono h ?_)
      rintro _ w123 ⟨r122, rfl, h⟩
      refine ⟨_, rfl, ?_⟩
      refine LE.p (v := (Value.bool r122)) (Wn.no rfl) rfl (R.move rfl) ?_
      rcases M.ite_use h with ⟨hb124, h⟩ | ⟨hb124, h⟩
      · refine LE.c (Wn.yes 5 90 true rfl rfl rfl (congrArg Value.bool hb124)) rfl (R.call bd11 (Ls.cons rfl (Ls.cons rfl Ls.nil)) rfl) (Calls.mono h ?_)
        rintro _ w126 ⟨r125, rfl, h⟩
        refine ⟨_, rfl, ?_⟩
        refine LE.p (v := (Value.int .i64 (r125.len : Int))) (Wn.yes 5 90 true rfl rfl rfl (congrArg Value.bool hb124)) rfl (R.len sl24 rfl) ?_
        refine LE.p (v := (Value.bool ((r125.len : Int) == (0 : Int)))) (Wn.yes 5 90 true rfl rfl rfl (congrArg Value.bool hb124)) rfl (R.eql rfl rfl) ?_
        refine LE.p (v := (Value.bool ((r125.len : Int) == (0 : Int)))) (Wn.no rfl) rfl (R.pickT (congrArg Value.bool hb124) rfl) ?_
        refine LE.p (v := (Value.bool ((r125.len : Int) == (0 : Int)))) (Wn.no rfl) rfl (R.move rfl) ?_
        rcases M.ite_use h with ⟨hb127, h⟩ | ⟨hb127, h⟩
        · refine LE.c (Wn.yes 10 95 true rfl rfl rfl (congrArg Value.bool hb127)) rfl (R.call bd12 Ls.nil rfl) (Calls.mono h ?_)
          rintro _ w129 ⟨r128, rfl, h⟩
          refine ⟨_, rfl, ?_⟩
          refine LE.p (v := (Value.bool r128)) (Wn.no rfl) rfl (R.pickT (congrArg Value.bool hb127) rfl) ?_
          refine LE.p (v := (Value.bool r128)) (Wn.no rfl) rfl (R.assign rfl) ?_
          refine LE.nil ?_
          exact ⟨_, h, rfl⟩
        · refine LE.u (Un.no 10 95 true rfl rfl rfl (congrArg Value.bool hb127)) ?_
          refine LE.p (v := (Value.bool false)) (Wn.no rfl) rfl (R.pickF (congrArg Value.bool hb127) rfl) ?_
          refine LE.p (v := (Value.bool false)) (Wn.no rfl) rfl (R.assign rfl) ?_
          refine LE.nil ?_
          exact ⟨_, h, rfl⟩
      · refine LE.u (Un.no 5 90 true rfl rfl rfl (congrArg Value.bool hb124)) ?_
        refine LE.u (Un.no 5 90 true rfl rfl rfl (congrArg Value.bool hb124)) ?_
        refine LE.u (Un.no 5 90 true rfl rfl rfl (congrArg Value.bool hb124)) ?_
        refine LE.p (v := (Value.bool false)) (Wn.no rfl) rfl (R.pickF (congrArg Value.bool hb124) rfl) ?_
        refine LE.p (v := (Value.bool false)) (Wn.no rfl) rfl (R.move rfl) ?_
        refine LE.u (Un.no 10 95 true rfl rfl rfl rfl) ?_
        refine LE.p (v := (Value.bool false)) (Wn.no rfl) rfl (R.pickF rfl rfl) ?_
        refine LE.p (v := (Value.bool false)) (Wn.no rfl) rfl (R.assign rfl) ?_
        refine LE.nil ?_
        exact ⟨_, h, rfl⟩
    · rintro e130 w131 ⟨x117, h, f132⟩
      subst hJ116
      refine WE.ret ?_
      exact ⟨_, (Res.tmp f132 Res.nil), _, rfl, h⟩
/-- The formula of signpost.signpostbook.Within. -/
def F10 (p0 : Int) (p1 : Int) (p2 : Int) (K : Int → World → Prop) (w0 : World) : Prop :=
M.nz (IntKind.i64.wrap ((IntKind.i64.wrap (p2 - p1)) + (1 : Int))) <|
M.join (fun (x3 : Int) (w6 : World) => 
K (IntKind.i64.wrap (p1 + x3)) w6) fun J2 => 
M.ite (decide ((Int.tmod p0 (IntKind.i64.wrap ((IntKind.i64.wrap (p2 - p1)) + (1 : Int)))) < (0 : Int))) (
J2 (IntKind.i64.wrap ((IntKind.i64.wrap ((IntKind.i64.wrap ((Int.tmod p0 (IntKind.i64.wrap ((IntKind.i64.wrap (p2 - p1)) + (1 : Int)))) + p2)) - p1)) + (1 : Int))) w0) (
J2 (Int.tmod p0 (IntKind.i64.wrap ((IntKind.i64.wrap (p2 - p1)) + (1 : Int)))) w0)
theorem F10_ok {w0 : World} {p0 : Int} {p1 : Int} {p2 : Int} {K : Int → World → Prop} (h : F10 p0 p1 p2 K w0) : Calls Try.prog 10 #[(Value.int .i64 p0), (Value.int .i64 p1), (Value.int .i64 p2)] w0 (R10 K) := by
  refine calls_of_WE (args := [(Value.int .i64 p0), (Value.int .i64 p1), (Value.int .i64 p2)]) (rs := [.tmp 6]) Try.func10 rfl (N := 24) rfl rfl rfl rfl ?_
  refine WE.seq ?_
  refine WE.reg ?_
  refine LE.p (v := (Value.int .i64 (0 : Int))) (Wn.no rfl) rfl (R.assign rfl) ?_
  refine LE.nil ?_
  refine WE.seq ?_
  refine WE.reg ?_
  refine LE.p (v := (Value.int .i64 p0)) (Wn.no rfl) rfl (R.move rfl) ?_
  refine LE.p (v := (Value.int .i64 p2)) (Wn.no rfl) rfl (R.move rfl) ?_
  refine LE.p (v := (Value.int .i64 p1)) (Wn.no rfl) rfl (R.move rfl) ?_
  refine LE.p (v := (Value.int .i64 (IntKind.i64.wrap (p2 - p1)))) (Wn.no rfl) rfl (R.sub rfl rfl) ?_
  refine LE.p (v := (Value.int .i64 (IntKind.i64.wrap ((IntKind.i64.wrap (p2 - p1)) + (1 : Int))))) (Wn.no rfl) rfl (R.add rfl rfl) ?_
  obtain ⟨h1, h⟩ := h
  refine LE.p (v := (Value.int .i64 (Int.tmod p0 (IntKind.i64.wrap ((IntKind.i64.wrap (p2 - p1)) + (1 : Int)))))) (Wn.no rfl) rfl (R.rem rfl rfl h1) ?_
  refine LE.p (v := (Value.int .i64 (Int.tmod p0 (IntKind.i64.wrap ((IntKind.i64.wrap (p2 - p1)) + (1 : Int)))))) (Wn.no rfl) rfl (R.assign rfl) ?_
  refine LE.nil ?_
  obtain ⟨J2, hJ2, h⟩ := M.join_use h
  refine WE.join (fun e w => ∃ (x3 : Int), J2 x3 w ∧ e 0 = (Value.int .i64 x3) ∧ e 1 = (Value.int .i64 p1)) ?_ ?_
  · clear hJ2
    refine WE.seq ?_
    refine WE.reg ?_
    refine LE.p (v := (Value.int .i64 (Int.tmod p0 (IntKind.i64.wrap ((IntKind.i64.wrap (p2 - p1)) + (1 : Int)))))) (Wn.no rfl) rfl (R.move rfl) ?_
    refine LE.p (v := (Value.bool (decide ((Int.tmod p0 (IntKind.i64.wrap ((IntKind.i64.wrap (p2 - p1)) + (1 : Int)))) < (0 : Int))))) (Wn.no rfl) rfl (R.lss rfl rfl) ?_
    refine LE.nil ?_
    refine WE.condT rfl (b := (decide ((Int.tmod p0 (IntKind.i64.wrap ((IntKind.i64.wrap (p2 - p1)) + (1 : Int)))) < (0 : Int)))) rfl ?_ ?_
    · intro hb4
      replace h := M.ite_t h hb4
      refine WE.reg ?_
      refine LE.p (v := (Value.int .i64 (Int.tmod p0 (IntKind.i64.wrap ((IntKind.i64.wrap (p2 - p1)) + (1 : Int)))))) (Wn.no rfl) rfl (R.move rfl) ?_
      refine LE.p (v := (Value.int .i64 p2)) (Wn.no rfl) rfl (R.move rfl) ?_
      refine LE.p (v := (Value.int .i64 (IntKind.i64.wrap ((Int.tmod p0 (IntKind.i64.wrap ((IntKind.i64.wrap (p2 - p1)) + (1 : Int)))) + p2)))) (Wn.no rfl) rfl (R.add rfl rfl) ?_
      refine LE.p (v := (Value.int .i64 p1)) (Wn.no rfl) rfl (R.move rfl) ?_
      refine LE.p (v := (Value.int .i64 (IntKind.i64.wrap ((IntKind.i64.wrap ((Int.tmod p0 (IntKind.i64.wrap ((IntKind.i64.wrap (p2 - p1)) + (1 : Int)))) + p2)) - p1)))) (Wn.no rfl) rfl (R.sub rfl rfl) ?_
      refine LE.p (v := (Value.int .i64 (IntKind.i64.wrap ((IntKind.i64.wrap ((IntKind.i64.wrap ((Int.tmod p0 (IntKind.i64.wrap ((IntKind.i64.wrap (p2 - p1)) + (1 : Int)))) + p2)) - p1)) + (1 : Int))))) (Wn.no rfl) rfl (R.add rfl rfl) ?_
      refine LE.p (v := (Value.int .i64 (IntKind.i64.wrap ((IntKind.i64.wrap ((IntKind.i64.wrap ((Int.tmod p0 (IntKind.i64.wrap ((IntKind.i64.wrap (p2 - p1)) + (1 : Int)))) + p2)) - p1)) + (1 : Int))))) (Wn.no rfl) rfl (R.assign rfl) ?_
      refine LE.nil ?_
      exact ⟨_, h, rfl, rfl⟩
    · intro hb4
      replace h := M.ite_f h hb4
      refine WE.skip ?_
      exact ⟨_, h, rfl, rfl⟩
  · rintro e5 w6 ⟨x3, h, f7, f8⟩
    subst hJ2
    refine WE.seq ?_
    refine WE.reg ?_
    refine LE.p (v := (Value.int .i64 p1)) (Wn.no rfl) rfl (R.move f8) ?_
    refine LE.p (v := (Value.int .i64 x3)) (Wn.no rfl) rfl (R.move f7) ?_
    refine LE.p (v := (Value.int .i64 (IntKind.i64.wrap (p1 + x3)))) (Wn.no rfl) rfl (R.add rfl rfl) ?_
    refine LE.p (v := (Value.int .i64 (IntKind.i64.wrap (p1 + x3)))) (Wn.no rfl) rfl (R.assign rfl) ?_
    refine LE.nil ?_
    refine WE.ret ?_
    exact ⟨_, (Res.tmp rfl Res.nil), _, rfl, h⟩
/-- The formula of signpost.metric.Shares. -/
def F11 (p0 : SV) (p1 : Int) (K : SV → World → Prop) (w0 : World) : Prop :=
M.mk Try.prog 24 (Value.int .i64 (p0.len : Int)) (Value.int .i64 (p0.len : Int)) w0 fun s1 w2 =>
Calls Try.prog 31 #[(SV.v p0)] w2 (R31 fun r4 w5 =>
Calls Try.prog 32 #[(SV.v r4)] w5 (R32 fun r6 w7 =>
M.join (fun (x9 : Bool) (w12 : World) => 
M.ite x9 (
K s1 w12) (
M.mk Try.prog 51 (Value.int .i64 (r4.len : Int)) (Value.int .i64 (r4.len : Int)) w12 fun s19 w20 =>
M.loop1 (fun (J23 : Int → World → Prop) (x22 : Int) (w24 : World) => 
M.ite (decide (x22 < (r4.len : Int))) (
M.idx r4 x22 1 fun a40 =>
M.ld (Value.float .f64) (a40.add (x22.toNat * 1)) w24 fun t44 =>
M.idx s19 x22 1 fun a46 =>
M.st (a46.add (x22.toNat * 1)) (Value.bool (fGtr t44 (0 : Nat))) w24 fun w50 =>
J23 (IntKind.i64.wrap (x22 + (1 : Int))) w50) (
M.join (fun (x54 : Nat) (w110 : World) => 
M.loop2 (fun (J118 : Int → Int → World → Prop) (x116 : Int) (x117 : Int) (w119 : World) => 
M.ite (decide (x117 < (r4.len : Int))) (
M.idx r4 x117 1 fun a135 =>
M.ld (Value.float .f64) (a135.add (x117.toNat * 1)) w119 fun t139 =>
M.fl .quo t139 x54 fun r141 =>
M.fl .mul r141 (fOfInt (min p1 (1000 : Int))) fun r143 =>
M.f2i r143 .i64 fun r145 =>
M.idx s1 x117 1 fun a147 =>
M.st (a147.add (x117.toNat * 1)) (Value.int .i64 (min r145 (min p1 (1000 : Int)))) w119 fun w151 =>
M.idx s1 x117 1 fun a154 =>
M.ld (Value.int .i64) (a154.add (x117.toNat * 1)) w151 fun t158 =>
J118 (IntKind.i64.wrap (x116 - t158)) (IntKind.i64.wrap (x117 + (1 : Int))) w151) (
M.loop2 (fun (J162 : Int → Int → World → Prop) (x160 : Int) (x161 : Int) (w163 : World) => 
M.ite (decide (x161 < (s1.len : Int))) (
M.join (fun (x177 : Int) (w211 : World) => 
J162 x177 (IntKind.i64.wrap (x161 + (1 : Int))) w211) fun J176 => 
M.join (fun (x179 : Bool) (w188 : World) => 
M.ite x179 (
M.idx s1 x161 1 fun a197 =>
M.ld (Value.int .i64) (a197.add (x161.toNat * 1)) w188 fun t201 =>
M.idx s1 x161 1 fun a203 =>
M.st (a203.add (x161.toNat * 1)) (Value.int .i64 (IntKind.i64.wrap (t201 + (1 : Int)))) w188 fun w207 =>
J176 (IntKind.i64.wrap (x160 - (1 : Int))) w207) (
J176 x160 w188)) fun J178 => 
M.idx s19 x161 1 fun a180 =>
M.ld Value.bool (a180.add (x161.toNat * 1)) w163 fun t184 =>
M.ite t184 (
J178 (decide ((0 : Int) < x160)) w163) (
J178 false w163)) (
K s1 w163)) x116 (0 : Int) w119)) (min p1 (1000 : Int)) (0 : Int) w110) fun J53 => 
Calls Try.prog 13 #[(Value.float .f64 r6), (Value.int .i64 (1 : Int))] w24 (R13 fun r55 w56 =>
M.ite r55 (
M.loop1 (fun (J59 : Int → World → Prop) (x58 : Int) (w60 : World) => 
M.ite (decide (x58 < (r4.len : Int))) (
M.loop1 (fun (J75 : Int → World → Prop) (x74 : Int) (w76 : World) => 
M.ite (decide (x74 < (64 : Int))) (
M.idx r4 x58 1 fun a92 =>
M.ld (Value.float .f64) (a92.add (x58.toNat * 1)) w76 fun t96 =>
M.fl .quo t96 (4611686018427387904 : Nat) fun r98 =>
M.idx r4 x58 1 fun a100 =>
M.st (a100.add (x58.toNat * 1)) (Value.float .f64 r98) w76 fun w104 =>
J75 (IntKind.i64.wrap (x74 + (1 : Int))) w104) (
J59 (IntKind.i64.wrap (x58 + (1 : Int))) w76)) (0 : Int) w60) (
Calls Try.prog 32 #[(SV.v r4)] w60 (R32 fun r107 w108 =>
J53 r107 w108))) (0 : Int) w56) (
J53 r6 w56)))) (0 : Int) w20)) fun J8 => 
M.ite (decide ((min p1 (1000 : Int)) < (1 : Int))) (
J8 true w7) (
J8 (fEql r6 (0 : Nat)) w7)))
theorem F11_ok {w0 : World} {p0 : SV} {p1 : Int} {K : SV → World → Prop} (h : F11 p0 p1 K w0) : Calls Try.prog 11 #[(SV.v p0), (Value.int .i64 p1)] w0 (R11 K) := by
  refine calls_of_WE (args := [(SV.v p0), (Value.int .i64 p1)]) (rs := [.tmp 4]) Try.func11 rfl (N := 122) rfl rfl rfl rfl ?_
  refine WE.seq ?_
  refine WE.reg ?_
  refine LE.p (v := (SV.v SV.nil)) (Wn.no rfl) rfl (R.assign rfl) ?_
  refine LE.nil ?_
  refine WE.seq ?_
  refine WE.reg ?_
  refine LE.p (v := (SV.v p0)) (Wn.no rfl) rfl (R.move rfl) ?_
  refine LE.p (v := (Value.int .i64 (p0.len : Int))) (Wn.no rfl) rfl (R.len sl22 rfl) ?_
  obtain ⟨s1, w2, h3, h⟩ := h
  refine LE.r (v := (SV.v s1)) (Wn.no rfl) rfl (R.mks rfl rfl h3) ?_
  refine LE.p (v := (SV.v s1)) (Wn.no rfl) rfl (R.assign rfl) ?_
  refine LE.nil ?_
  refine WE.seq ?_
  refine WE.reg ?_
  refine LE.p (v := (Value.int .i64 p1)) (Wn.no rfl) rfl (R.move rfl) ?_
  refine LE.p (v := (Value.int .i64 (min p1 (1000 : Int)))) (Wn.no rfl) rfl (R.min2 rfl rfl) ?_
  refine LE.p (v := (Value.int .i64 (min p1 (1000 : Int)))) (Wn.no rfl) rfl (R.assign rfl) ?_
  refine LE.nil ?_
  refine WE.seq ?_
  refine WE.reg ?_
  refine LE.p (v := (SV.v p0)) (Wn.no rfl) rfl (R.move rfl) ?_
  refine LE.c (Wn.no rfl) rfl (R.call bd31 (Ls.cons rfl Ls.nil) rfl) (Calls.mono h ?_)
  rintro _ w5 ⟨r4, rfl, h⟩
  refine ⟨_, rfl, ?_⟩
  refine LE.p (v := (SV.v r4)) (Wn.no rfl) rfl (R.assign rfl) ?_
  refine LE.nil ?_
  refine WE.seq ?_
  refine WE.reg ?_
  refine LE.p (v := (SV.v r4)) (Wn.no rfl) rfl (R.move rfl) ?_
  refine LE.c (Wn.no rfl) rfl (R.call bd32 (Ls.cons rfl Ls.nil) rfl) (Calls.mono h ?_)
  rintro _ w7 ⟨r6, rfl, h⟩
  refine ⟨_, rfl, ?_⟩
  refine LE.p (v := (Value.float .f64 r6)) (Wn.no rfl) rfl (R.assign rfl) ?_
  refine LE.nil ?_
  refine WE.seq ?_
  refine WE.seq ?_
  obtain ⟨J8, hJ8, h⟩ := M.join_use h
  refine WE.regJ (fun e w => ∃ (x9 : Bool), J8 x9 w ∧ e 1 = (Value.int .i64 (min p1 (1000 : Int))) ∧ e 5 = (SV.v s1) ∧ e 6 = (SV.v r4) ∧ e 7 = (Value.float .f64 r6) ∧ e 30 = (Value.bool x9)) ?_ ?_
  · clear hJ8
    refine LE.p (v := (Value.int .i64 (min p1 (1000 : Int)))) (Wn.no rfl) rfl (R.move rfl) ?_
    refine LE.p (v := (Value.bool (decide ((min p1 (1000 : Int)) < (1 : Int))))) (Wn.no rfl) rfl (R.lss rfl rfl) ?_
    refine LE.p (v := (Value.bool (decide ((min p1 (1000 : Int)) < (1 : Int))))) (Wn.no rfl) rfl (R.move rfl) ?_
    rcases M.ite_use h with ⟨hb10, h⟩ | ⟨hb10, h⟩
    · refine LE.u (Un.no 2 27 false rfl rfl rfl (congrArg Value.bool hb10)) ?_
      refine LE.u (Un.no 2 27 false rfl rfl rfl (congrArg Value.bool hb10)) ?_
      refine LE.p (v := (Value.bool true)) (Wn.no rfl) rfl (R.pickT (congrArg Value.bool hb10) rfl) ?_
      refine LE.nil ?_
      exact ⟨_, h, rfl, rfl, rfl, rfl, rfl⟩
    · refine LE.p (v := (Value.float .f64 r6)) (Wn.yes 2 27 false rfl rfl rfl (congrArg Value.bool hb10)) rfl (R.move rfl) ?_
      refine LE.p (v := (Value.bool (fEql r6 (0 : Nat)))) (Wn.yes 2 27 false rfl rfl rfl (congrArg Value.bool hb10)) rfl (R.feql rfl rfl) ?_
      refine LE.p (v := (Value.bool (fEql r6 (0 : Nat)))) (Wn.no rfl) rfl (R.pickF (congrArg Value.bool hb10) rfl) ?_
      refine LE.nil ?_
      exact ⟨_, h, rfl, rfl, rfl, rfl, rfl⟩
  · rintro e11 w12 ⟨x9, h, f13, f14, f15, f16, f17⟩
    subst hJ8
    refine WE.condT rfl (b := x9) f17 ?_ ?_
    · intro hb18
      replace h := M.ite_t h hb18
      refine WE.seq ?_
      refine WE.reg ?_
      refine LE.p (v := (SV.v s1)) (Wn.no rfl) rfl (R.move f14) ?_
      refine LE.p (v := (SV.v s1)) (Wn.no rfl) rfl (R.assign rfl) ?_
      refine LE.nil ?_
      refine WE.ret ?_
      exact ⟨_, (Res.tmp rfl Res.nil), _, rfl, h⟩
    · intro hb18
      replace h := M.ite_f h hb18
      refine WE.skip ?_
      refine WE.seq ?_
      refine WE.reg ?_
      refine LE.p (v := (SV.v r4)) (Wn.no rfl) rfl (R.move f15) ?_
      refine LE.p (v := (Value.int .i64 (r4.len : Int))) (Wn.no rfl) rfl (R.len sl22 rfl) ?_
      obtain ⟨s19, w20, h21, h⟩ := h
      refine LE.r (v := (SV.v s19)) (Wn.no rfl) rfl (R.mks rfl rfl h21) ?_
      refine LE.p (v := (SV.v s19)) (Wn.no rfl) rfl (R.assign rfl) ?_
      refine LE.nil ?_
      refine WE.seq ?_
      refine WE.seq ?_
      refine WE.reg ?_
      refine LE.p (v := (SV.v r4)) (Wn.no rfl) rfl (R.move f15) ?_
      refine LE.p (v := (Value.int .i64 (r4.len : Int))) (Wn.no rfl) rfl (R.len sl22 rfl) ?_
      refine LE.p (v := (Value.int .i64 (0 : Int))) (Wn.no rfl) rfl (R.move rfl) ?_
      refine LE.nil ?_
      refine WE.block ?_
      obtain ⟨I27, ⟨n26, h⟩, hr28⟩ := h
      refine WE.loop (fun n e w => ∃ (x22 : Int), I27 n x22 w ∧ e 1 = (Value.int .i64 (min p1 (1000 : Int))) ∧ e 5 = (SV.v s1) ∧ e 6 = (SV.v r4) ∧ e 7 = (Value.float .f64 r6) ∧ e 8 = (SV.v s19) ∧ e 35 = (SV.v r4) ∧ e 36 = (Value.int .i64 (r4.len : Int)) ∧ e 37 = (Value.int .i64 x22)) n26 ⟨_, h, f13, f14, f15, f16, rfl, rfl, rfl, rfl⟩ ?_
      clear h
      rintro n26 e25 w24 ⟨x22, h, f31, f32, f33, f34, f35, f36, f37, f38⟩
      replace h := hr28 n26 x22 w24 h
      refine WE.seq ?_
      refine WE.reg ?_
      refine LE.p (v := (Value.bool (decide (x22 < (r4.len : Int))))) (Wn.no rfl) rfl (R.lss f38 f37) ?_
      refine LE.nil ?_
      refine WE.seq ?_
      refine WE.condT rfl (b := (decide (x22 < (r4.len : Int)))) rfl ?_ ?_
      · intro hb39
        replace h := M.ite_t h hb39
        refine WE.skip ?_
        refine WE.seq ?_
        refine WE.block ?_
        refine WE.seq ?_
        refine WE.reg ?_
        refine LE.p (v := (Value.int .i64 x22)) (Wn.no rfl) rfl (R.move f38) ?_
        obtain ⟨a40, h41, h42, h43, h⟩ := h
        refine LE.p (v := (Value.pointer (some (a40.add (x22.toNat * 1))))) (Wn.no rfl) rfl (R.idx (s := r4) sl22 f36 f38 h41 h42 h43) ?_
        obtain ⟨t44, h45, h⟩ := h
        refine LE.r (v := (Value.float .f64 t44)) (Wn.no rfl) rfl (R.ld sc26 rfl h45) ?_
        refine LE.p (v := (Value.int .i64 x22)) (Wn.no rfl) rfl (R.assign rfl) ?_
        refine LE.p (v := (Value.float .f64 t44)) (Wn.no rfl) rfl (R.assign rfl) ?_
        refine LE.nil ?_
        refine WE.reg ?_
        refine LE.p (v := (SV.v s19)) (Wn.no rfl) rfl (R.move f35) ?_
        refine LE.p (v := (Value.int .i64 x22)) (Wn.no rfl) rfl (R.move rfl) ?_
        refine LE.p (v := (Value.float .f64 t44)) (Wn.no rfl) rfl (R.move rfl) ?_
        refine LE.p (v := (Value.bool (fGtr t44 (0 : Nat)))) (Wn.no rfl) rfl (R.fgtr rfl rfl) ?_
        obtain ⟨a46, h47, h48, h49, h⟩ := h
        refine LE.p (v := (Value.pointer (some (a46.add (x22.toNat * 1))))) (Wn.no rfl) rfl (R.idx (s := s19) sl51 rfl rfl h47 h48 h49) ?_
        obtain ⟨w50, hww50, h51, h52, h⟩ := M.st_use h
        refine LE.s (Wn.no rfl) rfl (R.st (a := (a46.add (x22.toNat * 1))) (v := (Value.bool (fGtr t44 (0 : Nat)))) sz4 rfl rfl rfl rfl h51 h52 hww50) ?_
        refine LE.nil ?_
        refine WE.reg ?_
        refine LE.p (v := (Value.int .i64 (IntKind.i64.wrap (x22 + (1 : Int))))) (Wn.no rfl) rfl (R.add f38 rfl) ?_
        refine LE.p (v := (Value.int .i64 (IntKind.i64.wrap (x22 + (1 : Int))))) (Wn.no rfl) rfl (R.move rfl) ?_
        refine LE.nil ?_
        obtain ⟨m29, hm30, h⟩ := h
        exact ⟨m29, hm30, _, h, f31, f32, f33, f34, f35, f36, f37, rfl⟩
      · intro hb39
        replace h := M.ite_f h hb39
        refine WE.exit ?_
        obtain ⟨J53, hJ53, h⟩ := M.join_use h
        refine WE.join (fun e w => ∃ (x54 : Nat), J53 x54 w ∧ e 1 = (Value.int .i64 (min p1 (1000 : Int))) ∧ e 5 = (SV.v s1) ∧ e 6 = (SV.v r4) ∧ e 7 = (Value.float .f64 x54) ∧ e 8 = (SV.v s19)) ?_ ?_
        · clear hJ53
          refine WE.seq ?_
          refine WE.reg ?_
          refine LE.p (v := (Value.float .f64 r6)) (Wn.no rfl) rfl (R.move f34) ?_
          refine LE.c (Wn.no rfl) rfl (R.call bd13 (Ls.cons rfl (Ls.cons rfl Ls.nil)) rfl) (Calls.mono h ?_)
          rintro _ w56 ⟨r55, rfl, h⟩
          refine ⟨_, rfl, ?_⟩
          refine LE.nil ?_
          refine WE.condT rfl (b := r55) rfl ?_ ?_
          · intro hb57
            replace h := M.ite_t h hb57
            refine WE.seq ?_
            refine WE.seq ?_
            refine WE.reg ?_
            refine LE.p (v := (SV.v r4)) (Wn.no rfl) rfl (R.move f33) ?_
            refine LE.p (v := (Value.int .i64 (r4.len : Int))) (Wn.no rfl) rfl (R.len sl22 rfl) ?_
            refine LE.p (v := (Value.int .i64 (0 : Int))) (Wn.no rfl) rfl (R.move rfl) ?_
            refine LE.nil ?_
            refine WE.block ?_
            obtain ⟨I63, ⟨n62, h⟩, hr64⟩ := h
            refine WE.loop (fun n e w => ∃ (x58 : Int), I63 n x58 w ∧ e 1 = (Value.int .i64 (min p1 (1000 : Int))) ∧ e 5 = (SV.v s1) ∧ e 6 = (SV.v r4) ∧ e 8 = (SV.v s19) ∧ e 51 = (Value.int .i64 (r4.len : Int)) ∧ e 52 = (Value.int .i64 x58)) n62 ⟨_, h, f31, f32, f33, f35, rfl, rfl⟩ ?_
            clear h
            rintro n62 e61 w60 ⟨x58, h, f67, f68, f69, f70, f71, f72⟩
            replace h := hr64 n62 x58 w60 h
            refine WE.seq ?_
            refine WE.reg ?_
            refine LE.p (v := (Value.bool (decide (x58 < (r4.len : Int))))) (Wn.no rfl) rfl (R.lss f72 f71) ?_
            refine LE.nil ?_
            refine WE.seq ?_
            refine WE.condT rfl (b := (decide (x58 < (r4.len : Int)))) rfl ?_ ?_
            · intro hb73
              replace h := M.ite_t h hb73
              refine WE.skip ?_
              refine WE.seq ?_
              refine WE.block ?_
              refine WE.seq ?_
              refine WE.reg ?_
              refine LE.p (v := (Value.int .i64 x58)) (Wn.no rfl) rfl (R.move f72) ?_
              refine LE.p (v := (Value.int .i64 x58)) (Wn.no rfl) rfl (R.assign rfl) ?_
              refine LE.nil ?_
              refine WE.seq ?_
              refine WE.reg ?_
              refine LE.p (v := (Value.int .i64 (0 : Int))) (Wn.no rfl) rfl (R.move rfl) ?_
              refine LE.nil ?_
              refine WE.block ?_
              obtain ⟨I79, ⟨n78, h⟩, hr80⟩ := h
              refine WE.loop (fun n e w => ∃ (x74 : Int), I79 n x74 w ∧ e 1 = (Value.int .i64 (min p1 (1000 : Int))) ∧ e 5 = (SV.v s1) ∧ e 6 = (SV.v r4) ∧ e 8 = (SV.v s19) ∧ e 11 = (Value.int .i64 x58) ∧ e 51 = (Value.int .i64 (r4.len : Int)) ∧ e 52 = (Value.int .i64 x58) ∧ e 55 = (Value.int .i64 x74)) n78 ⟨_, h, f67, f68, f69, f70, rfl, f71, f72, rfl⟩ ?_
              clear h
              rintro n78 e77 w76 ⟨x74, h, f83, f84, f85, f86, f87, f88, f89, f90⟩
              replace h := hr80 n78 x74 w76 h
              refine WE.seq ?_
              refine WE.reg ?_
              refine LE.p (v := (Value.bool (decide (x74 < (64 : Int))))) (Wn.no rfl) rfl (R.lss f90 rfl) ?_
              refine LE.nil ?_
              refine WE.seq ?_
              refine WE.condT rfl (b := (decide (x74 < (64 : Int)))) rfl ?_ ?_
              · intro hb91
                replace h := M.ite_t h hb91
                refine WE.skip ?_
                refine WE.seq ?_
                refine WE.block ?_
                refine WE.reg ?_
                refine LE.p (v := (SV.v r4)) (Wn.no rfl) rfl (R.move f85) ?_
                refine LE.p (v := (Value.int .i64 x58)) (Wn.no rfl) rfl (R.move f87) ?_
                refine LE.p (v := (SV.v r4)) (Wn.no rfl) rfl (R.move f85) ?_
                refine LE.p (v := (Value.int .i64 x58)) (Wn.no rfl) rfl (R.move f87) ?_
                obtain ⟨a92, h93, h94, h95, h⟩ := h
                refine LE.p (v := (Value.pointer (some (a92.add (x58.toNat * 1))))) (Wn.no rfl) rfl (R.idx (s := r4) sl22 rfl rfl h93 h94 h95) ?_
                obtain ⟨t96, h97, h⟩ := h
                refine LE.r (v := (Value.float .f64 t96)) (Wn.no rfl) rfl (R.ld sc26 rfl h97) ?_
                obtain ⟨r98, h99, h⟩ := h
                refine LE.p (v := (Value.float .f64 r98)) (Wn.no rfl) rfl (R.farith h99 rfl rfl) ?_
                obtain ⟨a100, h101, h102, h103, h⟩ := h
                refine LE.p (v := (Value.pointer (some (a100.add (x58.toNat * 1))))) (Wn.no rfl) rfl (R.idx (s := r4) sl22 rfl rfl h101 h102 h103) ?_
                obtain ⟨w104, hww104, h105, h106, h⟩ := M.st_use h
                refine LE.s (Wn.no rfl) rfl (R.st (a := (a100.add (x58.toNat * 1))) (v := (Value.float .f64 r98)) sz26 rfl rfl rfl rfl h105 h106 hww104) ?_
                refine LE.nil ?_
                refine WE.reg ?_
                refine LE.p (v := (Value.int .i64 (IntKind.i64.wrap (x74 + (1 : Int))))) (Wn.no rfl) rfl (R.add f90 rfl) ?_
                refine LE.p (v := (Value.int .i64 (IntKind.i64.wrap (x74 + (1 : Int))))) (Wn.no rfl) rfl (R.move rfl) ?_
                refine LE.nil ?_
                obtain ⟨m81, hm82, h⟩ := h
                exact ⟨m81, hm82, _, h, f83, f84, f85, f86, f87, f88, f89, rfl⟩
              · intro hb91
                replace h := M.ite_f h hb91
                refine WE.exit ?_
                refine WE.reg ?_
                refine LE.p (v := (Value.int .i64 (IntKind.i64.wrap (x58 + (1 : Int))))) (Wn.no rfl) rfl (R.add f89 rfl) ?_
                refine LE.p (v := (Value.int .i64 (IntKind.i64.wrap (x58 + (1 : Int))))) (Wn.no rfl) rfl (R.move rfl) ?_
                refine LE.nil ?_
                obtain ⟨m65, hm66, h⟩ := h
                exact ⟨m65, hm66, _, h, f83, f84, f85, f86, f88, rfl⟩
            · intro hb73
              replace h := M.ite_f h hb73
              refine WE.exit ?_
              refine WE.reg ?_
              refine LE.p (v := (SV.v r4)) (Wn.no rfl) rfl (R.move f69) ?_
              refine LE.c (Wn.no rfl) rfl (R.call bd32 (Ls.cons rfl Ls.nil) rfl) (Calls.mono h ?_)
              rintro _ w108 ⟨r107, rfl, h⟩
              refine ⟨_, rfl, ?_⟩
              refine LE.p (v := (Value.float .f64 r107)) (Wn.no rfl) rfl (R.assign rfl) ?_
              refine LE.nil ?_
              exact ⟨_, h, f67, f68, f69, rfl, f70⟩
          · intro hb57
            replace h := M.ite_f h hb57
            refine WE.skip ?_
            exact ⟨_, h, f31, f32, f33, f34, f35⟩
        · rintro e109 w110 ⟨x54, h, f111, f112, f113, f114, f115⟩
          subst hJ53
          refine WE.seq ?_
          refine WE.reg ?_
          refine LE.p (v := (Value.int .i64 (min p1 (1000 : Int)))) (Wn.no rfl) rfl (R.move f111) ?_
          refine LE.p (v := (Value.int .i64 (min p1 (1000 : Int)))) (Wn.no rfl) rfl (R.assign rfl) ?_
          refine LE.nil ?_
          refine WE.seq ?_
          refine WE.seq ?_
          refine WE.reg ?_
          refine LE.p (v := (SV.v r4)) (Wn.no rfl) rfl (R.move f113) ?_
          refine LE.p (v := (Value.int .i64 (r4.len : Int))) (Wn.no rfl) rfl (R.len sl22 rfl) ?_
          refine LE.p (v := (Value.int .i64 (0 : Int))) (Wn.no rfl) rfl (R.move rfl) ?_
          refine LE.nil ?_
          refine WE.block ?_
          obtain ⟨I122, ⟨n121, h⟩, hr123⟩ := h
          refine WE.loop (fun n e w => ∃ (x116 : Int) (x117 : Int), I122 n x116 x117 w ∧ e 1 = (Value.int .i64 (min p1 (1000 : Int))) ∧ e 5 = (SV.v s1) ∧ e 6 = (SV.v r4) ∧ e 7 = (Value.float .f64 x54) ∧ e 8 = (SV.v s19) ∧ e 12 = (Value.int .i64 x116) ∧ e 71 = (Value.int .i64 (r4.len : Int)) ∧ e 72 = (Value.int .i64 x117)) n121 ⟨_, _, h, f111, f112, f113, f114, f115, rfl, rfl, rfl⟩ ?_
          clear h
          rintro n121 e120 w119 ⟨x116, x117, h, f126, f127, f128, f129, f130, f131, f132, f133⟩
          replace h := hr123 n121 x116 x117 w119 h
          refine WE.seq ?_
          refine WE.reg ?_
          refine LE.p (v := (Value.bool (decide (x117 < (r4.len : Int))))) (Wn.no rfl) rfl (R.lss f133 f132) ?_
          refine LE.nil ?_
          refine WE.seq ?_
          refine WE.condT rfl (b := (decide (x117 < (r4.len : Int)))) rfl ?_ ?_
          · intro hb134
            replace h := M.ite_t h hb134
            refine WE.skip ?_
            refine WE.seq ?_
            refine WE.block ?_
            refine WE.seq ?_
            refine WE.reg ?_
            refine LE.p (v := (Value.int .i64 x117)) (Wn.no rfl) rfl (R.move f133) ?_
            refine LE.p (v := (Value.int .i64 x117)) (Wn.no rfl) rfl (R.assign rfl) ?_
            refine LE.nil ?_
            refine WE.seq ?_
            refine WE.reg ?_
            refine LE.p (v := (SV.v r4)) (Wn.no rfl) rfl (R.move f128) ?_
            refine LE.p (v := (Value.int .i64 x117)) (Wn.no rfl) rfl (R.move rfl) ?_
            obtain ⟨a135, h136, h137, h138, h⟩ := h
            refine LE.p (v := (Value.pointer (some (a135.add (x117.toNat * 1))))) (Wn.no rfl) rfl (R.idx (s := r4) sl22 rfl rfl h136 h137 h138) ?_
            obtain ⟨t139, h140, h⟩ := h
            refine LE.r (v := (Value.float .f64 t139)) (Wn.no rfl) rfl (R.ld sc26 rfl h140) ?_
            refine LE.p (v := (Value.float .f64 x54)) (Wn.no rfl) rfl (R.move f129) ?_
            obtain ⟨r141, h142, h⟩ := h
            refine LE.p (v := (Value.float .f64 r141)) (Wn.no rfl) rfl (R.farith h142 rfl rfl) ?_
            refine LE.p (v := (Value.float .f64 r141)) (Wn.no rfl) rfl (R.assign rfl) ?_
            refine LE.nil ?_
            refine WE.seq ?_
            refine WE.reg ?_
            refine LE.p (v := (Value.float .f64 r141)) (Wn.no rfl) rfl (R.move rfl) ?_
            refine LE.p (v := (Value.int .i64 (min p1 (1000 : Int)))) (Wn.no rfl) rfl (R.move f126) ?_
            refine LE.p (v := (Value.float .f64 (fOfInt (min p1 (1000 : Int))))) (Wn.no rfl) rfl (R.i2f fo26 in3 rfl) ?_
            obtain ⟨r143, h144, h⟩ := h
            refine LE.p (v := (Value.float .f64 r143)) (Wn.no rfl) rfl (R.farith h144 rfl rfl) ?_
            refine LE.p (v := (Value.float .f64 r143)) (Wn.no rfl) rfl (R.assign rfl) ?_
            refine LE.nil ?_
            refine WE.seq ?_
            refine WE.reg ?_
            refine LE.p (v := (SV.v s1)) (Wn.no rfl) rfl (R.move f127) ?_
            refine LE.p (v := (Value.int .i64 x117)) (Wn.no rfl) rfl (R.move rfl) ?_
            refine LE.p (v := (Value.float .f64 r143)) (Wn.no rfl) rfl (R.move rfl) ?_
            obtain ⟨r145, h146, h⟩ := h
            refine LE.p (v := (Value.int .i64 r145)) (Wn.no rfl) rfl (R.f2i in3 fo26 h146 rfl) ?_
            refine LE.p (v := (Value.int .i64 (min p1 (1000 : Int)))) (Wn.no rfl) rfl (R.move f126) ?_
            refine LE.p (v := (Value.int .i64 (min r145 (min p1 (1000 : Int))))) (Wn.no rfl) rfl (R.min2 rfl rfl) ?_
            obtain ⟨a147, h148, h149, h150, h⟩ := h
            refine LE.p (v := (Value.pointer (some (a147.add (x117.toNat * 1))))) (Wn.no rfl) rfl (R.idx (s := s1) sl24 rfl rfl h148 h149 h150) ?_
            obtain ⟨w151, hww151, h152, h153, h⟩ := M.st_use h
            refine LE.s (Wn.no rfl) rfl (R.st (a := (a147.add (x117.toNat * 1))) (v := (Value.int .i64 (min r145 (min p1 (1000 : Int))))) sz3 rfl rfl rfl rfl h152 h153 hww151) ?_
            refine LE.nil ?_
            refine WE.reg ?_
            refine LE.p (v := (Value.int .i64 x116)) (Wn.no rfl) rfl (R.move f131) ?_
            refine LE.p (v := (SV.v s1)) (Wn.no rfl) rfl (R.move f127) ?_
            refine LE.p (v := (Value.int .i64 x117)) (Wn.no rfl) rfl (R.move rfl) ?_
            obtain ⟨a154, h155, h156, h157, h⟩ := h
            refine LE.p (v := (Value.pointer (some (a154.add (x117.toNat * 1))))) (Wn.no rfl) rfl (R.idx (s := s1) sl24 rfl rfl h155 h156 h157) ?_
            obtain ⟨t158, h159, h⟩ := h
            refine LE.r (v := (Value.int .i64 t158)) (Wn.no rfl) rfl (R.ld sc3 rfl h159) ?_
            refine LE.p (v := (Value.int .i64 (IntKind.i64.wrap (x116 - t158)))) (Wn.no rfl) rfl (R.sub rfl rfl) ?_
            refine LE.p (v := (Value.int .i64 (IntKind.i64.wrap (x116 - t158)))) (Wn.no rfl) rfl (R.assign rfl) ?_
            refine LE.nil ?_
            refine WE.reg ?_
            refine LE.p (v := (Value.int .i64 (IntKind.i64.wrap (x117 + (1 : Int))))) (Wn.no rfl) rfl (R.add f133 rfl) ?_
            refine LE.p (v := (Value.int .i64 (IntKind.i64.wrap (x117 + (1 : Int))))) (Wn.no rfl) rfl (R.move rfl) ?_
            refine LE.nil ?_
            obtain ⟨m124, hm125, h⟩ := h
            exact ⟨m124, hm125, _, _, h, f126, f127, f128, f129, f130, rfl, f132, rfl⟩
          · intro hb134
            replace h := M.ite_f h hb134
            refine WE.exit ?_
            refine WE.seq ?_
            refine WE.seq ?_
            refine WE.reg ?_
            refine LE.p (v := (SV.v s1)) (Wn.no rfl) rfl (R.move f127) ?_
            refine LE.p (v := (Value.int .i64 (s1.len : Int))) (Wn.no rfl) rfl (R.len sl24 rfl) ?_
            refine LE.p (v := (Value.int .i64 (0 : Int))) (Wn.no rfl) rfl (R.move rfl) ?_
            refine LE.nil ?_
            refine WE.block ?_
            obtain ⟨I166, ⟨n165, h⟩, hr167⟩ := h
            refine WE.loop (fun n e w => ∃ (x160 : Int) (x161 : Int), I166 n x160 x161 w ∧ e 5 = (SV.v s1) ∧ e 8 = (SV.v s19) ∧ e 12 = (Value.int .i64 x160) ∧ e 100 = (Value.int .i64 (s1.len : Int)) ∧ e 101 = (Value.int .i64 x161)) n165 ⟨_, _, h, f127, f130, f131, rfl, rfl⟩ ?_
            clear h
            rintro n165 e164 w163 ⟨x160, x161, h, f170, f171, f172, f173, f174⟩
            replace h := hr167 n165 x160 x161 w163 h
            refine WE.seq ?_
            refine WE.reg ?_
            refine LE.p (v := (Value.bool (decide (x161 < (s1.len : Int))))) (Wn.no rfl) rfl (R.lss f174 f173) ?_
            refine LE.nil ?_
            refine WE.seq ?_
            refine WE.condT rfl (b := (decide (x161 < (s1.len : Int)))) rfl ?_ ?_
            · intro hb175
              replace h := M.ite_t h hb175
              refine WE.skip ?_
              refine WE.seq ?_
              obtain ⟨J176, hJ176, h⟩ := M.join_use h
              refine WE.blkJ (fun e w => ∃ (x177 : Int), J176 x177 w ∧ e 5 = (SV.v s1) ∧ e 8 = (SV.v s19) ∧ e 12 = (Value.int .i64 x177) ∧ e 100 = (Value.int .i64 (s1.len : Int)) ∧ e 101 = (Value.int .i64 x161)) ?_ ?_
              · clear hJ176
                refine WE.seq ?_
                refine WE.reg ?_
                refine LE.p (v := (Value.int .i64 x161)) (Wn.no rfl) rfl (R.move f174) ?_
                refine LE.p (v := (Value.int .i64 x161)) (Wn.no rfl) rfl (R.assign rfl) ?_
                refine LE.nil ?_
                refine WE.seq ?_
                obtain ⟨J178, hJ178, h⟩ := M.join_use h
                refine WE.regJ (fun e w => ∃ (x179 : Bool), J178 x179 w ∧ e 5 = (SV.v s1) ∧ e 8 = (SV.v s19) ∧ e 12 = (Value.int .i64 x160) ∧ e 15 = (Value.int .i64 x161) ∧ e 100 = (Value.int .i64 (s1.len : Int)) ∧ e 101 = (Value.int .i64 x161) ∧ e 111 = (Value.bool x179)) ?_ ?_
                · clear hJ178
                  refine LE.p (v := (SV.v s19)) (Wn.no rfl) rfl (R.move f171) ?_
                  refine LE.p (v := (Value.int .i64 x161)) (Wn.no rfl) rfl (R.move rfl) ?_
                  obtain ⟨a180, h181, h182, h183, h⟩ := h
                  refine LE.p (v := (Value.pointer (some (a180.add (x161.toNat * 1))))) (Wn.no rfl) rfl (R.idx (s := s19) sl51 rfl rfl h181 h182 h183) ?_
                  obtain ⟨t184, h185, h⟩ := h
                  refine LE.r (v := (Value.bool t184)) (Wn.no rfl) rfl (R.ld sc4 rfl h185) ?_
                  refine LE.p (v := (Value.bool t184)) (Wn.no rfl) rfl (R.move rfl) ?_
                  rcases M.ite_use h with ⟨hb186, h⟩ | ⟨hb186, h⟩
                  · refine LE.p (v := (Value.int .i64 x160)) (Wn.yes 4 108 true rfl rfl rfl (congrArg Value.bool hb186)) rfl (R.move f172) ?_
                    refine LE.p (v := (Value.bool (decide ((0 : Int) < x160)))) (Wn.yes 4 108 true rfl rfl rfl (congrArg Value.bool hb186)) rfl (R.gtr rfl rfl) ?_
                    refine LE.p (v := (Value.bool (decide ((0 : Int) < x160)))) (Wn.no rfl) rfl (R.pickT (congrArg Value.bool hb186) rfl) ?_
                    refine LE.nil ?_
                    exact ⟨_, h, f170, f171, f172, rfl, f173, f174, rfl⟩
                  · refine LE.u (Un.no 4 108 true rfl rfl rfl (congrArg Value.bool hb186)) ?_
                    refine LE.u (Un.no 4 108 true rfl rfl rfl (congrArg Value.bool hb186)) ?_
                    refine LE.p (v := (Value.bool false)) (Wn.no rfl) rfl (R.pickF (congrArg Value.bool hb186) rfl) ?_
                    refine LE.nil ?_
                    exact ⟨_, h, f170, f171, f172, rfl, f173, f174, rfl⟩
                · rintro e187 w188 ⟨x179, h, f189, f190, f191, f192, f193, f194, f195⟩
                  subst hJ178
                  refine WE.condT rfl (b := x179) f195 ?_ ?_
                  · intro hb196
                    replace h := M.ite_t h hb196
                    refine WE.seq ?_
                    refine WE.reg ?_
                    refine LE.p (v := (SV.v s1)) (Wn.no rfl) rfl (R.move f189) ?_
                    refine LE.p (v := (Value.int .i64 x161)) (Wn.no rfl) rfl (R.move f192) ?_
                    obtain ⟨a197, h198, h199, h200, h⟩ := h
                    refine LE.p (v := (Value.pointer (some (a197.add (x161.toNat * 1))))) (Wn.no rfl) rfl (R.idx (s := s1) sl24 rfl rfl h198 h199 h200) ?_
                    obtain ⟨t201, h202, h⟩ := h
                    refine LE.r (v := (Value.int .i64 t201)) (Wn.no rfl) rfl (R.ld sc3 rfl h202) ?_
                    refine LE.p (v := (Value.int .i64 (IntKind.i64.wrap (t201 + (1 : Int))))) (Wn.no rfl) rfl (R.add rfl rfl) ?_
                    obtain ⟨a203, h204, h205, h206, h⟩ := h
                    refine LE.p (v := (Value.pointer (some (a203.add (x161.toNat * 1))))) (Wn.no rfl) rfl (R.idx (s := s1) sl24 rfl rfl h204 h205 h206) ?_
                    obtain ⟨w207, hww207, h208, h209, h⟩ := M.st_use h
                    refine LE.s (Wn.no rfl) rfl (R.st (a := (a203.add (x161.toNat * 1))) (v := (Value.int .i64 (IntKind.i64.wrap (t201 + (1 : Int))))) sz3 rfl rfl rfl rfl h208 h209 hww207) ?_
                    refine LE.nil ?_
                    refine WE.reg ?_
                    refine LE.p (v := (Value.int .i64 x160)) (Wn.no rfl) rfl (R.move f191) ?_
                    refine LE.p (v := (Value.int .i64 (IntKind.i64.wrap (x160 - (1 : Int))))) (Wn.no rfl) rfl (R.sub rfl rfl) ?_
                    refine LE.p (v := (Value.int .i64 (IntKind.i64.wrap (x160 - (1 : Int))))) (Wn.no rfl) rfl (R.assign rfl) ?_
                    refine LE.nil ?_
                    exact ⟨_, h, f189, f190, rfl, f193, f194⟩
                  · intro hb196
                    replace h := M.ite_f h hb196
                    refine WE.skip ?_
                    exact ⟨_, h, f189, f190, f191, f193, f194⟩
              · rintro e210 w211 ⟨x177, h, f212, f213, f214, f215, f216⟩
                subst hJ176
                refine WE.reg ?_
                refine LE.p (v := (Value.int .i64 (IntKind.i64.wrap (x161 + (1 : Int))))) (Wn.no rfl) rfl (R.add f216 rfl) ?_
                refine LE.p (v := (Value.int .i64 (IntKind.i64.wrap (x161 + (1 : Int))))) (Wn.no rfl) rfl (R.move rfl) ?_
                refine LE.nil ?_
                obtain ⟨m168, hm169, h⟩ := h
                exact ⟨m168, hm169, _, _, h, f212, f213, f214, f215, rfl⟩
            · intro hb175
              replace h := M.ite_f h hb175
              refine WE.exit ?_
              refine WE.seq ?_
              refine WE.reg ?_
              refine LE.p (v := (SV.v s1)) (Wn.no rfl) rfl (R.move f170) ?_
              refine LE.p (v := (SV.v s1)) (Wn.no rfl) rfl (R.assign rfl) ?_
              refine LE.nil ?_
              refine WE.ret ?_
              exact ⟨_, (Res.tmp rfl Res.nil), _, rfl, h⟩
/-- The formula of signpost.signpostlaw2.known. -/
def F12  (K : Bool → World → Prop) (w0 : World) : Prop :=
M.join (fun (x2 : Bool) (w36 : World) => 
K x2 w36) fun J1 => 
M.new (.cells #[(Value.float .f64 (4607182418800017408 : Nat)), (Value.float .f64 (4607182418800017408 : Nat)), (Value.float .f64 (4607182418800017408 : Nat))] 26) w0 fun b5 w3 =>
Calls Try.prog 11 #[(SV.v (SV.mk (some b5) 3 3)), (Value.int .i64 (10 : Int))] w3 (R11 fun r6 w7 =>
M.new (.cells #[(Value.int .i64 (4 : Int)), (Value.int .i64 (3 : Int)), (Value.int .i64 (3 : Int))] 3) w7 fun b10 w8 =>
Calls Try.prog 14 #[(SV.v r6), (SV.v (SV.mk (some b10) 3 3))] w8 (R14 fun r11 w12 =>
M.ite r11 (
Calls Try.prog 33 #[(Value.int .i64 (1 : Int))] w12 (R33 fun r14 w15 =>
Calls Try.prog 33 #[(Value.int .i64 (1 : Int))] w15 (R33 fun r16 w17 =>
M.new (.cells #[(Value.float .f64 r14), (Value.float .f64 (4617315517961601024 : Nat)), (Value.float .f64 r16)] 26) w17 fun b20 w18 =>
Calls Try.prog 11 #[(SV.v (SV.mk (some b20) 3 3)), (Value.int .i64 (4 : Int))] w18 (R11 fun r21 w22 =>
M.new (.cells #[(Value.int .i64 (2 : Int)), (Value.int .i64 (0 : Int)), (Value.int .i64 (2 : Int))] 3) w22 fun b25 w23 =>
Calls Try.prog 14 #[(SV.v r21), (SV.v (SV.mk (some b25) 3 3))] w23 (R14 fun r26 w27 =>
M.ite r26 (
Calls Try.prog 33 #[(Value.int .i64 (1 : Int))] w27 (R33 fun r29 w30 =>
Calls Try.prog 15 #[(Value.float .f64 r29), (Value.float .f64 (4607182418800017408 : Nat))] w30 (R15 fun r31 w32 =>
Calls Try.prog 13 #[(Value.float .f64 r31), (Value.int .i64 (1 : Int))] w32 (R13 fun r33 w34 =>
J1 r33 w34)))) (
J1 false w27)))))) (
J1 false w12)))
theorem F12_ok {w0 : World}  {K : Bool → World → Prop} (h : F12 K w0) : Calls Try.prog 12 #[] w0 (R12 K) := by
  refine calls_of_WE (args := []) (rs := [.tmp 0]) Try.func12 rfl (N := 18) rfl rfl rfl rfl ?_
  refine WE.seq ?_
  refine WE.reg ?_
  refine LE.p (v := (Value.bool false)) (Wn.no rfl) rfl (R.assign rfl) ?_
  refine LE.nil ?_
  refine WE.seq ?_
  obtain ⟨J1, hJ1, h⟩ := M.join_use h
  refine WE.regJ (fun e w => ∃ (x2 : Bool), J1 x2 w ∧ e 0 = (Value.bool x2)) ?_ ?_
  · clear hJ1
    obtain ⟨b5, hpb5, w3, hww3, h⟩ := M.new_use h
    refine LE.r (v := (SV.v (SV.mk (some b5) 3 3))) (Wn.no rfl) rfl (R.bsl (by exact (Ls.cons (R.Pr rfl) (Ls.cons (R.Pr rfl) (Ls.cons (R.Pr rfl) Ls.nil)))) (fun w => bs22_3 (4607182418800017408 : Nat) (4607182418800017408 : Nat) (4607182418800017408 : Nat) w) hpb5 hww3) ?_
    refine LE.c (Wn.no rfl) rfl (R.call bd11 (Ls.cons rfl (Ls.cons rfl Ls.nil)) rfl) (Calls.mono h ?_)
    rintro _ w7 ⟨r6, rfl, h⟩
    refine ⟨_, rfl, ?_⟩
    obtain ⟨b10, hpb10, w8, hww8, h⟩ := M.new_use h
    refine LE.r (v := (SV.v (SV.mk (some b10) 3 3))) (Wn.no rfl) rfl (R.bsl (by exact (Ls.cons (R.Pr rfl) (Ls.cons (R.Pr rfl) (Ls.cons (R.Pr rfl) Ls.nil)))) (fun w => bs24_3 (4 : Int) (3 : Int) (3 : Int) w) hpb10 hww8) ?_
    refine LE.c (Wn.no rfl) rfl (R.call bd14 (Ls.cons rfl (Ls.cons rfl Ls.nil)) rfl) (Calls.mono h ?_)
    rintro _ w12 ⟨r11, rfl, h⟩
    refine ⟨_, rfl, ?_⟩
    refine LE.p (v := (Value.bool r11)) (Wn.no rfl) rfl (R.move rfl) ?_
    rcases M.ite_use h with ⟨hb13, h⟩ | ⟨hb13, h⟩
    · refine LE.c (Wn.yes 4 5 true rfl rfl rfl (congrArg Value.bool hb13)) rfl (R.call bd33 (Ls.cons rfl Ls.nil) rfl) (Calls.mono h ?_)
      rintro _ w15 ⟨r14, rfl, h⟩
      refine ⟨_, rfl, ?_⟩
      refine LE.c (Wn.yes 4 5 true rfl rfl rfl (congrArg Value.bool hb13)) rfl (R.call bd33 (Ls.cons rfl Ls.nil) rfl) (Calls.mono h ?_)
      rintro _ w17 ⟨r16, rfl, h⟩
      refine ⟨_, rfl, ?_⟩
      obtain ⟨b20, hpb20, w18, hww18, h⟩ := M.new_use h
      refine LE.r (v := (SV.v (SV.mk (some b20) 3 3))) (Wn.yes 4 5 true rfl rfl rfl (congrArg Value.bool hb13)) rfl (R.bsl (by exact (Ls.cons (R.Pr rfl) (Ls.cons (R.Pr rfl) (Ls.cons (R.Pr rfl) Ls.nil)))) (fun w => bs22_3 r14 (4617315517961601024 : Nat) r16 w) hpb20 hww18) ?_
      refine LE.c (Wn.yes 4 5 true rfl rfl rfl (congrArg Value.bool hb13)) rfl (R.call bd11 (Ls.cons rfl (Ls.cons rfl Ls.nil)) rfl) (Calls.mono h ?_)
      rintro _ w22 ⟨r21, rfl, h⟩
      refine ⟨_, rfl, ?_⟩
      obtain ⟨b25, hpb25, w23, hww23, h⟩ := M.new_use h
      refine LE.r (v := (SV.v (SV.mk (some b25) 3 3))) (Wn.yes 4 5 true rfl rfl rfl (congrArg Value.bool hb13)) rfl (R.bsl (by exact (Ls.cons (R.Pr rfl) (Ls.cons (R.Pr rfl) (Ls.cons (R.Pr rfl) Ls.nil)))) (fun w => bs24_3 (2 : Int) (0 : Int) (2 : Int) w) hpb25 hww23) ?_
      refine LE.c (Wn.yes 4 5 true rfl rfl rfl (congrArg Value.bool hb13)) rfl (R.call bd14 (Ls.cons rfl (Ls.cons rfl Ls.nil)) rfl) (Calls.mono h ?_)
      rintro _ w27 ⟨r26, rfl, h⟩
      refine ⟨_, rfl, ?_⟩
      refine LE.p (v := (Value.bool r26)) (Wn.no rfl) rfl (R.pickT (congrArg Value.bool hb13) rfl) ?_
      refine LE.p (v := (Value.bool r26)) (Wn.no rfl) rfl (R.move rfl) ?_
      rcases M.ite_use h with ⟨hb28, h⟩ | ⟨hb28, h⟩
      · refine LE.c (Wn.yes 12 13 true rfl rfl rfl (congrArg Value.bool hb28)) rfl (R.call bd33 (Ls.cons rfl Ls.nil) rfl) (Calls.mono h ?_)
        rintro _ w30 ⟨r29, rfl, h⟩
        refine ⟨_, rfl, ?_⟩
        refine LE.c (Wn.yes 12 13 true rfl rfl rfl (congrArg Value.bool hb28)) rfl (R.call bd15 (Ls.cons rfl (Ls.cons rfl Ls.nil)) rfl) (Calls.mono h ?_)
        rintro _ w32 ⟨r31, rfl, h⟩
        refine ⟨_, rfl, ?_⟩
        refine LE.c (Wn.yes 12 13 true rfl rfl rfl (congrArg Value.bool hb28)) rfl (R.call bd13 (Ls.cons rfl (Ls.cons rfl Ls.nil)) rfl) (Calls.mono h ?_)
        rintro _ w34 ⟨r33, rfl, h⟩
        refine ⟨_, rfl, ?_⟩
        refine LE.p (v := (Value.bool r33)) (Wn.no rfl) rfl (R.pickT (congrArg Value.bool hb28) rfl) ?_
        refine LE.p (v := (Value.bool r33)) (Wn.no rfl) rfl (R.assign rfl) ?_
        refine LE.nil ?_
        exact ⟨_, h, rfl⟩
      · refine LE.u (Un.no 12 13 true rfl rfl rfl (congrArg Value.bool hb28)) ?_
        refine LE.u (Un.no 12 13 true rfl rfl rfl (congrArg Value.bool hb28)) ?_
        refine LE.u (Un.no 12 13 true rfl rfl rfl (congrArg Value.bool hb28)) ?_
        refine LE.p (v := (Value.bool false)) (Wn.no rfl) rfl (R.pickF (congrArg Value.bool hb28) rfl) ?_
        refine LE.p (v := (Value.bool false)) (Wn.no rfl) rfl (R.assign rfl) ?_
        refine LE.nil ?_
        exact ⟨_, h, rfl⟩
    · refine LE.u (Un.no 4 5 true rfl rfl rfl (congrArg Value.bool hb13)) ?_
      refine LE.u (Un.no 4 5 true rfl rfl rfl (congrArg Value.bool hb13)) ?_
      refine LE.u (Un.no 4 5 true rfl rfl rfl (congrArg Value.bool hb13)) ?_
      refine LE.u (Un.no 4 5 true rfl rfl rfl (congrArg Value.bool hb13)) ?_
      refine LE.u (Un.no 4 5 true rfl rfl rfl (congrArg Value.bool hb13)) ?_
      refine LE.u (Un.no 4 5 true rfl rfl rfl (congrArg Value.bool hb13)) ?_
      refine LE.p (v := (Value.bool false)) (Wn.no rfl) rfl (R.pickF (congrArg Value.bool hb13) rfl) ?_
      refine LE.p (v := (Value.bool false)) (Wn.no rfl) rfl (R.move rfl) ?_
      refine LE.u (Un.no 12 13 true rfl rfl rfl rfl) ?_
      refine LE.u (Un.no 12 13 true rfl rfl rfl rfl) ?_
      refine LE.u (Un.no 12 13 true rfl rfl rfl rfl) ?_
      refine LE.p (v := (Value.bool false)) (Wn.no rfl) rfl (R.pickF rfl rfl) ?_
      refine LE.p (v := (Value.bool false)) (Wn.no rfl) rfl (R.assign rfl) ?_
      refine LE.nil ?_
      exact ⟨_, h, rfl⟩
  · rintro e35 w36 ⟨x2, h, f37⟩
    subst hJ1
    refine WE.ret ?_
    exact ⟨_, (Res.tmp f37 Res.nil), _, rfl, h⟩
/-- The formula of math.IsInf. -/
def F13 (p0 : Nat) (p1 : Int) (K : Bool → World → Prop) (w0 : World) : Prop :=
M.join (fun (x2 : Nat) (w8 : World) => 
K (fGtr x2 (9218868437227405311 : Nat)) w8) fun J1 => 
M.ite (p1 == (0 : Int)) (
Calls Try.prog 34 #[(Value.float .f64 p0)] w0 (R34 fun r4 w5 =>
J1 r4 w5)) (
M.ite (decide (p1 < (0 : Int))) (
J1 (fNeg p0) w0) (
J1 p0 w0))
theorem F13_ok {w0 : World} {p0 : Nat} {p1 : Int} {K : Bool → World → Prop} (h : F13 p0 p1 K w0) : Calls Try.prog 13 #[(Value.float .f64 p0), (Value.int .i64 p1)] w0 (R13 K) := by
  refine calls_of_WE (args := [(Value.float .f64 p0), (Value.int .i64 p1)]) (rs := [.tmp 4]) Try.func13 rfl (N := 15) rfl rfl rfl rfl ?_
  refine WE.seq ?_
  refine WE.reg ?_
  refine LE.p (v := (Value.bool false)) (Wn.no rfl) rfl (R.assign rfl) ?_
  refine LE.nil ?_
  obtain ⟨J1, hJ1, h⟩ := M.join_use h
  refine WE.join (fun e w => ∃ (x2 : Nat), J1 x2 w ∧ e 0 = (Value.float .f64 x2)) ?_ ?_
  · clear hJ1
    refine WE.seq ?_
    refine WE.reg ?_
    refine LE.p (v := (Value.int .i64 p1)) (Wn.no rfl) rfl (R.move rfl) ?_
    refine LE.p (v := (Value.bool (p1 == (0 : Int)))) (Wn.no rfl) rfl (R.eql rfl rfl) ?_
    refine LE.nil ?_
    refine WE.condT rfl (b := (p1 == (0 : Int))) rfl ?_ ?_
    · intro hb3
      replace h := M.ite_t h hb3
      refine WE.reg ?_
      refine LE.p (v := (Value.float .f64 p0)) (Wn.no rfl) rfl (R.move rfl) ?_
      refine LE.c (Wn.no rfl) rfl (R.call bd34 (Ls.cons rfl Ls.nil) rfl) (Calls.mono h ?_)
      rintro _ w5 ⟨r4, rfl, h⟩
      refine ⟨_, rfl, ?_⟩
      refine LE.p (v := (Value.float .f64 r4)) (Wn.no rfl) rfl (R.assign rfl) ?_
      refine LE.nil ?_
      exact ⟨_, h, rfl⟩
    · intro hb3
      replace h := M.ite_f h hb3
      refine WE.seq ?_
      refine WE.reg ?_
      refine LE.p (v := (Value.int .i64 p1)) (Wn.no rfl) rfl (R.move rfl) ?_
      refine LE.p (v := (Value.bool (decide (p1 < (0 : Int))))) (Wn.no rfl) rfl (R.lss rfl rfl) ?_
      refine LE.nil ?_
      refine WE.condT rfl (b := (decide (p1 < (0 : Int)))) rfl ?_ ?_
      · intro hb6
        replace h := M.ite_t h hb6
        refine WE.reg ?_
        refine LE.p (v := (Value.float .f64 p0)) (Wn.no rfl) rfl (R.move rfl) ?_
        refine LE.p (v := (Value.float .f64 (fNeg p0))) (Wn.no rfl) rfl (R.fneg rfl) ?_
        refine LE.p (v := (Value.float .f64 (fNeg p0))) (Wn.no rfl) rfl (R.assign rfl) ?_
        refine LE.nil ?_
        exact ⟨_, h, rfl⟩
      · intro hb6
        replace h := M.ite_f h hb6
        refine WE.skip ?_
        exact ⟨_, h, rfl⟩
  · rintro e7 w8 ⟨x2, h, f9⟩
    subst hJ1
    refine WE.seq ?_
    refine WE.reg ?_
    refine LE.p (v := (Value.float .f64 x2)) (Wn.no rfl) rfl (R.move f9) ?_
    refine LE.p (v := (Value.bool (fGtr x2 (9218868437227405311 : Nat)))) (Wn.no rfl) rfl (R.fgtr rfl rfl) ?_
    refine LE.p (v := (Value.bool (fGtr x2 (9218868437227405311 : Nat)))) (Wn.no rfl) rfl (R.assign rfl) ?_
    refine LE.nil ?_
    refine WE.ret ?_
    exact ⟨_, (Res.tmp rfl Res.nil), _, rfl, h⟩
/-- The formula of signpost.signpostbook.Same[int]. -/
def F14 (p0 : SV) (p1 : SV) (K : Bool → World → Prop) (w0 : World) : Prop :=
M.ite ((p0.len : Int) != (p1.len : Int)) (
K false w0) (
M.loop1 (fun (J3 : Int → World → Prop) (x2 : Int) (w4 : World) => 
M.ite (decide (x2 < (p0.len : Int))) (
M.drew w4 fun w15 => 
M.idx p0 x2 1 fun a16 =>
M.idx p1 x2 1 fun a20 =>
M.ld (Value.int .i64) (a16.add (x2.toNat * 1)) w15 fun t24 =>
M.ld (Value.int .i64) (a20.add (x2.toNat * 1)) w15 fun t26 =>
M.ite (t24 != t26) (
K false w15) (
J3 (IntKind.i64.wrap (x2 + (1 : Int))) w15)) (
K true w4)) (0 : Int) w0)
theorem F14_ok {w0 : World} {p0 : SV} {p1 : SV} {K : Bool → World → Prop} (h : F14 p0 p1 K w0) : Calls Try.prog 14 #[(SV.v p0), (SV.v p1)] w0 (R14 K) := by
  refine calls_of_WE (args := [(SV.v p0), (SV.v p1)]) (rs := [.tmp 4]) Try.func14 rfl (N := 26) rfl rfl rfl rfl ?_
  refine WE.seq ?_
  refine WE.reg ?_
  refine LE.p (v := (Value.bool false)) (Wn.no rfl) rfl (R.assign rfl) ?_
  refine LE.nil ?_
  refine WE.seq ?_
  refine WE.seq ?_
  refine WE.reg ?_
  refine LE.p (v := (SV.v p0)) (Wn.no rfl) rfl (R.move rfl) ?_
  refine LE.p (v := (Value.int .i64 (p0.len : Int))) (Wn.no rfl) rfl (R.len sl24 rfl) ?_
  refine LE.p (v := (SV.v p1)) (Wn.no rfl) rfl (R.move rfl) ?_
  refine LE.p (v := (Value.int .i64 (p1.len : Int))) (Wn.no rfl) rfl (R.len sl24 rfl) ?_
  refine LE.p (v := (Value.bool ((p0.len : Int) != (p1.len : Int)))) (Wn.no rfl) rfl (R.neq rfl rfl) ?_
  refine LE.nil ?_
  refine WE.condT rfl (b := ((p0.len : Int) != (p1.len : Int))) rfl ?_ ?_
  · intro hb1
    replace h := M.ite_t h hb1
    refine WE.seq ?_
    refine WE.reg ?_
    refine LE.p (v := (Value.bool false)) (Wn.no rfl) rfl (R.assign rfl) ?_
    refine LE.nil ?_
    refine WE.ret ?_
    exact ⟨_, (Res.tmp rfl Res.nil), _, rfl, h⟩
  · intro hb1
    replace h := M.ite_f h hb1
    refine WE.skip ?_
    refine WE.seq ?_
    refine WE.seq ?_
    refine WE.reg ?_
    refine LE.p (v := (Value.int .i64 (0 : Int))) (Wn.no rfl) rfl (R.assign rfl) ?_
    refine LE.nil ?_
    refine WE.block ?_
    obtain ⟨I7, ⟨n6, h⟩, hr8⟩ := h
    refine WE.loop (fun n e w => ∃ (x2 : Int), I7 n x2 w ∧ e 0 = (SV.v p0) ∧ e 1 = (SV.v p1) ∧ e 5 = (Value.int .i64 x2)) n6 ⟨_, h, rfl, rfl, rfl⟩ ?_
    clear h
    rintro n6 e5 w4 ⟨x2, h, f11, f12, f13⟩
    replace h := hr8 n6 x2 w4 h
    refine WE.seq ?_
    refine WE.seq ?_
    refine WE.reg ?_
    refine LE.p (v := (Value.int .i64 x2)) (Wn.no rfl) rfl (R.move f13) ?_
    refine LE.p (v := (SV.v p0)) (Wn.no rfl) rfl (R.move f11) ?_
    refine LE.p (v := (Value.int .i64 (p0.len : Int))) (Wn.no rfl) rfl (R.len sl24 rfl) ?_
    refine LE.p (v := (Value.bool (decide (x2 < (p0.len : Int))))) (Wn.no rfl) rfl (R.lss rfl rfl) ?_
    refine LE.nil ?_
    refine WE.condT rfl (b := (decide (x2 < (p0.len : Int)))) rfl ?_ ?_
    · intro hb14
      replace h := M.ite_t h hb14
      refine WE.skip ?_
      refine WE.seq ?_
      refine WE.block ?_
      refine WE.seq ?_
      refine WE.draw mix ?_
      obtain ⟨w15, hww15, h⟩ := M.drew_use h
      rw [← hww15]
      clear hww15
      refine DE.t 0 (v := (SV.v p0)) rfl (by kernel_rfl) (Wn.no rfl) rfl (R.move f11) ?_
      refine DE.t 1 (v := (Value.int .i64 x2)) rfl (by kernel_rfl) (Wn.no rfl) rfl (R.move f13) ?_
      obtain ⟨a16, h17, h18, h19, h⟩ := h
      refine DE.t 2 (v := (Value.pointer (some (a16.add (x2.toNat * 1))))) rfl (by kernel_rfl) (Wn.no rfl) rfl (R.idx (s := p0) sl24 rfl rfl h17 h18 h19) ?_
      refine DE.t 4 (v := (SV.v p1)) rfl (by kernel_rfl) (Wn.no rfl) rfl (R.move f12) ?_
      refine DE.t 5 (v := (Value.int .i64 x2)) rfl (by kernel_rfl) (Wn.no rfl) rfl (R.move f13) ?_
      obtain ⟨a20, h21, h22, h23, h⟩ := h
      refine DE.t 6 (v := (Value.pointer (some (a20.add (x2.toNat * 1))))) rfl (by kernel_rfl) (Wn.no rfl) rfl (R.idx (s := p1) sl24 rfl rfl h21 h22 h23) ?_
      obtain ⟨t24, h25, h⟩ := h
      refine DE.hold 3 (fun w => w.cell? (a16.add (x2.toNat * 1)) = some (Value.int .i64 t24)) (v := (Value.int .i64 t24)) rfl (by kernel_rfl) (Wn.no rfl) rfl h25 (fun w hs => R.ld sc3 rfl hs) ?_
      obtain ⟨t26, h27, h⟩ := h
      refine DE.main 7 (by kernel_rfl) ?_
      refine One.r 7 (v := (Value.int .i64 t26)) rfl (Wn.no rfl) rfl (R.ld sc3 rfl h27) (.inl rfl) ?_
      refine DE.t 8 (v := (Value.bool (t24 != t26))) rfl (by kernel_rfl) (Wn.no rfl) rfl (R.neq rfl rfl) ?_
      refine DE.done (by kernel_rfl) ?_
      refine WE.condT rfl (b := (t24 != t26)) rfl ?_ ?_
      · intro hb28
        replace h := M.ite_t h hb28
        refine WE.seq ?_
        refine WE.reg ?_
        refine LE.p (v := (Value.bool false)) (Wn.no rfl) rfl (R.assign rfl) ?_
        refine LE.nil ?_
        refine WE.ret ?_
        exact ⟨_, (Res.tmp rfl Res.nil), _, rfl, h⟩
      · intro hb28
        replace h := M.ite_f h hb28
        refine WE.skip ?_
        refine WE.reg ?_
        refine LE.p (v := (Value.int .i64 x2)) (Wn.no rfl) rfl (R.move f13) ?_
        refine LE.p (v := (Value.int .i64 (IntKind.i64.wrap (x2 + (1 : Int))))) (Wn.no rfl) rfl (R.add rfl rfl) ?_
        refine LE.p (v := (Value.int .i64 (IntKind.i64.wrap (x2 + (1 : Int))))) (Wn.no rfl) rfl (R.assign rfl) ?_
        refine LE.nil ?_
        obtain ⟨m9, hm10, h⟩ := h
        exact ⟨m9, hm10, _, h, f11, f12, rfl⟩
    · intro hb14
      replace h := M.ite_f h hb14
      refine WE.exit ?_
      refine WE.seq ?_
      refine WE.reg ?_
      refine LE.p (v := (Value.bool true)) (Wn.no rfl) rfl (R.assign rfl) ?_
      refine LE.nil ?_
      refine WE.ret ?_
      exact ⟨_, (Res.tmp rfl Res.nil), _, rfl, h⟩
/-- The formula of signpost.metric.Add. -/
def F15 (p0 : Nat) (p1 : Nat) (K : Nat → World → Prop) (w0 : World) : Prop :=
Calls Try.prog 28 #[(Value.float .f64 p0)] w0 (R28 fun r1 w2 =>
Calls Try.prog 28 #[(Value.float .f64 p1)] w2 (R28 fun r3 w4 =>
M.fl .add r1 r3 fun r5 =>
K r5 w4))
theorem F15_ok {w0 : World} {p0 : Nat} {p1 : Nat} {K : Nat → World → Prop} (h : F15 p0 p1 K w0) : Calls Try.prog 15 #[(Value.float .f64 p0), (Value.float .f64 p1)] w0 (R15 K) := by
  refine calls_of_WE (args := [(Value.float .f64 p0), (Value.float .f64 p1)]) (rs := [.tmp 4]) Try.func15 rfl (N := 10) rfl rfl rfl rfl ?_
  refine WE.seq ?_
  refine WE.reg ?_
  refine LE.p (v := (Value.float .f64 (0 : Nat))) (Wn.no rfl) rfl (R.assign rfl) ?_
  refine LE.nil ?_
  refine WE.seq ?_
  refine WE.reg ?_
  refine LE.p (v := (Value.float .f64 p0)) (Wn.no rfl) rfl (R.move rfl) ?_
  refine LE.c (Wn.no rfl) rfl (R.call bd28 (Ls.cons rfl Ls.nil) rfl) (Calls.mono h ?_)
  rintro _ w2 ⟨r1, rfl, h⟩
  refine ⟨_, rfl, ?_⟩
  refine LE.p (v := (Value.float .f64 p1)) (Wn.no rfl) rfl (R.move rfl) ?_
  refine LE.c (Wn.no rfl) rfl (R.call bd28 (Ls.cons rfl Ls.nil) rfl) (Calls.mono h ?_)
  rintro _ w4 ⟨r3, rfl, h⟩
  refine ⟨_, rfl, ?_⟩
  obtain ⟨r5, h6, h⟩ := h
  refine LE.p (v := (Value.float .f64 r5)) (Wn.no rfl) rfl (R.farith h6 rfl rfl) ?_
  refine LE.p (v := (Value.float .f64 r5)) (Wn.no rfl) rfl (R.assign rfl) ?_
  refine LE.nil ?_
  refine WE.ret ?_
  exact ⟨_, (Res.tmp rfl Res.nil), _, rfl, h⟩
/-- The formula of math.NaN. -/
def F16  (K : Nat → World → Prop) (w0 : World) : Prop :=
K (Int.toNat (9221120237041090561 : Int)) w0
theorem F16_ok {w0 : World}  {K : Nat → World → Prop} (h : F16 K w0) : Calls Try.prog 16 #[] w0 (R16 K) := by
  refine calls_of_WE (args := []) (rs := [.tmp 0]) Try.func16 rfl (N := 2) rfl rfl rfl rfl ?_
  refine WE.seq ?_
  refine WE.reg ?_
  refine LE.p (v := (Value.float .f64 (0 : Nat))) (Wn.no rfl) rfl (R.assign rfl) ?_
  refine LE.nil ?_
  refine WE.seq ?_
  refine WE.reg ?_
  refine LE.p (v := (Value.float .f64 (Int.toNat (9221120237041090561 : Int)))) (Wn.no rfl) rfl (R.callx (xt19 (9221120237041090561 : Int)) (by exact (Ls.cons rfl Ls.nil)) rfl) ?_
  refine LE.p (v := (Value.float .f64 (Int.toNat (9221120237041090561 : Int)))) (Wn.no rfl) rfl (R.assign rfl) ?_
  refine LE.nil ?_
  refine WE.ret ?_
  exact ⟨_, (Res.tmp rfl Res.nil), _, rfl, h⟩
/-- The formula of signpost.metric.Of. -/
def F17 (p0 : Int) (K : Nat → Bool → World → Prop) (w0 : World) : Prop :=
M.join (fun (x2 : Bool) (w9 : World) => 
M.ite x2 (
K (0 : Nat) false w9) (
K (Int.toNat p0) true w9)) fun J1 => 
Calls Try.prog 26 #[(Value.float .f64 (Int.toNat p0))] w0 (R26 fun r3 w4 =>
M.ite (!r3) (
J1 true w4) (
Calls Try.prog 24 #[(Value.float .f64 (Int.toNat p0))] w4 (R24 fun r6 w7 =>
J1 (r6 != p0) w7)))
theorem F17_ok {w0 : World} {p0 : Int} {K : Nat → Bool → World → Prop} (h : F17 p0 K w0) : Calls Try.prog 17 #[(Value.int .u64 p0)] w0 (R17 K) := by
  refine calls_of_WE (args := [(Value.int .u64 p0)]) (rs := [.tmp 2, .tmp 3]) Try.func17 rfl (N := 17) rfl rfl rfl rfl ?_
  refine WE.seq ?_
  refine WE.reg ?_
  refine LE.p (v := (Value.float .f64 (0 : Nat))) (Wn.no rfl) rfl (R.assign rfl) ?_
  refine LE.p (v := (Value.bool false)) (Wn.no rfl) rfl (R.assign rfl) ?_
  refine LE.nil ?_
  refine WE.seq ?_
  refine WE.reg ?_
  refine LE.p (v := (Value.int .u64 p0)) (Wn.no rfl) rfl (R.move rfl) ?_
  refine LE.p (v := (Value.float .f64 (Int.toNat p0))) (Wn.no rfl) rfl (R.callx (xt19 p0) (by exact (Ls.cons rfl Ls.nil)) rfl) ?_
  refine LE.p (v := (Value.float .f64 (Int.toNat p0))) (Wn.no rfl) rfl (R.assign rfl) ?_
  refine LE.nil ?_
  refine WE.seq ?_
  refine WE.seq ?_
  obtain ⟨J1, hJ1, h⟩ := M.join_use h
  refine WE.regJ (fun e w => ∃ (x2 : Bool), J1 x2 w ∧ e 4 = (Value.float .f64 (Int.toNat p0)) ∧ e 15 = (Value.bool x2)) ?_ ?_
  · clear hJ1
    refine LE.p (v := (Value.float .f64 (Int.toNat p0))) (Wn.no rfl) rfl (R.move rfl) ?_
    refine LE.c (Wn.no rfl) rfl (R.call bd26 (Ls.cons rfl Ls.nil) rfl) (Calls.mono h ?_)
    rintro _ w4 ⟨r3, rfl, h⟩
    refine ⟨_, rfl, ?_⟩
    refine LE.p (v := (Value.bool (!r3))) (Wn.no rfl) rfl (R.not rfl) ?_
    refine LE.p (v := (Value.bool (!r3))) (Wn.no rfl) rfl (R.move rfl) ?_
    rcases M.ite_use h with ⟨hb5, h⟩ | ⟨hb5, h⟩
    · refine LE.u (Un.no 3 10 false rfl rfl rfl (congrArg Value.bool hb5)) ?_
      refine LE.u (Un.no 3 10 false rfl rfl rfl (congrArg Value.bool hb5)) ?_
      refine LE.u (Un.no 3 10 false rfl rfl rfl (congrArg Value.bool hb5)) ?_
      refine LE.u (Un.no 3 10 false rfl rfl rfl (congrArg Value.bool hb5)) ?_
      refine LE.p (v := (Value.bool true)) (Wn.no rfl) rfl (R.pickT (congrArg Value.bool hb5) rfl) ?_
      refine LE.nil ?_
      exact ⟨_, h, rfl, rfl⟩
    · refine LE.p (v := (Value.float .f64 (Int.toNat p0))) (Wn.yes 3 10 false rfl rfl rfl (congrArg Value.bool hb5)) rfl (R.move rfl) ?_
      refine LE.c (Wn.yes 3 10 false rfl rfl rfl (congrArg Value.bool hb5)) rfl (R.call bd24 (Ls.cons rfl Ls.nil) rfl) (Calls.mono h ?_)
      rintro _ w7 ⟨r6, rfl, h⟩
      refine ⟨_, rfl, ?_⟩
      refine LE.p (v := (Value.int .u64 p0)) (Wn.yes 3 10 false rfl rfl rfl (congrArg Value.bool hb5)) rfl (R.move rfl) ?_
      refine LE.p (v := (Value.bool (r6 != p0))) (Wn.yes 3 10 false rfl rfl rfl (congrArg Value.bool hb5)) rfl (R.neq rfl rfl) ?_
      refine LE.p (v := (Value.bool (r6 != p0))) (Wn.no rfl) rfl (R.pickF (congrArg Value.bool hb5) rfl) ?_
      refine LE.nil ?_
      exact ⟨_, h, rfl, rfl⟩
  · rintro e8 w9 ⟨x2, h, f10, f11⟩
    subst hJ1
    refine WE.condT rfl (b := x2) f11 ?_ ?_
    · intro hb12
      replace h := M.ite_t h hb12
      refine WE.seq ?_
      refine WE.reg ?_
      refine LE.p (v := (Value.float .f64 (0 : Nat))) (Wn.no rfl) rfl (R.assign rfl) ?_
      refine LE.p (v := (Value.bool false)) (Wn.no rfl) rfl (R.assign rfl) ?_
      refine LE.nil ?_
      refine WE.ret ?_
      exact ⟨_, (Res.tmp rfl (Res.tmp rfl Res.nil)), _, _, rfl, h⟩
    · intro hb12
      replace h := M.ite_f h hb12
      refine WE.skip ?_
      refine WE.seq ?_
      refine WE.reg ?_
      refine LE.p (v := (Value.float .f64 (Int.toNat p0))) (Wn.no rfl) rfl (R.move f10) ?_
      refine LE.p (v := (Value.float .f64 (Int.toNat p0))) (Wn.no rfl) rfl (R.assign rfl) ?_
      refine LE.p (v := (Value.bool true)) (Wn.no rfl) rfl (R.assign rfl) ?_
      refine LE.nil ?_
      refine WE.ret ?_
      exact ⟨_, (Res.tmp rfl (Res.tmp rfl Res.nil)), _, _, rfl, h⟩
/-- The formula of signpost.signpostref2.Of. -/
def F18 (p0 : Int) (K : Nat → Bool → World → Prop) (w0 : World) : Prop :=
M.join (fun (x2 : Bool) (w9 : World) => 
M.ite x2 (
K (0 : Nat) false w9) (
K (Int.toNat p0) true w9)) fun J1 => 
Calls Try.prog 35 #[(Value.float .f64 (Int.toNat p0))] w0 (R35 fun r3 w4 =>
M.ite (!r3) (
J1 true w4) (
Calls Try.prog 36 #[(Value.float .f64 (Int.toNat p0))] w4 (R36 fun r6 w7 =>
J1 (r6 != p0) w7)))
theorem F18_ok {w0 : World} {p0 : Int} {K : Nat → Bool → World → Prop} (h : F18 p0 K w0) : Calls Try.prog 18 #[(Value.int .u64 p0)] w0 (R18 K) := by
  refine calls_of_WE (args := [(Value.int .u64 p0)]) (rs := [.tmp 2, .tmp 3]) Try.func18 rfl (N := 17) rfl rfl rfl rfl ?_
  refine WE.seq ?_
  refine WE.reg ?_
  refine LE.p (v := (Value.float .f64 (0 : Nat))) (Wn.no rfl) rfl (R.assign rfl) ?_
  refine LE.p (v := (Value.bool false)) (Wn.no rfl) rfl (R.assign rfl) ?_
  refine LE.nil ?_
  refine WE.seq ?_
  refine WE.reg ?_
  refine LE.p (v := (Value.int .u64 p0)) (Wn.no rfl) rfl (R.move rfl) ?_
  refine LE.p (v := (Value.float .f64 (Int.toNat p0))) (Wn.no rfl) rfl (R.callx (xt19 p0) (by exact (Ls.cons rfl Ls.nil)) rfl) ?_
  refine LE.p (v := (Value.float .f64 (Int.toNat p0))) (Wn.no rfl) rfl (R.assign rfl) ?_
  refine LE.nil ?_
  refine WE.seq ?_
  refine WE.seq ?_
  obtain ⟨J1, hJ1, h⟩ := M.join_use h
  refine WE.regJ (fun e w => ∃ (x2 : Bool), J1 x2 w ∧ e 4 = (Value.float .f64 (Int.toNat p0)) ∧ e 15 = (Value.bool x2)) ?_ ?_
  · clear hJ1
    refine LE.p (v := (Value.float .f64 (Int.toNat p0))) (Wn.no rfl) rfl (R.move rfl) ?_
    refine LE.c (Wn.no rfl) rfl (R.call bd35 (Ls.cons rfl Ls.nil) rfl) (Calls.mono h ?_)
    rintro _ w4 ⟨r3, rfl, h⟩
    refine ⟨_, rfl, ?_⟩
    refine LE.p (v := (Value.bool (!r3))) (Wn.no rfl) rfl (R.not rfl) ?_
    refine LE.p (v := (Value.bool (!r3))) (Wn.no rfl) rfl (R.move rfl) ?_
    rcases M.ite_use h with ⟨hb5, h⟩ | ⟨hb5, h⟩
    · refine LE.u (Un.no 3 10 false rfl rfl rfl (congrArg Value.bool hb5)) ?_
      refine LE.u (Un.no 3 10 false rfl rfl rfl (congrArg Value.bool hb5)) ?_
      refine LE.u (Un.no 3 10 false rfl rfl rfl (congrArg Value.bool hb5)) ?_
      refine LE.u (Un.no 3 10 false rfl rfl rfl (congrArg Value.bool hb5)) ?_
      refine LE.p (v := (Value.bool true)) (Wn.no rfl) rfl (R.pickT (congrArg Value.bool hb5) rfl) ?_
      refine LE.nil ?_
      exact ⟨_, h, rfl, rfl⟩
    · refine LE.p (v := (Value.float .f64 (Int.toNat p0))) (Wn.yes 3 10 false rfl rfl rfl (congrArg Value.bool hb5)) rfl (R.move rfl) ?_
      refine LE.c (Wn.yes 3 10 false rfl rfl rfl (congrArg Value.bool hb5)) rfl (R.call bd36 (Ls.cons rfl Ls.nil) rfl) (Calls.mono h ?_)
      rintro _ w7 ⟨r6, rfl, h⟩
      refine ⟨_, rfl, ?_⟩
      refine LE.p (v := (Value.int .u64 p0)) (Wn.yes 3 10 false rfl rfl rfl (congrArg Value.bool hb5)) rfl (R.move rfl) ?_
      refine LE.p (v := (Value.bool (r6 != p0))) (Wn.yes 3 10 false rfl rfl rfl (congrArg Value.bool hb5)) rfl (R.neq rfl rfl) ?_
      refine LE.p (v := (Value.bool (r6 != p0))) (Wn.no rfl) rfl (R.pickF (congrArg Value.bool hb5) rfl) ?_
      refine LE.nil ?_
      exact ⟨_, h, rfl, rfl⟩
  · rintro e8 w9 ⟨x2, h, f10, f11⟩
    subst hJ1
    refine WE.condT rfl (b := x2) f11 ?_ ?_
    · intro hb12
      replace h := M.ite_t h hb12
      refine WE.seq ?_
      refine WE.reg ?_
      refine LE.p (v := (Value.float .f64 (0 : Nat))) (Wn.no rfl) rfl (R.assign rfl) ?_
      refine LE.p (v := (Value.bool false)) (Wn.no rfl) rfl (R.assign rfl) ?_
      refine LE.nil ?_
      refine WE.ret ?_
      exact ⟨_, (Res.tmp rfl (Res.tmp rfl Res.nil)), _, _, rfl, h⟩
    · intro hb12
      replace h := M.ite_f h hb12
      refine WE.skip ?_
      refine WE.seq ?_
      refine WE.reg ?_
      refine LE.p (v := (Value.float .f64 (Int.toNat p0))) (Wn.no rfl) rfl (R.move f10) ?_
      refine LE.p (v := (Value.float .f64 (Int.toNat p0))) (Wn.no rfl) rfl (R.assign rfl) ?_
      refine LE.p (v := (Value.bool true)) (Wn.no rfl) rfl (R.assign rfl) ?_
      refine LE.nil ?_
      refine WE.ret ?_
      exact ⟨_, (Res.tmp rfl (Res.tmp rfl Res.nil)), _, _, rfl, h⟩
/-- The formula of signpost.signpostlaw2.same. -/
def F20 (p0 : Nat) (p1 : Nat) (K : Bool → World → Prop) (w0 : World) : Prop :=
M.join (fun (x2 : Bool) (w37 : World) => 
K x2 w37) fun J1 => 
Calls Try.prog 26 #[(Value.float .f64 p0)] w0 (R26 fun r3 w4 =>
Calls Try.prog 35 #[(Value.float .f64 p0)] w4 (R35 fun r5 w6 =>
M.ite (r3 == r5) (
Calls Try.prog 28 #[(Value.float .f64 p0)] w6 (R28 fun r8 w9 =>
Calls Try.prog 37 #[(Value.float .f64 p0)] w9 (R37 fun r10 w11 =>
Calls Try.prog 21 #[(Value.float .f64 r8), (Value.float .f64 r10)] w11 (R21 fun r12 w13 =>
M.ite r12 (
Calls Try.prog 15 #[(Value.float .f64 p0), (Value.float .f64 p1)] w13 (R15 fun r15 w16 =>
Calls Try.prog 38 #[(Value.float .f64 p0), (Value.float .f64 p1)] w16 (R38 fun r17 w18 =>
Calls Try.prog 21 #[(Value.float .f64 r15), (Value.float .f64 r17)] w18 (R21 fun r19 w20 =>
M.ite r19 (
Calls Try.prog 23 #[(Value.float .f64 p0), (Value.float .f64 p1)] w20 (R23 fun r22 w23 =>
Calls Try.prog 39 #[(Value.float .f64 p0), (Value.float .f64 p1)] w23 (R39 fun r24 w25 =>
M.ite (r22 == r24) (
Calls Try.prog 25 #[(Value.float .f64 p0), (Value.float .f64 p1)] w25 (R25 fun r27 w28 =>
Calls Try.prog 40 #[(Value.float .f64 p0), (Value.float .f64 p1)] w28 (R40 fun r29 w30 =>
M.ite (r27 == r29) (
Calls Try.prog 24 #[(Value.float .f64 p0)] w30 (R24 fun r32 w33 =>
Calls Try.prog 36 #[(Value.float .f64 p0)] w33 (R36 fun r34 w35 =>
J1 (r32 == r34) w35))) (
J1 false w30)))) (
J1 false w25)))) (
J1 false w20))))) (
J1 false w13))))) (
J1 false w6)))
theorem F20_ok {w0 : World} {p0 : Nat} {p1 : Nat} {K : Bool → World → Prop} (h : F20 p0 p1 K w0) : Calls Try.prog 20 #[(Value.float .f64 p0), (Value.float .f64 p1)] w0 (R20 K) := by
  refine calls_of_WE (args := [(Value.float .f64 p0), (Value.float .f64 p1)]) (rs := [.tmp 4]) Try.func20 rfl (N := 51) rfl rfl rfl rfl ?_
  refine WE.seq ?_
  refine WE.reg ?_
  refine LE.p (v := (Value.bool false)) (Wn.no rfl) rfl (R.assign rfl) ?_
  refine LE.nil ?_
  refine WE.seq ?_
  obtain ⟨J1, hJ1, h⟩ := M.join_use h
  refine WE.regJ (fun e w => ∃ (x2 : Bool), J1 x2 w ∧ e 4 = (Value.bool x2)) ?_ ?_
  · clear hJ1
    refine LE.p (v := (Value.float .f64 p0)) (Wn.no rfl) rfl (R.move rfl) ?_
    refine LE.c (Wn.no rfl) rfl (R.call bd26 (Ls.cons rfl Ls.nil) rfl) (Calls.mono h ?_)
    rintro _ w4 ⟨r3, rfl, h⟩
    refine ⟨_, rfl, ?_⟩
    refine LE.p (v := (Value.float .f64 p0)) (Wn.no rfl) rfl (R.move rfl) ?_
    refine LE.c (Wn.no rfl) rfl (R.call bd35 (Ls.cons rfl Ls.nil) rfl) (Calls.mono h ?_)
    rintro _ w6 ⟨r5, rfl, h⟩
    refine ⟨_, rfl, ?_⟩
    refine LE.p (v := (Value.bool (r3 == r5))) (Wn.no rfl) rfl (R.beql bo4 rfl rfl) ?_
    refine LE.p (v := (Value.bool (r3 == r5))) (Wn.no rfl) rfl (R.move rfl) ?_
    rcases M.ite_use h with ⟨hb7, h⟩ | ⟨hb7, h⟩
    · refine LE.p (v := (Value.float .f64 p0)) (Wn.yes 5 10 true rfl rfl rfl (congrArg Value.bool hb7)) rfl (R.move rfl) ?_
      refine LE.c (Wn.yes 5 10 true rfl rfl rfl (congrArg Value.bool hb7)) rfl (R.call bd28 (Ls.cons rfl Ls.nil) rfl) (Calls.mono h ?_)
      rintro _ w9 ⟨r8, rfl, h⟩
      refine ⟨_, rfl, ?_⟩
      refine LE.p (v := (Value.float .f64 p0)) (Wn.yes 5 10 true rfl rfl rfl (congrArg Value.bool hb7)) rfl (R.move rfl) ?_
      refine LE.c (Wn.yes 5 10 true rfl rfl rfl (congrArg Value.bool hb7)) rfl (R.call bd37 (Ls.cons rfl Ls.nil) rfl) (Calls.mono h ?_)
      rintro _ w11 ⟨r10, rfl, h⟩
      refine ⟨_, rfl, ?_⟩
      refine LE.c (Wn.yes 5 10 true rfl rfl rfl (congrArg Value.bool hb7)) rfl (R.call bd21 (Ls.cons rfl (Ls.cons rfl Ls.nil)) rfl) (Calls.mono h ?_)
      rintro _ w13 ⟨r12, rfl, h⟩
      refine ⟨_, rfl, ?_⟩
      refine LE.p (v := (Value.bool r12)) (Wn.no rfl) rfl (R.pickT (congrArg Value.bool hb7) rfl) ?_
      refine LE.p (v := (Value.bool r12)) (Wn.no rfl) rfl (R.move rfl) ?_
      rcases M.ite_use h with ⟨hb14, h⟩ | ⟨hb14, h⟩
      · refine LE.p (v := (Value.float .f64 p0)) (Wn.yes 12 17 true rfl rfl rfl (congrArg Value.bool hb14)) rfl (R.move rfl) ?_
        refine LE.p (v := (Value.float .f64 p1)) (Wn.yes 12 17 true rfl rfl rfl (congrArg Value.bool hb14)) rfl (R.move rfl) ?_
        refine LE.c (Wn.yes 12 17 true rfl rfl rfl (congrArg Value.bool hb14)) rfl (R.call bd15 (Ls.cons rfl (Ls.cons rfl Ls.nil)) rfl) (Calls.mono h ?_)
        rintro _ w16 ⟨r15, rfl, h⟩
        refine ⟨_, rfl, ?_⟩
        refine LE.p (v := (Value.float .f64 p0)) (Wn.yes 12 17 true rfl rfl rfl (congrArg Value.bool hb14)) rfl (R.move rfl) ?_
        refine LE.p (v := (Value.float .f64 p1)) (Wn.yes 12 17 true rfl rfl rfl (congrArg Value.bool hb14)) rfl (R.move rfl) ?_
        refine LE.c (Wn.yes 12 17 true rfl rfl rfl (congrArg Value.bool hb14)) rfl (R.call bd38 (Ls.cons rfl (Ls.cons rfl Ls.nil)) rfl) (Calls.mono h ?_)
        rintro _ w18 ⟨r17, rfl, h⟩
        refine ⟨_, rfl, ?_⟩
        refine LE.c (Wn.yes 12 17 true rfl rfl rfl (congrArg Value.bool hb14)) rfl (R.call bd21 (Ls.cons rfl (Ls.cons rfl Ls.nil)) rfl) (Calls.mono h ?_)
        rintro _ w20 ⟨r19, rfl, h⟩
        refine ⟨_, rfl, ?_⟩
        refine LE.p (v := (Value.bool r19)) (Wn.no rfl) rfl (R.pickT (congrArg Value.bool hb14) rfl) ?_
        refine LE.p (v := (Value.bool r19)) (Wn.no rfl) rfl (R.move rfl) ?_
        rcases M.ite_use h with ⟨hb21, h⟩ | ⟨hb21, h⟩
        · refine LE.p (v := (Value.float .f64 p0)) (Wn.yes 21 26 true rfl rfl rfl (congrArg Value.bool hb21)) rfl (R.move rfl) ?_
          refine LE.p (v := (Value.float .f64 p1)) (Wn.yes 21 26 true rfl rfl rfl (congrArg Value.bool hb21)) rfl (R.move rfl) ?_
          refine LE.c (Wn.yes 21 26 true rfl rfl rfl (congrArg Value.bool hb21)) rfl (R.call bd23 (Ls.cons rfl (Ls.cons rfl Ls.nil)) rfl) (Calls.mono h ?_)
          rintro _ w23 ⟨r22, rfl, h⟩
          refine ⟨_, rfl, ?_⟩
          refine LE.p (v := (Value.float .f64 p0)) (Wn.yes 21 26 true rfl rfl rfl (congrArg Value.bool hb21)) rfl (R.move rfl) ?_
          refine LE.p (v := (Value.float .f64 p1)) (Wn.yes 21 26 true rfl rfl rfl (congrArg Value.bool hb21)) rfl (R.move rfl) ?_
          refine LE.c (Wn.yes 21 26 true rfl rfl rfl (congrArg Value.bool hb21)) rfl (R.call bd39 (Ls.cons rfl (Ls.cons rfl Ls.nil)) rfl) (Calls.mono h ?_)
          rintro _ w25 ⟨r24, rfl, h⟩
          refine ⟨_, rfl, ?_⟩
          refine LE.p (v := (Value.bool (r22 == r24))) (Wn.yes 21 26 true rfl rfl rfl (congrArg Value.bool hb21)) rfl (R.beql bo4 rfl rfl) ?_
          refine LE.p (v := (Value.bool (r22 == r24))) (Wn.no rfl) rfl (R.pickT (congrArg Value.bool hb21) rfl) ?_
          refine LE.p (v := (Value.bool (r22 == r24))) (Wn.no rfl) rfl (R.move rfl) ?_
          rcases M.ite_use h with ⟨hb26, h⟩ | ⟨hb26, h⟩
          · refine LE.p (v := (Value.float .f64 p0)) (Wn.yes 30 35 true rfl rfl rfl (congrArg Value.bool hb26)) rfl (R.move rfl) ?_
            refine LE.p (v := (Value.float .f64 p1)) (Wn.yes 30 35 true rfl rfl rfl (congrArg Value.bool hb26)) rfl (R.move rfl) ?_
            refine LE.c (Wn.yes 30 35 true rfl rfl rfl (congrArg Value.bool hb26)) rfl (R.call bd25 (Ls.cons rfl (Ls.cons rfl Ls.nil)) rfl) (Calls.mono h ?_)
            rintro _ w28 ⟨r27, rfl, h⟩
            refine ⟨_, rfl, ?_⟩
            refine LE.p (v := (Value.float .f64 p0)) (Wn.yes 30 35 true rfl rfl rfl (congrArg Value.bool hb26)) rfl (R.move rfl) ?_
            refine LE.p (v := (Value.float .f64 p1)) (Wn.yes 30 35 true rfl rfl rfl (congrArg Value.bool hb26)) rfl (R.move rfl) ?_
            refine LE.c (Wn.yes 30 35 true rfl rfl rfl (congrArg Value.bool hb26)) rfl (R.call bd40 (Ls.cons rfl (Ls.cons rfl Ls.nil)) rfl) (Calls.mono h ?_)
            rintro _ w30 ⟨r29, rfl, h⟩
            refine ⟨_, rfl, ?_⟩
            refine LE.p (v := (Value.bool (r27 == r29))) (Wn.yes 30 35 true rfl rfl rfl (congrArg Value.bool hb26)) rfl (R.beql bo4 rfl rfl) ?_
            refine LE.p (v := (Value.bool (r27 == r29))) (Wn.no rfl) rfl (R.pickT (congrArg Value.bool hb26) rfl) ?_
            refine LE.p (v := (Value.bool (r27 == r29))) (Wn.no rfl) rfl (R.move rfl) ?_
            rcases M.ite_use h with ⟨hb31, h⟩ | ⟨hb31, h⟩
            · refine LE.p (v := (Value.float .f64 p0)) (Wn.yes 39 44 true rfl rfl rfl (congrArg Value.bool hb31)) rfl (R.move rfl) ?_
              refine LE.c (Wn.yes 39 44 true rfl rfl rfl (congrArg Value.bool hb31)) rfl (R.call bd24 (Ls.cons rfl Ls.nil) rfl) (Calls.mono h ?_)
              rintro _ w33 ⟨r32, rfl, h⟩
              refine ⟨_, rfl, ?_⟩
              refine LE.p (v := (Value.float .f64 p0)) (Wn.yes 39 44 true rfl rfl rfl (congrArg Value.bool hb31)) rfl (R.move rfl) ?_
              refine LE.c (Wn.yes 39 44 true rfl rfl rfl (congrArg Value.bool hb31)) rfl (R.call bd36 (Ls.cons rfl Ls.nil) rfl) (Calls.mono h ?_)
              rintro _ w35 ⟨r34, rfl, h⟩
              refine ⟨_, rfl, ?_⟩
              refine LE.p (v := (Value.bool (r32 == r34))) (Wn.yes 39 44 true rfl rfl rfl (congrArg Value.bool hb31)) rfl (R.eql rfl rfl) ?_
              refine LE.p (v := (Value.bool (r32 == r34))) (Wn.no rfl) rfl (R.pickT (congrArg Value.bool hb31) rfl) ?_
              refine LE.p (v := (Value.bool (r32 == r34))) (Wn.no rfl) rfl (R.assign rfl) ?_
              refine LE.nil ?_
              exact ⟨_, h, rfl⟩
            · refine LE.u (Un.no 39 44 true rfl rfl rfl (congrArg Value.bool hb31)) ?_
              refine LE.u (Un.no 39 44 true rfl rfl rfl (congrArg Value.bool hb31)) ?_
              refine LE.u (Un.no 39 44 true rfl rfl rfl (congrArg Value.bool hb31)) ?_
              refine LE.u (Un.no 39 44 true rfl rfl rfl (congrArg Value.bool hb31)) ?_
              refine LE.u (Un.no 39 44 true rfl rfl rfl (congrArg Value.bool hb31)) ?_
              refine LE.p (v := (Value.bool false)) (Wn.no rfl) rfl (R.pickF (congrArg Value.bool hb31) rfl) ?_
              refine LE.p (v := (Value.bool false)) (Wn.no rfl) rfl (R.assign rfl) ?_
              refine LE.nil ?_
              exact ⟨_, h, rfl⟩
          · refine LE.u (Un.no 30 35 true rfl rfl rfl (congrArg Value.bool hb26)) ?_
            refine LE.u (Un.no 30 35 true rfl rfl rfl (congrArg Value.bool hb26)) ?_
            refine LE.u (Un.no 30 35 true rfl rfl rfl (congrArg Value.bool hb26)) ?_
            refine LE.u (Un.no 30 35 true rfl rfl rfl (congrArg Value.bool hb26)) ?_
            refine LE.u (Un.no 30 35 true rfl rfl rfl (congrArg Value.bool hb26)) ?_
            refine LE.u (Un.no 30 35 true rfl rfl rfl (congrArg Value.bool hb26)) ?_
            refine LE.u (Un.no 30 35 true rfl rfl rfl (congrArg Value.bool hb26)) ?_
            refine LE.p (v := (Value.bool false)) (Wn.no rfl) rfl (R.pickF (congrArg Value.bool hb26) rfl) ?_
            refine LE.p (v := (Value.bool false)) (Wn.no rfl) rfl (R.move rfl) ?_
            refine LE.u (Un.no 39 44 true rfl rfl rfl rfl) ?_
            refine LE.u (Un.no 39 44 true rfl rfl rfl rfl) ?_
            refine LE.u (Un.no 39 44 true rfl rfl rfl rfl) ?_
            refine LE.u (Un.no 39 44 true rfl rfl rfl rfl) ?_
            refine LE.u (Un.no 39 44 true rfl rfl rfl rfl) ?_
            refine LE.p (v := (Value.bool false)) (Wn.no rfl) rfl (R.pickF rfl rfl) ?_
            refine LE.p (v := (Value.bool false)) (Wn.no rfl) rfl (R.assign rfl) ?_
            refine LE.nil ?_
            exact ⟨_, h, rfl⟩
        · refine LE.u (Un.no 21 26 true rfl rfl rfl (congrArg Value.bool hb21)) ?_
          refine LE.u (Un.no 21 26 true rfl rfl rfl (congrArg Value.bool hb21)) ?_
          refine LE.u (Un.no 21 26 true rfl rfl rfl (congrArg Value.bool hb21)) ?_
          refine LE.u (Un.no 21 26 true rfl rfl rfl (congrArg Value.bool hb21)) ?_
          refine LE.u (Un.no 21 26 true rfl rfl rfl (congrArg Value.bool hb21)) ?_
          refine LE.u (Un.no 21 26 true rfl rfl rfl (congrArg Value.bool hb21)) ?_
          refine LE.u (Un.no 21 26 true rfl rfl rfl (congrArg Value.bool hb21)) ?_
          refine LE.p (v := (Value.bool false)) (Wn.no rfl) rfl (R.pickF (congrArg Value.bool hb21) rfl) ?_
          refine LE.p (v := (Value.bool false)) (Wn.no rfl) rfl (R.move rfl) ?_
          refine LE.u (Un.no 30 35 true rfl rfl rfl rfl) ?_
          refine LE.u (Un.no 30 35 true rfl rfl rfl rfl) ?_
          refine LE.u (Un.no 30 35 true rfl rfl rfl rfl) ?_
          refine LE.u (Un.no 30 35 true rfl rfl rfl rfl) ?_
          refine LE.u (Un.no 30 35 true rfl rfl rfl rfl) ?_
          refine LE.u (Un.no 30 35 true rfl rfl rfl rfl) ?_
          refine LE.u (Un.no 30 35 true rfl rfl rfl rfl) ?_
          refine LE.p (v := (Value.bool false)) (Wn.no rfl) rfl (R.pickF rfl rfl) ?_
          refine LE.p (v := (Value.bool false)) (Wn.no rfl) rfl (R.move rfl) ?_
          refine LE.u (Un.no 39 44 true rfl rfl rfl rfl) ?_
          refine LE.u (Un.no 39 44 true rfl rfl rfl rfl) ?_
          refine LE.u (Un.no 39 44 true rfl rfl rfl rfl) ?_
          refine LE.u (Un.no 39 44 true rfl rfl rfl rfl) ?_
          refine LE.u (Un.no 39 44 true rfl rfl rfl rfl) ?_
          refine LE.p (v := (Value.bool false)) (Wn.no rfl) rfl (R.pickF rfl rfl) ?_
          refine LE.p (v := (Value.bool false)) (Wn.no rfl) rfl (R.assign rfl) ?_
          refine LE.nil ?_
          exact ⟨_, h, rfl⟩
      · refine LE.u (Un.no 12 17 true rfl rfl rfl (congrArg Value.bool hb14)) ?_
        refine LE.u (Un.no 12 17 true rfl rfl rfl (congrArg Value.bool hb14)) ?_
        refine LE.u (Un.no 12 17 true rfl rfl rfl (congrArg Value.bool hb14)) ?_
        refine LE.u (Un.no 12 17 true rfl rfl rfl (congrArg Value.bool hb14)) ?_
        refine LE.u (Un.no 12 17 true rfl rfl rfl (congrArg Value.bool hb14)) ?_
        refine LE.u (Un.no 12 17 true rfl rfl rfl (congrArg Value.bool hb14)) ?_
        refine LE.u (Un.no 12 17 true rfl rfl rfl (congrArg Value.bool hb14)) ?_
        refine LE.p (v := (Value.bool false)) (Wn.no rfl) rfl (R.pickF (congrArg Value.bool hb14) rfl) ?_
        refine LE.p (v := (Value.bool false)) (Wn.no rfl) rfl (R.move rfl) ?_
        refine LE.u (Un.no 21 26 true rfl rfl rfl rfl) ?_
        refine LE.u (Un.no 21 26 true rfl rfl rfl rfl) ?_
        refine LE.u (Un.no 21 26 true rfl rfl rfl rfl) ?_
        refine LE.u (Un.no 21 26 true rfl rfl rfl rfl) ?_
        refine LE.u (Un.no 21 26 true rfl rfl rfl rfl) ?_
        refine LE.u (Un.no 21 26 true rfl rfl rfl rfl) ?_
        refine LE.u (Un.no 21 26 true rfl rfl rfl rfl) ?_
        refine LE.p (v := (Value.bool false)) (Wn.no rfl) rfl (R.pickF rfl rfl) ?_
        refine LE.p (v := (Value.bool false)) (Wn.no rfl) rfl (R.move rfl) ?_
        refine LE.u (Un.no 30 35 true rfl rfl rfl rfl) ?_
        refine LE.u (Un.no 30 35 true rfl rfl rfl rfl) ?_
        refine LE.u (Un.no 30 35 true rfl rfl rfl rfl) ?_
        refine LE.u (Un.no 30 35 true rfl rfl rfl rfl) ?_
        refine LE.u (Un.no 30 35 true rfl rfl rfl rfl) ?_
        refine LE.u (Un.no 30 35 true rfl rfl rfl rfl) ?_
        refine LE.u (Un.no 30 35 true rfl rfl rfl rfl) ?_
        refine LE.p (v := (Value.bool false)) (Wn.no rfl) rfl (R.pickF rfl rfl) ?_
        refine LE.p (v := (Value.bool false)) (Wn.no rfl) rfl (R.move rfl) ?_
        refine LE.u (Un.no 39 44 true rfl rfl rfl rfl) ?_
        refine LE.u (Un.no 39 44 true rfl rfl rfl rfl) ?_
        refine LE.u (Un.no 39 44 true rfl rfl rfl rfl) ?_
        refine LE.u (Un.no 39 44 true rfl rfl rfl rfl) ?_
        refine LE.u (Un.no 39 44 true rfl rfl rfl rfl) ?_
        refine LE.p (v := (Value.bool false)) (Wn.no rfl) rfl (R.pickF rfl rfl) ?_
        refine LE.p (v := (Value.bool false)) (Wn.no rfl) rfl (R.assign rfl) ?_
        refine LE.nil ?_
        exact ⟨_, h, rfl⟩
    · refine LE.u (Un.no 5 10 true rfl rfl rfl (congrArg Value.bool hb7)) ?_
      refine LE.u (Un.no 5 10 true rfl rfl rfl (congrArg Value.bool hb7)) ?_
      refine LE.u (Un.no 5 10 true rfl rfl rfl (congrArg Value.bool hb7)) ?_
      refine LE.u (Un.no 5 10 true rfl rfl rfl (congrArg Value.bool hb7)) ?_
      refine LE.u (Un.no 5 10 true rfl rfl rfl (congrArg Value.bool hb7)) ?_
      refine LE.p (v := (Value.bool false)) (Wn.no rfl) rfl (R.pickF (congrArg Value.bool hb7) rfl) ?_
      refine LE.p (v := (Value.bool false)) (Wn.no rfl) rfl (R.move rfl) ?_
      refine LE.u (Un.no 12 17 true rfl rfl rfl rfl) ?_
      refine LE.u (Un.no 12 17 true rfl rfl rfl rfl) ?_
      refine LE.u (Un.no 12 17 true rfl rfl rfl rfl) ?_
      refine LE.u (Un.no 12 17 true rfl rfl rfl rfl) ?_
      refine LE.u (Un.no 12 17 true rfl rfl rfl rfl) ?_
      refine LE.u (Un.no 12 17 true rfl rfl rfl rfl) ?_
      refine LE.u (Un.no 12 17 true rfl rfl rfl rfl) ?_
      refine LE.p (v := (Value.bool false)) (Wn.no rfl) rfl (R.pickF rfl rfl) ?_
      refine LE.p (v := (Value.bool false)) (Wn.no rfl) rfl (R.move rfl) ?_
      refine LE.u (Un.no 21 26 true rfl rfl rfl rfl) ?_
      refine LE.u (Un.no 21 26 true rfl rfl rfl rfl) ?_
      refine LE.u (Un.no 21 26 true rfl rfl rfl rfl) ?_
      refine LE.u (Un.no 21 26 true rfl rfl rfl rfl) ?_
      refine LE.u (Un.no 21 26 true rfl rfl rfl rfl) ?_
      refine LE.u (Un.no 21 26 true rfl rfl rfl rfl) ?_
      refine LE.u (Un.no 21 26 true rfl rfl rfl rfl) ?_
      refine LE.p (v := (Value.bool false)) (Wn.no rfl) rfl (R.pickF rfl rfl) ?_
      refine LE.p (v := (Value.bool false)) (Wn.no rfl) rfl (R.move rfl) ?_
      refine LE.u (Un.no 30 35 true rfl rfl rfl rfl) ?_
      refine LE.u (Un.no 30 35 true rfl rfl rfl rfl) ?_
      refine LE.u (Un.no 30 35 true rfl rfl rfl rfl) ?_
      refine LE.u (Un.no 30 35 true rfl rfl rfl rfl) ?_
      refine LE.u (Un.no 30 35 true rfl rfl rfl rfl) ?_
      refine LE.u (Un.no 30 35 true rfl rfl rfl rfl) ?_
      refine LE.u (Un.no 30 35 true rfl rfl rfl rfl) ?_
      refine LE.p (v := (Value.bool false)) (Wn.no rfl) rfl (R.pickF rfl rfl) ?_
      refine LE.p (v := (Value.bool false)) (Wn.no rfl) rfl (R.move rfl) ?_
      refine LE.u (Un.no 39 44 true rfl rfl rfl rfl) ?_
      refine LE.u (Un.no 39 44 true rfl rfl rfl rfl) ?_
      refine LE.u (Un.no 39 44 true rfl rfl rfl rfl) ?_
      refine LE.u (Un.no 39 44 true rfl rfl rfl rfl) ?_
      refine LE.u (Un.no 39 44 true rfl rfl rfl rfl) ?_
      refine LE.p (v := (Value.bool false)) (Wn.no rfl) rfl (R.pickF rfl rfl) ?_
      refine LE.p (v := (Value.bool false)) (Wn.no rfl) rfl (R.assign rfl) ?_
      refine LE.nil ?_
      exact ⟨_, h, rfl⟩
  · rintro e36 w37 ⟨x2, h, f38⟩
    subst hJ1
    refine WE.ret ?_
    exact ⟨_, (Res.tmp f38 Res.nil), _, rfl, h⟩
end Go.Proofs.Ytkbfpjkikjmmeaa
