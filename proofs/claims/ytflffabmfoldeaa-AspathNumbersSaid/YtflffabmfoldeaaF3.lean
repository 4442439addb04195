/-
  Printed by gen.py: the formula of each function, and that it holds of the function.
-/
import Derived.Test.YtflffabmfoldeaaTy
namespace Go.Proofs.Ytflffabmfoldeaa
set_option linter.unusedVariables false
set_option linter.unusedSimpArgs false
open Go.Sp
set_option linter.unusedVariables false
/-- The formula of signpost.signpostlaw6.same. -/
def F23 (p0 : SV) (p1 : SV) (p2 : Int) (p3 : Int) (K : Bool → World → Prop) (w0 : World) : Prop :=
Calls Try.prog 10 #[(SV.v p0)] w0 (R10 fun r1 r2 w3 =>
Calls Try.prog 42 #[(SV.v p0)] w3 (R42 fun r4 r5 w6 =>
Calls Try.prog 19 #[(SV.v p0)] w6 (R19 fun r7 r8 w9 =>
M.join (fun (x11 : Int) (x12 : SV) (w19 : World) => 
M.join (fun (x33 : Bool) (w74 : World) => 
K x33 w74) fun J32 => 
Calls Try.prog 12 #[(SV.v p0)] w19 (R12 fun r34 w35 =>
Calls Try.prog 43 #[(SV.v p0)] w35 (R43 fun r36 w37 =>
M.ite (r34 == r36) (
Calls Try.prog 13 #[(SV.v p0)] w37 (R13 fun r39 w40 =>
Calls Try.prog 44 #[(SV.v p0)] w40 (R44 fun r41 w42 =>
M.ite (r39 == r41) (
Calls Try.prog 16 #[(SV.v p0), (Value.int .u32 p2)] w42 (R16 fun r44 w45 =>
Calls Try.prog 45 #[(SV.v p0), (Value.int .u32 p2)] w45 (R45 fun r46 w47 =>
M.ite (r44 == r46) (
M.ite (r1 == r4) (
M.ite (r2 == r5) (
Calls Try.prog 11 #[(SV.v p0), (Value.int .u32 p2), (Value.int .i64 p3)] w47 (R11 fun r51 w52 =>
Calls Try.prog 46 #[(SV.v p0), (Value.int .u32 p2), (Value.int .i64 p3)] w52 (R46 fun r53 w54 =>
Calls Try.prog 21 #[(SV.v r51), (SV.v r53)] w54 (R21 fun r55 w56 =>
M.ite r55 (
Calls Try.prog 18 #[(SV.v p0), (SV.v p1)] w56 (R18 fun r58 w59 =>
Calls Try.prog 41 #[(SV.v p0), (SV.v p1)] w59 (R41 fun r60 w61 =>
M.ite (r58 == (r60 == (0 : Int))) (
Calls Try.prog 17 #[(SV.v p0), (SV.v p1)] w61 (R17 fun r63 w64 =>
Calls Try.prog 41 #[(SV.v p0), (SV.v p1)] w64 (R41 fun r65 w66 =>
M.ite (r63 == (decide (r65 < (0 : Int)))) (
M.b2s Try.prog 40 9 r7 w66 fun t68 =>
M.b2s Try.prog 40 9 x12 w66 fun t70 =>
M.ite (t68.toList == t70.toList) (
J32 (r8 == x11) w66) (
J32 false w66)) (
J32 false w66)))) (
J32 false w61)))) (
J32 false w56))))) (
J32 false w47)) (
J32 false w47)) (
J32 false w47)))) (
J32 false w42)))) (
J32 false w37)))) fun J10 => 
Calls Try.prog 43 #[(SV.v p0)] w9 (R43 fun r13 w14 =>
M.ite r13 (
Calls Try.prog 24 #[(SV.v p0)] w14 (R24 fun r16 w17 =>
J10 (0 : Int) r16 w17)) (
J10 (12 : Int) SV.nil w14)))))
theorem F23_ok {w0 : World} {p0 : SV} {p1 : SV} {p2 : Int} {p3 : Int} {K : Bool → World → Prop} (h : F23 p0 p1 p2 p3 K w0) : Calls Try.prog 23 #[(SV.v p0), (SV.v p1), (Value.int .u32 p2), (Value.int .i64 p3)] w0 (R23 K) := by
  refine calls_of_WE (args := [(SV.v p0), (SV.v p1), (Value.int .u32 p2), (Value.int .i64 p3)]) (rs := [.tmp 8]) Try.func23 rfl (N := 110) rfl rfl rfl rfl ?_
  refine WE.seq ?_
  refine WE.reg ?_
  refine LE.p (v := (Value.bool false)) (Wn.no rfl) rfl (R.assign rfl) ?_
  refine LE.nil ?_
  refine WE.seq ?_
  refine WE.reg ?_
  refine LE.p (v := (SV.v p0)) (Wn.no rfl) rfl (R.move rfl) ?_
  refine LE.c (Wn.no rfl) rfl (R.call bd10 (Ls.cons rfl Ls.nil) rfl) (Calls.mono h ?_)
  rintro _ w3 ⟨r1, r2, rfl, h⟩
  refine ⟨_, rfl, ?_⟩
  refine LE.p (v := (Value.tuple #[(Value.int .u32 r1), (Value.bool r2)])) (Wn.no rfl) rfl (R.move rfl) ?_
  refine LE.p (v := (Value.int .u32 r1)) (Wn.no rfl) rfl (R.ext rfl rfl) ?_
  refine LE.p (v := (Value.bool r2)) (Wn.no rfl) rfl (R.ext rfl rfl) ?_
  refine LE.p (v := (Value.int .u32 r1)) (Wn.no rfl) rfl (R.assign rfl) ?_
  refine LE.p (v := (Value.bool r2)) (Wn.no rfl) rfl (R.assign rfl) ?_
  refine LE.nil ?_
  refine WE.seq ?_
  refine WE.reg ?_
  refine LE.p (v := (SV.v p0)) (Wn.no rfl) rfl (R.move rfl) ?_
  refine LE.c (Wn.no rfl) rfl (R.call bd42 (Ls.cons rfl Ls.nil) rfl) (Calls.mono h ?_)
  rintro _ w6 ⟨r4, r5, rfl, h⟩
  refine ⟨_, rfl, ?_⟩
  refine LE.p (v := (Value.tuple #[(Value.int .u32 r4), (Value.bool r5)])) (Wn.no rfl) rfl (R.move rfl) ?_
  refine LE.p (v := (Value.int .u32 r4)) (Wn.no rfl) rfl (R.ext rfl rfl) ?_
  refine LE.p (v := (Value.bool r5)) (Wn.no rfl) rfl (R.ext rfl rfl) ?_
  refine LE.p (v := (Value.int .u32 r4)) (Wn.no rfl) rfl (R.assign rfl) ?_
  refine LE.p (v := (Value.bool r5)) (Wn.no rfl) rfl (R.assign rfl) ?_
  refine LE.nil ?_
  refine WE.seq ?_
  refine WE.reg ?_
  refine LE.p (v := (SV.v p0)) (Wn.no rfl) rfl (R.move rfl) ?_
  refine LE.c (Wn.no rfl) rfl (R.call bd19 (Ls.cons rfl Ls.nil) rfl) (Calls.mono h ?_)
  rintro _ w9 ⟨r7, r8, rfl, h⟩
  refine ⟨_, rfl, ?_⟩
  refine LE.p (v := (Value.tuple #[(SV.v r7), (Value.int .i64 r8)])) (Wn.no rfl) rfl (R.move rfl) ?_
  refine LE.p (v := (SV.v r7)) (Wn.no rfl) rfl (R.ext rfl rfl) ?_
  refine LE.p (v := (Value.int .i64 r8)) (Wn.no rfl) rfl (R.ext rfl rfl) ?_
  refine LE.p (v := (SV.v r7)) (Wn.no rfl) rfl (R.assign rfl) ?_
  refine LE.p (v := (Value.int .i64 r8)) (Wn.no rfl) rfl (R.assign rfl) ?_
  refine LE.nil ?_
  refine WE.seq ?_
  refine WE.reg ?_
  refine LE.p (v := (Value.int .i64 (0 : Int))) (Wn.no rfl) rfl (R.assign rfl) ?_
  refine LE.nil ?_
  refine WE.seq ?_
  refine WE.reg ?_
  refine LE.p (v := (SV.v SV.nil)) (Wn.no rfl) rfl (R.assign rfl) ?_
  refine LE.nil ?_
  obtain ⟨J10, hJ10, h⟩ := M.join_use h
  refine WE.join (fun e w => ∃ (x11 : Int) (x12 : SV), J10 x11 x12 w ∧ e 0 = (SV.v p0) ∧ e 1 = (SV.v p1) ∧ e 2 = (Value.int .u32 p2) ∧ e 3 = (Value.int .i64 p3) ∧ e 9 = (Value.int .u32 r1) ∧ e 10 = (Value.bool r2) ∧ e 11 = (Value.int .u32 r4) ∧ e 12 = (Value.bool r5) ∧ e 13 = (SV.v r7) ∧ e 14 = (Value.int .i64 r8) ∧ e 15 = (Value.int .i64 x11) ∧ e 16 = (SV.v x12)) ?_ ?_
  · clear hJ10
    refine WE.seq ?_
    refine WE.reg ?_
    refine LE.p (v := (SV.v p0)) (Wn.no rfl) rfl (R.move rfl) ?_
    refine LE.c (Wn.no rfl) rfl (R.call bd43 (Ls.cons rfl Ls.nil) rfl) (Calls.mono h ?_)
    rintro _ w14 ⟨r13, rfl, h⟩
    refine ⟨_, rfl, ?_⟩
    refine LE.nil ?_
    refine WE.condT rfl (b := r13) rfl ?_ ?_
    · intro hb15
      replace h := M.ite_t h hb15
      refine WE.reg ?_
      refine LE.p (v := (SV.v p0)) (Wn.no rfl) rfl (R.move rfl) ?_
      refine LE.c (Wn.no rfl) rfl (R.call bd24 (Ls.cons rfl Ls.nil) rfl) (Calls.mono h ?_)
      rintro _ w17 ⟨r16, rfl, h⟩
      refine ⟨_, rfl, ?_⟩
      refine LE.p (v := (SV.v r16)) (Wn.no rfl) rfl (R.assign rfl) ?_
      refine LE.nil ?_
      exact ⟨_, _, h, rfl, rfl, rfl, rfl, rfl, rfl, rfl, rfl, rfl, rfl, rfl, rfl⟩
    · intro hb15
      replace h := M.ite_f h hb15
      refine WE.reg ?_
      refine LE.p (v := (Value.int .i64 (12 : Int))) (Wn.no rfl) rfl (R.assign rfl) ?_
      refine LE.nil ?_
      exact ⟨_, _, h, rfl, rfl, rfl, rfl, rfl, rfl, rfl, rfl, rfl, rfl, rfl, rfl⟩
  · rintro e18 w19 ⟨x11, x12, h, f20, f21, f22, f23, f24, f25, f26, f27, f28, f29, f30, f31⟩
    subst hJ10
    refine WE.seq ?_
    obtain ⟨J32, hJ32, h⟩ := M.join_use h
    refine WE.regJ (fun e w => ∃ (x33 : Bool), J32 x33 w ∧ e 8 = (Value.bool x33)) ?_ ?_
    · clear hJ32
      refine LE.p (v := (SV.v p0)) (Wn.no rfl) rfl (R.move f20) ?_
      refine LE.c (Wn.no rfl) rfl (R.call bd12 (Ls.cons rfl Ls.nil) rfl) (Calls.mono h ?_)
      rintro _ w35 ⟨r34, rfl, h⟩
      refine ⟨_, rfl, ?_⟩
      refine LE.p (v := (SV.v p0)) (Wn.no rfl) rfl (R.move f20) ?_
      refine LE.c (Wn.no rfl) rfl (R.call bd43 (Ls.cons rfl Ls.nil) rfl) (Calls.mono h ?_)
      rintro _ w37 ⟨r36, rfl, h⟩
      refine ⟨_, rfl, ?_⟩
      refine LE.p (v := (Value.bool (r34 == r36))) (Wn.no rfl) rfl (R.beql bo4 rfl rfl) ?_
      refine LE.p (v := (Value.bool (r34 == r36))) (Wn.no rfl) rfl (R.move rfl) ?_
      rcases M.ite_use h with ⟨hb38, h⟩ | ⟨hb38, h⟩
      · refine LE.p (v := (SV.v p0)) (Wn.yes 5 41 true rfl rfl rfl (congrArg Value.bool hb38)) rfl (R.move f20) ?_
        refine LE.c (Wn.yes 5 41 true rfl rfl rfl (congrArg Value.bool hb38)) rfl (R.call bd13 (Ls.cons rfl Ls.nil) rfl) (Calls.mono h ?_)
        rintro _ w40 ⟨r39, rfl, h⟩
        refine ⟨_, rfl, ?_⟩
        refine LE.p (v := (SV.v p0)) (Wn.yes 5 41 true rfl rfl rfl (congrArg Value.bool hb38)) rfl (R.move f20) ?_
        refine LE.c (Wn.yes 5 41 true rfl rfl rfl (congrArg Value.bool hb38)) rfl (R.call bd44 (Ls.cons rfl Ls.nil) rfl) (Calls.mono h ?_)
        rintro _ w42 ⟨r41, rfl, h⟩
        refine ⟨_, rfl, ?_⟩
        refine LE.p (v := (Value.bool (r39 == r41))) (Wn.yes 5 41 true rfl rfl rfl (congrArg Value.bool hb38)) rfl (R.eql rfl rfl) ?_
        refine LE.p (v := (Value.bool (r39 == r41))) (Wn.no rfl) rfl (R.pickT (congrArg Value.bool hb38) rfl) ?_
        refine LE.p (v := (Value.bool (r39 == r41))) (Wn.no rfl) rfl (R.move rfl) ?_
        rcases M.ite_use h with ⟨hb43, h⟩ | ⟨hb43, h⟩
        · refine LE.p (v := (SV.v p0)) (Wn.yes 12 48 true rfl rfl rfl (congrArg Value.bool hb43)) rfl (R.move f20) ?_
          refine LE.p (v := (Value.int .u32 p2)) (Wn.yes 12 48 true rfl rfl rfl (congrArg Value.bool hb43)) rfl (R.move f22) ?_
          refine LE.c (Wn.yes 12 48 true rfl rfl rfl (congrArg Value.bool hb43)) rfl (R.call bd16 (Ls.cons rfl (Ls.cons rfl Ls.nil)) rfl) (Calls.mono h ?_)
          rintro _ w45 ⟨r44, rfl, h⟩
          refine ⟨_, rfl, ?_⟩
          refine LE.p (v := (SV.v p0)) (Wn.yes 12 48 true rfl rfl rfl (congrArg Value.bool hb43)) rfl (R.move f20) ?_
          refine LE.p (v := (Value.int .u32 p2)) (Wn.yes 12 48 true rfl rfl rfl (congrArg Value.bool hb43)) rfl (R.move f22) ?_
          refine LE.c (Wn.yes 12 48 true rfl rfl rfl (congrArg Value.bool hb43)) rfl (R.call bd45 (Ls.cons rfl (Ls.cons rfl Ls.nil)) rfl) (Calls.mono h ?_)
          rintro _ w47 ⟨r46, rfl, h⟩
          refine ⟨_, rfl, ?_⟩
          refine LE.p (v := (Value.bool (r44 == r46))) (Wn.yes 12 48 true rfl rfl rfl (congrArg Value.bool hb43)) rfl (R.beql bo4 rfl rfl) ?_
          refine LE.p (v := (Value.bool (r44 == r46))) (Wn.no rfl) rfl (R.pickT (congrArg Value.bool hb43) rfl) ?_
          refine LE.p (v := (Value.bool (r44 == r46))) (Wn.no rfl) rfl (R.move rfl) ?_
          rcases M.ite_use h with ⟨hb48, h⟩ | ⟨hb48, h⟩
          · refine LE.p (v := (Value.int .u32 r1)) (Wn.yes 21 57 true rfl rfl rfl (congrArg Value.bool hb48)) rfl (R.move f24) ?_
            refine LE.p (v := (Value.int .u32 r4)) (Wn.yes 21 57 true rfl rfl rfl (congrArg Value.bool hb48)) rfl (R.move f26) ?_
            refine LE.p (v := (Value.bool (r1 == r4))) (Wn.yes 21 57 true rfl rfl rfl (congrArg Value.bool hb48)) rfl (R.eql rfl rfl) ?_
            refine LE.p (v := (Value.bool (r1 == r4))) (Wn.no rfl) rfl (R.pickT (congrArg Value.bool hb48) rfl) ?_
            refine LE.p (v := (Value.bool (r1 == r4))) (Wn.no rfl) rfl (R.move rfl) ?_
            rcases M.ite_use h with ⟨hb49, h⟩ | ⟨hb49, h⟩
            · refine LE.p (v := (Value.bool r2)) (Wn.yes 26 62 true rfl rfl rfl (congrArg Value.bool hb49)) rfl (R.move f25) ?_
              refine LE.p (v := (Value.bool r5)) (Wn.yes 26 62 true rfl rfl rfl (congrArg Value.bool hb49)) rfl (R.move f27) ?_
              refine LE.p (v := (Value.bool (r2 == r5))) (Wn.yes 26 62 true rfl rfl rfl (congrArg Value.bool hb49)) rfl (R.beql bo4 rfl rfl) ?_
              refine LE.p (v := (Value.bool (r2 == r5))) (Wn.no rfl) rfl (R.pickT (congrArg Value.bool hb49) rfl) ?_
              refine LE.p (v := (Value.bool (r2 == r5))) (Wn.no rfl) rfl (R.move rfl) ?_
              rcases M.ite_use h with ⟨hb50, h⟩ | ⟨hb50, h⟩
              · refine LE.p (v := (SV.v p0)) (Wn.yes 31 67 true rfl rfl rfl (congrArg Value.bool hb50)) rfl (R.move f20) ?_
                refine LE.p (v := (Value.int .u32 p2)) (Wn.yes 31 67 true rfl rfl rfl (congrArg Value.bool hb50)) rfl (R.move f22) ?_
                refine LE.p (v := (Value.int .i64 p3)) (Wn.yes 31 67 true rfl rfl rfl (congrArg Value.bool hb50)) rfl (R.move f23) ?_
                refine LE.c (Wn.yes 31 67 true rfl rfl rfl (congrArg Value.bool hb50)) rfl (R.call bd11 (Ls.cons rfl (Ls.cons rfl (Ls.cons rfl Ls.nil))) rfl) (Calls.mono h ?_)
                rintro _ w52 ⟨r51, rfl, h⟩
                refine ⟨_, rfl, ?_⟩
                refine LE.p (v := (SV.v p0)) (Wn.yes 31 67 true rfl rfl rfl (congrArg Value.bool hb50)) rfl (R.move f20) ?_
                refine LE.p (v := (Value.int .u32 p2)) (Wn.yes 31 67 true rfl rfl rfl (congrArg Value.bool hb50)) rfl (R.move f22) ?_
                refine LE.p (v := (Value.int .i64 p3)) (Wn.yes 31 67 true rfl rfl rfl (congrArg Value.bool hb50)) rfl (R.move f23) ?_
                refine LE.c (Wn.yes 31 67 true rfl rfl rfl (congrArg Value.bool hb50)) rfl (R.call bd46 (Ls.cons rfl (Ls.cons rfl (Ls.cons rfl Ls.nil))) rfl) (Calls.mono h ?_)
                rintro _ w54 ⟨r53, rfl, h⟩
                refine ⟨_, rfl, ?_⟩
                refine LE.c (Wn.yes 31 67 true rfl rfl rfl (congrArg Value.bool hb50)) rfl (R.call bd21 (Ls.cons rfl (Ls.cons rfl Ls.nil)) rfl) (Calls.mono h ?_)
                rintro _ w56 ⟨r55, rfl, h⟩
                refine ⟨_, rfl, ?_⟩
                refine LE.p (v := (Value.bool r55)) (Wn.no rfl) rfl (R.pickT (congrArg Value.bool hb50) rfl) ?_
                refine LE.p (v := (Value.bool r55)) (Wn.no rfl) rfl (R.move rfl) ?_
                rcases M.ite_use h with ⟨hb57, h⟩ | ⟨hb57, h⟩
                · refine LE.p (v := (SV.v p0)) (Wn.yes 42 78 true rfl rfl rfl (congrArg Value.bool hb57)) rfl (R.move f20) ?_
                  refine LE.p (v := (SV.v p1)) (Wn.yes 42 78 true rfl rfl rfl (congrArg Value.bool hb57)) rfl (R.move f21) ?_
                  refine LE.c (Wn.yes 42 78 true rfl rfl rfl (congrArg Value.bool hb57)) rfl (R.call bd18 (Ls.cons rfl (Ls.cons rfl Ls.nil)) rfl) (Calls.mono h ?_)
                  rintro _ w59 ⟨r58, rfl, h⟩
                  refine ⟨_, rfl, ?_⟩
                  refine LE.p (v := (SV.v p0)) (Wn.yes 42 78 true rfl rfl rfl (congrArg Value.bool hb57)) rfl (R.move f20) ?_
                  refine LE.p (v := (SV.v p1)) (Wn.yes 42 78 true rfl rfl rfl (congrArg Value.bool hb57)) rfl (R.move f21) ?_
                  refine LE.c (Wn.yes 42 78 true rfl rfl rfl (congrArg Value.bool hb57)) rfl (R.call bd41 (Ls.cons rfl (Ls.cons rfl Ls.nil)) rfl) (Calls.mono h ?_)
                  rintro _ w61 ⟨r60, rfl, h⟩
                  refine ⟨_, rfl, ?_⟩
                  refine LE.p (v := (Value.bool (r60 == (0 : Int)))) (Wn.yes 42 78 true rfl rfl rfl (congrArg Value.bool hb57)) rfl (R.eql rfl rfl) ?_
                  refine LE.p (v := (Value.bool (r58 == (r60 == (0 : Int))))) (Wn.yes 42 78 true rfl rfl rfl (congrArg Value.bool hb57)) rfl (R.beql bo4 rfl rfl) ?_
                  refine LE.p (v := (Value.bool (r58 == (r60 == (0 : Int))))) (Wn.no rfl) rfl (R.pickT (congrArg Value.bool hb57) rfl) ?_
                  refine LE.p (v := (Value.bool (r58 == (r60 == (0 : Int))))) (Wn.no rfl) rfl (R.move rfl) ?_
                  rcases M.ite_use h with ⟨hb62, h⟩ | ⟨hb62, h⟩
                  · refine LE.p (v := (SV.v p0)) (Wn.yes 52 88 true rfl rfl rfl (congrArg Value.bool hb62)) rfl (R.move f20) ?_
                    refine LE.p (v := (SV.v p1)) (Wn.yes 52 88 true rfl rfl rfl (congrArg Value.bool hb62)) rfl (R.move f21) ?_
                    refine LE.c (Wn.yes 52 88 true rfl rfl rfl (congrArg Value.bool hb62)) rfl (R.call bd17 (Ls.cons rfl (Ls.cons rfl Ls.nil)) rfl) (Calls.mono h ?_)
                    rintro _ w64 ⟨r63, rfl, h⟩
                    refine ⟨_, rfl, ?_⟩
                    refine LE.p (v := (SV.v p0)) (Wn.yes 52 88 true rfl rfl rfl (congrArg Value.bool hb62)) rfl (R.move f20) ?_
                    refine LE.p (v := (SV.v p1)) (Wn.yes 52 88 true rfl rfl rfl (congrArg Value.bool hb62)) rfl (R.move f21) ?_
                    refine LE.c (Wn.yes 52 88 true rfl rfl rfl (congrArg Value.bool hb62)) rfl (R.call bd41 (Ls.cons rfl (Ls.cons rfl Ls.nil)) rfl) (Calls.mono h ?_)
                    rintro _ w66 ⟨r65, rfl, h⟩
                    refine ⟨_, rfl, ?_⟩
                    refine LE.p (v := (Value.bool (decide (r65 < (0 : Int))))) (Wn.yes 52 88 true rfl rfl rfl (congrArg Value.bool hb62)) rfl (R.lss rfl rfl) ?_
                    refine LE.p (v := (Value.bool (r63 == (decide (r65 < (0 : Int)))))) (Wn.yes 52 88 true rfl rfl rfl (congrArg Value.bool hb62)) rfl (R.beql bo4 rfl rfl) ?_
                    refine LE.p (v := (Value.bool (r63 == (decide (r65 < (0 : Int)))))) (Wn.no rfl) rfl (R.pickT (congrArg Value.bool hb62) rfl) ?_
                    refine LE.p (v := (Value.bool (r63 == (decide (r65 < (0 : Int)))))) (Wn.no rfl) rfl (R.move rfl) ?_
                    rcases M.ite_use h with ⟨hb67, h⟩ | ⟨hb67, h⟩
                    · refine LE.p (v := (SV.v r7)) (Wn.yes 62 98 true rfl rfl rfl (congrArg Value.bool hb67)) rfl (R.move f28) ?_
                      obtain ⟨t68, h69, h⟩ := h
                      refine LE.r (v := (Value.string t68)) (Wn.yes 62 98 true rfl rfl rfl (congrArg Value.bool hb67)) rfl (R.b2s (s := r7) h69 rfl) ?_
                      refine LE.p (v := (SV.v x12)) (Wn.yes 62 98 true rfl rfl rfl (congrArg Value.bool hb67)) rfl (R.move f31) ?_
                      obtain ⟨t70, h71, h⟩ := h
                      refine LE.r (v := (Value.string t70)) (Wn.yes 62 98 true rfl rfl rfl (congrArg Value.bool hb67)) rfl (R.b2s (s := x12) h71 rfl) ?_
                      refine LE.p (v := (Value.bool (t68.toList == t70.toList))) (Wn.yes 62 98 true rfl rfl rfl (congrArg Value.bool hb67)) rfl (R.seql rfl rfl) ?_
                      refine LE.p (v := (Value.bool (t68.toList == t70.toList))) (Wn.no rfl) rfl (R.pickT (congrArg Value.bool hb67) rfl) ?_
                      refine LE.p (v := (Value.bool (t68.toList == t70.toList))) (Wn.no rfl) rfl (R.move rfl) ?_
                      rcases M.ite_use h with ⟨hb72, h⟩ | ⟨hb72, h⟩
                      · refine LE.p (v := (Value.int .i64 r8)) (Wn.yes 69 105 true rfl rfl rfl (congrArg Value.bool hb72)) rfl (R.move f29) ?_
                        refine LE.p (v := (Value.int .i64 x11)) (Wn.yes 69 105 true rfl rfl rfl (congrArg Value.bool hb72)) rfl (R.move f30) ?_
                        refine LE.p (v := (Value.bool (r8 == x11))) (Wn.yes 69 105 true rfl rfl rfl (congrArg Value.bool hb72)) rfl (R.eql rfl rfl) ?_
                        refine LE.p (v := (Value.bool (r8 == x11))) (Wn.no rfl) rfl (R.pickT (congrArg Value.bool hb72) rfl) ?_
                        refine LE.p (v := (Value.bool (r8 == x11))) (Wn.no rfl) rfl (R.assign rfl) ?_
                        refine LE.nil ?_
                        exact ⟨_, h, rfl⟩
                      · refine LE.u (Un.no 69 105 true rfl rfl rfl (congrArg Value.bool hb72)) ?_
                        refine LE.u (Un.no 69 105 true rfl rfl rfl (congrArg Value.bool hb72)) ?_
                        refine LE.u (Un.no 69 105 true rfl rfl rfl (congrArg Value.bool hb72)) ?_
                        refine LE.p (v := (Value.bool false)) (Wn.no rfl) rfl (R.pickF (congrArg Value.bool hb72) rfl) ?_
                        refine LE.p (v := (Value.bool false)) (Wn.no rfl) rfl (R.assign rfl) ?_
                        refine LE.nil ?_
                        exact ⟨_, h, rfl⟩
                    · refine LE.u (Un.no 62 98 true rfl rfl rfl (congrArg Value.bool hb67)) ?_
                      refine LE.u (Un.no 62 98 true rfl rfl rfl (congrArg Value.bool hb67)) ?_
                      refine LE.u (Un.no 62 98 true rfl rfl rfl (congrArg Value.bool hb67)) ?_
                      refine LE.u (Un.no 62 98 true rfl rfl rfl (congrArg Value.bool hb67)) ?_
                      refine LE.u (Un.no 62 98 true rfl rfl rfl (congrArg Value.bool hb67)) ?_
                      refine LE.p (v := (Value.bool false)) (Wn.no rfl) rfl (R.pickF (congrArg Value.bool hb67) rfl) ?_
                      refine LE.p (v := (Value.bool false)) (Wn.no rfl) rfl (R.move rfl) ?_
                      refine LE.u (Un.no 69 105 true rfl rfl rfl rfl) ?_
                      refine LE.u (Un.no 69 105 true rfl rfl rfl rfl) ?_
                      refine LE.u (Un.no 69 105 true rfl rfl rfl rfl) ?_
                      refine LE.p (v := (Value.bool false)) (Wn.no rfl) rfl (R.pickF rfl rfl) ?_
                      refine LE.p (v := (Value.bool false)) (Wn.no rfl) rfl (R.assign rfl) ?_
                      refine LE.nil ?_
                      exact ⟨_, h, rfl⟩
                  · refine LE.u (Un.no 52 88 true rfl rfl rfl (congrArg Value.bool hb62)) ?_
                    refine LE.u (Un.no 52 88 true rfl rfl rfl (congrArg Value.bool hb62)) ?_
                    refine LE.u (Un.no 52 88 true rfl rfl rfl (congrArg Value.bool hb62)) ?_
                    refine LE.u (Un.no 52 88 true rfl rfl rfl (congrArg Value.bool hb62)) ?_
                    refine LE.u (Un.no 52 88 true rfl rfl rfl (congrArg Value.bool hb62)) ?_
                    refine LE.u (Un.no 52 88 true rfl rfl rfl (congrArg Value.bool hb62)) ?_
                    refine LE.u (Un.no 52 88 true rfl rfl rfl (congrArg Value.bool hb62)) ?_
                    refine LE.u (Un.no 52 88 true rfl rfl rfl (congrArg Value.bool hb62)) ?_
                    refine LE.p (v := (Value.bool false)) (Wn.no rfl) rfl (R.pickF (congrArg Value.bool hb62) rfl) ?_
                    refine LE.p (v := (Value.bool false)) (Wn.no rfl) rfl (R.move rfl) ?_
                    refine LE.u (Un.no 62 98 true rfl rfl rfl rfl) ?_
                    refine LE.u (Un.no 62 98 true rfl rfl rfl rfl) ?_
                    refine LE.u (Un.no 62 98 true rfl rfl rfl rfl) ?_
                    refine LE.u (Un.no 62 98 true rfl rfl rfl rfl) ?_
                    refine LE.u (Un.no 62 98 true rfl rfl rfl rfl) ?_
                    refine LE.p (v := (Value.bool false)) (Wn.no rfl) rfl (R.pickF rfl rfl) ?_
                    refine LE.p (v := (Value.bool false)) (Wn.no rfl) rfl (R.move rfl) ?_
                    refine LE.u (Un.no 69 105 true rfl rfl rfl rfl) ?_
                    refine LE.u (Un.no 69 105 true rfl rfl rfl rfl) ?_
                    refine LE.u (Un.no 69 105 true rfl rfl rfl rfl) ?_
                    refine LE.p (v := (Value.bool false)) (Wn.no rfl) rfl (R.pickF rfl rfl) ?_
                    refine LE.p (v := (Value.bool false)) (Wn.no rfl) rfl (R.assign rfl) ?_
                    refine LE.nil ?_
                    exact ⟨_, h, rfl⟩
                · refine LE.u (Un.no 42 78 true rfl rfl rfl (congrArg Value.bool hb57)) ?_
                  refine LE.u (Un.no 42 78 true rfl rfl rfl (congrArg Value.bool hb57)) ?_
                  refine LE.u (Un.no 42 78 true rfl rfl rfl (congrArg Value.bool hb57)) ?_
                  refine LE.u (Un.no 42 78 true rfl rfl rfl (congrArg Value.bool hb57)) ?_
                  refine LE.u (Un.no 42 78 true rfl rfl rfl (congrArg Value.bool hb57)) ?_
                  refine LE.u (Un.no 42 78 true rfl rfl rfl (congrArg Value.bool hb57)) ?_
                  refine LE.u (Un.no 42 78 true rfl rfl rfl (congrArg Value.bool hb57)) ?_
                  refine LE.u (Un.no 42 78 true rfl rfl rfl (congrArg Value.bool hb57)) ?_
                  refine LE.p (v := (Value.bool false)) (Wn.no rfl) rfl (R.pickF (congrArg Value.bool hb57) rfl) ?_
                  refine LE.p (v := (Value.bool false)) (Wn.no rfl) rfl (R.move rfl) ?_
                  refine LE.u (Un.no 52 88 true rfl rfl rfl rfl) ?_
                  refine LE.u (Un.no 52 88 true rfl rfl rfl rfl) ?_
                  refine LE.u (Un.no 52 88 true rfl rfl rfl rfl) ?_
                  refine LE.u (Un.no 52 88 true rfl rfl rfl rfl) ?_
                  refine LE.u (Un.no 52 88 true rfl rfl rfl rfl) ?_
                  refine LE.u (Un.no 52 88 true rfl rfl rfl rfl) ?_
                  refine LE.u (Un.no 52 88 true rfl rfl rfl rfl) ?_
                  refine LE.u (Un.no 52 88 true rfl rfl rfl rfl) ?_
                  refine LE.p (v := (Value.bool false)) (Wn.no rfl) rfl (R.pickF rfl rfl) ?_
                  refine LE.p (v := (Value.bool false)) (Wn.no rfl) rfl (R.move rfl) ?_
                  refine LE.u (Un.no 62 98 true rfl rfl rfl rfl) ?_
                  refine LE.u (Un.no 62 98 true rfl rfl rfl rfl) ?_
                  refine LE.u (Un.no 62 98 true rfl rfl rfl rfl) ?_
                  refine LE.u (Un.no 62 98 true rfl rfl rfl rfl) ?_
                  refine LE.u (Un.no 62 98 true rfl rfl rfl rfl) ?_
                  refine LE.p (v := (Value.bool false)) (Wn.no rfl) rfl (R.pickF rfl rfl) ?_
                  refine LE.p (v := (Value.bool false)) (Wn.no rfl) rfl (R.move rfl) ?_
                  refine LE.u (Un.no 69 105 true rfl rfl rfl rfl) ?_
                  refine LE.u (Un.no 69 105 true rfl rfl rfl rfl) ?_
                  refine LE.u (Un.no 69 105 true rfl rfl rfl rfl) ?_
                  refine LE.p (v := (Value.bool false)) (Wn.no rfl) rfl (R.pickF rfl rfl) ?_
                  refine LE.p (v := (Value.bool false)) (Wn.no rfl) rfl (R.assign rfl) ?_
                  refine LE.nil ?_
                  exact ⟨_, h, rfl⟩
              · refine LE.u (Un.no 31 67 true rfl rfl rfl (congrArg Value.bool hb50)) ?_
                refine LE.u (Un.no 31 67 true rfl rfl rfl (congrArg Value.bool hb50)) ?_
                refine LE.u (Un.no 31 67 true rfl rfl rfl (congrArg Value.bool hb50)) ?_
                refine LE.u (Un.no 31 67 true rfl rfl rfl (congrArg Value.bool hb50)) ?_
                refine LE.u (Un.no 31 67 true rfl rfl rfl (congrArg Value.bool hb50)) ?_
                refine LE.u (Un.no 31 67 true rfl rfl rfl (congrArg Value.bool hb50)) ?_
                refine LE.u (Un.no 31 67 true rfl rfl rfl (congrArg Value.bool hb50)) ?_
                refine LE.u (Un.no 31 67 true rfl rfl rfl (congrArg Value.bool hb50)) ?_
                refine LE.u (Un.no 31 67 true rfl rfl rfl (congrArg Value.bool hb50)) ?_
                refine LE.p (v := (Value.bool false)) (Wn.no rfl) rfl (R.pickF (congrArg Value.bool hb50) rfl) ?_
                refine LE.p (v := (Value.bool false)) (Wn.no rfl) rfl (R.move rfl) ?_
                refine LE.u (Un.no 42 78 true rfl rfl rfl rfl) ?_
                refine LE.u (Un.no 42 78 true rfl rfl rfl rfl) ?_
                refine LE.u (Un.no 42 78 true rfl rfl rfl rfl) ?_
                refine LE.u (Un.no 42 78 true rfl rfl rfl rfl) ?_
                refine LE.u (Un.no 42 78 true rfl rfl rfl rfl) ?_
                refine LE.u (Un.no 42 78 true rfl rfl rfl rfl) ?_
                refine LE.u (Un.no 42 78 true rfl rfl rfl rfl) ?_
                refine LE.u (Un.no 42 78 true rfl rfl rfl rfl) ?_
                refine LE.p (v := (Value.bool false)) (Wn.no rfl) rfl (R.pickF rfl rfl) ?_
                refine LE.p (v := (Value.bool false)) (Wn.no rfl) rfl (R.move rfl) ?_
                refine LE.u (Un.no 52 88 true rfl rfl rfl rfl) ?_
                refine LE.u (Un.no 52 88 true rfl rfl rfl rfl) ?_
                refine LE.u (Un.no 52 88 true rfl rfl rfl rfl) ?_
                refine LE.u (Un.no 52 88 true rfl rfl rfl rfl) ?_
                refine LE.u (Un.no 52 88 true rfl rfl rfl rfl) ?_
                refine LE.u (Un.no 52 88 true rfl rfl rfl rfl) ?_
                refine LE.u (Un.no 52 88 true rfl rfl rfl rfl) ?_
                refine LE.u (Un.no 52 88 true rfl rfl rfl rfl) ?_
                refine LE.p (v := (Value.bool false)) (Wn.no rfl) rfl (R.pickF rfl rfl) ?_
                refine LE.p (v := (Value.bool false)) (Wn.no rfl) rfl (R.move rfl) ?_
                refine LE.u (Un.no 62 98 true rfl rfl rfl rfl) ?_
                refine LE.u (Un.no 62 98 true rfl rfl rfl rfl) ?_
                refine LE.u (Un.no 62 98 true rfl rfl rfl rfl) ?_
                refine LE.u (Un.no 62 98 true rfl rfl rfl rfl) ?_
                refine LE.u (Un.no 62 98 true rfl rfl rfl rfl) ?_
                refine LE.p (v := (Value.bool false)) (Wn.no rfl) rfl (R.pickF rfl rfl) ?_
                refine LE.p (v := (Value.bool false)) (Wn.no rfl) rfl (R.move rfl) ?_
                refine LE.u (Un.no 69 105 true rfl rfl rfl rfl) ?_
                refine LE.u (Un.no 69 105 true rfl rfl rfl rfl) ?_
                refine LE.u (Un.no 69 105 true rfl rfl rfl rfl) ?_
                refine LE.p (v := (Value.bool false)) (Wn.no rfl) rfl (R.pickF rfl rfl) ?_
                refine LE.p (v := (Value.bool false)) (Wn.no rfl) rfl (R.assign rfl) ?_
                refine LE.nil ?_
                exact ⟨_, h, rfl⟩
            · refine LE.u (Un.no 26 62 true rfl rfl rfl (congrArg Value.bool hb49)) ?_
              refine LE.u (Un.no 26 62 true rfl rfl rfl (congrArg Value.bool hb49)) ?_
              refine LE.u (Un.no 26 62 true rfl rfl rfl (congrArg Value.bool hb49)) ?_
              refine LE.p (v := (Value.bool false)) (Wn.no rfl) rfl (R.pickF (congrArg Value.bool hb49) rfl) ?_
              refine LE.p (v := (Value.bool false)) (Wn.no rfl) rfl (R.move rfl) ?_
              refine LE.u (Un.no 31 67 true rfl rfl rfl rfl) ?_
              refine LE.u (Un.no 31 67 true rfl rfl rfl rfl) ?_
              refine LE.u (Un.no 31 67 true rfl rfl rfl rfl) ?_
              refine LE.u (Un.no 31 67 true rfl rfl rfl rfl) ?_
              refine LE.u (Un.no 31 67 true rfl rfl rfl rfl) ?_
              refine LE.u (Un.no 31 67 true rfl rfl rfl rfl) ?_
              refine LE.u (Un.no 31 67 true rfl rfl rfl rfl) ?_
              refine LE.u (Un.no 31 67 true rfl rfl rfl rfl) ?_
              refine LE.u (Un.no 31 67 true rfl rfl rfl rfl) ?_
              refine LE.p (v := (Value.bool false)) (Wn.no rfl) rfl (R.pickF rfl rfl) ?_
              refine LE.p (v := (Value.bool false)) (Wn.no rfl) rfl (R.move rfl) ?_
              refine LE.u (Un.no 42 78 true rfl rfl rfl rfl) ?_
              refine LE.u (Un.no 42 78 true rfl rfl rfl rfl) ?_
              refine LE.u (Un.no 42 78 true rfl rfl rfl rfl) ?_
              refine LE.u (Un.no 42 78 true rfl rfl rfl rfl) ?_
              refine LE.u (Un.no 42 78 true rfl rfl rfl rfl) ?_
              refine LE.u (Un.no 42 78 true rfl rfl rfl rfl) ?_
              refine LE.u (Un.no 42 78 true rfl rfl rfl rfl) ?_
              refine LE.u (Un.no 42 78 true rfl rfl rfl rfl) ?_
              refine LE.p (v := (Value.bool false)) (Wn.no rfl) rfl (R.pickF rfl rfl) ?_
              refine LE.p (v := (Value.bool false)) (Wn.no rfl) rfl (R.move rfl) ?_
              refine LE.u (Un.no 52 88 true rfl rfl rfl rfl) ?_
              refine LE.u (Un.no 52 88 true rfl rfl rfl rfl) ?_
              refine LE.u (Un.no 52 88 true rfl rfl rfl rfl) ?_
              refine LE.u (Un.no 52 88 true rfl rfl rfl rfl) ?_
              refine LE.u (Un.no 52 88 true rfl rfl rfl rfl) ?_
              refine LE.u (Un.no 52 88 true rfl rfl rfl rfl) ?_
              refine LE.u (Un.no 52 88 true rfl rfl rfl rfl) ?_
              refine LE.u (Un.no 52 88 true rfl rfl rfl rfl) ?_
              refine LE.p (v := (Value.bool false)) (Wn.no rfl) rfl (R.pickF rfl rfl) ?_
              refine LE.p (v := (Value.bool false)) (Wn.no rfl) rfl (R.move rfl) ?_
              refine LE.u (Un.no 62 98 true rfl rfl rfl rfl) ?_
              refine LE.u (Un.no 62 98 true rfl rfl rfl rfl) ?_
              refine LE.u (Un.no 62 98 true rfl rfl rfl rfl) ?_
              refine LE.u (Un.no 62 98 true rfl rfl rfl rfl) ?_
              refine LE.u (Un.no 62 98 true rfl rfl rfl rfl) ?_
              refine LE.p (v := (Value.bool false)) (Wn.no rfl) rfl (R.pickF rfl rfl) ?_
              refine LE.p (v := (Value.bool false)) (Wn.no rfl) rfl (R.move rfl) ?_
              refine LE.u (Un.no 69 105 true rfl rfl rfl rfl) ?_
              refine LE.u (Un.no 69 105 true rfl rfl rfl rfl) ?_
              refine LE.u (Un.no 69 105 true rfl rfl rfl rfl) ?_
              refine LE.p (v := (Value.bool false)) (Wn.no rfl) rfl (R.pickF rfl rfl) ?_
              refine LE.p (v := (Value.bool false)) (Wn.no rfl) rfl (R.assign rfl) ?_
              refine LE.nil ?_
              exact ⟨_, h, rfl⟩
          · refine LE.u (Un.no 21 57 true rfl rfl rfl (congrArg Value.bool hb48)) ?_
            refine LE.u (Un.no 21 57 true rfl rfl rfl (congrArg Value.bool hb48)) ?_
            refine LE.u (Un.no 21 57 true rfl rfl rfl (congrArg Value.bool hb48)) ?_
            refine LE.p (v := (Value.bool false)) (Wn.no rfl) rfl (R.pickF (congrArg Value.bool hb48) rfl) ?_
            refine LE.p (v := (Value.bool false)) (Wn.no rfl) rfl (R.move rfl) ?_
            refine LE.u (Un.no 26 62 true rfl rfl rfl rfl) ?_
            refine LE.u (Un.no 26 62 true rfl rfl rfl rfl) ?_
            refine LE.u (Un.no 26 62 true rfl rfl rfl rfl) ?_
            refine LE.p (v := (Value.bool false)) (Wn.no rfl) rfl (R.pickF rfl rfl) ?_
            refine LE.p (v := (Value.bool false)) (Wn.no rfl) rfl (R.move rfl) ?_
            refine LE.u (Un.no 31 67 true rfl rfl rfl rfl) ?_
            refine LE.u (Un.no 31 67 true rfl rfl rfl rfl) ?_
            refine LE.u (Un.no 31 67 true rfl rfl rfl rfl) ?_
            refine LE.u (Un.no 31 67 true rfl rfl rfl rfl) ?_
            refine LE.u (Un.no 31 67 true rfl rfl rfl rfl) ?_
            refine LE.u (Un.no 31 67 true rfl rfl rfl rfl) ?_
            refine LE.u (Un.no 31 67 true rfl rfl rfl rfl) ?_
            refine LE.u (Un.no 31 67 true rfl rfl rfl rfl) ?_
            refine LE.u (Un.no 31 67 true rfl rfl rfl rfl) ?_
            refine LE.p (v := (Value.bool false)) (Wn.no rfl) rfl (R.pickF rfl rfl) ?_
            refine LE.p (v := (Value.bool false)) (Wn.no rfl) rfl (R.move rfl) ?_
            refine LE.u (Un.no 42 78 true rfl rfl rfl rfl) ?_
            refine LE.u (Un.no 42 78 true rfl rfl rfl rfl) ?_
            refine LE.u (Un.no 42 78 true rfl rfl rfl rfl) ?_
            refine LE.u (Un.no 42 78 true rfl rfl rfl rfl) ?_
            refine LE.u (Un.no 42 78 true rfl rfl rfl rfl) ?_
            refine LE.u (Un.no 42 78 true rfl rfl rfl rfl) ?_
            refine LE.u (Un.no 42 78 true rfl rfl rfl rfl) ?_
            refine LE.u (Un.no 42 78 true rfl rfl rfl rfl) ?_
            refine LE.p (v := (Value.bool false)) (Wn.no rfl) rfl (R.pickF rfl rfl) ?_
            refine LE.p (v := (Value.bool false)) (Wn.no rfl) rfl (R.move rfl) ?_
            refine LE.u (Un.no 52 88 true rfl rfl rfl rfl) ?_
            refine LE.u (Un.no 52 88 true rfl rfl rfl rfl) ?_
            refine LE.u (Un.no 52 88 true rfl rfl rfl rfl) ?_
            refine LE.u (Un.no 52 88 true rfl rfl rfl rfl) ?_
            refine LE.u (Un.no 52 88 true rfl rfl rfl rfl) ?_
            refine LE.u (Un.no 52 88 true rfl rfl rfl rfl) ?_
            refine LE.u (Un.no 52 88 true rfl rfl rfl rfl) ?_
            refine LE.u (Un.no 52 88 true rfl rfl rfl rfl) ?_
            refine LE.p (v := (Value.bool false)) (Wn.no rfl) rfl (R.pickF rfl rfl) ?_
            refine LE.p (v := (Value.bool false)) (Wn.no rfl) rfl (R.move rfl) ?_
            refine LE.u (Un.no 62 98 true rfl rfl rfl rfl) ?_
            refine LE.u (Un.no 62 98 true rfl rfl rfl rfl) ?_
            refine LE.u (Un.no 62 98 true rfl rfl rfl rfl) ?_
            refine LE.u (Un.no 62 98 true rfl rfl rfl rfl) ?_
            refine LE.u (Un.no 62 98 true rfl rfl rfl rfl) ?_
            refine LE.p (v := (Value.bool false)) (Wn.no rfl) rfl (R.pickF rfl rfl) ?_
            refine LE.p (v := (Value.bool false)) (Wn.no rfl) rfl (R.move rfl) ?_
            refine LE.u (Un.no 69 105 true rfl rfl rfl rfl) ?_
            refine LE.u (Un.no 69 105 true rfl rfl rfl rfl) ?_
            refine LE.u (Un.no 69 105 true rfl rfl rfl rfl) ?_
            refine LE.p (v := (Value.bool false)) (Wn.no rfl) rfl (R.pickF rfl rfl) ?_
            refine LE.p (v := (Value.bool false)) (Wn.no rfl) rfl (R.assign rfl) ?_
            refine LE.nil ?_
            exact ⟨_, h, rfl⟩
        · refine LE.u (Un.no 12 48 true rfl rfl rfl (congrArg Value.bool hb43)) ?_
          refine LE.u (Un.no 12 48 true rfl rfl rfl (congrArg Value.bool hb43)) ?_
          refine LE.u (Un.no 12 48 true rfl rfl rfl (congrArg Value.bool hb43)) ?_
          refine LE.u (Un.no 12 48 true rfl rfl rfl (congrArg Value.bool hb43)) ?_
          refine LE.u (Un.no 12 48 true rfl rfl rfl (congrArg Value.bool hb43)) ?_
          refine LE.u (Un.no 12 48 true rfl rfl rfl (congrArg Value.bool hb43)) ?_
          refine LE.u (Un.no 12 48 true rfl rfl rfl (congrArg Value.bool hb43)) ?_
          refine LE.p (v := (Value.bool false)) (Wn.no rfl) rfl (R.pickF (congrArg Value.bool hb43) rfl) ?_
          refine LE.p (v := (Value.bool false)) (Wn.no rfl) rfl (R.move rfl) ?_
          refine LE.u (Un.no 21 57 true rfl rfl rfl rfl) ?_
          refine LE.u (Un.no 21 57 true rfl rfl rfl rfl) ?_
          refine LE.u (Un.no 21 57 true rfl rfl rfl rfl) ?_
          refine LE.p (v := (Value.bool false)) (Wn.no rfl) rfl (R.pickF rfl rfl) ?_
          refine LE.p (v := (Value.bool false)) (Wn.no rfl) rfl (R.move rfl) ?_
          refine LE.u (Un.no 26 62 true rfl rfl rfl rfl) ?_
          refine LE.u (Un.no 26 62 true rfl rfl rfl rfl) ?_
          refine LE.u (Un.no 26 62 true rfl rfl rfl rfl) ?_
          refine LE.p (v := (Value.bool false)) (Wn.no rfl) rfl (R.pickF rfl rfl) ?_
          refine LE.p (v := (Value.bool false)) (Wn.no rfl) rfl (R.move rfl) ?_
          refine LE.u (Un.no 31 67 true rfl rfl rfl rfl) ?_
          refine LE.u (Un.no 31 67 true rfl rfl rfl rfl) ?_
          refine LE.u (Un.no 31 67 true rfl rfl rfl rfl) ?_
          refine LE.u (Un.no 31 67 true rfl rfl rfl rfl) ?_
          refine LE.u (Un.no 31 67 true rfl rfl rfl rfl) ?_
          refine LE.u (Un.no 31 67 true rfl rfl rfl rfl) ?_
          refine LE.u (Un.no 31 67 true rfl rfl rfl rfl) ?_
          refine LE.u (Un.no 31 67 true rfl rfl rfl rfl) ?_
          refine LE.u (Un.no 31 67 true rfl rfl rfl rfl) ?_
          refine LE.p (v := (Value.bool false)) (Wn.no rfl) rfl (R.pickF rfl rfl) ?_
          refine LE.p (v := (Value.bool false)) (Wn.no rfl) rfl (R.move rfl) ?_
          refine LE.u (Un.no 42 78 true rfl rfl rfl rfl) ?_
          refine LE.u (Un.no 42 78 true rfl rfl rfl rfl) ?_
          refine LE.u (Un.no 42 78 true rfl rfl rfl rfl) ?_
          refine LE.u (Un.no 42 78 true rfl rfl rfl rfl) ?_
          refine LE.u (Un.no 42 78 true rfl rfl rfl rfl) ?_
          refine LE.u (Un.no 42 78 true rfl rfl rfl rfl) ?_
          refine LE.u (Un.no 42 78 true rfl rfl rfl rfl) ?_
          refine LE.u (Un.no 42 78 true rfl rfl rfl rfl) ?_
          refine LE.p (v := (Value.bool false)) (Wn.no rfl) rfl (R.pickF rfl rfl) ?_
          refine LE.p (v := (Value.bool false)) (Wn.no rfl) rfl (R.move rfl) ?_
          refine LE.u (Un.no 52 88 true rfl rfl rfl rfl) ?_
          refine LE.u (Un.no 52 88 true rfl rfl rfl rfl) ?_
          refine LE.u (Un.no 52 88 true rfl rfl rfl rfl) ?_
          refine LE.u (Un.no 52 88 true rfl rfl rfl rfl) ?_
          refine LE.u (Un.no 52 88 true rfl rfl rfl rfl) ?_
          refine LE.u (Un.no 52 88 true rfl rfl rfl rfl) ?_
          refine LE.u (Un.no 52 88 true rfl rfl rfl rfl) ?_
          refine LE.u (Un.no 52 88 true rfl rfl rfl rfl) ?_
          refine LE.p (v := (Value.bool false)) (Wn.no rfl) rfl (R.pickF rfl rfl) ?_
          refine LE.p (v := (Value.bool false)) (Wn.no rfl) rfl (R.move rfl) ?_
          refine LE.u (Un.no 62 98 true rfl rfl rfl rfl) ?_
          refine LE.u (Un.no 62 98 true rfl rfl rfl rfl) ?_
          refine LE.u (Un.no 62 98 true rfl rfl rfl rfl) ?_
          refine LE.u (Un.no 62 98 true rfl rfl rfl rfl) ?_
          refine LE.u (Un.no 62 98 true rfl rfl rfl rfl) ?_
          refine LE.p (v := (Value.bool false)) (Wn.no rfl) rfl (R.pickF rfl rfl) ?_
          refine LE.p (v := (Value.bool false)) (Wn.no rfl) rfl (R.move rfl) ?_
          refine LE.u (Un.no 69 105 true rfl rfl rfl rfl) ?_
          refine LE.u (Un.no 69 105 true rfl rfl rfl rfl) ?_
          refine LE.u (Un.no 69 105 true rfl rfl rfl rfl) ?_
          refine LE.p (v := (Value.bool false)) (Wn.no rfl) rfl (R.pickF rfl rfl) ?_
          refine LE.p (v := (Value.bool false)) (Wn.no rfl) rfl (R.assign rfl) ?_
          refine LE.nil ?_
          exact ⟨_, h, rfl⟩
      · refine LE.u (Un.no 5 41 true rfl rfl rfl (congrArg Value.bool hb38)) ?_
        refine LE.u (Un.no 5 41 true rfl rfl rfl (congrArg Value.bool hb38)) ?_
        refine LE.u (Un.no 5 41 true rfl rfl rfl (congrArg Value.bool hb38)) ?_
        refine LE.u (Un.no 5 41 true rfl rfl rfl (congrArg Value.bool hb38)) ?_
        refine LE.u (Un.no 5 41 true rfl rfl rfl (congrArg Value.bool hb38)) ?_
        refine LE.p (v := (Value.bool false)) (Wn.no rfl) rfl (R.pickF (congrArg Value.bool hb38) rfl) ?_
        refine LE.p (v := (Value.bool false)) (Wn.no rfl) rfl (R.move rfl) ?_
        refine LE.u (Un.no 12 48 true rfl rfl rfl rfl) ?_
        refine LE.u (Un.no 12 48 true rfl rfl rfl rfl) ?_
        refine LE.u (Un.no 12 48 true rfl rfl rfl rfl) ?_
        refine LE.u (Un.no 12 48 true rfl rfl rfl rfl) ?_
        refine LE.u (Un.no 12 48 true rfl rfl rfl rfl) ?_
        refine LE.u (Un.no 12 48 true rfl rfl rfl rfl) ?_
        refine LE.u (Un.no 12 48 true rfl rfl rfl rfl) ?_
        refine LE.p (v := (Value.bool false)) (Wn.no rfl) rfl (R.pickF rfl rfl) ?_
        refine LE.p (v := (Value.bool false)) (Wn.no rfl) rfl (R.move rfl) ?_
        refine LE.u (Un.no 21 57 true rfl rfl rfl rfl) ?_
        refine LE.u (Un.no 21 57 true rfl rfl rfl rfl) ?_
        refine LE.u (Un.no 21 57 true rfl rfl rfl rfl) ?_
        refine LE.p (v := (Value.bool false)) (Wn.no rfl) rfl (R.pickF rfl rfl) ?_
        refine LE.p (v := (Value.bool false)) (Wn.no rfl) rfl (R.move rfl) ?_
        refine LE.u (Un.no 26 62 true rfl rfl rfl rfl) ?_
        refine LE.u (Un.no 26 62 true rfl rfl rfl rfl) ?_
        refine LE.u (Un.no 26 62 true rfl rfl rfl rfl) ?_
        refine LE.p (v := (Value.bool false)) (Wn.no rfl) rfl (R.pickF rfl rfl) ?_
        refine LE.p (v := (Value.bool false)) (Wn.no rfl) rfl (R.move rfl) ?_
        refine LE.u (Un.no 31 67 true rfl rfl rfl rfl) ?_
        refine LE.u (Un.no 31 67 true rfl rfl rfl rfl) ?_
        refine LE.u (Un.no 31 67 true rfl rfl rfl rfl) ?_
        refine LE.u (Un.no 31 67 true rfl rfl rfl rfl) ?_
        refine LE.u (Un.no 31 67 true rfl rfl rfl rfl) ?_
        refine LE.u (Un.no 31 67 true rfl rfl rfl rfl) ?_
        refine LE.u (Un.no 31 67 true rfl rfl rfl rfl) ?_
        refine LE.u (Un.no 31 67 true rfl rfl rfl rfl) ?_
        refine LE.u (Un.no 31 67 true rfl rfl rfl rfl) ?_
        refine LE.p (v := (Value.bool false)) (Wn.no rfl) rfl (R.pickF rfl rfl) ?_
        refine LE.p (v := (Value.bool false)) (Wn.no rfl) rfl (R.move rfl) ?_
        refine LE.u (Un.no 42 78 true rfl rfl rfl rfl) ?_
        refine LE.u (Un.no 42 78 true rfl rfl rfl rfl) ?_
        refine LE.u (Un.no 42 78 true rfl rfl rfl rfl) ?_
        refine LE.u (Un.no 42 78 true rfl rfl rfl rfl) ?_
        refine LE.u (Un.no 42 78 true rfl rfl rfl rfl) ?_
        refine LE.u (Un.no 42 78 true rfl rfl rfl rfl) ?_
        refine LE.u (Un.no 42 78 true rfl rfl rfl rfl) ?_
        refine LE.u (Un.no 42 78 true rfl rfl rfl rfl) ?_
        refine LE.p (v := (Value.bool false)) (Wn.no rfl) rfl (R.pickF rfl rfl) ?_
        refine LE.p (v := (Value.bool false)) (Wn.no rfl) rfl (R.move rfl) ?_
        refine LE.u (Un.no 52 88 true rfl rfl rfl rfl) ?_
        refine LE.u (Un.no 52 88 true rfl rfl rfl rfl) ?_
        refine LE.u (Un.no 52 88 true rfl rfl rfl rfl) ?_
        refine LE.u (Un.no 52 88 true rfl rfl rfl rfl) ?_
        refine LE.u (Un.no 52 88 true rfl rfl rfl rfl) ?_
        refine LE.u (Un.no 52 88 true rfl rfl rfl rfl) ?_
        refine LE.u (Un.no 52 88 true rfl rfl rfl rfl) ?_
        refine LE.u (Un.no 52 88 true rfl rfl rfl rfl) ?_
        refine LE.p (v := (Value.bool false)) (Wn.no rfl) rfl (R.pickF rfl rfl) ?_
        refine LE.p (v := (Value.bool false)) (Wn.no rfl) rfl (R.move rfl) ?_
        refine LE.u (Un.no 62 98 true rfl rfl rfl rfl) ?_
        refine LE.u (Un.no 62 98 true rfl rfl rfl rfl) ?_
        refine LE.u (Un.no 62 98 true rfl rfl rfl rfl) ?_
        refine LE.u (Un.no 62 98 true rfl rfl rfl rfl) ?_
        refine LE.u (Un.no 62 98 true rfl rfl rfl rfl) ?_
        refine LE.p (v := (Value.bool false)) (Wn.no rfl) rfl (R.pickF rfl rfl) ?_
        refine LE.p (v := (Value.bool false)) (Wn.no rfl) rfl (R.move rfl) ?_
        refine LE.u (Un.no 69 105 true rfl rfl rfl rfl) ?_
        refine LE.u (Un.no 69 105 true rfl rfl rfl rfl) ?_
        refine LE.u (Un.no 69 105 true rfl rfl rfl rfl) ?_
        refine LE.p (v := (Value.bool false)) (Wn.no rfl) rfl (R.pickF rfl rfl) ?_
        refine LE.p (v := (Value.bool false)) (Wn.no rfl) rfl (R.assign rfl) ?_
        refine LE.nil ?_
        exact ⟨_, h, rfl⟩
    · rintro e73 w74 ⟨x33, h, f75⟩
      subst hJ32
      refine WE.ret ?_
      exact ⟨_, (Res.tmp f75 Res.nil), _, rfl, h⟩
/-- The formula of signpost.signpostref6.Encode. -/
def F24 (p0 : SV) (K : SV → World → Prop) (w0 : World) : Prop :=
M.loop2 (fun (J3 : SV → Int → World → Prop) (x1 : SV) (x2 : Int) (w4 : World) => 
M.ite (decide (x2 < (p0.len : Int))) (
M.drew w4 fun w15 => 
M.idx p0 x2 2 fun a16 =>
M.idx p0 x2 2 fun a20 =>
M.ld (Value.int .i64) (a16.add (x2.toNat * 2)) w15 fun t24 =>
M.ld SV.v ((a20.add (x2.toNat * 2)).add 1) w15 fun t26 =>
M.new (.cells #[(Value.int .u8 (IntKind.u8.wrap t24)), (Value.int .u8 (IntKind.u8.wrap (t26.len : Int)))] 5) w15 fun b30 w28 =>
M.app Try.prog 40 40 40 x1 (SV.v (SV.mk (some b30) 2 2)) w28 fun s31 w32 =>
M.loop2 (fun (J36 : SV → Int → World → Prop) (x34 : SV) (x35 : Int) (w37 : World) => 
M.idx p0 x2 2 fun a48 =>
M.ld SV.v ((a48.add (x2.toNat * 2)).add 1) w37 fun t52 =>
M.ite (decide (x35 < (t52.len : Int))) (
M.idx p0 x2 2 fun a55 =>
M.ld SV.v ((a55.add (x2.toNat * 2)).add 1) w37 fun t59 =>
M.idx t59 x35 1 fun a61 =>
M.ld (Value.int .u32) (a61.add (x35.toNat * 1)) w37 fun t65 =>
Calls Try.prog 47 #[(SV.v x34), (Value.int .u32 t65)] w37 (R47 fun r67 w68 =>
J36 r67 (IntKind.i64.wrap (x35 + (1 : Int))) w68)) (
J3 x34 (IntKind.i64.wrap (x2 + (1 : Int))) w37)) s31 (0 : Int) w32) (
K x1 w4)) SV.nil (0 : Int) w0
theorem F24_ok {w0 : World} {p0 : SV} {K : SV → World → Prop} (h : F24 p0 K w0) : Calls Try.prog 24 #[(SV.v p0)] w0 (R24 K) := by
  refine calls_of_WE (args := [(SV.v p0)]) (rs := [.tmp 2]) Try.func24 rfl (N := 49) rfl rfl rfl rfl ?_
  refine WE.seq ?_
  refine WE.reg ?_
  refine LE.p (v := (SV.v SV.nil)) (Wn.no rfl) rfl (R.assign rfl) ?_
  refine LE.nil ?_
  refine WE.seq ?_
  refine WE.reg ?_
  refine LE.p (v := (SV.v SV.nil)) (Wn.no rfl) rfl (R.assign rfl) ?_
  refine LE.nil ?_
  refine WE.seq ?_
  refine WE.seq ?_
  refine WE.reg ?_
  refine LE.p (v := (Value.int .i64 (0 : Int))) (Wn.no rfl) rfl (R.assign rfl) ?_
  refine LE.nil ?_
  refine WE.block ?_
  obtain ⟨I7, ⟨n6, h⟩, hr8⟩ := h
  refine WE.loop (fun n e w => ∃ (x1 : SV) (x2 : Int), I7 n x1 x2 w ∧ e 0 = (SV.v p0) ∧ e 3 = (SV.v x1) ∧ e 4 = (Value.int .i64 x2)) n6 ⟨_, _, h, rfl, rfl, rfl⟩ ?_
  clear h
  rintro n6 e5 w4 ⟨x1, x2, h, f11, f12, f13⟩
  replace h := hr8 n6 x1 x2 w4 h
  refine WE.seq ?_
  refine WE.seq ?_
  refine WE.reg ?_
  refine LE.p (v := (Value.int .i64 x2)) (Wn.no rfl) rfl (R.move f13) ?_
  refine LE.p (v := (SV.v p0)) (Wn.no rfl) rfl (R.move f11) ?_
  refine LE.p (v := (Value.int .i64 (p0.len : Int))) (Wn.no rfl) rfl (R.len sl24 rfl) ?_
  refine LE.p (v := (Value.bool (decide (x2 < (p0.len : Int))))) (Wn.no rfl) rfl (R.lss rfl rfl) ?_
  refine LE.nil ?_
  refine WE.condT rfl (b := (decide (x2 < (p0.len : Int)))) rfl ?_ ?_
  · intro hb14
    replace h := M.ite_t h hb14
    refine WE.skip ?_
    refine WE.seq ?_
    refine WE.block ?_
    refine WE.seq ?_
    refine WE.draw mix ?_
    obtain ⟨w15, hww15, h⟩ := M.drew_use h
    rw [← hww15]
    clear hww15
    refine DE.t 0 (v := (SV.v x1)) rfl (by kernel_rfl) (Wn.no rfl) rfl (R.move f12) ?_
    refine DE.t 1 (v := (SV.v p0)) rfl (by kernel_rfl) (Wn.no rfl) rfl (R.move f11) ?_
    refine DE.t 2 (v := (Value.int .i64 x2)) rfl (by kernel_rfl) (Wn.no rfl) rfl (R.move f13) ?_
    obtain ⟨a16, h17, h18, h19, h⟩ := h
    refine DE.t 3 (v := (Value.pointer (some (a16.add (x2.toNat * 2))))) rfl (by kernel_rfl) (Wn.no rfl) rfl (R.idx (s := p0) sl24 rfl rfl h17 h18 h19) ?_
    refine DE.t 4 (v := (Value.pointer (some (a16.add (x2.toNat * 2))))) rfl (by kernel_rfl) (Wn.no rfl) rfl (R.fld (off := 0) fa27_0 rfl) ?_
    refine DE.t 7 (v := (SV.v p0)) rfl (by kernel_rfl) (Wn.no rfl) rfl (R.move f11) ?_
    refine DE.t 8 (v := (Value.int .i64 x2)) rfl (by kernel_rfl) (Wn.no rfl) rfl (R.move f13) ?_
    obtain ⟨a20, h21, h22, h23, h⟩ := h
    refine DE.t 9 (v := (Value.pointer (some (a20.add (x2.toNat * 2))))) rfl (by kernel_rfl) (Wn.no rfl) rfl (R.idx (s := p0) sl24 rfl rfl h21 h22 h23) ?_
    refine DE.t 10 (v := (Value.pointer (some ((a20.add (x2.toNat * 2)).add 1)))) rfl (by kernel_rfl) (Wn.no rfl) rfl (R.fld (off := 1) fa27_1 rfl) ?_
    obtain ⟨t24, h25, h⟩ := h
    refine DE.hold 5 (fun w => w.cell? (a16.add (x2.toNat * 2)) = some (Value.int .i64 t24)) (v := (Value.int .i64 t24)) rfl (by kernel_rfl) (Wn.no rfl) rfl h25 (fun w hs => R.ld sc3 rfl hs) ?_
    refine DE.t 6 (v := (Value.int .u8 (IntKind.u8.wrap t24))) rfl (by kernel_rfl) (Wn.no rfl) rfl (R.conv in5 in3 rfl) ?_
    obtain ⟨t26, h27, h⟩ := h
    refine DE.main 11 (by kernel_rfl) ?_
    refine One.r 11 (v := (SV.v t26)) rfl (Wn.no rfl) rfl (R.ld sc25 rfl h27) (.inl rfl) ?_
    refine DE.t 12 (v := (Value.int .i64 (t26.len : Int))) rfl (by kernel_rfl) (Wn.no rfl) rfl (R.len sl25 rfl) ?_
    refine DE.t 13 (v := (Value.int .u8 (IntKind.u8.wrap (t26.len : Int)))) rfl (by kernel_rfl) (Wn.no rfl) rfl (R.conv in5 in3 rfl) ?_
    obtain ⟨b30, hpb30, w28, hww28, h⟩ := M.new_use h
    refine DE.main 14 (by kernel_rfl) ?_
    refine One.r 14 (v := (SV.v (SV.mk (some b30) 2 2))) rfl (Wn.no rfl) rfl (R.bsl (by exact (Ls.cons (R.Pr rfl) (Ls.cons (R.Pr rfl) Ls.nil))) (fun w => bs40_2 (IntKind.u8.wrap t24) (IntKind.u8.wrap (t26.len : Int)) w) hpb30 hww28) (.inr ⟨aftT (by kernel_rfl), trivial⟩) ?_
    obtain ⟨s31, w32, h33, h⟩ := h
    refine DE.main 15 (by kernel_rfl) ?_
    refine One.r 15 (v := (SV.v s31)) rfl (Wn.no rfl) rfl (R.app (s := x1) (r := s31) rfl rfl h33) (.inr ⟨aftT (by kernel_rfl), trivial⟩) ?_
    refine DE.t 16 (v := (SV.v s31)) rfl (by kernel_rfl) (Wn.no rfl) rfl (R.assign rfl) ?_
    refine DE.done (by kernel_rfl) ?_
    refine WE.seq ?_
    refine WE.reg ?_
    refine LE.p (v := (Value.int .i64 (0 : Int))) (Wn.no rfl) rfl (R.assign rfl) ?_
    refine LE.nil ?_
    refine WE.block ?_
    obtain ⟨I40, ⟨n39, h⟩, hr41⟩ := h
    refine WE.loop (fun n e w => ∃ (x34 : SV) (x35 : Int), I40 n x34 x35 w ∧ e 0 = (SV.v p0) ∧ e 3 = (SV.v x34) ∧ e 4 = (Value.int .i64 x2) ∧ e 5 = (Value.int .i64 x35)) n39 ⟨_, _, h, f11, rfl, f13, rfl⟩ ?_
    clear h
    rintro n39 e38 w37 ⟨x34, x35, h, f44, f45, f46, f47⟩
    replace h := hr41 n39 x34 x35 w37 h
    refine WE.seq ?_
    refine WE.seq ?_
    refine WE.reg ?_
    refine LE.p (v := (Value.int .i64 x35)) (Wn.no rfl) rfl (R.move f47) ?_
    refine LE.p (v := (SV.v p0)) (Wn.no rfl) rfl (R.move f44) ?_
    refine LE.p (v := (Value.int .i64 x2)) (Wn.no rfl) rfl (R.move f46) ?_
    obtain ⟨a48, h49, h50, h51, h⟩ := h
    refine LE.p (v := (Value.pointer (some (a48.add (x2.toNat * 2))))) (Wn.no rfl) rfl (R.idx (s := p0) sl24 rfl rfl h49 h50 h51) ?_
    refine LE.p (v := (Value.pointer (some ((a48.add (x2.toNat * 2)).add 1)))) (Wn.no rfl) rfl (R.fld (off := 1) fa27_1 rfl) ?_
    obtain ⟨t52, h53, h⟩ := h
    refine LE.r (v := (SV.v t52)) (Wn.no rfl) rfl (R.ld sc25 rfl h53) ?_
    refine LE.p (v := (Value.int .i64 (t52.len : Int))) (Wn.no rfl) rfl (R.len sl25 rfl) ?_
    refine LE.p (v := (Value.bool (decide (x35 < (t52.len : Int))))) (Wn.no rfl) rfl (R.lss rfl rfl) ?_
    refine LE.nil ?_
    refine WE.condT rfl (b := (decide (x35 < (t52.len : Int)))) rfl ?_ ?_
    · intro hb54
      replace h := M.ite_t h hb54
      refine WE.skip ?_
      refine WE.seq ?_
      refine WE.block ?_
      refine WE.reg ?_
      refine LE.p (v := (SV.v x34)) (Wn.no rfl) rfl (R.move f45) ?_
      refine LE.p (v := (SV.v p0)) (Wn.no rfl) rfl (R.move f44) ?_
      refine LE.p (v := (Value.int .i64 x2)) (Wn.no rfl) rfl (R.move f46) ?_
      obtain ⟨a55, h56, h57, h58, h⟩ := h
      refine LE.p (v := (Value.pointer (some (a55.add (x2.toNat * 2))))) (Wn.no rfl) rfl (R.idx (s := p0) sl24 rfl rfl h56 h57 h58) ?_
      refine LE.p (v := (Value.pointer (some ((a55.add (x2.toNat * 2)).add 1)))) (Wn.no rfl) rfl (R.fld (off := 1) fa27_1 rfl) ?_
      obtain ⟨t59, h60, h⟩ := h
      refine LE.r (v := (SV.v t59)) (Wn.no rfl) rfl (R.ld sc25 rfl h60) ?_
      refine LE.p (v := (Value.int .i64 x35)) (Wn.no rfl) rfl (R.move f47) ?_
      obtain ⟨a61, h62, h63, h64, h⟩ := h
      refine LE.p (v := (Value.pointer (some (a61.add (x35.toNat * 1))))) (Wn.no rfl) rfl (R.idx (s := t59) sl25 rfl rfl h62 h63 h64) ?_
      obtain ⟨t65, h66, h⟩ := h
      refine LE.r (v := (Value.int .u32 t65)) (Wn.no rfl) rfl (R.ld sc23 rfl h66) ?_
      refine LE.c (Wn.no rfl) rfl (R.call bd47 (Ls.cons rfl (Ls.cons rfl Ls.nil)) rfl) (Calls.mono h ?_)
      rintro _ w68 ⟨r67, rfl, h⟩
      refine ⟨_, rfl, ?_⟩
      refine LE.p (v := (SV.v r67)) (Wn.no rfl) rfl (R.assign rfl) ?_
      refine LE.nil ?_
      refine WE.reg ?_
      refine LE.p (v := (Value.int .i64 x35)) (Wn.no rfl) rfl (R.move f47) ?_
      refine LE.p (v := (Value.int .i64 (IntKind.i64.wrap (x35 + (1 : Int))))) (Wn.no rfl) rfl (R.add rfl rfl) ?_
      refine LE.p (v := (Value.int .i64 (IntKind.i64.wrap (x35 + (1 : Int))))) (Wn.no rfl) rfl (R.assign rfl) ?_
      refine LE.nil ?_
      obtain ⟨m42, hm43, h⟩ := h
      exact ⟨m42, hm43, _, _, h, f44, rfl, f46, rfl⟩
    · intro hb54
      replace h := M.ite_f h hb54
      refine WE.exit ?_
      refine WE.reg ?_
      refine LE.p (v := (Value.int .i64 x2)) (Wn.no rfl) rfl (R.move f46) ?_
      refine LE.p (v := (Value.int .i64 (IntKind.i64.wrap (x2 + (1 : Int))))) (Wn.no rfl) rfl (R.add rfl rfl) ?_
      refine LE.p (v := (Value.int .i64 (IntKind.i64.wrap (x2 + (1 : Int))))) (Wn.no rfl) rfl (R.assign rfl) ?_
      refine LE.nil ?_
      obtain ⟨m9, hm10, h⟩ := h
      exact ⟨m9, hm10, _, _, h, f44, f45, rfl⟩
  · intro hb14
    replace h := M.ite_f h hb14
    refine WE.exit ?_
    refine WE.seq ?_
    refine WE.reg ?_
    refine LE.p (v := (SV.v x1)) (Wn.no rfl) rfl (R.move f12) ?_
    refine LE.p (v := (SV.v x1)) (Wn.no rfl) rfl (R.assign rfl) ?_
    refine LE.nil ?_
    refine WE.ret ?_
    exact ⟨_, (Res.tmp rfl Res.nil), _, rfl, h⟩
/-- The formula of signpost.signpostlaw6.read. -/
def F25 (p0 : SV) (K : Bool → World → Prop) (w0 : World) : Prop :=
Calls Try.prog 20 #[(SV.v p0)] w0 (R20 fun r1 r2 w3 =>
Calls Try.prog 48 #[(SV.v p0)] w3 (R48 fun r4 r5 w6 =>
M.join (fun (x8 : Bool) (w13 : World) => 
K x8 w13) fun J7 => 
Calls Try.prog 21 #[(SV.v r1), (SV.v r4)] w6 (R21 fun r9 w10 =>
M.ite r9 (
J7 (r2 == r5) w10) (
J7 false w10))))
theorem F25_ok {w0 : World} {p0 : SV} {K : Bool → World → Prop} (h : F25 p0 K w0) : Calls Try.prog 25 #[(SV.v p0)] w0 (R25 K) := by
  refine calls_of_WE (args := [(SV.v p0)]) (rs := [.tmp 2]) Try.func25 rfl (N := 25) rfl rfl rfl rfl ?_
  refine WE.seq ?_
  refine WE.reg ?_
  refine LE.p (v := (Value.bool false)) (Wn.no rfl) rfl (R.assign rfl) ?_
  refine LE.nil ?_
  refine WE.seq ?_
  refine WE.reg ?_
  refine LE.p (v := (SV.v p0)) (Wn.no rfl) rfl (R.move rfl) ?_
  refine LE.c (Wn.no rfl) rfl (R.call bd20 (Ls.cons rfl Ls.nil) rfl) (Calls.mono h ?_)
  rintro _ w3 ⟨r1, r2, rfl, h⟩
  refine ⟨_, rfl, ?_⟩
  refine LE.p (v := (Value.tuple #[(SV.v r1), (Value.bool r2)])) (Wn.no rfl) rfl (R.move rfl) ?_
  refine LE.p (v := (SV.v r1)) (Wn.no rfl) rfl (R.ext rfl rfl) ?_
  refine LE.p (v := (Value.bool r2)) (Wn.no rfl) rfl (R.ext rfl rfl) ?_
  refine LE.p (v := (SV.v r1)) (Wn.no rfl) rfl (R.assign rfl) ?_
  refine LE.p (v := (Value.bool r2)) (Wn.no rfl) rfl (R.assign rfl) ?_
  refine LE.nil ?_
  refine WE.seq ?_
  refine WE.reg ?_
  refine LE.p (v := (SV.v p0)) (Wn.no rfl) rfl (R.move rfl) ?_
  refine LE.c (Wn.no rfl) rfl (R.call bd48 (Ls.cons rfl Ls.nil) rfl) (Calls.mono h ?_)
  rintro _ w6 ⟨r4, r5, rfl, h⟩
  refine ⟨_, rfl, ?_⟩
  refine LE.p (v := (Value.tuple #[(SV.v r4), (Value.bool r5)])) (Wn.no rfl) rfl (R.move rfl) ?_
  refine LE.p (v := (SV.v r4)) (Wn.no rfl) rfl (R.ext rfl rfl) ?_
  refine LE.p (v := (Value.bool r5)) (Wn.no rfl) rfl (R.ext rfl rfl) ?_
  refine LE.p (v := (SV.v r4)) (Wn.no rfl) rfl (R.assign rfl) ?_
  refine LE.p (v := (Value.bool r5)) (Wn.no rfl) rfl (R.assign rfl) ?_
  refine LE.nil ?_
  refine WE.seq ?_
  obtain ⟨J7, hJ7, h⟩ := M.join_use h
  refine WE.regJ (fun e w => ∃ (x8 : Bool), J7 x8 w ∧ e 2 = (Value.bool x8)) ?_ ?_
  · clear hJ7
    refine LE.p (v := (SV.v r1)) (Wn.no rfl) rfl (R.move rfl) ?_
    refine LE.p (v := (SV.v r4)) (Wn.no rfl) rfl (R.move rfl) ?_
    refine LE.c (Wn.no rfl) rfl (R.call bd21 (Ls.cons rfl (Ls.cons rfl Ls.nil)) rfl) (Calls.mono h ?_)
    rintro _ w10 ⟨r9, rfl, h⟩
    refine ⟨_, rfl, ?_⟩
    refine LE.p (v := (Value.bool r9)) (Wn.no rfl) rfl (R.move rfl) ?_
    rcases M.ite_use h with ⟨hb11, h⟩ | ⟨hb11, h⟩
    · refine LE.p (v := (Value.bool r2)) (Wn.yes 3 20 true rfl rfl rfl (congrArg Value.bool hb11)) rfl (R.move rfl) ?_
      refine LE.p (v := (Value.bool r5)) (Wn.yes 3 20 true rfl rfl rfl (congrArg Value.bool hb11)) rfl (R.move rfl) ?_
      refine LE.p (v := (Value.bool (r2 == r5))) (Wn.yes 3 20 true rfl rfl rfl (congrArg Value.bool hb11)) rfl (R.beql bo4 rfl rfl) ?_
      refine LE.p (v := (Value.bool (r2 == r5))) (Wn.no rfl) rfl (R.pickT (congrArg Value.bool hb11) rfl) ?_
      refine LE.p (v := (Value.bool (r2 == r5))) (Wn.no rfl) rfl (R.assign rfl) ?_
      refine LE.nil ?_
      exact ⟨_, h, rfl⟩
    · refine LE.u (Un.no 3 20 true rfl rfl rfl (congrArg Value.bool hb11)) ?_
      refine LE.u (Un.no 3 20 true rfl rfl rfl (congrArg Value.bool hb11)) ?_
      refine LE.u (Un.no 3 20 true rfl rfl rfl (congrArg Value.bool hb11)) ?_
      refine LE.p (v := (Value.bool false)) (Wn.no rfl) rfl (R.pickF (congrArg Value.bool hb11) rfl) ?_
      refine LE.p (v := (Value.bool false)) (Wn.no rfl) rfl (R.assign rfl) ?_
      refine LE.nil ?_
      exact ⟨_, h, rfl⟩
  · rintro e12 w13 ⟨x8, h, f14⟩
    subst hJ7
    refine WE.ret ?_
    exact ⟨_, (Res.tmp f14 Res.nil), _, rfl, h⟩
/-- The formula of signpost.signpostlaw6.short. -/
def F26 (p0 : SV) (K : SV → World → Prop) (w0 : World) : Prop :=
M.join (fun (x2 : SV) (w9 : World) => 
M.loop2 (fun (J13 : SV → Int → World → Prop) (x11 : SV) (x12 : Int) (w14 : World) => 
M.ite (decide (x12 < (x2.len : Int))) (
M.idx x2 x12 2 fun a25 =>
M.ld (Value.int .i64) (a25.add (x12.toNat * 2)) w14 fun t29 =>
M.ld SV.v ((a25.add (x12.toNat * 2)).add 1) w14 fun t31 =>
M.new (.cells #[(Value.int .i64 (0 : Int)), (SV.v SV.nil)] 27) w14 fun b34 w33 =>
M.stA b34 [(Value.int .i64 t29), (SV.v t31)] w33 fun w35 =>
M.join (fun (w51 : World) => 
M.ld (Value.int .i64) b34 w51 fun t56 =>
M.ld SV.v (b34.add 1) w51 fun t58 =>
M.new (.cells #[(Value.int .i64 t56), (SV.v t58)] 27) w51 fun b62 w60 =>
M.app Try.prog 24 24 24 x11 (SV.v (SV.mk (some b62) 1 1)) w60 fun s63 w64 =>
J13 s63 (IntKind.i64.wrap (x12 + (1 : Int))) w64) fun J37 => 
M.ld SV.v (b34.add 1) w35 fun t38 =>
M.ite (decide ((257 : Int) < (t38.len : Int))) (
M.ld SV.v (b34.add 1) w35 fun t41 =>
M.bnd (0 : Int) (257 : Int) t41 <|
M.st (b34.add 1) (SV.v (SV.sub t41 (Int.toNat (0 : Int)) (Int.toNat (257 : Int)) 1)) w35 fun w47 =>
J37 w47) (
J37 w35)) (
K x11 w14)) SV.nil (0 : Int) w9) fun J1 => 
M.ite (decide ((18 : Int) < (p0.len : Int))) (
M.bnd (0 : Int) (18 : Int) p0 <|
J1 (SV.sub p0 (Int.toNat (0 : Int)) (Int.toNat (18 : Int)) 2) w0) (
J1 p0 w0)
theorem F26_ok {w0 : World} {p0 : SV} {K : SV → World → Prop} (h : F26 p0 K w0) : Calls Try.prog 26 #[(SV.v p0)] w0 (R26 K) := by
  refine calls_of_WE (args := [(SV.v p0)]) (rs := [.tmp 2]) Try.func26 rfl (N := 34) rfl rfl rfl rfl ?_
  refine WE.seq ?_
  refine WE.reg ?_
  refine LE.p (v := (SV.v SV.nil)) (Wn.no rfl) rfl (R.assign rfl) ?_
  refine LE.nil ?_
  obtain ⟨J1, hJ1, h⟩ := M.join_use h
  refine WE.join (fun e w => ∃ (x2 : SV), J1 x2 w ∧ e 0 = (SV.v x2)) ?_ ?_
  · clear hJ1
    refine WE.seq ?_
    refine WE.reg ?_
    refine LE.p (v := (SV.v p0)) (Wn.no rfl) rfl (R.move rfl) ?_
    refine LE.p (v := (Value.int .i64 (p0.len : Int))) (Wn.no rfl) rfl (R.len sl24 rfl) ?_
    refine LE.p (v := (Value.bool (decide ((18 : Int) < (p0.len : Int))))) (Wn.no rfl) rfl (R.gtr rfl rfl) ?_
    refine LE.nil ?_
    refine WE.condT rfl (b := (decide ((18 : Int) < (p0.len : Int)))) rfl ?_ ?_
    · intro hb3
      replace h := M.ite_t h hb3
      refine WE.reg ?_
      refine LE.p (v := (SV.v p0)) (Wn.no rfl) rfl (R.move rfl) ?_
      obtain ⟨h4, h5, h6, h⟩ := h
      refine LE.p (v := (SV.v (SV.sub p0 (Int.toNat (0 : Int)) (Int.toNat (18 : Int)) 2))) (Wn.no rfl) rfl (R.slc (s := p0) (lo := (0 : Int)) (hi := (18 : Int)) _ _ sl24 rfl rfl rfl h4 h5 h6) ?_
      refine LE.p (v := (SV.v (SV.sub p0 (Int.toNat (0 : Int)) (Int.toNat (18 : Int)) 2))) (Wn.no rfl) rfl (R.assign rfl) ?_
      refine LE.nil ?_
      exact ⟨_, h, rfl⟩
    · intro hb3
      replace h := M.ite_f h hb3
      refine WE.skip ?_
      exact ⟨_, h, rfl⟩
  · rintro e8 w9 ⟨x2, h, f10⟩
    subst hJ1
    refine WE.seq ?_
    refine WE.reg ?_
    refine LE.p (v := (SV.v SV.nil)) (Wn.no rfl) rfl (R.assign rfl) ?_
    refine LE.nil ?_
    refine WE.seq ?_
    refine WE.seq ?_
    refine WE.reg ?_
    refine LE.p (v := (Value.int .i64 (0 : Int))) (Wn.no rfl) rfl (R.assign rfl) ?_
    refine LE.nil ?_
    refine WE.block ?_
    obtain ⟨I17, ⟨n16, h⟩, hr18⟩ := h
    refine WE.loop (fun n e w => ∃ (x11 : SV) (x12 : Int), I17 n x11 x12 w ∧ e 0 = (SV.v x2) ∧ e 3 = (SV.v x11) ∧ e 4 = (Value.int .i64 x12)) n16 ⟨_, _, h, f10, rfl, rfl⟩ ?_
    clear h
    rintro n16 e15 w14 ⟨x11, x12, h, f21, f22, f23⟩
    replace h := hr18 n16 x11 x12 w14 h
    refine WE.seq ?_
    refine WE.seq ?_
    refine WE.reg ?_
    refine LE.p (v := (Value.int .i64 x12)) (Wn.no rfl) rfl (R.move f23) ?_
    refine LE.p (v := (SV.v x2)) (Wn.no rfl) rfl (R.move f21) ?_
    refine LE.p (v := (Value.int .i64 (x2.len : Int))) (Wn.no rfl) rfl (R.len sl24 rfl) ?_
    refine LE.p (v := (Value.bool (decide (x12 < (x2.len : Int))))) (Wn.no rfl) rfl (R.lss rfl rfl) ?_
    refine LE.nil ?_
    refine WE.condT rfl (b := (decide (x12 < (x2.len : Int)))) rfl ?_ ?_
    · intro hb24
      replace h := M.ite_t h hb24
      refine WE.skip ?_
      refine WE.seq ?_
      refine WE.block ?_
      refine WE.seq ?_
      refine WE.reg ?_
      refine LE.p (v := (SV.v x2)) (Wn.no rfl) rfl (R.move f21) ?_
      refine LE.p (v := (Value.int .i64 x12)) (Wn.no rfl) rfl (R.move f23) ?_
      obtain ⟨a25, h26, h27, h28, h⟩ := h
      refine LE.p (v := (Value.pointer (some (a25.add (x12.toNat * 2))))) (Wn.no rfl) rfl (R.idx (s := x2) sl24 rfl rfl h26 h27 h28) ?_
      obtain ⟨t29, h30, h⟩ := h
      obtain ⟨t31, h32, h⟩ := h
      refine LE.r (v := (Value.agg #[(Value.int .i64 t29), (SV.v t31)])) (Wn.no rfl) rfl (R.ldA ag27 sz27 rfl rfl (Cs.cons h30 (Cs.cons h32 Cs.nil))) ?_
      obtain ⟨b34, hpb34, w33, hww33, h⟩ := M.new_use h
      refine LE.r (v := (Value.pointer (some b34))) (Wn.no rfl) rfl (R.alloc (cs := #[(Value.int .i64 (0 : Int)), (SV.v SV.nil)]) ze27 rfl hpb34 hww33) ?_
      obtain ⟨w35, hww35, h36, h⟩ := M.stA_use h
      refine LE.s (Wn.no rfl) rfl (R.stA (a := b34) [(Value.int .i64 t29), (SV.v t31)] sz27 rfl rfl rfl (by simp [Value.oneCell']) h36 hww35) ?_
      refine LE.nil ?_
      obtain ⟨J37, hJ37, h⟩ := M.join_use h
      refine WE.join (fun e w => J37 w ∧ e 0 = (SV.v x2) ∧ e 3 = (SV.v x11) ∧ e 4 = (Value.int .i64 x12) ∧ e 5 = (Value.pointer (some b34))) ?_ ?_
      · clear hJ37
        refine WE.seq ?_
        refine WE.reg ?_
        refine LE.p (v := (Value.pointer (some (b34.add 1)))) (Wn.no rfl) rfl (R.fld (off := 1) fa27_1 rfl) ?_
        obtain ⟨t38, h39, h⟩ := h
        refine LE.r (v := (SV.v t38)) (Wn.no rfl) rfl (R.ld sc25 rfl h39) ?_
        refine LE.p (v := (Value.int .i64 (t38.len : Int))) (Wn.no rfl) rfl (R.len sl25 rfl) ?_
        refine LE.p (v := (Value.bool (decide ((257 : Int) < (t38.len : Int))))) (Wn.no rfl) rfl (R.gtr rfl rfl) ?_
        refine LE.nil ?_
        refine WE.condT rfl (b := (decide ((257 : Int) < (t38.len : Int)))) rfl ?_ ?_
        · intro hb40
          replace h := M.ite_t h hb40
          refine WE.reg ?_
          refine LE.p (v := (Value.pointer (some (b34.add 1)))) (Wn.no rfl) rfl (R.fld (off := 1) fa27_1 rfl) ?_
          obtain ⟨t41, h42, h⟩ := h
          refine LE.r (v := (SV.v t41)) (Wn.no rfl) rfl (R.ld sc25 rfl h42) ?_
          obtain ⟨h43, h44, h45, h⟩ := h
          refine LE.p (v := (SV.v (SV.sub t41 (Int.toNat (0 : Int)) (Int.toNat (257 : Int)) 1))) (Wn.no rfl) rfl (R.slc (s := t41) (lo := (0 : Int)) (hi := (257 : Int)) _ _ sl25 rfl rfl rfl h43 h44 h45) ?_
          refine LE.p (v := (Value.pointer (some (b34.add 1)))) (Wn.no rfl) rfl (R.fld (off := 1) fa27_1 rfl) ?_
          obtain ⟨w47, hww47, h48, h49, h⟩ := M.st_use h
          refine LE.s (Wn.no rfl) rfl (R.st (a := (b34.add 1)) (v := (SV.v (SV.sub t41 (Int.toNat (0 : Int)) (Int.toNat (257 : Int)) 1))) sz25 rfl rfl rfl rfl h48 h49 hww47) ?_
          refine LE.nil ?_
          exact ⟨h, f21, f22, f23, rfl⟩
        · intro hb40
          replace h := M.ite_f h hb40
          refine WE.skip ?_
          exact ⟨h, f21, f22, f23, rfl⟩
      · rintro e50 w51 ⟨h, f52, f53, f54, f55⟩
        subst hJ37
        refine WE.reg ?_
        refine LE.p (v := (SV.v x11)) (Wn.no rfl) rfl (R.move f53) ?_
        obtain ⟨t56, h57, h⟩ := h
        obtain ⟨t58, h59, h⟩ := h
        refine LE.r (v := (Value.agg #[(Value.int .i64 t56), (SV.v t58)])) (Wn.no rfl) rfl (R.ldA ag27 sz27 f55 rfl (Cs.cons h57 (Cs.cons h59 Cs.nil))) ?_
        obtain ⟨b62, hpb62, w60, hww60, h⟩ := M.new_use h
        refine LE.r (v := (SV.v (SV.mk (some b62) 1 1))) (Wn.no rfl) rfl (R.bsl (by exact (Ls.cons (R.Pr rfl) Ls.nil)) (fun w => bs24_1 t56 t58 w) hpb62 hww60) ?_
        obtain ⟨s63, w64, h65, h⟩ := h
        refine LE.r (v := (SV.v s63)) (Wn.no rfl) rfl (R.app (s := x11) (r := s63) rfl rfl h65) ?_
        refine LE.p (v := (SV.v s63)) (Wn.no rfl) rfl (R.assign rfl) ?_
        refine LE.nil ?_
        refine WE.reg ?_
        refine LE.p (v := (Value.int .i64 x12)) (Wn.no rfl) rfl (R.move f54) ?_
        refine LE.p (v := (Value.int .i64 (IntKind.i64.wrap (x12 + (1 : Int))))) (Wn.no rfl) rfl (R.add rfl rfl) ?_
        refine LE.p (v := (Value.int .i64 (IntKind.i64.wrap (x12 + (1 : Int))))) (Wn.no rfl) rfl (R.assign rfl) ?_
        refine LE.nil ?_
        obtain ⟨m19, hm20, h⟩ := h
        exact ⟨m19, hm20, _, _, h, f52, rfl, rfl⟩
    · intro hb24
      replace h := M.ite_f h hb24
      refine WE.exit ?_
      refine WE.seq ?_
      refine WE.reg ?_
      refine LE.p (v := (SV.v x11)) (Wn.no rfl) rfl (R.move f22) ?_
      refine LE.p (v := (SV.v x11)) (Wn.no rfl) rfl (R.assign rfl) ?_
      refine LE.nil ?_
      refine WE.ret ?_
      exact ⟨_, (Res.tmp rfl Res.nil), _, rfl, h⟩
/-- The formula of signpost.aspath.Copy. -/
def F27 (p0 : SV) (K : SV → World → Prop) (w0 : World) : Prop :=
M.loop2 (fun (J3 : SV → Int → World → Prop) (x1 : SV) (x2 : Int) (w4 : World) => 
M.ite (decide (x2 < (p0.len : Int))) (
M.idx p0 x2 2 fun a16 =>
M.ld (Value.int .i64) (a16.add (x2.toNat * 2)) w4 fun t20 =>
M.ld SV.v ((a16.add (x2.toNat * 2)).add 1) w4 fun t22 =>
M.new (.cells #[(Value.int .i64 (0 : Int)), (SV.v SV.nil)] 27) w4 fun b25 w24 =>
M.stA b25 [(Value.int .i64 t20), (SV.v t22)] w24 fun w26 =>
M.drew w26 fun w28 => 
M.ld (Value.int .i64) b25 w28 fun t29 =>
M.ld SV.v (b25.add 1) w28 fun t31 =>
Calls Try.prog 49 #[(SV.v t31)] w28 (R49 fun r33 w34 =>
M.keep (w34.cell? b25 = some (Value.int .i64 t29)) <|
M.new (.cells #[(Value.int .i64 t29), (SV.v r33)] 27) w34 fun b38 w36 =>
M.app Try.prog 24 24 24 x1 (SV.v (SV.mk (some b38) 1 1)) w36 fun s39 w40 =>
J3 s39 (IntKind.i64.wrap (x2 + (1 : Int))) w40)) (
K x1 w4)) SV.nil (0 : Int) w0
theorem F27_ok {w0 : World} {p0 : SV} {K : SV → World → Prop} (h : F27 p0 K w0) : Calls Try.prog 27 #[(SV.v p0)] w0 (R27 K) := by
  refine calls_of_WE (args := [(SV.v p0)]) (rs := [.tmp 2]) Try.func27 rfl (N := 23) rfl rfl rfl rfl ?_
  refine WE.seq ?_
  refine WE.reg ?_
  refine LE.p (v := (SV.v SV.nil)) (Wn.no rfl) rfl (R.assign rfl) ?_
  refine LE.nil ?_
  refine WE.seq ?_
  refine WE.reg ?_
  refine LE.p (v := (SV.v SV.nil)) (Wn.no rfl) rfl (R.assign rfl) ?_
  refine LE.nil ?_
  refine WE.seq ?_
  refine WE.seq ?_
  refine WE.reg ?_
  refine LE.p (v := (SV.v p0)) (Wn.no rfl) rfl (R.move rfl) ?_
  refine LE.p (v := (Value.int .i64 (p0.len : Int))) (Wn.no rfl) rfl (R.len sl24 rfl) ?_
  refine LE.p (v := (Value.int .i64 (0 : Int))) (Wn.no rfl) rfl (R.move rfl) ?_
  refine LE.nil ?_
  refine WE.block ?_
  obtain ⟨I7, ⟨n6, h⟩, hr8⟩ := h
  refine WE.loop (fun n e w => ∃ (x1 : SV) (x2 : Int), I7 n x1 x2 w ∧ e 3 = (SV.v x1) ∧ e 6 = (SV.v p0) ∧ e 7 = (Value.int .i64 (p0.len : Int)) ∧ e 8 = (Value.int .i64 x2)) n6 ⟨_, _, h, rfl, rfl, rfl, rfl⟩ ?_
  clear h
  rintro n6 e5 w4 ⟨x1, x2, h, f11, f12, f13, f14⟩
  replace h := hr8 n6 x1 x2 w4 h
  refine WE.seq ?_
  refine WE.reg ?_
  refine LE.p (v := (Value.bool (decide (x2 < (p0.len : Int))))) (Wn.no rfl) rfl (R.lss f14 f13) ?_
  refine LE.nil ?_
  refine WE.seq ?_
  refine WE.condT rfl (b := (decide (x2 < (p0.len : Int)))) rfl ?_ ?_
  · intro hb15
    replace h := M.ite_t h hb15
    refine WE.skip ?_
    refine WE.seq ?_
    refine WE.block ?_
    refine WE.seq ?_
    refine WE.reg ?_
    obtain ⟨a16, h17, h18, h19, h⟩ := h
    refine LE.p (v := (Value.pointer (some (a16.add (x2.toNat * 2))))) (Wn.no rfl) rfl (R.idx (s := p0) sl24 f12 f14 h17 h18 h19) ?_
    obtain ⟨t20, h21, h⟩ := h
    obtain ⟨t22, h23, h⟩ := h
    refine LE.r (v := (Value.agg #[(Value.int .i64 t20), (SV.v t22)])) (Wn.no rfl) rfl (R.ldA ag27 sz27 rfl rfl (Cs.cons h21 (Cs.cons h23 Cs.nil))) ?_
    obtain ⟨b25, hpb25, w24, hww24, h⟩ := M.new_use h
    refine LE.r (v := (Value.pointer (some b25))) (Wn.no rfl) rfl (R.alloc (cs := #[(Value.int .i64 (0 : Int)), (SV.v SV.nil)]) ze27 rfl hpb25 hww24) ?_
    obtain ⟨w26, hww26, h27, h⟩ := M.stA_use h
    refine LE.s (Wn.no rfl) rfl (R.stA (a := b25) [(Value.int .i64 t20), (SV.v t22)] sz27 rfl rfl rfl (by simp [Value.oneCell']) h27 hww26) ?_
    refine LE.nil ?_
    refine WE.draw mix ?_
    obtain ⟨w28, hww28, h⟩ := M.drew_use h
    rw [← hww28]
    clear hww28
    refine DE.t 0 (v := (SV.v x1)) rfl (by kernel_rfl) (Wn.no rfl) rfl (R.move f11) ?_
    refine DE.t 1 (v := (Value.pointer (some b25))) rfl (by kernel_rfl) (Wn.no rfl) rfl (R.fld (off := 0) fa27_0 rfl) ?_
    refine DE.t 3 (v := (Value.pointer (some (b25.add 1)))) rfl (by kernel_rfl) (Wn.no rfl) rfl (R.fld (off := 1) fa27_1 rfl) ?_
    obtain ⟨t29, h30, h⟩ := h
    refine DE.hold 2 (fun w => w.cell? b25 = some (Value.int .i64 t29)) (v := (Value.int .i64 t29)) rfl (by kernel_rfl) (Wn.no rfl) rfl h30 (fun w hs => R.ld sc3 rfl hs) ?_
    obtain ⟨t31, h32, h⟩ := h
    refine DE.main 4 (by kernel_rfl) ?_
    refine One.r 4 (v := (SV.v t31)) rfl (Wn.no rfl) rfl (R.ld sc25 rfl h32) (.inl rfl) ?_
    refine DE.main 5 (by kernel_rfl) ?_
    refine One.c 5 rfl (Wn.no rfl) rfl (R.call bd49 (Ls.cons rfl Ls.nil) rfl) (Calls.mono h ?_)
    rintro _ w34 ⟨r33, rfl, h⟩
    obtain ⟨k35, h⟩ := h
    refine ⟨_, rfl, ⟨fun _ => k35, trivial⟩, ?_⟩
    refine DE.t 6 (v := (Value.agg #[(Value.int .i64 t29), (SV.v r33)])) rfl (by kernel_rfl) (Wn.no rfl) rfl (R.bld (by exact (Ls.cons (R.Pr rfl) (Ls.cons (R.Pr rfl) Ls.nil))) (fun w => bu27_0_1 t29 r33 w)) ?_
    obtain ⟨b38, hpb38, w36, hww36, h⟩ := M.new_use h
    refine DE.main 7 (by kernel_rfl) ?_
    refine One.r 7 (v := (SV.v (SV.mk (some b38) 1 1))) rfl (Wn.no rfl) rfl (R.bsl (by exact (Ls.cons (R.Pr rfl) Ls.nil)) (fun w => bs24_1 t29 r33 w) hpb38 hww36) (.inr ⟨aftT (by kernel_rfl), trivial⟩) ?_
    obtain ⟨s39, w40, h41, h⟩ := h
    refine DE.main 8 (by kernel_rfl) ?_
    refine One.r 8 (v := (SV.v s39)) rfl (Wn.no rfl) rfl (R.app (s := x1) (r := s39) rfl rfl h41) (.inr ⟨aftT (by kernel_rfl), trivial⟩) ?_
    refine DE.t 9 (v := (SV.v s39)) rfl (by kernel_rfl) (Wn.no rfl) rfl (R.assign rfl) ?_
    refine DE.done (by kernel_rfl) ?_
    refine WE.reg ?_
    refine LE.p (v := (Value.int .i64 (IntKind.i64.wrap (x2 + (1 : Int))))) (Wn.no rfl) rfl (R.add f14 rfl) ?_
    refine LE.p (v := (Value.int .i64 (IntKind.i64.wrap (x2 + (1 : Int))))) (Wn.no rfl) rfl (R.move rfl) ?_
    refine LE.nil ?_
    obtain ⟨m9, hm10, h⟩ := h
    exact ⟨m9, hm10, _, _, h, rfl, f12, f13, rfl⟩
  · intro hb15
    replace h := M.ite_f h hb15
    refine WE.exit ?_
    refine WE.seq ?_
    refine WE.reg ?_
    refine LE.p (v := (SV.v x1)) (Wn.no rfl) rfl (R.move f11) ?_
    refine LE.p (v := (SV.v x1)) (Wn.no rfl) rfl (R.assign rfl) ?_
    refine LE.nil ?_
    refine WE.ret ?_
    exact ⟨_, (Res.tmp rfl Res.nil), _, rfl, h⟩
/-- The formula of slices.Insert[[]uint32,uint32]. -/
def F28 (p0 : SV) (p1 : Int) (p2 : SV) (K : SV → World → Prop) (w0 : World) : Prop :=
M.bnd p1 (p0.len : Int) p0 <|
M.ite ((p2.len : Int) == (0 : Int)) (
K p0 w0) (
M.ite (p1 == (p0.len : Int)) (
M.app Try.prog 25 25 25 p0 (SV.v p2) w0 fun s7 w8 =>
K s7 w8) (
M.ite (decide ((p0.cap : Int) < (IntKind.i64.wrap ((p0.len : Int) + (p2.len : Int))))) (
M.bnd (0 : Int) p1 p0 <|
M.app Try.prog 25 3 25 (SV.sub p0 (Int.toNat (0 : Int)) (Int.toNat p1) 1) (Value.int .i64 (IntKind.i64.wrap ((IntKind.i64.wrap ((p0.len : Int) + (p2.len : Int))) - p1))) w0 fun s15 w16 =>
M.bnd p1 (s15.len : Int) s15 <|
M.cp Try.prog 25 25 3 (SV.sub s15 (Int.toNat p1) (Int.toNat (s15.len : Int)) 1) p2 w16 fun n22 w23 =>
M.drew w23 fun w25 => 
M.bnd (IntKind.i64.wrap (p1 + (p2.len : Int))) (s15.len : Int) s15 <|
M.bnd p1 (p0.len : Int) p0 <|
M.cp Try.prog 25 25 3 (SV.sub s15 (Int.toNat (IntKind.i64.wrap (p1 + (p2.len : Int)))) (Int.toNat (s15.len : Int)) 1) (SV.sub p0 (Int.toNat p1) (Int.toNat (p0.len : Int)) 1) w25 fun n34 w35 =>
K s15 w35) (
M.bnd (0 : Int) (IntKind.i64.wrap ((p0.len : Int) + (p2.len : Int))) p0 <|
M.bnd (IntKind.i64.wrap (p1 + (p2.len : Int))) ((SV.sub p0 (Int.toNat (0 : Int)) (Int.toNat (IntKind.i64.wrap ((p0.len : Int) + (p2.len : Int)))) 1).len : Int) (SV.sub p0 (Int.toNat (0 : Int)) (Int.toNat (IntKind.i64.wrap ((p0.len : Int) + (p2.len : Int)))) 1) <|
∃ (t45 : Bool), (callFunc 50 #[(SV.v p2), (SV.v (SV.sub (SV.sub p0 (Int.toNat (0 : Int)) (Int.toNat (IntKind.i64.wrap ((p0.len : Int) + (p2.len : Int)))) 1) (Int.toNat (IntKind.i64.wrap (p1 + (p2.len : Int)))) (Int.toNat ((SV.sub p0 (Int.toNat (0 : Int)) (Int.toNat (IntKind.i64.wrap ((p0.len : Int) + (p2.len : Int)))) 1).len : Int)) 1))]).run Try.prog w0 = .ok (.value (.bool t45)) w0 ∧
M.ite (!t45) (
M.drew w0 fun w48 => 
M.bnd (IntKind.i64.wrap (p1 + (p2.len : Int))) ((SV.sub p0 (Int.toNat (0 : Int)) (Int.toNat (IntKind.i64.wrap ((p0.len : Int) + (p2.len : Int)))) 1).len : Int) (SV.sub p0 (Int.toNat (0 : Int)) (Int.toNat (IntKind.i64.wrap ((p0.len : Int) + (p2.len : Int)))) 1) <|
M.bnd p1 ((SV.sub p0 (Int.toNat (0 : Int)) (Int.toNat (IntKind.i64.wrap ((p0.len : Int) + (p2.len : Int)))) 1).len : Int) (SV.sub p0 (Int.toNat (0 : Int)) (Int.toNat (IntKind.i64.wrap ((p0.len : Int) + (p2.len : Int)))) 1) <|
M.cp Try.prog 25 25 3 (SV.sub (SV.sub p0 (Int.toNat (0 : Int)) (Int.toNat (IntKind.i64.wrap ((p0.len : Int) + (p2.len : Int)))) 1) (Int.toNat (IntKind.i64.wrap (p1 + (p2.len : Int)))) (Int.toNat ((SV.sub p0 (Int.toNat (0 : Int)) (Int.toNat (IntKind.i64.wrap ((p0.len : Int) + (p2.len : Int)))) 1).len : Int)) 1) (SV.sub (SV.sub p0 (Int.toNat (0 : Int)) (Int.toNat (IntKind.i64.wrap ((p0.len : Int) + (p2.len : Int)))) 1) (Int.toNat p1) (Int.toNat ((SV.sub p0 (Int.toNat (0 : Int)) (Int.toNat (IntKind.i64.wrap ((p0.len : Int) + (p2.len : Int)))) 1).len : Int)) 1) w48 fun n57 w58 =>
M.bnd p1 ((SV.sub p0 (Int.toNat (0 : Int)) (Int.toNat (IntKind.i64.wrap ((p0.len : Int) + (p2.len : Int)))) 1).len : Int) (SV.sub p0 (Int.toNat (0 : Int)) (Int.toNat (IntKind.i64.wrap ((p0.len : Int) + (p2.len : Int)))) 1) <|
M.cp Try.prog 25 25 3 (SV.sub (SV.sub p0 (Int.toNat (0 : Int)) (Int.toNat (IntKind.i64.wrap ((p0.len : Int) + (p2.len : Int)))) 1) (Int.toNat p1) (Int.toNat ((SV.sub p0 (Int.toNat (0 : Int)) (Int.toNat (IntKind.i64.wrap ((p0.len : Int) + (p2.len : Int)))) 1).len : Int)) 1) p2 w58 fun n64 w65 =>
K (SV.sub p0 (Int.toNat (0 : Int)) (Int.toNat (IntKind.i64.wrap ((p0.len : Int) + (p2.len : Int)))) 1) w65) (
M.bnd (p0.len : Int) ((SV.sub p0 (Int.toNat (0 : Int)) (Int.toNat (IntKind.i64.wrap ((p0.len : Int) + (p2.len : Int)))) 1).len : Int) (SV.sub p0 (Int.toNat (0 : Int)) (Int.toNat (IntKind.i64.wrap ((p0.len : Int) + (p2.len : Int)))) 1) <|
M.cp Try.prog 25 25 3 (SV.sub (SV.sub p0 (Int.toNat (0 : Int)) (Int.toNat (IntKind.i64.wrap ((p0.len : Int) + (p2.len : Int)))) 1) (Int.toNat (p0.len : Int)) (Int.toNat ((SV.sub p0 (Int.toNat (0 : Int)) (Int.toNat (IntKind.i64.wrap ((p0.len : Int) + (p2.len : Int)))) 1).len : Int)) 1) p2 w0 fun n71 w72 =>
M.bnd p1 ((SV.sub p0 (Int.toNat (0 : Int)) (Int.toNat (IntKind.i64.wrap ((p0.len : Int) + (p2.len : Int)))) 1).len : Int) (SV.sub p0 (Int.toNat (0 : Int)) (Int.toNat (IntKind.i64.wrap ((p0.len : Int) + (p2.len : Int)))) 1) <|
Calls Try.prog 51 #[(SV.v (SV.sub (SV.sub p0 (Int.toNat (0 : Int)) (Int.toNat (IntKind.i64.wrap ((p0.len : Int) + (p2.len : Int)))) 1) (Int.toNat p1) (Int.toNat ((SV.sub p0 (Int.toNat (0 : Int)) (Int.toNat (IntKind.i64.wrap ((p0.len : Int) + (p2.len : Int)))) 1).len : Int)) 1)), (Value.int .i64 (p2.len : Int))] w72 (R51 fun w78 =>
K (SV.sub p0 (Int.toNat (0 : Int)) (Int.toNat (IntKind.i64.wrap ((p0.len : Int) + (p2.len : Int)))) 1) w78)))))
theorem F28_ok {w0 : World} {p0 : SV} {p1 : Int} {p2 : SV} {K : SV → World → Prop} (h : F28 p0 p1 p2 K w0) : Calls Try.prog 28 #[(SV.v p0), (Value.int .i64 p1), (SV.v p2)] w0 (R28 K) := by
  refine calls_of_WE (args := [(SV.v p0), (Value.int .i64 p1), (SV.v p2)]) (rs := [.tmp 6]) Try.func28 rfl (N := 95) rfl rfl rfl rfl ?_
  refine WE.seq ?_
  refine WE.reg ?_
  refine LE.p (v := (SV.v SV.nil)) (Wn.no rfl) rfl (R.assign rfl) ?_
  refine LE.nil ?_
  refine WE.seq ?_
  refine WE.reg ?_
  refine LE.p (v := (SV.v p0)) (Wn.no rfl) rfl (R.move rfl) ?_
  refine LE.p (v := (Value.int .i64 p1)) (Wn.no rfl) rfl (R.move rfl) ?_
  obtain ⟨h1, h2, h3, h⟩ := h
  refine LE.p (v := (SV.v (SV.sub p0 (Int.toNat p1) (Int.toNat (p0.len : Int)) 1))) (Wn.no rfl) rfl (R.slc (s := p0) (lo := p1) (hi := (p0.len : Int)) _ _ sl25 rfl rfl rfl h1 h2 h3) ?_
  refine LE.nil ?_
  refine WE.seq ?_
  refine WE.reg ?_
  refine LE.p (v := (SV.v p2)) (Wn.no rfl) rfl (R.move rfl) ?_
  refine LE.p (v := (Value.int .i64 (p2.len : Int))) (Wn.no rfl) rfl (R.len sl25 rfl) ?_
  refine LE.p (v := (Value.int .i64 (p2.len : Int))) (Wn.no rfl) rfl (R.assign rfl) ?_
  refine LE.nil ?_
  refine WE.seq ?_
  refine WE.seq ?_
  refine WE.reg ?_
  refine LE.p (v := (Value.int .i64 (p2.len : Int))) (Wn.no rfl) rfl (R.move rfl) ?_
  refine LE.p (v := (Value.bool ((p2.len : Int) == (0 : Int)))) (Wn.no rfl) rfl (R.eql rfl rfl) ?_
  refine LE.nil ?_
  refine WE.condT rfl (b := ((p2.len : Int) == (0 : Int))) rfl ?_ ?_
  · intro hb5
    replace h := M.ite_t h hb5
    refine WE.seq ?_
    refine WE.reg ?_
    refine LE.p (v := (SV.v p0)) (Wn.no rfl) rfl (R.move rfl) ?_
    refine LE.p (v := (SV.v p0)) (Wn.no rfl) rfl (R.assign rfl) ?_
    refine LE.nil ?_
    refine WE.ret ?_
    exact ⟨_, (Res.tmp rfl Res.nil), _, rfl, h⟩
  · intro hb5
    replace h := M.ite_f h hb5
    refine WE.skip ?_
    refine WE.seq ?_
    refine WE.reg ?_
    refine LE.p (v := (SV.v p0)) (Wn.no rfl) rfl (R.move rfl) ?_
    refine LE.p (v := (Value.int .i64 (p0.len : Int))) (Wn.no rfl) rfl (R.len sl25 rfl) ?_
    refine LE.p (v := (Value.int .i64 (p0.len : Int))) (Wn.no rfl) rfl (R.assign rfl) ?_
    refine LE.nil ?_
    refine WE.seq ?_
    refine WE.seq ?_
    refine WE.reg ?_
    refine LE.p (v := (Value.int .i64 p1)) (Wn.no rfl) rfl (R.move rfl) ?_
    refine LE.p (v := (Value.int .i64 (p0.len : Int))) (Wn.no rfl) rfl (R.move rfl) ?_
    refine LE.p (v := (Value.bool (p1 == (p0.len : Int)))) (Wn.no rfl) rfl (R.eql rfl rfl) ?_
    refine LE.nil ?_
    refine WE.condT rfl (b := (p1 == (p0.len : Int))) rfl ?_ ?_
    · intro hb6
      replace h := M.ite_t h hb6
      refine WE.seq ?_
      refine WE.reg ?_
      refine LE.p (v := (SV.v p0)) (Wn.no rfl) rfl (R.move rfl) ?_
      refine LE.p (v := (SV.v p2)) (Wn.no rfl) rfl (R.move rfl) ?_
      obtain ⟨s7, w8, h9, h⟩ := h
      refine LE.r (v := (SV.v s7)) (Wn.no rfl) rfl (R.app (s := p0) (r := s7) rfl rfl h9) ?_
      refine LE.p (v := (SV.v s7)) (Wn.no rfl) rfl (R.assign rfl) ?_
      refine LE.nil ?_
      refine WE.ret ?_
      exact ⟨_, (Res.tmp rfl Res.nil), _, rfl, h⟩
    · intro hb6
      replace h := M.ite_f h hb6
      refine WE.skip ?_
      refine WE.seq ?_
      refine WE.seq ?_
      refine WE.reg ?_
      refine LE.p (v := (Value.int .i64 (p0.len : Int))) (Wn.no rfl) rfl (R.move rfl) ?_
      refine LE.p (v := (Value.int .i64 (p2.len : Int))) (Wn.no rfl) rfl (R.move rfl) ?_
      refine LE.p (v := (Value.int .i64 (IntKind.i64.wrap ((p0.len : Int) + (p2.len : Int))))) (Wn.no rfl) rfl (R.add rfl rfl) ?_
      refine LE.p (v := (SV.v p0)) (Wn.no rfl) rfl (R.move rfl) ?_
      refine LE.p (v := (Value.int .i64 (p0.cap : Int))) (Wn.no rfl) rfl (R.cap sl25 rfl) ?_
      refine LE.p (v := (Value.bool (decide ((p0.cap : Int) < (IntKind.i64.wrap ((p0.len : Int) + (p2.len : Int))))))) (Wn.no rfl) rfl (R.gtr rfl rfl) ?_
      refine LE.nil ?_
      refine WE.condT rfl (b := (decide ((p0.cap : Int) < (IntKind.i64.wrap ((p0.len : Int) + (p2.len : Int)))))) rfl ?_ ?_
      · intro hb10
        replace h := M.ite_t h hb10
        refine WE.seq ?_
        refine WE.reg ?_
        refine LE.p (v := (SV.v p0)) (Wn.no rfl) rfl (R.move rfl) ?_
        refine LE.p (v := (Value.int .i64 p1)) (Wn.no rfl) rfl (R.move rfl) ?_
        obtain ⟨h11, h12, h13, h⟩ := h
        refine LE.p (v := (SV.v (SV.sub p0 (Int.toNat (0 : Int)) (Int.toNat p1) 1))) (Wn.no rfl) rfl (R.slc (s := p0) (lo := (0 : Int)) (hi := p1) _ _ sl25 rfl rfl rfl h11 h12 h13) ?_
        refine LE.p (v := (Value.int .i64 (p0.len : Int))) (Wn.no rfl) rfl (R.move rfl) ?_
        refine LE.p (v := (Value.int .i64 (p2.len : Int))) (Wn.no rfl) rfl (R.move rfl) ?_
        refine LE.p (v := (Value.int .i64 (IntKind.i64.wrap ((p0.len : Int) + (p2.len : Int))))) (Wn.no rfl) rfl (R.add rfl rfl) ?_
        refine LE.p (v := (Value.int .i64 p1)) (Wn.no rfl) rfl (R.move rfl) ?_
        refine LE.p (v := (Value.int .i64 (IntKind.i64.wrap ((IntKind.i64.wrap ((p0.len : Int) + (p2.len : Int))) - p1)))) (Wn.no rfl) rfl (R.sub rfl rfl) ?_
        obtain ⟨s15, w16, h17, h⟩ := h
        refine LE.r (v := (SV.v s15)) (Wn.no rfl) rfl (R.app (s := (SV.sub p0 (Int.toNat (0 : Int)) (Int.toNat p1) 1)) (r := s15) rfl rfl h17) ?_
        refine LE.p (v := (SV.v s15)) (Wn.no rfl) rfl (R.assign rfl) ?_
        refine LE.nil ?_
        refine WE.seq ?_
        refine WE.reg ?_
        refine LE.p (v := (SV.v s15)) (Wn.no rfl) rfl (R.move rfl) ?_
        refine LE.p (v := (Value.int .i64 p1)) (Wn.no rfl) rfl (R.move rfl) ?_
        obtain ⟨h18, h19, h20, h⟩ := h
        refine LE.p (v := (SV.v (SV.sub s15 (Int.toNat p1) (Int.toNat (s15.len : Int)) 1))) (Wn.no rfl) rfl (R.slc (s := s15) (lo := p1) (hi := (s15.len : Int)) _ _ sl25 rfl rfl rfl h18 h19 h20) ?_
        refine LE.p (v := (SV.v p2)) (Wn.no rfl) rfl (R.move rfl) ?_
        obtain ⟨n22, w23, h24, h⟩ := h
        refine LE.r (v := (Value.int .i64 n22)) (Wn.no rfl) rfl (R.cpy (s := (SV.sub s15 (Int.toNat p1) (Int.toNat (s15.len : Int)) 1)) (r := p2) rfl rfl h24) ?_
        refine LE.nil ?_
        refine WE.seq ?_
        refine WE.draw mix ?_
        obtain ⟨w25, hww25, h⟩ := M.drew_use h
        rw [← hww25]
        clear hww25
        refine DE.t 0 (v := (SV.v s15)) rfl (by kernel_rfl) (Wn.no rfl) rfl (R.move rfl) ?_
        refine DE.t 1 (v := (Value.int .i64 p1)) rfl (by kernel_rfl) (Wn.no rfl) rfl (R.move rfl) ?_
        refine DE.t 2 (v := (Value.int .i64 (p2.len : Int))) rfl (by kernel_rfl) (Wn.no rfl) rfl (R.move rfl) ?_
        refine DE.t 3 (v := (Value.int .i64 (IntKind.i64.wrap (p1 + (p2.len : Int))))) rfl (by kernel_rfl) (Wn.no rfl) rfl (R.add rfl rfl) ?_
        obtain ⟨h26, h27, h28, h⟩ := h
        refine DE.t 4 (v := (SV.v (SV.sub s15 (Int.toNat (IntKind.i64.wrap (p1 + (p2.len : Int)))) (Int.toNat (s15.len : Int)) 1))) rfl (by kernel_rfl) (Wn.no rfl) rfl (R.slc (s := s15) (lo := (IntKind.i64.wrap (p1 + (p2.len : Int)))) (hi := (s15.len : Int)) _ _ sl25 rfl rfl rfl h26 h27 h28) ?_
        refine DE.t 5 (v := (SV.v p0)) rfl (by kernel_rfl) (Wn.no rfl) rfl (R.move rfl) ?_
        refine DE.t 6 (v := (Value.int .i64 p1)) rfl (by kernel_rfl) (Wn.no rfl) rfl (R.move rfl) ?_
        obtain ⟨h30, h31, h32, h⟩ := h
        refine DE.t 7 (v := (SV.v (SV.sub p0 (Int.toNat p1) (Int.toNat (p0.len : Int)) 1))) rfl (by kernel_rfl) (Wn.no rfl) rfl (R.slc (s := p0) (lo := p1) (hi := (p0.len : Int)) _ _ sl25 rfl rfl rfl h30 h31 h32) ?_
        obtain ⟨n34, w35, h36, h⟩ := h
        refine DE.main 8 (by kernel_rfl) ?_
        refine One.r 8 (v := (Value.int .i64 n34)) rfl (Wn.no rfl) rfl (R.cpy (s := (SV.sub s15 (Int.toNat (IntKind.i64.wrap (p1 + (p2.len : Int)))) (Int.toNat (s15.len : Int)) 1)) (r := (SV.sub p0 (Int.toNat p1) (Int.toNat (p0.len : Int)) 1)) rfl rfl h36) (.inr trivial) ?_
        refine DE.done (by kernel_rfl) ?_
        refine WE.seq ?_
        refine WE.reg ?_
        refine LE.p (v := (SV.v s15)) (Wn.no rfl) rfl (R.move rfl) ?_
        refine LE.p (v := (SV.v s15)) (Wn.no rfl) rfl (R.assign rfl) ?_
        refine LE.nil ?_
        refine WE.ret ?_
        exact ⟨_, (Res.tmp rfl Res.nil), _, rfl, h⟩
      · intro hb10
        replace h := M.ite_f h hb10
        refine WE.skip ?_
        refine WE.seq ?_
        refine WE.reg ?_
        refine LE.p (v := (SV.v p0)) (Wn.no rfl) rfl (R.move rfl) ?_
        refine LE.p (v := (Value.int .i64 (p0.len : Int))) (Wn.no rfl) rfl (R.move rfl) ?_
        refine LE.p (v := (Value.int .i64 (p2.len : Int))) (Wn.no rfl) rfl (R.move rfl) ?_
        refine LE.p (v := (Value.int .i64 (IntKind.i64.wrap ((p0.len : Int) + (p2.len : Int))))) (Wn.no rfl) rfl (R.add rfl rfl) ?_
        obtain ⟨h37, h38, h39, h⟩ := h
        refine LE.p (v := (SV.v (SV.sub p0 (Int.toNat (0 : Int)) (Int.toNat (IntKind.i64.wrap ((p0.len : Int) + (p2.len : Int)))) 1))) (Wn.no rfl) rfl (R.slc (s := p0) (lo := (0 : Int)) (hi := (IntKind.i64.wrap ((p0.len : Int) + (p2.len : Int)))) _ _ sl25 rfl rfl rfl h37 h38 h39) ?_
        refine LE.p (v := (SV.v (SV.sub p0 (Int.toNat (0 : Int)) (Int.toNat (IntKind.i64.wrap ((p0.len : Int) + (p2.len : Int)))) 1))) (Wn.no rfl) rfl (R.assign rfl) ?_
        refine LE.nil ?_
        refine WE.seq ?_
        refine WE.seq ?_
        refine WE.reg ?_
        refine LE.p (v := (SV.v p2)) (Wn.no rfl) rfl (R.move rfl) ?_
        refine LE.p (v := (SV.v (SV.sub p0 (Int.toNat (0 : Int)) (Int.toNat (IntKind.i64.wrap ((p0.len : Int) + (p2.len : Int)))) 1))) (Wn.no rfl) rfl (R.move rfl) ?_
        refine LE.p (v := (Value.int .i64 p1)) (Wn.no rfl) rfl (R.move rfl) ?_
        refine LE.p (v := (Value.int .i64 (p2.len : Int))) (Wn.no rfl) rfl (R.move rfl) ?_
        refine LE.p (v := (Value.int .i64 (IntKind.i64.wrap (p1 + (p2.len : Int))))) (Wn.no rfl) rfl (R.add rfl rfl) ?_
        obtain ⟨h41, h42, h43, h⟩ := h
        refine LE.p (v := (SV.v (SV.sub (SV.sub p0 (Int.toNat (0 : Int)) (Int.toNat (IntKind.i64.wrap ((p0.len : Int) + (p2.len : Int)))) 1) (Int.toNat (IntKind.i64.wrap (p1 + (p2.len : Int)))) (Int.toNat ((SV.sub p0 (Int.toNat (0 : Int)) (Int.toNat (IntKind.i64.wrap ((p0.len : Int) + (p2.len : Int)))) 1).len : Int)) 1))) (Wn.no rfl) rfl (R.slc (s := (SV.sub p0 (Int.toNat (0 : Int)) (Int.toNat (IntKind.i64.wrap ((p0.len : Int) + (p2.len : Int)))) 1)) (lo := (IntKind.i64.wrap (p1 + (p2.len : Int)))) (hi := ((SV.sub p0 (Int.toNat (0 : Int)) (Int.toNat (IntKind.i64.wrap ((p0.len : Int) + (p2.len : Int)))) 1).len : Int)) _ _ sl25 rfl rfl rfl h41 h42 h43) ?_
        obtain ⟨t45, h46, h⟩ := h
        refine LE.r (v := (Value.bool t45)) (Wn.no rfl) rfl (R.callxw h46 (Ls.cons rfl (Ls.cons rfl Ls.nil)) rfl) ?_
        refine LE.p (v := (Value.bool (!t45))) (Wn.no rfl) rfl (R.not rfl) ?_
        refine LE.nil ?_
        refine WE.condT rfl (b := (!t45)) rfl ?_ ?_
        · intro hb47
          replace h := M.ite_t h hb47
          refine WE.seq ?_
          refine WE.draw mix ?_
          obtain ⟨w48, hww48, h⟩ := M.drew_use h
          rw [← hww48]
          clear hww48
          refine DE.t 0 (v := (SV.v (SV.sub p0 (Int.toNat (0 : Int)) (Int.toNat (IntKind.i64.wrap ((p0.len : Int) + (p2.len : Int)))) 1))) rfl (by kernel_rfl) (Wn.no rfl) rfl (R.move rfl) ?_
          refine DE.t 1 (v := (Value.int .i64 p1)) rfl (by kernel_rfl) (Wn.no rfl) rfl (R.move rfl) ?_
          refine DE.t 2 (v := (Value.int .i64 (p2.len : Int))) rfl (by kernel_rfl) (Wn.no rfl) rfl (R.move rfl) ?_
          refine DE.t 3 (v := (Value.int .i64 (IntKind.i64.wrap (p1 + (p2.len : Int))))) rfl (by kernel_rfl) (Wn.no rfl) rfl (R.add rfl rfl) ?_
          obtain ⟨h49, h50, h51, h⟩ := h
          refine DE.t 4 (v := (SV.v (SV.sub (SV.sub p0 (Int.toNat (0 : Int)) (Int.toNat (IntKind.i64.wrap ((p0.len : Int) + (p2.len : Int)))) 1) (Int.toNat (IntKind.i64.wrap (p1 + (p2.len : Int)))) (Int.toNat ((SV.sub p0 (Int.toNat (0 : Int)) (Int.toNat (IntKind.i64.wrap ((p0.len : Int) + (p2.len : Int)))) 1).len : Int)) 1))) rfl (by kernel_rfl) (Wn.no rfl) rfl (R.slc (s := (SV.sub p0 (Int.toNat (0 : Int)) (Int.toNat (IntKind.i64.wrap ((p0.len : Int) + (p2.len : Int)))) 1)) (lo := (IntKind.i64.wrap (p1 + (p2.len : Int)))) (hi := ((SV.sub p0 (Int.toNat (0 : Int)) (Int.toNat (IntKind.i64.wrap ((p0.len : Int) + (p2.len : Int)))) 1).len : Int)) _ _ sl25 rfl rfl rfl h49 h50 h51) ?_
          refine DE.t 5 (v := (SV.v (SV.sub p0 (Int.toNat (0 : Int)) (Int.toNat (IntKind.i64.wrap ((p0.len : Int) + (p2.len : Int)))) 1))) rfl (by kernel_rfl) (Wn.no rfl) rfl (R.move rfl) ?_
          refine DE.t 6 (v := (Value.int .i64 p1)) rfl (by kernel_rfl) (Wn.no rfl) rfl (R.move rfl) ?_
          obtain ⟨h53, h54, h55, h⟩ := h
          refine DE.t 7 (v := (SV.v (SV.sub (SV.sub p0 (Int.toNat (0 : Int)) (Int.toNat (IntKind.i64.wrap ((p0.len : Int) + (p2.len : Int)))) 1) (Int.toNat p1) (Int.toNat ((SV.sub p0 (Int.toNat (0 : Int)) (Int.toNat (IntKind.i64.wrap ((p0.len : Int) + (p2.len : Int)))) 1).len : Int)) 1))) rfl (by kernel_rfl) (Wn.no rfl) rfl (R.slc (s := (SV.sub p0 (Int.toNat (0 : Int)) (Int.toNat (IntKind.i64.wrap ((p0.len : Int) + (p2.len : Int)))) 1)) (lo := p1) (hi := ((SV.sub p0 (Int.toNat (0 : Int)) (Int.toNat (IntKind.i64.wrap ((p0.len : Int) + (p2.len : Int)))) 1).len : Int)) _ _ sl25 rfl rfl rfl h53 h54 h55) ?_
          obtain ⟨n57, w58, h59, h⟩ := h
          refine DE.main 8 (by kernel_rfl) ?_
          refine One.r 8 (v := (Value.int .i64 n57)) rfl (Wn.no rfl) rfl (R.cpy (s := (SV.sub (SV.sub p0 (Int.toNat (0 : Int)) (Int.toNat (IntKind.i64.wrap ((p0.len : Int) + (p2.len : Int)))) 1) (Int.toNat (IntKind.i64.wrap (p1 + (p2.len : Int)))) (Int.toNat ((SV.sub p0 (Int.toNat (0 : Int)) (Int.toNat (IntKind.i64.wrap ((p0.len : Int) + (p2.len : Int)))) 1).len : Int)) 1)) (r := (SV.sub (SV.sub p0 (Int.toNat (0 : Int)) (Int.toNat (IntKind.i64.wrap ((p0.len : Int) + (p2.len : Int)))) 1) (Int.toNat p1) (Int.toNat ((SV.sub p0 (Int.toNat (0 : Int)) (Int.toNat (IntKind.i64.wrap ((p0.len : Int) + (p2.len : Int)))) 1).len : Int)) 1)) rfl rfl h59) (.inr trivial) ?_
          refine DE.done (by kernel_rfl) ?_
          refine WE.seq ?_
          refine WE.reg ?_
          refine LE.p (v := (SV.v (SV.sub p0 (Int.toNat (0 : Int)) (Int.toNat (IntKind.i64.wrap ((p0.len : Int) + (p2.len : Int)))) 1))) (Wn.no rfl) rfl (R.move rfl) ?_
          refine LE.p (v := (Value.int .i64 p1)) (Wn.no rfl) rfl (R.move rfl) ?_
          obtain ⟨h60, h61, h62, h⟩ := h
          refine LE.p (v := (SV.v (SV.sub (SV.sub p0 (Int.toNat (0 : Int)) (Int.toNat (IntKind.i64.wrap ((p0.len : Int) + (p2.len : Int)))) 1) (Int.toNat p1) (Int.toNat ((SV.sub p0 (Int.toNat (0 : Int)) (Int.toNat (IntKind.i64.wrap ((p0.len : Int) + (p2.len : Int)))) 1).len : Int)) 1))) (Wn.no rfl) rfl (R.slc (s := (SV.sub p0 (Int.toNat (0 : Int)) (Int.toNat (IntKind.i64.wrap ((p0.len : Int) + (p2.len : Int)))) 1)) (lo := p1) (hi := ((SV.sub p0 (Int.toNat (0 : Int)) (Int.toNat (IntKind.i64.wrap ((p0.len : Int) + (p2.len : Int)))) 1).len : Int)) _ _ sl25 rfl rfl rfl h60 h61 h62) ?_
          refine LE.p (v := (SV.v p2)) (Wn.no rfl) rfl (R.move rfl) ?_
          obtain ⟨n64, w65, h66, h⟩ := h
          refine LE.r (v := (Value.int .i64 n64)) (Wn.no rfl) rfl (R.cpy (s := (SV.sub (SV.sub p0 (Int.toNat (0 : Int)) (Int.toNat (IntKind.i64.wrap ((p0.len : Int) + (p2.len : Int)))) 1) (Int.toNat p1) (Int.toNat ((SV.sub p0 (Int.toNat (0 : Int)) (Int.toNat (IntKind.i64.wrap ((p0.len : Int) + (p2.len : Int)))) 1).len : Int)) 1)) (r := p2) rfl rfl h66) ?_
          refine LE.nil ?_
          refine WE.seq ?_
          refine WE.reg ?_
          refine LE.p (v := (SV.v (SV.sub p0 (Int.toNat (0 : Int)) (Int.toNat (IntKind.i64.wrap ((p0.len : Int) + (p2.len : Int)))) 1))) (Wn.no rfl) rfl (R.move rfl) ?_
          refine LE.p (v := (SV.v (SV.sub p0 (Int.toNat (0 : Int)) (Int.toNat (IntKind.i64.wrap ((p0.len : Int) + (p2.len : Int)))) 1))) (Wn.no rfl) rfl (R.assign rfl) ?_
          refine LE.nil ?_
          refine WE.ret ?_
          exact ⟨_, (Res.tmp rfl Res.nil), _, rfl, h⟩
        · intro hb47
          replace h := M.ite_f h hb47
          refine WE.skip ?_
          refine WE.seq ?_
          refine WE.reg ?_
          refine LE.p (v := (SV.v (SV.sub p0 (Int.toNat (0 : Int)) (Int.toNat (IntKind.i64.wrap ((p0.len : Int) + (p2.len : Int)))) 1))) (Wn.no rfl) rfl (R.move rfl) ?_
          refine LE.p (v := (Value.int .i64 (p0.len : Int))) (Wn.no rfl) rfl (R.move rfl) ?_
          obtain ⟨h67, h68, h69, h⟩ := h
          refine LE.p (v := (SV.v (SV.sub (SV.sub p0 (Int.toNat (0 : Int)) (Int.toNat (IntKind.i64.wrap ((p0.len : Int) + (p2.len : Int)))) 1) (Int.toNat (p0.len : Int)) (Int.toNat ((SV.sub p0 (Int.toNat (0 : Int)) (Int.toNat (IntKind.i64.wrap ((p0.len : Int) + (p2.len : Int)))) 1).len : Int)) 1))) (Wn.no rfl) rfl (R.slc (s := (SV.sub p0 (Int.toNat (0 : Int)) (Int.toNat (IntKind.i64.wrap ((p0.len : Int) + (p2.len : Int)))) 1)) (lo := (p0.len : Int)) (hi := ((SV.sub p0 (Int.toNat (0 : Int)) (Int.toNat (IntKind.i64.wrap ((p0.len : Int) + (p2.len : Int)))) 1).len : Int)) _ _ sl25 rfl rfl rfl h67 h68 h69) ?_
          refine LE.p (v := (SV.v p2)) (Wn.no rfl) rfl (R.move rfl) ?_
          obtain ⟨n71, w72, h73, h⟩ := h
          refine LE.r (v := (Value.int .i64 n71)) (Wn.no rfl) rfl (R.cpy (s := (SV.sub (SV.sub p0 (Int.toNat (0 : Int)) (Int.toNat (IntKind.i64.wrap ((p0.len : Int) + (p2.len : Int)))) 1) (Int.toNat (p0.len : Int)) (Int.toNat ((SV.sub p0 (Int.toNat (0 : Int)) (Int.toNat (IntKind.i64.wrap ((p0.len : Int) + (p2.len : Int)))) 1).len : Int)) 1)) (r := p2) rfl rfl h73) ?_
          refine LE.nil ?_
          refine WE.seq ?_
          refine WE.reg ?_
          refine LE.p (v := (SV.v (SV.sub p0 (Int.toNat (0 : Int)) (Int.toNat (IntKind.i64.wrap ((p0.len : Int) + (p2.len : Int)))) 1))) (Wn.no rfl) rfl (R.move rfl) ?_
          refine LE.p (v := (Value.int .i64 p1)) (Wn.no rfl) rfl (R.move rfl) ?_
          obtain ⟨h74, h75, h76, h⟩ := h
          refine LE.p (v := (SV.v (SV.sub (SV.sub p0 (Int.toNat (0 : Int)) (Int.toNat (IntKind.i64.wrap ((p0.len : Int) + (p2.len : Int)))) 1) (Int.toNat p1) (Int.toNat ((SV.sub p0 (Int.toNat (0 : Int)) (Int.toNat (IntKind.i64.wrap ((p0.len : Int) + (p2.len : Int)))) 1).len : Int)) 1))) (Wn.no rfl) rfl (R.slc (s := (SV.sub p0 (Int.toNat (0 : Int)) (Int.toNat (IntKind.i64.wrap ((p0.len : Int) + (p2.len : Int)))) 1)) (lo := p1) (hi := ((SV.sub p0 (Int.toNat (0 : Int)) (Int.toNat (IntKind.i64.wrap ((p0.len : Int) + (p2.len : Int)))) 1).len : Int)) _ _ sl25 rfl rfl rfl h74 h75 h76) ?_
          refine LE.p (v := (Value.int .i64 (p2.len : Int))) (Wn.no rfl) rfl (R.move rfl) ?_
          refine LE.c (Wn.no rfl) rfl (R.call bd51 (Ls.cons rfl (Ls.cons rfl Ls.nil)) rfl) (Calls.mono h ?_)
          rintro _ w78 ⟨rfl, h⟩
          refine ⟨_, rfl, ?_⟩
          refine LE.nil ?_
          refine WE.seq ?_
          refine WE.reg ?_
          refine LE.p (v := (SV.v (SV.sub p0 (Int.toNat (0 : Int)) (Int.toNat (IntKind.i64.wrap ((p0.len : Int) + (p2.len : Int)))) 1))) (Wn.no rfl) rfl (R.move rfl) ?_
          refine LE.p (v := (SV.v (SV.sub p0 (Int.toNat (0 : Int)) (Int.toNat (IntKind.i64.wrap ((p0.len : Int) + (p2.len : Int)))) 1))) (Wn.no rfl) rfl (R.assign rfl) ?_
          refine LE.nil ?_
          refine WE.ret ?_
          exact ⟨_, (Res.tmp rfl Res.nil), _, rfl, h⟩
/-- The formula of slices.Insert[[]signpost.api.Seg,signpost.api.Seg]. -/
def F29 (p0 : SV) (p1 : Int) (p2 : SV) (K : SV → World → Prop) (w0 : World) : Prop :=
M.bnd p1 (p0.len : Int) p0 <|
M.ite ((p2.len : Int) == (0 : Int)) (
K p0 w0) (
M.ite (p1 == (p0.len : Int)) (
M.app Try.prog 24 24 24 p0 (SV.v p2) w0 fun s7 w8 =>
K s7 w8) (
M.ite (decide ((p0.cap : Int) < (IntKind.i64.wrap ((p0.len : Int) + (p2.len : Int))))) (
M.bnd (0 : Int) p1 p0 <|
M.app Try.prog 24 3 24 (SV.sub p0 (Int.toNat (0 : Int)) (Int.toNat p1) 2) (Value.int .i64 (IntKind.i64.wrap ((IntKind.i64.wrap ((p0.len : Int) + (p2.len : Int))) - p1))) w0 fun s15 w16 =>
M.bnd p1 (s15.len : Int) s15 <|
M.cp Try.prog 24 24 3 (SV.sub s15 (Int.toNat p1) (Int.toNat (s15.len : Int)) 2) p2 w16 fun n22 w23 =>
M.drew w23 fun w25 => 
M.bnd (IntKind.i64.wrap (p1 + (p2.len : Int))) (s15.len : Int) s15 <|
M.bnd p1 (p0.len : Int) p0 <|
M.cp Try.prog 24 24 3 (SV.sub s15 (Int.toNat (IntKind.i64.wrap (p1 + (p2.len : Int)))) (Int.toNat (s15.len : Int)) 2) (SV.sub p0 (Int.toNat p1) (Int.toNat (p0.len : Int)) 2) w25 fun n34 w35 =>
K s15 w35) (
M.bnd (0 : Int) (IntKind.i64.wrap ((p0.len : Int) + (p2.len : Int))) p0 <|
M.bnd (IntKind.i64.wrap (p1 + (p2.len : Int))) ((SV.sub p0 (Int.toNat (0 : Int)) (Int.toNat (IntKind.i64.wrap ((p0.len : Int) + (p2.len : Int)))) 2).len : Int) (SV.sub p0 (Int.toNat (0 : Int)) (Int.toNat (IntKind.i64.wrap ((p0.len : Int) + (p2.len : Int)))) 2) <|
∃ (t45 : Bool), (callFunc 52 #[(SV.v p2), (SV.v (SV.sub (SV.sub p0 (Int.toNat (0 : Int)) (Int.toNat (IntKind.i64.wrap ((p0.len : Int) + (p2.len : Int)))) 2) (Int.toNat (IntKind.i64.wrap (p1 + (p2.len : Int)))) (Int.toNat ((SV.sub p0 (Int.toNat (0 : Int)) (Int.toNat (IntKind.i64.wrap ((p0.len : Int) + (p2.len : Int)))) 2).len : Int)) 2))]).run Try.prog w0 = .ok (.value (.bool t45)) w0 ∧
M.ite (!t45) (
M.drew w0 fun w48 => 
M.bnd (IntKind.i64.wrap (p1 + (p2.len : Int))) ((SV.sub p0 (Int.toNat (0 : Int)) (Int.toNat (IntKind.i64.wrap ((p0.len : Int) + (p2.len : Int)))) 2).len : Int) (SV.sub p0 (Int.toNat (0 : Int)) (Int.toNat (IntKind.i64.wrap ((p0.len : Int) + (p2.len : Int)))) 2) <|
M.bnd p1 ((SV.sub p0 (Int.toNat (0 : Int)) (Int.toNat (IntKind.i64.wrap ((p0.len : Int) + (p2.len : Int)))) 2).len : Int) (SV.sub p0 (Int.toNat (0 : Int)) (Int.toNat (IntKind.i64.wrap ((p0.len : Int) + (p2.len : Int)))) 2) <|
M.cp Try.prog 24 24 3 (SV.sub (SV.sub p0 (Int.toNat (0 : Int)) (Int.toNat (IntKind.i64.wrap ((p0.len : Int) + (p2.len : Int)))) 2) (Int.toNat (IntKind.i64.wrap (p1 + (p2.len : Int)))) (Int.toNat ((SV.sub p0 (Int.toNat (0 : Int)) (Int.toNat (IntKind.i64.wrap ((p0.len : Int) + (p2.len : Int)))) 2).len : Int)) 2) (SV.sub (SV.sub p0 (Int.toNat (0 : Int)) (Int.toNat (IntKind.i64.wrap ((p0.len : Int) + (p2.len : Int)))) 2) (Int.toNat p1) (Int.toNat ((SV.sub p0 (Int.toNat (0 : Int)) (Int.toNat (IntKind.i64.wrap ((p0.len : Int) + (p2.len : Int)))) 2).len : Int)) 2) w48 fun n57 w58 =>
M.bnd p1 ((SV.sub p0 (Int.toNat (0 : Int)) (Int.toNat (IntKind.i64.wrap ((p0.len : Int) + (p2.len : Int)))) 2).len : Int) (SV.sub p0 (Int.toNat (0 : Int)) (Int.toNat (IntKind.i64.wrap ((p0.len : Int) + (p2.len : Int)))) 2) <|
M.cp Try.prog 24 24 3 (SV.sub (SV.sub p0 (Int.toNat (0 : Int)) (Int.toNat (IntKind.i64.wrap ((p0.len : Int) + (p2.len : Int)))) 2) (Int.toNat p1) (Int.toNat ((SV.sub p0 (Int.toNat (0 : Int)) (Int.toNat (IntKind.i64.wrap ((p0.len : Int) + (p2.len : Int)))) 2).len : Int)) 2) p2 w58 fun n64 w65 =>
K (SV.sub p0 (Int.toNat (0 : Int)) (Int.toNat (IntKind.i64.wrap ((p0.len : Int) + (p2.len : Int)))) 2) w65) (
M.bnd (p0.len : Int) ((SV.sub p0 (Int.toNat (0 : Int)) (Int.toNat (IntKind.i64.wrap ((p0.len : Int) + (p2.len : Int)))) 2).len : Int) (SV.sub p0 (Int.toNat (0 : Int)) (Int.toNat (IntKind.i64.wrap ((p0.len : Int) + (p2.len : Int)))) 2) <|
M.cp Try.prog 24 24 3 (SV.sub (SV.sub p0 (Int.toNat (0 : Int)) (Int.toNat (IntKind.i64.wrap ((p0.len : Int) + (p2.len : Int)))) 2) (Int.toNat (p0.len : Int)) (Int.toNat ((SV.sub p0 (Int.toNat (0 : Int)) (Int.toNat (IntKind.i64.wrap ((p0.len : Int) + (p2.len : Int)))) 2).len : Int)) 2) p2 w0 fun n71 w72 =>
M.bnd p1 ((SV.sub p0 (Int.toNat (0 : Int)) (Int.toNat (IntKind.i64.wrap ((p0.len : Int) + (p2.len : Int)))) 2).len : Int) (SV.sub p0 (Int.toNat (0 : Int)) (Int.toNat (IntKind.i64.wrap ((p0.len : Int) + (p2.len : Int)))) 2) <|
Calls Try.prog 53 #[(SV.v (SV.sub (SV.sub p0 (Int.toNat (0 : Int)) (Int.toNat (IntKind.i64.wrap ((p0.len : Int) + (p2.len : Int)))) 2) (Int.toNat p1) (Int.toNat ((SV.sub p0 (Int.toNat (0 : Int)) (Int.toNat (IntKind.i64.wrap ((p0.len : Int) + (p2.len : Int)))) 2).len : Int)) 2)), (Value.int .i64 (p2.len : Int))] w72 (R53 fun w78 =>
K (SV.sub p0 (Int.toNat (0 : Int)) (Int.toNat (IntKind.i64.wrap ((p0.len : Int) + (p2.len : Int)))) 2) w78)))))
theorem F29_ok {w0 : World} {p0 : SV} {p1 : Int} {p2 : SV} {K : SV → World → Prop} (h : F29 p0 p1 p2 K w0) : Calls Try.prog 29 #[(SV.v p0), (Value.int .i64 p1), (SV.v p2)] w0 (R29 K) := by
  refine calls_of_WE (args := [(SV.v p0), (Value.int .i64 p1), (SV.v p2)]) (rs := [.tmp 6]) Try.func29 rfl (N := 95) rfl rfl rfl rfl ?_
  refine WE.seq ?_
  refine WE.reg ?_
  refine LE.p (v := (SV.v SV.nil)) (Wn.no rfl) rfl (R.assign rfl) ?_
  refine LE.nil ?_
  refine WE.seq ?_
  refine WE.reg ?_
  refine LE.p (v := (SV.v p0)) (Wn.no rfl) rfl (R.move rfl) ?_
  refine LE.p (v := (Value.int .i64 p1)) (Wn.no rfl) rfl (R.move rfl) ?_
  obtain ⟨h1, h2, h3, h⟩ := h
  refine LE.p (v := (SV.v (SV.sub p0 (Int.toNat p1) (Int.toNat (p0.len : Int)) 2))) (Wn.no rfl) rfl (R.slc (s := p0) (lo := p1) (hi := (p0.len : Int)) _ _ sl24 rfl rfl rfl h1 h2 h3) ?_
  refine LE.nil ?_
  refine WE.seq ?_
  refine WE.reg ?_
  refine LE.p (v := (SV.v p2)) (Wn.no rfl) rfl (R.move rfl) ?_
  refine LE.p (v := (Value.int .i64 (p2.len : Int))) (Wn.no rfl) rfl (R.len sl24 rfl) ?_
  refine LE.p (v := (Value.int .i64 (p2.len : Int))) (Wn.no rfl) rfl (R.assign rfl) ?_
  refine LE.nil ?_
  refine WE.seq ?_
  refine WE.seq ?_
  refine WE.reg ?_
  refine LE.p (v := (Value.int .i64 (p2.len : Int))) (Wn.no rfl) rfl (R.move rfl) ?_
  refine LE.p (v := (Value.bool ((p2.len : Int) == (0 : Int)))) (Wn.no rfl) rfl (R.eql rfl rfl) ?_
  refine LE.nil ?_
  refine WE.condT rfl (b := ((p2.len : Int) == (0 : Int))) rfl ?_ ?_
  · intro hb5
    replace h := M.ite_t h hb5
    refine WE.seq ?_
    refine WE.reg ?_
    refine LE.p (v := (SV.v p0)) (Wn.no rfl) rfl (R.move rfl) ?_
    refine LE.p (v := (SV.v p0)) (Wn.no rfl) rfl (R.assign rfl) ?_
    refine LE.nil ?_
    refine WE.ret ?_
    exact ⟨_, (Res.tmp rfl Res.nil), _, rfl, h⟩
  · intro hb5
    replace h := M.ite_f h hb5
    refine WE.skip ?_
    refine WE.seq ?_
    refine WE.reg ?_
    refine LE.p (v := (SV.v p0)) (Wn.no rfl) rfl (R.move rfl) ?_
    refine LE.p (v := (Value.int .i64 (p0.len : Int))) (Wn.no rfl) rfl (R.len sl24 rfl) ?_
    refine LE.p (v := (Value.int .i64 (p0.len : Int))) (Wn.no rfl) rfl (R.assign rfl) ?_
    refine LE.nil ?_
    refine WE.seq ?_
    refine WE.seq ?_
    refine WE.reg ?_
    refine LE.p (v := (Value.int .i64 p1)) (Wn.no rfl) rfl (R.move rfl) ?_
    refine LE.p (v := (Value.int .i64 (p0.len : Int))) (Wn.no rfl) rfl (R.move rfl) ?_
    refine LE.p (v := (Value.bool (p1 == (p0.len : Int)))) (Wn.no rfl) rfl (R.eql rfl rfl) ?_
    refine LE.nil ?_
    refine WE.condT rfl (b := (p1 == (p0.len : Int))) rfl ?_ ?_
    · intro hb6
      replace h := M.ite_t h hb6
      refine WE.seq ?_
      refine WE.reg ?_
      refine LE.p (v := (SV.v p0)) (Wn.no rfl) rfl (R.move rfl) ?_
      refine LE.p (v := (SV.v p2)) (Wn.no rfl) rfl (R.move rfl) ?_
      obtain ⟨s7, w8, h9, h⟩ := h
      refine LE.r (v := (SV.v s7)) (Wn.no rfl) rfl (R.app (s := p0) (r := s7) rfl rfl h9) ?_
      refine LE.p (v := (SV.v s7)) (Wn.no rfl) rfl (R.assign rfl) ?_
      refine LE.nil ?_
      refine WE.ret ?_
      exact ⟨_, (Res.tmp rfl Res.nil), _, rfl, h⟩
    · intro hb6
      replace h := M.ite_f h hb6
      refine WE.skip ?_
      refine WE.seq ?_
      refine WE.seq ?_
      refine WE.reg ?_
      refine LE.p (v := (Value.int .i64 (p0.len : Int))) (Wn.no rfl) rfl (R.move rfl) ?_
      refine LE.p (v := (Value.int .i64 (p2.len : Int))) (Wn.no rfl) rfl (R.move rfl) ?_
      refine LE.p (v := (Value.int .i64 (IntKind.i64.wrap ((p0.len : Int) + (p2.len : Int))))) (Wn.no rfl) rfl (R.add rfl rfl) ?_
      refine LE.p (v := (SV.v p0)) (Wn.no rfl) rfl (R.move rfl) ?_
      refine LE.p (v := (Value.int .i64 (p0.cap : Int))) (Wn.no rfl) rfl (R.cap sl24 rfl) ?_
      refine LE.p (v := (Value.bool (decide ((p0.cap : Int) < (IntKind.i64.wrap ((p0.len : Int) + (p2.len : Int))))))) (Wn.no rfl) rfl (R.gtr rfl rfl) ?_
      refine LE.nil ?_
      refine WE.condT rfl (b := (decide ((p0.cap : Int) < (IntKind.i64.wrap ((p0.len : Int) + (p2.len : Int)))))) rfl ?_ ?_
      · intro hb10
        replace h := M.ite_t h hb10
        refine WE.seq ?_
        refine WE.reg ?_
        refine LE.p (v := (SV.v p0)) (Wn.no rfl) rfl (R.move rfl) ?_
        refine LE.p (v := (Value.int .i64 p1)) (Wn.no rfl) rfl (R.move rfl) ?_
        obtain ⟨h11, h12, h13, h⟩ := h
        refine LE.p (v := (SV.v (SV.sub p0 (Int.toNat (0 : Int)) (Int.toNat p1) 2))) (Wn.no rfl) rfl (R.slc (s := p0) (lo := (0 : Int)) (hi := p1) _ _ sl24 rfl rfl rfl h11 h12 h13) ?_
        refine LE.p (v := (Value.int .i64 (p0.len : Int))) (Wn.no rfl) rfl (R.move rfl) ?_
        refine LE.p (v := (Value.int .i64 (p2.len : Int))) (Wn.no rfl) rfl (R.move rfl) ?_
        refine LE.p (v := (Value.int .i64 (IntKind.i64.wrap ((p0.len : Int) + (p2.len : Int))))) (Wn.no rfl) rfl (R.add rfl rfl) ?_
        refine LE.p (v := (Value.int .i64 p1)) (Wn.no rfl) rfl (R.move rfl) ?_
        refine LE.p (v := (Value.int .i64 (IntKind.i64.wrap ((IntKind.i64.wrap ((p0.len : Int) + (p2.len : Int))) - p1)))) (Wn.no rfl) rfl (R.sub rfl rfl) ?_
        obtain ⟨s15, w16, h17, h⟩ := h
        refine LE.r (v := (SV.v s15)) (Wn.no rfl) rfl (R.app (s := (SV.sub p0 (Int.toNat (0 : Int)) (Int.toNat p1) 2)) (r := s15) rfl rfl h17) ?_
        refine LE.p (v := (SV.v s15)) (Wn.no rfl) rfl (R.assign rfl) ?_
        refine LE.nil ?_
        refine WE.seq ?_
        refine WE.reg ?_
        refine LE.p (v := (SV.v s15)) (Wn.no rfl) rfl (R.move rfl) ?_
        refine LE.p (v := (Value.int .i64 p1)) (Wn.no rfl) rfl (R.move rfl) ?_
        obtain ⟨h18, h19, h20, h⟩ := h
        refine LE.p (v := (SV.v (SV.sub s15 (Int.toNat p1) (Int.toNat (s15.len : Int)) 2))) (Wn.no rfl) rfl (R.slc (s := s15) (lo := p1) (hi := (s15.len : Int)) _ _ sl24 rfl rfl rfl h18 h19 h20) ?_
        refine LE.p (v := (SV.v p2)) (Wn.no rfl) rfl (R.move rfl) ?_
        obtain ⟨n22, w23, h24, h⟩ := h
        refine LE.r (v := (Value.int .i64 n22)) (Wn.no rfl) rfl (R.cpy (s := (SV.sub s15 (Int.toNat p1) (Int.toNat (s15.len : Int)) 2)) (r := p2) rfl rfl h24) ?_
        refine LE.nil ?_
        refine WE.seq ?_
        refine WE.draw mix ?_
        obtain ⟨w25, hww25, h⟩ := M.drew_use h
        rw [← hww25]
        clear hww25
        refine DE.t 0 (v := (SV.v s15)) rfl (by kernel_rfl) (Wn.no rfl) rfl (R.move rfl) ?_
        refine DE.t 1 (v := (Value.int .i64 p1)) rfl (by kernel_rfl) (Wn.no rfl) rfl (R.move rfl) ?_
        refine DE.t 2 (v := (Value.int .i64 (p2.len : Int))) rfl (by kernel_rfl) (Wn.no rfl) rfl (R.move rfl) ?_
        refine DE.t 3 (v := (Value.int .i64 (IntKind.i64.wrap (p1 + (p2.len : Int))))) rfl (by kernel_rfl) (Wn.no rfl) rfl (R.add rfl rfl) ?_
        obtain ⟨h26, h27, h28, h⟩ := h
        refine DE.t 4 (v := (SV.v (SV.sub s15 (Int.toNat (IntKind.i64.wrap (p1 + (p2.len : Int)))) (Int.toNat (s15.len : Int)) 2))) rfl (by kernel_rfl) (Wn.no rfl) rfl (R.slc (s := s15) (lo := (IntKind.i64.wrap (p1 + (p2.len : Int)))) (hi := (s15.len : Int)) _ _ sl24 rfl rfl rfl h26 h27 h28) ?_
        refine DE.t 5 (v := (SV.v p0)) rfl (by kernel_rfl) (Wn.no rfl) rfl (R.move rfl) ?_
        refine DE.t 6 (v := (Value.int .i64 p1)) rfl (by kernel_rfl) (Wn.no rfl) rfl (R.move rfl) ?_
        obtain ⟨h30, h31, h32, h⟩ := h
        refine DE.t 7 (v := (SV.v (SV.sub p0 (Int.toNat p1) (Int.toNat (p0.len : Int)) 2))) rfl (by kernel_rfl) (Wn.no rfl) rfl (R.slc (s := p0) (lo := p1) (hi := (p0.len : Int)) _ _ sl24 rfl rfl rfl h30 h31 h32) ?_
        obtain ⟨n34, w35, h36, h⟩ := h
        refine DE.main 8 (by kernel_rfl) ?_
        refine One.r 8 (v := (Value.int .i64 n34)) rfl (Wn.no rfl) rfl (R.cpy (s := (SV.sub s15 (Int.toNat (IntKind.i64.wrap (p1 + (p2.len : Int)))) (Int.toNat (s15.len : Int)) 2)) (r := (SV.sub p0 (Int.toNat p1) (Int.toNat (p0.len : Int)) 2)) rfl rfl h36) (.inr trivial) ?_
        refine DE.done (by kernel_rfl) ?_
        refine WE.seq ?_
        refine WE.reg ?_
        refine LE.p (v := (SV.v s15)) (Wn.no rfl) rfl (R.move rfl) ?_
        refine LE.p (v := (SV.v s15)) (Wn.no rfl) rfl (R.assign rfl) ?_
        refine LE.nil ?_
        refine WE.ret ?_
        exact ⟨_, (Res.tmp rfl Res.nil), _, rfl, h⟩
      · intro hb10
        replace h := M.ite_f h hb10
        refine WE.skip ?_
        refine WE.seq ?_
        refine WE.reg ?_
        refine LE.p (v := (SV.v p0)) (Wn.no rfl) rfl (R.move rfl) ?_
        refine LE.p (v := (Value.int .i64 (p0.len : Int))) (Wn.no rfl) rfl (R.move rfl) ?_
        refine LE.p (v := (Value.int .i64 (p2.len : Int))) (Wn.no rfl) rfl (R.move rfl) ?_
        refine LE.p (v := (Value.int .i64 (IntKind.i64.wrap ((p0.len : Int) + (p2.len : Int))))) (Wn.no rfl) rfl (R.add rfl rfl) ?_
        obtain ⟨h37, h38, h39, h⟩ := h
        refine LE.p (v := (SV.v (SV.sub p0 (Int.toNat (0 : Int)) (Int.toNat (IntKind.i64.wrap ((p0.len : Int) + (p2.len : Int)))) 2))) (Wn.no rfl) rfl (R.slc (s := p0) (lo := (0 : Int)) (hi := (IntKind.i64.wrap ((p0.len : Int) + (p2.len : Int)))) _ _ sl24 rfl rfl rfl h37 h38 h39) ?_
        refine LE.p (v := (SV.v (SV.sub p0 (Int.toNat (0 : Int)) (Int.toNat (IntKind.i64.wrap ((p0.len : Int) + (p2.len : Int)))) 2))) (Wn.no rfl) rfl (R.assign rfl) ?_
        refine LE.nil ?_
        refine WE.seq ?_
        refine WE.seq ?_
        refine WE.reg ?_
        refine LE.p (v := (SV.v p2)) (Wn.no rfl) rfl (R.move rfl) ?_
        refine LE.p (v := (SV.v (SV.sub p0 (Int.toNat (0 : Int)) (Int.toNat (IntKind.i64.wrap ((p0.len : Int) + (p2.len : Int)))) 2))) (Wn.no rfl) rfl (R.move rfl) ?_
        refine LE.p (v := (Value.int .i64 p1)) (Wn.no rfl) rfl (R.move rfl) ?_
        refine LE.p (v := (Value.int .i64 (p2.len : Int))) (Wn.no rfl) rfl (R.move rfl) ?_
        refine LE.p (v := (Value.int .i64 (IntKind.i64.wrap (p1 + (p2.len : Int))))) (Wn.no rfl) rfl (R.add rfl rfl) ?_
        obtain ⟨h41, h42, h43, h⟩ := h
        refine LE.p (v := (SV.v (SV.sub (SV.sub p0 (Int.toNat (0 : Int)) (Int.toNat (IntKind.i64.wrap ((p0.len : Int) + (p2.len : Int)))) 2) (Int.toNat (IntKind.i64.wrap (p1 + (p2.len : Int)))) (Int.toNat ((SV.sub p0 (Int.toNat (0 : Int)) (Int.toNat (IntKind.i64.wrap ((p0.len : Int) + (p2.len : Int)))) 2).len : Int)) 2))) (Wn.no rfl) rfl (R.slc (s := (SV.sub p0 (Int.toNat (0 : Int)) (Int.toNat (IntKind.i64.wrap ((p0.len : Int) + (p2.len : Int)))) 2)) (lo := (IntKind.i64.wrap (p1 + (p2.len : Int)))) (hi := ((SV.sub p0 (Int.toNat (0 : Int)) (Int.toNat (IntKind.i64.wrap ((p0.len : Int) + (p2.len : Int)))) 2).len : Int)) _ _ sl24 rfl rfl rfl h41 h42 h43) ?_
        obtain ⟨t45, h46, h⟩ := h
        refine LE.r (v := (Value.bool t45)) (Wn.no rfl) rfl (R.callxw h46 (Ls.cons rfl (Ls.cons rfl Ls.nil)) rfl) ?_
        refine LE.p (v := (Value.bool (!t45))) (Wn.no rfl) rfl (R.not rfl) ?_
        refine LE.nil ?_
        refine WE.condT rfl (b := (!t45)) rfl ?_ ?_
        · intro hb47
          replace h := M.ite_t h hb47
          refine WE.seq ?_
          refine WE.draw mix ?_
          obtain ⟨w48, hww48, h⟩ := M.drew_use h
          rw [← hww48]
          clear hww48
          refine DE.t 0 (v := (SV.v (SV.sub p0 (Int.toNat (0 : Int)) (Int.toNat (IntKind.i64.wrap ((p0.len : Int) + (p2.len : Int)))) 2))) rfl (by kernel_rfl) (Wn.no rfl) rfl (R.move rfl) ?_
          refine DE.t 1 (v := (Value.int .i64 p1)) rfl (by kernel_rfl) (Wn.no rfl) rfl (R.move rfl) ?_
          refine DE.t 2 (v := (Value.int .i64 (p2.len : Int))) rfl (by kernel_rfl) (Wn.no rfl) rfl (R.move rfl) ?_
          refine DE.t 3 (v := (Value.int .i64 (IntKind.i64.wrap (p1 + (p2.len : Int))))) rfl (by kernel_rfl) (Wn.no rfl) rfl (R.add rfl rfl) ?_
          obtain ⟨h49, h50, h51, h⟩ := h
          refine DE.t 4 (v := (SV.v (SV.sub (SV.sub p0 (Int.toNat (0 : Int)) (Int.toNat (IntKind.i64.wrap ((p0.len : Int) + (p2.len : Int)))) 2) (Int.toNat (IntKind.i64.wrap (p1 + (p2.len : Int)))) (Int.toNat ((SV.sub p0 (Int.toNat (0 : Int)) (Int.toNat (IntKind.i64.wrap ((p0.len : Int) + (p2.len : Int)))) 2).len : Int)) 2))) rfl (by kernel_rfl) (Wn.no rfl) rfl (R.slc (s := (SV.sub p0 (Int.toNat (0 : Int)) (Int.toNat (IntKind.i64.wrap ((p0.len : Int) + (p2.len : Int)))) 2)) (lo := (IntKind.i64.wrap (p1 + (p2.len : Int)))) (hi := ((SV.sub p0 (Int.toNat (0 : Int)) (Int.toNat (IntKind.i64.wrap ((p0.len : Int) + (p2.len : Int)))) 2).len : Int)) _ _ sl24 rfl rfl rfl h49 h50 h51) ?_
          refine DE.t 5 (v := (SV.v (SV.sub p0 (Int.toNat (0 : Int)) (Int.toNat (IntKind.i64.wrap ((p0.len : Int) + (p2.len : Int)))) 2))) rfl (by kernel_rfl) (Wn.no rfl) rfl (R.move rfl) ?_
          refine DE.t 6 (v := (Value.int .i64 p1)) rfl (by kernel_rfl) (Wn.no rfl) rfl (R.move rfl) ?_
          obtain ⟨h53, h54, h55, h⟩ := h
          refine DE.t 7 (v := (SV.v (SV.sub (SV.sub p0 (Int.toNat (0 : Int)) (Int.toNat (IntKind.i64.wrap ((p0.len : Int) + (p2.len : Int)))) 2) (Int.toNat p1) (Int.toNat ((SV.sub p0 (Int.toNat (0 : Int)) (Int.toNat (IntKind.i64.wrap ((p0.len : Int) + (p2.len : Int)))) 2).len : Int)) 2))) rfl (by kernel_rfl) (Wn.no rfl) rfl (R.slc (s := (SV.sub p0 (Int.toNat (0 : Int)) (Int.toNat (IntKind.i64.wrap ((p0.len : Int) + (p2.len : Int)))) 2)) (lo := p1) (hi := ((SV.sub p0 (Int.toNat (0 : Int)) (Int.toNat (IntKind.i64.wrap ((p0.len : Int) + (p2.len : Int)))) 2).len : Int)) _ _ sl24 rfl rfl rfl h53 h54 h55) ?_
          obtain ⟨n57, w58, h59, h⟩ := h
          refine DE.main 8 (by kernel_rfl) ?_
          refine One.r 8 (v := (Value.int .i64 n57)) rfl (Wn.no rfl) rfl (R.cpy (s := (SV.sub (SV.sub p0 (Int.toNat (0 : Int)) (Int.toNat (IntKind.i64.wrap ((p0.len : Int) + (p2.len : Int)))) 2) (Int.toNat (IntKind.i64.wrap (p1 + (p2.len : Int)))) (Int.toNat ((SV.sub p0 (Int.toNat (0 : Int)) (Int.toNat (IntKind.i64.wrap ((p0.len : Int) + (p2.len : Int)))) 2).len : Int)) 2)) (r := (SV.sub (SV.sub p0 (Int.toNat (0 : Int)) (Int.toNat (IntKind.i64.wrap ((p0.len : Int) + (p2.len : Int)))) 2) (Int.toNat p1) (Int.toNat ((SV.sub p0 (Int.toNat (0 : Int)) (Int.toNat (IntKind.i64.wrap ((p0.len : Int) + (p2.len : Int)))) 2).len : Int)) 2)) rfl rfl h59) (.inr trivial) ?_
          refine DE.done (by kernel_rfl) ?_
          refine WE.seq ?_
          refine WE.reg ?_
          refine LE.p (v := (SV.v (SV.sub p0 (Int.toNat (0 : Int)) (Int.toNat (IntKind.i64.wrap ((p0.len : Int) + (p2.len : Int)))) 2))) (Wn.no rfl) rfl (R.move rfl) ?_
          refine LE.p (v := (Value.int .i64 p1)) (Wn.no rfl) rfl (R.move rfl) ?_
          obtain ⟨h60, h61, h62, h⟩ := h
          refine LE.p (v := (SV.v (SV.sub (SV.sub p0 (Int.toNat (0 : Int)) (Int.toNat (IntKind.i64.wrap ((p0.len : Int) + (p2.len : Int)))) 2) (Int.toNat p1) (Int.toNat ((SV.sub p0 (Int.toNat (0 : Int)) (Int.toNat (IntKind.i64.wrap ((p0.len : Int) + (p2.len : Int)))) 2).len : Int)) 2))) (Wn.no rfl) rfl (R.slc (s := (SV.sub p0 (Int.toNat (0 : Int)) (Int.toNat (IntKind.i64.wrap ((p0.len : Int) + (p2.len : Int)))) 2)) (lo := p1) (hi := ((SV.sub p0 (Int.toNat (0 : Int)) (Int.toNat (IntKind.i64.wrap ((p0.len : Int) + (p2.len : Int)))) 2).len : Int)) _ _ sl24 rfl rfl rfl h60 h61 h62) ?_
          refine LE.p (v := (SV.v p2)) (Wn.no rfl) rfl (R.move rfl) ?_
          obtain ⟨n64, w65, h66, h⟩ := h
          refine LE.r (v := (Value.int .i64 n64)) (Wn.no rfl) rfl (R.cpy (s := (SV.sub (SV.sub p0 (Int.toNat (0 : Int)) (Int.toNat (IntKind.i64.wrap ((p0.len : Int) + (p2.len : Int)))) 2) (Int.toNat p1) (Int.toNat ((SV.sub p0 (Int.toNat (0 : Int)) (Int.toNat (IntKind.i64.wrap ((p0.len : Int) + (p2.len : Int)))) 2).len : Int)) 2)) (r := p2) rfl rfl h66) ?_
          refine LE.nil ?_
          refine WE.seq ?_
          refine WE.reg ?_
          refine LE.p (v := (SV.v (SV.sub p0 (Int.toNat (0 : Int)) (Int.toNat (IntKind.i64.wrap ((p0.len : Int) + (p2.len : Int)))) 2))) (Wn.no rfl) rfl (R.move rfl) ?_
          refine LE.p (v := (SV.v (SV.sub p0 (Int.toNat (0 : Int)) (Int.toNat (IntKind.i64.wrap ((p0.len : Int) + (p2.len : Int)))) 2))) (Wn.no rfl) rfl (R.assign rfl) ?_
          refine LE.nil ?_
          refine WE.ret ?_
          exact ⟨_, (Res.tmp rfl Res.nil), _, rfl, h⟩
        · intro hb47
          replace h := M.ite_f h hb47
          refine WE.skip ?_
          refine WE.seq ?_
          refine WE.reg ?_
          refine LE.p (v := (SV.v (SV.sub p0 (Int.toNat (0 : Int)) (Int.toNat (IntKind.i64.wrap ((p0.len : Int) + (p2.len : Int)))) 2))) (Wn.no rfl) rfl (R.move rfl) ?_
          refine LE.p (v := (Value.int .i64 (p0.len : Int))) (Wn.no rfl) rfl (R.move rfl) ?_
          obtain ⟨h67, h68, h69, h⟩ := h
          refine LE.p (v := (SV.v (SV.sub (SV.sub p0 (Int.toNat (0 : Int)) (Int.toNat (IntKind.i64.wrap ((p0.len : Int) + (p2.len : Int)))) 2) (Int.toNat (p0.len : Int)) (Int.toNat ((SV.sub p0 (Int.toNat (0 : Int)) (Int.toNat (IntKind.i64.wrap ((p0.len : Int) + (p2.len : Int)))) 2).len : Int)) 2))) (Wn.no rfl) rfl (R.slc (s := (SV.sub p0 (Int.toNat (0 : Int)) (Int.toNat (IntKind.i64.wrap ((p0.len : Int) + (p2.len : Int)))) 2)) (lo := (p0.len : Int)) (hi := ((SV.sub p0 (Int.toNat (0 : Int)) (Int.toNat (IntKind.i64.wrap ((p0.len : Int) + (p2.len : Int)))) 2).len : Int)) _ _ sl24 rfl rfl rfl h67 h68 h69) ?_
          refine LE.p (v := (SV.v p2)) (Wn.no rfl) rfl (R.move rfl) ?_
          obtain ⟨n71, w72, h73, h⟩ := h
          refine LE.r (v := (Value.int .i64 n71)) (Wn.no rfl) rfl (R.cpy (s := (SV.sub (SV.sub p0 (Int.toNat (0 : Int)) (Int.toNat (IntKind.i64.wrap ((p0.len : Int) + (p2.len : Int)))) 2) (Int.toNat (p0.len : Int)) (Int.toNat ((SV.sub p0 (Int.toNat (0 : Int)) (Int.toNat (IntKind.i64.wrap ((p0.len : Int) + (p2.len : Int)))) 2).len : Int)) 2)) (r := p2) rfl rfl h73) ?_
          refine LE.nil ?_
          refine WE.seq ?_
          refine WE.reg ?_
          refine LE.p (v := (SV.v (SV.sub p0 (Int.toNat (0 : Int)) (Int.toNat (IntKind.i64.wrap ((p0.len : Int) + (p2.len : Int)))) 2))) (Wn.no rfl) rfl (R.move rfl) ?_
          refine LE.p (v := (Value.int .i64 p1)) (Wn.no rfl) rfl (R.move rfl) ?_
          obtain ⟨h74, h75, h76, h⟩ := h
          refine LE.p (v := (SV.v (SV.sub (SV.sub p0 (Int.toNat (0 : Int)) (Int.toNat (IntKind.i64.wrap ((p0.len : Int) + (p2.len : Int)))) 2) (Int.toNat p1) (Int.toNat ((SV.sub p0 (Int.toNat (0 : Int)) (Int.toNat (IntKind.i64.wrap ((p0.len : Int) + (p2.len : Int)))) 2).len : Int)) 2))) (Wn.no rfl) rfl (R.slc (s := (SV.sub p0 (Int.toNat (0 : Int)) (Int.toNat (IntKind.i64.wrap ((p0.len : Int) + (p2.len : Int)))) 2)) (lo := p1) (hi := ((SV.sub p0 (Int.toNat (0 : Int)) (Int.toNat (IntKind.i64.wrap ((p0.len : Int) + (p2.len : Int)))) 2).len : Int)) _ _ sl24 rfl rfl rfl h74 h75 h76) ?_
          refine LE.p (v := (Value.int .i64 (p2.len : Int))) (Wn.no rfl) rfl (R.move rfl) ?_
          refine LE.c (Wn.no rfl) rfl (R.call bd53 (Ls.cons rfl (Ls.cons rfl Ls.nil)) rfl) (Calls.mono h ?_)
          rintro _ w78 ⟨rfl, h⟩
          refine ⟨_, rfl, ?_⟩
          refine LE.nil ?_
          refine WE.seq ?_
          refine WE.reg ?_
          refine LE.p (v := (SV.v (SV.sub p0 (Int.toNat (0 : Int)) (Int.toNat (IntKind.i64.wrap ((p0.len : Int) + (p2.len : Int)))) 2))) (Wn.no rfl) rfl (R.move rfl) ?_
          refine LE.p (v := (SV.v (SV.sub p0 (Int.toNat (0 : Int)) (Int.toNat (IntKind.i64.wrap ((p0.len : Int) + (p2.len : Int)))) 2))) (Wn.no rfl) rfl (R.assign rfl) ?_
          refine LE.nil ?_
          refine WE.ret ?_
          exact ⟨_, (Res.tmp rfl Res.nil), _, rfl, h⟩
/-- The formula of signpost.aspath.right. -/
def F30 (p0_0 : Int) (p0_1 : SV) (K : Bool → World → Prop) (w0 : World) : Prop :=
M.new (.cells #[(Value.int .i64 p0_0), (SV.v p0_1)] 27) w0 fun b2 w1 =>
M.join (fun (x4 : Bool) (w22 : World) => 
K x4 w22) fun J3 => 
M.ld (Value.int .i64) b2 w1 fun t5 =>
M.ite (t5 == (1 : Int)) (
M.ld SV.v (b2.add 1) w1 fun t8 =>
M.ite (decide ((1 : Int) ≤ (t8.len : Int))) (
M.ld SV.v (b2.add 1) w1 fun t11 =>
J3 (decide ((t11.len : Int) ≤ (255 : Int))) w1) (
J3 false w1)) (
M.ld (Value.int .i64) b2 w1 fun t13 =>
M.ite (t13 == (2 : Int)) (
M.ld SV.v (b2.add 1) w1 fun t16 =>
M.ite (decide ((1 : Int) ≤ (t16.len : Int))) (
M.ld SV.v (b2.add 1) w1 fun t19 =>
J3 (decide ((t19.len : Int) ≤ (255 : Int))) w1) (
J3 false w1)) (
J3 false w1))
theorem F30_ok {w0 : World} {p0_0 : Int} {p0_1 : SV} {K : Bool → World → Prop} (h : F30 p0_0 p0_1 K w0) : Calls Try.prog 30 #[(Value.agg #[(Value.int .i64 p0_0), (SV.v p0_1)])] w0 (R30 K) := by
  refine calls_of_WE (args := [(Value.agg #[(Value.int .i64 p0_0), (SV.v p0_1)])]) (rs := [.tmp 2]) Try.func30 rfl (N := 23) rfl rfl rfl rfl ?_
  refine WE.seq ?_
  refine WE.reg ?_
  obtain ⟨b2, hpb2, w1, hww1, h⟩ := M.new_use h
  refine LE.r (v := (Value.pointer (some b2))) (Wn.no rfl) rfl (R.box (cs := #[(Value.int .i64 p0_0), (SV.v p0_1)]) rfl rfl hpb2 hww1) ?_
  refine LE.p (v := (Value.bool false)) (Wn.no rfl) rfl (R.assign rfl) ?_
  refine LE.nil ?_
  refine WE.seq ?_
  obtain ⟨J3, hJ3, h⟩ := M.join_use h
  refine WE.regJ (fun e w => ∃ (x4 : Bool), J3 x4 w ∧ e 2 = (Value.bool x4)) ?_ ?_
  · clear hJ3
    refine LE.p (v := (Value.pointer (some b2))) (Wn.no rfl) rfl (R.fld (off := 0) fa27_0 rfl) ?_
    obtain ⟨t5, h6, h⟩ := h
    refine LE.r (v := (Value.int .i64 t5)) (Wn.no rfl) rfl (R.ld sc3 rfl h6) ?_
    refine LE.p (v := (Value.bool (t5 == (1 : Int)))) (Wn.no rfl) rfl (R.eql rfl rfl) ?_
    refine LE.p (v := (Value.bool (t5 == (1 : Int)))) (Wn.no rfl) rfl (R.move rfl) ?_
    rcases M.ite_use h with ⟨hb7, h⟩ | ⟨hb7, h⟩
    · refine LE.u (Un.no 3 6 false rfl rfl rfl (congrArg Value.bool hb7)) ?_
      refine LE.u (Un.no 3 6 false rfl rfl rfl (congrArg Value.bool hb7)) ?_
      refine LE.u (Un.no 3 6 false rfl rfl rfl (congrArg Value.bool hb7)) ?_
      refine LE.p (v := (Value.bool true)) (Wn.no rfl) rfl (R.pickT (congrArg Value.bool hb7) rfl) ?_
      refine LE.p (v := (Value.bool true)) (Wn.no rfl) rfl (R.move rfl) ?_
      refine LE.p (v := (Value.pointer (some (b2.add 1)))) (Wn.yes 8 11 true rfl rfl rfl rfl) rfl (R.fld (off := 1) fa27_1 rfl) ?_
      obtain ⟨t8, h9, h⟩ := h
      refine LE.r (v := (SV.v t8)) (Wn.yes 8 11 true rfl rfl rfl rfl) rfl (R.ld sc25 rfl h9) ?_
      refine LE.p (v := (Value.int .i64 (t8.len : Int))) (Wn.yes 8 11 true rfl rfl rfl rfl) rfl (R.len sl25 rfl) ?_
      refine LE.p (v := (Value.bool (decide ((1 : Int) ≤ (t8.len : Int))))) (Wn.yes 8 11 true rfl rfl rfl rfl) rfl (R.geq rfl rfl) ?_
      refine LE.p (v := (Value.bool (decide ((1 : Int) ≤ (t8.len : Int))))) (Wn.no rfl) rfl (R.pickT rfl rfl) ?_
      refine LE.p (v := (Value.bool (decide ((1 : Int) ≤ (t8.len : Int))))) (Wn.no rfl) rfl (R.move rfl) ?_
      rcases M.ite_use h with ⟨hb10, h⟩ | ⟨hb10, h⟩
      · refine LE.p (v := (Value.pointer (some (b2.add 1)))) (Wn.yes 14 17 true rfl rfl rfl (congrArg Value.bool hb10)) rfl (R.fld (off := 1) fa27_1 rfl) ?_
        obtain ⟨t11, h12, h⟩ := h
        refine LE.r (v := (SV.v t11)) (Wn.yes 14 17 true rfl rfl rfl (congrArg Value.bool hb10)) rfl (R.ld sc25 rfl h12) ?_
        refine LE.p (v := (Value.int .i64 (t11.len : Int))) (Wn.yes 14 17 true rfl rfl rfl (congrArg Value.bool hb10)) rfl (R.len sl25 rfl) ?_
        refine LE.p (v := (Value.bool (decide ((t11.len : Int) ≤ (255 : Int))))) (Wn.yes 14 17 true rfl rfl rfl (congrArg Value.bool hb10)) rfl (R.leq rfl rfl) ?_
        refine LE.p (v := (Value.bool (decide ((t11.len : Int) ≤ (255 : Int))))) (Wn.no rfl) rfl (R.pickT (congrArg Value.bool hb10) rfl) ?_
        refine LE.p (v := (Value.bool (decide ((t11.len : Int) ≤ (255 : Int))))) (Wn.no rfl) rfl (R.assign rfl) ?_
        refine LE.nil ?_
        exact ⟨_, h, rfl⟩
      · refine LE.u (Un.no 14 17 true rfl rfl rfl (congrArg Value.bool hb10)) ?_
        refine LE.u (Un.no 14 17 true rfl rfl rfl (congrArg Value.bool hb10)) ?_
        refine LE.u (Un.no 14 17 true rfl rfl rfl (congrArg Value.bool hb10)) ?_
        refine LE.u (Un.no 14 17 true rfl rfl rfl (congrArg Value.bool hb10)) ?_
        refine LE.p (v := (Value.bool false)) (Wn.no rfl) rfl (R.pickF (congrArg Value.bool hb10) rfl) ?_
        refine LE.p (v := (Value.bool false)) (Wn.no rfl) rfl (R.assign rfl) ?_
        refine LE.nil ?_
        exact ⟨_, h, rfl⟩
    · refine LE.p (v := (Value.pointer (some b2))) (Wn.yes 3 6 false rfl rfl rfl (congrArg Value.bool hb7)) rfl (R.fld (off := 0) fa27_0 rfl) ?_
      obtain ⟨t13, h14, h⟩ := h
      refine LE.r (v := (Value.int .i64 t13)) (Wn.yes 3 6 false rfl rfl rfl (congrArg Value.bool hb7)) rfl (R.ld sc3 rfl h14) ?_
      refine LE.p (v := (Value.bool (t13 == (2 : Int)))) (Wn.yes 3 6 false rfl rfl rfl (congrArg Value.bool hb7)) rfl (R.eql rfl rfl) ?_
      refine LE.p (v := (Value.bool (t13 == (2 : Int)))) (Wn.no rfl) rfl (R.pickF (congrArg Value.bool hb7) rfl) ?_
      refine LE.p (v := (Value.bool (t13 == (2 : Int)))) (Wn.no rfl) rfl (R.move rfl) ?_
      rcases M.ite_use h with ⟨hb15, h⟩ | ⟨hb15, h⟩
      · refine LE.p (v := (Value.pointer (some (b2.add 1)))) (Wn.yes 8 11 true rfl rfl rfl (congrArg Value.bool hb15)) rfl (R.fld (off := 1) fa27_1 rfl) ?_
        obtain ⟨t16, h17, h⟩ := h
        refine LE.r (v := (SV.v t16)) (Wn.yes 8 11 true rfl rfl rfl (congrArg Value.bool hb15)) rfl (R.ld sc25 rfl h17) ?_
        refine LE.p (v := (Value.int .i64 (t16.len : Int))) (Wn.yes 8 11 true rfl rfl rfl (congrArg Value.bool hb15)) rfl (R.len sl25 rfl) ?_
        refine LE.p (v := (Value.bool (decide ((1 : Int) ≤ (t16.len : Int))))) (Wn.yes 8 11 true rfl rfl rfl (congrArg Value.bool hb15)) rfl (R.geq rfl rfl) ?_
        refine LE.p (v := (Value.bool (decide ((1 : Int) ≤ (t16.len : Int))))) (Wn.no rfl) rfl (R.pickT (congrArg Value.bool hb15) rfl) ?_
        refine LE.p (v := (Value.bool (decide ((1 : Int) ≤ (t16.len : Int))))) (Wn.no rfl) rfl (R.move rfl) ?_
        rcases M.ite_use h with ⟨hb18, h⟩ | ⟨hb18, h⟩
        · refine LE.p (v := (Value.pointer (some (b2.add 1)))) (Wn.yes 14 17 true rfl rfl rfl (congrArg Value.bool hb18)) rfl (R.fld (off := 1) fa27_1 rfl) ?_
          obtain ⟨t19, h20, h⟩ := h
          refine LE.r (v := (SV.v t19)) (Wn.yes 14 17 true rfl rfl rfl (congrArg Value.bool hb18)) rfl (R.ld sc25 rfl h20) ?_
          refine LE.p (v := (Value.int .i64 (t19.len : Int))) (Wn.yes 14 17 true rfl rfl rfl (congrArg Value.bool hb18)) rfl (R.len sl25 rfl) ?_
          refine LE.p (v := (Value.bool (decide ((t19.len : Int) ≤ (255 : Int))))) (Wn.yes 14 17 true rfl rfl rfl (congrArg Value.bool hb18)) rfl (R.leq rfl rfl) ?_
          refine LE.p (v := (Value.bool (decide ((t19.len : Int) ≤ (255 : Int))))) (Wn.no rfl) rfl (R.pickT (congrArg Value.bool hb18) rfl) ?_
          refine LE.p (v := (Value.bool (decide ((t19.len : Int) ≤ (255 : Int))))) (Wn.no rfl) rfl (R.assign rfl) ?_
          refine LE.nil ?_
          exact ⟨_, h, rfl⟩
        · refine LE.u (Un.no 14 17 true rfl rfl rfl (congrArg Value.bool hb18)) ?_
          refine LE.u (Un.no 14 17 true rfl rfl rfl (congrArg Value.bool hb18)) ?_
          refine LE.u (Un.no 14 17 true rfl rfl rfl (congrArg Value.bool hb18)) ?_
          refine LE.u (Un.no 14 17 true rfl rfl rfl (congrArg Value.bool hb18)) ?_
          refine LE.p (v := (Value.bool false)) (Wn.no rfl) rfl (R.pickF (congrArg Value.bool hb18) rfl) ?_
          refine LE.p (v := (Value.bool false)) (Wn.no rfl) rfl (R.assign rfl) ?_
          refine LE.nil ?_
          exact ⟨_, h, rfl⟩
      · refine LE.u (Un.no 8 11 true rfl rfl rfl (congrArg Value.bool hb15)) ?_
        refine LE.u (Un.no 8 11 true rfl rfl rfl (congrArg Value.bool hb15)) ?_
        refine LE.u (Un.no 8 11 true rfl rfl rfl (congrArg Value.bool hb15)) ?_
        refine LE.u (Un.no 8 11 true rfl rfl rfl (congrArg Value.bool hb15)) ?_
        refine LE.p (v := (Value.bool false)) (Wn.no rfl) rfl (R.pickF (congrArg Value.bool hb15) rfl) ?_
        refine LE.p (v := (Value.bool false)) (Wn.no rfl) rfl (R.move rfl) ?_
        refine LE.u (Un.no 14 17 true rfl rfl rfl rfl) ?_
        refine LE.u (Un.no 14 17 true rfl rfl rfl rfl) ?_
        refine LE.u (Un.no 14 17 true rfl rfl rfl rfl) ?_
        refine LE.u (Un.no 14 17 true rfl rfl rfl rfl) ?_
        refine LE.p (v := (Value.bool false)) (Wn.no rfl) rfl (R.pickF rfl rfl) ?_
        refine LE.p (v := (Value.bool false)) (Wn.no rfl) rfl (R.assign rfl) ?_
        refine LE.nil ?_
        exact ⟨_, h, rfl⟩
  · rintro e21 w22 ⟨x4, h, f23⟩
    subst hJ3
    refine WE.ret ?_
    exact ⟨_, (Res.tmp f23 Res.nil), _, rfl, h⟩
/-- The formula of signpost.aspath.Cmp. -/
def F31 (p0 : SV) (p1 : SV) (K : Int → World → Prop) (w0 : World) : Prop :=
Calls Try.prog 54 #[(SV.v p0), (SV.v p1), (FV.v (FV.mk 55 []))] w0 (R54 fun r1 w2 =>
K r1 w2)
theorem F31_ok {w0 : World} {p0 : SV} {p1 : SV} {K : Int → World → Prop} (h : F31 p0 p1 K w0) : Calls Try.prog 31 #[(SV.v p0), (SV.v p1)] w0 (R31 K) := by
  refine calls_of_WE (args := [(SV.v p0), (SV.v p1)]) (rs := [.tmp 4]) Try.func31 rfl (N := 8) rfl rfl rfl rfl ?_
  refine WE.seq ?_
  refine WE.reg ?_
  refine LE.p (v := (Value.int .i64 (0 : Int))) (Wn.no rfl) rfl (R.assign rfl) ?_
  refine LE.nil ?_
  refine WE.seq ?_
  refine WE.reg ?_
  refine LE.p (v := (SV.v p0)) (Wn.no rfl) rfl (R.move rfl) ?_
  refine LE.p (v := (SV.v p1)) (Wn.no rfl) rfl (R.move rfl) ?_
  refine LE.c (Wn.no rfl) rfl (R.call bd54 (Ls.cons rfl (Ls.cons rfl (Ls.cons rfl Ls.nil))) rfl) (Calls.mono h ?_)
  rintro _ w2 ⟨r1, rfl, h⟩
  refine ⟨_, rfl, ?_⟩
  refine LE.p (v := (Value.int .i64 r1)) (Wn.no rfl) rfl (R.assign rfl) ?_
  refine LE.nil ?_
  refine WE.ret ?_
  exact ⟨_, (Res.tmp rfl Res.nil), _, rfl, h⟩
/-- The formula of signpost.wire.NewWriter. -/
def F32  (K : Option Addr → World → Prop) (w0 : World) : Prop :=
M.new (.cells #[(SV.v SV.nil)] 74) w0 fun b2 w1 =>
K (some b2) w1
theorem F32_ok {w0 : World}  {K : Option Addr → World → Prop} (h : F32 K w0) : Calls Try.prog 32 #[] w0 (R32 K) := by
  refine calls_of_WE (args := []) (rs := [.tmp 0]) Try.func32 rfl (N := 3) rfl rfl rfl rfl ?_
  refine WE.seq ?_
  refine WE.reg ?_
  refine LE.p (v := (Value.pointer (none : Option Addr))) (Wn.no rfl) rfl (R.assign rfl) ?_
  refine LE.nil ?_
  refine WE.seq ?_
  refine WE.reg ?_
  refine LE.p (v := (Value.agg #[(SV.v SV.nil)])) (Wn.no rfl) rfl (R.bld (by exact Ls.nil) (fun w => bu74_  w)) ?_
  obtain ⟨b2, hpb2, w1, hww1, h⟩ := M.new_use h
  refine LE.r (v := (Value.pointer (some b2))) (Wn.no rfl) rfl (R.box (cs := #[(SV.v SV.nil)]) rfl rfl hpb2 hww1) ?_
  refine LE.p (v := (Value.pointer (some b2))) (Wn.no rfl) rfl (R.assign rfl) ?_
  refine LE.nil ?_
  refine WE.ret ?_
  exact ⟨_, (Res.tmp rfl Res.nil), _, rfl, h⟩
/-- The formula of (*signpost.wire.Writer).U8. -/
def F33 (p0 : Option Addr) (p1 : Int) (K : World → Prop) (w0 : World) : Prop :=
Calls Try.prog 56 #[(Value.pointer p0), (Value.int .u64 (IntKind.u64.wrap p1)), (Value.int .i64 (1 : Int))] w0 (R56 fun w1 =>
K w1)
theorem F33_ok {w0 : World} {p0 : Option Addr} {p1 : Int} {K : World → Prop} (h : F33 p0 p1 K w0) : Calls Try.prog 33 #[(Value.pointer p0), (Value.int .i64 p1)] w0 (R33 K) := by
  refine calls_of_WE (args := [(Value.pointer p0), (Value.int .i64 p1)]) (rs := []) Try.func33 rfl (N := 8) rfl rfl rfl rfl ?_
  refine WE.reg ?_
  refine LE.p (v := (Value.pointer p0)) (Wn.no rfl) rfl (R.move rfl) ?_
  refine LE.p (v := (Value.int .i64 p1)) (Wn.no rfl) rfl (R.move rfl) ?_
  refine LE.p (v := (Value.int .u64 (IntKind.u64.wrap p1))) (Wn.no rfl) rfl (R.conv in76 in3 rfl) ?_
  refine LE.c (Wn.no rfl) rfl (R.call bd56 (Ls.cons rfl (Ls.cons rfl (Ls.cons rfl Ls.nil))) rfl) (Calls.mono h ?_)
  rintro _ w1 ⟨rfl, h⟩
  refine ⟨_, rfl, ?_⟩
  refine LE.nil ?_
  exact ⟨_,  Res.nil, rfl, h⟩
/-- The formula of (*signpost.wire.Writer).U32. -/
def F34 (p0 : Option Addr) (p1 : Int) (K : World → Prop) (w0 : World) : Prop :=
Calls Try.prog 56 #[(Value.pointer p0), (Value.int .u64 (IntKind.u64.wrap p1)), (Value.int .i64 (4 : Int))] w0 (R56 fun w1 =>
K w1)
theorem F34_ok {w0 : World} {p0 : Option Addr} {p1 : Int} {K : World → Prop} (h : F34 p0 p1 K w0) : Calls Try.prog 34 #[(Value.pointer p0), (Value.int .u32 p1)] w0 (R34 K) := by
  refine calls_of_WE (args := [(Value.pointer p0), (Value.int .u32 p1)]) (rs := []) Try.func34 rfl (N := 8) rfl rfl rfl rfl ?_
  refine WE.reg ?_
  refine LE.p (v := (Value.pointer p0)) (Wn.no rfl) rfl (R.move rfl) ?_
  refine LE.p (v := (Value.int .u32 p1)) (Wn.no rfl) rfl (R.move rfl) ?_
  refine LE.p (v := (Value.int .u64 (IntKind.u64.wrap p1))) (Wn.no rfl) rfl (R.conv in76 in23 rfl) ?_
  refine LE.c (Wn.no rfl) rfl (R.call bd56 (Ls.cons rfl (Ls.cons rfl (Ls.cons rfl Ls.nil))) rfl) (Calls.mono h ?_)
  rintro _ w1 ⟨rfl, h⟩
  refine ⟨_, rfl, ?_⟩
  refine LE.nil ?_
  exact ⟨_,  Res.nil, rfl, h⟩
/-- The formula of (*signpost.wire.Writer).Done. -/
def F35 (p0 : Option Addr) (K : SV → World → Prop) (w0 : World) : Prop :=
M.nil p0 fun a1 =>
M.ld SV.v a1 w0 fun t3 =>
Calls Try.prog 57 #[(SV.v t3)] w0 (R57 fun r5 w6 =>
K r5 w6)
theorem F35_ok {w0 : World} {p0 : Option Addr} {K : SV → World → Prop} (h : F35 p0 K w0) : Calls Try.prog 35 #[(Value.pointer p0)] w0 (R35 K) := by
  refine calls_of_WE (args := [(Value.pointer p0)]) (rs := [.tmp 2]) Try.func35 rfl (N := 8) rfl rfl rfl rfl ?_
  refine WE.seq ?_
  refine WE.reg ?_
  refine LE.p (v := (SV.v SV.nil)) (Wn.no rfl) rfl (R.assign rfl) ?_
  refine LE.nil ?_
  refine WE.seq ?_
  refine WE.reg ?_
  refine LE.p (v := (Value.pointer p0)) (Wn.no rfl) rfl (R.move rfl) ?_
  obtain ⟨a1, h2, h⟩ := h
  refine LE.p (v := (Value.pointer (some a1))) (Wn.no rfl) rfl (R.nilC (congrArg Value.pointer h2)) ?_
  refine LE.p (v := (Value.pointer (some a1))) (Wn.no rfl) rfl (R.fld (off := 0) fa74_0 rfl) ?_
  obtain ⟨t3, h4, h⟩ := h
  refine LE.r (v := (SV.v t3)) (Wn.no rfl) rfl (R.ld sc40 rfl h4) ?_
  refine LE.c (Wn.no rfl) rfl (R.call bd57 (Ls.cons rfl Ls.nil) rfl) (Calls.mono h ?_)
  rintro _ w6 ⟨r5, rfl, h⟩
  refine ⟨_, rfl, ?_⟩
  refine LE.p (v := (SV.v r5)) (Wn.no rfl) rfl (R.assign rfl) ?_
  refine LE.nil ?_
  refine WE.ret ?_
  exact ⟨_, (Res.tmp rfl Res.nil), _, rfl, h⟩
/-- The formula of signpost.wire.NewReader. -/
def F36 (p0 : SV) (K : Option Addr → World → Prop) (w0 : World) : Prop :=
Calls Try.prog 57 #[(SV.v p0)] w0 (R57 fun r1 w2 =>
M.new (.cells #[(SV.v r1), (Value.bool false)] 79) w2 fun b4 w3 =>
K (some b4) w3)
theorem F36_ok {w0 : World} {p0 : SV} {K : Option Addr → World → Prop} (h : F36 p0 K w0) : Calls Try.prog 36 #[(SV.v p0)] w0 (R36 K) := by
  refine calls_of_WE (args := [(SV.v p0)]) (rs := [.tmp 2]) Try.func36 rfl (N := 7) rfl rfl rfl rfl ?_
  refine WE.seq ?_
  refine WE.reg ?_
  refine LE.p (v := (Value.pointer (none : Option Addr))) (Wn.no rfl) rfl (R.assign rfl) ?_
  refine LE.nil ?_
  refine WE.seq ?_
  refine WE.reg ?_
  refine LE.p (v := (SV.v p0)) (Wn.no rfl) rfl (R.move rfl) ?_
  refine LE.c (Wn.no rfl) rfl (R.call bd57 (Ls.cons rfl Ls.nil) rfl) (Calls.mono h ?_)
  rintro _ w2 ⟨r1, rfl, h⟩
  refine ⟨_, rfl, ?_⟩
  refine LE.p (v := (Value.agg #[(SV.v r1), (Value.bool false)])) (Wn.no rfl) rfl (R.bld (by exact (Ls.cons (R.Pr rfl) Ls.nil)) (fun w => bu79_0 r1 w)) ?_
  obtain ⟨b4, hpb4, w3, hww3, h⟩ := M.new_use h
  refine LE.r (v := (Value.pointer (some b4))) (Wn.no rfl) rfl (R.box (cs := #[(SV.v r1), (Value.bool false)]) rfl rfl hpb4 hww3) ?_
  refine LE.p (v := (Value.pointer (some b4))) (Wn.no rfl) rfl (R.assign rfl) ?_
  refine LE.nil ?_
  refine WE.ret ?_
  exact ⟨_, (Res.tmp rfl Res.nil), _, rfl, h⟩
/-- The formula of (*signpost.wire.Reader).Left. -/
def F37 (p0 : Option Addr) (K : Int → World → Prop) (w0 : World) : Prop :=
M.nil p0 fun a1 =>
M.ld Value.bool (a1.add 1) w0 fun t3 =>
M.ite t3 (
K (0 : Int) w0) (
M.nil p0 fun a6 =>
M.ld SV.v a6 w0 fun t8 =>
K (t8.len : Int) w0)
theorem F37_ok {w0 : World} {p0 : Option Addr} {K : Int → World → Prop} (h : F37 p0 K w0) : Calls Try.prog 37 #[(Value.pointer p0)] w0 (R37 K) := by
  refine calls_of_WE (args := [(Value.pointer p0)]) (rs := [.tmp 2]) Try.func37 rfl (N := 12) rfl rfl rfl rfl ?_
  refine WE.seq ?_
  refine WE.reg ?_
  refine LE.p (v := (Value.int .i64 (0 : Int))) (Wn.no rfl) rfl (R.assign rfl) ?_
  refine LE.nil ?_
  refine WE.seq ?_
  refine WE.seq ?_
  refine WE.reg ?_
  refine LE.p (v := (Value.pointer p0)) (Wn.no rfl) rfl (R.move rfl) ?_
  obtain ⟨a1, h2, h⟩ := h
  refine LE.p (v := (Value.pointer (some a1))) (Wn.no rfl) rfl (R.nilC (congrArg Value.pointer h2)) ?_
  refine LE.p (v := (Value.pointer (some (a1.add 1)))) (Wn.no rfl) rfl (R.fld (off := 1) fa79_1 rfl) ?_
  obtain ⟨t3, h4, h⟩ := h
  refine LE.r (v := (Value.bool t3)) (Wn.no rfl) rfl (R.ld sc4 rfl h4) ?_
  refine LE.nil ?_
  refine WE.condT rfl (b := t3) rfl ?_ ?_
  · intro hb5
    replace h := M.ite_t h hb5
    refine WE.seq ?_
    refine WE.reg ?_
    refine LE.p (v := (Value.int .i64 (0 : Int))) (Wn.no rfl) rfl (R.assign rfl) ?_
    refine LE.nil ?_
    refine WE.ret ?_
    exact ⟨_, (Res.tmp rfl Res.nil), _, rfl, h⟩
  · intro hb5
    replace h := M.ite_f h hb5
    refine WE.skip ?_
    refine WE.seq ?_
    refine WE.reg ?_
    refine LE.p (v := (Value.pointer p0)) (Wn.no rfl) rfl (R.move rfl) ?_
    obtain ⟨a6, h7, h⟩ := h
    refine LE.p (v := (Value.pointer (some a6))) (Wn.no rfl) rfl (R.nilC (congrArg Value.pointer h7)) ?_
    refine LE.p (v := (Value.pointer (some a6))) (Wn.no rfl) rfl (R.fld (off := 0) fa79_0 rfl) ?_
    obtain ⟨t8, h9, h⟩ := h
    refine LE.r (v := (SV.v t8)) (Wn.no rfl) rfl (R.ld sc40 rfl h9) ?_
    refine LE.p (v := (Value.int .i64 (t8.len : Int))) (Wn.no rfl) rfl (R.len sl40 rfl) ?_
    refine LE.p (v := (Value.int .i64 (t8.len : Int))) (Wn.no rfl) rfl (R.assign rfl) ?_
    refine LE.nil ?_
    refine WE.ret ?_
    exact ⟨_, (Res.tmp rfl Res.nil), _, rfl, h⟩
/-- The formula of (*signpost.wire.Reader).U8. -/
def F38 (p0 : Option Addr) (K : Int → World → Prop) (w0 : World) : Prop :=
Calls Try.prog 58 #[(Value.pointer p0), (Value.int .i64 (1 : Int))] w0 (R58 fun r1 w2 =>
K (IntKind.i64.wrap r1) w2)
theorem F38_ok {w0 : World} {p0 : Option Addr} {K : Int → World → Prop} (h : F38 p0 K w0) : Calls Try.prog 38 #[(Value.pointer p0)] w0 (R38 K) := by
  refine calls_of_WE (args := [(Value.pointer p0)]) (rs := [.tmp 2]) Try.func38 rfl (N := 6) rfl rfl rfl rfl ?_
  refine WE.seq ?_
  refine WE.reg ?_
  refine LE.p (v := (Value.int .i64 (0 : Int))) (Wn.no rfl) rfl (R.assign rfl) ?_
  refine LE.nil ?_
  refine WE.seq ?_
  refine WE.reg ?_
  refine LE.p (v := (Value.pointer p0)) (Wn.no rfl) rfl (R.move rfl) ?_
  refine LE.c (Wn.no rfl) rfl (R.call bd58 (Ls.cons rfl (Ls.cons rfl Ls.nil)) rfl) (Calls.mono h ?_)
  rintro _ w2 ⟨r1, rfl, h⟩
  refine ⟨_, rfl, ?_⟩
  refine LE.p (v := (Value.int .i64 (IntKind.i64.wrap r1))) (Wn.no rfl) rfl (R.conv in3 in76 rfl) ?_
  refine LE.p (v := (Value.int .i64 (IntKind.i64.wrap r1))) (Wn.no rfl) rfl (R.assign rfl) ?_
  refine LE.nil ?_
  refine WE.ret ?_
  exact ⟨_, (Res.tmp rfl Res.nil), _, rfl, h⟩
/-- The formula of (*signpost.wire.Reader).U32. -/
def F39 (p0 : Option Addr) (K : Int → World → Prop) (w0 : World) : Prop :=
Calls Try.prog 58 #[(Value.pointer p0), (Value.int .i64 (4 : Int))] w0 (R58 fun r1 w2 =>
K (IntKind.u32.wrap r1) w2)
theorem F39_ok {w0 : World} {p0 : Option Addr} {K : Int → World → Prop} (h : F39 p0 K w0) : Calls Try.prog 39 #[(Value.pointer p0)] w0 (R39 K) := by
  refine calls_of_WE (args := [(Value.pointer p0)]) (rs := [.tmp 2]) Try.func39 rfl (N := 6) rfl rfl rfl rfl ?_
  refine WE.seq ?_
  refine WE.reg ?_
  refine LE.p (v := (Value.int .u32 (0 : Int))) (Wn.no rfl) rfl (R.assign rfl) ?_
  refine LE.nil ?_
  refine WE.seq ?_
  refine WE.reg ?_
  refine LE.p (v := (Value.pointer p0)) (Wn.no rfl) rfl (R.move rfl) ?_
  refine LE.c (Wn.no rfl) rfl (R.call bd58 (Ls.cons rfl (Ls.cons rfl Ls.nil)) rfl) (Calls.mono h ?_)
  rintro _ w2 ⟨r1, rfl, h⟩
  refine ⟨_, rfl, ?_⟩
  refine LE.p (v := (Value.int .u32 (IntKind.u32.wrap r1))) (Wn.no rfl) rfl (R.conv in23 in76 rfl) ?_
  refine LE.p (v := (Value.int .u32 (IntKind.u32.wrap r1))) (Wn.no rfl) rfl (R.assign rfl) ?_
  refine LE.nil ?_
  refine WE.ret ?_
  exact ⟨_, (Res.tmp rfl Res.nil), _, rfl, h⟩
/-- The formula of (*signpost.wire.Reader).Fine. -/
def F40 (p0 : Option Addr) (K : Bool → World → Prop) (w0 : World) : Prop :=
M.nil p0 fun a1 =>
M.ld Value.bool (a1.add 1) w0 fun t3 =>
K (!t3) w0
theorem F40_ok {w0 : World} {p0 : Option Addr} {K : Bool → World → Prop} (h : F40 p0 K w0) : Calls Try.prog 40 #[(Value.pointer p0)] w0 (R40 K) := by
  refine calls_of_WE (args := [(Value.pointer p0)]) (rs := [.tmp 2]) Try.func40 rfl (N := 8) rfl rfl rfl rfl ?_
  refine WE.seq ?_
  refine WE.reg ?_
  refine LE.p (v := (Value.bool false)) (Wn.no rfl) rfl (R.assign rfl) ?_
  refine LE.nil ?_
  refine WE.seq ?_
  refine WE.reg ?_
  refine LE.p (v := (Value.pointer p0)) (Wn.no rfl) rfl (R.move rfl) ?_
  obtain ⟨a1, h2, h⟩ := h
  refine LE.p (v := (Value.pointer (some a1))) (Wn.no rfl) rfl (R.nilC (congrArg Value.pointer h2)) ?_
  refine LE.p (v := (Value.pointer (some (a1.add 1)))) (Wn.no rfl) rfl (R.fld (off := 1) fa79_1 rfl) ?_
  obtain ⟨t3, h4, h⟩ := h
  refine LE.r (v := (Value.bool t3)) (Wn.no rfl) rfl (R.ld sc4 rfl h4) ?_
  refine LE.p (v := (Value.bool (!t3))) (Wn.no rfl) rfl (R.not rfl) ?_
  refine LE.p (v := (Value.bool (!t3))) (Wn.no rfl) rfl (R.assign rfl) ?_
  refine LE.nil ?_
  refine WE.ret ?_
  exact ⟨_, (Res.tmp rfl Res.nil), _, rfl, h⟩
/-- The formula of signpost.signpostref6.Order. -/
def F41 (p0 : SV) (p1 : SV) (K : Int → World → Prop) (w0 : World) : Prop :=
M.loop1 (fun (J2 : Int → World → Prop) (x1 : Int) (w3 : World) => 
M.join (fun (x14 : Bool) (w17 : World) => 
M.ite x14 (
M.drew w17 fun w23 => 
M.idx p0 x1 2 fun a24 =>
M.idx p1 x1 2 fun a28 =>
M.ld (Value.int .i64) (a24.add (x1.toNat * 2)) w23 fun t32 =>
M.ld (Value.int .i64) (a28.add (x1.toNat * 2)) w23 fun t34 =>
M.ite (t32 != t34) (
M.drew w23 fun w37 => 
M.idx p0 x1 2 fun a38 =>
M.idx p1 x1 2 fun a42 =>
M.ld (Value.int .i64) (a38.add (x1.toNat * 2)) w37 fun t46 =>
M.ld (Value.int .i64) (a42.add (x1.toNat * 2)) w37 fun t48 =>
Calls Try.prog 59 #[(Value.bool (decide (t46 < t48)))] w37 (R59 fun r50 w51 =>
K r50 w51)) (
M.drew w23 fun w52 => 
M.idx p0 x1 2 fun a53 =>
M.idx p1 x1 2 fun a57 =>
M.ld SV.v ((a53.add (x1.toNat * 2)).add 1) w52 fun t61 =>
M.ld SV.v ((a57.add (x1.toNat * 2)).add 1) w52 fun t63 =>
M.ite ((t61.len : Int) != (t63.len : Int)) (
M.drew w52 fun w66 => 
M.idx p0 x1 2 fun a67 =>
M.idx p1 x1 2 fun a71 =>
M.ld SV.v ((a67.add (x1.toNat * 2)).add 1) w66 fun t75 =>
M.ld SV.v ((a71.add (x1.toNat * 2)).add 1) w66 fun t77 =>
Calls Try.prog 59 #[(Value.bool (decide ((t75.len : Int) < (t77.len : Int))))] w66 (R59 fun r79 w80 =>
K r79 w80)) (
M.loop1 (fun (J82 : Int → World → Prop) (x81 : Int) (w83 : World) => 
M.idx p0 x1 2 fun a94 =>
M.ld SV.v ((a94.add (x1.toNat * 2)).add 1) w83 fun t98 =>
M.ite (decide (x81 < (t98.len : Int))) (
M.drew w83 fun w101 => 
M.idx p0 x1 2 fun a102 =>
M.idx p1 x1 2 fun a106 =>
M.ld SV.v ((a102.add (x1.toNat * 2)).add 1) w101 fun t110 =>
M.idx t110 x81 1 fun a112 =>
M.ld (Value.int .u32) (a112.add (x81.toNat * 1)) w101 fun t116 =>
M.ld SV.v ((a106.add (x1.toNat * 2)).add 1) w101 fun t118 =>
M.idx t118 x81 1 fun a120 =>
M.ld (Value.int .u32) (a120.add (x81.toNat * 1)) w101 fun t124 =>
M.ite (t116 != t124) (
M.drew w101 fun w127 => 
M.idx p0 x1 2 fun a128 =>
M.idx p1 x1 2 fun a132 =>
M.ld SV.v ((a128.add (x1.toNat * 2)).add 1) w127 fun t136 =>
M.idx t136 x81 1 fun a138 =>
M.ld (Value.int .u32) (a138.add (x81.toNat * 1)) w127 fun t142 =>
M.ld SV.v ((a132.add (x1.toNat * 2)).add 1) w127 fun t144 =>
M.idx t144 x81 1 fun a146 =>
M.ld (Value.int .u32) (a146.add (x81.toNat * 1)) w127 fun t150 =>
Calls Try.prog 59 #[(Value.bool (decide (t142 < t150)))] w127 (R59 fun r152 w153 =>
K r152 w153)) (
J82 (IntKind.i64.wrap (x81 + (1 : Int))) w101)) (
J2 (IntKind.i64.wrap (x1 + (1 : Int))) w83)) (0 : Int) w52))) (
M.ite ((p0.len : Int) != (p1.len : Int)) (
Calls Try.prog 59 #[(Value.bool (decide ((p0.len : Int) < (p1.len : Int))))] w17 (R59 fun r155 w156 =>
K r155 w156)) (
K (0 : Int) w17))) fun J13 => 
M.ite (decide (x1 < (p0.len : Int))) (
J13 (decide (x1 < (p1.len : Int))) w3) (
J13 false w3)) (0 : Int) w0
theorem F41_ok {w0 : World} {p0 : SV} {p1 : SV} {K : Int → World → Prop} (h : F41 p0 p1 K w0) : Calls Try.prog 41 #[(SV.v p0), (SV.v p1)] w0 (R41 K) := by
  refine calls_of_WE (args := [(SV.v p0), (SV.v p1)]) (rs := [.tmp 4]) Try.func41 rfl (N := 125) rfl rfl rfl rfl ?_
  refine WE.seq ?_
  refine WE.reg ?_
  refine LE.p (v := (Value.int .i64 (0 : Int))) (Wn.no rfl) rfl (R.assign rfl) ?_
  refine LE.nil ?_
  refine WE.seq ?_
  refine WE.seq ?_
  refine WE.reg ?_
  refine LE.p (v := (Value.int .i64 (0 : Int))) (Wn.no rfl) rfl (R.assign rfl) ?_
  refine LE.nil ?_
  refine WE.block ?_
  obtain ⟨I6, ⟨n5, h⟩, hr7⟩ := h
  refine WE.loop (fun n e w => ∃ (x1 : Int), I6 n x1 w ∧ e 0 = (SV.v p0) ∧ e 1 = (SV.v p1) ∧ e 5 = (Value.int .i64 x1)) n5 ⟨_, h, rfl, rfl, rfl⟩ ?_
  clear h
  rintro n5 e4 w3 ⟨x1, h, f10, f11, f12⟩
  replace h := hr7 n5 x1 w3 h
  refine WE.seq ?_
  refine WE.seq ?_
  obtain ⟨J13, hJ13, h⟩ := M.join_use h
  refine WE.regJ (fun e w => ∃ (x14 : Bool), J13 x14 w ∧ e 0 = (SV.v p0) ∧ e 1 = (SV.v p1) ∧ e 5 = (Value.int .i64 x1) ∧ e 16 = (Value.bool x14)) ?_ ?_
  · clear hJ13
    refine LE.p (v := (Value.int .i64 x1)) (Wn.no rfl) rfl (R.move f12) ?_
    refine LE.p (v := (SV.v p0)) (Wn.no rfl) rfl (R.move f10) ?_
    refine LE.p (v := (Value.int .i64 (p0.len : Int))) (Wn.no rfl) rfl (R.len sl24 rfl) ?_
    refine LE.p (v := (Value.bool (decide (x1 < (p0.len : Int))))) (Wn.no rfl) rfl (R.lss rfl rfl) ?_
    refine LE.p (v := (Value.bool (decide (x1 < (p0.len : Int))))) (Wn.no rfl) rfl (R.move rfl) ?_
    rcases M.ite_use h with ⟨hb15, h⟩ | ⟨hb15, h⟩
    · refine LE.p (v := (Value.int .i64 x1)) (Wn.yes 4 11 true rfl rfl rfl (congrArg Value.bool hb15)) rfl (R.move f12) ?_
      refine LE.p (v := (SV.v p1)) (Wn.yes 4 11 true rfl rfl rfl (congrArg Value.bool hb15)) rfl (R.move f11) ?_
      refine LE.p (v := (Value.int .i64 (p1.len : Int))) (Wn.yes 4 11 true rfl rfl rfl (congrArg Value.bool hb15)) rfl (R.len sl24 rfl) ?_
      refine LE.p (v := (Value.bool (decide (x1 < (p1.len : Int))))) (Wn.yes 4 11 true rfl rfl rfl (congrArg Value.bool hb15)) rfl (R.lss rfl rfl) ?_
      refine LE.p (v := (Value.bool (decide (x1 < (p1.len : Int))))) (Wn.no rfl) rfl (R.pickT (congrArg Value.bool hb15) rfl) ?_
      refine LE.nil ?_
      exact ⟨_, h, f10, f11, f12, rfl⟩
    · refine LE.u (Un.no 4 11 true rfl rfl rfl (congrArg Value.bool hb15)) ?_
      refine LE.u (Un.no 4 11 true rfl rfl rfl (congrArg Value.bool hb15)) ?_
      refine LE.u (Un.no 4 11 true rfl rfl rfl (congrArg Value.bool hb15)) ?_
      refine LE.u (Un.no 4 11 true rfl rfl rfl (congrArg Value.bool hb15)) ?_
      refine LE.p (v := (Value.bool false)) (Wn.no rfl) rfl (R.pickF (congrArg Value.bool hb15) rfl) ?_
      refine LE.nil ?_
      exact ⟨_, h, f10, f11, f12, rfl⟩
  · rintro e16 w17 ⟨x14, h, f18, f19, f20, f21⟩
    subst hJ13
    refine WE.condT rfl (b := x14) f21 ?_ ?_
    · intro hb22
      replace h := M.ite_t h hb22
      refine WE.skip ?_
      refine WE.seq ?_
      refine WE.block ?_
      refine WE.seq ?_
      refine WE.seq ?_
      refine WE.draw mix ?_
      obtain ⟨w23, hww23, h⟩ := M.drew_use h
      rw [← hww23]
      clear hww23
      refine DE.t 0 (v := (SV.v p0)) rfl (by kernel_rfl) (Wn.no rfl) rfl (R.move f18) ?_
      refine DE.t 1 (v := (Value.int .i64 x1)) rfl (by kernel_rfl) (Wn.no rfl) rfl (R.move f20) ?_
      obtain ⟨a24, h25, h26, h27, h⟩ := h
      refine DE.t 2 (v := (Value.pointer (some (a24.add (x1.toNat * 2))))) rfl (by kernel_rfl) (Wn.no rfl) rfl (R.idx (s := p0) sl24 rfl rfl h25 h26 h27) ?_
      refine DE.t 3 (v := (Value.pointer (some (a24.add (x1.toNat * 2))))) rfl (by kernel_rfl) (Wn.no rfl) rfl (R.fld (off := 0) fa27_0 rfl) ?_
      refine DE.t 5 (v := (SV.v p1)) rfl (by kernel_rfl) (Wn.no rfl) rfl (R.move f19) ?_
      refine DE.t 6 (v := (Value.int .i64 x1)) rfl (by kernel_rfl) (Wn.no rfl) rfl (R.move f20) ?_
      obtain ⟨a28, h29, h30, h31, h⟩ := h
      refine DE.t 7 (v := (Value.pointer (some (a28.add (x1.toNat * 2))))) rfl (by kernel_rfl) (Wn.no rfl) rfl (R.idx (s := p1) sl24 rfl rfl h29 h30 h31) ?_
      refine DE.t 8 (v := (Value.pointer (some (a28.add (x1.toNat * 2))))) rfl (by kernel_rfl) (Wn.no rfl) rfl (R.fld (off := 0) fa27_0 rfl) ?_
      obtain ⟨t32, h33, h⟩ := h
      refine DE.hold 4 (fun w => w.cell? (a24.add (x1.toNat * 2)) = some (Value.int .i64 t32)) (v := (Value.int .i64 t32)) rfl (by kernel_rfl) (Wn.no rfl) rfl h33 (fun w hs => R.ld sc3 rfl hs) ?_
      obtain ⟨t34, h35, h⟩ := h
      refine DE.main 9 (by kernel_rfl) ?_
      refine One.r 9 (v := (Value.int .i64 t34)) rfl (Wn.no rfl) rfl (R.ld sc3 rfl h35) (.inl rfl) ?_
      refine DE.t 10 (v := (Value.bool (t32 != t34))) rfl (by kernel_rfl) (Wn.no rfl) rfl (R.neq rfl rfl) ?_
      refine DE.done (by kernel_rfl) ?_
      refine WE.condT rfl (b := (t32 != t34)) rfl ?_ ?_
      · intro hb36
        replace h := M.ite_t h hb36
        refine WE.seq ?_
        refine WE.draw mix ?_
        obtain ⟨w37, hww37, h⟩ := M.drew_use h
        rw [← hww37]
        clear hww37
        refine DE.t 0 (v := (SV.v p0)) rfl (by kernel_rfl) (Wn.no rfl) rfl (R.move f18) ?_
        refine DE.t 1 (v := (Value.int .i64 x1)) rfl (by kernel_rfl) (Wn.no rfl) rfl (R.move f20) ?_
        obtain ⟨a38, h39, h40, h41, h⟩ := h
        refine DE.t 2 (v := (Value.pointer (some (a38.add (x1.toNat * 2))))) rfl (by kernel_rfl) (Wn.no rfl) rfl (R.idx (s := p0) sl24 rfl rfl h39 h40 h41) ?_
        refine DE.t 3 (v := (Value.pointer (some (a38.add (x1.toNat * 2))))) rfl (by kernel_rfl) (Wn.no rfl) rfl (R.fld (off := 0) fa27_0 rfl) ?_
        refine DE.t 5 (v := (SV.v p1)) rfl (by kernel_rfl) (Wn.no rfl) rfl (R.move f19) ?_
        refine DE.t 6 (v := (Value.int .i64 x1)) rfl (by kernel_rfl) (Wn.no rfl) rfl (R.move f20) ?_
        obtain ⟨a42, h43, h44, h45, h⟩ := h
        refine DE.t 7 (v := (Value.pointer (some (a42.add (x1.toNat * 2))))) rfl (by kernel_rfl) (Wn.no rfl) rfl (R.idx (s := p1) sl24 rfl rfl h43 h44 h45) ?_
        refine DE.t 8 (v := (Value.pointer (some (a42.add (x1.toNat * 2))))) rfl (by kernel_rfl) (Wn.no rfl) rfl (R.fld (off := 0) fa27_0 rfl) ?_
        obtain ⟨t46, h47, h⟩ := h
        refine DE.hold 4 (fun w => w.cell? (a38.add (x1.toNat * 2)) = some (Value.int .i64 t46)) (v := (Value.int .i64 t46)) rfl (by kernel_rfl) (Wn.no rfl) rfl h47 (fun w hs => R.ld sc3 rfl hs) ?_
        obtain ⟨t48, h49, h⟩ := h
        refine DE.main 9 (by kernel_rfl) ?_
        refine One.r 9 (v := (Value.int .i64 t48)) rfl (Wn.no rfl) rfl (R.ld sc3 rfl h49) (.inl rfl) ?_
        refine DE.t 10 (v := (Value.bool (decide (t46 < t48)))) rfl (by kernel_rfl) (Wn.no rfl) rfl (R.lss rfl rfl) ?_
        refine DE.main 11 (by kernel_rfl) ?_
        refine One.c 11 rfl (Wn.no rfl) rfl (R.call bd59 (Ls.cons rfl Ls.nil) rfl) (Calls.mono h ?_)
        rintro _ w51 ⟨r50, rfl, h⟩
        refine ⟨_, rfl, ⟨aftT (by kernel_rfl), trivial⟩, ?_⟩
        refine DE.t 12 (v := (Value.int .i64 r50)) rfl (by kernel_rfl) (Wn.no rfl) rfl (R.assign rfl) ?_
        refine DE.done (by kernel_rfl) ?_
        refine WE.ret ?_
        exact ⟨_, (Res.tmp rfl Res.nil), _, rfl, h⟩
      · intro hb36
        replace h := M.ite_f h hb36
        refine WE.skip ?_
        refine WE.seq ?_
        refine WE.seq ?_
        refine WE.draw mix ?_
        obtain ⟨w52, hww52, h⟩ := M.drew_use h
        rw [← hww52]
        clear hww52
        refine DE.t 0 (v := (SV.v p0)) rfl (by kernel_rfl) (Wn.no rfl) rfl (R.move f18) ?_
        refine DE.t 1 (v := (Value.int .i64 x1)) rfl (by kernel_rfl) (Wn.no rfl) rfl (R.move f20) ?_
        obtain ⟨a53, h54, h55, h56, h⟩ := h
        refine DE.t 2 (v := (Value.pointer (some (a53.add (x1.toNat * 2))))) rfl (by kernel_rfl) (Wn.no rfl) rfl (R.idx (s := p0) sl24 rfl rfl h54 h55 h56) ?_
        refine DE.t 3 (v := (Value.pointer (some ((a53.add (x1.toNat * 2)).add 1)))) rfl (by kernel_rfl) (Wn.no rfl) rfl (R.fld (off := 1) fa27_1 rfl) ?_
        refine DE.t 6 (v := (SV.v p1)) rfl (by kernel_rfl) (Wn.no rfl) rfl (R.move f19) ?_
        refine DE.t 7 (v := (Value.int .i64 x1)) rfl (by kernel_rfl) (Wn.no rfl) rfl (R.move f20) ?_
        obtain ⟨a57, h58, h59, h60, h⟩ := h
        refine DE.t 8 (v := (Value.pointer (some (a57.add (x1.toNat * 2))))) rfl (by kernel_rfl) (Wn.no rfl) rfl (R.idx (s := p1) sl24 rfl rfl h58 h59 h60) ?_
        refine DE.t 9 (v := (Value.pointer (some ((a57.add (x1.toNat * 2)).add 1)))) rfl (by kernel_rfl) (Wn.no rfl) rfl (R.fld (off := 1) fa27_1 rfl) ?_
        obtain ⟨t61, h62, h⟩ := h
        refine DE.hold 4 (fun w => w.cell? ((a53.add (x1.toNat * 2)).add 1) = some (SV.v t61)) (v := (SV.v t61)) rfl (by kernel_rfl) (Wn.no rfl) rfl h62 (fun w hs => R.ld sc25 rfl hs) ?_
        refine DE.t 5 (v := (Value.int .i64 (t61.len : Int))) rfl (by kernel_rfl) (Wn.no rfl) rfl (R.len sl25 rfl) ?_
        obtain ⟨t63, h64, h⟩ := h
        refine DE.main 10 (by kernel_rfl) ?_
        refine One.r 10 (v := (SV.v t63)) rfl (Wn.no rfl) rfl (R.ld sc25 rfl h64) (.inl rfl) ?_
        refine DE.t 11 (v := (Value.int .i64 (t63.len : Int))) rfl (by kernel_rfl) (Wn.no rfl) rfl (R.len sl25 rfl) ?_
        refine DE.t 12 (v := (Value.bool ((t61.len : Int) != (t63.len : Int)))) rfl (by kernel_rfl) (Wn.no rfl) rfl (R.neq rfl rfl) ?_
        refine DE.done (by kernel_rfl) ?_
        refine WE.condT rfl (b := ((t61.len : Int) != (t63.len : Int))) rfl ?_ ?_
        · intro hb65
          replace h := M.ite_t h hb65
          refine WE.seq ?_
          refine WE.draw mix ?_
          obtain ⟨w66, hww66, h⟩ := M.drew_use h
          rw [← hww66]
          clear hww66
          refine DE.t 0 (v := (SV.v p0)) rfl (by kernel_rfl) (Wn.no rfl) rfl (R.move f18) ?_
          refine DE.t 1 (v := (Value.int .i64 x1)) rfl (by kernel_rfl) (Wn.no rfl) rfl (R.move f20) ?_
          obtain ⟨a67, h68, h69, h70, h⟩ := h
          refine DE.t 2 (v := (Value.pointer (some (a67.add (x1.toNat * 2))))) rfl (by kernel_rfl) (Wn.no rfl) rfl (R.idx (s := p0) sl24 rfl rfl h68 h69 h70) ?_
          refine DE.t 3 (v := (Value.pointer (some ((a67.add (x1.toNat * 2)).add 1)))) rfl (by kernel_rfl) (Wn.no rfl) rfl (R.fld (off := 1) fa27_1 rfl) ?_
          refine DE.t 6 (v := (SV.v p1)) rfl (by kernel_rfl) (Wn.no rfl) rfl (R.move f19) ?_
          refine DE.t 7 (v := (Value.int .i64 x1)) rfl (by kernel_rfl) (Wn.no rfl) rfl (R.move f20) ?_
          obtain ⟨a71, h72, h73, h74, h⟩ := h
          refine DE.t 8 (v := (Value.pointer (some (a71.add (x1.toNat * 2))))) rfl (by kernel_rfl) (Wn.no rfl) rfl (R.idx (s := p1) sl24 rfl rfl h72 h73 h74) ?_
          refine DE.t 9 (v := (Value.pointer (some ((a71.add (x1.toNat * 2)).add 1)))) rfl (by kernel_rfl) (Wn.no rfl) rfl (R.fld (off := 1) fa27_1 rfl) ?_
          obtain ⟨t75, h76, h⟩ := h
          refine DE.hold 4 (fun w => w.cell? ((a67.add (x1.toNat * 2)).add 1) = some (SV.v t75)) (v := (SV.v t75)) rfl (by kernel_rfl) (Wn.no rfl) rfl h76 (fun w hs => R.ld sc25 rfl hs) ?_
          refine DE.t 5 (v := (Value.int .i64 (t75.len : Int))) rfl (by kernel_rfl) (Wn.no rfl) rfl (R.len sl25 rfl) ?_
          obtain ⟨t77, h78, h⟩ := h
          refine DE.main 10 (by kernel_rfl) ?_
          refine One.r 10 (v := (SV.v t77)) rfl (Wn.no rfl) rfl (R.ld sc25 rfl h78) (.inl rfl) ?_
          refine DE.t 11 (v := (Value.int .i64 (t77.len : Int))) rfl (by kernel_rfl) (Wn.no rfl) rfl (R.len sl25 rfl) ?_
          refine DE.t 12 (v := (Value.bool (decide ((t75.len : Int) < (t77.len : Int))))) rfl (by kernel_rfl) (Wn.no rfl) rfl (R.lss rfl rfl) ?_
          refine DE.main 13 (by kernel_rfl) ?_
          refine One.c 13 rfl (Wn.no rfl) rfl (R.call bd59 (Ls.cons rfl Ls.nil) rfl) (Calls.mono h ?_)
          rintro _ w80 ⟨r79, rfl, h⟩
          refine ⟨_, rfl, ⟨aftT (by kernel_rfl), trivial⟩, ?_⟩
          refine DE.t 14 (v := (Value.int .i64 r79)) rfl (by kernel_rfl) (Wn.no rfl) rfl (R.assign rfl) ?_
          refine DE.done (by kernel_rfl) ?_
          refine WE.ret ?_
          exact ⟨_, (Res.tmp rfl Res.nil), _, rfl, h⟩
        · intro hb65
          replace h := M.ite_f h hb65
          refine WE.skip ?_
          refine WE.seq ?_
          refine WE.reg ?_
          refine LE.p (v := (Value.int .i64 (0 : Int))) (Wn.no rfl) rfl (R.assign rfl) ?_
          refine LE.nil ?_
          refine WE.block ?_
          obtain ⟨I86, ⟨n85, h⟩, hr87⟩ := h
          refine WE.loop (fun n e w => ∃ (x81 : Int), I86 n x81 w ∧ e 0 = (SV.v p0) ∧ e 1 = (SV.v p1) ∧ e 5 = (Value.int .i64 x1) ∧ e 6 = (Value.int .i64 x81)) n85 ⟨_, h, f18, f19, f20, rfl⟩ ?_
          clear h
          rintro n85 e84 w83 ⟨x81, h, f90, f91, f92, f93⟩
          replace h := hr87 n85 x81 w83 h
          refine WE.seq ?_
          refine WE.seq ?_
          refine WE.reg ?_
          refine LE.p (v := (Value.int .i64 x81)) (Wn.no rfl) rfl (R.move f93) ?_
          refine LE.p (v := (SV.v p0)) (Wn.no rfl) rfl (R.move f90) ?_
          refine LE.p (v := (Value.int .i64 x1)) (Wn.no rfl) rfl (R.move f92) ?_
          obtain ⟨a94, h95, h96, h97, h⟩ := h
          refine LE.p (v := (Value.pointer (some (a94.add (x1.toNat * 2))))) (Wn.no rfl) rfl (R.idx (s := p0) sl24 rfl rfl h95 h96 h97) ?_
          refine LE.p (v := (Value.pointer (some ((a94.add (x1.toNat * 2)).add 1)))) (Wn.no rfl) rfl (R.fld (off := 1) fa27_1 rfl) ?_
          obtain ⟨t98, h99, h⟩ := h
          refine LE.r (v := (SV.v t98)) (Wn.no rfl) rfl (R.ld sc25 rfl h99) ?_
          refine LE.p (v := (Value.int .i64 (t98.len : Int))) (Wn.no rfl) rfl (R.len sl25 rfl) ?_
          refine LE.p (v := (Value.bool (decide (x81 < (t98.len : Int))))) (Wn.no rfl) rfl (R.lss rfl rfl) ?_
          refine LE.nil ?_
          refine WE.condT rfl (b := (decide (x81 < (t98.len : Int)))) rfl ?_ ?_
          · intro hb100
            replace h := M.ite_t h hb100
            refine WE.skip ?_
            refine WE.seq ?_
            refine WE.block ?_
            refine WE.seq ?_
            refine WE.draw mix ?_
            obtain ⟨w101, hww101, h⟩ := M.drew_use h
            rw [← hww101]
            clear hww101
            refine DE.t 0 (v := (SV.v p0)) rfl (by kernel_rfl) (Wn.no rfl) rfl (R.move f90) ?_
            refine DE.t 1 (v := (Value.int .i64 x1)) rfl (by kernel_rfl) (Wn.no rfl) rfl (R.move f92) ?_
            obtain ⟨a102, h103, h104, h105, h⟩ := h
            refine DE.t 2 (v := (Value.pointer (some (a102.add (x1.toNat * 2))))) rfl (by kernel_rfl) (Wn.no rfl) rfl (R.idx (s := p0) sl24 rfl rfl h103 h104 h105) ?_
            refine DE.t 3 (v := (Value.pointer (some ((a102.add (x1.toNat * 2)).add 1)))) rfl (by kernel_rfl) (Wn.no rfl) rfl (R.fld (off := 1) fa27_1 rfl) ?_
            refine DE.t 5 (v := (Value.int .i64 x81)) rfl (by kernel_rfl) (Wn.no rfl) rfl (R.move f93) ?_
            refine DE.t 8 (v := (SV.v p1)) rfl (by kernel_rfl) (Wn.no rfl) rfl (R.move f91) ?_
            refine DE.t 9 (v := (Value.int .i64 x1)) rfl (by kernel_rfl) (Wn.no rfl) rfl (R.move f92) ?_
            obtain ⟨a106, h107, h108, h109, h⟩ := h
            refine DE.t 10 (v := (Value.pointer (some (a106.add (x1.toNat * 2))))) rfl (by kernel_rfl) (Wn.no rfl) rfl (R.idx (s := p1) sl24 rfl rfl h107 h108 h109) ?_
            refine DE.t 11 (v := (Value.pointer (some ((a106.add (x1.toNat * 2)).add 1)))) rfl (by kernel_rfl) (Wn.no rfl) rfl (R.fld (off := 1) fa27_1 rfl) ?_
            refine DE.t 13 (v := (Value.int .i64 x81)) rfl (by kernel_rfl) (Wn.no rfl) rfl (R.move f93) ?_
            obtain ⟨t110, h111, h⟩ := h
            refine DE.hold 4 (fun w => w.cell? ((a102.add (x1.toNat * 2)).add 1) = some (SV.v t110)) (v := (SV.v t110)) rfl (by kernel_rfl) (Wn.no rfl) rfl h111 (fun w hs => R.ld sc25 rfl hs) ?_
            obtain ⟨a112, h113, h114, h115, h⟩ := h
            refine DE.t 6 (v := (Value.pointer (some (a112.add (x81.toNat * 1))))) rfl (by kernel_rfl) (Wn.no rfl) rfl (R.idx (s := t110) sl25 rfl rfl h113 h114 h115) ?_
            obtain ⟨t116, h117, h⟩ := h
            refine DE.hold 7 (fun w => w.cell? (a112.add (x81.toNat * 1)) = some (Value.int .u32 t116)) (v := (Value.int .u32 t116)) rfl (by kernel_rfl) (Wn.no rfl) rfl h117 (fun w hs => R.ld sc23 rfl hs) ?_
            obtain ⟨t118, h119, h⟩ := h
            refine DE.main 12 (by kernel_rfl) ?_
            refine One.r 12 (v := (SV.v t118)) rfl (Wn.no rfl) rfl (R.ld sc25 rfl h119) (.inl rfl) ?_
            obtain ⟨a120, h121, h122, h123, h⟩ := h
            refine DE.t 14 (v := (Value.pointer (some (a120.add (x81.toNat * 1))))) rfl (by kernel_rfl) (Wn.no rfl) rfl (R.idx (s := t118) sl25 rfl rfl h121 h122 h123) ?_
            obtain ⟨t124, h125, h⟩ := h
            refine DE.main 15 (by kernel_rfl) ?_
            refine One.r 15 (v := (Value.int .u32 t124)) rfl (Wn.no rfl) rfl (R.ld sc23 rfl h125) (.inl rfl) ?_
            refine DE.t 16 (v := (Value.bool (t116 != t124))) rfl (by kernel_rfl) (Wn.no rfl) rfl (R.neq rfl rfl) ?_
            refine DE.done (by kernel_rfl) ?_
            refine WE.condT rfl (b := (t116 != t124)) rfl ?_ ?_
            · intro hb126
              replace h := M.ite_t h hb126
              refine WE.seq ?_
              refine WE.draw mix ?_
              obtain ⟨w127, hww127, h⟩ := M.drew_use h
              rw [← hww127]
              clear hww127
              refine DE.t 0 (v := (SV.v p0)) rfl (by kernel_rfl) (Wn.no rfl) rfl (R.move f90) ?_
              refine DE.t 1 (v := (Value.int .i64 x1)) rfl (by kernel_rfl) (Wn.no rfl) rfl (R.move f92) ?_
              obtain ⟨a128, h129, h130, h131, h⟩ := h
              refine DE.t 2 (v := (Value.pointer (some (a128.add (x1.toNat * 2))))) rfl (by kernel_rfl) (Wn.no rfl) rfl (R.idx (s := p0) sl24 rfl rfl h129 h130 h131) ?_
              refine DE.t 3 (v := (Value.pointer (some ((a128.add (x1.toNat * 2)).add 1)))) rfl (by kernel_rfl) (Wn.no rfl) rfl (R.fld (off := 1) fa27_1 rfl) ?_
              refine DE.t 5 (v := (Value.int .i64 x81)) rfl (by kernel_rfl) (Wn.no rfl) rfl (R.move f93) ?_
              refine DE.t 8 (v := (SV.v p1)) rfl (by kernel_rfl) (Wn.no rfl) rfl (R.move f91) ?_
              refine DE.t 9 (v := (Value.int .i64 x1)) rfl (by kernel_rfl) (Wn.no rfl) rfl (R.move f92) ?_
              obtain ⟨a132, h133, h134, h135, h⟩ := h
              refine DE.t 10 (v := (Value.pointer (some (a132.add (x1.toNat * 2))))) rfl (by kernel_rfl) (Wn.no rfl) rfl (R.idx (s := p1) sl24 rfl rfl h133 h134 h135) ?_
              refine DE.t 11 (v := (Value.pointer (some ((a132.add (x1.toNat * 2)).add 1)))) rfl (by kernel_rfl) (Wn.no rfl) rfl (R.fld (off := 1) fa27_1 rfl) ?_
              refine DE.t 13 (v := (Value.int .i64 x81)) rfl (by kernel_rfl) (Wn.no rfl) rfl (R.move f93) ?_
              obtain ⟨t136, h137, h⟩ := h
              refine DE.hold 4 (fun w => w.cell? ((a128.add (x1.toNat * 2)).add 1) = some (SV.v t136)) (v := (SV.v t136)) rfl (by kernel_rfl) (Wn.no rfl) rfl h137 (fun w hs => R.ld sc25 rfl hs) ?_
              obtain ⟨a138, h139, h140, h141, h⟩ := h
              refine DE.t 6 (v := (Value.pointer (some (a138.add (x81.toNat * 1))))) rfl (by kernel_rfl) (Wn.no rfl) rfl (R.idx (s := t136) sl25 rfl rfl h139 h140 h141) ?_
              obtain ⟨t142, h143, h⟩ := h
              refine DE.hold 7 (fun w => w.cell? (a138.add (x81.toNat * 1)) = some (Value.int .u32 t142)) (v := (Value.int .u32 t142)) rfl (by kernel_rfl) (Wn.no rfl) rfl h143 (fun w hs => R.ld sc23 rfl hs) ?_
              obtain ⟨t144, h145, h⟩ := h
              refine DE.main 12 (by kernel_rfl) ?_
              refine One.r 12 (v := (SV.v t144)) rfl (Wn.no rfl) rfl (R.ld sc25 rfl h145) (.inl rfl) ?_
              obtain ⟨a146, h147, h148, h149, h⟩ := h
              refine DE.t 14 (v := (Value.pointer (some (a146.add (x81.toNat * 1))))) rfl (by kernel_rfl) (Wn.no rfl) rfl (R.idx (s := t144) sl25 rfl rfl h147 h148 h149) ?_
              obtain ⟨t150, h151, h⟩ := h
              refine DE.main 15 (by kernel_rfl) ?_
              refine One.r 15 (v := (Value.int .u32 t150)) rfl (Wn.no rfl) rfl (R.ld sc23 rfl h151) (.inl rfl) ?_
              refine DE.t 16 (v := (Value.bool (decide (t142 < t150)))) rfl (by kernel_rfl) (Wn.no rfl) rfl (R.lss rfl rfl) ?_
              refine DE.main 17 (by kernel_rfl) ?_
              refine One.c 17 rfl (Wn.no rfl) rfl (R.call bd59 (Ls.cons rfl Ls.nil) rfl) (Calls.mono h ?_)
              rintro _ w153 ⟨r152, rfl, h⟩
              refine ⟨_, rfl, ⟨aftT (by kernel_rfl), aftT (by kernel_rfl), trivial⟩, ?_⟩
              refine DE.t 18 (v := (Value.int .i64 r152)) rfl (by kernel_rfl) (Wn.no rfl) rfl (R.assign rfl) ?_
              refine DE.done (by kernel_rfl) ?_
              refine WE.ret ?_
              exact ⟨_, (Res.tmp rfl Res.nil), _, rfl, h⟩
            · intro hb126
              replace h := M.ite_f h hb126
              refine WE.skip ?_
              refine WE.reg ?_
              refine LE.p (v := (Value.int .i64 x81)) (Wn.no rfl) rfl (R.move f93) ?_
              refine LE.p (v := (Value.int .i64 (IntKind.i64.wrap (x81 + (1 : Int))))) (Wn.no rfl) rfl (R.add rfl rfl) ?_
              refine LE.p (v := (Value.int .i64 (IntKind.i64.wrap (x81 + (1 : Int))))) (Wn.no rfl) rfl (R.assign rfl) ?_
              refine LE.nil ?_
              obtain ⟨m88, hm89, h⟩ := h
              exact ⟨m88, hm89, _, h, f90, f91, f92, rfl⟩
          · intro hb100
            replace h := M.ite_f h hb100
            refine WE.exit ?_
            refine WE.reg ?_
            refine LE.p (v := (Value.int .i64 x1)) (Wn.no rfl) rfl (R.move f92) ?_
            refine LE.p (v := (Value.int .i64 (IntKind.i64.wrap (x1 + (1 : Int))))) (Wn.no rfl) rfl (R.add rfl rfl) ?_
            refine LE.p (v := (Value.int .i64 (IntKind.i64.wrap (x1 + (1 : Int))))) (Wn.no rfl) rfl (R.assign rfl) ?_
            refine LE.nil ?_
            obtain ⟨m8, hm9, h⟩ := h
            exact ⟨m8, hm9, _, h, f90, f91, rfl⟩
    · intro hb22
      replace h := M.ite_f h hb22
      refine WE.exit ?_
      refine WE.seq ?_
      refine WE.seq ?_
      refine WE.reg ?_
      refine LE.p (v := (SV.v p0)) (Wn.no rfl) rfl (R.move f18) ?_
      refine LE.p (v := (Value.int .i64 (p0.len : Int))) (Wn.no rfl) rfl (R.len sl24 rfl) ?_
      refine LE.p (v := (SV.v p1)) (Wn.no rfl) rfl (R.move f19) ?_
      refine LE.p (v := (Value.int .i64 (p1.len : Int))) (Wn.no rfl) rfl (R.len sl24 rfl) ?_
      refine LE.p (v := (Value.bool ((p0.len : Int) != (p1.len : Int)))) (Wn.no rfl) rfl (R.neq rfl rfl) ?_
      refine LE.nil ?_
      refine WE.condT rfl (b := ((p0.len : Int) != (p1.len : Int))) rfl ?_ ?_
      · intro hb154
        replace h := M.ite_t h hb154
        refine WE.seq ?_
        refine WE.reg ?_
        refine LE.p (v := (SV.v p0)) (Wn.no rfl) rfl (R.move f18) ?_
        refine LE.p (v := (Value.int .i64 (p0.len : Int))) (Wn.no rfl) rfl (R.len sl24 rfl) ?_
        refine LE.p (v := (SV.v p1)) (Wn.no rfl) rfl (R.move f19) ?_
        refine LE.p (v := (Value.int .i64 (p1.len : Int))) (Wn.no rfl) rfl (R.len sl24 rfl) ?_
        refine LE.p (v := (Value.bool (decide ((p0.len : Int) < (p1.len : Int))))) (Wn.no rfl) rfl (R.lss rfl rfl) ?_
        refine LE.c (Wn.no rfl) rfl (R.call bd59 (Ls.cons rfl Ls.nil) rfl) (Calls.mono h ?_)
        rintro _ w156 ⟨r155, rfl, h⟩
        refine ⟨_, rfl, ?_⟩
        refine LE.p (v := (Value.int .i64 r155)) (Wn.no rfl) rfl (R.assign rfl) ?_
        refine LE.nil ?_
        refine WE.ret ?_
        exact ⟨_, (Res.tmp rfl Res.nil), _, rfl, h⟩
      · intro hb154
        replace h := M.ite_f h hb154
        refine WE.skip ?_
        refine WE.seq ?_
        refine WE.reg ?_
        refine LE.p (v := (Value.int .i64 (0 : Int))) (Wn.no rfl) rfl (R.assign rfl) ?_
        refine LE.nil ?_
        refine WE.ret ?_
        exact ⟨_, (Res.tmp rfl Res.nil), _, rfl, h⟩
/-- The formula of signpost.signpostref6.First. -/
def F42 (p0 : SV) (K : Int → Bool → World → Prop) (w0 : World) : Prop :=
M.join (fun (x2 : Bool) (w18 : World) => 
M.ite x2 (
K (0 : Int) false w18) (
M.idx p0 (0 : Int) 2 fun a22 =>
M.ld SV.v ((a22.add ((0 : Int).toNat * 2)).add 1) w18 fun t26 =>
M.idx t26 (0 : Int) 1 fun a28 =>
M.ld (Value.int .u32) (a28.add ((0 : Int).toNat * 1)) w18 fun t32 =>
K t32 true w18)) fun J1 => 
M.ite ((p0.len : Int) == (0 : Int)) (
J1 true w0) (
M.idx p0 (0 : Int) 2 fun a4 =>
M.ld (Value.int .i64) (a4.add ((0 : Int).toNat * 2)) w0 fun t8 =>
M.ite (t8 != (2 : Int)) (
J1 true w0) (
M.idx p0 (0 : Int) 2 fun a11 =>
M.ld SV.v ((a11.add ((0 : Int).toNat * 2)).add 1) w0 fun t15 =>
J1 ((t15.len : Int) == (0 : Int)) w0))
theorem F42_ok {w0 : World} {p0 : SV} {K : Int → Bool → World → Prop} (h : F42 p0 K w0) : Calls Try.prog 42 #[(SV.v p0)] w0 (R42 K) := by
  refine calls_of_WE (args := [(SV.v p0)]) (rs := [.tmp 2, .tmp 3]) Try.func42 rfl (N := 28) rfl rfl rfl rfl ?_
  refine WE.seq ?_
  refine WE.reg ?_
  refine LE.p (v := (Value.int .u32 (0 : Int))) (Wn.no rfl) rfl (R.assign rfl) ?_
  refine LE.p (v := (Value.bool false)) (Wn.no rfl) rfl (R.assign rfl) ?_
  refine LE.nil ?_
  refine WE.seq ?_
  refine WE.seq ?_
  obtain ⟨J1, hJ1, h⟩ := M.join_use h
  refine WE.regJ (fun e w => ∃ (x2 : Bool), J1 x2 w ∧ e 0 = (SV.v p0) ∧ e 21 = (Value.bool x2)) ?_ ?_
  · clear hJ1
    refine LE.p (v := (SV.v p0)) (Wn.no rfl) rfl (R.move rfl) ?_
    refine LE.p (v := (Value.int .i64 (p0.len : Int))) (Wn.no rfl) rfl (R.len sl24 rfl) ?_
    refine LE.p (v := (Value.bool ((p0.len : Int) == (0 : Int)))) (Wn.no rfl) rfl (R.eql rfl rfl) ?_
    refine LE.p (v := (Value.bool ((p0.len : Int) == (0 : Int)))) (Wn.no rfl) rfl (R.move rfl) ?_
    rcases M.ite_use h with ⟨hb3, h⟩ | ⟨hb3, h⟩
    · refine LE.u (Un.no 3 7 false rfl rfl rfl (congrArg Value.bool hb3)) ?_
      refine LE.u (Un.no 3 7 false rfl rfl rfl (congrArg Value.bool hb3)) ?_
      refine LE.u (Un.no 3 7 false rfl rfl rfl (congrArg Value.bool hb3)) ?_
      refine LE.u (Un.no 3 7 false rfl rfl rfl (congrArg Value.bool hb3)) ?_
      refine LE.u (Un.no 3 7 false rfl rfl rfl (congrArg Value.bool hb3)) ?_
      refine LE.p (v := (Value.bool true)) (Wn.no rfl) rfl (R.pickT (congrArg Value.bool hb3) rfl) ?_
      refine LE.p (v := (Value.bool true)) (Wn.no rfl) rfl (R.move rfl) ?_
      refine LE.u (Un.no 10 14 false rfl rfl rfl rfl) ?_
      refine LE.u (Un.no 10 14 false rfl rfl rfl rfl) ?_
      refine LE.u (Un.no 10 14 false rfl rfl rfl rfl) ?_
      refine LE.u (Un.no 10 14 false rfl rfl rfl rfl) ?_
      refine LE.u (Un.no 10 14 false rfl rfl rfl rfl) ?_
      refine LE.u (Un.no 10 14 false rfl rfl rfl rfl) ?_
      refine LE.p (v := (Value.bool true)) (Wn.no rfl) rfl (R.pickT rfl rfl) ?_
      refine LE.nil ?_
      exact ⟨_, h, rfl, rfl⟩
    · refine LE.p (v := (SV.v p0)) (Wn.yes 3 7 false rfl rfl rfl (congrArg Value.bool hb3)) rfl (R.move rfl) ?_
      obtain ⟨a4, h5, h6, h7, h⟩ := h
      refine LE.p (v := (Value.pointer (some (a4.add ((0 : Int).toNat * 2))))) (Wn.yes 3 7 false rfl rfl rfl (congrArg Value.bool hb3)) rfl (R.idx (s := p0) sl24 rfl rfl h5 h6 h7) ?_
      refine LE.p (v := (Value.pointer (some (a4.add ((0 : Int).toNat * 2))))) (Wn.yes 3 7 false rfl rfl rfl (congrArg Value.bool hb3)) rfl (R.fld (off := 0) fa27_0 rfl) ?_
      obtain ⟨t8, h9, h⟩ := h
      refine LE.r (v := (Value.int .i64 t8)) (Wn.yes 3 7 false rfl rfl rfl (congrArg Value.bool hb3)) rfl (R.ld sc3 rfl h9) ?_
      refine LE.p (v := (Value.bool (t8 != (2 : Int)))) (Wn.yes 3 7 false rfl rfl rfl (congrArg Value.bool hb3)) rfl (R.neq rfl rfl) ?_
      refine LE.p (v := (Value.bool (t8 != (2 : Int)))) (Wn.no rfl) rfl (R.pickF (congrArg Value.bool hb3) rfl) ?_
      refine LE.p (v := (Value.bool (t8 != (2 : Int)))) (Wn.no rfl) rfl (R.move rfl) ?_
      rcases M.ite_use h with ⟨hb10, h⟩ | ⟨hb10, h⟩
      · refine LE.u (Un.no 10 14 false rfl rfl rfl (congrArg Value.bool hb10)) ?_
        refine LE.u (Un.no 10 14 false rfl rfl rfl (congrArg Value.bool hb10)) ?_
        refine LE.u (Un.no 10 14 false rfl rfl rfl (congrArg Value.bool hb10)) ?_
        refine LE.u (Un.no 10 14 false rfl rfl rfl (congrArg Value.bool hb10)) ?_
        refine LE.u (Un.no 10 14 false rfl rfl rfl (congrArg Value.bool hb10)) ?_
        refine LE.u (Un.no 10 14 false rfl rfl rfl (congrArg Value.bool hb10)) ?_
        refine LE.p (v := (Value.bool true)) (Wn.no rfl) rfl (R.pickT (congrArg Value.bool hb10) rfl) ?_
        refine LE.nil ?_
        exact ⟨_, h, rfl, rfl⟩
      · refine LE.p (v := (SV.v p0)) (Wn.yes 10 14 false rfl rfl rfl (congrArg Value.bool hb10)) rfl (R.move rfl) ?_
        obtain ⟨a11, h12, h13, h14, h⟩ := h
        refine LE.p (v := (Value.pointer (some (a11.add ((0 : Int).toNat * 2))))) (Wn.yes 10 14 false rfl rfl rfl (congrArg Value.bool hb10)) rfl (R.idx (s := p0) sl24 rfl rfl h12 h13 h14) ?_
        refine LE.p (v := (Value.pointer (some ((a11.add ((0 : Int).toNat * 2)).add 1)))) (Wn.yes 10 14 false rfl rfl rfl (congrArg Value.bool hb10)) rfl (R.fld (off := 1) fa27_1 rfl) ?_
        obtain ⟨t15, h16, h⟩ := h
        refine LE.r (v := (SV.v t15)) (Wn.yes 10 14 false rfl rfl rfl (congrArg Value.bool hb10)) rfl (R.ld sc25 rfl h16) ?_
        refine LE.p (v := (Value.int .i64 (t15.len : Int))) (Wn.yes 10 14 false rfl rfl rfl (congrArg Value.bool hb10)) rfl (R.len sl25 rfl) ?_
        refine LE.p (v := (Value.bool ((t15.len : Int) == (0 : Int)))) (Wn.yes 10 14 false rfl rfl rfl (congrArg Value.bool hb10)) rfl (R.eql rfl rfl) ?_
        refine LE.p (v := (Value.bool ((t15.len : Int) == (0 : Int)))) (Wn.no rfl) rfl (R.pickF (congrArg Value.bool hb10) rfl) ?_
        refine LE.nil ?_
        exact ⟨_, h, rfl, rfl⟩
  · rintro e17 w18 ⟨x2, h, f19, f20⟩
    subst hJ1
    refine WE.condT rfl (b := x2) f20 ?_ ?_
    · intro hb21
      replace h := M.ite_t h hb21
      refine WE.seq ?_
      refine WE.reg ?_
      refine LE.p (v := (Value.int .u32 (0 : Int))) (Wn.no rfl) rfl (R.assign rfl) ?_
      refine LE.p (v := (Value.bool false)) (Wn.no rfl) rfl (R.assign rfl) ?_
      refine LE.nil ?_
      refine WE.ret ?_
      exact ⟨_, (Res.tmp rfl (Res.tmp rfl Res.nil)), _, _, rfl, h⟩
    · intro hb21
      replace h := M.ite_f h hb21
      refine WE.skip ?_
      refine WE.seq ?_
      refine WE.reg ?_
      refine LE.p (v := (SV.v p0)) (Wn.no rfl) rfl (R.move f19) ?_
      obtain ⟨a22, h23, h24, h25, h⟩ := h
      refine LE.p (v := (Value.pointer (some (a22.add ((0 : Int).toNat * 2))))) (Wn.no rfl) rfl (R.idx (s := p0) sl24 rfl rfl h23 h24 h25) ?_
      refine LE.p (v := (Value.pointer (some ((a22.add ((0 : Int).toNat * 2)).add 1)))) (Wn.no rfl) rfl (R.fld (off := 1) fa27_1 rfl) ?_
      obtain ⟨t26, h27, h⟩ := h
      refine LE.r (v := (SV.v t26)) (Wn.no rfl) rfl (R.ld sc25 rfl h27) ?_
      obtain ⟨a28, h29, h30, h31, h⟩ := h
      refine LE.p (v := (Value.pointer (some (a28.add ((0 : Int).toNat * 1))))) (Wn.no rfl) rfl (R.idx (s := t26) sl25 rfl rfl h29 h30 h31) ?_
      obtain ⟨t32, h33, h⟩ := h
      refine LE.r (v := (Value.int .u32 t32)) (Wn.no rfl) rfl (R.ld sc23 rfl h33) ?_
      refine LE.p (v := (Value.int .u32 t32)) (Wn.no rfl) rfl (R.assign rfl) ?_
      refine LE.p (v := (Value.bool true)) (Wn.no rfl) rfl (R.assign rfl) ?_
      refine LE.nil ?_
      refine WE.ret ?_
      exact ⟨_, (Res.tmp rfl (Res.tmp rfl Res.nil)), _, _, rfl, h⟩
end Go.Proofs.Ytflffabmfoldeaa
