/-
  Printed by gen.py: the formula of each function, and that it holds of the function.
-/
import Derived.Test.YtdlefnpnnpohmaaTy
namespace Go.Proofs.Ytdlefnpnnpohmaa
set_option linter.unusedVariables false
set_option linter.unusedSimpArgs false
open Go.Sp
set_option linter.unusedVariables false
/-- The formula of (*signpost.signpostref4.Reader).number. -/
def F43 (p0 : Option Addr) (p1 : Int) (K : Int → World → Prop) (w0 : World) : Prop :=
Calls Try.prog 45 #[(Value.pointer p0), (Value.int .i64 p1)] w0 (R45 fun r1 w2 =>
M.loop2 (fun (J5 : Int → Int → World → Prop) (x3 : Int) (x4 : Int) (w6 : World) => 
M.ite (decide (x4 < (r1.len : Int))) (
M.idx r1 x4 1 fun a17 =>
M.ld (Value.int .u8) (a17.add (x4.toNat * 1)) w6 fun t21 =>
J5 (bOr .u32 (bShl .u32 x3 (8 : Int)) (IntKind.u32.wrap t21)) (IntKind.i64.wrap (x4 + (1 : Int))) w6) (
K x3 w6)) (0 : Int) (0 : Int) w2)
theorem F43_ok {w0 : World} {p0 : Option Addr} {p1 : Int} {K : Int → World → Prop} (h : F43 p0 p1 K w0) : Calls Try.prog 43 #[(Value.pointer p0), (Value.int .i64 p1)] w0 (R43 K) := by
  refine calls_of_WE (args := [(Value.pointer p0), (Value.int .i64 p1)]) (rs := [.tmp 4]) Try.func43 rfl (N := 26) rfl rfl rfl rfl ?_
  refine WE.seq ?_
  refine WE.reg ?_
  refine LE.p (v := (Value.int .u32 (0 : Int))) (Wn.no rfl) rfl (R.assign rfl) ?_
  refine LE.nil ?_
  refine WE.seq ?_
  refine WE.reg ?_
  refine LE.p (v := (Value.pointer p0)) (Wn.no rfl) rfl (R.move rfl) ?_
  refine LE.p (v := (Value.int .i64 p1)) (Wn.no rfl) rfl (R.move rfl) ?_
  refine LE.c (Wn.no rfl) rfl (R.call bd45 (Ls.cons rfl (Ls.cons rfl Ls.nil)) rfl) (Calls.mono h ?_)
  rintro _ w2 ⟨r1, rfl, h⟩
  refine ⟨_, rfl, ?_⟩
  refine LE.p (v := (SV.v r1)) (Wn.no rfl) rfl (R.assign rfl) ?_
  refine LE.nil ?_
  refine WE.seq ?_
  refine WE.reg ?_
  refine LE.p (v := (Value.int .u32 (0 : Int))) (Wn.no rfl) rfl (R.assign rfl) ?_
  refine LE.nil ?_
  refine WE.seq ?_
  refine WE.seq ?_
  refine WE.reg ?_
  refine LE.p (v := (Value.int .i64 (0 : Int))) (Wn.no rfl) rfl (R.assign rfl) ?_
  refine LE.nil ?_
  refine WE.block ?_
  obtain ⟨I9, ⟨n8, h⟩, hr10⟩ := h
  refine WE.loop (fun n e w => ∃ (x3 : Int) (x4 : Int), I9 n x3 x4 w ∧ e 5 = (SV.v r1) ∧ e 6 = (Value.int .u32 x3) ∧ e 7 = (Value.int .i64 x4)) n8 ⟨_, _, h, rfl, rfl, rfl⟩ ?_
  clear h
  rintro n8 e7 w6 ⟨x3, x4, h, f13, f14, f15⟩
  replace h := hr10 n8 x3 x4 w6 h
  refine WE.seq ?_
  refine WE.seq ?_
  refine WE.reg ?_
  refine LE.p (v := (Value.int .i64 x4)) (Wn.no rfl) rfl (R.move f15) ?_
  refine LE.p (v := (SV.v r1)) (Wn.no rfl) rfl (R.move f13) ?_
  refine LE.p (v := (Value.int .i64 (r1.len : Int))) (Wn.no rfl) rfl (R.len sl23 rfl) ?_
  refine LE.p (v := (Value.bool (decide (x4 < (r1.len : Int))))) (Wn.no rfl) rfl (R.lss rfl rfl) ?_
  refine LE.nil ?_
  refine WE.condT rfl (b := (decide (x4 < (r1.len : Int)))) rfl ?_ ?_
  · intro hb16
    replace h := M.ite_t h hb16
    refine WE.skip ?_
    refine WE.seq ?_
    refine WE.block ?_
    refine WE.reg ?_
    refine LE.p (v := (Value.int .u32 x3)) (Wn.no rfl) rfl (R.move f14) ?_
    refine LE.p (v := (Value.int .u32 (bShl .u32 x3 (8 : Int)))) (Wn.no rfl) rfl (R.shl rfl rfl (by decide)) ?_
    refine LE.p (v := (SV.v r1)) (Wn.no rfl) rfl (R.move f13) ?_
    refine LE.p (v := (Value.int .i64 x4)) (Wn.no rfl) rfl (R.move f15) ?_
    obtain ⟨a17, h18, h19, h20, h⟩ := h
    refine LE.p (v := (Value.pointer (some (a17.add (x4.toNat * 1))))) (Wn.no rfl) rfl (R.idx (s := r1) sl23 rfl rfl h18 h19 h20) ?_
    obtain ⟨t21, h22, h⟩ := h
    refine LE.r (v := (Value.int .u8 t21)) (Wn.no rfl) rfl (R.ld sc5 rfl h22) ?_
    refine LE.p (v := (Value.int .u32 (IntKind.u32.wrap t21))) (Wn.no rfl) rfl (R.conv in22 in5 rfl) ?_
    refine LE.p (v := (Value.int .u32 (bOr .u32 (bShl .u32 x3 (8 : Int)) (IntKind.u32.wrap t21)))) (Wn.no rfl) rfl (R.or rfl rfl) ?_
    refine LE.p (v := (Value.int .u32 (bOr .u32 (bShl .u32 x3 (8 : Int)) (IntKind.u32.wrap t21)))) (Wn.no rfl) rfl (R.assign rfl) ?_
    refine LE.nil ?_
    refine WE.reg ?_
    refine LE.p (v := (Value.int .i64 x4)) (Wn.no rfl) rfl (R.move f15) ?_
    refine LE.p (v := (Value.int .i64 (IntKind.i64.wrap (x4 + (1 : Int))))) (Wn.no rfl) rfl (R.add rfl rfl) ?_
    refine LE.p (v := (Value.int .i64 (IntKind.i64.wrap (x4 + (1 : Int))))) (Wn.no rfl) rfl (R.assign rfl) ?_
    refine LE.nil ?_
    obtain ⟨m11, hm12, h⟩ := h
    exact ⟨m11, hm12, _, _, h, f13, rfl, rfl⟩
  · intro hb16
    replace h := M.ite_f h hb16
    refine WE.exit ?_
    refine WE.seq ?_
    refine WE.reg ?_
    refine LE.p (v := (Value.int .u32 x3)) (Wn.no rfl) rfl (R.move f14) ?_
    refine LE.p (v := (Value.int .u32 x3)) (Wn.no rfl) rfl (R.assign rfl) ?_
    refine LE.nil ?_
    refine WE.ret ?_
    exact ⟨_, (Res.tmp rfl Res.nil), _, rfl, h⟩
/-- The formula of (*signpost.wire.Reader).Raw. -/
def F44 (p0 : Option Addr) (p1 : Int) (K : SV → World → Prop) (w0 : World) : Prop :=
M.join (fun (w22 : World) => 
M.join (fun (x26 : Bool) (w33 : World) => 
M.ite x26 (
K SV.nil w33) (
M.nil p0 fun a38 =>
M.ld SV.v a38 w33 fun t40 =>
M.bnd (0 : Int) p1 t40 <|
Calls Try.prog 34 #[(SV.v (SV.sub t40 (Int.toNat (0 : Int)) (Int.toNat p1) 1))] w33 (R34 fun r46 w47 =>
M.nil p0 fun a48 =>
M.ld SV.v a48 w47 fun t50 =>
M.bnd p1 (t50.len : Int) t50 <|
M.nil p0 fun a56 =>
M.st a56 (SV.v (SV.sub t50 (Int.toNat p1) (Int.toNat (t50.len : Int)) 1)) w47 fun w58 =>
K r46 w58))) fun J25 => 
M.nil p0 fun a27 =>
M.ld Value.bool (a27.add 1) w22 fun t29 =>
M.ite t29 (
J25 true w22) (
J25 (decide (p1 < (1 : Int))) w22)) fun J1 => 
M.nil p0 fun a2 =>
M.ld Value.bool (a2.add 1) w0 fun t4 =>
M.ite t4 (
M.nil p0 fun a7 =>
M.st (a7.add 1) (Value.bool true) w0 fun w9 =>
J1 w9) (
M.nil p0 fun a12 =>
M.ld SV.v a12 w0 fun t14 =>
M.nil p0 fun a16 =>
M.st (a16.add 1) (Value.bool (decide ((t14.len : Int) < p1))) w0 fun w18 =>
J1 w18)
theorem F44_ok {w0 : World} {p0 : Option Addr} {p1 : Int} {K : SV → World → Prop} (h : F44 p0 p1 K w0) : Calls Try.prog 44 #[(Value.pointer p0), (Value.int .i64 p1)] w0 (R44 K) := by
  refine calls_of_WE (args := [(Value.pointer p0), (Value.int .i64 p1)]) (rs := [.tmp 4]) Try.func44 rfl (N := 47) rfl rfl rfl rfl ?_
  refine WE.seq ?_
  refine WE.reg ?_
  refine LE.p (v := (SV.v SV.nil)) (Wn.no rfl) rfl (R.assign rfl) ?_
  refine LE.nil ?_
  refine WE.seq ?_
  obtain ⟨J1, hJ1, h⟩ := M.join_use h
  refine WE.regJ (fun e w => J1 w ∧ e 0 = (Value.pointer p0) ∧ e 1 = (Value.int .i64 p1)) ?_ ?_
  · clear hJ1
    refine LE.p (v := (Value.pointer p0)) (Wn.no rfl) rfl (R.move rfl) ?_
    refine LE.p (v := (Value.pointer p0)) (Wn.no rfl) rfl (R.move rfl) ?_
    obtain ⟨a2, h3, h⟩ := h
    refine LE.p (v := (Value.pointer (some a2))) (Wn.no rfl) rfl (R.nilC (congrArg Value.pointer h3)) ?_
    refine LE.p (v := (Value.pointer (some (a2.add 1)))) (Wn.no rfl) rfl (R.fld (off := 1) fa72_1 rfl) ?_
    obtain ⟨t4, h5, h⟩ := h
    refine LE.r (v := (Value.bool t4)) (Wn.no rfl) rfl (R.ld sc4 rfl h5) ?_
    refine LE.p (v := (Value.bool t4)) (Wn.no rfl) rfl (R.move rfl) ?_
    rcases M.ite_use h with ⟨hb6, h⟩ | ⟨hb6, h⟩
    · refine LE.u (Un.no 5 11 false rfl rfl rfl (congrArg Value.bool hb6)) ?_
      refine LE.u (Un.no 5 11 false rfl rfl rfl (congrArg Value.bool hb6)) ?_
      refine LE.u (Un.no 5 11 false rfl rfl rfl (congrArg Value.bool hb6)) ?_
      refine LE.u (Un.no 5 11 false rfl rfl rfl (congrArg Value.bool hb6)) ?_
      refine LE.u (Un.no 5 11 false rfl rfl rfl (congrArg Value.bool hb6)) ?_
      refine LE.u (Un.no 5 11 false rfl rfl rfl (congrArg Value.bool hb6)) ?_
      refine LE.u (Un.no 5 11 false rfl rfl rfl (congrArg Value.bool hb6)) ?_
      refine LE.p (v := (Value.bool true)) (Wn.no rfl) rfl (R.pickT (congrArg Value.bool hb6) rfl) ?_
      obtain ⟨a7, h8, h⟩ := h
      refine LE.p (v := (Value.pointer (some a7))) (Wn.no rfl) rfl (R.nilC (congrArg Value.pointer h8)) ?_
      refine LE.p (v := (Value.pointer (some (a7.add 1)))) (Wn.no rfl) rfl (R.fld (off := 1) fa72_1 rfl) ?_
      obtain ⟨w9, hww9, h10, h11, h⟩ := M.st_use h
      refine LE.s (Wn.no rfl) rfl (R.st (a := (a7.add 1)) (v := (Value.bool true)) sz4 rfl rfl rfl rfl h10 h11 hww9) ?_
      refine LE.nil ?_
      exact ⟨h, rfl, rfl⟩
    · refine LE.p (v := (Value.int .i64 p1)) (Wn.yes 5 11 false rfl rfl rfl (congrArg Value.bool hb6)) rfl (R.move rfl) ?_
      refine LE.p (v := (Value.pointer p0)) (Wn.yes 5 11 false rfl rfl rfl (congrArg Value.bool hb6)) rfl (R.move rfl) ?_
      obtain ⟨a12, h13, h⟩ := h
      refine LE.p (v := (Value.pointer (some a12))) (Wn.yes 5 11 false rfl rfl rfl (congrArg Value.bool hb6)) rfl (R.nilC (congrArg Value.pointer h13)) ?_
      refine LE.p (v := (Value.pointer (some a12))) (Wn.yes 5 11 false rfl rfl rfl (congrArg Value.bool hb6)) rfl (R.fld (off := 0) fa72_0 rfl) ?_
      obtain ⟨t14, h15, h⟩ := h
      refine LE.r (v := (SV.v t14)) (Wn.yes 5 11 false rfl rfl rfl (congrArg Value.bool hb6)) rfl (R.ld sc23 rfl h15) ?_
      refine LE.p (v := (Value.int .i64 (t14.len : Int))) (Wn.yes 5 11 false rfl rfl rfl (congrArg Value.bool hb6)) rfl (R.len sl23 rfl) ?_
      refine LE.p (v := (Value.bool (decide ((t14.len : Int) < p1)))) (Wn.yes 5 11 false rfl rfl rfl (congrArg Value.bool hb6)) rfl (R.gtr rfl rfl) ?_
      refine LE.p (v := (Value.bool (decide ((t14.len : Int) < p1)))) (Wn.no rfl) rfl (R.pickF (congrArg Value.bool hb6) rfl) ?_
      obtain ⟨a16, h17, h⟩ := h
      refine LE.p (v := (Value.pointer (some a16))) (Wn.no rfl) rfl (R.nilC (congrArg Value.pointer h17)) ?_
      refine LE.p (v := (Value.pointer (some (a16.add 1)))) (Wn.no rfl) rfl (R.fld (off := 1) fa72_1 rfl) ?_
      obtain ⟨w18, hww18, h19, h20, h⟩ := M.st_use h
      refine LE.s (Wn.no rfl) rfl (R.st (a := (a16.add 1)) (v := (Value.bool (decide ((t14.len : Int) < p1)))) sz4 rfl rfl rfl rfl h19 h20 hww18) ?_
      refine LE.nil ?_
      exact ⟨h, rfl, rfl⟩
  · rintro e21 w22 ⟨h, f23, f24⟩
    subst hJ1
    refine WE.seq ?_
    refine WE.seq ?_
    obtain ⟨J25, hJ25, h⟩ := M.join_use h
    refine WE.regJ (fun e w => ∃ (x26 : Bool), J25 x26 w ∧ e 0 = (Value.pointer p0) ∧ e 1 = (Value.int .i64 p1) ∧ e 29 = (Value.bool x26)) ?_ ?_
    · clear hJ25
      refine LE.p (v := (Value.pointer p0)) (Wn.no rfl) rfl (R.move f23) ?_
      obtain ⟨a27, h28, h⟩ := h
      refine LE.p (v := (Value.pointer (some a27))) (Wn.no rfl) rfl (R.nilC (congrArg Value.pointer h28)) ?_
      refine LE.p (v := (Value.pointer (some (a27.add 1)))) (Wn.no rfl) rfl (R.fld (off := 1) fa72_1 rfl) ?_
      obtain ⟨t29, h30, h⟩ := h
      refine LE.r (v := (Value.bool t29)) (Wn.no rfl) rfl (R.ld sc4 rfl h30) ?_
      refine LE.p (v := (Value.bool t29)) (Wn.no rfl) rfl (R.move rfl) ?_
      rcases M.ite_use h with ⟨hb31, h⟩ | ⟨hb31, h⟩
      · refine LE.u (Un.no 4 26 false rfl rfl rfl (congrArg Value.bool hb31)) ?_
        refine LE.u (Un.no 4 26 false rfl rfl rfl (congrArg Value.bool hb31)) ?_
        refine LE.p (v := (Value.bool true)) (Wn.no rfl) rfl (R.pickT (congrArg Value.bool hb31) rfl) ?_
        refine LE.nil ?_
        exact ⟨_, h, f23, f24, rfl⟩
      · refine LE.p (v := (Value.int .i64 p1)) (Wn.yes 4 26 false rfl rfl rfl (congrArg Value.bool hb31)) rfl (R.move f24) ?_
        refine LE.p (v := (Value.bool (decide (p1 < (1 : Int))))) (Wn.yes 4 26 false rfl rfl rfl (congrArg Value.bool hb31)) rfl (R.lss rfl rfl) ?_
        refine LE.p (v := (Value.bool (decide (p1 < (1 : Int))))) (Wn.no rfl) rfl (R.pickF (congrArg Value.bool hb31) rfl) ?_
        refine LE.nil ?_
        exact ⟨_, h, f23, f24, rfl⟩
    · rintro e32 w33 ⟨x26, h, f34, f35, f36⟩
      subst hJ25
      refine WE.condT rfl (b := x26) f36 ?_ ?_
      · intro hb37
        replace h := M.ite_t h hb37
        refine WE.seq ?_
        refine WE.reg ?_
        refine LE.p (v := (SV.v SV.nil)) (Wn.no rfl) rfl (R.assign rfl) ?_
        refine LE.nil ?_
        refine WE.ret ?_
        exact ⟨_, (Res.tmp rfl Res.nil), _, rfl, h⟩
      · intro hb37
        replace h := M.ite_f h hb37
        refine WE.skip ?_
        refine WE.seq ?_
        refine WE.reg ?_
        refine LE.p (v := (Value.pointer p0)) (Wn.no rfl) rfl (R.move f34) ?_
        obtain ⟨a38, h39, h⟩ := h
        refine LE.p (v := (Value.pointer (some a38))) (Wn.no rfl) rfl (R.nilC (congrArg Value.pointer h39)) ?_
        refine LE.p (v := (Value.pointer (some a38))) (Wn.no rfl) rfl (R.fld (off := 0) fa72_0 rfl) ?_
        obtain ⟨t40, h41, h⟩ := h
        refine LE.r (v := (SV.v t40)) (Wn.no rfl) rfl (R.ld sc23 rfl h41) ?_
        refine LE.p (v := (Value.int .i64 p1)) (Wn.no rfl) rfl (R.move f35) ?_
        obtain ⟨h42, h43, h44, h⟩ := h
        refine LE.p (v := (SV.v (SV.sub t40 (Int.toNat (0 : Int)) (Int.toNat p1) 1))) (Wn.no rfl) rfl (R.slc (s := t40) (lo := (0 : Int)) (hi := p1) _ _ sl23 rfl rfl rfl h42 h43 h44) ?_
        refine LE.c (Wn.no rfl) rfl (R.call bd34 (Ls.cons rfl Ls.nil) rfl) (Calls.mono h ?_)
        rintro _ w47 ⟨r46, rfl, h⟩
        refine ⟨_, rfl, ?_⟩
        refine LE.p (v := (SV.v r46)) (Wn.no rfl) rfl (R.assign rfl) ?_
        refine LE.nil ?_
        refine WE.seq ?_
        refine WE.reg ?_
        refine LE.p (v := (Value.pointer p0)) (Wn.no rfl) rfl (R.move f34) ?_
        refine LE.p (v := (Value.pointer p0)) (Wn.no rfl) rfl (R.move f34) ?_
        obtain ⟨a48, h49, h⟩ := h
        refine LE.p (v := (Value.pointer (some a48))) (Wn.no rfl) rfl (R.nilC (congrArg Value.pointer h49)) ?_
        refine LE.p (v := (Value.pointer (some a48))) (Wn.no rfl) rfl (R.fld (off := 0) fa72_0 rfl) ?_
        obtain ⟨t50, h51, h⟩ := h
        refine LE.r (v := (SV.v t50)) (Wn.no rfl) rfl (R.ld sc23 rfl h51) ?_
        refine LE.p (v := (Value.int .i64 p1)) (Wn.no rfl) rfl (R.move f35) ?_
        obtain ⟨h52, h53, h54, h⟩ := h
        refine LE.p (v := (SV.v (SV.sub t50 (Int.toNat p1) (Int.toNat (t50.len : Int)) 1))) (Wn.no rfl) rfl (R.slc (s := t50) (lo := p1) (hi := (t50.len : Int)) _ _ sl23 rfl rfl rfl h52 h53 h54) ?_
        obtain ⟨a56, h57, h⟩ := h
        refine LE.p (v := (Value.pointer (some a56))) (Wn.no rfl) rfl (R.nilC (congrArg Value.pointer h57)) ?_
        refine LE.p (v := (Value.pointer (some a56))) (Wn.no rfl) rfl (R.fld (off := 0) fa72_0 rfl) ?_
        obtain ⟨w58, hww58, h59, h60, h⟩ := M.st_use h
        refine LE.s (Wn.no rfl) rfl (R.st (a := a56) (v := (SV.v (SV.sub t50 (Int.toNat p1) (Int.toNat (t50.len : Int)) 1))) sz23 rfl rfl rfl rfl h59 h60 hww58) ?_
        refine LE.nil ?_
        refine WE.seq ?_
        refine WE.reg ?_
        refine LE.p (v := (SV.v r46)) (Wn.no rfl) rfl (R.move rfl) ?_
        refine LE.p (v := (SV.v r46)) (Wn.no rfl) rfl (R.assign rfl) ?_
        refine LE.nil ?_
        refine WE.ret ?_
        exact ⟨_, (Res.tmp rfl Res.nil), _, rfl, h⟩
/-- The formula of (*signpost.signpostref4.Reader).Raw. -/
def F45 (p0 : Option Addr) (p1 : Int) (K : SV → World → Prop) (w0 : World) : Prop :=
M.join (fun (x2 : Bool) (w9 : World) => 
M.ite x2 (
K SV.nil w9) (
M.drew w9 fun w14 => 
M.nil p0 fun a15 =>
M.nil p0 fun a17 =>
M.ld SV.v a15 w14 fun t19 =>
M.ld (Value.int .i64) (a17.add 1) w14 fun t21 =>
M.ite (decide ((IntKind.i64.wrap ((t19.len : Int) - t21)) < p1)) (
M.nil p0 fun a24 =>
M.st (a24.add 2) (Value.bool true) w14 fun w26 =>
K SV.nil w26) (
M.drew w14 fun w29 => 
M.nil p0 fun a30 =>
M.nil p0 fun a32 =>
M.nil p0 fun a34 =>
M.ld SV.v a30 w29 fun t36 =>
M.ld (Value.int .i64) (a32.add 1) w29 fun t38 =>
M.ld (Value.int .i64) (a34.add 1) w29 fun t40 =>
M.bnd t38 (IntKind.i64.wrap (t40 + p1)) t36 <|
M.new (.cells #[] 5) w29 fun b48 w46 =>
M.keep (w46.cell? (a34.add 1) = some (Value.int .i64 t40)) <|
M.keep (w46.cell? (a32.add 1) = some (Value.int .i64 t38)) <|
M.keep (w46.cell? a30 = some (SV.v t36)) <|
M.app Try.prog 23 23 23 (SV.mk (some b48) 0 0) (SV.v (SV.sub t36 (Int.toNat t38) (Int.toNat (IntKind.i64.wrap (t40 + p1))) 1)) w46 fun s52 w53 =>
M.nil p0 fun a55 =>
M.ld (Value.int .i64) (a55.add 1) w53 fun t57 =>
M.nil p0 fun a59 =>
M.st (a59.add 1) (Value.int .i64 (IntKind.i64.wrap (t57 + p1))) w53 fun w61 =>
K s52 w61))) fun J1 => 
M.nil p0 fun a3 =>
M.ld Value.bool (a3.add 2) w0 fun t5 =>
M.ite t5 (
J1 true w0) (
J1 (decide (p1 < (1 : Int))) w0)
theorem F45_ok {w0 : World} {p0 : Option Addr} {p1 : Int} {K : SV → World → Prop} (h : F45 p0 p1 K w0) : Calls Try.prog 45 #[(Value.pointer p0), (Value.int .i64 p1)] w0 (R45 K) := by
  refine calls_of_WE (args := [(Value.pointer p0), (Value.int .i64 p1)]) (rs := [.tmp 4]) Try.func45 rfl (N := 56) rfl rfl rfl rfl ?_
  refine WE.seq ?_
  refine WE.reg ?_
  refine LE.p (v := (SV.v SV.nil)) (Wn.no rfl) rfl (R.assign rfl) ?_
  refine LE.nil ?_
  refine WE.seq ?_
  refine WE.seq ?_
  obtain ⟨J1, hJ1, h⟩ := M.join_use h
  refine WE.regJ (fun e w => ∃ (x2 : Bool), J1 x2 w ∧ e 0 = (Value.pointer p0) ∧ e 1 = (Value.int .i64 p1) ∧ e 13 = (Value.bool x2)) ?_ ?_
  · clear hJ1
    refine LE.p (v := (Value.pointer p0)) (Wn.no rfl) rfl (R.move rfl) ?_
    obtain ⟨a3, h4, h⟩ := h
    refine LE.p (v := (Value.pointer (some a3))) (Wn.no rfl) rfl (R.nilC (congrArg Value.pointer h4)) ?_
    refine LE.p (v := (Value.pointer (some (a3.add 2)))) (Wn.no rfl) rfl (R.fld (off := 2) fa70_2 rfl) ?_
    obtain ⟨t5, h6, h⟩ := h
    refine LE.r (v := (Value.bool t5)) (Wn.no rfl) rfl (R.ld sc4 rfl h6) ?_
    refine LE.p (v := (Value.bool t5)) (Wn.no rfl) rfl (R.move rfl) ?_
    rcases M.ite_use h with ⟨hb7, h⟩ | ⟨hb7, h⟩
    · refine LE.u (Un.no 4 10 false rfl rfl rfl (congrArg Value.bool hb7)) ?_
      refine LE.u (Un.no 4 10 false rfl rfl rfl (congrArg Value.bool hb7)) ?_
      refine LE.p (v := (Value.bool true)) (Wn.no rfl) rfl (R.pickT (congrArg Value.bool hb7) rfl) ?_
      refine LE.nil ?_
      exact ⟨_, h, rfl, rfl, rfl⟩
    · refine LE.p (v := (Value.int .i64 p1)) (Wn.yes 4 10 false rfl rfl rfl (congrArg Value.bool hb7)) rfl (R.move rfl) ?_
      refine LE.p (v := (Value.bool (decide (p1 < (1 : Int))))) (Wn.yes 4 10 false rfl rfl rfl (congrArg Value.bool hb7)) rfl (R.lss rfl rfl) ?_
      refine LE.p (v := (Value.bool (decide (p1 < (1 : Int))))) (Wn.no rfl) rfl (R.pickF (congrArg Value.bool hb7) rfl) ?_
      refine LE.nil ?_
      exact ⟨_, h, rfl, rfl, rfl⟩
  · rintro e8 w9 ⟨x2, h, f10, f11, f12⟩
    subst hJ1
    refine WE.condT rfl (b := x2) f12 ?_ ?_
    · intro hb13
      replace h := M.ite_t h hb13
      refine WE.seq ?_
      refine WE.reg ?_
      refine LE.p (v := (SV.v SV.nil)) (Wn.no rfl) rfl (R.assign rfl) ?_
      refine LE.nil ?_
      refine WE.ret ?_
      exact ⟨_, (Res.tmp rfl Res.nil), _, rfl, h⟩
    · intro hb13
      replace h := M.ite_f h hb13
      refine WE.skip ?_
      refine WE.seq ?_
      refine WE.seq ?_
      refine WE.draw mix ?_
      obtain ⟨w14, hww14, h⟩ := M.drew_use h
      rw [← hww14]
      clear hww14
      refine DE.t 0 (v := (Value.pointer p0)) rfl (by kernel_rfl) (Wn.no rfl) rfl (R.move f10) ?_
      obtain ⟨a15, h16, h⟩ := h
      refine DE.t 1 (v := (Value.pointer (some a15))) rfl (by kernel_rfl) (Wn.no rfl) rfl (R.nilC (congrArg Value.pointer h16)) ?_
      refine DE.t 2 (v := (Value.pointer (some a15))) rfl (by kernel_rfl) (Wn.no rfl) rfl (R.fld (off := 0) fa70_0 rfl) ?_
      refine DE.t 5 (v := (Value.pointer p0)) rfl (by kernel_rfl) (Wn.no rfl) rfl (R.move f10) ?_
      obtain ⟨a17, h18, h⟩ := h
      refine DE.t 6 (v := (Value.pointer (some a17))) rfl (by kernel_rfl) (Wn.no rfl) rfl (R.nilC (congrArg Value.pointer h18)) ?_
      refine DE.t 7 (v := (Value.pointer (some (a17.add 1)))) rfl (by kernel_rfl) (Wn.no rfl) rfl (R.fld (off := 1) fa70_1 rfl) ?_
      refine DE.t 10 (v := (Value.int .i64 p1)) rfl (by kernel_rfl) (Wn.no rfl) rfl (R.move f11) ?_
      obtain ⟨t19, h20, h⟩ := h
      refine DE.hold 3 (fun w => w.cell? a15 = some (SV.v t19)) (v := (SV.v t19)) rfl (by kernel_rfl) (Wn.no rfl) rfl h20 (fun w hs => R.ld sc23 rfl hs) ?_
      refine DE.t 4 (v := (Value.int .i64 (t19.len : Int))) rfl (by kernel_rfl) (Wn.no rfl) rfl (R.len sl23 rfl) ?_
      obtain ⟨t21, h22, h⟩ := h
      refine DE.main 8 (by kernel_rfl) ?_
      refine One.r 8 (v := (Value.int .i64 t21)) rfl (Wn.no rfl) rfl (R.ld sc3 rfl h22) (.inl rfl) ?_
      refine DE.t 9 (v := (Value.int .i64 (IntKind.i64.wrap ((t19.len : Int) - t21)))) rfl (by kernel_rfl) (Wn.no rfl) rfl (R.sub rfl rfl) ?_
      refine DE.t 11 (v := (Value.bool (decide ((IntKind.i64.wrap ((t19.len : Int) - t21)) < p1)))) rfl (by kernel_rfl) (Wn.no rfl) rfl (R.lss rfl rfl) ?_
      refine DE.done (by kernel_rfl) ?_
      refine WE.condT rfl (b := (decide ((IntKind.i64.wrap ((t19.len : Int) - t21)) < p1))) rfl ?_ ?_
      · intro hb23
        replace h := M.ite_t h hb23
        refine WE.seq ?_
        refine WE.reg ?_
        refine LE.p (v := (Value.pointer p0)) (Wn.no rfl) rfl (R.move f10) ?_
        obtain ⟨a24, h25, h⟩ := h
        refine LE.p (v := (Value.pointer (some a24))) (Wn.no rfl) rfl (R.nilC (congrArg Value.pointer h25)) ?_
        refine LE.p (v := (Value.pointer (some (a24.add 2)))) (Wn.no rfl) rfl (R.fld (off := 2) fa70_2 rfl) ?_
        obtain ⟨w26, hww26, h27, h28, h⟩ := M.st_use h
        refine LE.s (Wn.no rfl) rfl (R.st (a := (a24.add 2)) (v := (Value.bool true)) sz4 rfl rfl rfl rfl h27 h28 hww26) ?_
        refine LE.nil ?_
        refine WE.seq ?_
        refine WE.reg ?_
        refine LE.p (v := (SV.v SV.nil)) (Wn.no rfl) rfl (R.assign rfl) ?_
        refine LE.nil ?_
        refine WE.ret ?_
        exact ⟨_, (Res.tmp rfl Res.nil), _, rfl, h⟩
      · intro hb23
        replace h := M.ite_f h hb23
        refine WE.skip ?_
        refine WE.seq ?_
        refine WE.draw mix ?_
        obtain ⟨w29, hww29, h⟩ := M.drew_use h
        rw [← hww29]
        clear hww29
        refine DE.t 1 (v := (Value.pointer p0)) rfl (by kernel_rfl) (Wn.no rfl) rfl (R.move f10) ?_
        obtain ⟨a30, h31, h⟩ := h
        refine DE.t 2 (v := (Value.pointer (some a30))) rfl (by kernel_rfl) (Wn.no rfl) rfl (R.nilC (congrArg Value.pointer h31)) ?_
        refine DE.t 3 (v := (Value.pointer (some a30))) rfl (by kernel_rfl) (Wn.no rfl) rfl (R.fld (off := 0) fa70_0 rfl) ?_
        refine DE.t 5 (v := (Value.pointer p0)) rfl (by kernel_rfl) (Wn.no rfl) rfl (R.move f10) ?_
        obtain ⟨a32, h33, h⟩ := h
        refine DE.t 6 (v := (Value.pointer (some a32))) rfl (by kernel_rfl) (Wn.no rfl) rfl (R.nilC (congrArg Value.pointer h33)) ?_
        refine DE.t 7 (v := (Value.pointer (some (a32.add 1)))) rfl (by kernel_rfl) (Wn.no rfl) rfl (R.fld (off := 1) fa70_1 rfl) ?_
        refine DE.t 9 (v := (Value.pointer p0)) rfl (by kernel_rfl) (Wn.no rfl) rfl (R.move f10) ?_
        obtain ⟨a34, h35, h⟩ := h
        refine DE.t 10 (v := (Value.pointer (some a34))) rfl (by kernel_rfl) (Wn.no rfl) rfl (R.nilC (congrArg Value.pointer h35)) ?_
        refine DE.t 11 (v := (Value.pointer (some (a34.add 1)))) rfl (by kernel_rfl) (Wn.no rfl) rfl (R.fld (off := 1) fa70_1 rfl) ?_
        refine DE.t 13 (v := (Value.int .i64 p1)) rfl (by kernel_rfl) (Wn.no rfl) rfl (R.move f11) ?_
        obtain ⟨t36, h37, h⟩ := h
        refine DE.hold 4 (fun w => w.cell? a30 = some (SV.v t36)) (v := (SV.v t36)) rfl (by kernel_rfl) (Wn.no rfl) rfl h37 (fun w hs => R.ld sc23 rfl hs) ?_
        obtain ⟨t38, h39, h⟩ := h
        refine DE.hold 8 (fun w => w.cell? (a32.add 1) = some (Value.int .i64 t38)) (v := (Value.int .i64 t38)) rfl (by kernel_rfl) (Wn.no rfl) rfl h39 (fun w hs => R.ld sc3 rfl hs) ?_
        obtain ⟨t40, h41, h⟩ := h
        refine DE.hold 12 (fun w => w.cell? (a34.add 1) = some (Value.int .i64 t40)) (v := (Value.int .i64 t40)) rfl (by kernel_rfl) (Wn.no rfl) rfl h41 (fun w hs => R.ld sc3 rfl hs) ?_
        refine DE.t 14 (v := (Value.int .i64 (IntKind.i64.wrap (t40 + p1)))) rfl (by kernel_rfl) (Wn.no rfl) rfl (R.add rfl rfl) ?_
        obtain ⟨h42, h43, h44, h⟩ := h
        refine DE.t 15 (v := (SV.v (SV.sub t36 (Int.toNat t38) (Int.toNat (IntKind.i64.wrap (t40 + p1))) 1))) rfl (by kernel_rfl) (Wn.no rfl) rfl (R.slc (s := t36) (lo := t38) (hi := (IntKind.i64.wrap (t40 + p1))) _ _ sl23 rfl rfl rfl h42 h43 h44) ?_
        obtain ⟨b48, hpb48, w46, hww46, h⟩ := M.new_use h
        obtain ⟨k49, h⟩ := h
        obtain ⟨k50, h⟩ := h
        obtain ⟨k51, h⟩ := h
        refine DE.main 0 (by kernel_rfl) ?_
        refine One.r 0 (v := (SV.v (SV.mk (some b48) 0 0))) rfl (Wn.no rfl) rfl (R.bsl (by exact Ls.nil) (fun w => bs23_0  w) hpb48 hww46) (.inr ⟨fun _ => k49, fun _ => k50, fun _ => k51, trivial⟩) ?_
        obtain ⟨s52, w53, h54, h⟩ := h
        refine DE.main 16 (by kernel_rfl) ?_
        refine One.r 16 (v := (SV.v s52)) rfl (Wn.no rfl) rfl (R.app (s := (SV.mk (some b48) 0 0)) (r := s52) rfl rfl h54) (.inr ⟨aftT (by kernel_rfl), aftT (by kernel_rfl), aftT (by kernel_rfl), trivial⟩) ?_
        refine DE.t 17 (v := (SV.v s52)) rfl (by kernel_rfl) (Wn.no rfl) rfl (R.assign rfl) ?_
        refine DE.done (by kernel_rfl) ?_
        refine WE.seq ?_
        refine WE.reg ?_
        refine LE.p (v := (Value.pointer p0)) (Wn.no rfl) rfl (R.move f10) ?_
        refine LE.p (v := (Value.pointer p0)) (Wn.no rfl) rfl (R.move f10) ?_
        obtain ⟨a55, h56, h⟩ := h
        refine LE.p (v := (Value.pointer (some a55))) (Wn.no rfl) rfl (R.nilC (congrArg Value.pointer h56)) ?_
        refine LE.p (v := (Value.pointer (some (a55.add 1)))) (Wn.no rfl) rfl (R.fld (off := 1) fa70_1 rfl) ?_
        obtain ⟨t57, h58, h⟩ := h
        refine LE.r (v := (Value.int .i64 t57)) (Wn.no rfl) rfl (R.ld sc3 rfl h58) ?_
        refine LE.p (v := (Value.int .i64 p1)) (Wn.no rfl) rfl (R.move f11) ?_
        refine LE.p (v := (Value.int .i64 (IntKind.i64.wrap (t57 + p1)))) (Wn.no rfl) rfl (R.add rfl rfl) ?_
        obtain ⟨a59, h60, h⟩ := h
        refine LE.p (v := (Value.pointer (some a59))) (Wn.no rfl) rfl (R.nilC (congrArg Value.pointer h60)) ?_
        refine LE.p (v := (Value.pointer (some (a59.add 1)))) (Wn.no rfl) rfl (R.fld (off := 1) fa70_1 rfl) ?_
        obtain ⟨w61, hww61, h62, h63, h⟩ := M.st_use h
        refine LE.s (Wn.no rfl) rfl (R.st (a := (a59.add 1)) (v := (Value.int .i64 (IntKind.i64.wrap (t57 + p1)))) sz3 rfl rfl rfl rfl h62 h63 hww61) ?_
        refine LE.nil ?_
        refine WE.seq ?_
        refine WE.reg ?_
        refine LE.p (v := (SV.v s52)) (Wn.no rfl) rfl (R.move rfl) ?_
        refine LE.p (v := (SV.v s52)) (Wn.no rfl) rfl (R.assign rfl) ?_
        refine LE.nil ?_
        refine WE.ret ?_
        exact ⟨_, (Res.tmp rfl Res.nil), _, rfl, h⟩
end Go.Proofs.Ytdlefnpnnpohmaa
