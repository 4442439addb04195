/-
  Printed by gen.py: the formula of each function, and that it holds of the function.
-/
import Derived.Test.YtdlefnpnnpohmaaTy
namespace Go.Proofs.Ytdlefnpnnpohmaa
set_option linter.unusedVariables false
set_option linter.unusedSimpArgs false
open Go.Sp
set_option linter.unusedVariables false
/-- The formula of signpost.signpostlaw10.read. -/
def F11 (p0 : SV) (K : Bool → World → Prop) (w0 : World) : Prop :=
Calls Try.prog 14 #[(SV.v p0)] w0 (R14 fun r1 r2 r3 r4 r5 r6 w7 =>
M.new (.cells #[(Value.int .i64 (0 : Int)), (Value.int .i64 (0 : Int)), (Value.int .u32 (0 : Int))] 29) w7 fun b9 w8 =>
M.new (.cells #[(Value.int .i64 (0 : Int)), (Value.int .i64 (0 : Int)), (SV.v SV.nil)] 35) w8 fun b11 w10 =>
M.stA b9 [(Value.int .i64 r1), (Value.int .i64 r2), (Value.int .u32 r3)] w10 fun w12 =>
M.stA b11 [(Value.int .i64 r4), (Value.int .i64 r5), (SV.v r6)] w12 fun w14 =>
Calls Try.prog 22 #[(SV.v p0)] w14 (R22 fun r16 r17 r18 r19 r20 r21 w22 =>
M.new (.cells #[(Value.int .i64 (0 : Int)), (Value.int .i64 (0 : Int)), (Value.int .u32 (0 : Int))] 26) w22 fun b24 w23 =>
M.new (.cells #[(Value.int .i64 (0 : Int)), (Value.int .i64 (0 : Int)), (SV.v SV.nil)] 35) w23 fun b26 w25 =>
M.stA b24 [(Value.int .i64 r16), (Value.int .i64 r17), (Value.int .u32 r18)] w25 fun w27 =>
M.stA b26 [(Value.int .i64 r19), (Value.int .i64 r20), (SV.v r21)] w27 fun w29 =>
M.join (fun (x32 : Bool) (w63 : World) => 
K x32 w63) fun J31 => 
M.ld (Value.int .i64) b9 w29 fun t33 =>
M.ld (Value.int .i64) b24 w29 fun t35 =>
M.ite (t33 == t35) (
M.ld (Value.int .i64) (b9.add 1) w29 fun t38 =>
M.ld (Value.int .i64) (b24.add 1) w29 fun t40 =>
M.ite (t38 == t40) (
M.ld (Value.int .u32) (b9.add 2) w29 fun t43 =>
M.ld (Value.int .u32) (b24.add 2) w29 fun t45 =>
M.ite (t43 == t45) (
M.ld (Value.int .i64) b11 w29 fun t48 =>
M.ld (Value.int .i64) (b11.add 1) w29 fun t50 =>
M.ld SV.v (b11.add 2) w29 fun t52 =>
M.ld (Value.int .i64) b26 w29 fun t54 =>
M.ld (Value.int .i64) (b26.add 1) w29 fun t56 =>
M.ld SV.v (b26.add 2) w29 fun t58 =>
Calls Try.prog 15 #[(Value.agg #[(Value.int .i64 t48), (Value.int .i64 t50), (SV.v t52)]), (Value.agg #[(Value.int .i64 t54), (Value.int .i64 t56), (SV.v t58)])] w29 (R15 fun r60 w61 =>
J31 r60 w61)) (
J31 false w29)) (
J31 false w29)) (
J31 false w29)))
theorem F11_ok {w0 : World} {p0 : SV} {K : Bool → World → Prop} (h : F11 p0 K w0) : Calls Try.prog 11 #[(SV.v p0)] w0 (R11 K) := by
  refine calls_of_WE (args := [(SV.v p0)]) (rs := [.tmp 2]) Try.func11 rfl (N := 41) rfl rfl rfl rfl ?_
  refine WE.seq ?_
  refine WE.reg ?_
  refine LE.p (v := (Value.bool false)) (Wn.no rfl) rfl (R.assign rfl) ?_
  refine LE.nil ?_
  refine WE.seq ?_
  refine WE.reg ?_
  refine LE.p (v := (SV.v p0)) (Wn.no rfl) rfl (R.move rfl) ?_
  refine LE.c (Wn.no rfl) rfl (R.call bd14 (Ls.cons rfl Ls.nil) rfl) (Calls.mono h ?_)
  rintro _ w7 ⟨r1, r2, r3, r4, r5, r6, rfl, h⟩
  refine ⟨_, rfl, ?_⟩
  refine LE.p (v := (Value.tuple #[(Value.agg #[(Value.int .i64 r1), (Value.int .i64 r2), (Value.int .u32 r3)]), (Value.agg #[(Value.int .i64 r4), (Value.int .i64 r5), (SV.v r6)])])) (Wn.no rfl) rfl (R.move rfl) ?_
  refine LE.p (v := (Value.agg #[(Value.int .i64 r1), (Value.int .i64 r2), (Value.int .u32 r3)])) (Wn.no rfl) rfl (R.ext rfl rfl) ?_
  refine LE.p (v := (Value.agg #[(Value.int .i64 r4), (Value.int .i64 r5), (SV.v r6)])) (Wn.no rfl) rfl (R.ext rfl rfl) ?_
  obtain ⟨b9, hpb9, w8, hww8, h⟩ := M.new_use h
  refine LE.r (v := (Value.pointer (some b9))) (Wn.no rfl) rfl (R.alloc (cs := #[(Value.int .i64 (0 : Int)), (Value.int .i64 (0 : Int)), (Value.int .u32 (0 : Int))]) ze29 rfl hpb9 hww8) ?_
  obtain ⟨b11, hpb11, w10, hww10, h⟩ := M.new_use h
  refine LE.r (v := (Value.pointer (some b11))) (Wn.no rfl) rfl (R.alloc (cs := #[(Value.int .i64 (0 : Int)), (Value.int .i64 (0 : Int)), (SV.v SV.nil)]) ze35 rfl hpb11 hww10) ?_
  obtain ⟨w12, hww12, h13, h⟩ := M.stA_use h
  refine LE.s (Wn.no rfl) rfl (R.stA (a := b9) [(Value.int .i64 r1), (Value.int .i64 r2), (Value.int .u32 r3)] sz29 rfl rfl rfl (by simp [Value.oneCell']) h13 hww12) ?_
  obtain ⟨w14, hww14, h15, h⟩ := M.stA_use h
  refine LE.s (Wn.no rfl) rfl (R.stA (a := b11) [(Value.int .i64 r4), (Value.int .i64 r5), (SV.v r6)] sz35 rfl rfl rfl (by simp [Value.oneCell']) h15 hww14) ?_
  refine LE.nil ?_
  refine WE.seq ?_
  refine WE.reg ?_
  refine LE.p (v := (SV.v p0)) (Wn.no rfl) rfl (R.move rfl) ?_
  refine LE.c (Wn.no rfl) rfl (R.call bd22 (Ls.cons rfl Ls.nil) rfl) (Calls.mono h ?_)
  rintro _ w22 ⟨r16, r17, r18, r19, r20, r21, rfl, h⟩
  refine ⟨_, rfl, ?_⟩
  refine LE.p (v := (Value.tuple #[(Value.agg #[(Value.int .i64 r16), (Value.int .i64 r17), (Value.int .u32 r18)]), (Value.agg #[(Value.int .i64 r19), (Value.int .i64 r20), (SV.v r21)])])) (Wn.no rfl) rfl (R.move rfl) ?_
  refine LE.p (v := (Value.agg #[(Value.int .i64 r16), (Value.int .i64 r17), (Value.int .u32 r18)])) (Wn.no rfl) rfl (R.ext rfl rfl) ?_
  refine LE.p (v := (Value.agg #[(Value.int .i64 r19), (Value.int .i64 r20), (SV.v r21)])) (Wn.no rfl) rfl (R.ext rfl rfl) ?_
  obtain ⟨b24, hpb24, w23, hww23, h⟩ := M.new_use h
  refine LE.r (v := (Value.pointer (some b24))) (Wn.no rfl) rfl (R.alloc (cs := #[(Value.int .i64 (0 : Int)), (Value.int .i64 (0 : Int)), (Value.int .u32 (0 : Int))]) ze26 rfl hpb24 hww23) ?_
  obtain ⟨b26, hpb26, w25, hww25, h⟩ := M.new_use h
  refine LE.r (v := (Value.pointer (some b26))) (Wn.no rfl) rfl (R.alloc (cs := #[(Value.int .i64 (0 : Int)), (Value.int .i64 (0 : Int)), (SV.v SV.nil)]) ze35 rfl hpb26 hww25) ?_
  obtain ⟨w27, hww27, h28, h⟩ := M.stA_use h
  refine LE.s (Wn.no rfl) rfl (R.stA (a := b24) [(Value.int .i64 r16), (Value.int .i64 r17), (Value.int .u32 r18)] sz26 rfl rfl rfl (by simp [Value.oneCell']) h28 hww27) ?_
  obtain ⟨w29, hww29, h30, h⟩ := M.stA_use h
  refine LE.s (Wn.no rfl) rfl (R.stA (a := b26) [(Value.int .i64 r19), (Value.int .i64 r20), (SV.v r21)] sz35 rfl rfl rfl (by simp [Value.oneCell']) h30 hww29) ?_
  refine LE.nil ?_
  refine WE.seq ?_
  obtain ⟨J31, hJ31, h⟩ := M.join_use h
  refine WE.regJ (fun e w => ∃ (x32 : Bool), J31 x32 w ∧ e 2 = (Value.bool x32)) ?_ ?_
  · clear hJ31
    refine LE.p (v := (Value.pointer (some b9))) (Wn.no rfl) rfl (R.fld (off := 0) fa29_0 rfl) ?_
    obtain ⟨t33, h34, h⟩ := h
    refine LE.r (v := (Value.int .i64 t33)) (Wn.no rfl) rfl (R.ld sc3 rfl h34) ?_
    refine LE.p (v := (Value.pointer (some b24))) (Wn.no rfl) rfl (R.fld (off := 0) fa26_0 rfl) ?_
    obtain ⟨t35, h36, h⟩ := h
    refine LE.r (v := (Value.int .i64 t35)) (Wn.no rfl) rfl (R.ld sc3 rfl h36) ?_
    refine LE.p (v := (Value.bool (t33 == t35))) (Wn.no rfl) rfl (R.eql rfl rfl) ?_
    refine LE.p (v := (Value.bool (t33 == t35))) (Wn.no rfl) rfl (R.move rfl) ?_
    rcases M.ite_use h with ⟨hb37, h⟩ | ⟨hb37, h⟩
    · refine LE.p (v := (Value.pointer (some (b9.add 1)))) (Wn.yes 5 22 true rfl rfl rfl (congrArg Value.bool hb37)) rfl (R.fld (off := 1) fa29_1 rfl) ?_
      obtain ⟨t38, h39, h⟩ := h
      refine LE.r (v := (Value.int .i64 t38)) (Wn.yes 5 22 true rfl rfl rfl (congrArg Value.bool hb37)) rfl (R.ld sc3 rfl h39) ?_
      refine LE.p (v := (Value.pointer (some (b24.add 1)))) (Wn.yes 5 22 true rfl rfl rfl (congrArg Value.bool hb37)) rfl (R.fld (off := 1) fa26_1 rfl) ?_
      obtain ⟨t40, h41, h⟩ := h
      refine LE.r (v := (Value.int .i64 t40)) (Wn.yes 5 22 true rfl rfl rfl (congrArg Value.bool hb37)) rfl (R.ld sc3 rfl h41) ?_
      refine LE.p (v := (Value.bool (t38 == t40))) (Wn.yes 5 22 true rfl rfl rfl (congrArg Value.bool hb37)) rfl (R.eql rfl rfl) ?_
      refine LE.p (v := (Value.bool (t38 == t40))) (Wn.no rfl) rfl (R.pickT (congrArg Value.bool hb37) rfl) ?_
      refine LE.p (v := (Value.bool (t38 == t40))) (Wn.no rfl) rfl (R.move rfl) ?_
      rcases M.ite_use h with ⟨hb42, h⟩ | ⟨hb42, h⟩
      · refine LE.p (v := (Value.pointer (some (b9.add 2)))) (Wn.yes 12 29 true rfl rfl rfl (congrArg Value.bool hb42)) rfl (R.fld (off := 2) fa29_2 rfl) ?_
        obtain ⟨t43, h44, h⟩ := h
        refine LE.r (v := (Value.int .u32 t43)) (Wn.yes 12 29 true rfl rfl rfl (congrArg Value.bool hb42)) rfl (R.ld sc22 rfl h44) ?_
        refine LE.p (v := (Value.pointer (some (b24.add 2)))) (Wn.yes 12 29 true rfl rfl rfl (congrArg Value.bool hb42)) rfl (R.fld (off := 2) fa26_2 rfl) ?_
        obtain ⟨t45, h46, h⟩ := h
        refine LE.r (v := (Value.int .u32 t45)) (Wn.yes 12 29 true rfl rfl rfl (congrArg Value.bool hb42)) rfl (R.ld sc22 rfl h46) ?_
        refine LE.p (v := (Value.bool (t43 == t45))) (Wn.yes 12 29 true rfl rfl rfl (congrArg Value.bool hb42)) rfl (R.eql rfl rfl) ?_
        refine LE.p (v := (Value.bool (t43 == t45))) (Wn.no rfl) rfl (R.pickT (congrArg Value.bool hb42) rfl) ?_
        refine LE.p (v := (Value.bool (t43 == t45))) (Wn.no rfl) rfl (R.move rfl) ?_
        rcases M.ite_use h with ⟨hb47, h⟩ | ⟨hb47, h⟩
        · obtain ⟨t48, h49, h⟩ := h
          obtain ⟨t50, h51, h⟩ := h
          obtain ⟨t52, h53, h⟩ := h
          refine LE.r (v := (Value.agg #[(Value.int .i64 t48), (Value.int .i64 t50), (SV.v t52)])) (Wn.yes 19 36 true rfl rfl rfl (congrArg Value.bool hb47)) rfl (R.ldA ag35 sz35 rfl rfl (Cs.cons h49 (Cs.cons h51 (Cs.cons h53 Cs.nil)))) ?_
          obtain ⟨t54, h55, h⟩ := h
          obtain ⟨t56, h57, h⟩ := h
          obtain ⟨t58, h59, h⟩ := h
          refine LE.r (v := (Value.agg #[(Value.int .i64 t54), (Value.int .i64 t56), (SV.v t58)])) (Wn.yes 19 36 true rfl rfl rfl (congrArg Value.bool hb47)) rfl (R.ldA ag35 sz35 rfl rfl (Cs.cons h55 (Cs.cons h57 (Cs.cons h59 Cs.nil)))) ?_
          refine LE.c (Wn.yes 19 36 true rfl rfl rfl (congrArg Value.bool hb47)) rfl (R.call bd15 (Ls.cons rfl (Ls.cons rfl Ls.nil)) rfl) (Calls.mono h ?_)
          rintro _ w61 ⟨r60, rfl, h⟩
          refine ⟨_, rfl, ?_⟩
          refine LE.p (v := (Value.bool r60)) (Wn.no rfl) rfl (R.pickT (congrArg Value.bool hb47) rfl) ?_
          refine LE.p (v := (Value.bool r60)) (Wn.no rfl) rfl (R.assign rfl) ?_
          refine LE.nil ?_
          exact ⟨_, h, rfl⟩
        · refine LE.u (Un.no 19 36 true rfl rfl rfl (congrArg Value.bool hb47)) ?_
          refine LE.u (Un.no 19 36 true rfl rfl rfl (congrArg Value.bool hb47)) ?_
          refine LE.u (Un.no 19 36 true rfl rfl rfl (congrArg Value.bool hb47)) ?_
          refine LE.p (v := (Value.bool false)) (Wn.no rfl) rfl (R.pickF (congrArg Value.bool hb47) rfl) ?_
          refine LE.p (v := (Value.bool false)) (Wn.no rfl) rfl (R.assign rfl) ?_
          refine LE.nil ?_
          exact ⟨_, h, rfl⟩
      · refine LE.u (Un.no 12 29 true rfl rfl rfl (congrArg Value.bool hb42)) ?_
        refine LE.u (Un.no 12 29 true rfl rfl rfl (congrArg Value.bool hb42)) ?_
        refine LE.u (Un.no 12 29 true rfl rfl rfl (congrArg Value.bool hb42)) ?_
        refine LE.u (Un.no 12 29 true rfl rfl rfl (congrArg Value.bool hb42)) ?_
        refine LE.u (Un.no 12 29 true rfl rfl rfl (congrArg Value.bool hb42)) ?_
        refine LE.p (v := (Value.bool false)) (Wn.no rfl) rfl (R.pickF (congrArg Value.bool hb42) rfl) ?_
        refine LE.p (v := (Value.bool false)) (Wn.no rfl) rfl (R.move rfl) ?_
        refine LE.u (Un.no 19 36 true rfl rfl rfl rfl) ?_
        refine LE.u (Un.no 19 36 true rfl rfl rfl rfl) ?_
        refine LE.u (Un.no 19 36 true rfl rfl rfl rfl) ?_
        refine LE.p (v := (Value.bool false)) (Wn.no rfl) rfl (R.pickF rfl rfl) ?_
        refine LE.p (v := (Value.bool false)) (Wn.no rfl) rfl (R.assign rfl) ?_
        refine LE.nil ?_
        exact ⟨_, h, rfl⟩
    · refine LE.u (Un.no 5 22 true rfl rfl rfl (congrArg Value.bool hb37)) ?_
      refine LE.u (Un.no 5 22 true rfl rfl rfl (congrArg Value.bool hb37)) ?_
      refine LE.u (Un.no 5 22 true rfl rfl rfl (congrArg Value.bool hb37)) ?_
      refine LE.u (Un.no 5 22 true rfl rfl rfl (congrArg Value.bool hb37)) ?_
      refine LE.u (Un.no 5 22 true rfl rfl rfl (congrArg Value.bool hb37)) ?_
      refine LE.p (v := (Value.bool false)) (Wn.no rfl) rfl (R.pickF (congrArg Value.bool hb37) rfl) ?_
      refine LE.p (v := (Value.bool false)) (Wn.no rfl) rfl (R.move rfl) ?_
      refine LE.u (Un.no 12 29 true rfl rfl rfl rfl) ?_
      refine LE.u (Un.no 12 29 true rfl rfl rfl rfl) ?_
      refine LE.u (Un.no 12 29 true rfl rfl rfl rfl) ?_
      refine LE.u (Un.no 12 29 true rfl rfl rfl rfl) ?_
      refine LE.u (Un.no 12 29 true rfl rfl rfl rfl) ?_
      refine LE.p (v := (Value.bool false)) (Wn.no rfl) rfl (R.pickF rfl rfl) ?_
      refine LE.p (v := (Value.bool false)) (Wn.no rfl) rfl (R.move rfl) ?_
      refine LE.u (Un.no 19 36 true rfl rfl rfl rfl) ?_
      refine LE.u (Un.no 19 36 true rfl rfl rfl rfl) ?_
      refine LE.u (Un.no 19 36 true rfl rfl rfl rfl) ?_
      refine LE.p (v := (Value.bool false)) (Wn.no rfl) rfl (R.pickF rfl rfl) ?_
      refine LE.p (v := (Value.bool false)) (Wn.no rfl) rfl (R.assign rfl) ?_
      refine LE.nil ?_
      exact ⟨_, h, rfl⟩
  · rintro e62 w63 ⟨x32, h, f64⟩
    subst hJ31
    refine WE.ret ?_
    exact ⟨_, (Res.tmp f64 Res.nil), _, rfl, h⟩
/-- The formula of signpost.signpostkeep.Cut. -/
def F12 (p0 : SV) (p1 : Int) (K : SV → World → Prop) (w0 : World) : Prop :=
M.ite (decide (p1 < (p0.len : Int))) (
M.bnd (0 : Int) p1 p0 <|
K (SV.sub p0 (Int.toNat (0 : Int)) (Int.toNat p1) 1) w0) (
K p0 w0)
theorem F12_ok {w0 : World} {p0 : SV} {p1 : Int} {K : SV → World → Prop} (h : F12 p0 p1 K w0) : Calls Try.prog 12 #[(SV.v p0), (Value.int .i64 p1)] w0 (R12 K) := by
  refine calls_of_WE (args := [(SV.v p0), (Value.int .i64 p1)]) (rs := [.tmp 4]) Try.func12 rfl (N := 13) rfl rfl rfl rfl ?_
  refine WE.seq ?_
  refine WE.reg ?_
  refine LE.p (v := (SV.v SV.nil)) (Wn.no rfl) rfl (R.assign rfl) ?_
  refine LE.nil ?_
  refine WE.seq ?_
  refine WE.seq ?_
  refine WE.reg ?_
  refine LE.p (v := (SV.v p0)) (Wn.no rfl) rfl (R.move rfl) ?_
  refine LE.p (v := (Value.int .i64 (p0.len : Int))) (Wn.no rfl) rfl (R.len sl23 rfl) ?_
  refine LE.p (v := (Value.int .i64 p1)) (Wn.no rfl) rfl (R.move rfl) ?_
  refine LE.p (v := (Value.bool (decide (p1 < (p0.len : Int))))) (Wn.no rfl) rfl (R.gtr rfl rfl) ?_
  refine LE.nil ?_
  refine WE.condT rfl (b := (decide (p1 < (p0.len : Int)))) rfl ?_ ?_
  · intro hb1
    replace h := M.ite_t h hb1
    refine WE.seq ?_
    refine WE.reg ?_
    refine LE.p (v := (SV.v p0)) (Wn.no rfl) rfl (R.move rfl) ?_
    refine LE.p (v := (Value.int .i64 p1)) (Wn.no rfl) rfl (R.move rfl) ?_
    obtain ⟨h2, h3, h4, h⟩ := h
    refine LE.p (v := (SV.v (SV.sub p0 (Int.toNat (0 : Int)) (Int.toNat p1) 1))) (Wn.no rfl) rfl (R.slc (s := p0) (lo := (0 : Int)) (hi := p1) _ _ sl23 rfl rfl rfl h2 h3 h4) ?_
    refine LE.p (v := (SV.v (SV.sub p0 (Int.toNat (0 : Int)) (Int.toNat p1) 1))) (Wn.no rfl) rfl (R.assign rfl) ?_
    refine LE.nil ?_
    refine WE.ret ?_
    exact ⟨_, (Res.tmp rfl Res.nil), _, rfl, h⟩
  · intro hb1
    replace h := M.ite_f h hb1
    refine WE.skip ?_
    refine WE.seq ?_
    refine WE.reg ?_
    refine LE.p (v := (SV.v p0)) (Wn.no rfl) rfl (R.move rfl) ?_
    refine LE.p (v := (SV.v p0)) (Wn.no rfl) rfl (R.assign rfl) ?_
    refine LE.nil ?_
    refine WE.ret ?_
    exact ⟨_, (Res.tmp rfl Res.nil), _, rfl, h⟩
/-- The formula of signpost.signpostlaw10.known. -/
def F13  (K : Bool → World → Prop) (w0 : World) : Prop :=
Calls Try.prog 16 #[(Value.agg #[(Value.int .i64 (65001 : Int)), (Value.int .i64 (90 : Int)), (Value.int .u32 (167772161 : Int))])] w0 (R16 fun r1 r2 w3 =>
M.join (fun (x5 : Bool) (w10 : World) => 
K x5 w10) fun J4 => 
M.b2s Try.prog 23 9 r1 w3 fun t6 =>
M.ite (t6.toList == str1.toList) (
J4 (r2 == (0 : Int)) w3) (
J4 false w3))
theorem F13_ok {w0 : World}  {K : Bool → World → Prop} (h : F13 K w0) : Calls Try.prog 13 #[] w0 (R13 K) := by
  refine calls_of_WE (args := []) (rs := [.tmp 0]) Try.func13 rfl (N := 15) rfl rfl rfl rfl ?_
  refine WE.seq ?_
  refine WE.reg ?_
  refine LE.p (v := (Value.bool false)) (Wn.no rfl) rfl (R.assign rfl) ?_
  refine LE.nil ?_
  refine WE.seq ?_
  refine WE.reg ?_
  refine LE.p (v := (Value.agg #[(Value.int .i64 (65001 : Int)), (Value.int .i64 (90 : Int)), (Value.int .u32 (167772161 : Int))])) (Wn.no rfl) rfl (R.bld (by exact (Ls.cons (R.Pr rfl) (Ls.cons (R.Pr rfl) (Ls.cons (R.Pr rfl) Ls.nil)))) (fun w => bu29_0_1_2 (65001 : Int) (90 : Int) (167772161 : Int) w)) ?_
  refine LE.c (Wn.no rfl) rfl (R.call bd16 (Ls.cons rfl Ls.nil) rfl) (Calls.mono h ?_)
  rintro _ w3 ⟨r1, r2, rfl, h⟩
  refine ⟨_, rfl, ?_⟩
  refine LE.p (v := (Value.tuple #[(SV.v r1), (Value.int .i64 r2)])) (Wn.no rfl) rfl (R.move rfl) ?_
  refine LE.p (v := (SV.v r1)) (Wn.no rfl) rfl (R.ext rfl rfl) ?_
  refine LE.p (v := (Value.int .i64 r2)) (Wn.no rfl) rfl (R.ext rfl rfl) ?_
  refine LE.p (v := (SV.v r1)) (Wn.no rfl) rfl (R.assign rfl) ?_
  refine LE.p (v := (Value.int .i64 r2)) (Wn.no rfl) rfl (R.assign rfl) ?_
  refine LE.nil ?_
  refine WE.seq ?_
  obtain ⟨J4, hJ4, h⟩ := M.join_use h
  refine WE.regJ (fun e w => ∃ (x5 : Bool), J4 x5 w ∧ e 0 = (Value.bool x5)) ?_ ?_
  · clear hJ4
    refine LE.p (v := (SV.v r1)) (Wn.no rfl) rfl (R.move rfl) ?_
    obtain ⟨t6, h7, h⟩ := h
    refine LE.r (v := (Value.string t6)) (Wn.no rfl) rfl (R.b2s (s := r1) h7 rfl) ?_
    refine LE.p (v := (Value.bool (t6.toList == str1.toList))) (Wn.no rfl) rfl (R.seql rfl rfl) ?_
    refine LE.p (v := (Value.bool (t6.toList == str1.toList))) (Wn.no rfl) rfl (R.move rfl) ?_
    rcases M.ite_use h with ⟨hb8, h⟩ | ⟨hb8, h⟩
    · refine LE.p (v := (Value.int .i64 r2)) (Wn.yes 3 11 true rfl rfl rfl (congrArg Value.bool hb8)) rfl (R.move rfl) ?_
      refine LE.p (v := (Value.bool (r2 == (0 : Int)))) (Wn.yes 3 11 true rfl rfl rfl (congrArg Value.bool hb8)) rfl (R.eql rfl rfl) ?_
      refine LE.p (v := (Value.bool (r2 == (0 : Int)))) (Wn.no rfl) rfl (R.pickT (congrArg Value.bool hb8) rfl) ?_
      refine LE.p (v := (Value.bool (r2 == (0 : Int)))) (Wn.no rfl) rfl (R.assign rfl) ?_
      refine LE.nil ?_
      exact ⟨_, h, rfl⟩
    · refine LE.u (Un.no 3 11 true rfl rfl rfl (congrArg Value.bool hb8)) ?_
      refine LE.u (Un.no 3 11 true rfl rfl rfl (congrArg Value.bool hb8)) ?_
      refine LE.p (v := (Value.bool false)) (Wn.no rfl) rfl (R.pickF (congrArg Value.bool hb8) rfl) ?_
      refine LE.p (v := (Value.bool false)) (Wn.no rfl) rfl (R.assign rfl) ?_
      refine LE.nil ?_
      exact ⟨_, h, rfl⟩
  · rintro e9 w10 ⟨x5, h, f11⟩
    subst hJ4
    refine WE.ret ?_
    exact ⟨_, (Res.tmp f11 Res.nil), _, rfl, h⟩
/-- The formula of signpost.open.Decode. -/
def F14 (p0 : SV) (K : Int → Int → Int → Int → Int → SV → World → Prop) (w0 : World) : Prop :=
M.new (.cells #[(Value.int .i64 (0 : Int)), (Value.int .i64 (0 : Int)), (Value.int .u32 (0 : Int))] 29) w0 fun b2 w1 =>
M.new (.cells #[(Value.int .i64 (0 : Int)), (Value.int .i64 (0 : Int)), (SV.v SV.nil)] 35) w1 fun b4 w3 =>
Calls Try.prog 23 #[(SV.v p0)] w3 (R23 fun r5 w6 =>
Calls Try.prog 24 #[(Value.pointer r5)] w6 (R24 fun r7 w8 =>
Calls Try.prog 25 #[(Value.pointer r5)] w8 (R25 fun r9 w10 =>
Calls Try.prog 25 #[(Value.pointer r5)] w10 (R25 fun r11 w12 =>
Calls Try.prog 26 #[(Value.pointer r5)] w12 (R26 fun r13 w14 =>
M.new (.cells #[(Value.int .i64 (0 : Int)), (Value.int .i64 (0 : Int)), (Value.int .u32 (0 : Int))] 29) w14 fun b16 w15 =>
M.stA b16 [(Value.int .i64 r9), (Value.int .i64 r11), (Value.int .u32 r13)] w15 fun w17 =>
Calls Try.prog 24 #[(Value.pointer r5)] w17 (R24 fun r19 w20 =>
M.ite (decide ((p0.len : Int) < (10 : Int))) (
Calls Try.prog 27 #[(Value.int .i64 (0 : Int)), (SV.v SV.nil)] w20 (R27 fun r22 r23 r24 w25 =>
M.stA b2 [(Value.int .i64 (0 : Int)), (Value.int .i64 (0 : Int)), (Value.int .u32 (0 : Int))] w25 fun w26 =>
M.stA b4 [(Value.int .i64 r22), (Value.int .i64 r23), (SV.v r24)] w26 fun w28 =>
M.ld (Value.int .i64) b2 w28 fun t30 =>
M.ld (Value.int .i64) (b2.add 1) w28 fun t32 =>
M.ld (Value.int .u32) (b2.add 2) w28 fun t34 =>
M.ld (Value.int .i64) b4 w28 fun t36 =>
M.ld (Value.int .i64) (b4.add 1) w28 fun t38 =>
M.ld SV.v (b4.add 2) w28 fun t40 =>
K t30 t32 t34 t36 t38 t40 w28)) (
M.ite (r7 != (4 : Int)) (
M.new (.cells #[(Value.int .u8 (0 : Int)), (Value.int .u8 (4 : Int))] 5) w20 fun b45 w43 =>
Calls Try.prog 27 #[(Value.int .i64 (1 : Int)), (SV.v (SV.mk (some b45) 2 2))] w43 (R27 fun r46 r47 r48 w49 =>
M.stA b2 [(Value.int .i64 (0 : Int)), (Value.int .i64 (0 : Int)), (Value.int .u32 (0 : Int))] w49 fun w50 =>
M.stA b4 [(Value.int .i64 r46), (Value.int .i64 r47), (SV.v r48)] w50 fun w52 =>
M.ld (Value.int .i64) b2 w52 fun t54 =>
M.ld (Value.int .i64) (b2.add 1) w52 fun t56 =>
M.ld (Value.int .u32) (b2.add 2) w52 fun t58 =>
M.ld (Value.int .i64) b4 w52 fun t60 =>
M.ld (Value.int .i64) (b4.add 1) w52 fun t62 =>
M.ld SV.v (b4.add 2) w52 fun t64 =>
K t54 t56 t58 t60 t62 t64 w52)) (
Calls Try.prog 28 #[(Value.pointer r5)] w20 (R28 fun r66 w67 =>
M.ite (r19 != r66) (
Calls Try.prog 27 #[(Value.int .i64 (0 : Int)), (SV.v SV.nil)] w67 (R27 fun r69 r70 r71 w72 =>
M.stA b2 [(Value.int .i64 (0 : Int)), (Value.int .i64 (0 : Int)), (Value.int .u32 (0 : Int))] w72 fun w73 =>
M.stA b4 [(Value.int .i64 r69), (Value.int .i64 r70), (SV.v r71)] w73 fun w75 =>
M.ld (Value.int .i64) b2 w75 fun t77 =>
M.ld (Value.int .i64) (b2.add 1) w75 fun t79 =>
M.ld (Value.int .u32) (b2.add 2) w75 fun t81 =>
M.ld (Value.int .i64) b4 w75 fun t83 =>
M.ld (Value.int .i64) (b4.add 1) w75 fun t85 =>
M.ld SV.v (b4.add 2) w75 fun t87 =>
K t77 t79 t81 t83 t85 t87 w75)) (
M.ite (decide ((0 : Int) < r19)) (
Calls Try.prog 27 #[(Value.int .i64 (4 : Int)), (SV.v SV.nil)] w67 (R27 fun r90 r91 r92 w93 =>
M.stA b2 [(Value.int .i64 (0 : Int)), (Value.int .i64 (0 : Int)), (Value.int .u32 (0 : Int))] w93 fun w94 =>
M.stA b4 [(Value.int .i64 r90), (Value.int .i64 r91), (SV.v r92)] w94 fun w96 =>
M.ld (Value.int .i64) b2 w96 fun t98 =>
M.ld (Value.int .i64) (b2.add 1) w96 fun t100 =>
M.ld (Value.int .u32) (b2.add 2) w96 fun t102 =>
M.ld (Value.int .i64) b4 w96 fun t104 =>
M.ld (Value.int .i64) (b4.add 1) w96 fun t106 =>
M.ld SV.v (b4.add 2) w96 fun t108 =>
K t98 t100 t102 t104 t106 t108 w96)) (
M.join (fun (x111 : Bool) (w118 : World) => 
M.ite x111 (
Calls Try.prog 27 #[(Value.int .i64 (6 : Int)), (SV.v SV.nil)] w118 (R27 fun r124 r125 r126 w127 =>
M.stA b2 [(Value.int .i64 (0 : Int)), (Value.int .i64 (0 : Int)), (Value.int .u32 (0 : Int))] w127 fun w128 =>
M.stA b4 [(Value.int .i64 r124), (Value.int .i64 r125), (SV.v r126)] w128 fun w130 =>
M.ld (Value.int .i64) b2 w130 fun t132 =>
M.ld (Value.int .i64) (b2.add 1) w130 fun t134 =>
M.ld (Value.int .u32) (b2.add 2) w130 fun t136 =>
M.ld (Value.int .i64) b4 w130 fun t138 =>
M.ld (Value.int .i64) (b4.add 1) w130 fun t140 =>
M.ld SV.v (b4.add 2) w130 fun t142 =>
K t132 t134 t136 t138 t140 t142 w130)) (
M.ld (Value.int .u32) (b16.add 2) w118 fun t144 =>
M.ite (t144 == (0 : Int)) (
Calls Try.prog 27 #[(Value.int .i64 (3 : Int)), (SV.v SV.nil)] w118 (R27 fun r147 r148 r149 w150 =>
M.stA b2 [(Value.int .i64 (0 : Int)), (Value.int .i64 (0 : Int)), (Value.int .u32 (0 : Int))] w150 fun w151 =>
M.stA b4 [(Value.int .i64 r147), (Value.int .i64 r148), (SV.v r149)] w151 fun w153 =>
M.ld (Value.int .i64) b2 w153 fun t155 =>
M.ld (Value.int .i64) (b2.add 1) w153 fun t157 =>
M.ld (Value.int .u32) (b2.add 2) w153 fun t159 =>
M.ld (Value.int .i64) b4 w153 fun t161 =>
M.ld (Value.int .i64) (b4.add 1) w153 fun t163 =>
M.ld SV.v (b4.add 2) w153 fun t165 =>
K t155 t157 t159 t161 t163 t165 w153)) (
M.ld (Value.int .i64) b16 w118 fun t167 =>
M.ite (t167 == (0 : Int)) (
Calls Try.prog 27 #[(Value.int .i64 (2 : Int)), (SV.v SV.nil)] w118 (R27 fun r170 r171 r172 w173 =>
M.stA b2 [(Value.int .i64 (0 : Int)), (Value.int .i64 (0 : Int)), (Value.int .u32 (0 : Int))] w173 fun w174 =>
M.stA b4 [(Value.int .i64 r170), (Value.int .i64 r171), (SV.v r172)] w174 fun w176 =>
M.ld (Value.int .i64) b2 w176 fun t178 =>
M.ld (Value.int .i64) (b2.add 1) w176 fun t180 =>
M.ld (Value.int .u32) (b2.add 2) w176 fun t182 =>
M.ld (Value.int .i64) b4 w176 fun t184 =>
M.ld (Value.int .i64) (b4.add 1) w176 fun t186 =>
M.ld SV.v (b4.add 2) w176 fun t188 =>
K t178 t180 t182 t184 t186 t188 w176)) (
M.ld (Value.int .i64) b16 w118 fun t190 =>
M.ld (Value.int .i64) (b16.add 1) w118 fun t192 =>
M.ld (Value.int .u32) (b16.add 2) w118 fun t194 =>
M.stA b2 [(Value.int .i64 t190), (Value.int .i64 t192), (Value.int .u32 t194)] w118 fun w196 =>
M.stA b4 [(Value.int .i64 (0 : Int)), (Value.int .i64 (0 : Int)), (SV.v SV.nil)] w196 fun w198 =>
M.ld (Value.int .i64) b2 w198 fun t200 =>
M.ld (Value.int .i64) (b2.add 1) w198 fun t202 =>
M.ld (Value.int .u32) (b2.add 2) w198 fun t204 =>
M.ld (Value.int .i64) b4 w198 fun t206 =>
M.ld (Value.int .i64) (b4.add 1) w198 fun t208 =>
M.ld SV.v (b4.add 2) w198 fun t210 =>
K t200 t202 t204 t206 t208 t210 w198)))) fun J110 => 
M.ld (Value.int .i64) (b16.add 1) w67 fun t112 =>
M.ite (t112 != (0 : Int)) (
M.ld (Value.int .i64) (b16.add 1) w67 fun t115 =>
J110 (decide (t115 < (3 : Int))) w67) (
J110 false w67))))))))))))
theorem F14_ok {w0 : World} {p0 : SV} {K : Int → Int → Int → Int → Int → SV → World → Prop} (h : F14 p0 K w0) : Calls Try.prog 14 #[(SV.v p0)] w0 (R14 K) := by
  refine calls_of_WE (args := [(SV.v p0)]) (rs := [.cell 2 29, .cell 3 35]) Try.func14 rfl (N := 70) rfl rfl rfl rfl ?_
  refine WE.seq ?_
  refine WE.reg ?_
  obtain ⟨b2, hpb2, w1, hww1, h⟩ := M.new_use h
  refine LE.r (v := (Value.pointer (some b2))) (Wn.no rfl) rfl (R.alloc (cs := #[(Value.int .i64 (0 : Int)), (Value.int .i64 (0 : Int)), (Value.int .u32 (0 : Int))]) ze29 rfl hpb2 hww1) ?_
  obtain ⟨b4, hpb4, w3, hww3, h⟩ := M.new_use h
  refine LE.r (v := (Value.pointer (some b4))) (Wn.no rfl) rfl (R.alloc (cs := #[(Value.int .i64 (0 : Int)), (Value.int .i64 (0 : Int)), (SV.v SV.nil)]) ze35 rfl hpb4 hww3) ?_
  refine LE.nil ?_
  refine WE.seq ?_
  refine WE.reg ?_
  refine LE.p (v := (SV.v p0)) (Wn.no rfl) rfl (R.move rfl) ?_
  refine LE.c (Wn.no rfl) rfl (R.call bd23 (Ls.cons rfl Ls.nil) rfl) (Calls.mono h ?_)
  rintro _ w6 ⟨r5, rfl, h⟩
  refine ⟨_, rfl, ?_⟩
  refine LE.p (v := (Value.pointer r5)) (Wn.no rfl) rfl (R.assign rfl) ?_
  refine LE.nil ?_
  refine WE.seq ?_
  refine WE.reg ?_
  refine LE.p (v := (Value.pointer r5)) (Wn.no rfl) rfl (R.move rfl) ?_
  refine LE.c (Wn.no rfl) rfl (R.call bd24 (Ls.cons rfl Ls.nil) rfl) (Calls.mono h ?_)
  rintro _ w8 ⟨r7, rfl, h⟩
  refine ⟨_, rfl, ?_⟩
  refine LE.p (v := (Value.int .i64 r7)) (Wn.no rfl) rfl (R.assign rfl) ?_
  refine LE.nil ?_
  refine WE.seq ?_
  refine WE.reg ?_
  refine LE.p (v := (Value.pointer r5)) (Wn.no rfl) rfl (R.move rfl) ?_
  refine LE.c (Wn.no rfl) rfl (R.call bd25 (Ls.cons rfl Ls.nil) rfl) (Calls.mono h ?_)
  rintro _ w10 ⟨r9, rfl, h⟩
  refine ⟨_, rfl, ?_⟩
  refine LE.p (v := (Value.pointer r5)) (Wn.no rfl) rfl (R.move rfl) ?_
  refine LE.c (Wn.no rfl) rfl (R.call bd25 (Ls.cons rfl Ls.nil) rfl) (Calls.mono h ?_)
  rintro _ w12 ⟨r11, rfl, h⟩
  refine ⟨_, rfl, ?_⟩
  refine LE.p (v := (Value.pointer r5)) (Wn.no rfl) rfl (R.move rfl) ?_
  refine LE.c (Wn.no rfl) rfl (R.call bd26 (Ls.cons rfl Ls.nil) rfl) (Calls.mono h ?_)
  rintro _ w14 ⟨r13, rfl, h⟩
  refine ⟨_, rfl, ?_⟩
  refine LE.p (v := (Value.agg #[(Value.int .i64 r9), (Value.int .i64 r11), (Value.int .u32 r13)])) (Wn.no rfl) rfl (R.bld (by exact (Ls.cons (R.Pr rfl) (Ls.cons (R.Pr rfl) (Ls.cons (R.Pr rfl) Ls.nil)))) (fun w => bu29_0_1_2 r9 r11 r13 w)) ?_
  obtain ⟨b16, hpb16, w15, hww15, h⟩ := M.new_use h
  refine LE.r (v := (Value.pointer (some b16))) (Wn.no rfl) rfl (R.alloc (cs := #[(Value.int .i64 (0 : Int)), (Value.int .i64 (0 : Int)), (Value.int .u32 (0 : Int))]) ze29 rfl hpb16 hww15) ?_
  obtain ⟨w17, hww17, h18, h⟩ := M.stA_use h
  refine LE.s (Wn.no rfl) rfl (R.stA (a := b16) [(Value.int .i64 r9), (Value.int .i64 r11), (Value.int .u32 r13)] sz29 rfl rfl rfl (by simp [Value.oneCell']) h18 hww17) ?_
  refine LE.nil ?_
  refine WE.seq ?_
  refine WE.reg ?_
  refine LE.p (v := (Value.pointer r5)) (Wn.no rfl) rfl (R.move rfl) ?_
  refine LE.c (Wn.no rfl) rfl (R.call bd24 (Ls.cons rfl Ls.nil) rfl) (Calls.mono h ?_)
  rintro _ w20 ⟨r19, rfl, h⟩
  refine ⟨_, rfl, ?_⟩
  refine LE.p (v := (Value.int .i64 r19)) (Wn.no rfl) rfl (R.assign rfl) ?_
  refine LE.nil ?_
  refine WE.seq ?_
  refine WE.block ?_
  refine WE.seq ?_
  refine WE.reg ?_
  refine LE.p (v := (SV.v p0)) (Wn.no rfl) rfl (R.move rfl) ?_
  refine LE.p (v := (Value.int .i64 (p0.len : Int))) (Wn.no rfl) rfl (R.len sl23 rfl) ?_
  refine LE.p (v := (Value.bool (decide ((p0.len : Int) < (10 : Int))))) (Wn.no rfl) rfl (R.lss rfl rfl) ?_
  refine LE.p (v := (Value.bool (decide ((p0.len : Int) < (10 : Int))))) (Wn.no rfl) rfl (R.assign rfl) ?_
  refine LE.nil ?_
  refine WE.condT rfl (b := (decide ((p0.len : Int) < (10 : Int)))) rfl ?_ ?_
  · intro hb21
    replace h := M.ite_t h hb21
    refine WE.seq ?_
    refine WE.reg ?_
    refine LE.p (v := (Value.agg #[(Value.int .i64 (0 : Int)), (Value.int .i64 (0 : Int)), (Value.int .u32 (0 : Int))])) (Wn.no rfl) rfl (R.bld (by exact Ls.nil) (fun w => bu29_  w)) ?_
    refine LE.c (Wn.no rfl) rfl (R.call bd27 (Ls.cons rfl (Ls.cons rfl Ls.nil)) rfl) (Calls.mono h ?_)
    rintro _ w25 ⟨r22, r23, r24, rfl, h⟩
    refine ⟨_, rfl, ?_⟩
    obtain ⟨w26, hww26, h27, h⟩ := M.stA_use h
    refine LE.s (Wn.no rfl) rfl (R.stA (a := b2) [(Value.int .i64 (0 : Int)), (Value.int .i64 (0 : Int)), (Value.int .u32 (0 : Int))] sz29 rfl rfl rfl (by simp [Value.oneCell']) h27 hww26) ?_
    obtain ⟨w28, hww28, h29, h⟩ := M.stA_use h
    refine LE.s (Wn.no rfl) rfl (R.stA (a := b4) [(Value.int .i64 r22), (Value.int .i64 r23), (SV.v r24)] sz35 rfl rfl rfl (by simp [Value.oneCell']) h29 hww28) ?_
    refine LE.nil ?_
    refine WE.ret ?_
    obtain ⟨t30, h31, h⟩ := h
    obtain ⟨t32, h33, h⟩ := h
    obtain ⟨t34, h35, h⟩ := h
    obtain ⟨t36, h37, h⟩ := h
    obtain ⟨t38, h39, h⟩ := h
    obtain ⟨t40, h41, h⟩ := h
    exact ⟨_, (Res.cell rfl (R.ldCellA ag29 sz29 rfl (Cs.cons h31 (Cs.cons h33 (Cs.cons h35 Cs.nil)))) (Res.cell rfl (R.ldCellA ag35 sz35 rfl (Cs.cons h37 (Cs.cons h39 (Cs.cons h41 Cs.nil)))) Res.nil)), _, _, _, _, _, _, rfl, h⟩
  · intro hb21
    replace h := M.ite_f h hb21
    refine WE.seq ?_
    refine WE.reg ?_
    refine LE.p (v := (Value.int .i64 r7)) (Wn.no rfl) rfl (R.move rfl) ?_
    refine LE.p (v := (Value.bool (r7 != (4 : Int)))) (Wn.no rfl) rfl (R.neq rfl rfl) ?_
    refine LE.p (v := (Value.bool (r7 != (4 : Int)))) (Wn.no rfl) rfl (R.assign rfl) ?_
    refine LE.nil ?_
    refine WE.condT rfl (b := (r7 != (4 : Int))) rfl ?_ ?_
    · intro hb42
      replace h := M.ite_t h hb42
      refine WE.seq ?_
      refine WE.reg ?_
      refine LE.p (v := (Value.agg #[(Value.int .i64 (0 : Int)), (Value.int .i64 (0 : Int)), (Value.int .u32 (0 : Int))])) (Wn.no rfl) rfl (R.bld (by exact Ls.nil) (fun w => bu29_  w)) ?_
      obtain ⟨b45, hpb45, w43, hww43, h⟩ := M.new_use h
      refine LE.r (v := (SV.v (SV.mk (some b45) 2 2))) (Wn.no rfl) rfl (R.bsl (by exact (Ls.cons (R.Pr rfl) (Ls.cons (R.Pr rfl) Ls.nil))) (fun w => bs23_2 (0 : Int) (4 : Int) w) hpb45 hww43) ?_
      refine LE.c (Wn.no rfl) rfl (R.call bd27 (Ls.cons rfl (Ls.cons rfl Ls.nil)) rfl) (Calls.mono h ?_)
      rintro _ w49 ⟨r46, r47, r48, rfl, h⟩
      refine ⟨_, rfl, ?_⟩
      obtain ⟨w50, hww50, h51, h⟩ := M.stA_use h
      refine LE.s (Wn.no rfl) rfl (R.stA (a := b2) [(Value.int .i64 (0 : Int)), (Value.int .i64 (0 : Int)), (Value.int .u32 (0 : Int))] sz29 rfl rfl rfl (by simp [Value.oneCell']) h51 hww50) ?_
      obtain ⟨w52, hww52, h53, h⟩ := M.stA_use h
      refine LE.s (Wn.no rfl) rfl (R.stA (a := b4) [(Value.int .i64 r46), (Value.int .i64 r47), (SV.v r48)] sz35 rfl rfl rfl (by simp [Value.oneCell']) h53 hww52) ?_
      refine LE.nil ?_
      refine WE.ret ?_
      obtain ⟨t54, h55, h⟩ := h
      obtain ⟨t56, h57, h⟩ := h
      obtain ⟨t58, h59, h⟩ := h
      obtain ⟨t60, h61, h⟩ := h
      obtain ⟨t62, h63, h⟩ := h
      obtain ⟨t64, h65, h⟩ := h
      exact ⟨_, (Res.cell rfl (R.ldCellA ag29 sz29 rfl (Cs.cons h55 (Cs.cons h57 (Cs.cons h59 Cs.nil)))) (Res.cell rfl (R.ldCellA ag35 sz35 rfl (Cs.cons h61 (Cs.cons h63 (Cs.cons h65 Cs.nil)))) Res.nil)), _, _, _, _, _, _, rfl, h⟩
    · intro hb42
      replace h := M.ite_f h hb42
      refine WE.seq ?_
      refine WE.reg ?_
      refine LE.p (v := (Value.int .i64 r19)) (Wn.no rfl) rfl (R.move rfl) ?_
      refine LE.p (v := (Value.pointer r5)) (Wn.no rfl) rfl (R.move rfl) ?_
      refine LE.c (Wn.no rfl) rfl (R.call bd28 (Ls.cons rfl Ls.nil) rfl) (Calls.mono h ?_)
      rintro _ w67 ⟨r66, rfl, h⟩
      refine ⟨_, rfl, ?_⟩
      refine LE.p (v := (Value.bool (r19 != r66))) (Wn.no rfl) rfl (R.neq rfl rfl) ?_
      refine LE.p (v := (Value.bool (r19 != r66))) (Wn.no rfl) rfl (R.assign rfl) ?_
      refine LE.nil ?_
      refine WE.condT rfl (b := (r19 != r66)) rfl ?_ ?_
      · intro hb68
        replace h := M.ite_t h hb68
        refine WE.seq ?_
        refine WE.reg ?_
        refine LE.p (v := (Value.agg #[(Value.int .i64 (0 : Int)), (Value.int .i64 (0 : Int)), (Value.int .u32 (0 : Int))])) (Wn.no rfl) rfl (R.bld (by exact Ls.nil) (fun w => bu29_  w)) ?_
        refine LE.c (Wn.no rfl) rfl (R.call bd27 (Ls.cons rfl (Ls.cons rfl Ls.nil)) rfl) (Calls.mono h ?_)
        rintro _ w72 ⟨r69, r70, r71, rfl, h⟩
        refine ⟨_, rfl, ?_⟩
        obtain ⟨w73, hww73, h74, h⟩ := M.stA_use h
        refine LE.s (Wn.no rfl) rfl (R.stA (a := b2) [(Value.int .i64 (0 : Int)), (Value.int .i64 (0 : Int)), (Value.int .u32 (0 : Int))] sz29 rfl rfl rfl (by simp [Value.oneCell']) h74 hww73) ?_
        obtain ⟨w75, hww75, h76, h⟩ := M.stA_use h
        refine LE.s (Wn.no rfl) rfl (R.stA (a := b4) [(Value.int .i64 r69), (Value.int .i64 r70), (SV.v r71)] sz35 rfl rfl rfl (by simp [Value.oneCell']) h76 hww75) ?_
        refine LE.nil ?_
        refine WE.ret ?_
        obtain ⟨t77, h78, h⟩ := h
        obtain ⟨t79, h80, h⟩ := h
        obtain ⟨t81, h82, h⟩ := h
        obtain ⟨t83, h84, h⟩ := h
        obtain ⟨t85, h86, h⟩ := h
        obtain ⟨t87, h88, h⟩ := h
        exact ⟨_, (Res.cell rfl (R.ldCellA ag29 sz29 rfl (Cs.cons h78 (Cs.cons h80 (Cs.cons h82 Cs.nil)))) (Res.cell rfl (R.ldCellA ag35 sz35 rfl (Cs.cons h84 (Cs.cons h86 (Cs.cons h88 Cs.nil)))) Res.nil)), _, _, _, _, _, _, rfl, h⟩
      · intro hb68
        replace h := M.ite_f h hb68
        refine WE.seq ?_
        refine WE.reg ?_
        refine LE.p (v := (Value.int .i64 r19)) (Wn.no rfl) rfl (R.move rfl) ?_
        refine LE.p (v := (Value.bool (decide ((0 : Int) < r19)))) (Wn.no rfl) rfl (R.gtr rfl rfl) ?_
        refine LE.p (v := (Value.bool (decide ((0 : Int) < r19)))) (Wn.no rfl) rfl (R.assign rfl) ?_
        refine LE.nil ?_
        refine WE.condT rfl (b := (decide ((0 : Int) < r19))) rfl ?_ ?_
        · intro hb89
          replace h := M.ite_t h hb89
          refine WE.seq ?_
          refine WE.reg ?_
          refine LE.p (v := (Value.agg #[(Value.int .i64 (0 : Int)), (Value.int .i64 (0 : Int)), (Value.int .u32 (0 : Int))])) (Wn.no rfl) rfl (R.bld (by exact Ls.nil) (fun w => bu29_  w)) ?_
          refine LE.c (Wn.no rfl) rfl (R.call bd27 (Ls.cons rfl (Ls.cons rfl Ls.nil)) rfl) (Calls.mono h ?_)
          rintro _ w93 ⟨r90, r91, r92, rfl, h⟩
          refine ⟨_, rfl, ?_⟩
          obtain ⟨w94, hww94, h95, h⟩ := M.stA_use h
          refine LE.s (Wn.no rfl) rfl (R.stA (a := b2) [(Value.int .i64 (0 : Int)), (Value.int .i64 (0 : Int)), (Value.int .u32 (0 : Int))] sz29 rfl rfl rfl (by simp [Value.oneCell']) h95 hww94) ?_
          obtain ⟨w96, hww96, h97, h⟩ := M.stA_use h
          refine LE.s (Wn.no rfl) rfl (R.stA (a := b4) [(Value.int .i64 r90), (Value.int .i64 r91), (SV.v r92)] sz35 rfl rfl rfl (by simp [Value.oneCell']) h97 hww96) ?_
          refine LE.nil ?_
          refine WE.ret ?_
          obtain ⟨t98, h99, h⟩ := h
          obtain ⟨t100, h101, h⟩ := h
          obtain ⟨t102, h103, h⟩ := h
          obtain ⟨t104, h105, h⟩ := h
          obtain ⟨t106, h107, h⟩ := h
          obtain ⟨t108, h109, h⟩ := h
          exact ⟨_, (Res.cell rfl (R.ldCellA ag29 sz29 rfl (Cs.cons h99 (Cs.cons h101 (Cs.cons h103 Cs.nil)))) (Res.cell rfl (R.ldCellA ag35 sz35 rfl (Cs.cons h105 (Cs.cons h107 (Cs.cons h109 Cs.nil)))) Res.nil)), _, _, _, _, _, _, rfl, h⟩
        · intro hb89
          replace h := M.ite_f h hb89
          refine WE.seq ?_
          obtain ⟨J110, hJ110, h⟩ := M.join_use h
          refine WE.regJ (fun e w => ∃ (x111 : Bool), J110 x111 w ∧ e 2 = (Value.pointer (some b2)) ∧ e 3 = (Value.pointer (some b4)) ∧ e 6 = (Value.pointer (some b16)) ∧ e 45 = (Value.bool x111)) ?_ ?_
          · clear hJ110
            refine LE.p (v := (Value.pointer (some (b16.add 1)))) (Wn.no rfl) rfl (R.fld (off := 1) fa29_1 rfl) ?_
            obtain ⟨t112, h113, h⟩ := h
            refine LE.r (v := (Value.int .i64 t112)) (Wn.no rfl) rfl (R.ld sc3 rfl h113) ?_
            refine LE.p (v := (Value.bool (t112 != (0 : Int)))) (Wn.no rfl) rfl (R.neq rfl rfl) ?_
            refine LE.p (v := (Value.bool (t112 != (0 : Int)))) (Wn.no rfl) rfl (R.move rfl) ?_
            rcases M.ite_use h with ⟨hb114, h⟩ | ⟨hb114, h⟩
            · refine LE.p (v := (Value.pointer (some (b16.add 1)))) (Wn.yes 3 49 true rfl rfl rfl (congrArg Value.bool hb114)) rfl (R.fld (off := 1) fa29_1 rfl) ?_
              obtain ⟨t115, h116, h⟩ := h
              refine LE.r (v := (Value.int .i64 t115)) (Wn.yes 3 49 true rfl rfl rfl (congrArg Value.bool hb114)) rfl (R.ld sc3 rfl h116) ?_
              refine LE.p (v := (Value.bool (decide (t115 < (3 : Int))))) (Wn.yes 3 49 true rfl rfl rfl (congrArg Value.bool hb114)) rfl (R.lss rfl rfl) ?_
              refine LE.p (v := (Value.bool (decide (t115 < (3 : Int))))) (Wn.no rfl) rfl (R.pickT (congrArg Value.bool hb114) rfl) ?_
              refine LE.p (v := (Value.bool (decide (t115 < (3 : Int))))) (Wn.no rfl) rfl (R.assign rfl) ?_
              refine LE.nil ?_
              exact ⟨_, h, rfl, rfl, rfl, rfl⟩
            · refine LE.u (Un.no 3 49 true rfl rfl rfl (congrArg Value.bool hb114)) ?_
              refine LE.u (Un.no 3 49 true rfl rfl rfl (congrArg Value.bool hb114)) ?_
              refine LE.u (Un.no 3 49 true rfl rfl rfl (congrArg Value.bool hb114)) ?_
              refine LE.p (v := (Value.bool false)) (Wn.no rfl) rfl (R.pickF (congrArg Value.bool hb114) rfl) ?_
              refine LE.p (v := (Value.bool false)) (Wn.no rfl) rfl (R.assign rfl) ?_
              refine LE.nil ?_
              exact ⟨_, h, rfl, rfl, rfl, rfl⟩
          · rintro e117 w118 ⟨x111, h, f119, f120, f121, f122⟩
            subst hJ110
            refine WE.condT rfl (b := x111) f122 ?_ ?_
            · intro hb123
              replace h := M.ite_t h hb123
              refine WE.seq ?_
              refine WE.reg ?_
              refine LE.p (v := (Value.agg #[(Value.int .i64 (0 : Int)), (Value.int .i64 (0 : Int)), (Value.int .u32 (0 : Int))])) (Wn.no rfl) rfl (R.bld (by exact Ls.nil) (fun w => bu29_  w)) ?_
              refine LE.c (Wn.no rfl) rfl (R.call bd27 (Ls.cons rfl (Ls.cons rfl Ls.nil)) rfl) (Calls.mono h ?_)
              rintro _ w127 ⟨r124, r125, r126, rfl, h⟩
              refine ⟨_, rfl, ?_⟩
              obtain ⟨w128, hww128, h129, h⟩ := M.stA_use h
              refine LE.s (Wn.no rfl) rfl (R.stA (a := b2) [(Value.int .i64 (0 : Int)), (Value.int .i64 (0 : Int)), (Value.int .u32 (0 : Int))] sz29 f119 rfl rfl (by simp [Value.oneCell']) h129 hww128) ?_
              obtain ⟨w130, hww130, h131, h⟩ := M.stA_use h
              refine LE.s (Wn.no rfl) rfl (R.stA (a := b4) [(Value.int .i64 r124), (Value.int .i64 r125), (SV.v r126)] sz35 f120 rfl rfl (by simp [Value.oneCell']) h131 hww130) ?_
              refine LE.nil ?_
              refine WE.ret ?_
              obtain ⟨t132, h133, h⟩ := h
              obtain ⟨t134, h135, h⟩ := h
              obtain ⟨t136, h137, h⟩ := h
              obtain ⟨t138, h139, h⟩ := h
              obtain ⟨t140, h141, h⟩ := h
              obtain ⟨t142, h143, h⟩ := h
              exact ⟨_, (Res.cell f119 (R.ldCellA ag29 sz29 rfl (Cs.cons h133 (Cs.cons h135 (Cs.cons h137 Cs.nil)))) (Res.cell f120 (R.ldCellA ag35 sz35 rfl (Cs.cons h139 (Cs.cons h141 (Cs.cons h143 Cs.nil)))) Res.nil)), _, _, _, _, _, _, rfl, h⟩
            · intro hb123
              replace h := M.ite_f h hb123
              refine WE.seq ?_
              refine WE.reg ?_
              refine LE.p (v := (Value.pointer (some (b16.add 2)))) (Wn.no rfl) rfl (R.fld (off := 2) fa29_2 f121) ?_
              obtain ⟨t144, h145, h⟩ := h
              refine LE.r (v := (Value.int .u32 t144)) (Wn.no rfl) rfl (R.ld sc22 rfl h145) ?_
              refine LE.p (v := (Value.bool (t144 == (0 : Int)))) (Wn.no rfl) rfl (R.eql rfl rfl) ?_
              refine LE.p (v := (Value.bool (t144 == (0 : Int)))) (Wn.no rfl) rfl (R.assign rfl) ?_
              refine LE.nil ?_
              refine WE.condT rfl (b := (t144 == (0 : Int))) rfl ?_ ?_
              · intro hb146
                replace h := M.ite_t h hb146
                refine WE.seq ?_
                refine WE.reg ?_
                refine LE.p (v := (Value.agg #[(Value.int .i64 (0 : Int)), (Value.int .i64 (0 : Int)), (Value.int .u32 (0 : Int))])) (Wn.no rfl) rfl (R.bld (by exact Ls.nil) (fun w => bu29_  w)) ?_
                refine LE.c (Wn.no rfl) rfl (R.call bd27 (Ls.cons rfl (Ls.cons rfl Ls.nil)) rfl) (Calls.mono h ?_)
                rintro _ w150 ⟨r147, r148, r149, rfl, h⟩
                refine ⟨_, rfl, ?_⟩
                obtain ⟨w151, hww151, h152, h⟩ := M.stA_use h
                refine LE.s (Wn.no rfl) rfl (R.stA (a := b2) [(Value.int .i64 (0 : Int)), (Value.int .i64 (0 : Int)), (Value.int .u32 (0 : Int))] sz29 f119 rfl rfl (by simp [Value.oneCell']) h152 hww151) ?_
                obtain ⟨w153, hww153, h154, h⟩ := M.stA_use h
                refine LE.s (Wn.no rfl) rfl (R.stA (a := b4) [(Value.int .i64 r147), (Value.int .i64 r148), (SV.v r149)] sz35 f120 rfl rfl (by simp [Value.oneCell']) h154 hww153) ?_
                refine LE.nil ?_
                refine WE.ret ?_
                obtain ⟨t155, h156, h⟩ := h
                obtain ⟨t157, h158, h⟩ := h
                obtain ⟨t159, h160, h⟩ := h
                obtain ⟨t161, h162, h⟩ := h
                obtain ⟨t163, h164, h⟩ := h
                obtain ⟨t165, h166, h⟩ := h
                exact ⟨_, (Res.cell f119 (R.ldCellA ag29 sz29 rfl (Cs.cons h156 (Cs.cons h158 (Cs.cons h160 Cs.nil)))) (Res.cell f120 (R.ldCellA ag35 sz35 rfl (Cs.cons h162 (Cs.cons h164 (Cs.cons h166 Cs.nil)))) Res.nil)), _, _, _, _, _, _, rfl, h⟩
              · intro hb146
                replace h := M.ite_f h hb146
                refine WE.seq ?_
                refine WE.reg ?_
                refine LE.p (v := (Value.pointer (some b16))) (Wn.no rfl) rfl (R.fld (off := 0) fa29_0 f121) ?_
                obtain ⟨t167, h168, h⟩ := h
                refine LE.r (v := (Value.int .i64 t167)) (Wn.no rfl) rfl (R.ld sc3 rfl h168) ?_
                refine LE.p (v := (Value.bool (t167 == (0 : Int)))) (Wn.no rfl) rfl (R.eql rfl rfl) ?_
                refine LE.p (v := (Value.bool (t167 == (0 : Int)))) (Wn.no rfl) rfl (R.assign rfl) ?_
                refine LE.nil ?_
                refine WE.condT rfl (b := (t167 == (0 : Int))) rfl ?_ ?_
                · intro hb169
                  replace h := M.ite_t h hb169
                  refine WE.seq ?_
                  refine WE.reg ?_
                  refine LE.p (v := (Value.agg #[(Value.int .i64 (0 : Int)), (Value.int .i64 (0 : Int)), (Value.int .u32 (0 : Int))])) (Wn.no rfl) rfl (R.bld (by exact Ls.nil) (fun w => bu29_  w)) ?_
                  refine LE.c (Wn.no rfl) rfl (R.call bd27 (Ls.cons rfl (Ls.cons rfl Ls.nil)) rfl) (Calls.mono h ?_)
                  rintro _ w173 ⟨r170, r171, r172, rfl, h⟩
                  refine ⟨_, rfl, ?_⟩
                  obtain ⟨w174, hww174, h175, h⟩ := M.stA_use h
                  refine LE.s (Wn.no rfl) rfl (R.stA (a := b2) [(Value.int .i64 (0 : Int)), (Value.int .i64 (0 : Int)), (Value.int .u32 (0 : Int))] sz29 f119 rfl rfl (by simp [Value.oneCell']) h175 hww174) ?_
                  obtain ⟨w176, hww176, h177, h⟩ := M.stA_use h
                  refine LE.s (Wn.no rfl) rfl (R.stA (a := b4) [(Value.int .i64 r170), (Value.int .i64 r171), (SV.v r172)] sz35 f120 rfl rfl (by simp [Value.oneCell']) h177 hww176) ?_
                  refine LE.nil ?_
                  refine WE.ret ?_
                  obtain ⟨t178, h179, h⟩ := h
                  obtain ⟨t180, h181, h⟩ := h
                  obtain ⟨t182, h183, h⟩ := h
                  obtain ⟨t184, h185, h⟩ := h
                  obtain ⟨t186, h187, h⟩ := h
                  obtain ⟨t188, h189, h⟩ := h
                  exact ⟨_, (Res.cell f119 (R.ldCellA ag29 sz29 rfl (Cs.cons h179 (Cs.cons h181 (Cs.cons h183 Cs.nil)))) (Res.cell f120 (R.ldCellA ag35 sz35 rfl (Cs.cons h185 (Cs.cons h187 (Cs.cons h189 Cs.nil)))) Res.nil)), _, _, _, _, _, _, rfl, h⟩
                · intro hb169
                  replace h := M.ite_f h hb169
                  refine WE.skip ?_
                  refine WE.seq ?_
                  refine WE.reg ?_
                  obtain ⟨t190, h191, h⟩ := h
                  obtain ⟨t192, h193, h⟩ := h
                  obtain ⟨t194, h195, h⟩ := h
                  refine LE.r (v := (Value.agg #[(Value.int .i64 t190), (Value.int .i64 t192), (Value.int .u32 t194)])) (Wn.no rfl) rfl (R.ldA ag29 sz29 f121 rfl (Cs.cons h191 (Cs.cons h193 (Cs.cons h195 Cs.nil)))) ?_
                  refine LE.p (v := (Value.agg #[(Value.int .i64 (0 : Int)), (Value.int .i64 (0 : Int)), (SV.v SV.nil)])) (Wn.no rfl) rfl (R.bld (by exact Ls.nil) (fun w => bu35_  w)) ?_
                  obtain ⟨w196, hww196, h197, h⟩ := M.stA_use h
                  refine LE.s (Wn.no rfl) rfl (R.stA (a := b2) [(Value.int .i64 t190), (Value.int .i64 t192), (Value.int .u32 t194)] sz29 f119 rfl rfl (by simp [Value.oneCell']) h197 hww196) ?_
                  obtain ⟨w198, hww198, h199, h⟩ := M.stA_use h
                  refine LE.s (Wn.no rfl) rfl (R.stA (a := b4) [(Value.int .i64 (0 : Int)), (Value.int .i64 (0 : Int)), (SV.v SV.nil)] sz35 f120 rfl rfl (by simp [Value.oneCell']) h199 hww198) ?_
                  refine LE.nil ?_
                  refine WE.ret ?_
                  obtain ⟨t200, h201, h⟩ := h
                  obtain ⟨t202, h203, h⟩ := h
                  obtain ⟨t204, h205, h⟩ := h
                  obtain ⟨t206, h207, h⟩ := h
                  obtain ⟨t208, h209, h⟩ := h
                  obtain ⟨t210, h211, h⟩ := h
                  exact ⟨_, (Res.cell f119 (R.ldCellA ag29 sz29 rfl (Cs.cons h201 (Cs.cons h203 (Cs.cons h205 Cs.nil)))) (Res.cell f120 (R.ldCellA ag35 sz35 rfl (Cs.cons h207 (Cs.cons h209 (Cs.cons h211 Cs.nil)))) Res.nil)), _, _, _, _, _, _, rfl, h⟩
/-- The formula of signpost.signpostkeep.Note. -/
def F15 (p0_0 : Int) (p0_1 : Int) (p0_2 : SV) (p1_0 : Int) (p1_1 : Int) (p1_2 : SV) (K : Bool → World → Prop) (w0 : World) : Prop :=
M.new (.cells #[(Value.int .i64 p0_0), (Value.int .i64 p0_1), (SV.v p0_2)] 35) w0 fun b2 w1 =>
M.new (.cells #[(Value.int .i64 p1_0), (Value.int .i64 p1_1), (SV.v p1_2)] 35) w1 fun b4 w3 =>
M.join (fun (x6 : Bool) (w26 : World) => 
K x6 w26) fun J5 => 
M.ld (Value.int .i64) b2 w3 fun t7 =>
M.ld (Value.int .i64) b4 w3 fun t9 =>
M.ite (t7 == t9) (
M.ld (Value.int .i64) (b2.add 1) w3 fun t12 =>
M.ld (Value.int .i64) (b4.add 1) w3 fun t14 =>
M.ite (t12 == t14) (
M.ld SV.v (b2.add 2) w3 fun t17 =>
M.b2s Try.prog 23 9 t17 w3 fun t19 =>
M.ld SV.v (b4.add 2) w3 fun t21 =>
M.b2s Try.prog 23 9 t21 w3 fun t23 =>
J5 (t19.toList == t23.toList) w3) (
J5 false w3)) (
J5 false w3)
theorem F15_ok {w0 : World} {p0_0 : Int} {p0_1 : Int} {p0_2 : SV} {p1_0 : Int} {p1_1 : Int} {p1_2 : SV} {K : Bool → World → Prop} (h : F15 p0_0 p0_1 p0_2 p1_0 p1_1 p1_2 K w0) : Calls Try.prog 15 #[(Value.agg #[(Value.int .i64 p0_0), (Value.int .i64 p0_1), (SV.v p0_2)]), (Value.agg #[(Value.int .i64 p1_0), (Value.int .i64 p1_1), (SV.v p1_2)])] w0 (R15 K) := by
  refine calls_of_WE (args := [(Value.agg #[(Value.int .i64 p0_0), (Value.int .i64 p0_1), (SV.v p0_2)]), (Value.agg #[(Value.int .i64 p1_0), (Value.int .i64 p1_1), (SV.v p1_2)])]) (rs := [.tmp 4]) Try.func15 rfl (N := 26) rfl rfl rfl rfl ?_
  refine WE.seq ?_
  refine WE.reg ?_
  obtain ⟨b2, hpb2, w1, hww1, h⟩ := M.new_use h
  refine LE.r (v := (Value.pointer (some b2))) (Wn.no rfl) rfl (R.box (cs := #[(Value.int .i64 p0_0), (Value.int .i64 p0_1), (SV.v p0_2)]) rfl rfl hpb2 hww1) ?_
  obtain ⟨b4, hpb4, w3, hww3, h⟩ := M.new_use h
  refine LE.r (v := (Value.pointer (some b4))) (Wn.no rfl) rfl (R.box (cs := #[(Value.int .i64 p1_0), (Value.int .i64 p1_1), (SV.v p1_2)]) rfl rfl hpb4 hww3) ?_
  refine LE.p (v := (Value.bool false)) (Wn.no rfl) rfl (R.assign rfl) ?_
  refine LE.nil ?_
  refine WE.seq ?_
  obtain ⟨J5, hJ5, h⟩ := M.join_use h
  refine WE.regJ (fun e w => ∃ (x6 : Bool), J5 x6 w ∧ e 4 = (Value.bool x6)) ?_ ?_
  · clear hJ5
    refine LE.p (v := (Value.pointer (some b2))) (Wn.no rfl) rfl (R.fld (off := 0) fa35_0 rfl) ?_
    obtain ⟨t7, h8, h⟩ := h
    refine LE.r (v := (Value.int .i64 t7)) (Wn.no rfl) rfl (R.ld sc3 rfl h8) ?_
    refine LE.p (v := (Value.pointer (some b4))) (Wn.no rfl) rfl (R.fld (off := 0) fa35_0 rfl) ?_
    obtain ⟨t9, h10, h⟩ := h
    refine LE.r (v := (Value.int .i64 t9)) (Wn.no rfl) rfl (R.ld sc3 rfl h10) ?_
    refine LE.p (v := (Value.bool (t7 == t9))) (Wn.no rfl) rfl (R.eql rfl rfl) ?_
    refine LE.p (v := (Value.bool (t7 == t9))) (Wn.no rfl) rfl (R.move rfl) ?_
    rcases M.ite_use h with ⟨hb11, h⟩ | ⟨hb11, h⟩
    · refine LE.p (v := (Value.pointer (some (b2.add 1)))) (Wn.yes 5 10 true rfl rfl rfl (congrArg Value.bool hb11)) rfl (R.fld (off := 1) fa35_1 rfl) ?_
      obtain ⟨t12, h13, h⟩ := h
      refine LE.r (v := (Value.int .i64 t12)) (Wn.yes 5 10 true rfl rfl rfl (congrArg Value.bool hb11)) rfl (R.ld sc3 rfl h13) ?_
      refine LE.p (v := (Value.pointer (some (b4.add 1)))) (Wn.yes 5 10 true rfl rfl rfl (congrArg Value.bool hb11)) rfl (R.fld (off := 1) fa35_1 rfl) ?_
      obtain ⟨t14, h15, h⟩ := h
      refine LE.r (v := (Value.int .i64 t14)) (Wn.yes 5 10 true rfl rfl rfl (congrArg Value.bool hb11)) rfl (R.ld sc3 rfl h15) ?_
      refine LE.p (v := (Value.bool (t12 == t14))) (Wn.yes 5 10 true rfl rfl rfl (congrArg Value.bool hb11)) rfl (R.eql rfl rfl) ?_
      refine LE.p (v := (Value.bool (t12 == t14))) (Wn.no rfl) rfl (R.pickT (congrArg Value.bool hb11) rfl) ?_
      refine LE.p (v := (Value.bool (t12 == t14))) (Wn.no rfl) rfl (R.move rfl) ?_
      rcases M.ite_use h with ⟨hb16, h⟩ | ⟨hb16, h⟩
      · refine LE.p (v := (Value.pointer (some (b2.add 2)))) (Wn.yes 12 17 true rfl rfl rfl (congrArg Value.bool hb16)) rfl (R.fld (off := 2) fa35_2 rfl) ?_
        obtain ⟨t17, h18, h⟩ := h
        refine LE.r (v := (SV.v t17)) (Wn.yes 12 17 true rfl rfl rfl (congrArg Value.bool hb16)) rfl (R.ld sc23 rfl h18) ?_
        obtain ⟨t19, h20, h⟩ := h
        refine LE.r (v := (Value.string t19)) (Wn.yes 12 17 true rfl rfl rfl (congrArg Value.bool hb16)) rfl (R.b2s (s := t17) h20 rfl) ?_
        refine LE.p (v := (Value.pointer (some (b4.add 2)))) (Wn.yes 12 17 true rfl rfl rfl (congrArg Value.bool hb16)) rfl (R.fld (off := 2) fa35_2 rfl) ?_
        obtain ⟨t21, h22, h⟩ := h
        refine LE.r (v := (SV.v t21)) (Wn.yes 12 17 true rfl rfl rfl (congrArg Value.bool hb16)) rfl (R.ld sc23 rfl h22) ?_
        obtain ⟨t23, h24, h⟩ := h
        refine LE.r (v := (Value.string t23)) (Wn.yes 12 17 true rfl rfl rfl (congrArg Value.bool hb16)) rfl (R.b2s (s := t21) h24 rfl) ?_
        refine LE.p (v := (Value.bool (t19.toList == t23.toList))) (Wn.yes 12 17 true rfl rfl rfl (congrArg Value.bool hb16)) rfl (R.seql rfl rfl) ?_
        refine LE.p (v := (Value.bool (t19.toList == t23.toList))) (Wn.no rfl) rfl (R.pickT (congrArg Value.bool hb16) rfl) ?_
        refine LE.p (v := (Value.bool (t19.toList == t23.toList))) (Wn.no rfl) rfl (R.assign rfl) ?_
        refine LE.nil ?_
        exact ⟨_, h, rfl⟩
      · refine LE.u (Un.no 12 17 true rfl rfl rfl (congrArg Value.bool hb16)) ?_
        refine LE.u (Un.no 12 17 true rfl rfl rfl (congrArg Value.bool hb16)) ?_
        refine LE.u (Un.no 12 17 true rfl rfl rfl (congrArg Value.bool hb16)) ?_
        refine LE.u (Un.no 12 17 true rfl rfl rfl (congrArg Value.bool hb16)) ?_
        refine LE.u (Un.no 12 17 true rfl rfl rfl (congrArg Value.bool hb16)) ?_
        refine LE.u (Un.no 12 17 true rfl rfl rfl (congrArg Value.bool hb16)) ?_
        refine LE.u (Un.no 12 17 true rfl rfl rfl (congrArg Value.bool hb16)) ?_
        refine LE.p (v := (Value.bool false)) (Wn.no rfl) rfl (R.pickF (congrArg Value.bool hb16) rfl) ?_
        refine LE.p (v := (Value.bool false)) (Wn.no rfl) rfl (R.assign rfl) ?_
        refine LE.nil ?_
        exact ⟨_, h, rfl⟩
    · refine LE.u (Un.no 5 10 true rfl rfl rfl (congrArg Value.bool hb11)) ?_
      refine LE.u (Un.no 5 10 true rfl rfl rfl (congrArg Value.bool hb11)) ?_
      refine LE.u (Un.no 5 10 true rfl rfl rfl (congrArg Value.bool hb11)) ?_
      refine LE.u (Un.no 5 10 true rfl rfl rfl (congrArg Value.bool hb11)) ?_
      refine LE.u (Un.no 5 10 true rfl rfl rfl (congrArg Value.bool hb11)) ?_
      refine LE.p (v := (Value.bool false)) (Wn.no rfl) rfl (R.pickF (congrArg Value.bool hb11) rfl) ?_
      refine LE.p (v := (Value.bool false)) (Wn.no rfl) rfl (R.move rfl) ?_
      refine LE.u (Un.no 12 17 true rfl rfl rfl rfl) ?_
      refine LE.u (Un.no 12 17 true rfl rfl rfl rfl) ?_
      refine LE.u (Un.no 12 17 true rfl rfl rfl rfl) ?_
      refine LE.u (Un.no 12 17 true rfl rfl rfl rfl) ?_
      refine LE.u (Un.no 12 17 true rfl rfl rfl rfl) ?_
      refine LE.u (Un.no 12 17 true rfl rfl rfl rfl) ?_
      refine LE.u (Un.no 12 17 true rfl rfl rfl rfl) ?_
      refine LE.p (v := (Value.bool false)) (Wn.no rfl) rfl (R.pickF rfl rfl) ?_
      refine LE.p (v := (Value.bool false)) (Wn.no rfl) rfl (R.assign rfl) ?_
      refine LE.nil ?_
      exact ⟨_, h, rfl⟩
  · rintro e25 w26 ⟨x6, h, f27⟩
    subst hJ5
    refine WE.ret ?_
    exact ⟨_, (Res.tmp f27 Res.nil), _, rfl, h⟩
/-- The formula of signpost.open.Encode. -/
def F16 (p0_0 : Int) (p0_1 : Int) (p0_2 : Int) (K : SV → Int → World → Prop) (w0 : World) : Prop :=
M.new (.cells #[(Value.int .i64 p0_0), (Value.int .i64 p0_1), (Value.int .u32 p0_2)] 29) w0 fun b2 w1 =>
M.join (fun (x4 : Bool) (w28 : World) => 
M.ite x4 (
K SV.nil (12 : Int) w28) (
Calls Try.prog 29 #[] w28 (R29 fun r32 w33 =>
Calls Try.prog 30 #[(Value.pointer r32), (Value.int .i64 (4 : Int))] w33 (R30 fun w34 =>
M.ld (Value.int .i64) b2 w34 fun t35 =>
Calls Try.prog 31 #[(Value.pointer r32), (Value.int .i64 t35)] w34 (R31 fun w37 =>
M.ld (Value.int .i64) (b2.add 1) w37 fun t38 =>
Calls Try.prog 31 #[(Value.pointer r32), (Value.int .i64 t38)] w37 (R31 fun w40 =>
M.ld (Value.int .u32) (b2.add 2) w40 fun t41 =>
Calls Try.prog 32 #[(Value.pointer r32), (Value.int .u32 t41)] w40 (R32 fun w43 =>
Calls Try.prog 30 #[(Value.pointer r32), (Value.int .i64 (0 : Int))] w43 (R30 fun w44 =>
Calls Try.prog 33 #[(Value.pointer r32)] w44 (R33 fun r45 w46 =>
K r45 (0 : Int) w46))))))))) fun J3 => 
M.ld (Value.int .i64) b2 w1 fun t5 =>
M.ite (decide (t5 < (1 : Int))) (
J3 true w1) (
M.ld (Value.int .i64) b2 w1 fun t8 =>
M.ite (decide ((65535 : Int) < t8)) (
J3 true w1) (
M.ld (Value.int .i64) (b2.add 1) w1 fun t11 =>
M.ite (t11 != (0 : Int)) (
M.ld (Value.int .i64) (b2.add 1) w1 fun t14 =>
M.ite (decide (t14 < (3 : Int))) (
J3 true w1) (
M.ld (Value.int .i64) (b2.add 1) w1 fun t17 =>
M.ite (decide ((65535 : Int) < t17)) (
J3 true w1) (
M.ld (Value.int .u32) (b2.add 2) w1 fun t20 =>
J3 (t20 == (0 : Int)) w1))) (
M.ld (Value.int .i64) (b2.add 1) w1 fun t22 =>
M.ite (decide ((65535 : Int) < t22)) (
J3 true w1) (
M.ld (Value.int .u32) (b2.add 2) w1 fun t25 =>
J3 (t25 == (0 : Int)) w1))))
theorem F16_ok {w0 : World} {p0_0 : Int} {p0_1 : Int} {p0_2 : Int} {K : SV → Int → World → Prop} (h : F16 p0_0 p0_1 p0_2 K w0) : Calls Try.prog 16 #[(Value.agg #[(Value.int .i64 p0_0), (Value.int .i64 p0_1), (Value.int .u32 p0_2)])] w0 (R16 K) := by
  refine calls_of_WE (args := [(Value.agg #[(Value.int .i64 p0_0), (Value.int .i64 p0_1), (Value.int .u32 p0_2)])]) (rs := [.tmp 2, .tmp 3]) Try.func16 rfl (N := 52) rfl rfl rfl rfl ?_
  refine WE.seq ?_
  refine WE.reg ?_
  obtain ⟨b2, hpb2, w1, hww1, h⟩ := M.new_use h
  refine LE.r (v := (Value.pointer (some b2))) (Wn.no rfl) rfl (R.box (cs := #[(Value.int .i64 p0_0), (Value.int .i64 p0_1), (Value.int .u32 p0_2)]) rfl rfl hpb2 hww1) ?_
  refine LE.p (v := (SV.v SV.nil)) (Wn.no rfl) rfl (R.assign rfl) ?_
  refine LE.p (v := (Value.int .i64 (0 : Int))) (Wn.no rfl) rfl (R.assign rfl) ?_
  refine LE.nil ?_
  refine WE.seq ?_
  refine WE.seq ?_
  obtain ⟨J3, hJ3, h⟩ := M.join_use h
  refine WE.regJ (fun e w => ∃ (x4 : Bool), J3 x4 w ∧ e 1 = (Value.pointer (some b2)) ∧ e 32 = (Value.bool x4)) ?_ ?_
  · clear hJ3
    refine LE.p (v := (Value.pointer (some b2))) (Wn.no rfl) rfl (R.fld (off := 0) fa29_0 rfl) ?_
    obtain ⟨t5, h6, h⟩ := h
    refine LE.r (v := (Value.int .i64 t5)) (Wn.no rfl) rfl (R.ld sc3 rfl h6) ?_
    refine LE.p (v := (Value.bool (decide (t5 < (1 : Int))))) (Wn.no rfl) rfl (R.lss rfl rfl) ?_
    refine LE.p (v := (Value.bool (decide (t5 < (1 : Int))))) (Wn.no rfl) rfl (R.move rfl) ?_
    rcases M.ite_use h with ⟨hb7, h⟩ | ⟨hb7, h⟩
    · refine LE.u (Un.no 3 8 false rfl rfl rfl (congrArg Value.bool hb7)) ?_
      refine LE.u (Un.no 3 8 false rfl rfl rfl (congrArg Value.bool hb7)) ?_
      refine LE.u (Un.no 3 8 false rfl rfl rfl (congrArg Value.bool hb7)) ?_
      refine LE.p (v := (Value.bool true)) (Wn.no rfl) rfl (R.pickT (congrArg Value.bool hb7) rfl) ?_
      refine LE.p (v := (Value.bool true)) (Wn.no rfl) rfl (R.move rfl) ?_
      refine LE.u (Un.no 8 13 false rfl rfl rfl rfl) ?_
      refine LE.u (Un.no 8 13 false rfl rfl rfl rfl) ?_
      refine LE.u (Un.no 8 13 false rfl rfl rfl rfl) ?_
      refine LE.u (Un.no 8 13 false rfl rfl rfl rfl) ?_
      refine LE.u (Un.un 12 17 true rfl rfl rfl rfl) ?_
      refine LE.u (Un.un 12 17 true rfl rfl rfl rfl) ?_
      refine LE.u (Un.un 12 17 true rfl rfl rfl rfl) ?_
      refine LE.u (Un.no 8 13 false rfl rfl rfl rfl) ?_
      refine LE.p (v := (Value.bool true)) (Wn.no rfl) rfl (R.pickT rfl rfl) ?_
      refine LE.p (v := (Value.bool true)) (Wn.no rfl) rfl (R.move rfl) ?_
      refine LE.u (Un.no 18 23 false rfl rfl rfl rfl) ?_
      refine LE.u (Un.no 18 23 false rfl rfl rfl rfl) ?_
      refine LE.u (Un.no 18 23 false rfl rfl rfl rfl) ?_
      refine LE.p (v := (Value.bool true)) (Wn.no rfl) rfl (R.pickT rfl rfl) ?_
      refine LE.p (v := (Value.bool true)) (Wn.no rfl) rfl (R.move rfl) ?_
      refine LE.u (Un.no 23 28 false rfl rfl rfl rfl) ?_
      refine LE.u (Un.no 23 28 false rfl rfl rfl rfl) ?_
      refine LE.u (Un.no 23 28 false rfl rfl rfl rfl) ?_
      refine LE.p (v := (Value.bool true)) (Wn.no rfl) rfl (R.pickT rfl rfl) ?_
      refine LE.nil ?_
      exact ⟨_, h, rfl, rfl⟩
    · refine LE.p (v := (Value.pointer (some b2))) (Wn.yes 3 8 false rfl rfl rfl (congrArg Value.bool hb7)) rfl (R.fld (off := 0) fa29_0 rfl) ?_
      obtain ⟨t8, h9, h⟩ := h
      refine LE.r (v := (Value.int .i64 t8)) (Wn.yes 3 8 false rfl rfl rfl (congrArg Value.bool hb7)) rfl (R.ld sc3 rfl h9) ?_
      refine LE.p (v := (Value.bool (decide ((65535 : Int) < t8)))) (Wn.yes 3 8 false rfl rfl rfl (congrArg Value.bool hb7)) rfl (R.gtr rfl rfl) ?_
      refine LE.p (v := (Value.bool (decide ((65535 : Int) < t8)))) (Wn.no rfl) rfl (R.pickF (congrArg Value.bool hb7) rfl) ?_
      refine LE.p (v := (Value.bool (decide ((65535 : Int) < t8)))) (Wn.no rfl) rfl (R.move rfl) ?_
      rcases M.ite_use h with ⟨hb10, h⟩ | ⟨hb10, h⟩
      · refine LE.u (Un.no 8 13 false rfl rfl rfl (congrArg Value.bool hb10)) ?_
        refine LE.u (Un.no 8 13 false rfl rfl rfl (congrArg Value.bool hb10)) ?_
        refine LE.u (Un.no 8 13 false rfl rfl rfl (congrArg Value.bool hb10)) ?_
        refine LE.u (Un.no 8 13 false rfl rfl rfl (congrArg Value.bool hb10)) ?_
        refine LE.u (Un.un 12 17 true rfl rfl rfl rfl) ?_
        refine LE.u (Un.un 12 17 true rfl rfl rfl rfl) ?_
        refine LE.u (Un.un 12 17 true rfl rfl rfl rfl) ?_
        refine LE.u (Un.no 8 13 false rfl rfl rfl (congrArg Value.bool hb10)) ?_
        refine LE.p (v := (Value.bool true)) (Wn.no rfl) rfl (R.pickT (congrArg Value.bool hb10) rfl) ?_
        refine LE.p (v := (Value.bool true)) (Wn.no rfl) rfl (R.move rfl) ?_
        refine LE.u (Un.no 18 23 false rfl rfl rfl rfl) ?_
        refine LE.u (Un.no 18 23 false rfl rfl rfl rfl) ?_
        refine LE.u (Un.no 18 23 false rfl rfl rfl rfl) ?_
        refine LE.p (v := (Value.bool true)) (Wn.no rfl) rfl (R.pickT rfl rfl) ?_
        refine LE.p (v := (Value.bool true)) (Wn.no rfl) rfl (R.move rfl) ?_
        refine LE.u (Un.no 23 28 false rfl rfl rfl rfl) ?_
        refine LE.u (Un.no 23 28 false rfl rfl rfl rfl) ?_
        refine LE.u (Un.no 23 28 false rfl rfl rfl rfl) ?_
        refine LE.p (v := (Value.bool true)) (Wn.no rfl) rfl (R.pickT rfl rfl) ?_
        refine LE.nil ?_
        exact ⟨_, h, rfl, rfl⟩
      · refine LE.p (v := (Value.pointer (some (b2.add 1)))) (Wn.yes 8 13 false rfl rfl rfl (congrArg Value.bool hb10)) rfl (R.fld (off := 1) fa29_1 rfl) ?_
        obtain ⟨t11, h12, h⟩ := h
        refine LE.r (v := (Value.int .i64 t11)) (Wn.yes 8 13 false rfl rfl rfl (congrArg Value.bool hb10)) rfl (R.ld sc3 rfl h12) ?_
        refine LE.p (v := (Value.bool (t11 != (0 : Int)))) (Wn.yes 8 13 false rfl rfl rfl (congrArg Value.bool hb10)) rfl (R.neq rfl rfl) ?_
        refine LE.p (v := (Value.bool (t11 != (0 : Int)))) (Wn.yes 8 13 false rfl rfl rfl (congrArg Value.bool hb10)) rfl (R.move rfl) ?_
        rcases M.ite_use h with ⟨hb13, h⟩ | ⟨hb13, h⟩
        · refine LE.p (v := (Value.pointer (some (b2.add 1)))) (Wn.yes 12 17 true rfl rfl rfl (congrArg Value.bool hb13)) rfl (R.fld (off := 1) fa29_1 rfl) ?_
          obtain ⟨t14, h15, h⟩ := h
          refine LE.r (v := (Value.int .i64 t14)) (Wn.yes 12 17 true rfl rfl rfl (congrArg Value.bool hb13)) rfl (R.ld sc3 rfl h15) ?_
          refine LE.p (v := (Value.bool (decide (t14 < (3 : Int))))) (Wn.yes 12 17 true rfl rfl rfl (congrArg Value.bool hb13)) rfl (R.lss rfl rfl) ?_
          refine LE.p (v := (Value.bool (decide (t14 < (3 : Int))))) (Wn.yes 8 13 false rfl rfl rfl (congrArg Value.bool hb10)) rfl (R.pickT (congrArg Value.bool hb13) rfl) ?_
          refine LE.p (v := (Value.bool (decide (t14 < (3 : Int))))) (Wn.no rfl) rfl (R.pickF (congrArg Value.bool hb10) rfl) ?_
          refine LE.p (v := (Value.bool (decide (t14 < (3 : Int))))) (Wn.no rfl) rfl (R.move rfl) ?_
          rcases M.ite_use h with ⟨hb16, h⟩ | ⟨hb16, h⟩
          · refine LE.u (Un.no 18 23 false rfl rfl rfl (congrArg Value.bool hb16)) ?_
            refine LE.u (Un.no 18 23 false rfl rfl rfl (congrArg Value.bool hb16)) ?_
            refine LE.u (Un.no 18 23 false rfl rfl rfl (congrArg Value.bool hb16)) ?_
            refine LE.p (v := (Value.bool true)) (Wn.no rfl) rfl (R.pickT (congrArg Value.bool hb16) rfl) ?_
            refine LE.p (v := (Value.bool true)) (Wn.no rfl) rfl (R.move rfl) ?_
            refine LE.u (Un.no 23 28 false rfl rfl rfl rfl) ?_
            refine LE.u (Un.no 23 28 false rfl rfl rfl rfl) ?_
            refine LE.u (Un.no 23 28 false rfl rfl rfl rfl) ?_
            refine LE.p (v := (Value.bool true)) (Wn.no rfl) rfl (R.pickT rfl rfl) ?_
            refine LE.nil ?_
            exact ⟨_, h, rfl, rfl⟩
          · refine LE.p (v := (Value.pointer (some (b2.add 1)))) (Wn.yes 18 23 false rfl rfl rfl (congrArg Value.bool hb16)) rfl (R.fld (off := 1) fa29_1 rfl) ?_
            obtain ⟨t17, h18, h⟩ := h
            refine LE.r (v := (Value.int .i64 t17)) (Wn.yes 18 23 false rfl rfl rfl (congrArg Value.bool hb16)) rfl (R.ld sc3 rfl h18) ?_
            refine LE.p (v := (Value.bool (decide ((65535 : Int) < t17)))) (Wn.yes 18 23 false rfl rfl rfl (congrArg Value.bool hb16)) rfl (R.gtr rfl rfl) ?_
            refine LE.p (v := (Value.bool (decide ((65535 : Int) < t17)))) (Wn.no rfl) rfl (R.pickF (congrArg Value.bool hb16) rfl) ?_
            refine LE.p (v := (Value.bool (decide ((65535 : Int) < t17)))) (Wn.no rfl) rfl (R.move rfl) ?_
            rcases M.ite_use h with ⟨hb19, h⟩ | ⟨hb19, h⟩
            · refine LE.u (Un.no 23 28 false rfl rfl rfl (congrArg Value.bool hb19)) ?_
              refine LE.u (Un.no 23 28 false rfl rfl rfl (congrArg Value.bool hb19)) ?_
              refine LE.u (Un.no 23 28 false rfl rfl rfl (congrArg Value.bool hb19)) ?_
              refine LE.p (v := (Value.bool true)) (Wn.no rfl) rfl (R.pickT (congrArg Value.bool hb19) rfl) ?_
              refine LE.nil ?_
              exact ⟨_, h, rfl, rfl⟩
            · refine LE.p (v := (Value.pointer (some (b2.add 2)))) (Wn.yes 23 28 false rfl rfl rfl (congrArg Value.bool hb19)) rfl (R.fld (off := 2) fa29_2 rfl) ?_
              obtain ⟨t20, h21, h⟩ := h
              refine LE.r (v := (Value.int .u32 t20)) (Wn.yes 23 28 false rfl rfl rfl (congrArg Value.bool hb19)) rfl (R.ld sc22 rfl h21) ?_
              refine LE.p (v := (Value.bool (t20 == (0 : Int)))) (Wn.yes 23 28 false rfl rfl rfl (congrArg Value.bool hb19)) rfl (R.eql rfl rfl) ?_
              refine LE.p (v := (Value.bool (t20 == (0 : Int)))) (Wn.no rfl) rfl (R.pickF (congrArg Value.bool hb19) rfl) ?_
              refine LE.nil ?_
              exact ⟨_, h, rfl, rfl⟩
        · refine LE.u (Un.no 12 17 true rfl rfl rfl (congrArg Value.bool hb13)) ?_
          refine LE.u (Un.no 12 17 true rfl rfl rfl (congrArg Value.bool hb13)) ?_
          refine LE.u (Un.no 12 17 true rfl rfl rfl (congrArg Value.bool hb13)) ?_
          refine LE.p (v := (Value.bool false)) (Wn.yes 8 13 false rfl rfl rfl (congrArg Value.bool hb10)) rfl (R.pickF (congrArg Value.bool hb13) rfl) ?_
          refine LE.p (v := (Value.bool false)) (Wn.no rfl) rfl (R.pickF (congrArg Value.bool hb10) rfl) ?_
          refine LE.p (v := (Value.bool false)) (Wn.no rfl) rfl (R.move rfl) ?_
          refine LE.p (v := (Value.pointer (some (b2.add 1)))) (Wn.yes 18 23 false rfl rfl rfl rfl) rfl (R.fld (off := 1) fa29_1 rfl) ?_
          obtain ⟨t22, h23, h⟩ := h
          refine LE.r (v := (Value.int .i64 t22)) (Wn.yes 18 23 false rfl rfl rfl rfl) rfl (R.ld sc3 rfl h23) ?_
          refine LE.p (v := (Value.bool (decide ((65535 : Int) < t22)))) (Wn.yes 18 23 false rfl rfl rfl rfl) rfl (R.gtr rfl rfl) ?_
          refine LE.p (v := (Value.bool (decide ((65535 : Int) < t22)))) (Wn.no rfl) rfl (R.pickF rfl rfl) ?_
          refine LE.p (v := (Value.bool (decide ((65535 : Int) < t22)))) (Wn.no rfl) rfl (R.move rfl) ?_
          rcases M.ite_use h with ⟨hb24, h⟩ | ⟨hb24, h⟩
          · refine LE.u (Un.no 23 28 false rfl rfl rfl (congrArg Value.bool hb24)) ?_
            refine LE.u (Un.no 23 28 false rfl rfl rfl (congrArg Value.bool hb24)) ?_
            refine LE.u (Un.no 23 28 false rfl rfl rfl (congrArg Value.bool hb24)) ?_
            refine LE.p (v := (Value.bool true)) (Wn.no rfl) rfl (R.pickT (congrArg Value.bool hb24) rfl) ?_
            refine LE.nil ?_
            exact ⟨_, h, rfl, rfl⟩
          · refine LE.p (v := (Value.pointer (some (b2.add 2)))) (Wn.yes 23 28 false rfl rfl rfl (congrArg Value.bool hb24)) rfl (R.fld (off := 2) fa29_2 rfl) ?_
            obtain ⟨t25, h26, h⟩ := h
            refine LE.r (v := (Value.int .u32 t25)) (Wn.yes 23 28 false rfl rfl rfl (congrArg Value.bool hb24)) rfl (R.ld sc22 rfl h26) ?_
            refine LE.p (v := (Value.bool (t25 == (0 : Int)))) (Wn.yes 23 28 false rfl rfl rfl (congrArg Value.bool hb24)) rfl (R.eql rfl rfl) ?_
            refine LE.p (v := (Value.bool (t25 == (0 : Int)))) (Wn.no rfl) rfl (R.pickF (congrArg Value.bool hb24) rfl) ?_
            refine LE.nil ?_
            exact ⟨_, h, rfl, rfl⟩
  · rintro e27 w28 ⟨x4, h, f29, f30⟩
    subst hJ3
    refine WE.condT rfl (b := x4) f30 ?_ ?_
    · intro hb31
      replace h := M.ite_t h hb31
      refine WE.seq ?_
      refine WE.reg ?_
      refine LE.p (v := (SV.v SV.nil)) (Wn.no rfl) rfl (R.assign rfl) ?_
      refine LE.p (v := (Value.int .i64 (12 : Int))) (Wn.no rfl) rfl (R.assign rfl) ?_
      refine LE.nil ?_
      refine WE.ret ?_
      exact ⟨_, (Res.tmp rfl (Res.tmp rfl Res.nil)), _, _, rfl, h⟩
    · intro hb31
      replace h := M.ite_f h hb31
      refine WE.skip ?_
      refine WE.seq ?_
      refine WE.reg ?_
      refine LE.c (Wn.no rfl) rfl (R.call bd29 Ls.nil rfl) (Calls.mono h ?_)
      rintro _ w33 ⟨r32, rfl, h⟩
      refine ⟨_, rfl, ?_⟩
      refine LE.p (v := (Value.pointer r32)) (Wn.no rfl) rfl (R.assign rfl) ?_
      refine LE.nil ?_
      refine WE.seq ?_
      refine WE.reg ?_
      refine LE.p (v := (Value.pointer r32)) (Wn.no rfl) rfl (R.move rfl) ?_
      refine LE.c (Wn.no rfl) rfl (R.call bd30 (Ls.cons rfl (Ls.cons rfl Ls.nil)) rfl) (Calls.mono h ?_)
      rintro _ w34 ⟨rfl, h⟩
      refine ⟨_, rfl, ?_⟩
      refine LE.nil ?_
      refine WE.seq ?_
      refine WE.reg ?_
      refine LE.p (v := (Value.pointer r32)) (Wn.no rfl) rfl (R.move rfl) ?_
      refine LE.p (v := (Value.pointer (some b2))) (Wn.no rfl) rfl (R.fld (off := 0) fa29_0 f29) ?_
      obtain ⟨t35, h36, h⟩ := h
      refine LE.r (v := (Value.int .i64 t35)) (Wn.no rfl) rfl (R.ld sc3 rfl h36) ?_
      refine LE.c (Wn.no rfl) rfl (R.call bd31 (Ls.cons rfl (Ls.cons rfl Ls.nil)) rfl) (Calls.mono h ?_)
      rintro _ w37 ⟨rfl, h⟩
      refine ⟨_, rfl, ?_⟩
      refine LE.nil ?_
      refine WE.seq ?_
      refine WE.reg ?_
      refine LE.p (v := (Value.pointer r32)) (Wn.no rfl) rfl (R.move rfl) ?_
      refine LE.p (v := (Value.pointer (some (b2.add 1)))) (Wn.no rfl) rfl (R.fld (off := 1) fa29_1 f29) ?_
      obtain ⟨t38, h39, h⟩ := h
      refine LE.r (v := (Value.int .i64 t38)) (Wn.no rfl) rfl (R.ld sc3 rfl h39) ?_
      refine LE.c (Wn.no rfl) rfl (R.call bd31 (Ls.cons rfl (Ls.cons rfl Ls.nil)) rfl) (Calls.mono h ?_)
      rintro _ w40 ⟨rfl, h⟩
      refine ⟨_, rfl, ?_⟩
      refine LE.nil ?_
      refine WE.seq ?_
      refine WE.reg ?_
      refine LE.p (v := (Value.pointer r32)) (Wn.no rfl) rfl (R.move rfl) ?_
      refine LE.p (v := (Value.pointer (some (b2.add 2)))) (Wn.no rfl) rfl (R.fld (off := 2) fa29_2 f29) ?_
      obtain ⟨t41, h42, h⟩ := h
      refine LE.r (v := (Value.int .u32 t41)) (Wn.no rfl) rfl (R.ld sc22 rfl h42) ?_
      refine LE.c (Wn.no rfl) rfl (R.call bd32 (Ls.cons rfl (Ls.cons rfl Ls.nil)) rfl) (Calls.mono h ?_)
      rintro _ w43 ⟨rfl, h⟩
      refine ⟨_, rfl, ?_⟩
      refine LE.nil ?_
      refine WE.seq ?_
      refine WE.reg ?_
      refine LE.p (v := (Value.pointer r32)) (Wn.no rfl) rfl (R.move rfl) ?_
      refine LE.c (Wn.no rfl) rfl (R.call bd30 (Ls.cons rfl (Ls.cons rfl Ls.nil)) rfl) (Calls.mono h ?_)
      rintro _ w44 ⟨rfl, h⟩
      refine ⟨_, rfl, ?_⟩
      refine LE.nil ?_
      refine WE.seq ?_
      refine WE.reg ?_
      refine LE.p (v := (Value.pointer r32)) (Wn.no rfl) rfl (R.move rfl) ?_
      refine LE.c (Wn.no rfl) rfl (R.call bd33 (Ls.cons rfl Ls.nil) rfl) (Calls.mono h ?_)
      rintro _ w46 ⟨r45, rfl, h⟩
      refine ⟨_, rfl, ?_⟩
      refine LE.p (v := (SV.v r45)) (Wn.no rfl) rfl (R.assign rfl) ?_
      refine LE.p (v := (Value.int .i64 (0 : Int))) (Wn.no rfl) rfl (R.assign rfl) ?_
      refine LE.nil ?_
      refine WE.ret ?_
      exact ⟨_, (Res.tmp rfl (Res.tmp rfl Res.nil)), _, _, rfl, h⟩
/-- The formula of signpost.open.DecodeNote. -/
def F17 (p0 : SV) (K : Int → Int → SV → Bool → World → Prop) (w0 : World) : Prop :=
M.new (.cells #[(Value.int .i64 (0 : Int)), (Value.int .i64 (0 : Int)), (SV.v SV.nil)] 35) w0 fun b2 w1 =>
M.ite (decide ((p0.len : Int) < (2 : Int))) (
M.stA b2 [(Value.int .i64 (0 : Int)), (Value.int .i64 (0 : Int)), (SV.v SV.nil)] w1 fun w4 =>
M.ld (Value.int .i64) b2 w4 fun t6 =>
M.ld (Value.int .i64) (b2.add 1) w4 fun t8 =>
M.ld SV.v (b2.add 2) w4 fun t10 =>
K t6 t8 t10 false w4) (
M.drew w1 fun w12 => 
M.idx p0 (0 : Int) 1 fun a13 =>
M.idx p0 (1 : Int) 1 fun a17 =>
M.bnd (2 : Int) (p0.len : Int) p0 <|
M.ld (Value.int .u8) (a13.add ((0 : Int).toNat * 1)) w12 fun t25 =>
M.ld (Value.int .u8) (a17.add ((1 : Int).toNat * 1)) w12 fun t27 =>
Calls Try.prog 34 #[(SV.v (SV.sub p0 (Int.toNat (2 : Int)) (Int.toNat (p0.len : Int)) 1))] w12 (R34 fun r29 w30 =>
M.keep (w30.cell? (a17.add ((1 : Int).toNat * 1)) = some (Value.int .u8 t27)) <|
M.keep (w30.cell? (a13.add ((0 : Int).toNat * 1)) = some (Value.int .u8 t25)) <|
M.stA b2 [(Value.int .i64 (IntKind.i64.wrap t25)), (Value.int .i64 (IntKind.i64.wrap t27)), (SV.v r29)] w30 fun w33 =>
M.ld (Value.int .i64) b2 w33 fun t35 =>
M.ld (Value.int .i64) (b2.add 1) w33 fun t37 =>
M.ld SV.v (b2.add 2) w33 fun t39 =>
K t35 t37 t39 true w33))
theorem F17_ok {w0 : World} {p0 : SV} {K : Int → Int → SV → Bool → World → Prop} (h : F17 p0 K w0) : Calls Try.prog 17 #[(SV.v p0)] w0 (R17 K) := by
  refine calls_of_WE (args := [(SV.v p0)]) (rs := [.cell 2 35, .tmp 3]) Try.func17 rfl (N := 20) rfl rfl rfl rfl ?_
  refine WE.seq ?_
  refine WE.reg ?_
  obtain ⟨b2, hpb2, w1, hww1, h⟩ := M.new_use h
  refine LE.r (v := (Value.pointer (some b2))) (Wn.no rfl) rfl (R.alloc (cs := #[(Value.int .i64 (0 : Int)), (Value.int .i64 (0 : Int)), (SV.v SV.nil)]) ze35 rfl hpb2 hww1) ?_
  refine LE.p (v := (Value.bool false)) (Wn.no rfl) rfl (R.assign rfl) ?_
  refine LE.nil ?_
  refine WE.seq ?_
  refine WE.seq ?_
  refine WE.reg ?_
  refine LE.p (v := (SV.v p0)) (Wn.no rfl) rfl (R.move rfl) ?_
  refine LE.p (v := (Value.int .i64 (p0.len : Int))) (Wn.no rfl) rfl (R.len sl23 rfl) ?_
  refine LE.p (v := (Value.bool (decide ((p0.len : Int) < (2 : Int))))) (Wn.no rfl) rfl (R.lss rfl rfl) ?_
  refine LE.nil ?_
  refine WE.condT rfl (b := (decide ((p0.len : Int) < (2 : Int)))) rfl ?_ ?_
  · intro hb3
    replace h := M.ite_t h hb3
    refine WE.seq ?_
    refine WE.reg ?_
    refine LE.p (v := (Value.agg #[(Value.int .i64 (0 : Int)), (Value.int .i64 (0 : Int)), (SV.v SV.nil)])) (Wn.no rfl) rfl (R.bld (by exact Ls.nil) (fun w => bu35_  w)) ?_
    obtain ⟨w4, hww4, h5, h⟩ := M.stA_use h
    refine LE.s (Wn.no rfl) rfl (R.stA (a := b2) [(Value.int .i64 (0 : Int)), (Value.int .i64 (0 : Int)), (SV.v SV.nil)] sz35 rfl rfl rfl (by simp [Value.oneCell']) h5 hww4) ?_
    refine LE.p (v := (Value.bool false)) (Wn.no rfl) rfl (R.assign rfl) ?_
    refine LE.nil ?_
    refine WE.ret ?_
    obtain ⟨t6, h7, h⟩ := h
    obtain ⟨t8, h9, h⟩ := h
    obtain ⟨t10, h11, h⟩ := h
    exact ⟨_, (Res.cell rfl (R.ldCellA ag35 sz35 rfl (Cs.cons h7 (Cs.cons h9 (Cs.cons h11 Cs.nil)))) (Res.tmp rfl Res.nil)), _, _, _, _, rfl, h⟩
  · intro hb3
    replace h := M.ite_f h hb3
    refine WE.skip ?_
    refine WE.seq ?_
    refine WE.draw mix ?_
    obtain ⟨w12, hww12, h⟩ := M.drew_use h
    rw [← hww12]
    clear hww12
    refine DE.t 0 (v := (SV.v p0)) rfl (by kernel_rfl) (Wn.no rfl) rfl (R.move rfl) ?_
    obtain ⟨a13, h14, h15, h16, h⟩ := h
    refine DE.t 1 (v := (Value.pointer (some (a13.add ((0 : Int).toNat * 1))))) rfl (by kernel_rfl) (Wn.no rfl) rfl (R.idx (s := p0) sl23 rfl rfl h14 h15 h16) ?_
    refine DE.t 4 (v := (SV.v p0)) rfl (by kernel_rfl) (Wn.no rfl) rfl (R.move rfl) ?_
    obtain ⟨a17, h18, h19, h20, h⟩ := h
    refine DE.t 5 (v := (Value.pointer (some (a17.add ((1 : Int).toNat * 1))))) rfl (by kernel_rfl) (Wn.no rfl) rfl (R.idx (s := p0) sl23 rfl rfl h18 h19 h20) ?_
    refine DE.t 8 (v := (SV.v p0)) rfl (by kernel_rfl) (Wn.no rfl) rfl (R.move rfl) ?_
    obtain ⟨h21, h22, h23, h⟩ := h
    refine DE.t 9 (v := (SV.v (SV.sub p0 (Int.toNat (2 : Int)) (Int.toNat (p0.len : Int)) 1))) rfl (by kernel_rfl) (Wn.no rfl) rfl (R.slc (s := p0) (lo := (2 : Int)) (hi := (p0.len : Int)) _ _ sl23 rfl rfl rfl h21 h22 h23) ?_
    obtain ⟨t25, h26, h⟩ := h
    refine DE.hold 2 (fun w => w.cell? (a13.add ((0 : Int).toNat * 1)) = some (Value.int .u8 t25)) (v := (Value.int .u8 t25)) rfl (by kernel_rfl) (Wn.no rfl) rfl h26 (fun w hs => R.ld sc5 rfl hs) ?_
    refine DE.t 3 (v := (Value.int .i64 (IntKind.i64.wrap t25))) rfl (by kernel_rfl) (Wn.no rfl) rfl (R.conv in3 in5 rfl) ?_
    obtain ⟨t27, h28, h⟩ := h
    refine DE.hold 6 (fun w => w.cell? (a17.add ((1 : Int).toNat * 1)) = some (Value.int .u8 t27)) (v := (Value.int .u8 t27)) rfl (by kernel_rfl) (Wn.no rfl) rfl h28 (fun w hs => R.ld sc5 rfl hs) ?_
    refine DE.t 7 (v := (Value.int .i64 (IntKind.i64.wrap t27))) rfl (by kernel_rfl) (Wn.no rfl) rfl (R.conv in3 in5 rfl) ?_
    refine DE.main 10 (by kernel_rfl) ?_
    refine One.c 10 rfl (Wn.no rfl) rfl (R.call bd34 (Ls.cons rfl Ls.nil) rfl) (Calls.mono h ?_)
    rintro _ w30 ⟨r29, rfl, h⟩
    obtain ⟨k31, h⟩ := h
    obtain ⟨k32, h⟩ := h
    refine ⟨_, rfl, ⟨fun _ => k31, fun _ => k32, trivial⟩, ?_⟩
    refine DE.t 11 (v := (Value.agg #[(Value.int .i64 (IntKind.i64.wrap t25)), (Value.int .i64 (IntKind.i64.wrap t27)), (SV.v r29)])) rfl (by kernel_rfl) (Wn.no rfl) rfl (R.bld (by exact (Ls.cons (R.Pr rfl) (Ls.cons (R.Pr rfl) (Ls.cons (R.Pr rfl) Ls.nil)))) (fun w => bu35_0_1_2 (IntKind.i64.wrap t25) (IntKind.i64.wrap t27) r29 w)) ?_
    obtain ⟨w33, hww33, h34, h⟩ := M.stA_use h
    refine DE.main 12 (by kernel_rfl) ?_
    refine One.s 12 rfl (Wn.no rfl) rfl (R.stA (a := b2) [(Value.int .i64 (IntKind.i64.wrap t25)), (Value.int .i64 (IntKind.i64.wrap t27)), (SV.v r29)] sz35 rfl rfl rfl (by simp [Value.oneCell']) h34 hww33) ⟨aftT (by kernel_rfl), aftT (by kernel_rfl), trivial⟩ ?_
    refine DE.t 13 (v := (Value.bool true)) rfl (by kernel_rfl) (Wn.no rfl) rfl (R.assign rfl) ?_
    refine DE.done (by kernel_rfl) ?_
    refine WE.ret ?_
    obtain ⟨t35, h36, h⟩ := h
    obtain ⟨t37, h38, h⟩ := h
    obtain ⟨t39, h40, h⟩ := h
    exact ⟨_, (Res.cell rfl (R.ldCellA ag35 sz35 rfl (Cs.cons h36 (Cs.cons h38 (Cs.cons h40 Cs.nil)))) (Res.tmp rfl Res.nil)), _, _, _, _, rfl, h⟩
/-- The formula of signpost.open.EncodeNote. -/
def F18 (p0_0 : Int) (p0_1 : Int) (p0_2 : SV) (K : SV → World → Prop) (w0 : World) : Prop :=
M.new (.cells #[(Value.int .i64 p0_0), (Value.int .i64 p0_1), (SV.v p0_2)] 35) w0 fun b2 w1 =>
M.ld (Value.int .i64) b2 w1 fun t3 =>
M.ld (Value.int .i64) (b2.add 1) w1 fun t5 =>
M.new (.cells #[(Value.int .u8 (IntKind.u8.wrap t3)), (Value.int .u8 (IntKind.u8.wrap t5))] 5) w1 fun b9 w7 =>
M.ld SV.v (b2.add 2) w7 fun t10 =>
M.new (.cells #[(SV.v (SV.mk (some b9) 2 2)), (SV.v t10)] 23) w7 fun b14 w12 =>
Calls Try.prog 35 #[(SV.v (SV.mk (some b14) 2 2))] w12 (R35 fun r15 w16 =>
K r15 w16)
theorem F18_ok {w0 : World} {p0_0 : Int} {p0_1 : Int} {p0_2 : SV} {K : SV → World → Prop} (h : F18 p0_0 p0_1 p0_2 K w0) : Calls Try.prog 18 #[(Value.agg #[(Value.int .i64 p0_0), (Value.int .i64 p0_1), (SV.v p0_2)])] w0 (R18 K) := by
  refine calls_of_WE (args := [(Value.agg #[(Value.int .i64 p0_0), (Value.int .i64 p0_1), (SV.v p0_2)])]) (rs := [.tmp 2]) Try.func18 rfl (N := 14) rfl rfl rfl rfl ?_
  refine WE.seq ?_
  refine WE.reg ?_
  obtain ⟨b2, hpb2, w1, hww1, h⟩ := M.new_use h
  refine LE.r (v := (Value.pointer (some b2))) (Wn.no rfl) rfl (R.box (cs := #[(Value.int .i64 p0_0), (Value.int .i64 p0_1), (SV.v p0_2)]) rfl rfl hpb2 hww1) ?_
  refine LE.p (v := (SV.v SV.nil)) (Wn.no rfl) rfl (R.assign rfl) ?_
  refine LE.nil ?_
  refine WE.seq ?_
  refine WE.reg ?_
  refine LE.p (v := (Value.pointer (some b2))) (Wn.no rfl) rfl (R.fld (off := 0) fa35_0 rfl) ?_
  obtain ⟨t3, h4, h⟩ := h
  refine LE.r (v := (Value.int .i64 t3)) (Wn.no rfl) rfl (R.ld sc3 rfl h4) ?_
  refine LE.p (v := (Value.int .u8 (IntKind.u8.wrap t3))) (Wn.no rfl) rfl (R.conv in5 in3 rfl) ?_
  refine LE.p (v := (Value.pointer (some (b2.add 1)))) (Wn.no rfl) rfl (R.fld (off := 1) fa35_1 rfl) ?_
  obtain ⟨t5, h6, h⟩ := h
  refine LE.r (v := (Value.int .i64 t5)) (Wn.no rfl) rfl (R.ld sc3 rfl h6) ?_
  refine LE.p (v := (Value.int .u8 (IntKind.u8.wrap t5))) (Wn.no rfl) rfl (R.conv in5 in3 rfl) ?_
  obtain ⟨b9, hpb9, w7, hww7, h⟩ := M.new_use h
  refine LE.r (v := (SV.v (SV.mk (some b9) 2 2))) (Wn.no rfl) rfl (R.bsl (by exact (Ls.cons (R.Pr rfl) (Ls.cons (R.Pr rfl) Ls.nil))) (fun w => bs23_2 (IntKind.u8.wrap t3) (IntKind.u8.wrap t5) w) hpb9 hww7) ?_
  refine LE.p (v := (Value.pointer (some (b2.add 2)))) (Wn.no rfl) rfl (R.fld (off := 2) fa35_2 rfl) ?_
  obtain ⟨t10, h11, h⟩ := h
  refine LE.r (v := (SV.v t10)) (Wn.no rfl) rfl (R.ld sc23 rfl h11) ?_
  obtain ⟨b14, hpb14, w12, hww12, h⟩ := M.new_use h
  refine LE.r (v := (SV.v (SV.mk (some b14) 2 2))) (Wn.no rfl) rfl (R.bsl (by exact (Ls.cons (R.Pr rfl) (Ls.cons (R.Pr rfl) Ls.nil))) (fun w => bs78_2 (SV.mk (some b9) 2 2) t10 w) hpb14 hww12) ?_
  refine LE.c (Wn.no rfl) rfl (R.call bd35 (Ls.cons rfl Ls.nil) rfl) (Calls.mono h ?_)
  rintro _ w16 ⟨r15, rfl, h⟩
  refine ⟨_, rfl, ?_⟩
  refine LE.p (v := (SV.v r15)) (Wn.no rfl) rfl (R.assign rfl) ?_
  refine LE.nil ?_
  refine WE.ret ?_
  exact ⟨_, (Res.tmp rfl Res.nil), _, rfl, h⟩
/-- The formula of signpost.signpostref4.U16. -/
def F19 (p0 : SV) (p1 : Int) (K : SV → World → Prop) (w0 : World) : Prop :=
M.new (.cells #[] 5) w0 fun b3 w1 =>
M.app Try.prog 23 23 23 (SV.mk (some b3) 0 0) (SV.v p0) w1 fun s4 w5 =>
M.new (.cells #[(Value.int .u8 (IntKind.u8.wrap (bShr .i64 p1 (8 : Int)))), (Value.int .u8 (IntKind.u8.wrap p1))] 5) w5 fun b9 w7 =>
M.app Try.prog 23 23 23 s4 (SV.v (SV.mk (some b9) 2 2)) w7 fun s10 w11 =>
K s10 w11
theorem F19_ok {w0 : World} {p0 : SV} {p1 : Int} {K : SV → World → Prop} (h : F19 p0 p1 K w0) : Calls Try.prog 19 #[(SV.v p0), (Value.int .i64 p1)] w0 (R19 K) := by
  refine calls_of_WE (args := [(SV.v p0), (Value.int .i64 p1)]) (rs := [.tmp 4]) Try.func19 rfl (N := 15) rfl rfl rfl rfl ?_
  refine WE.seq ?_
  refine WE.reg ?_
  refine LE.p (v := (SV.v SV.nil)) (Wn.no rfl) rfl (R.assign rfl) ?_
  refine LE.nil ?_
  refine WE.seq ?_
  refine WE.reg ?_
  obtain ⟨b3, hpb3, w1, hww1, h⟩ := M.new_use h
  refine LE.r (v := (SV.v (SV.mk (some b3) 0 0))) (Wn.no rfl) rfl (R.bsl (by exact Ls.nil) (fun w => bs23_0  w) hpb3 hww1) ?_
  refine LE.p (v := (SV.v p0)) (Wn.no rfl) rfl (R.move rfl) ?_
  obtain ⟨s4, w5, h6, h⟩ := h
  refine LE.r (v := (SV.v s4)) (Wn.no rfl) rfl (R.app (s := (SV.mk (some b3) 0 0)) (r := s4) rfl rfl h6) ?_
  refine LE.p (v := (Value.int .i64 p1)) (Wn.no rfl) rfl (R.move rfl) ?_
  refine LE.p (v := (Value.int .i64 (bShr .i64 p1 (8 : Int)))) (Wn.no rfl) rfl (R.shr rfl rfl (by decide)) ?_
  refine LE.p (v := (Value.int .u8 (IntKind.u8.wrap (bShr .i64 p1 (8 : Int))))) (Wn.no rfl) rfl (R.conv in5 in3 rfl) ?_
  refine LE.p (v := (Value.int .i64 p1)) (Wn.no rfl) rfl (R.move rfl) ?_
  refine LE.p (v := (Value.int .u8 (IntKind.u8.wrap p1))) (Wn.no rfl) rfl (R.conv in5 in3 rfl) ?_
  obtain ⟨b9, hpb9, w7, hww7, h⟩ := M.new_use h
  refine LE.r (v := (SV.v (SV.mk (some b9) 2 2))) (Wn.no rfl) rfl (R.bsl (by exact (Ls.cons (R.Pr rfl) (Ls.cons (R.Pr rfl) Ls.nil))) (fun w => bs23_2 (IntKind.u8.wrap (bShr .i64 p1 (8 : Int))) (IntKind.u8.wrap p1) w) hpb9 hww7) ?_
  obtain ⟨s10, w11, h12, h⟩ := h
  refine LE.r (v := (SV.v s10)) (Wn.no rfl) rfl (R.app (s := s4) (r := s10) rfl rfl h12) ?_
  refine LE.p (v := (SV.v s10)) (Wn.no rfl) rfl (R.assign rfl) ?_
  refine LE.nil ?_
  refine WE.ret ?_
  exact ⟨_, (Res.tmp rfl Res.nil), _, rfl, h⟩
/-- The formula of signpost.signpostref4.U32. -/
def F20 (p0 : SV) (p1 : Int) (K : SV → World → Prop) (w0 : World) : Prop :=
M.new (.cells #[] 5) w0 fun b3 w1 =>
M.app Try.prog 23 23 23 (SV.mk (some b3) 0 0) (SV.v p0) w1 fun s4 w5 =>
M.new (.cells #[(Value.int .u8 (IntKind.u8.wrap (bShr .u32 p1 (24 : Int)))), (Value.int .u8 (IntKind.u8.wrap (bShr .u32 p1 (16 : Int)))), (Value.int .u8 (IntKind.u8.wrap (bShr .u32 p1 (8 : Int)))), (Value.int .u8 (IntKind.u8.wrap p1))] 5) w5 fun b9 w7 =>
M.app Try.prog 23 23 23 s4 (SV.v (SV.mk (some b9) 4 4)) w7 fun s10 w11 =>
K s10 w11
theorem F20_ok {w0 : World} {p0 : SV} {p1 : Int} {K : SV → World → Prop} (h : F20 p0 p1 K w0) : Calls Try.prog 20 #[(SV.v p0), (Value.int .u32 p1)] w0 (R20 K) := by
  refine calls_of_WE (args := [(SV.v p0), (Value.int .u32 p1)]) (rs := [.tmp 4]) Try.func20 rfl (N := 21) rfl rfl rfl rfl ?_
  refine WE.seq ?_
  refine WE.reg ?_
  refine LE.p (v := (SV.v SV.nil)) (Wn.no rfl) rfl (R.assign rfl) ?_
  refine LE.nil ?_
  refine WE.seq ?_
  refine WE.reg ?_
  obtain ⟨b3, hpb3, w1, hww1, h⟩ := M.new_use h
  refine LE.r (v := (SV.v (SV.mk (some b3) 0 0))) (Wn.no rfl) rfl (R.bsl (by exact Ls.nil) (fun w => bs23_0  w) hpb3 hww1) ?_
  refine LE.p (v := (SV.v p0)) (Wn.no rfl) rfl (R.move rfl) ?_
  obtain ⟨s4, w5, h6, h⟩ := h
  refine LE.r (v := (SV.v s4)) (Wn.no rfl) rfl (R.app (s := (SV.mk (some b3) 0 0)) (r := s4) rfl rfl h6) ?_
  refine LE.p (v := (Value.int .u32 p1)) (Wn.no rfl) rfl (R.move rfl) ?_
  refine LE.p (v := (Value.int .u32 (bShr .u32 p1 (24 : Int)))) (Wn.no rfl) rfl (R.shr rfl rfl (by decide)) ?_
  refine LE.p (v := (Value.int .u8 (IntKind.u8.wrap (bShr .u32 p1 (24 : Int))))) (Wn.no rfl) rfl (R.conv in5 in22 rfl) ?_
  refine LE.p (v := (Value.int .u32 p1)) (Wn.no rfl) rfl (R.move rfl) ?_
  refine LE.p (v := (Value.int .u32 (bShr .u32 p1 (16 : Int)))) (Wn.no rfl) rfl (R.shr rfl rfl (by decide)) ?_
  refine LE.p (v := (Value.int .u8 (IntKind.u8.wrap (bShr .u32 p1 (16 : Int))))) (Wn.no rfl) rfl (R.conv in5 in22 rfl) ?_
  refine LE.p (v := (Value.int .u32 p1)) (Wn.no rfl) rfl (R.move rfl) ?_
  refine LE.p (v := (Value.int .u32 (bShr .u32 p1 (8 : Int)))) (Wn.no rfl) rfl (R.shr rfl rfl (by decide)) ?_
  refine LE.p (v := (Value.int .u8 (IntKind.u8.wrap (bShr .u32 p1 (8 : Int))))) (Wn.no rfl) rfl (R.conv in5 in22 rfl) ?_
  refine LE.p (v := (Value.int .u32 p1)) (Wn.no rfl) rfl (R.move rfl) ?_
  refine LE.p (v := (Value.int .u8 (IntKind.u8.wrap p1))) (Wn.no rfl) rfl (R.conv in5 in22 rfl) ?_
  obtain ⟨b9, hpb9, w7, hww7, h⟩ := M.new_use h
  refine LE.r (v := (SV.v (SV.mk (some b9) 4 4))) (Wn.no rfl) rfl (R.bsl (by exact (Ls.cons (R.Pr rfl) (Ls.cons (R.Pr rfl) (Ls.cons (R.Pr rfl) (Ls.cons (R.Pr rfl) Ls.nil))))) (fun w => bs23_4 (IntKind.u8.wrap (bShr .u32 p1 (24 : Int))) (IntKind.u8.wrap (bShr .u32 p1 (16 : Int))) (IntKind.u8.wrap (bShr .u32 p1 (8 : Int))) (IntKind.u8.wrap p1) w) hpb9 hww7) ?_
  obtain ⟨s10, w11, h12, h⟩ := h
  refine LE.r (v := (SV.v s10)) (Wn.no rfl) rfl (R.app (s := s4) (r := s10) rfl rfl h12) ?_
  refine LE.p (v := (SV.v s10)) (Wn.no rfl) rfl (R.assign rfl) ?_
  refine LE.nil ?_
  refine WE.ret ?_
  exact ⟨_, (Res.tmp rfl Res.nil), _, rfl, h⟩
/-- The formula of signpost.signpostref10.Right. -/
def F21 (p0_0 : Int) (p0_1 : Int) (p0_2 : Int) (K : Bool → World → Prop) (w0 : World) : Prop :=
M.new (.cells #[(Value.int .i64 p0_0), (Value.int .i64 p0_1), (Value.int .u32 p0_2)] 26) w0 fun b2 w1 =>
M.join (fun (x4 : Bool) (w25 : World) => 
K x4 w25) fun J3 => 
M.ld (Value.int .i64) b2 w1 fun t5 =>
M.ite (decide ((1 : Int) ≤ t5)) (
M.ld (Value.int .i64) b2 w1 fun t8 =>
M.ite (decide (t8 ≤ (65535 : Int))) (
M.ld (Value.int .i64) (b2.add 1) w1 fun t11 =>
M.ite (t11 == (0 : Int)) (
M.ld (Value.int .u32) (b2.add 2) w1 fun t14 =>
J3 (t14 != (0 : Int)) w1) (
M.ld (Value.int .i64) (b2.add 1) w1 fun t16 =>
M.ite (decide ((3 : Int) ≤ t16)) (
M.ld (Value.int .i64) (b2.add 1) w1 fun t19 =>
M.ite (decide (t19 ≤ (65535 : Int))) (
M.ld (Value.int .u32) (b2.add 2) w1 fun t22 =>
J3 (t22 != (0 : Int)) w1) (
J3 false w1)) (
J3 false w1))) (
J3 false w1)) (
J3 false w1)
theorem F21_ok {w0 : World} {p0_0 : Int} {p0_1 : Int} {p0_2 : Int} {K : Bool → World → Prop} (h : F21 p0_0 p0_1 p0_2 K w0) : Calls Try.prog 21 #[(Value.agg #[(Value.int .i64 p0_0), (Value.int .i64 p0_1), (Value.int .u32 p0_2)])] w0 (R21 K) := by
  refine calls_of_WE (args := [(Value.agg #[(Value.int .i64 p0_0), (Value.int .i64 p0_1), (Value.int .u32 p0_2)])]) (rs := [.tmp 2]) Try.func21 rfl (N := 31) rfl rfl rfl rfl ?_
  refine WE.seq ?_
  refine WE.reg ?_
  obtain ⟨b2, hpb2, w1, hww1, h⟩ := M.new_use h
  refine LE.r (v := (Value.pointer (some b2))) (Wn.no rfl) rfl (R.box (cs := #[(Value.int .i64 p0_0), (Value.int .i64 p0_1), (Value.int .u32 p0_2)]) rfl rfl hpb2 hww1) ?_
  refine LE.p (v := (Value.bool false)) (Wn.no rfl) rfl (R.assign rfl) ?_
  refine LE.nil ?_
  refine WE.seq ?_
  obtain ⟨J3, hJ3, h⟩ := M.join_use h
  refine WE.regJ (fun e w => ∃ (x4 : Bool), J3 x4 w ∧ e 2 = (Value.bool x4)) ?_ ?_
  · clear hJ3
    refine LE.p (v := (Value.pointer (some b2))) (Wn.no rfl) rfl (R.fld (off := 0) fa26_0 rfl) ?_
    obtain ⟨t5, h6, h⟩ := h
    refine LE.r (v := (Value.int .i64 t5)) (Wn.no rfl) rfl (R.ld sc3 rfl h6) ?_
    refine LE.p (v := (Value.bool (decide ((1 : Int) ≤ t5)))) (Wn.no rfl) rfl (R.geq rfl rfl) ?_
    refine LE.p (v := (Value.bool (decide ((1 : Int) ≤ t5)))) (Wn.no rfl) rfl (R.move rfl) ?_
    rcases M.ite_use h with ⟨hb7, h⟩ | ⟨hb7, h⟩
    · refine LE.p (v := (Value.pointer (some b2))) (Wn.yes 3 6 true rfl rfl rfl (congrArg Value.bool hb7)) rfl (R.fld (off := 0) fa26_0 rfl) ?_
      obtain ⟨t8, h9, h⟩ := h
      refine LE.r (v := (Value.int .i64 t8)) (Wn.yes 3 6 true rfl rfl rfl (congrArg Value.bool hb7)) rfl (R.ld sc3 rfl h9) ?_
      refine LE.p (v := (Value.bool (decide (t8 ≤ (65535 : Int))))) (Wn.yes 3 6 true rfl rfl rfl (congrArg Value.bool hb7)) rfl (R.leq rfl rfl) ?_
      refine LE.p (v := (Value.bool (decide (t8 ≤ (65535 : Int))))) (Wn.no rfl) rfl (R.pickT (congrArg Value.bool hb7) rfl) ?_
      refine LE.p (v := (Value.bool (decide (t8 ≤ (65535 : Int))))) (Wn.no rfl) rfl (R.move rfl) ?_
      rcases M.ite_use h with ⟨hb10, h⟩ | ⟨hb10, h⟩
      · refine LE.p (v := (Value.pointer (some (b2.add 1)))) (Wn.yes 8 11 true rfl rfl rfl (congrArg Value.bool hb10)) rfl (R.fld (off := 1) fa26_1 rfl) ?_
        obtain ⟨t11, h12, h⟩ := h
        refine LE.r (v := (Value.int .i64 t11)) (Wn.yes 8 11 true rfl rfl rfl (congrArg Value.bool hb10)) rfl (R.ld sc3 rfl h12) ?_
        refine LE.p (v := (Value.bool (t11 == (0 : Int)))) (Wn.yes 8 11 true rfl rfl rfl (congrArg Value.bool hb10)) rfl (R.eql rfl rfl) ?_
        refine LE.p (v := (Value.bool (t11 == (0 : Int)))) (Wn.yes 8 11 true rfl rfl rfl (congrArg Value.bool hb10)) rfl (R.move rfl) ?_
        rcases M.ite_use h with ⟨hb13, h⟩ | ⟨hb13, h⟩
        · refine LE.u (Un.no 12 15 false rfl rfl rfl (congrArg Value.bool hb13)) ?_
          refine LE.u (Un.no 12 15 false rfl rfl rfl (congrArg Value.bool hb13)) ?_
          refine LE.u (Un.no 12 15 false rfl rfl rfl (congrArg Value.bool hb13)) ?_
          refine LE.u (Un.no 12 15 false rfl rfl rfl (congrArg Value.bool hb13)) ?_
          refine LE.u (Un.un 16 19 true rfl rfl rfl rfl) ?_
          refine LE.u (Un.un 16 19 true rfl rfl rfl rfl) ?_
          refine LE.u (Un.un 16 19 true rfl rfl rfl rfl) ?_
          refine LE.u (Un.no 12 15 false rfl rfl rfl (congrArg Value.bool hb13)) ?_
          refine LE.p (v := (Value.bool true)) (Wn.yes 8 11 true rfl rfl rfl (congrArg Value.bool hb10)) rfl (R.pickT (congrArg Value.bool hb13) rfl) ?_
          refine LE.p (v := (Value.bool true)) (Wn.no rfl) rfl (R.pickT (congrArg Value.bool hb10) rfl) ?_
          refine LE.p (v := (Value.bool true)) (Wn.no rfl) rfl (R.move rfl) ?_
          refine LE.p (v := (Value.pointer (some (b2.add 2)))) (Wn.yes 23 26 true rfl rfl rfl rfl) rfl (R.fld (off := 2) fa26_2 rfl) ?_
          obtain ⟨t14, h15, h⟩ := h
          refine LE.r (v := (Value.int .u32 t14)) (Wn.yes 23 26 true rfl rfl rfl rfl) rfl (R.ld sc22 rfl h15) ?_
          refine LE.p (v := (Value.bool (t14 != (0 : Int)))) (Wn.yes 23 26 true rfl rfl rfl rfl) rfl (R.neq rfl rfl) ?_
          refine LE.p (v := (Value.bool (t14 != (0 : Int)))) (Wn.no rfl) rfl (R.pickT rfl rfl) ?_
          refine LE.p (v := (Value.bool (t14 != (0 : Int)))) (Wn.no rfl) rfl (R.assign rfl) ?_
          refine LE.nil ?_
          exact ⟨_, h, rfl⟩
        · refine LE.p (v := (Value.pointer (some (b2.add 1)))) (Wn.yes 12 15 false rfl rfl rfl (congrArg Value.bool hb13)) rfl (R.fld (off := 1) fa26_1 rfl) ?_
          obtain ⟨t16, h17, h⟩ := h
          refine LE.r (v := (Value.int .i64 t16)) (Wn.yes 12 15 false rfl rfl rfl (congrArg Value.bool hb13)) rfl (R.ld sc3 rfl h17) ?_
          refine LE.p (v := (Value.bool (decide ((3 : Int) ≤ t16)))) (Wn.yes 12 15 false rfl rfl rfl (congrArg Value.bool hb13)) rfl (R.geq rfl rfl) ?_
          refine LE.p (v := (Value.bool (decide ((3 : Int) ≤ t16)))) (Wn.yes 12 15 false rfl rfl rfl (congrArg Value.bool hb13)) rfl (R.move rfl) ?_
          rcases M.ite_use h with ⟨hb18, h⟩ | ⟨hb18, h⟩
          · refine LE.p (v := (Value.pointer (some (b2.add 1)))) (Wn.yes 16 19 true rfl rfl rfl (congrArg Value.bool hb18)) rfl (R.fld (off := 1) fa26_1 rfl) ?_
            obtain ⟨t19, h20, h⟩ := h
            refine LE.r (v := (Value.int .i64 t19)) (Wn.yes 16 19 true rfl rfl rfl (congrArg Value.bool hb18)) rfl (R.ld sc3 rfl h20) ?_
            refine LE.p (v := (Value.bool (decide (t19 ≤ (65535 : Int))))) (Wn.yes 16 19 true rfl rfl rfl (congrArg Value.bool hb18)) rfl (R.leq rfl rfl) ?_
            refine LE.p (v := (Value.bool (decide (t19 ≤ (65535 : Int))))) (Wn.yes 12 15 false rfl rfl rfl (congrArg Value.bool hb13)) rfl (R.pickT (congrArg Value.bool hb18) rfl) ?_
            refine LE.p (v := (Value.bool (decide (t19 ≤ (65535 : Int))))) (Wn.yes 8 11 true rfl rfl rfl (congrArg Value.bool hb10)) rfl (R.pickF (congrArg Value.bool hb13) rfl) ?_
            refine LE.p (v := (Value.bool (decide (t19 ≤ (65535 : Int))))) (Wn.no rfl) rfl (R.pickT (congrArg Value.bool hb10) rfl) ?_
            refine LE.p (v := (Value.bool (decide (t19 ≤ (65535 : Int))))) (Wn.no rfl) rfl (R.move rfl) ?_
            rcases M.ite_use h with ⟨hb21, h⟩ | ⟨hb21, h⟩
            · refine LE.p (v := (Value.pointer (some (b2.add 2)))) (Wn.yes 23 26 true rfl rfl rfl (congrArg Value.bool hb21)) rfl (R.fld (off := 2) fa26_2 rfl) ?_
              obtain ⟨t22, h23, h⟩ := h
              refine LE.r (v := (Value.int .u32 t22)) (Wn.yes 23 26 true rfl rfl rfl (congrArg Value.bool hb21)) rfl (R.ld sc22 rfl h23) ?_
              refine LE.p (v := (Value.bool (t22 != (0 : Int)))) (Wn.yes 23 26 true rfl rfl rfl (congrArg Value.bool hb21)) rfl (R.neq rfl rfl) ?_
              refine LE.p (v := (Value.bool (t22 != (0 : Int)))) (Wn.no rfl) rfl (R.pickT (congrArg Value.bool hb21) rfl) ?_
              refine LE.p (v := (Value.bool (t22 != (0 : Int)))) (Wn.no rfl) rfl (R.assign rfl) ?_
              refine LE.nil ?_
              exact ⟨_, h, rfl⟩
            · refine LE.u (Un.no 23 26 true rfl rfl rfl (congrArg Value.bool hb21)) ?_
              refine LE.u (Un.no 23 26 true rfl rfl rfl (congrArg Value.bool hb21)) ?_
              refine LE.u (Un.no 23 26 true rfl rfl rfl (congrArg Value.bool hb21)) ?_
              refine LE.p (v := (Value.bool false)) (Wn.no rfl) rfl (R.pickF (congrArg Value.bool hb21) rfl) ?_
              refine LE.p (v := (Value.bool false)) (Wn.no rfl) rfl (R.assign rfl) ?_
              refine LE.nil ?_
              exact ⟨_, h, rfl⟩
          · refine LE.u (Un.no 16 19 true rfl rfl rfl (congrArg Value.bool hb18)) ?_
            refine LE.u (Un.no 16 19 true rfl rfl rfl (congrArg Value.bool hb18)) ?_
            refine LE.u (Un.no 16 19 true rfl rfl rfl (congrArg Value.bool hb18)) ?_
            refine LE.p (v := (Value.bool false)) (Wn.yes 12 15 false rfl rfl rfl (congrArg Value.bool hb13)) rfl (R.pickF (congrArg Value.bool hb18) rfl) ?_
            refine LE.p (v := (Value.bool false)) (Wn.yes 8 11 true rfl rfl rfl (congrArg Value.bool hb10)) rfl (R.pickF (congrArg Value.bool hb13) rfl) ?_
            refine LE.p (v := (Value.bool false)) (Wn.no rfl) rfl (R.pickT (congrArg Value.bool hb10) rfl) ?_
            refine LE.p (v := (Value.bool false)) (Wn.no rfl) rfl (R.move rfl) ?_
            refine LE.u (Un.no 23 26 true rfl rfl rfl rfl) ?_
            refine LE.u (Un.no 23 26 true rfl rfl rfl rfl) ?_
            refine LE.u (Un.no 23 26 true rfl rfl rfl rfl) ?_
            refine LE.p (v := (Value.bool false)) (Wn.no rfl) rfl (R.pickF rfl rfl) ?_
            refine LE.p (v := (Value.bool false)) (Wn.no rfl) rfl (R.assign rfl) ?_
            refine LE.nil ?_
            exact ⟨_, h, rfl⟩
      · refine LE.u (Un.no 8 11 true rfl rfl rfl (congrArg Value.bool hb10)) ?_
        refine LE.u (Un.no 8 11 true rfl rfl rfl (congrArg Value.bool hb10)) ?_
        refine LE.u (Un.no 8 11 true rfl rfl rfl (congrArg Value.bool hb10)) ?_
        refine LE.u (Un.no 8 11 true rfl rfl rfl (congrArg Value.bool hb10)) ?_
        refine LE.u (Un.un 12 15 false rfl rfl rfl rfl) ?_
        refine LE.u (Un.un 12 15 false rfl rfl rfl rfl) ?_
        refine LE.u (Un.un 12 15 false rfl rfl rfl rfl) ?_
        refine LE.u (Un.un 12 15 false rfl rfl rfl rfl) ?_
        refine LE.u (Un.un 16 19 true rfl rfl rfl rfl) ?_
        refine LE.u (Un.un 16 19 true rfl rfl rfl rfl) ?_
        refine LE.u (Un.un 16 19 true rfl rfl rfl rfl) ?_
        refine LE.u (Un.un 12 15 false rfl rfl rfl rfl) ?_
        refine LE.u (Un.no 8 11 true rfl rfl rfl (congrArg Value.bool hb10)) ?_
        refine LE.p (v := (Value.bool false)) (Wn.no rfl) rfl (R.pickF (congrArg Value.bool hb10) rfl) ?_
        refine LE.p (v := (Value.bool false)) (Wn.no rfl) rfl (R.move rfl) ?_
        refine LE.u (Un.no 23 26 true rfl rfl rfl rfl) ?_
        refine LE.u (Un.no 23 26 true rfl rfl rfl rfl) ?_
        refine LE.u (Un.no 23 26 true rfl rfl rfl rfl) ?_
        refine LE.p (v := (Value.bool false)) (Wn.no rfl) rfl (R.pickF rfl rfl) ?_
        refine LE.p (v := (Value.bool false)) (Wn.no rfl) rfl (R.assign rfl) ?_
        refine LE.nil ?_
        exact ⟨_, h, rfl⟩
    · refine LE.u (Un.no 3 6 true rfl rfl rfl (congrArg Value.bool hb7)) ?_
      refine LE.u (Un.no 3 6 true rfl rfl rfl (congrArg Value.bool hb7)) ?_
      refine LE.u (Un.no 3 6 true rfl rfl rfl (congrArg Value.bool hb7)) ?_
      refine LE.p (v := (Value.bool false)) (Wn.no rfl) rfl (R.pickF (congrArg Value.bool hb7) rfl) ?_
      refine LE.p (v := (Value.bool false)) (Wn.no rfl) rfl (R.move rfl) ?_
      refine LE.u (Un.no 8 11 true rfl rfl rfl rfl) ?_
      refine LE.u (Un.no 8 11 true rfl rfl rfl rfl) ?_
      refine LE.u (Un.no 8 11 true rfl rfl rfl rfl) ?_
      refine LE.u (Un.no 8 11 true rfl rfl rfl rfl) ?_
      refine LE.u (Un.un 12 15 false rfl rfl rfl rfl) ?_
      refine LE.u (Un.un 12 15 false rfl rfl rfl rfl) ?_
      refine LE.u (Un.un 12 15 false rfl rfl rfl rfl) ?_
      refine LE.u (Un.un 12 15 false rfl rfl rfl rfl) ?_
      refine LE.u (Un.un 16 19 true rfl rfl rfl rfl) ?_
      refine LE.u (Un.un 16 19 true rfl rfl rfl rfl) ?_
      refine LE.u (Un.un 16 19 true rfl rfl rfl rfl) ?_
      refine LE.u (Un.un 12 15 false rfl rfl rfl rfl) ?_
      refine LE.u (Un.no 8 11 true rfl rfl rfl rfl) ?_
      refine LE.p (v := (Value.bool false)) (Wn.no rfl) rfl (R.pickF rfl rfl) ?_
      refine LE.p (v := (Value.bool false)) (Wn.no rfl) rfl (R.move rfl) ?_
      refine LE.u (Un.no 23 26 true rfl rfl rfl rfl) ?_
      refine LE.u (Un.no 23 26 true rfl rfl rfl rfl) ?_
      refine LE.u (Un.no 23 26 true rfl rfl rfl rfl) ?_
      refine LE.p (v := (Value.bool false)) (Wn.no rfl) rfl (R.pickF rfl rfl) ?_
      refine LE.p (v := (Value.bool false)) (Wn.no rfl) rfl (R.assign rfl) ?_
      refine LE.nil ?_
      exact ⟨_, h, rfl⟩
  · rintro e24 w25 ⟨x4, h, f26⟩
    subst hJ3
    refine WE.ret ?_
    exact ⟨_, (Res.tmp f26 Res.nil), _, rfl, h⟩
/-- The formula of signpost.signpostref10.Decode. -/
def F22 (p0 : SV) (K : Int → Int → Int → Int → Int → SV → World → Prop) (w0 : World) : Prop :=
M.new (.cells #[(Value.int .i64 (0 : Int)), (Value.int .i64 (0 : Int)), (Value.int .u32 (0 : Int))] 26) w0 fun b2 w1 =>
M.new (.cells #[(Value.int .i64 (0 : Int)), (Value.int .i64 (0 : Int)), (SV.v SV.nil)] 35) w1 fun b4 w3 =>
M.ite (decide ((p0.len : Int) < (10 : Int))) (
Calls Try.prog 36 #[(Value.int .i64 (0 : Int)), (SV.v SV.nil)] w3 (R36 fun r6 r7 r8 r9 r10 r11 w12 =>
M.stA b2 [(Value.int .i64 r6), (Value.int .i64 r7), (Value.int .u32 r8)] w12 fun w13 =>
M.stA b4 [(Value.int .i64 r9), (Value.int .i64 r10), (SV.v r11)] w13 fun w15 =>
M.ld (Value.int .i64) b2 w15 fun t17 =>
M.ld (Value.int .i64) (b2.add 1) w15 fun t19 =>
M.ld (Value.int .u32) (b2.add 2) w15 fun t21 =>
M.ld (Value.int .i64) b4 w15 fun t23 =>
M.ld (Value.int .i64) (b4.add 1) w15 fun t25 =>
M.ld SV.v (b4.add 2) w15 fun t27 =>
K t17 t19 t21 t23 t25 t27 w15)) (
M.new (.cells #[(SV.v p0), (Value.int .i64 (0 : Int)), (Value.bool false)] 70) w3 fun b30 w29 =>
Calls Try.prog 37 #[(Value.pointer (some b30))] w29 (R37 fun r31 w32 =>
M.ite (r31 != (4 : Int)) (
M.new (.cells #[(Value.int .u8 (0 : Int)), (Value.int .u8 (4 : Int))] 5) w32 fun b36 w34 =>
Calls Try.prog 36 #[(Value.int .i64 (1 : Int)), (SV.v (SV.mk (some b36) 2 2))] w34 (R36 fun r37 r38 r39 r40 r41 r42 w43 =>
M.stA b2 [(Value.int .i64 r37), (Value.int .i64 r38), (Value.int .u32 r39)] w43 fun w44 =>
M.stA b4 [(Value.int .i64 r40), (Value.int .i64 r41), (SV.v r42)] w44 fun w46 =>
M.ld (Value.int .i64) b2 w46 fun t48 =>
M.ld (Value.int .i64) (b2.add 1) w46 fun t50 =>
M.ld (Value.int .u32) (b2.add 2) w46 fun t52 =>
M.ld (Value.int .i64) b4 w46 fun t54 =>
M.ld (Value.int .i64) (b4.add 1) w46 fun t56 =>
M.ld SV.v (b4.add 2) w46 fun t58 =>
K t48 t50 t52 t54 t56 t58 w46)) (
Calls Try.prog 38 #[(Value.pointer (some b30))] w32 (R38 fun r60 w61 =>
Calls Try.prog 38 #[(Value.pointer (some b30))] w61 (R38 fun r62 w63 =>
Calls Try.prog 39 #[(Value.pointer (some b30))] w63 (R39 fun r64 w65 =>
M.new (.cells #[(Value.int .i64 (0 : Int)), (Value.int .i64 (0 : Int)), (Value.int .u32 (0 : Int))] 26) w65 fun b67 w66 =>
M.stA b67 [(Value.int .i64 r60), (Value.int .i64 r62), (Value.int .u32 r64)] w66 fun w68 =>
Calls Try.prog 37 #[(Value.pointer (some b30))] w68 (R37 fun r70 w71 =>
M.ite (r70 != (IntKind.i64.wrap ((p0.len : Int) - (10 : Int)))) (
Calls Try.prog 36 #[(Value.int .i64 (0 : Int)), (SV.v SV.nil)] w71 (R36 fun r73 r74 r75 r76 r77 r78 w79 =>
M.stA b2 [(Value.int .i64 r73), (Value.int .i64 r74), (Value.int .u32 r75)] w79 fun w80 =>
M.stA b4 [(Value.int .i64 r76), (Value.int .i64 r77), (SV.v r78)] w80 fun w82 =>
M.ld (Value.int .i64) b2 w82 fun t84 =>
M.ld (Value.int .i64) (b2.add 1) w82 fun t86 =>
M.ld (Value.int .u32) (b2.add 2) w82 fun t88 =>
M.ld (Value.int .i64) b4 w82 fun t90 =>
M.ld (Value.int .i64) (b4.add 1) w82 fun t92 =>
M.ld SV.v (b4.add 2) w82 fun t94 =>
K t84 t86 t88 t90 t92 t94 w82)) (
M.ite (decide ((0 : Int) < r70)) (
Calls Try.prog 36 #[(Value.int .i64 (4 : Int)), (SV.v SV.nil)] w71 (R36 fun r97 r98 r99 r100 r101 r102 w103 =>
M.stA b2 [(Value.int .i64 r97), (Value.int .i64 r98), (Value.int .u32 r99)] w103 fun w104 =>
M.stA b4 [(Value.int .i64 r100), (Value.int .i64 r101), (SV.v r102)] w104 fun w106 =>
M.ld (Value.int .i64) b2 w106 fun t108 =>
M.ld (Value.int .i64) (b2.add 1) w106 fun t110 =>
M.ld (Value.int .u32) (b2.add 2) w106 fun t112 =>
M.ld (Value.int .i64) b4 w106 fun t114 =>
M.ld (Value.int .i64) (b4.add 1) w106 fun t116 =>
M.ld SV.v (b4.add 2) w106 fun t118 =>
K t108 t110 t112 t114 t116 t118 w106)) (
M.join (fun (x121 : Bool) (w128 : World) => 
M.ite x121 (
Calls Try.prog 36 #[(Value.int .i64 (6 : Int)), (SV.v SV.nil)] w128 (R36 fun r134 r135 r136 r137 r138 r139 w140 =>
M.stA b2 [(Value.int .i64 r134), (Value.int .i64 r135), (Value.int .u32 r136)] w140 fun w141 =>
M.stA b4 [(Value.int .i64 r137), (Value.int .i64 r138), (SV.v r139)] w141 fun w143 =>
M.ld (Value.int .i64) b2 w143 fun t145 =>
M.ld (Value.int .i64) (b2.add 1) w143 fun t147 =>
M.ld (Value.int .u32) (b2.add 2) w143 fun t149 =>
M.ld (Value.int .i64) b4 w143 fun t151 =>
M.ld (Value.int .i64) (b4.add 1) w143 fun t153 =>
M.ld SV.v (b4.add 2) w143 fun t155 =>
K t145 t147 t149 t151 t153 t155 w143)) (
M.ld (Value.int .u32) (b67.add 2) w128 fun t157 =>
M.ite (t157 == (0 : Int)) (
Calls Try.prog 36 #[(Value.int .i64 (3 : Int)), (SV.v SV.nil)] w128 (R36 fun r160 r161 r162 r163 r164 r165 w166 =>
M.stA b2 [(Value.int .i64 r160), (Value.int .i64 r161), (Value.int .u32 r162)] w166 fun w167 =>
M.stA b4 [(Value.int .i64 r163), (Value.int .i64 r164), (SV.v r165)] w167 fun w169 =>
M.ld (Value.int .i64) b2 w169 fun t171 =>
M.ld (Value.int .i64) (b2.add 1) w169 fun t173 =>
M.ld (Value.int .u32) (b2.add 2) w169 fun t175 =>
M.ld (Value.int .i64) b4 w169 fun t177 =>
M.ld (Value.int .i64) (b4.add 1) w169 fun t179 =>
M.ld SV.v (b4.add 2) w169 fun t181 =>
K t171 t173 t175 t177 t179 t181 w169)) (
M.ld (Value.int .i64) b67 w128 fun t183 =>
M.ite (t183 == (0 : Int)) (
Calls Try.prog 36 #[(Value.int .i64 (2 : Int)), (SV.v SV.nil)] w128 (R36 fun r186 r187 r188 r189 r190 r191 w192 =>
M.stA b2 [(Value.int .i64 r186), (Value.int .i64 r187), (Value.int .u32 r188)] w192 fun w193 =>
M.stA b4 [(Value.int .i64 r189), (Value.int .i64 r190), (SV.v r191)] w193 fun w195 =>
M.ld (Value.int .i64) b2 w195 fun t197 =>
M.ld (Value.int .i64) (b2.add 1) w195 fun t199 =>
M.ld (Value.int .u32) (b2.add 2) w195 fun t201 =>
M.ld (Value.int .i64) b4 w195 fun t203 =>
M.ld (Value.int .i64) (b4.add 1) w195 fun t205 =>
M.ld SV.v (b4.add 2) w195 fun t207 =>
K t197 t199 t201 t203 t205 t207 w195)) (
M.ld (Value.int .i64) b67 w128 fun t209 =>
M.ld (Value.int .i64) (b67.add 1) w128 fun t211 =>
M.ld (Value.int .u32) (b67.add 2) w128 fun t213 =>
M.stA b2 [(Value.int .i64 t209), (Value.int .i64 t211), (Value.int .u32 t213)] w128 fun w215 =>
M.stA b4 [(Value.int .i64 (0 : Int)), (Value.int .i64 (0 : Int)), (SV.v SV.nil)] w215 fun w217 =>
M.ld (Value.int .i64) b2 w217 fun t219 =>
M.ld (Value.int .i64) (b2.add 1) w217 fun t221 =>
M.ld (Value.int .u32) (b2.add 2) w217 fun t223 =>
M.ld (Value.int .i64) b4 w217 fun t225 =>
M.ld (Value.int .i64) (b4.add 1) w217 fun t227 =>
M.ld SV.v (b4.add 2) w217 fun t229 =>
K t219 t221 t223 t225 t227 t229 w217)))) fun J120 => 
M.ld (Value.int .i64) (b67.add 1) w71 fun t122 =>
M.ite (t122 == (1 : Int)) (
J120 true w71) (
M.ld (Value.int .i64) (b67.add 1) w71 fun t125 =>
J120 (t125 == (2 : Int)) w71))))))))))
theorem F22_ok {w0 : World} {p0 : SV} {K : Int → Int → Int → Int → Int → SV → World → Prop} (h : F22 p0 K w0) : Calls Try.prog 22 #[(SV.v p0)] w0 (R22 K) := by
  refine calls_of_WE (args := [(SV.v p0)]) (rs := [.cell 2 26, .cell 3 35]) Try.func22 rfl (N := 75) rfl rfl rfl rfl ?_
  refine WE.seq ?_
  refine WE.reg ?_
  obtain ⟨b2, hpb2, w1, hww1, h⟩ := M.new_use h
  refine LE.r (v := (Value.pointer (some b2))) (Wn.no rfl) rfl (R.alloc (cs := #[(Value.int .i64 (0 : Int)), (Value.int .i64 (0 : Int)), (Value.int .u32 (0 : Int))]) ze26 rfl hpb2 hww1) ?_
  obtain ⟨b4, hpb4, w3, hww3, h⟩ := M.new_use h
  refine LE.r (v := (Value.pointer (some b4))) (Wn.no rfl) rfl (R.alloc (cs := #[(Value.int .i64 (0 : Int)), (Value.int .i64 (0 : Int)), (SV.v SV.nil)]) ze35 rfl hpb4 hww3) ?_
  refine LE.nil ?_
  refine WE.seq ?_
  refine WE.seq ?_
  refine WE.reg ?_
  refine LE.p (v := (SV.v p0)) (Wn.no rfl) rfl (R.move rfl) ?_
  refine LE.p (v := (Value.int .i64 (p0.len : Int))) (Wn.no rfl) rfl (R.len sl23 rfl) ?_
  refine LE.p (v := (Value.bool (decide ((p0.len : Int) < (10 : Int))))) (Wn.no rfl) rfl (R.lss rfl rfl) ?_
  refine LE.nil ?_
  refine WE.condT rfl (b := (decide ((p0.len : Int) < (10 : Int)))) rfl ?_ ?_
  · intro hb5
    replace h := M.ite_t h hb5
    refine WE.seq ?_
    refine WE.reg ?_
    refine LE.c (Wn.no rfl) rfl (R.call bd36 (Ls.cons rfl (Ls.cons rfl Ls.nil)) rfl) (Calls.mono h ?_)
    rintro _ w12 ⟨r6, r7, r8, r9, r10, r11, rfl, h⟩
    refine ⟨_, rfl, ?_⟩
    refine LE.p (v := (Value.agg #[(Value.int .i64 r6), (Value.int .i64 r7), (Value.int .u32 r8)])) (Wn.no rfl) rfl (R.ext rfl rfl) ?_
    refine LE.p (v := (Value.agg #[(Value.int .i64 r9), (Value.int .i64 r10), (SV.v r11)])) (Wn.no rfl) rfl (R.ext rfl rfl) ?_
    obtain ⟨w13, hww13, h14, h⟩ := M.stA_use h
    refine LE.s (Wn.no rfl) rfl (R.stA (a := b2) [(Value.int .i64 r6), (Value.int .i64 r7), (Value.int .u32 r8)] sz26 rfl rfl rfl (by simp [Value.oneCell']) h14 hww13) ?_
    obtain ⟨w15, hww15, h16, h⟩ := M.stA_use h
    refine LE.s (Wn.no rfl) rfl (R.stA (a := b4) [(Value.int .i64 r9), (Value.int .i64 r10), (SV.v r11)] sz35 rfl rfl rfl (by simp [Value.oneCell']) h16 hww15) ?_
    refine LE.nil ?_
    refine WE.ret ?_
    obtain ⟨t17, h18, h⟩ := h
    obtain ⟨t19, h20, h⟩ := h
    obtain ⟨t21, h22, h⟩ := h
    obtain ⟨t23, h24, h⟩ := h
    obtain ⟨t25, h26, h⟩ := h
    obtain ⟨t27, h28, h⟩ := h
    exact ⟨_, (Res.cell rfl (R.ldCellA ag26 sz26 rfl (Cs.cons h18 (Cs.cons h20 (Cs.cons h22 Cs.nil)))) (Res.cell rfl (R.ldCellA ag35 sz35 rfl (Cs.cons h24 (Cs.cons h26 (Cs.cons h28 Cs.nil)))) Res.nil)), _, _, _, _, _, _, rfl, h⟩
  · intro hb5
    replace h := M.ite_f h hb5
    refine WE.skip ?_
    refine WE.seq ?_
    refine WE.reg ?_
    refine LE.p (v := (SV.v p0)) (Wn.no rfl) rfl (R.move rfl) ?_
    refine LE.p (v := (Value.agg #[(SV.v p0), (Value.int .i64 (0 : Int)), (Value.bool false)])) (Wn.no rfl) rfl (R.bld (by exact (Ls.cons (R.Pr rfl) Ls.nil)) (fun w => bu70_0 p0 w)) ?_
    obtain ⟨b30, hpb30, w29, hww29, h⟩ := M.new_use h
    refine LE.r (v := (Value.pointer (some b30))) (Wn.no rfl) rfl (R.box (cs := #[(SV.v p0), (Value.int .i64 (0 : Int)), (Value.bool false)]) rfl rfl hpb30 hww29) ?_
    refine LE.p (v := (Value.pointer (some b30))) (Wn.no rfl) rfl (R.assign rfl) ?_
    refine LE.nil ?_
    refine WE.seq ?_
    refine WE.seq ?_
    refine WE.reg ?_
    refine LE.p (v := (Value.pointer (some b30))) (Wn.no rfl) rfl (R.move rfl) ?_
    refine LE.c (Wn.no rfl) rfl (R.call bd37 (Ls.cons rfl Ls.nil) rfl) (Calls.mono h ?_)
    rintro _ w32 ⟨r31, rfl, h⟩
    refine ⟨_, rfl, ?_⟩
    refine LE.p (v := (Value.bool (r31 != (4 : Int)))) (Wn.no rfl) rfl (R.neq rfl rfl) ?_
    refine LE.nil ?_
    refine WE.condT rfl (b := (r31 != (4 : Int))) rfl ?_ ?_
    · intro hb33
      replace h := M.ite_t h hb33
      refine WE.seq ?_
      refine WE.reg ?_
      obtain ⟨b36, hpb36, w34, hww34, h⟩ := M.new_use h
      refine LE.r (v := (SV.v (SV.mk (some b36) 2 2))) (Wn.no rfl) rfl (R.bsl (by exact (Ls.cons (R.Pr rfl) (Ls.cons (R.Pr rfl) Ls.nil))) (fun w => bs23_2 (0 : Int) (4 : Int) w) hpb36 hww34) ?_
      refine LE.c (Wn.no rfl) rfl (R.call bd36 (Ls.cons rfl (Ls.cons rfl Ls.nil)) rfl) (Calls.mono h ?_)
      rintro _ w43 ⟨r37, r38, r39, r40, r41, r42, rfl, h⟩
      refine ⟨_, rfl, ?_⟩
      refine LE.p (v := (Value.agg #[(Value.int .i64 r37), (Value.int .i64 r38), (Value.int .u32 r39)])) (Wn.no rfl) rfl (R.ext rfl rfl) ?_
      refine LE.p (v := (Value.agg #[(Value.int .i64 r40), (Value.int .i64 r41), (SV.v r42)])) (Wn.no rfl) rfl (R.ext rfl rfl) ?_
      obtain ⟨w44, hww44, h45, h⟩ := M.stA_use h
      refine LE.s (Wn.no rfl) rfl (R.stA (a := b2) [(Value.int .i64 r37), (Value.int .i64 r38), (Value.int .u32 r39)] sz26 rfl rfl rfl (by simp [Value.oneCell']) h45 hww44) ?_
      obtain ⟨w46, hww46, h47, h⟩ := M.stA_use h
      refine LE.s (Wn.no rfl) rfl (R.stA (a := b4) [(Value.int .i64 r40), (Value.int .i64 r41), (SV.v r42)] sz35 rfl rfl rfl (by simp [Value.oneCell']) h47 hww46) ?_
      refine LE.nil ?_
      refine WE.ret ?_
      obtain ⟨t48, h49, h⟩ := h
      obtain ⟨t50, h51, h⟩ := h
      obtain ⟨t52, h53, h⟩ := h
      obtain ⟨t54, h55, h⟩ := h
      obtain ⟨t56, h57, h⟩ := h
      obtain ⟨t58, h59, h⟩ := h
      exact ⟨_, (Res.cell rfl (R.ldCellA ag26 sz26 rfl (Cs.cons h49 (Cs.cons h51 (Cs.cons h53 Cs.nil)))) (Res.cell rfl (R.ldCellA ag35 sz35 rfl (Cs.cons h55 (Cs.cons h57 (Cs.cons h59 Cs.nil)))) Res.nil)), _, _, _, _, _, _, rfl, h⟩
    · intro hb33
      replace h := M.ite_f h hb33
      refine WE.skip ?_
      refine WE.seq ?_
      refine WE.reg ?_
      refine LE.p (v := (Value.pointer (some b30))) (Wn.no rfl) rfl (R.move rfl) ?_
      refine LE.c (Wn.no rfl) rfl (R.call bd38 (Ls.cons rfl Ls.nil) rfl) (Calls.mono h ?_)
      rintro _ w61 ⟨r60, rfl, h⟩
      refine ⟨_, rfl, ?_⟩
      refine LE.p (v := (Value.pointer (some b30))) (Wn.no rfl) rfl (R.move rfl) ?_
      refine LE.c (Wn.no rfl) rfl (R.call bd38 (Ls.cons rfl Ls.nil) rfl) (Calls.mono h ?_)
      rintro _ w63 ⟨r62, rfl, h⟩
      refine ⟨_, rfl, ?_⟩
      refine LE.p (v := (Value.pointer (some b30))) (Wn.no rfl) rfl (R.move rfl) ?_
      refine LE.c (Wn.no rfl) rfl (R.call bd39 (Ls.cons rfl Ls.nil) rfl) (Calls.mono h ?_)
      rintro _ w65 ⟨r64, rfl, h⟩
      refine ⟨_, rfl, ?_⟩
      refine LE.p (v := (Value.agg #[(Value.int .i64 r60), (Value.int .i64 r62), (Value.int .u32 r64)])) (Wn.no rfl) rfl (R.bld (by exact (Ls.cons (R.Pr rfl) (Ls.cons (R.Pr rfl) (Ls.cons (R.Pr rfl) Ls.nil)))) (fun w => bu26_0_1_2 r60 r62 r64 w)) ?_
      obtain ⟨b67, hpb67, w66, hww66, h⟩ := M.new_use h
      refine LE.r (v := (Value.pointer (some b67))) (Wn.no rfl) rfl (R.alloc (cs := #[(Value.int .i64 (0 : Int)), (Value.int .i64 (0 : Int)), (Value.int .u32 (0 : Int))]) ze26 rfl hpb67 hww66) ?_
      obtain ⟨w68, hww68, h69, h⟩ := M.stA_use h
      refine LE.s (Wn.no rfl) rfl (R.stA (a := b67) [(Value.int .i64 r60), (Value.int .i64 r62), (Value.int .u32 r64)] sz26 rfl rfl rfl (by simp [Value.oneCell']) h69 hww68) ?_
      refine LE.nil ?_
      refine WE.seq ?_
      refine WE.reg ?_
      refine LE.p (v := (Value.pointer (some b30))) (Wn.no rfl) rfl (R.move rfl) ?_
      refine LE.c (Wn.no rfl) rfl (R.call bd37 (Ls.cons rfl Ls.nil) rfl) (Calls.mono h ?_)
      rintro _ w71 ⟨r70, rfl, h⟩
      refine ⟨_, rfl, ?_⟩
      refine LE.p (v := (Value.int .i64 r70)) (Wn.no rfl) rfl (R.assign rfl) ?_
      refine LE.nil ?_
      refine WE.seq ?_
      refine WE.block ?_
      refine WE.seq ?_
      refine WE.reg ?_
      refine LE.p (v := (Value.int .i64 r70)) (Wn.no rfl) rfl (R.move rfl) ?_
      refine LE.p (v := (SV.v p0)) (Wn.no rfl) rfl (R.move rfl) ?_
      refine LE.p (v := (Value.int .i64 (p0.len : Int))) (Wn.no rfl) rfl (R.len sl23 rfl) ?_
      refine LE.p (v := (Value.int .i64 (IntKind.i64.wrap ((p0.len : Int) - (10 : Int))))) (Wn.no rfl) rfl (R.sub rfl rfl) ?_
      refine LE.p (v := (Value.bool (r70 != (IntKind.i64.wrap ((p0.len : Int) - (10 : Int)))))) (Wn.no rfl) rfl (R.neq rfl rfl) ?_
      refine LE.p (v := (Value.bool (r70 != (IntKind.i64.wrap ((p0.len : Int) - (10 : Int)))))) (Wn.no rfl) rfl (R.assign rfl) ?_
      refine LE.nil ?_
      refine WE.condT rfl (b := (r70 != (IntKind.i64.wrap ((p0.len : Int) - (10 : Int))))) rfl ?_ ?_
      · intro hb72
        replace h := M.ite_t h hb72
        refine WE.seq ?_
        refine WE.reg ?_
        refine LE.c (Wn.no rfl) rfl (R.call bd36 (Ls.cons rfl (Ls.cons rfl Ls.nil)) rfl) (Calls.mono h ?_)
        rintro _ w79 ⟨r73, r74, r75, r76, r77, r78, rfl, h⟩
        refine ⟨_, rfl, ?_⟩
        refine LE.p (v := (Value.agg #[(Value.int .i64 r73), (Value.int .i64 r74), (Value.int .u32 r75)])) (Wn.no rfl) rfl (R.ext rfl rfl) ?_
        refine LE.p (v := (Value.agg #[(Value.int .i64 r76), (Value.int .i64 r77), (SV.v r78)])) (Wn.no rfl) rfl (R.ext rfl rfl) ?_
        obtain ⟨w80, hww80, h81, h⟩ := M.stA_use h
        refine LE.s (Wn.no rfl) rfl (R.stA (a := b2) [(Value.int .i64 r73), (Value.int .i64 r74), (Value.int .u32 r75)] sz26 rfl rfl rfl (by simp [Value.oneCell']) h81 hww80) ?_
        obtain ⟨w82, hww82, h83, h⟩ := M.stA_use h
        refine LE.s (Wn.no rfl) rfl (R.stA (a := b4) [(Value.int .i64 r76), (Value.int .i64 r77), (SV.v r78)] sz35 rfl rfl rfl (by simp [Value.oneCell']) h83 hww82) ?_
        refine LE.nil ?_
        refine WE.ret ?_
        obtain ⟨t84, h85, h⟩ := h
        obtain ⟨t86, h87, h⟩ := h
        obtain ⟨t88, h89, h⟩ := h
        obtain ⟨t90, h91, h⟩ := h
        obtain ⟨t92, h93, h⟩ := h
        obtain ⟨t94, h95, h⟩ := h
        exact ⟨_, (Res.cell rfl (R.ldCellA ag26 sz26 rfl (Cs.cons h85 (Cs.cons h87 (Cs.cons h89 Cs.nil)))) (Res.cell rfl (R.ldCellA ag35 sz35 rfl (Cs.cons h91 (Cs.cons h93 (Cs.cons h95 Cs.nil)))) Res.nil)), _, _, _, _, _, _, rfl, h⟩
      · intro hb72
        replace h := M.ite_f h hb72
        refine WE.seq ?_
        refine WE.reg ?_
        refine LE.p (v := (Value.int .i64 r70)) (Wn.no rfl) rfl (R.move rfl) ?_
        refine LE.p (v := (Value.bool (decide ((0 : Int) < r70)))) (Wn.no rfl) rfl (R.gtr rfl rfl) ?_
        refine LE.p (v := (Value.bool (decide ((0 : Int) < r70)))) (Wn.no rfl) rfl (R.assign rfl) ?_
        refine LE.nil ?_
        refine WE.condT rfl (b := (decide ((0 : Int) < r70))) rfl ?_ ?_
        · intro hb96
          replace h := M.ite_t h hb96
          refine WE.seq ?_
          refine WE.reg ?_
          refine LE.c (Wn.no rfl) rfl (R.call bd36 (Ls.cons rfl (Ls.cons rfl Ls.nil)) rfl) (Calls.mono h ?_)
          rintro _ w103 ⟨r97, r98, r99, r100, r101, r102, rfl, h⟩
          refine ⟨_, rfl, ?_⟩
          refine LE.p (v := (Value.agg #[(Value.int .i64 r97), (Value.int .i64 r98), (Value.int .u32 r99)])) (Wn.no rfl) rfl (R.ext rfl rfl) ?_
          refine LE.p (v := (Value.agg #[(Value.int .i64 r100), (Value.int .i64 r101), (SV.v r102)])) (Wn.no rfl) rfl (R.ext rfl rfl) ?_
          obtain ⟨w104, hww104, h105, h⟩ := M.stA_use h
          refine LE.s (Wn.no rfl) rfl (R.stA (a := b2) [(Value.int .i64 r97), (Value.int .i64 r98), (Value.int .u32 r99)] sz26 rfl rfl rfl (by simp [Value.oneCell']) h105 hww104) ?_
          obtain ⟨w106, hww106, h107, h⟩ := M.stA_use h
          refine LE.s (Wn.no rfl) rfl (R.stA (a := b4) [(Value.int .i64 r100), (Value.int .i64 r101), (SV.v r102)] sz35 rfl rfl rfl (by simp [Value.oneCell']) h107 hww106) ?_
          refine LE.nil ?_
          refine WE.ret ?_
          obtain ⟨t108, h109, h⟩ := h
          obtain ⟨t110, h111, h⟩ := h
          obtain ⟨t112, h113, h⟩ := h
          obtain ⟨t114, h115, h⟩ := h
          obtain ⟨t116, h117, h⟩ := h
          obtain ⟨t118, h119, h⟩ := h
          exact ⟨_, (Res.cell rfl (R.ldCellA ag26 sz26 rfl (Cs.cons h109 (Cs.cons h111 (Cs.cons h113 Cs.nil)))) (Res.cell rfl (R.ldCellA ag35 sz35 rfl (Cs.cons h115 (Cs.cons h117 (Cs.cons h119 Cs.nil)))) Res.nil)), _, _, _, _, _, _, rfl, h⟩
        · intro hb96
          replace h := M.ite_f h hb96
          refine WE.seq ?_
          obtain ⟨J120, hJ120, h⟩ := M.join_use h
          refine WE.regJ (fun e w => ∃ (x121 : Bool), J120 x121 w ∧ e 2 = (Value.pointer (some b2)) ∧ e 3 = (Value.pointer (some b4)) ∧ e 5 = (Value.pointer (some b67)) ∧ e 47 = (Value.bool x121)) ?_ ?_
          · clear hJ120
            refine LE.p (v := (Value.pointer (some (b67.add 1)))) (Wn.no rfl) rfl (R.fld (off := 1) fa26_1 rfl) ?_
            obtain ⟨t122, h123, h⟩ := h
            refine LE.r (v := (Value.int .i64 t122)) (Wn.no rfl) rfl (R.ld sc3 rfl h123) ?_
            refine LE.p (v := (Value.bool (t122 == (1 : Int)))) (Wn.no rfl) rfl (R.eql rfl rfl) ?_
            refine LE.p (v := (Value.bool (t122 == (1 : Int)))) (Wn.no rfl) rfl (R.move rfl) ?_
            rcases M.ite_use h with ⟨hb124, h⟩ | ⟨hb124, h⟩
            · refine LE.u (Un.no 3 51 false rfl rfl rfl (congrArg Value.bool hb124)) ?_
              refine LE.u (Un.no 3 51 false rfl rfl rfl (congrArg Value.bool hb124)) ?_
              refine LE.u (Un.no 3 51 false rfl rfl rfl (congrArg Value.bool hb124)) ?_
              refine LE.p (v := (Value.bool true)) (Wn.no rfl) rfl (R.pickT (congrArg Value.bool hb124) rfl) ?_
              refine LE.p (v := (Value.bool true)) (Wn.no rfl) rfl (R.assign rfl) ?_
              refine LE.nil ?_
              exact ⟨_, h, rfl, rfl, rfl, rfl⟩
            · refine LE.p (v := (Value.pointer (some (b67.add 1)))) (Wn.yes 3 51 false rfl rfl rfl (congrArg Value.bool hb124)) rfl (R.fld (off := 1) fa26_1 rfl) ?_
              obtain ⟨t125, h126, h⟩ := h
              refine LE.r (v := (Value.int .i64 t125)) (Wn.yes 3 51 false rfl rfl rfl (congrArg Value.bool hb124)) rfl (R.ld sc3 rfl h126) ?_
              refine LE.p (v := (Value.bool (t125 == (2 : Int)))) (Wn.yes 3 51 false rfl rfl rfl (congrArg Value.bool hb124)) rfl (R.eql rfl rfl) ?_
              refine LE.p (v := (Value.bool (t125 == (2 : Int)))) (Wn.no rfl) rfl (R.pickF (congrArg Value.bool hb124) rfl) ?_
              refine LE.p (v := (Value.bool (t125 == (2 : Int)))) (Wn.no rfl) rfl (R.assign rfl) ?_
              refine LE.nil ?_
              exact ⟨_, h, rfl, rfl, rfl, rfl⟩
          · rintro e127 w128 ⟨x121, h, f129, f130, f131, f132⟩
            subst hJ120
            refine WE.condT rfl (b := x121) f132 ?_ ?_
            · intro hb133
              replace h := M.ite_t h hb133
              refine WE.seq ?_
              refine WE.reg ?_
              refine LE.c (Wn.no rfl) rfl (R.call bd36 (Ls.cons rfl (Ls.cons rfl Ls.nil)) rfl) (Calls.mono h ?_)
              rintro _ w140 ⟨r134, r135, r136, r137, r138, r139, rfl, h⟩
              refine ⟨_, rfl, ?_⟩
              refine LE.p (v := (Value.agg #[(Value.int .i64 r134), (Value.int .i64 r135), (Value.int .u32 r136)])) (Wn.no rfl) rfl (R.ext rfl rfl) ?_
              refine LE.p (v := (Value.agg #[(Value.int .i64 r137), (Value.int .i64 r138), (SV.v r139)])) (Wn.no rfl) rfl (R.ext rfl rfl) ?_
              obtain ⟨w141, hww141, h142, h⟩ := M.stA_use h
              refine LE.s (Wn.no rfl) rfl (R.stA (a := b2) [(Value.int .i64 r134), (Value.int .i64 r135), (Value.int .u32 r136)] sz26 f129 rfl rfl (by simp [Value.oneCell']) h142 hww141) ?_
              obtain ⟨w143, hww143, h144, h⟩ := M.stA_use h
              refine LE.s (Wn.no rfl) rfl (R.stA (a := b4) [(Value.int .i64 r137), (Value.int .i64 r138), (SV.v r139)] sz35 f130 rfl rfl (by simp [Value.oneCell']) h144 hww143) ?_
              refine LE.nil ?_
              refine WE.ret ?_
              obtain ⟨t145, h146, h⟩ := h
              obtain ⟨t147, h148, h⟩ := h
              obtain ⟨t149, h150, h⟩ := h
              obtain ⟨t151, h152, h⟩ := h
              obtain ⟨t153, h154, h⟩ := h
              obtain ⟨t155, h156, h⟩ := h
              exact ⟨_, (Res.cell f129 (R.ldCellA ag26 sz26 rfl (Cs.cons h146 (Cs.cons h148 (Cs.cons h150 Cs.nil)))) (Res.cell f130 (R.ldCellA ag35 sz35 rfl (Cs.cons h152 (Cs.cons h154 (Cs.cons h156 Cs.nil)))) Res.nil)), _, _, _, _, _, _, rfl, h⟩
            · intro hb133
              replace h := M.ite_f h hb133
              refine WE.seq ?_
              refine WE.reg ?_
              refine LE.p (v := (Value.pointer (some (b67.add 2)))) (Wn.no rfl) rfl (R.fld (off := 2) fa26_2 f131) ?_
              obtain ⟨t157, h158, h⟩ := h
              refine LE.r (v := (Value.int .u32 t157)) (Wn.no rfl) rfl (R.ld sc22 rfl h158) ?_
              refine LE.p (v := (Value.bool (t157 == (0 : Int)))) (Wn.no rfl) rfl (R.eql rfl rfl) ?_
              refine LE.p (v := (Value.bool (t157 == (0 : Int)))) (Wn.no rfl) rfl (R.assign rfl) ?_
              refine LE.nil ?_
              refine WE.condT rfl (b := (t157 == (0 : Int))) rfl ?_ ?_
              · intro hb159
                replace h := M.ite_t h hb159
                refine WE.seq ?_
                refine WE.reg ?_
                refine LE.c (Wn.no rfl) rfl (R.call bd36 (Ls.cons rfl (Ls.cons rfl Ls.nil)) rfl) (Calls.mono h ?_)
                rintro _ w166 ⟨r160, r161, r162, r163, r164, r165, rfl, h⟩
                refine ⟨_, rfl, ?_⟩
                refine LE.p (v := (Value.agg #[(Value.int .i64 r160), (Value.int .i64 r161), (Value.int .u32 r162)])) (Wn.no rfl) rfl (R.ext rfl rfl) ?_
                refine LE.p (v := (Value.agg #[(Value.int .i64 r163), (Value.int .i64 r164), (SV.v r165)])) (Wn.no rfl) rfl (R.ext rfl rfl) ?_
                obtain ⟨w167, hww167, h168, h⟩ := M.stA_use h
                refine LE.s (Wn.no rfl) rfl (R.stA (a := b2) [(Value.int .i64 r160), (Value.int .i64 r161), (Value.int .u32 r162)] sz26 f129 rfl rfl (by simp [Value.oneCell']) h168 hww167) ?_
                obtain ⟨w169, hww169, h170, h⟩ := M.stA_use h
                refine LE.s (Wn.no rfl) rfl (R.stA (a := b4) [(Value.int .i64 r163), (Value.int .i64 r164), (SV.v r165)] sz35 f130 rfl rfl (by simp [Value.oneCell']) h170 hww169) ?_
                refine LE.nil ?_
                refine WE.ret ?_
                obtain ⟨t171, h172, h⟩ := h
                obtain ⟨t173, h174, h⟩ := h
                obtain ⟨t175, h176, h⟩ := h
                obtain ⟨t177, h178, h⟩ := h
                obtain ⟨t179, h180, h⟩ := h
                obtain ⟨t181, h182, h⟩ := h
                exact ⟨_, (Res.cell f129 (R.ldCellA ag26 sz26 rfl (Cs.cons h172 (Cs.cons h174 (Cs.cons h176 Cs.nil)))) (Res.cell f130 (R.ldCellA ag35 sz35 rfl (Cs.cons h178 (Cs.cons h180 (Cs.cons h182 Cs.nil)))) Res.nil)), _, _, _, _, _, _, rfl, h⟩
              · intro hb159
                replace h := M.ite_f h hb159
                refine WE.seq ?_
                refine WE.reg ?_
                refine LE.p (v := (Value.pointer (some b67))) (Wn.no rfl) rfl (R.fld (off := 0) fa26_0 f131) ?_
                obtain ⟨t183, h184, h⟩ := h
                refine LE.r (v := (Value.int .i64 t183)) (Wn.no rfl) rfl (R.ld sc3 rfl h184) ?_
                refine LE.p (v := (Value.bool (t183 == (0 : Int)))) (Wn.no rfl) rfl (R.eql rfl rfl) ?_
                refine LE.p (v := (Value.bool (t183 == (0 : Int)))) (Wn.no rfl) rfl (R.assign rfl) ?_
                refine LE.nil ?_
                refine WE.condT rfl (b := (t183 == (0 : Int))) rfl ?_ ?_
                · intro hb185
                  replace h := M.ite_t h hb185
                  refine WE.seq ?_
                  refine WE.reg ?_
                  refine LE.c (Wn.no rfl) rfl (R.call bd36 (Ls.cons rfl (Ls.cons rfl Ls.nil)) rfl) (Calls.mono h ?_)
                  rintro _ w192 ⟨r186, r187, r188, r189, r190, r191, rfl, h⟩
                  refine ⟨_, rfl, ?_⟩
                  refine LE.p (v := (Value.agg #[(Value.int .i64 r186), (Value.int .i64 r187), (Value.int .u32 r188)])) (Wn.no rfl) rfl (R.ext rfl rfl) ?_
                  refine LE.p (v := (Value.agg #[(Value.int .i64 r189), (Value.int .i64 r190), (SV.v r191)])) (Wn.no rfl) rfl (R.ext rfl rfl) ?_
                  obtain ⟨w193, hww193, h194, h⟩ := M.stA_use h
                  refine LE.s (Wn.no rfl) rfl (R.stA (a := b2) [(Value.int .i64 r186), (Value.int .i64 r187), (Value.int .u32 r188)] sz26 f129 rfl rfl (by simp [Value.oneCell']) h194 hww193) ?_
                  obtain ⟨w195, hww195, h196, h⟩ := M.stA_use h
                  refine LE.s (Wn.no rfl) rfl (R.stA (a := b4) [(Value.int .i64 r189), (Value.int .i64 r190), (SV.v r191)] sz35 f130 rfl rfl (by simp [Value.oneCell']) h196 hww195) ?_
                  refine LE.nil ?_
                  refine WE.ret ?_
                  obtain ⟨t197, h198, h⟩ := h
                  obtain ⟨t199, h200, h⟩ := h
                  obtain ⟨t201, h202, h⟩ := h
                  obtain ⟨t203, h204, h⟩ := h
                  obtain ⟨t205, h206, h⟩ := h
                  obtain ⟨t207, h208, h⟩ := h
                  exact ⟨_, (Res.cell f129 (R.ldCellA ag26 sz26 rfl (Cs.cons h198 (Cs.cons h200 (Cs.cons h202 Cs.nil)))) (Res.cell f130 (R.ldCellA ag35 sz35 rfl (Cs.cons h204 (Cs.cons h206 (Cs.cons h208 Cs.nil)))) Res.nil)), _, _, _, _, _, _, rfl, h⟩
                · intro hb185
                  replace h := M.ite_f h hb185
                  refine WE.skip ?_
                  refine WE.seq ?_
                  refine WE.reg ?_
                  obtain ⟨t209, h210, h⟩ := h
                  obtain ⟨t211, h212, h⟩ := h
                  obtain ⟨t213, h214, h⟩ := h
                  refine LE.r (v := (Value.agg #[(Value.int .i64 t209), (Value.int .i64 t211), (Value.int .u32 t213)])) (Wn.no rfl) rfl (R.ldA ag26 sz26 f131 rfl (Cs.cons h210 (Cs.cons h212 (Cs.cons h214 Cs.nil)))) ?_
                  refine LE.p (v := (Value.agg #[(Value.int .i64 (0 : Int)), (Value.int .i64 (0 : Int)), (SV.v SV.nil)])) (Wn.no rfl) rfl (R.bld (by exact Ls.nil) (fun w => bu35_  w)) ?_
                  obtain ⟨w215, hww215, h216, h⟩ := M.stA_use h
                  refine LE.s (Wn.no rfl) rfl (R.stA (a := b2) [(Value.int .i64 t209), (Value.int .i64 t211), (Value.int .u32 t213)] sz26 f129 rfl rfl (by simp [Value.oneCell']) h216 hww215) ?_
                  obtain ⟨w217, hww217, h218, h⟩ := M.stA_use h
                  refine LE.s (Wn.no rfl) rfl (R.stA (a := b4) [(Value.int .i64 (0 : Int)), (Value.int .i64 (0 : Int)), (SV.v SV.nil)] sz35 f130 rfl rfl (by simp [Value.oneCell']) h218 hww217) ?_
                  refine LE.nil ?_
                  refine WE.ret ?_
                  obtain ⟨t219, h220, h⟩ := h
                  obtain ⟨t221, h222, h⟩ := h
                  obtain ⟨t223, h224, h⟩ := h
                  obtain ⟨t225, h226, h⟩ := h
                  obtain ⟨t227, h228, h⟩ := h
                  obtain ⟨t229, h230, h⟩ := h
                  exact ⟨_, (Res.cell f129 (R.ldCellA ag26 sz26 rfl (Cs.cons h220 (Cs.cons h222 (Cs.cons h224 Cs.nil)))) (Res.cell f130 (R.ldCellA ag35 sz35 rfl (Cs.cons h226 (Cs.cons h228 (Cs.cons h230 Cs.nil)))) Res.nil)), _, _, _, _, _, _, rfl, h⟩
/-- The formula of signpost.wire.NewReader. -/
def F23 (p0 : SV) (K : Option Addr → World → Prop) (w0 : World) : Prop :=
Calls Try.prog 34 #[(SV.v p0)] w0 (R34 fun r1 w2 =>
M.new (.cells #[(SV.v r1), (Value.bool false)] 72) w2 fun b4 w3 =>
K (some b4) w3)
theorem F23_ok {w0 : World} {p0 : SV} {K : Option Addr → World → Prop} (h : F23 p0 K w0) : Calls Try.prog 23 #[(SV.v p0)] w0 (R23 K) := by
  refine calls_of_WE (args := [(SV.v p0)]) (rs := [.tmp 2]) Try.func23 rfl (N := 7) rfl rfl rfl rfl ?_
  refine WE.seq ?_
  refine WE.reg ?_
  refine LE.p (v := (Value.pointer (none : Option Addr))) (Wn.no rfl) rfl (R.assign rfl) ?_
  refine LE.nil ?_
  refine WE.seq ?_
  refine WE.reg ?_
  refine LE.p (v := (SV.v p0)) (Wn.no rfl) rfl (R.move rfl) ?_
  refine LE.c (Wn.no rfl) rfl (R.call bd34 (Ls.cons rfl Ls.nil) rfl) (Calls.mono h ?_)
  rintro _ w2 ⟨r1, rfl, h⟩
  refine ⟨_, rfl, ?_⟩
  refine LE.p (v := (Value.agg #[(SV.v r1), (Value.bool false)])) (Wn.no rfl) rfl (R.bld (by exact (Ls.cons (R.Pr rfl) Ls.nil)) (fun w => bu72_0 r1 w)) ?_
  obtain ⟨b4, hpb4, w3, hww3, h⟩ := M.new_use h
  refine LE.r (v := (Value.pointer (some b4))) (Wn.no rfl) rfl (R.box (cs := #[(SV.v r1), (Value.bool false)]) rfl rfl hpb4 hww3) ?_
  refine LE.p (v := (Value.pointer (some b4))) (Wn.no rfl) rfl (R.assign rfl) ?_
  refine LE.nil ?_
  refine WE.ret ?_
  exact ⟨_, (Res.tmp rfl Res.nil), _, rfl, h⟩
/-- The formula of (*signpost.wire.Reader).U8. -/
def F24 (p0 : Option Addr) (K : Int → World → Prop) (w0 : World) : Prop :=
Calls Try.prog 40 #[(Value.pointer p0), (Value.int .i64 (1 : Int))] w0 (R40 fun r1 w2 =>
K (IntKind.i64.wrap r1) w2)
theorem F24_ok {w0 : World} {p0 : Option Addr} {K : Int → World → Prop} (h : F24 p0 K w0) : Calls Try.prog 24 #[(Value.pointer p0)] w0 (R24 K) := by
  refine calls_of_WE (args := [(Value.pointer p0)]) (rs := [.tmp 2]) Try.func24 rfl (N := 6) rfl rfl rfl rfl ?_
  refine WE.seq ?_
  refine WE.reg ?_
  refine LE.p (v := (Value.int .i64 (0 : Int))) (Wn.no rfl) rfl (R.assign rfl) ?_
  refine LE.nil ?_
  refine WE.seq ?_
  refine WE.reg ?_
  refine LE.p (v := (Value.pointer p0)) (Wn.no rfl) rfl (R.move rfl) ?_
  refine LE.c (Wn.no rfl) rfl (R.call bd40 (Ls.cons rfl (Ls.cons rfl Ls.nil)) rfl) (Calls.mono h ?_)
  rintro _ w2 ⟨r1, rfl, h⟩
  refine ⟨_, rfl, ?_⟩
  refine LE.p (v := (Value.int .i64 (IntKind.i64.wrap r1))) (Wn.no rfl) rfl (R.conv in3 in73 rfl) ?_
  refine LE.p (v := (Value.int .i64 (IntKind.i64.wrap r1))) (Wn.no rfl) rfl (R.assign rfl) ?_
  refine LE.nil ?_
  refine WE.ret ?_
  exact ⟨_, (Res.tmp rfl Res.nil), _, rfl, h⟩
/-- The formula of (*signpost.wire.Reader).U16. -/
def F25 (p0 : Option Addr) (K : Int → World → Prop) (w0 : World) : Prop :=
Calls Try.prog 40 #[(Value.pointer p0), (Value.int .i64 (2 : Int))] w0 (R40 fun r1 w2 =>
K (IntKind.i64.wrap r1) w2)
theorem F25_ok {w0 : World} {p0 : Option Addr} {K : Int → World → Prop} (h : F25 p0 K w0) : Calls Try.prog 25 #[(Value.pointer p0)] w0 (R25 K) := by
  refine calls_of_WE (args := [(Value.pointer p0)]) (rs := [.tmp 2]) Try.func25 rfl (N := 6) rfl rfl rfl rfl ?_
  refine WE.seq ?_
  refine WE.reg ?_
  refine LE.p (v := (Value.int .i64 (0 : Int))) (Wn.no rfl) rfl (R.assign rfl) ?_
  refine LE.nil ?_
  refine WE.seq ?_
  refine WE.reg ?_
  refine LE.p (v := (Value.pointer p0)) (Wn.no rfl) rfl (R.move rfl) ?_
  refine LE.c (Wn.no rfl) rfl (R.call bd40 (Ls.cons rfl (Ls.cons rfl Ls.nil)) rfl) (Calls.mono h ?_)
  rintro _ w2 ⟨r1, rfl, h⟩
  refine ⟨_, rfl, ?_⟩
  refine LE.p (v := (Value.int .i64 (IntKind.i64.wrap r1))) (Wn.no rfl) rfl (R.conv in3 in73 rfl) ?_
  refine LE.p (v := (Value.int .i64 (IntKind.i64.wrap r1))) (Wn.no rfl) rfl (R.assign rfl) ?_
  refine LE.nil ?_
  refine WE.ret ?_
  exact ⟨_, (Res.tmp rfl Res.nil), _, rfl, h⟩
/-- The formula of (*signpost.wire.Reader).U32. -/
def F26 (p0 : Option Addr) (K : Int → World → Prop) (w0 : World) : Prop :=
Calls Try.prog 40 #[(Value.pointer p0), (Value.int .i64 (4 : Int))] w0 (R40 fun r1 w2 =>
K (IntKind.u32.wrap r1) w2)
theorem F26_ok {w0 : World} {p0 : Option Addr} {K : Int → World → Prop} (h : F26 p0 K w0) : Calls Try.prog 26 #[(Value.pointer p0)] w0 (R26 K) := by
  refine calls_of_WE (args := [(Value.pointer p0)]) (rs := [.tmp 2]) Try.func26 rfl (N := 6) rfl rfl rfl rfl ?_
  refine WE.seq ?_
  refine WE.reg ?_
  refine LE.p (v := (Value.int .u32 (0 : Int))) (Wn.no rfl) rfl (R.assign rfl) ?_
  refine LE.nil ?_
  refine WE.seq ?_
  refine WE.reg ?_
  refine LE.p (v := (Value.pointer p0)) (Wn.no rfl) rfl (R.move rfl) ?_
  refine LE.c (Wn.no rfl) rfl (R.call bd40 (Ls.cons rfl (Ls.cons rfl Ls.nil)) rfl) (Calls.mono h ?_)
  rintro _ w2 ⟨r1, rfl, h⟩
  refine ⟨_, rfl, ?_⟩
  refine LE.p (v := (Value.int .u32 (IntKind.u32.wrap r1))) (Wn.no rfl) rfl (R.conv in22 in73 rfl) ?_
  refine LE.p (v := (Value.int .u32 (IntKind.u32.wrap r1))) (Wn.no rfl) rfl (R.assign rfl) ?_
  refine LE.nil ?_
  refine WE.ret ?_
  exact ⟨_, (Res.tmp rfl Res.nil), _, rfl, h⟩
/-- The formula of signpost.open.note. -/
def F27 (p0 : Int) (p1 : SV) (K : Int → Int → SV → World → Prop) (w0 : World) : Prop :=
M.new (.cells #[(Value.int .i64 (0 : Int)), (Value.int .i64 (0 : Int)), (SV.v SV.nil)] 35) w0 fun b2 w1 =>
M.stA b2 [(Value.int .i64 (2 : Int)), (Value.int .i64 p0), (SV.v p1)] w1 fun w3 =>
M.ld (Value.int .i64) b2 w3 fun t5 =>
M.ld (Value.int .i64) (b2.add 1) w3 fun t7 =>
M.ld SV.v (b2.add 2) w3 fun t9 =>
K t5 t7 t9 w3
theorem F27_ok {w0 : World} {p0 : Int} {p1 : SV} {K : Int → Int → SV → World → Prop} (h : F27 p0 p1 K w0) : Calls Try.prog 27 #[(Value.int .i64 p0), (SV.v p1)] w0 (R27 K) := by
  refine calls_of_WE (args := [(Value.int .i64 p0), (SV.v p1)]) (rs := [.cell 4 35]) Try.func27 rfl (N := 8) rfl rfl rfl rfl ?_
  refine WE.seq ?_
  refine WE.reg ?_
  obtain ⟨b2, hpb2, w1, hww1, h⟩ := M.new_use h
  refine LE.r (v := (Value.pointer (some b2))) (Wn.no rfl) rfl (R.alloc (cs := #[(Value.int .i64 (0 : Int)), (Value.int .i64 (0 : Int)), (SV.v SV.nil)]) ze35 rfl hpb2 hww1) ?_
  refine LE.nil ?_
  refine WE.seq ?_
  refine WE.reg ?_
  refine LE.p (v := (Value.int .i64 p0)) (Wn.no rfl) rfl (R.move rfl) ?_
  refine LE.p (v := (SV.v p1)) (Wn.no rfl) rfl (R.move rfl) ?_
  refine LE.p (v := (Value.agg #[(Value.int .i64 (2 : Int)), (Value.int .i64 p0), (SV.v p1)])) (Wn.no rfl) rfl (R.bld (by exact (Ls.cons (R.Pr rfl) (Ls.cons (R.Pr rfl) (Ls.cons (R.Pr rfl) Ls.nil)))) (fun w => bu35_0_1_2 (2 : Int) p0 p1 w)) ?_
  obtain ⟨w3, hww3, h4, h⟩ := M.stA_use h
  refine LE.s (Wn.no rfl) rfl (R.stA (a := b2) [(Value.int .i64 (2 : Int)), (Value.int .i64 p0), (SV.v p1)] sz35 rfl rfl rfl (by simp [Value.oneCell']) h4 hww3) ?_
  refine LE.nil ?_
  refine WE.ret ?_
  obtain ⟨t5, h6, h⟩ := h
  obtain ⟨t7, h8, h⟩ := h
  obtain ⟨t9, h10, h⟩ := h
  exact ⟨_, (Res.cell rfl (R.ldCellA ag35 sz35 rfl (Cs.cons h6 (Cs.cons h8 (Cs.cons h10 Cs.nil)))) Res.nil), _, _, _, rfl, h⟩
/-- The formula of (*signpost.wire.Reader).Left. -/
def F28 (p0 : Option Addr) (K : Int → World → Prop) (w0 : World) : Prop :=
M.nil p0 fun a1 =>
M.ld Value.bool (a1.add 1) w0 fun t3 =>
M.ite t3 (
K (0 : Int) w0) (
M.nil p0 fun a6 =>
M.ld SV.v a6 w0 fun t8 =>
K (t8.len : Int) w0)
theorem F28_ok {w0 : World} {p0 : Option Addr} {K : Int → World → Prop} (h : F28 p0 K w0) : Calls Try.prog 28 #[(Value.pointer p0)] w0 (R28 K) := by
  refine calls_of_WE (args := [(Value.pointer p0)]) (rs := [.tmp 2]) Try.func28 rfl (N := 12) rfl rfl rfl rfl ?_
  refine WE.seq ?_
  refine WE.reg ?_
  refine LE.p (v := (Value.int .i64 (0 : Int))) (Wn.no rfl) rfl (R.assign rfl) ?_
  refine LE.nil ?_
  refine WE.seq ?_
  refine WE.seq ?_
  refine WE.reg ?_
  refine LE.p (v := (Value.pointer p0)) (Wn.no rfl) rfl (R.move rfl) ?_
  obtain ⟨a1, h2, h⟩ := h
  refine LE.p (v := (Value.pointer (some a1))) (Wn.no rfl) rfl (R.nilC (congrArg Value.pointer h2)) ?_
  refine LE.p (v := (Value.pointer (some (a1.add 1)))) (Wn.no rfl) rfl (R.fld (off := 1) fa72_1 rfl) ?_
  obtain ⟨t3, h4, h⟩ := h
  refine LE.r (v := (Value.bool t3)) (Wn.no rfl) rfl (R.ld sc4 rfl h4) ?_
  refine LE.nil ?_
  refine WE.condT rfl (b := t3) rfl ?_ ?_
  · intro hb5
    replace h := M.ite_t h hb5
    refine WE.seq ?_
    refine WE.reg ?_
    refine LE.p (v := (Value.int .i64 (0 : Int))) (Wn.no rfl) rfl (R.assign rfl) ?_
    refine LE.nil ?_
    refine WE.ret ?_
    exact ⟨_, (Res.tmp rfl Res.nil), _, rfl, h⟩
  · intro hb5
    replace h := M.ite_f h hb5
    refine WE.skip ?_
    refine WE.seq ?_
    refine WE.reg ?_
    refine LE.p (v := (Value.pointer p0)) (Wn.no rfl) rfl (R.move rfl) ?_
    obtain ⟨a6, h7, h⟩ := h
    refine LE.p (v := (Value.pointer (some a6))) (Wn.no rfl) rfl (R.nilC (congrArg Value.pointer h7)) ?_
    refine LE.p (v := (Value.pointer (some a6))) (Wn.no rfl) rfl (R.fld (off := 0) fa72_0 rfl) ?_
    obtain ⟨t8, h9, h⟩ := h
    refine LE.r (v := (SV.v t8)) (Wn.no rfl) rfl (R.ld sc23 rfl h9) ?_
    refine LE.p (v := (Value.int .i64 (t8.len : Int))) (Wn.no rfl) rfl (R.len sl23 rfl) ?_
    refine LE.p (v := (Value.int .i64 (t8.len : Int))) (Wn.no rfl) rfl (R.assign rfl) ?_
    refine LE.nil ?_
    refine WE.ret ?_
    exact ⟨_, (Res.tmp rfl Res.nil), _, rfl, h⟩
/-- The formula of signpost.wire.NewWriter. -/
def F29  (K : Option Addr → World → Prop) (w0 : World) : Prop :=
M.new (.cells #[(SV.v SV.nil)] 76) w0 fun b2 w1 =>
K (some b2) w1
theorem F29_ok {w0 : World}  {K : Option Addr → World → Prop} (h : F29 K w0) : Calls Try.prog 29 #[] w0 (R29 K) := by
  refine calls_of_WE (args := []) (rs := [.tmp 0]) Try.func29 rfl (N := 3) rfl rfl rfl rfl ?_
  refine WE.seq ?_
  refine WE.reg ?_
  refine LE.p (v := (Value.pointer (none : Option Addr))) (Wn.no rfl) rfl (R.assign rfl) ?_
  refine LE.nil ?_
  refine WE.seq ?_
  refine WE.reg ?_
  refine LE.p (v := (Value.agg #[(SV.v SV.nil)])) (Wn.no rfl) rfl (R.bld (by exact Ls.nil) (fun w => bu76_  w)) ?_
  obtain ⟨b2, hpb2, w1, hww1, h⟩ := M.new_use h
  refine LE.r (v := (Value.pointer (some b2))) (Wn.no rfl) rfl (R.box (cs := #[(SV.v SV.nil)]) rfl rfl hpb2 hww1) ?_
  refine LE.p (v := (Value.pointer (some b2))) (Wn.no rfl) rfl (R.assign rfl) ?_
  refine LE.nil ?_
  refine WE.ret ?_
  exact ⟨_, (Res.tmp rfl Res.nil), _, rfl, h⟩
/-- The formula of (*signpost.wire.Writer).U8. -/
def F30 (p0 : Option Addr) (p1 : Int) (K : World → Prop) (w0 : World) : Prop :=
Calls Try.prog 41 #[(Value.pointer p0), (Value.int .u64 (IntKind.u64.wrap p1)), (Value.int .i64 (1 : Int))] w0 (R41 fun w1 =>
K w1)
theorem F30_ok {w0 : World} {p0 : Option Addr} {p1 : Int} {K : World → Prop} (h : F30 p0 p1 K w0) : Calls Try.prog 30 #[(Value.pointer p0), (Value.int .i64 p1)] w0 (R30 K) := by
  refine calls_of_WE (args := [(Value.pointer p0), (Value.int .i64 p1)]) (rs := []) Try.func30 rfl (N := 8) rfl rfl rfl rfl ?_
  refine WE.reg ?_
  refine LE.p (v := (Value.pointer p0)) (Wn.no rfl) rfl (R.move rfl) ?_
  refine LE.p (v := (Value.int .i64 p1)) (Wn.no rfl) rfl (R.move rfl) ?_
  refine LE.p (v := (Value.int .u64 (IntKind.u64.wrap p1))) (Wn.no rfl) rfl (R.conv in73 in3 rfl) ?_
  refine LE.c (Wn.no rfl) rfl (R.call bd41 (Ls.cons rfl (Ls.cons rfl (Ls.cons rfl Ls.nil))) rfl) (Calls.mono h ?_)
  rintro _ w1 ⟨rfl, h⟩
  refine ⟨_, rfl, ?_⟩
  refine LE.nil ?_
  exact ⟨_,  Res.nil, rfl, h⟩
/-- The formula of (*signpost.wire.Writer).U16. -/
def F31 (p0 : Option Addr) (p1 : Int) (K : World → Prop) (w0 : World) : Prop :=
Calls Try.prog 41 #[(Value.pointer p0), (Value.int .u64 (IntKind.u64.wrap p1)), (Value.int .i64 (2 : Int))] w0 (R41 fun w1 =>
K w1)
theorem F31_ok {w0 : World} {p0 : Option Addr} {p1 : Int} {K : World → Prop} (h : F31 p0 p1 K w0) : Calls Try.prog 31 #[(Value.pointer p0), (Value.int .i64 p1)] w0 (R31 K) := by
  refine calls_of_WE (args := [(Value.pointer p0), (Value.int .i64 p1)]) (rs := []) Try.func31 rfl (N := 8) rfl rfl rfl rfl ?_
  refine WE.reg ?_
  refine LE.p (v := (Value.pointer p0)) (Wn.no rfl) rfl (R.move rfl) ?_
  refine LE.p (v := (Value.int .i64 p1)) (Wn.no rfl) rfl (R.move rfl) ?_
  refine LE.p (v := (Value.int .u64 (IntKind.u64.wrap p1))) (Wn.no rfl) rfl (R.conv in73 in3 rfl) ?_
  refine LE.c (Wn.no rfl) rfl (R.call bd41 (Ls.cons rfl (Ls.cons rfl (Ls.cons rfl Ls.nil))) rfl) (Calls.mono h ?_)
  rintro _ w1 ⟨rfl, h⟩
  refine ⟨_, rfl, ?_⟩
  refine LE.nil ?_
  exact ⟨_,  Res.nil, rfl, h⟩
/-- The formula of (*signpost.wire.Writer).U32. -/
def F32 (p0 : Option Addr) (p1 : Int) (K : World → Prop) (w0 : World) : Prop :=
Calls Try.prog 41 #[(Value.pointer p0), (Value.int .u64 (IntKind.u64.wrap p1)), (Value.int .i64 (4 : Int))] w0 (R41 fun w1 =>
K w1)
theorem F32_ok {w0 : World} {p0 : Option Addr} {p1 : Int} {K : World → Prop} (h : F32 p0 p1 K w0) : Calls Try.prog 32 #[(Value.pointer p0), (Value.int .u32 p1)] w0 (R32 K) := by
  refine calls_of_WE (args := [(Value.pointer p0), (Value.int .u32 p1)]) (rs := []) Try.func32 rfl (N := 8) rfl rfl rfl rfl ?_
  refine WE.reg ?_
  refine LE.p (v := (Value.pointer p0)) (Wn.no rfl) rfl (R.move rfl) ?_
  refine LE.p (v := (Value.int .u32 p1)) (Wn.no rfl) rfl (R.move rfl) ?_
  refine LE.p (v := (Value.int .u64 (IntKind.u64.wrap p1))) (Wn.no rfl) rfl (R.conv in73 in22 rfl) ?_
  refine LE.c (Wn.no rfl) rfl (R.call bd41 (Ls.cons rfl (Ls.cons rfl (Ls.cons rfl Ls.nil))) rfl) (Calls.mono h ?_)
  rintro _ w1 ⟨rfl, h⟩
  refine ⟨_, rfl, ?_⟩
  refine LE.nil ?_
  exact ⟨_,  Res.nil, rfl, h⟩
/-- The formula of (*signpost.wire.Writer).Done. -/
def F33 (p0 : Option Addr) (K : SV → World → Prop) (w0 : World) : Prop :=
M.nil p0 fun a1 =>
M.ld SV.v a1 w0 fun t3 =>
Calls Try.prog 34 #[(SV.v t3)] w0 (R34 fun r5 w6 =>
K r5 w6)
theorem F33_ok {w0 : World} {p0 : Option Addr} {K : SV → World → Prop} (h : F33 p0 K w0) : Calls Try.prog 33 #[(Value.pointer p0)] w0 (R33 K) := by
  refine calls_of_WE (args := [(Value.pointer p0)]) (rs := [.tmp 2]) Try.func33 rfl (N := 8) rfl rfl rfl rfl ?_
  refine WE.seq ?_
  refine WE.reg ?_
  refine LE.p (v := (SV.v SV.nil)) (Wn.no rfl) rfl (R.assign rfl) ?_
  refine LE.nil ?_
  refine WE.seq ?_
  refine WE.reg ?_
  refine LE.p (v := (Value.pointer p0)) (Wn.no rfl) rfl (R.move rfl) ?_
  obtain ⟨a1, h2, h⟩ := h
  refine LE.p (v := (Value.pointer (some a1))) (Wn.no rfl) rfl (R.nilC (congrArg Value.pointer h2)) ?_
  refine LE.p (v := (Value.pointer (some a1))) (Wn.no rfl) rfl (R.fld (off := 0) fa76_0 rfl) ?_
  obtain ⟨t3, h4, h⟩ := h
  refine LE.r (v := (SV.v t3)) (Wn.no rfl) rfl (R.ld sc23 rfl h4) ?_
  refine LE.c (Wn.no rfl) rfl (R.call bd34 (Ls.cons rfl Ls.nil) rfl) (Calls.mono h ?_)
  rintro _ w6 ⟨r5, rfl, h⟩
  refine ⟨_, rfl, ?_⟩
  refine LE.p (v := (SV.v r5)) (Wn.no rfl) rfl (R.assign rfl) ?_
  refine LE.nil ?_
  refine WE.ret ?_
  exact ⟨_, (Res.tmp rfl Res.nil), _, rfl, h⟩
/-- The formula of slices.Clone[[]byte,byte]. -/
def F34 (p0 : SV) (K : SV → World → Prop) (w0 : World) : Prop :=
M.ite (Option.isNone (SV.a p0)) (
K SV.nil w0) (
M.new (.cells #[] 5) w0 fun b4 w2 =>
M.app Try.prog 23 23 23 (SV.mk (some b4) 0 0) (SV.v p0) w2 fun s5 w6 =>
K s5 w6)
theorem F34_ok {w0 : World} {p0 : SV} {K : SV → World → Prop} (h : F34 p0 K w0) : Calls Try.prog 34 #[(SV.v p0)] w0 (R34 K) := by
  refine calls_of_WE (args := [(SV.v p0)]) (rs := [.tmp 2]) Try.func34 rfl (N := 8) rfl rfl rfl rfl ?_
  refine WE.seq ?_
  refine WE.reg ?_
  refine LE.p (v := (SV.v SV.nil)) (Wn.no rfl) rfl (R.assign rfl) ?_
  refine LE.nil ?_
  refine WE.seq ?_
  refine WE.seq ?_
  refine WE.reg ?_
  refine LE.p (v := (SV.v p0)) (Wn.no rfl) rfl (R.move rfl) ?_
  refine LE.p (v := (Value.bool (Option.isNone (SV.a p0)))) (Wn.no rfl) rfl (R.sleqNil sl23 rfl rfl) ?_
  refine LE.nil ?_
  refine WE.condT rfl (b := (Option.isNone (SV.a p0))) rfl ?_ ?_
  · intro hb1
    replace h := M.ite_t h hb1
    refine WE.seq ?_
    refine WE.reg ?_
    refine LE.p (v := (SV.v SV.nil)) (Wn.no rfl) rfl (R.assign rfl) ?_
    refine LE.nil ?_
    refine WE.ret ?_
    exact ⟨_, (Res.tmp rfl Res.nil), _, rfl, h⟩
  · intro hb1
    replace h := M.ite_f h hb1
    refine WE.skip ?_
    refine WE.seq ?_
    refine WE.reg ?_
    obtain ⟨b4, hpb4, w2, hww2, h⟩ := M.new_use h
    refine LE.r (v := (SV.v (SV.mk (some b4) 0 0))) (Wn.no rfl) rfl (R.bsl (by exact Ls.nil) (fun w => bs23_0  w) hpb4 hww2) ?_
    refine LE.p (v := (SV.v p0)) (Wn.no rfl) rfl (R.move rfl) ?_
    obtain ⟨s5, w6, h7, h⟩ := h
    refine LE.r (v := (SV.v s5)) (Wn.no rfl) rfl (R.app (s := (SV.mk (some b4) 0 0)) (r := s5) rfl rfl h7) ?_
    refine LE.p (v := (SV.v s5)) (Wn.no rfl) rfl (R.assign rfl) ?_
    refine LE.nil ?_
    refine WE.ret ?_
    exact ⟨_, (Res.tmp rfl Res.nil), _, rfl, h⟩
/-- The formula of slices.Concat[[]byte,byte]. -/
def F35 (p0 : SV) (K : SV → World → Prop) (w0 : World) : Prop :=
M.loop2 (fun (J3 : Int → Int → World → Prop) (x1 : Int) (x2 : Int) (w4 : World) => 
M.ite (decide (x2 < (p0.len : Int))) (
M.join (fun (x18 : Int) (w27 : World) => 
J3 x18 (IntKind.i64.wrap (x2 + (1 : Int))) w27) fun J17 => 
M.idx p0 x2 1 fun a19 =>
M.ld SV.v (a19.add (x2.toNat * 1)) w4 fun t23 =>
M.ite (decide ((IntKind.i64.wrap (x1 + (t23.len : Int))) < (0 : Int))) (
False) (
J17 (IntKind.i64.wrap (x1 + (t23.len : Int))) w4)) (
Calls Try.prog 42 #[(SV.v SV.nil), (Value.int .i64 x1)] w4 (R42 fun r33 w34 =>
M.loop2 (fun (J37 : SV → Int → World → Prop) (x35 : SV) (x36 : Int) (w38 : World) => 
M.ite (decide (x36 < (p0.len : Int))) (
M.idx p0 x36 1 fun a50 =>
M.ld SV.v (a50.add (x36.toNat * 1)) w38 fun t54 =>
M.app Try.prog 23 23 23 x35 (SV.v t54) w38 fun s56 w57 =>
J37 s56 (IntKind.i64.wrap (x36 + (1 : Int))) w57) (
K x35 w38)) r33 (0 : Int) w34))) (0 : Int) (0 : Int) w0
theorem F35_ok {w0 : World} {p0 : SV} {K : SV → World → Prop} (h : F35 p0 K w0) : Calls Try.prog 35 #[(SV.v p0)] w0 (R35 K) := by
  refine calls_of_WE (args := [(SV.v p0)]) (rs := [.tmp 2]) Try.func35 rfl (N := 36) rfl rfl rfl rfl ?_
  refine WE.seq ?_
  refine WE.reg ?_
  refine LE.p (v := (SV.v SV.nil)) (Wn.no rfl) rfl (R.assign rfl) ?_
  refine LE.nil ?_
  refine WE.seq ?_
  refine WE.reg ?_
  refine LE.p (v := (Value.int .i64 (0 : Int))) (Wn.no rfl) rfl (R.assign rfl) ?_
  refine LE.nil ?_
  refine WE.seq ?_
  refine WE.seq ?_
  refine WE.reg ?_
  refine LE.p (v := (SV.v p0)) (Wn.no rfl) rfl (R.move rfl) ?_
  refine LE.p (v := (Value.int .i64 (p0.len : Int))) (Wn.no rfl) rfl (R.len sl78 rfl) ?_
  refine LE.p (v := (Value.int .i64 (0 : Int))) (Wn.no rfl) rfl (R.move rfl) ?_
  refine LE.nil ?_
  refine WE.block ?_
  obtain ⟨I7, ⟨n6, h⟩, hr8⟩ := h
  refine WE.loop (fun n e w => ∃ (x1 : Int) (x2 : Int), I7 n x1 x2 w ∧ e 0 = (SV.v p0) ∧ e 3 = (Value.int .i64 x1) ∧ e 9 = (SV.v p0) ∧ e 10 = (Value.int .i64 (p0.len : Int)) ∧ e 11 = (Value.int .i64 x2)) n6 ⟨_, _, h, rfl, rfl, rfl, rfl, rfl⟩ ?_
  clear h
  rintro n6 e5 w4 ⟨x1, x2, h, f11, f12, f13, f14, f15⟩
  replace h := hr8 n6 x1 x2 w4 h
  refine WE.seq ?_
  refine WE.reg ?_
  refine LE.p (v := (Value.bool (decide (x2 < (p0.len : Int))))) (Wn.no rfl) rfl (R.lss f15 f14) ?_
  refine LE.nil ?_
  refine WE.seq ?_
  refine WE.condT rfl (b := (decide (x2 < (p0.len : Int)))) rfl ?_ ?_
  · intro hb16
    replace h := M.ite_t h hb16
    refine WE.skip ?_
    refine WE.seq ?_
    obtain ⟨J17, hJ17, h⟩ := M.join_use h
    refine WE.blkJ (fun e w => ∃ (x18 : Int), J17 x18 w ∧ e 0 = (SV.v p0) ∧ e 3 = (Value.int .i64 x18) ∧ e 9 = (SV.v p0) ∧ e 10 = (Value.int .i64 (p0.len : Int)) ∧ e 11 = (Value.int .i64 x2)) ?_ ?_
    · clear hJ17
      refine WE.seq ?_
      refine WE.reg ?_
      obtain ⟨a19, h20, h21, h22, h⟩ := h
      refine LE.p (v := (Value.pointer (some (a19.add (x2.toNat * 1))))) (Wn.no rfl) rfl (R.idx (s := p0) sl78 f13 f15 h20 h21 h22) ?_
      obtain ⟨t23, h24, h⟩ := h
      refine LE.r (v := (SV.v t23)) (Wn.no rfl) rfl (R.ld sc23 rfl h24) ?_
      refine LE.p (v := (SV.v t23)) (Wn.no rfl) rfl (R.assign rfl) ?_
      refine LE.nil ?_
      refine WE.seq ?_
      refine WE.reg ?_
      refine LE.p (v := (Value.int .i64 x1)) (Wn.no rfl) rfl (R.move f12) ?_
      refine LE.p (v := (SV.v t23)) (Wn.no rfl) rfl (R.move rfl) ?_
      refine LE.p (v := (Value.int .i64 (t23.len : Int))) (Wn.no rfl) rfl (R.len sl23 rfl) ?_
      refine LE.p (v := (Value.int .i64 (IntKind.i64.wrap (x1 + (t23.len : Int))))) (Wn.no rfl) rfl (R.add rfl rfl) ?_
      refine LE.p (v := (Value.int .i64 (IntKind.i64.wrap (x1 + (t23.len : Int))))) (Wn.no rfl) rfl (R.assign rfl) ?_
      refine LE.nil ?_
      refine WE.seq ?_
      refine WE.reg ?_
      refine LE.p (v := (Value.int .i64 (IntKind.i64.wrap (x1 + (t23.len : Int))))) (Wn.no rfl) rfl (R.move rfl) ?_
      refine LE.p (v := (Value.bool (decide ((IntKind.i64.wrap (x1 + (t23.len : Int))) < (0 : Int))))) (Wn.no rfl) rfl (R.lss rfl rfl) ?_
      refine LE.nil ?_
      refine WE.condT rfl (b := (decide ((IntKind.i64.wrap (x1 + (t23.len : Int))) < (0 : Int)))) rfl ?_ ?_
      · intro hb25
        replace h := M.ite_t h hb25
        refine WE.reg ?_
        exact h.elim
      · intro hb25
        replace h := M.ite_f h hb25
        refine WE.skip ?_
        exact ⟨_, h, f11, rfl, f13, f14, f15⟩
    · rintro e26 w27 ⟨x18, h, f28, f29, f30, f31, f32⟩
      subst hJ17
      refine WE.reg ?_
      refine LE.p (v := (Value.int .i64 (IntKind.i64.wrap (x2 + (1 : Int))))) (Wn.no rfl) rfl (R.add f32 rfl) ?_
      refine LE.p (v := (Value.int .i64 (IntKind.i64.wrap (x2 + (1 : Int))))) (Wn.no rfl) rfl (R.move rfl) ?_
      refine LE.nil ?_
      obtain ⟨m9, hm10, h⟩ := h
      exact ⟨m9, hm10, _, _, h, f28, f29, f30, f31, rfl⟩
  · intro hb16
    replace h := M.ite_f h hb16
    refine WE.exit ?_
    refine WE.seq ?_
    refine WE.reg ?_
    refine LE.p (v := (Value.int .i64 x1)) (Wn.no rfl) rfl (R.move f12) ?_
    refine LE.c (Wn.no rfl) rfl (R.call bd42 (Ls.cons rfl (Ls.cons rfl Ls.nil)) rfl) (Calls.mono h ?_)
    rintro _ w34 ⟨r33, rfl, h⟩
    refine ⟨_, rfl, ?_⟩
    refine LE.p (v := (SV.v r33)) (Wn.no rfl) rfl (R.assign rfl) ?_
    refine LE.nil ?_
    refine WE.seq ?_
    refine WE.seq ?_
    refine WE.reg ?_
    refine LE.p (v := (SV.v p0)) (Wn.no rfl) rfl (R.move f11) ?_
    refine LE.p (v := (Value.int .i64 (p0.len : Int))) (Wn.no rfl) rfl (R.len sl78 rfl) ?_
    refine LE.p (v := (Value.int .i64 (0 : Int))) (Wn.no rfl) rfl (R.move rfl) ?_
    refine LE.nil ?_
    refine WE.block ?_
    obtain ⟨I41, ⟨n40, h⟩, hr42⟩ := h
    refine WE.loop (fun n e w => ∃ (x35 : SV) (x36 : Int), I41 n x35 x36 w ∧ e 6 = (SV.v x35) ∧ e 25 = (SV.v p0) ∧ e 26 = (Value.int .i64 (p0.len : Int)) ∧ e 27 = (Value.int .i64 x36)) n40 ⟨_, _, h, rfl, rfl, rfl, rfl⟩ ?_
    clear h
    rintro n40 e39 w38 ⟨x35, x36, h, f45, f46, f47, f48⟩
    replace h := hr42 n40 x35 x36 w38 h
    refine WE.seq ?_
    refine WE.reg ?_
    refine LE.p (v := (Value.bool (decide (x36 < (p0.len : Int))))) (Wn.no rfl) rfl (R.lss f48 f47) ?_
    refine LE.nil ?_
    refine WE.seq ?_
    refine WE.condT rfl (b := (decide (x36 < (p0.len : Int)))) rfl ?_ ?_
    · intro hb49
      replace h := M.ite_t h hb49
      refine WE.skip ?_
      refine WE.seq ?_
      refine WE.block ?_
      refine WE.seq ?_
      refine WE.reg ?_
      obtain ⟨a50, h51, h52, h53, h⟩ := h
      refine LE.p (v := (Value.pointer (some (a50.add (x36.toNat * 1))))) (Wn.no rfl) rfl (R.idx (s := p0) sl78 f46 f48 h51 h52 h53) ?_
      obtain ⟨t54, h55, h⟩ := h
      refine LE.r (v := (SV.v t54)) (Wn.no rfl) rfl (R.ld sc23 rfl h55) ?_
      refine LE.p (v := (SV.v t54)) (Wn.no rfl) rfl (R.assign rfl) ?_
      refine LE.nil ?_
      refine WE.reg ?_
      refine LE.p (v := (SV.v x35)) (Wn.no rfl) rfl (R.move f45) ?_
      refine LE.p (v := (SV.v t54)) (Wn.no rfl) rfl (R.move rfl) ?_
      obtain ⟨s56, w57, h58, h⟩ := h
      refine LE.r (v := (SV.v s56)) (Wn.no rfl) rfl (R.app (s := x35) (r := s56) rfl rfl h58) ?_
      refine LE.p (v := (SV.v s56)) (Wn.no rfl) rfl (R.assign rfl) ?_
      refine LE.nil ?_
      refine WE.reg ?_
      refine LE.p (v := (Value.int .i64 (IntKind.i64.wrap (x36 + (1 : Int))))) (Wn.no rfl) rfl (R.add f48 rfl) ?_
      refine LE.p (v := (Value.int .i64 (IntKind.i64.wrap (x36 + (1 : Int))))) (Wn.no rfl) rfl (R.move rfl) ?_
      refine LE.nil ?_
      obtain ⟨m43, hm44, h⟩ := h
      exact ⟨m43, hm44, _, _, h, rfl, f46, f47, rfl⟩
    · intro hb49
      replace h := M.ite_f h hb49
      refine WE.exit ?_
      refine WE.seq ?_
      refine WE.reg ?_
      refine LE.p (v := (SV.v x35)) (Wn.no rfl) rfl (R.move f45) ?_
      refine LE.p (v := (SV.v x35)) (Wn.no rfl) rfl (R.assign rfl) ?_
      refine LE.nil ?_
      refine WE.ret ?_
      exact ⟨_, (Res.tmp rfl Res.nil), _, rfl, h⟩
/-- The formula of signpost.signpostref10.note. -/
def F36 (p0 : Int) (p1 : SV) (K : Int → Int → Int → Int → Int → SV → World → Prop) (w0 : World) : Prop :=
M.new (.cells #[(Value.int .i64 (0 : Int)), (Value.int .i64 (0 : Int)), (Value.int .u32 (0 : Int))] 26) w0 fun b2 w1 =>
M.new (.cells #[(Value.int .i64 (0 : Int)), (Value.int .i64 (0 : Int)), (SV.v SV.nil)] 35) w1 fun b4 w3 =>
M.stA b2 [(Value.int .i64 (0 : Int)), (Value.int .i64 (0 : Int)), (Value.int .u32 (0 : Int))] w3 fun w5 =>
M.stA b4 [(Value.int .i64 (2 : Int)), (Value.int .i64 p0), (SV.v p1)] w5 fun w7 =>
M.ld (Value.int .i64) b2 w7 fun t9 =>
M.ld (Value.int .i64) (b2.add 1) w7 fun t11 =>
M.ld (Value.int .u32) (b2.add 2) w7 fun t13 =>
M.ld (Value.int .i64) b4 w7 fun t15 =>
M.ld (Value.int .i64) (b4.add 1) w7 fun t17 =>
M.ld SV.v (b4.add 2) w7 fun t19 =>
K t9 t11 t13 t15 t17 t19 w7
theorem F36_ok {w0 : World} {p0 : Int} {p1 : SV} {K : Int → Int → Int → Int → Int → SV → World → Prop} (h : F36 p0 p1 K w0) : Calls Try.prog 36 #[(Value.int .i64 p0), (SV.v p1)] w0 (R36 K) := by
  refine calls_of_WE (args := [(Value.int .i64 p0), (SV.v p1)]) (rs := [.cell 4 26, .cell 5 35]) Try.func36 rfl (N := 10) rfl rfl rfl rfl ?_
  refine WE.seq ?_
  refine WE.reg ?_
  obtain ⟨b2, hpb2, w1, hww1, h⟩ := M.new_use h
  refine LE.r (v := (Value.pointer (some b2))) (Wn.no rfl) rfl (R.alloc (cs := #[(Value.int .i64 (0 : Int)), (Value.int .i64 (0 : Int)), (Value.int .u32 (0 : Int))]) ze26 rfl hpb2 hww1) ?_
  obtain ⟨b4, hpb4, w3, hww3, h⟩ := M.new_use h
  refine LE.r (v := (Value.pointer (some b4))) (Wn.no rfl) rfl (R.alloc (cs := #[(Value.int .i64 (0 : Int)), (Value.int .i64 (0 : Int)), (SV.v SV.nil)]) ze35 rfl hpb4 hww3) ?_
  refine LE.nil ?_
  refine WE.seq ?_
  refine WE.reg ?_
  refine LE.p (v := (Value.agg #[(Value.int .i64 (0 : Int)), (Value.int .i64 (0 : Int)), (Value.int .u32 (0 : Int))])) (Wn.no rfl) rfl (R.bld (by exact Ls.nil) (fun w => bu26_  w)) ?_
  refine LE.p (v := (Value.int .i64 p0)) (Wn.no rfl) rfl (R.move rfl) ?_
  refine LE.p (v := (SV.v p1)) (Wn.no rfl) rfl (R.move rfl) ?_
  refine LE.p (v := (Value.agg #[(Value.int .i64 (2 : Int)), (Value.int .i64 p0), (SV.v p1)])) (Wn.no rfl) rfl (R.bld (by exact (Ls.cons (R.Pr rfl) (Ls.cons (R.Pr rfl) (Ls.cons (R.Pr rfl) Ls.nil)))) (fun w => bu35_0_1_2 (2 : Int) p0 p1 w)) ?_
  obtain ⟨w5, hww5, h6, h⟩ := M.stA_use h
  refine LE.s (Wn.no rfl) rfl (R.stA (a := b2) [(Value.int .i64 (0 : Int)), (Value.int .i64 (0 : Int)), (Value.int .u32 (0 : Int))] sz26 rfl rfl rfl (by simp [Value.oneCell']) h6 hww5) ?_
  obtain ⟨w7, hww7, h8, h⟩ := M.stA_use h
  refine LE.s (Wn.no rfl) rfl (R.stA (a := b4) [(Value.int .i64 (2 : Int)), (Value.int .i64 p0), (SV.v p1)] sz35 rfl rfl rfl (by simp [Value.oneCell']) h8 hww7) ?_
  refine LE.nil ?_
  refine WE.ret ?_
  obtain ⟨t9, h10, h⟩ := h
  obtain ⟨t11, h12, h⟩ := h
  obtain ⟨t13, h14, h⟩ := h
  obtain ⟨t15, h16, h⟩ := h
  obtain ⟨t17, h18, h⟩ := h
  obtain ⟨t19, h20, h⟩ := h
  exact ⟨_, (Res.cell rfl (R.ldCellA ag26 sz26 rfl (Cs.cons h10 (Cs.cons h12 (Cs.cons h14 Cs.nil)))) (Res.cell rfl (R.ldCellA ag35 sz35 rfl (Cs.cons h16 (Cs.cons h18 (Cs.cons h20 Cs.nil)))) Res.nil)), _, _, _, _, _, _, rfl, h⟩
/-- The formula of (*signpost.signpostref4.Reader).U8. -/
def F37 (p0 : Option Addr) (K : Int → World → Prop) (w0 : World) : Prop :=
Calls Try.prog 43 #[(Value.pointer p0), (Value.int .i64 (1 : Int))] w0 (R43 fun r1 w2 =>
K (IntKind.i64.wrap r1) w2)
theorem F37_ok {w0 : World} {p0 : Option Addr} {K : Int → World → Prop} (h : F37 p0 K w0) : Calls Try.prog 37 #[(Value.pointer p0)] w0 (R37 K) := by
  refine calls_of_WE (args := [(Value.pointer p0)]) (rs := [.tmp 2]) Try.func37 rfl (N := 6) rfl rfl rfl rfl ?_
  refine WE.seq ?_
  refine WE.reg ?_
  refine LE.p (v := (Value.int .i64 (0 : Int))) (Wn.no rfl) rfl (R.assign rfl) ?_
  refine LE.nil ?_
  refine WE.seq ?_
  refine WE.reg ?_
  refine LE.p (v := (Value.pointer p0)) (Wn.no rfl) rfl (R.move rfl) ?_
  refine LE.c (Wn.no rfl) rfl (R.call bd43 (Ls.cons rfl (Ls.cons rfl Ls.nil)) rfl) (Calls.mono h ?_)
  rintro _ w2 ⟨r1, rfl, h⟩
  refine ⟨_, rfl, ?_⟩
  refine LE.p (v := (Value.int .i64 (IntKind.i64.wrap r1))) (Wn.no rfl) rfl (R.conv in3 in22 rfl) ?_
  refine LE.p (v := (Value.int .i64 (IntKind.i64.wrap r1))) (Wn.no rfl) rfl (R.assign rfl) ?_
  refine LE.nil ?_
  refine WE.ret ?_
  exact ⟨_, (Res.tmp rfl Res.nil), _, rfl, h⟩
/-- The formula of (*signpost.signpostref4.Reader).U16. -/
def F38 (p0 : Option Addr) (K : Int → World → Prop) (w0 : World) : Prop :=
Calls Try.prog 43 #[(Value.pointer p0), (Value.int .i64 (2 : Int))] w0 (R43 fun r1 w2 =>
K (IntKind.i64.wrap r1) w2)
theorem F38_ok {w0 : World} {p0 : Option Addr} {K : Int → World → Prop} (h : F38 p0 K w0) : Calls Try.prog 38 #[(Value.pointer p0)] w0 (R38 K) := by
  refine calls_of_WE (args := [(Value.pointer p0)]) (rs := [.tmp 2]) Try.func38 rfl (N := 6) rfl rfl rfl rfl ?_
  refine WE.seq ?_
  refine WE.reg ?_
  refine LE.p (v := (Value.int .i64 (0 : Int))) (Wn.no rfl) rfl (R.assign rfl) ?_
  refine LE.nil ?_
  refine WE.seq ?_
  refine WE.reg ?_
  refine LE.p (v := (Value.pointer p0)) (Wn.no rfl) rfl (R.move rfl) ?_
  refine LE.c (Wn.no rfl) rfl (R.call bd43 (Ls.cons rfl (Ls.cons rfl Ls.nil)) rfl) (Calls.mono h ?_)
  rintro _ w2 ⟨r1, rfl, h⟩
  refine ⟨_, rfl, ?_⟩
  refine LE.p (v := (Value.int .i64 (IntKind.i64.wrap r1))) (Wn.no rfl) rfl (R.conv in3 in22 rfl) ?_
  refine LE.p (v := (Value.int .i64 (IntKind.i64.wrap r1))) (Wn.no rfl) rfl (R.assign rfl) ?_
  refine LE.nil ?_
  refine WE.ret ?_
  exact ⟨_, (Res.tmp rfl Res.nil), _, rfl, h⟩
/-- The formula of (*signpost.signpostref4.Reader).U32. -/
def F39 (p0 : Option Addr) (K : Int → World → Prop) (w0 : World) : Prop :=
Calls Try.prog 43 #[(Value.pointer p0), (Value.int .i64 (4 : Int))] w0 (R43 fun r1 w2 =>
K r1 w2)
theorem F39_ok {w0 : World} {p0 : Option Addr} {K : Int → World → Prop} (h : F39 p0 K w0) : Calls Try.prog 39 #[(Value.pointer p0)] w0 (R39 K) := by
  refine calls_of_WE (args := [(Value.pointer p0)]) (rs := [.tmp 2]) Try.func39 rfl (N := 5) rfl rfl rfl rfl ?_
  refine WE.seq ?_
  refine WE.reg ?_
  refine LE.p (v := (Value.int .u32 (0 : Int))) (Wn.no rfl) rfl (R.assign rfl) ?_
  refine LE.nil ?_
  refine WE.seq ?_
  refine WE.reg ?_
  refine LE.p (v := (Value.pointer p0)) (Wn.no rfl) rfl (R.move rfl) ?_
  refine LE.c (Wn.no rfl) rfl (R.call bd43 (Ls.cons rfl (Ls.cons rfl Ls.nil)) rfl) (Calls.mono h ?_)
  rintro _ w2 ⟨r1, rfl, h⟩
  refine ⟨_, rfl, ?_⟩
  refine LE.p (v := (Value.int .u32 r1)) (Wn.no rfl) rfl (R.assign rfl) ?_
  refine LE.nil ?_
  refine WE.ret ?_
  exact ⟨_, (Res.tmp rfl Res.nil), _, rfl, h⟩
/-- The formula of (*signpost.wire.Reader).get. -/
def F40 (p0 : Option Addr) (p1 : Int) (K : Int → World → Prop) (w0 : World) : Prop :=
Calls Try.prog 44 #[(Value.pointer p0), (Value.int .i64 p1)] w0 (R44 fun r1 w2 =>
M.loop2 (fun (J5 : Int → Int → World → Prop) (x3 : Int) (x4 : Int) (w6 : World) => 
M.ite (decide (x4 < (r1.len : Int))) (
M.idx r1 x4 1 fun a18 =>
M.ld (Value.int .u8) (a18.add (x4.toNat * 1)) w6 fun t22 =>
J5 (bOr .u64 (bShl .u64 x3 (8 : Int)) (IntKind.u64.wrap t22)) (IntKind.i64.wrap (x4 + (1 : Int))) w6) (
K x3 w6)) (0 : Int) (0 : Int) w2)
theorem F40_ok {w0 : World} {p0 : Option Addr} {p1 : Int} {K : Int → World → Prop} (h : F40 p0 p1 K w0) : Calls Try.prog 40 #[(Value.pointer p0), (Value.int .i64 p1)] w0 (R40 K) := by
  refine calls_of_WE (args := [(Value.pointer p0), (Value.int .i64 p1)]) (rs := [.tmp 4]) Try.func40 rfl (N := 23) rfl rfl rfl rfl ?_
  refine WE.seq ?_
  refine WE.reg ?_
  refine LE.p (v := (Value.int .u64 (0 : Int))) (Wn.no rfl) rfl (R.assign rfl) ?_
  refine LE.nil ?_
  refine WE.seq ?_
  refine WE.reg ?_
  refine LE.p (v := (Value.int .u64 (0 : Int))) (Wn.no rfl) rfl (R.assign rfl) ?_
  refine LE.nil ?_
  refine WE.seq ?_
  refine WE.seq ?_
  refine WE.reg ?_
  refine LE.p (v := (Value.pointer p0)) (Wn.no rfl) rfl (R.move rfl) ?_
  refine LE.p (v := (Value.int .i64 p1)) (Wn.no rfl) rfl (R.move rfl) ?_
  refine LE.c (Wn.no rfl) rfl (R.call bd44 (Ls.cons rfl (Ls.cons rfl Ls.nil)) rfl) (Calls.mono h ?_)
  rintro _ w2 ⟨r1, rfl, h⟩
  refine ⟨_, rfl, ?_⟩
  refine LE.p (v := (Value.int .i64 (r1.len : Int))) (Wn.no rfl) rfl (R.len sl23 rfl) ?_
  refine LE.p (v := (Value.int .i64 (0 : Int))) (Wn.no rfl) rfl (R.move rfl) ?_
  refine LE.nil ?_
  refine WE.block ?_
  obtain ⟨I9, ⟨n8, h⟩, hr10⟩ := h
  refine WE.loop (fun n e w => ∃ (x3 : Int) (x4 : Int), I9 n x3 x4 w ∧ e 5 = (Value.int .u64 x3) ∧ e 10 = (SV.v r1) ∧ e 11 = (Value.int .i64 (r1.len : Int)) ∧ e 12 = (Value.int .i64 x4)) n8 ⟨_, _, h, rfl, rfl, rfl, rfl⟩ ?_
  clear h
  rintro n8 e7 w6 ⟨x3, x4, h, f13, f14, f15, f16⟩
  replace h := hr10 n8 x3 x4 w6 h
  refine WE.seq ?_
  refine WE.reg ?_
  refine LE.p (v := (Value.bool (decide (x4 < (r1.len : Int))))) (Wn.no rfl) rfl (R.lss f16 f15) ?_
  refine LE.nil ?_
  refine WE.seq ?_
  refine WE.condT rfl (b := (decide (x4 < (r1.len : Int)))) rfl ?_ ?_
  · intro hb17
    replace h := M.ite_t h hb17
    refine WE.skip ?_
    refine WE.seq ?_
    refine WE.block ?_
    refine WE.seq ?_
    refine WE.reg ?_
    obtain ⟨a18, h19, h20, h21, h⟩ := h
    refine LE.p (v := (Value.pointer (some (a18.add (x4.toNat * 1))))) (Wn.no rfl) rfl (R.idx (s := r1) sl23 f14 f16 h19 h20 h21) ?_
    obtain ⟨t22, h23, h⟩ := h
    refine LE.r (v := (Value.int .u8 t22)) (Wn.no rfl) rfl (R.ld sc5 rfl h23) ?_
    refine LE.p (v := (Value.int .u8 t22)) (Wn.no rfl) rfl (R.assign rfl) ?_
    refine LE.nil ?_
    refine WE.reg ?_
    refine LE.p (v := (Value.int .u64 x3)) (Wn.no rfl) rfl (R.move f13) ?_
    refine LE.p (v := (Value.int .u64 (bShl .u64 x3 (8 : Int)))) (Wn.no rfl) rfl (R.shl rfl rfl (by decide)) ?_
    refine LE.p (v := (Value.int .u8 t22)) (Wn.no rfl) rfl (R.move rfl) ?_
    refine LE.p (v := (Value.int .u64 (IntKind.u64.wrap t22))) (Wn.no rfl) rfl (R.conv in73 in5 rfl) ?_
    refine LE.p (v := (Value.int .u64 (bOr .u64 (bShl .u64 x3 (8 : Int)) (IntKind.u64.wrap t22)))) (Wn.no rfl) rfl (R.or rfl rfl) ?_
    refine LE.p (v := (Value.int .u64 (bOr .u64 (bShl .u64 x3 (8 : Int)) (IntKind.u64.wrap t22)))) (Wn.no rfl) rfl (R.assign rfl) ?_
    refine LE.nil ?_
    refine WE.reg ?_
    refine LE.p (v := (Value.int .i64 (IntKind.i64.wrap (x4 + (1 : Int))))) (Wn.no rfl) rfl (R.add f16 rfl) ?_
    refine LE.p (v := (Value.int .i64 (IntKind.i64.wrap (x4 + (1 : Int))))) (Wn.no rfl) rfl (R.move rfl) ?_
    refine LE.nil ?_
    obtain ⟨m11, hm12, h⟩ := h
    exact ⟨m11, hm12, _, _, h, rfl, f14, f15, rfl⟩
  · intro hb17
    replace h := M.ite_f h hb17
    refine WE.exit ?_
    refine WE.seq ?_
    refine WE.reg ?_
    refine LE.p (v := (Value.int .u64 x3)) (Wn.no rfl) rfl (R.move f13) ?_
    refine LE.p (v := (Value.int .u64 x3)) (Wn.no rfl) rfl (R.assign rfl) ?_
    refine LE.nil ?_
    refine WE.ret ?_
    exact ⟨_, (Res.tmp rfl Res.nil), _, rfl, h⟩
/-- The formula of (*signpost.wire.Writer).put. -/
def F41 (p0 : Option Addr) (p1 : Int) (p2 : Int) (K : World → Prop) (w0 : World) : Prop :=
M.loop1 (fun (J2 : Int → World → Prop) (x1 : Int) (w3 : World) => 
M.ite (decide ((0 : Int) ≤ x1)) (
M.drew w3 fun w14 => 
M.nil p0 fun a15 =>
M.sh (IntKind.i64.wrap ((8 : Int) * x1)) <|
M.ld SV.v a15 w14 fun t18 =>
M.new (.cells #[(Value.int .u8 (IntKind.u8.wrap (bShr .u64 p1 (IntKind.i64.wrap ((8 : Int) * x1)))))] 5) w14 fun b22 w20 =>
M.keep (w20.cell? a15 = some (SV.v t18)) <|
M.app Try.prog 23 23 23 t18 (SV.v (SV.mk (some b22) 1 1)) w20 fun s24 w25 =>
M.nil p0 fun a27 =>
M.st a27 (SV.v s24) w25 fun w29 =>
J2 (IntKind.i64.wrap (x1 - (1 : Int))) w29) (
K w3)) (IntKind.i64.wrap (p2 - (1 : Int))) w0
theorem F41_ok {w0 : World} {p0 : Option Addr} {p1 : Int} {p2 : Int} {K : World → Prop} (h : F41 p0 p1 p2 K w0) : Calls Try.prog 41 #[(Value.pointer p0), (Value.int .u64 p1), (Value.int .i64 p2)] w0 (R41 K) := by
  refine calls_of_WE (args := [(Value.pointer p0), (Value.int .u64 p1), (Value.int .i64 p2)]) (rs := []) Try.func41 rfl (N := 27) rfl rfl rfl rfl ?_
  refine WE.seq ?_
  refine WE.reg ?_
  refine LE.p (v := (Value.int .i64 p2)) (Wn.no rfl) rfl (R.move rfl) ?_
  refine LE.p (v := (Value.int .i64 (IntKind.i64.wrap (p2 - (1 : Int))))) (Wn.no rfl) rfl (R.sub rfl rfl) ?_
  refine LE.p (v := (Value.int .i64 (IntKind.i64.wrap (p2 - (1 : Int))))) (Wn.no rfl) rfl (R.assign rfl) ?_
  refine LE.nil ?_
  refine WE.block ?_
  obtain ⟨I6, ⟨n5, h⟩, hr7⟩ := h
  refine WE.loop (fun n e w => ∃ (x1 : Int), I6 n x1 w ∧ e 0 = (Value.pointer p0) ∧ e 1 = (Value.int .u64 p1) ∧ e 6 = (Value.int .i64 x1)) n5 ⟨_, h, rfl, rfl, rfl⟩ ?_
  clear h
  rintro n5 e4 w3 ⟨x1, h, f10, f11, f12⟩
  replace h := hr7 n5 x1 w3 h
  refine WE.seq ?_
  refine WE.seq ?_
  refine WE.reg ?_
  refine LE.p (v := (Value.int .i64 x1)) (Wn.no rfl) rfl (R.move f12) ?_
  refine LE.p (v := (Value.bool (decide ((0 : Int) ≤ x1)))) (Wn.no rfl) rfl (R.geq rfl rfl) ?_
  refine LE.nil ?_
  refine WE.condT rfl (b := (decide ((0 : Int) ≤ x1))) rfl ?_ ?_
  · intro hb13
    replace h := M.ite_t h hb13
    refine WE.skip ?_
    refine WE.seq ?_
    refine WE.block ?_
    refine WE.draw mix ?_
    obtain ⟨w14, hww14, h⟩ := M.drew_use h
    rw [← hww14]
    clear hww14
    refine DE.t 0 (v := (Value.pointer p0)) rfl (by kernel_rfl) (Wn.no rfl) rfl (R.move f10) ?_
    refine DE.t 1 (v := (Value.pointer p0)) rfl (by kernel_rfl) (Wn.no rfl) rfl (R.move f10) ?_
    obtain ⟨a15, h16, h⟩ := h
    refine DE.t 2 (v := (Value.pointer (some a15))) rfl (by kernel_rfl) (Wn.no rfl) rfl (R.nilC (congrArg Value.pointer h16)) ?_
    refine DE.t 3 (v := (Value.pointer (some a15))) rfl (by kernel_rfl) (Wn.no rfl) rfl (R.fld (off := 0) fa76_0 rfl) ?_
    refine DE.t 5 (v := (Value.int .u64 p1)) rfl (by kernel_rfl) (Wn.no rfl) rfl (R.move f11) ?_
    refine DE.t 6 (v := (Value.int .i64 x1)) rfl (by kernel_rfl) (Wn.no rfl) rfl (R.move f12) ?_
    refine DE.t 7 (v := (Value.int .i64 (IntKind.i64.wrap ((8 : Int) * x1)))) rfl (by kernel_rfl) (Wn.no rfl) rfl (R.mul rfl rfl) ?_
    obtain ⟨h17, h⟩ := h
    refine DE.t 8 (v := (Value.int .u64 (bShr .u64 p1 (IntKind.i64.wrap ((8 : Int) * x1))))) rfl (by kernel_rfl) (Wn.no rfl) rfl (R.shr rfl rfl h17) ?_
    refine DE.t 9 (v := (Value.int .u8 (IntKind.u8.wrap (bShr .u64 p1 (IntKind.i64.wrap ((8 : Int) * x1)))))) rfl (by kernel_rfl) (Wn.no rfl) rfl (R.conv in5 in73 rfl) ?_
    obtain ⟨t18, h19, h⟩ := h
    refine DE.hold 4 (fun w => w.cell? a15 = some (SV.v t18)) (v := (SV.v t18)) rfl (by kernel_rfl) (Wn.no rfl) rfl h19 (fun w hs => R.ld sc23 rfl hs) ?_
    obtain ⟨b22, hpb22, w20, hww20, h⟩ := M.new_use h
    obtain ⟨k23, h⟩ := h
    refine DE.main 10 (by kernel_rfl) ?_
    refine One.r 10 (v := (SV.v (SV.mk (some b22) 1 1))) rfl (Wn.no rfl) rfl (R.bsl (by exact (Ls.cons (R.Pr rfl) Ls.nil)) (fun w => bs23_1 (IntKind.u8.wrap (bShr .u64 p1 (IntKind.i64.wrap ((8 : Int) * x1)))) w) hpb22 hww20) (.inr ⟨fun _ => k23, trivial⟩) ?_
    obtain ⟨s24, w25, h26, h⟩ := h
    refine DE.main 11 (by kernel_rfl) ?_
    refine One.r 11 (v := (SV.v s24)) rfl (Wn.no rfl) rfl (R.app (s := t18) (r := s24) rfl rfl h26) (.inr ⟨aftT (by kernel_rfl), trivial⟩) ?_
    obtain ⟨a27, h28, h⟩ := h
    refine DE.t 12 (v := (Value.pointer (some a27))) rfl (by kernel_rfl) (Wn.no rfl) rfl (R.nilC (congrArg Value.pointer h28)) ?_
    refine DE.t 13 (v := (Value.pointer (some a27))) rfl (by kernel_rfl) (Wn.no rfl) rfl (R.fld (off := 0) fa76_0 rfl) ?_
    obtain ⟨w29, hww29, h30, h31, h⟩ := M.st_use h
    refine DE.main 14 (by kernel_rfl) ?_
    refine One.s 14 rfl (Wn.no rfl) rfl (R.st (a := a27) (v := (SV.v s24)) sz23 rfl rfl rfl rfl h30 h31 hww29) ⟨aftT (by kernel_rfl), trivial⟩ ?_
    refine DE.done (by kernel_rfl) ?_
    refine WE.reg ?_
    refine LE.p (v := (Value.int .i64 x1)) (Wn.no rfl) rfl (R.move f12) ?_
    refine LE.p (v := (Value.int .i64 (IntKind.i64.wrap (x1 - (1 : Int))))) (Wn.no rfl) rfl (R.sub rfl rfl) ?_
    refine LE.p (v := (Value.int .i64 (IntKind.i64.wrap (x1 - (1 : Int))))) (Wn.no rfl) rfl (R.assign rfl) ?_
    refine LE.nil ?_
    obtain ⟨m8, hm9, h⟩ := h
    exact ⟨m8, hm9, _, h, f10, f11, rfl⟩
  · intro hb13
    replace h := M.ite_f h hb13
    refine WE.exit ?_
    exact ⟨_,  Res.nil, rfl, h⟩
/-- The formula of slices.Grow[[]byte,byte]. -/
def F42 (p0 : SV) (p1 : Int) (K : SV → World → Prop) (w0 : World) : Prop :=
M.join (fun (w4 : World) => 
M.join (fun (x8 : SV) (w22 : World) => 
K x8 w22) fun J7 => 
M.ite (decide ((0 : Int) < (IntKind.i64.wrap (p1 - (IntKind.i64.wrap ((p0.cap : Int) - (p0.len : Int))))))) (
M.bnd (0 : Int) (p0.cap : Int) p0 <|
M.app Try.prog 23 3 23 (SV.sub p0 (Int.toNat (0 : Int)) (Int.toNat (p0.cap : Int)) 1) (Value.int .i64 (IntKind.i64.wrap (p1 - (IntKind.i64.wrap ((p0.cap : Int) - (p0.len : Int)))))) w4 fun s14 w15 =>
M.bnd (0 : Int) (p0.len : Int) s14 <|
J7 (SV.sub s14 (Int.toNat (0 : Int)) (Int.toNat (p0.len : Int)) 1) w15) (
J7 p0 w4)) fun J1 => 
M.ite (decide (p1 < (0 : Int))) (
False) (
J1 w0)
theorem F42_ok {w0 : World} {p0 : SV} {p1 : Int} {K : SV → World → Prop} (h : F42 p0 p1 K w0) : Calls Try.prog 42 #[(SV.v p0), (Value.int .i64 p1)] w0 (R42 K) := by
  refine calls_of_WE (args := [(SV.v p0), (Value.int .i64 p1)]) (rs := [.tmp 4]) Try.func42 rfl (N := 27) rfl rfl rfl rfl ?_
  refine WE.seq ?_
  refine WE.reg ?_
  refine LE.p (v := (SV.v SV.nil)) (Wn.no rfl) rfl (R.assign rfl) ?_
  refine LE.nil ?_
  obtain ⟨J1, hJ1, h⟩ := M.join_use h
  refine WE.join (fun e w => J1 w ∧ e 0 = (SV.v p0) ∧ e 1 = (Value.int .i64 p1)) ?_ ?_
  · clear hJ1
    refine WE.seq ?_
    refine WE.reg ?_
    refine LE.p (v := (Value.int .i64 p1)) (Wn.no rfl) rfl (R.move rfl) ?_
    refine LE.p (v := (Value.bool (decide (p1 < (0 : Int))))) (Wn.no rfl) rfl (R.lss rfl rfl) ?_
    refine LE.nil ?_
    refine WE.condT rfl (b := (decide (p1 < (0 : Int)))) rfl ?_ ?_
    · intro hb2
      replace h := M.ite_t h hb2
      refine WE.reg ?_
      exact h.elim
    · intro hb2
      replace h := M.ite_f h hb2
      refine WE.skip ?_
      exact ⟨h, rfl, rfl⟩
  · rintro e3 w4 ⟨h, f5, f6⟩
    subst hJ1
    obtain ⟨J7, hJ7, h⟩ := M.join_use h
    refine WE.join (fun e w => ∃ (x8 : SV), J7 x8 w ∧ e 0 = (SV.v x8)) ?_ ?_
    · clear hJ7
      refine WE.seq ?_
      refine WE.reg ?_
      refine LE.p (v := (Value.int .i64 p1)) (Wn.no rfl) rfl (R.move f6) ?_
      refine LE.p (v := (SV.v p0)) (Wn.no rfl) rfl (R.move f5) ?_
      refine LE.p (v := (Value.int .i64 (p0.cap : Int))) (Wn.no rfl) rfl (R.cap sl23 rfl) ?_
      refine LE.p (v := (SV.v p0)) (Wn.no rfl) rfl (R.move f5) ?_
      refine LE.p (v := (Value.int .i64 (p0.len : Int))) (Wn.no rfl) rfl (R.len sl23 rfl) ?_
      refine LE.p (v := (Value.int .i64 (IntKind.i64.wrap ((p0.cap : Int) - (p0.len : Int))))) (Wn.no rfl) rfl (R.sub rfl rfl) ?_
      refine LE.p (v := (Value.int .i64 (IntKind.i64.wrap (p1 - (IntKind.i64.wrap ((p0.cap : Int) - (p0.len : Int))))))) (Wn.no rfl) rfl (R.sub rfl rfl) ?_
      refine LE.p (v := (Value.int .i64 (IntKind.i64.wrap (p1 - (IntKind.i64.wrap ((p0.cap : Int) - (p0.len : Int))))))) (Wn.no rfl) rfl (R.assign rfl) ?_
      refine LE.nil ?_
      refine WE.seq ?_
      refine WE.reg ?_
      refine LE.p (v := (Value.int .i64 (IntKind.i64.wrap (p1 - (IntKind.i64.wrap ((p0.cap : Int) - (p0.len : Int))))))) (Wn.no rfl) rfl (R.move rfl) ?_
      refine LE.p (v := (Value.bool (decide ((0 : Int) < (IntKind.i64.wrap (p1 - (IntKind.i64.wrap ((p0.cap : Int) - (p0.len : Int))))))))) (Wn.no rfl) rfl (R.gtr rfl rfl) ?_
      refine LE.nil ?_
      refine WE.condT rfl (b := (decide ((0 : Int) < (IntKind.i64.wrap (p1 - (IntKind.i64.wrap ((p0.cap : Int) - (p0.len : Int)))))))) rfl ?_ ?_
      · intro hb9
        replace h := M.ite_t h hb9
        refine WE.reg ?_
        refine LE.p (v := (SV.v p0)) (Wn.no rfl) rfl (R.move f5) ?_
        refine LE.p (v := (SV.v p0)) (Wn.no rfl) rfl (R.move f5) ?_
        refine LE.p (v := (Value.int .i64 (p0.cap : Int))) (Wn.no rfl) rfl (R.cap sl23 rfl) ?_
        obtain ⟨h10, h11, h12, h⟩ := h
        refine LE.p (v := (SV.v (SV.sub p0 (Int.toNat (0 : Int)) (Int.toNat (p0.cap : Int)) 1))) (Wn.no rfl) rfl (R.slc (s := p0) (lo := (0 : Int)) (hi := (p0.cap : Int)) _ _ sl23 rfl rfl rfl h10 h11 h12) ?_
        refine LE.p (v := (Value.int .i64 (IntKind.i64.wrap (p1 - (IntKind.i64.wrap ((p0.cap : Int) - (p0.len : Int))))))) (Wn.no rfl) rfl (R.move rfl) ?_
        obtain ⟨s14, w15, h16, h⟩ := h
        refine LE.r (v := (SV.v s14)) (Wn.no rfl) rfl (R.app (s := (SV.sub p0 (Int.toNat (0 : Int)) (Int.toNat (p0.cap : Int)) 1)) (r := s14) rfl rfl h16) ?_
        refine LE.p (v := (SV.v p0)) (Wn.no rfl) rfl (R.move f5) ?_
        refine LE.p (v := (Value.int .i64 (p0.len : Int))) (Wn.no rfl) rfl (R.len sl23 rfl) ?_
        obtain ⟨h17, h18, h19, h⟩ := h
        refine LE.p (v := (SV.v (SV.sub s14 (Int.toNat (0 : Int)) (Int.toNat (p0.len : Int)) 1))) (Wn.no rfl) rfl (R.slc (s := s14) (lo := (0 : Int)) (hi := (p0.len : Int)) _ _ sl23 rfl rfl rfl h17 h18 h19) ?_
        refine LE.p (v := (SV.v (SV.sub s14 (Int.toNat (0 : Int)) (Int.toNat (p0.len : Int)) 1))) (Wn.no rfl) rfl (R.assign rfl) ?_
        refine LE.nil ?_
        exact ⟨_, h, rfl⟩
      · intro hb9
        replace h := M.ite_f h hb9
        refine WE.skip ?_
        exact ⟨_, h, f5⟩
    · rintro e21 w22 ⟨x8, h, f23⟩
      subst hJ7
      refine WE.seq ?_
      refine WE.reg ?_
      refine LE.p (v := (SV.v x8)) (Wn.no rfl) rfl (R.move f23) ?_
      refine LE.p (v := (SV.v x8)) (Wn.no rfl) rfl (R.assign rfl) ?_
      refine LE.nil ?_
      refine WE.ret ?_
      exact ⟨_, (Res.tmp rfl Res.nil), _, rfl, h⟩
end Go.Proofs.Ytdlefnpnnpohmaa
