/-
  Printed by gen.py: the formula of each function, and that it holds of the function.
-/
import Derived.Test.YtecegjimdohmeaaTy
namespace Go.Proofs.Ytecegjimdohmeaa
set_option linter.unusedVariables false
set_option linter.unusedSimpArgs false
open Go.Sp
set_option linter.unusedVariables false
/-- The formula of (*signpost.signpostref15.Table).Put. -/
def F29 (p0 : Option Addr) (p1_0 : Int) (p1_1 : Int) (p1_2 : Bool) (p1_3 : Int) (p1_4 : Int) (p1_5 : Nat) (K : Bool → Int → World → Prop) (w0 : World) : Prop :=
M.new (.cells #[(Value.int .u32 p1_0), (Value.int .i64 p1_1), (Value.bool p1_2), (Value.int .i64 p1_3), (Value.int .u32 p1_4), (Value.float .f64 p1_5)] 32) w0 fun b2 w1 =>
∃ (t3 : Int) (t4 : Int) (t5 : Bool) (t6 : Int) (t7 : Int) (t8 : Nat), Cs w1 b2 0 [(Value.int .u32 t3), (Value.int .i64 t4), (Value.bool t5), (Value.int .i64 t6), (Value.int .u32 t7), (Value.float .f64 t8)] ∧
Calls Try.prog 45 #[(Value.agg #[(Value.int .u32 t3), (Value.int .i64 t4), (Value.bool t5), (Value.int .i64 t6), (Value.int .u32 t7), (Value.float .f64 t8)])] w1 (R45 fun r10 w11 =>
M.ite (!r10) (
K false (12 : Int) w11) (
M.ld (Value.float .f64) (b2.add 5) w11 fun t13 =>
Calls Try.prog 46 #[(Value.float .f64 t13)] w11 (R46 fun r15 w16 =>
M.st (b2.add 5) (Value.float .f64 r15) w16 fun w17 =>
M.ld (Value.int .u32) b2 w17 fun t20 =>
M.ld (Value.int .i64) (b2.add 1) w17 fun t22 =>
Calls Try.prog 47 #[(Value.pointer p0), (Value.agg #[(Value.int .u32 t20), (Value.int .i64 t22)])] w17 (R47 fun r24 r25 r26 r27 r28 r29 r30 w31 =>
M.new (.cells #[(Value.int .u32 (0 : Int)), (Value.int .i64 (0 : Int)), (Value.bool false), (Value.int .i64 (0 : Int)), (Value.int .u32 (0 : Int)), (Value.float .f64 (0 : Nat))] 32) w31 fun b33 w32 =>
M.stA b33 [(Value.int .u32 r24), (Value.int .i64 r25), (Value.bool r26), (Value.int .i64 r27), (Value.int .u32 r28), (Value.float .f64 r29)] w32 fun w34 =>
M.join (fun (x37 : Bool) (w44 : World) => 
M.ite x37 (
K false (13 : Int) w44) (
M.ld (Value.int .u32) b2 w44 fun t51 =>
M.ld (Value.int .i64) (b2.add 1) w44 fun t53 =>
Calls Try.prog 48 #[(Value.pointer p0), (Value.agg #[(Value.int .u32 t51), (Value.int .i64 t53)])] w44 (R48 fun r55 w56 =>
M.loop1 (fun (J58 : Int → World → Prop) (x57 : Int) (w59 : World) => 
M.join (fun (x72 : Bool) (w98 : World) => 
M.ite x72 (
J58 (IntKind.i64.wrap (x57 + (1 : Int))) w98) (
M.join (fun (w210 : World) => 
M.join (fun (x215 : Bool) (x216 : Int) (w235 : World) => 
K x215 x216 w235) fun J214 => 
M.ite (!r30) (
J214 true (0 : Int) w210) (
∃ (t218 : Int) (t219 : Int) (t220 : Bool) (t221 : Int) (t222 : Int) (t223 : Nat), Cs w210 b33 0 [(Value.int .u32 t218), (Value.int .i64 t219), (Value.bool t220), (Value.int .i64 t221), (Value.int .u32 t222), (Value.float .f64 t223)] ∧
∃ (t225 : Int) (t226 : Int) (t227 : Bool) (t228 : Int) (t229 : Int) (t230 : Nat), Cs w210 b2 0 [(Value.int .u32 t225), (Value.int .i64 t226), (Value.bool t227), (Value.int .i64 t228), (Value.int .u32 t229), (Value.float .f64 t230)] ∧
Calls Try.prog 50 #[(Value.agg #[(Value.int .u32 t218), (Value.int .i64 t219), (Value.bool t220), (Value.int .i64 t221), (Value.int .u32 t222), (Value.float .f64 t223)]), (Value.agg #[(Value.int .u32 t225), (Value.int .i64 t226), (Value.bool t227), (Value.int .i64 t228), (Value.int .u32 t229), (Value.float .f64 t230)])] w210 (R50 fun r232 w233 =>
J214 (!r232) (0 : Int) w233))) fun J106 => 
M.drew w98 fun w107 => 
M.nil p0 fun a108 =>
M.nil p0 fun a110 =>
M.ld SV.v a108 w107 fun t112 =>
M.bnd (0 : Int) x57 t112 <|
∃ (t118 : Int) (t119 : Int) (t120 : Bool) (t121 : Int) (t122 : Int) (t123 : Nat), Cs w107 b2 0 [(Value.int .u32 t118), (Value.int .i64 t119), (Value.bool t120), (Value.int .i64 t121), (Value.int .u32 t122), (Value.float .f64 t123)] ∧
M.ld SV.v a110 w107 fun t125 =>
M.bnd x57 (t125.len : Int) t125 <|
M.both (
M.new (.cells #[] 32) w107 fun b133 w131 =>
M.keep (w131.cell? a110 = some (SV.v t125)) <|
M.keep (Cs w131 b2 0 [(Value.int .u32 t118), (Value.int .i64 t119), (Value.bool t120), (Value.int .i64 t121), (Value.int .u32 t122), (Value.float .f64 t123)]) <|
M.keep (w131.cell? a108 = some (SV.v t112)) <|
M.both (
M.app Try.prog 44 44 44 (SV.mk (some b133) 0 0) (SV.v (SV.sub t112 (Int.toNat (0 : Int)) (Int.toNat x57) 6)) w131 fun s137 w138 =>
M.keep (w138.cell? a110 = some (SV.v t125)) <|
M.keep (Cs w138 b2 0 [(Value.int .u32 t118), (Value.int .i64 t119), (Value.bool t120), (Value.int .i64 t121), (Value.int .u32 t122), (Value.float .f64 t123)]) <|
M.new (.cells #[(Value.int .u32 t118), (Value.int .i64 t119), (Value.bool t120), (Value.int .i64 t121), (Value.int .u32 t122), (Value.float .f64 t123)] 32) w138 fun b144 w142 =>
M.keep (w142.cell? a110 = some (SV.v t125)) <|
M.keep (w142.cell? a108 = some (SV.v t112)) <|
M.app Try.prog 44 44 44 s137 (SV.v (SV.mk (some b144) 1 1)) w142 fun s147 w148 =>
M.keep (w148.cell? a110 = some (SV.v t125)) <|
M.app Try.prog 44 44 44 s147 (SV.v (SV.sub t125 (Int.toNat x57) (Int.toNat (t125.len : Int)) 6)) w148 fun s151 w152 =>
M.nil p0 fun a154 =>
M.st a154 (SV.v s151) w152 fun w156 =>
J106 w156) (
M.new (.cells #[(Value.int .u32 t118), (Value.int .i64 t119), (Value.bool t120), (Value.int .i64 t121), (Value.int .u32 t122), (Value.float .f64 t123)] 32) w131 fun b161 w159 =>
M.keep (w159.cell? a110 = some (SV.v t125)) <|
M.keep (w159.cell? a108 = some (SV.v t112)) <|
M.app Try.prog 44 44 44 (SV.mk (some b133) 0 0) (SV.v (SV.sub t112 (Int.toNat (0 : Int)) (Int.toNat x57) 6)) w159 fun s164 w165 =>
M.keep (w165.cell? a110 = some (SV.v t125)) <|
M.keep (Cs w165 b2 0 [(Value.int .u32 t118), (Value.int .i64 t119), (Value.bool t120), (Value.int .i64 t121), (Value.int .u32 t122), (Value.float .f64 t123)]) <|
M.app Try.prog 44 44 44 s164 (SV.v (SV.mk (some b161) 1 1)) w165 fun s169 w170 =>
M.keep (w170.cell? a110 = some (SV.v t125)) <|
M.app Try.prog 44 44 44 s169 (SV.v (SV.sub t125 (Int.toNat x57) (Int.toNat (t125.len : Int)) 6)) w170 fun s173 w174 =>
M.nil p0 fun a176 =>
M.st a176 (SV.v s173) w174 fun w178 =>
J106 w178)) (
M.new (.cells #[(Value.int .u32 t118), (Value.int .i64 t119), (Value.bool t120), (Value.int .i64 t121), (Value.int .u32 t122), (Value.float .f64 t123)] 32) w107 fun b183 w181 =>
M.keep (w181.cell? a110 = some (SV.v t125)) <|
M.keep (w181.cell? a108 = some (SV.v t112)) <|
M.new (.cells #[] 32) w181 fun b188 w186 =>
M.keep (w186.cell? a110 = some (SV.v t125)) <|
M.keep (Cs w186 b2 0 [(Value.int .u32 t118), (Value.int .i64 t119), (Value.bool t120), (Value.int .i64 t121), (Value.int .u32 t122), (Value.float .f64 t123)]) <|
M.keep (w186.cell? a108 = some (SV.v t112)) <|
M.app Try.prog 44 44 44 (SV.mk (some b188) 0 0) (SV.v (SV.sub t112 (Int.toNat (0 : Int)) (Int.toNat x57) 6)) w186 fun s192 w193 =>
M.keep (w193.cell? a110 = some (SV.v t125)) <|
M.keep (Cs w193 b2 0 [(Value.int .u32 t118), (Value.int .i64 t119), (Value.bool t120), (Value.int .i64 t121), (Value.int .u32 t122), (Value.float .f64 t123)]) <|
M.app Try.prog 44 44 44 s192 (SV.v (SV.mk (some b183) 1 1)) w193 fun s197 w198 =>
M.keep (w198.cell? a110 = some (SV.v t125)) <|
M.app Try.prog 44 44 44 s197 (SV.v (SV.sub t125 (Int.toNat x57) (Int.toNat (t125.len : Int)) 6)) w198 fun s201 w202 =>
M.nil p0 fun a204 =>
M.st a204 (SV.v s201) w202 fun w206 =>
J106 w206))) fun J71 => 
M.drew w59 fun w73 => 
M.nil p0 fun a74 =>
M.ld SV.v a74 w73 fun t76 =>
M.ite (decide (x57 < (t76.len : Int))) (
M.nil p0 fun a79 =>
M.ld SV.v a79 w73 fun t81 =>
M.idx t81 x57 6 fun a83 =>
M.ld (Value.int .u32) (a83.add (x57.toNat * 6)) w73 fun t87 =>
M.ld (Value.int .i64) ((a83.add (x57.toNat * 6)).add 1) w73 fun t89 =>
M.ld (Value.int .u32) b2 w73 fun t91 =>
M.ld (Value.int .i64) (b2.add 1) w73 fun t93 =>
Calls Try.prog 49 #[(Value.agg #[(Value.int .u32 t87), (Value.int .i64 t89)]), (Value.agg #[(Value.int .u32 t91), (Value.int .i64 t93)])] w73 (R49 fun r95 w96 =>
J71 r95 w96)) (
J71 false w73)) (0 : Int) w56))) fun J36 => 
M.ite (!r30) (
M.nil p0 fun a39 =>
M.ld SV.v a39 w34 fun t41 =>
J36 (decide ((64 : Int) ≤ (t41.len : Int))) w34) (
J36 false w34)))))
theorem F29_ok {w0 : World} {p0 : Option Addr} {p1_0 : Int} {p1_1 : Int} {p1_2 : Bool} {p1_3 : Int} {p1_4 : Int} {p1_5 : Nat} {K : Bool → Int → World → Prop} (h : F29 p0 p1_0 p1_1 p1_2 p1_3 p1_4 p1_5 K w0) : Calls Try.prog 29 #[(Value.pointer p0), (Value.agg #[(Value.int .u32 p1_0), (Value.int .i64 p1_1), (Value.bool p1_2), (Value.int .i64 p1_3), (Value.int .u32 p1_4), (Value.float .f64 p1_5)])] w0 (R29 K) := by
  refine calls_of_WE (args := [(Value.pointer p0), (Value.agg #[(Value.int .u32 p1_0), (Value.int .i64 p1_1), (Value.bool p1_2), (Value.int .i64 p1_3), (Value.int .u32 p1_4), (Value.float .f64 p1_5)])]) (rs := [.tmp 4, .tmp 5]) Try.func29 rfl (N := 88) rfl rfl rfl rfl ?_
  refine WE.seq ?_
  refine WE.reg ?_
  obtain ⟨b2, hpb2, w1, hww1, h⟩ := M.new_use h
  refine LE.r (v := (Value.pointer (some b2))) (Wn.no rfl) rfl (R.box (cs := #[(Value.int .u32 p1_0), (Value.int .i64 p1_1), (Value.bool p1_2), (Value.int .i64 p1_3), (Value.int .u32 p1_4), (Value.float .f64 p1_5)]) rfl rfl hpb2 hww1) ?_
  refine LE.p (v := (Value.bool false)) (Wn.no rfl) rfl (R.assign rfl) ?_
  refine LE.p (v := (Value.int .i64 (0 : Int))) (Wn.no rfl) rfl (R.assign rfl) ?_
  refine LE.nil ?_
  refine WE.seq ?_
  refine WE.seq ?_
  refine WE.reg ?_
  obtain ⟨t3, t4, t5, t6, t7, t8, h9, h⟩ := h
  refine LE.r (v := (Value.agg #[(Value.int .u32 t3), (Value.int .i64 t4), (Value.bool t5), (Value.int .i64 t6), (Value.int .u32 t7), (Value.float .f64 t8)])) (Wn.no rfl) rfl (R.ldA ag32 sz32 rfl rfl h9) ?_
  refine LE.c (Wn.no rfl) rfl (R.call bd45 (Ls.cons rfl Ls.nil) rfl) (Calls.mono h ?_)
  rintro _ w11 ⟨r10, rfl, h⟩
  refine ⟨_, rfl, ?_⟩
  refine LE.p (v := (Value.bool (!r10))) (Wn.no rfl) rfl (R.not rfl) ?_
  refine LE.nil ?_
  refine WE.condT rfl (b := (!r10)) rfl ?_ ?_
  · intro hb12
    replace h := M.ite_t h hb12
    refine WE.seq ?_
    refine WE.reg ?_
    refine LE.p (v := (Value.bool false)) (Wn.no rfl) rfl (R.assign rfl) ?_
    refine LE.p (v := (Value.int .i64 (12 : Int))) (Wn.no rfl) rfl (R.assign rfl) ?_
    refine LE.nil ?_
    refine WE.ret ?_
    exact ⟨_, (Res.tmp rfl (Res.tmp rfl Res.nil)), _, _, rfl, h⟩
  · intro hb12
    replace h := M.ite_f h hb12
    refine WE.skip ?_
    refine WE.seq ?_
    refine WE.reg ?_
    refine LE.p (v := (Value.pointer (some (b2.add 5)))) (Wn.no rfl) rfl (R.fld (off := 5) fa32_4 rfl) ?_
    obtain ⟨t13, h14, h⟩ := h
    refine LE.r (v := (Value.float .f64 t13)) (Wn.no rfl) rfl (R.ld sc22 rfl h14) ?_
    refine LE.c (Wn.no rfl) rfl (R.call bd46 (Ls.cons rfl Ls.nil) rfl) (Calls.mono h ?_)
    rintro _ w16 ⟨r15, rfl, h⟩
    refine ⟨_, rfl, ?_⟩
    refine LE.p (v := (Value.pointer (some (b2.add 5)))) (Wn.no rfl) rfl (R.fld (off := 5) fa32_4 rfl) ?_
    obtain ⟨w17, hww17, h18, h19, h⟩ := M.st_use h
    refine LE.s (Wn.no rfl) rfl (R.st (a := (b2.add 5)) (v := (Value.float .f64 r15)) sz22 rfl rfl rfl rfl h18 h19 hww17) ?_
    refine LE.nil ?_
    refine WE.seq ?_
    refine WE.reg ?_
    refine LE.p (v := (Value.pointer p0)) (Wn.no rfl) rfl (R.move rfl) ?_
    refine LE.p (v := (Value.pointer (some b2))) (Wn.no rfl) rfl (R.fld (off := 0) fa32_0 rfl) ?_
    obtain ⟨t20, h21, h⟩ := h
    obtain ⟨t22, h23, h⟩ := h
    refine LE.r (v := (Value.agg #[(Value.int .u32 t20), (Value.int .i64 t22)])) (Wn.no rfl) rfl (R.ldA ag28 sz28 rfl rfl (Cs.cons h21 (Cs.cons h23 Cs.nil))) ?_
    refine LE.c (Wn.no rfl) rfl (R.call bd47 (Ls.cons rfl (Ls.cons rfl Ls.nil)) rfl) (Calls.mono h ?_)
    rintro _ w31 ⟨r24, r25, r26, r27, r28, r29, r30, rfl, h⟩
    refine ⟨_, rfl, ?_⟩
    refine LE.p (v := (Value.tuple #[(Value.agg #[(Value.int .u32 r24), (Value.int .i64 r25), (Value.bool r26), (Value.int .i64 r27), (Value.int .u32 r28), (Value.float .f64 r29)]), (Value.bool r30)])) (Wn.no rfl) rfl (R.move rfl) ?_
    refine LE.p (v := (Value.agg #[(Value.int .u32 r24), (Value.int .i64 r25), (Value.bool r26), (Value.int .i64 r27), (Value.int .u32 r28), (Value.float .f64 r29)])) (Wn.no rfl) rfl (R.ext rfl rfl) ?_
    refine LE.p (v := (Value.bool r30)) (Wn.no rfl) rfl (R.ext rfl rfl) ?_
    obtain ⟨b33, hpb33, w32, hww32, h⟩ := M.new_use h
    refine LE.r (v := (Value.pointer (some b33))) (Wn.no rfl) rfl (R.alloc (cs := #[(Value.int .u32 (0 : Int)), (Value.int .i64 (0 : Int)), (Value.bool false), (Value.int .i64 (0 : Int)), (Value.int .u32 (0 : Int)), (Value.float .f64 (0 : Nat))]) ze32 rfl hpb33 hww32) ?_
    obtain ⟨w34, hww34, h35, h⟩ := M.stA_use h
    refine LE.s (Wn.no rfl) rfl (R.stA (a := b33) [(Value.int .u32 r24), (Value.int .i64 r25), (Value.bool r26), (Value.int .i64 r27), (Value.int .u32 r28), (Value.float .f64 r29)] sz32 rfl rfl rfl (by simp [Value.oneCell']) h35 hww34) ?_
    refine LE.p (v := (Value.bool r30)) (Wn.no rfl) rfl (R.assign rfl) ?_
    refine LE.nil ?_
    refine WE.seq ?_
    refine WE.seq ?_
    obtain ⟨J36, hJ36, h⟩ := M.join_use h
    refine WE.regJ (fun e w => ∃ (x37 : Bool), J36 x37 w ∧ e 0 = (Value.pointer p0) ∧ e 3 = (Value.pointer (some b2)) ∧ e 6 = (Value.pointer (some b33)) ∧ e 7 = (Value.bool r30) ∧ e 32 = (Value.bool x37)) ?_ ?_
    · clear hJ36
      refine LE.p (v := (Value.bool r30)) (Wn.no rfl) rfl (R.move rfl) ?_
      refine LE.p (v := (Value.bool (!r30))) (Wn.no rfl) rfl (R.not rfl) ?_
      refine LE.p (v := (Value.bool (!r30))) (Wn.no rfl) rfl (R.move rfl) ?_
      rcases M.ite_use h with ⟨hb38, h⟩ | ⟨hb38, h⟩
      · refine LE.p (v := (Value.pointer p0)) (Wn.yes 2 25 true rfl rfl rfl (congrArg Value.bool hb38)) rfl (R.move rfl) ?_
        obtain ⟨a39, h40, h⟩ := h
        refine LE.p (v := (Value.pointer (some a39))) (Wn.yes 2 25 true rfl rfl rfl (congrArg Value.bool hb38)) rfl (R.nilC (congrArg Value.pointer h40)) ?_
        refine LE.p (v := (Value.pointer (some a39))) (Wn.yes 2 25 true rfl rfl rfl (congrArg Value.bool hb38)) rfl (R.fld (off := 0) fa74_0 rfl) ?_
        obtain ⟨t41, h42, h⟩ := h
        refine LE.r (v := (SV.v t41)) (Wn.yes 2 25 true rfl rfl rfl (congrArg Value.bool hb38)) rfl (R.ld sc44 rfl h42) ?_
        refine LE.p (v := (Value.int .i64 (t41.len : Int))) (Wn.yes 2 25 true rfl rfl rfl (congrArg Value.bool hb38)) rfl (R.len sl44 rfl) ?_
        refine LE.p (v := (Value.bool (decide ((64 : Int) ≤ (t41.len : Int))))) (Wn.yes 2 25 true rfl rfl rfl (congrArg Value.bool hb38)) rfl (R.geq rfl rfl) ?_
        refine LE.p (v := (Value.bool (decide ((64 : Int) ≤ (t41.len : Int))))) (Wn.no rfl) rfl (R.pickT (congrArg Value.bool hb38) rfl) ?_
        refine LE.nil ?_
        exact ⟨_, h, rfl, rfl, rfl, rfl, rfl⟩
      · refine LE.u (Un.no 2 25 true rfl rfl rfl (congrArg Value.bool hb38)) ?_
        refine LE.u (Un.no 2 25 true rfl rfl rfl (congrArg Value.bool hb38)) ?_
        refine LE.u (Un.no 2 25 true rfl rfl rfl (congrArg Value.bool hb38)) ?_
        refine LE.u (Un.no 2 25 true rfl rfl rfl (congrArg Value.bool hb38)) ?_
        refine LE.u (Un.no 2 25 true rfl rfl rfl (congrArg Value.bool hb38)) ?_
        refine LE.u (Un.no 2 25 true rfl rfl rfl (congrArg Value.bool hb38)) ?_
        refine LE.p (v := (Value.bool false)) (Wn.no rfl) rfl (R.pickF (congrArg Value.bool hb38) rfl) ?_
        refine LE.nil ?_
        exact ⟨_, h, rfl, rfl, rfl, rfl, rfl⟩
    · rintro e43 w44 ⟨x37, h, f45, f46, f47, f48, f49⟩
      subst hJ36
      refine WE.condT rfl (b := x37) f49 ?_ ?_
      · intro hb50
        replace h := M.ite_t h hb50
        refine WE.seq ?_
        refine WE.reg ?_
        refine LE.p (v := (Value.bool false)) (Wn.no rfl) rfl (R.assign rfl) ?_
        refine LE.p (v := (Value.int .i64 (13 : Int))) (Wn.no rfl) rfl (R.assign rfl) ?_
        refine LE.nil ?_
        refine WE.ret ?_
        exact ⟨_, (Res.tmp rfl (Res.tmp rfl Res.nil)), _, _, rfl, h⟩
      · intro hb50
        replace h := M.ite_f h hb50
        refine WE.skip ?_
        refine WE.seq ?_
        refine WE.reg ?_
        refine LE.p (v := (Value.pointer p0)) (Wn.no rfl) rfl (R.move f45) ?_
        refine LE.p (v := (Value.pointer (some b2))) (Wn.no rfl) rfl (R.fld (off := 0) fa32_0 f46) ?_
        obtain ⟨t51, h52, h⟩ := h
        obtain ⟨t53, h54, h⟩ := h
        refine LE.r (v := (Value.agg #[(Value.int .u32 t51), (Value.int .i64 t53)])) (Wn.no rfl) rfl (R.ldA ag28 sz28 rfl rfl (Cs.cons h52 (Cs.cons h54 Cs.nil))) ?_
        refine LE.c (Wn.no rfl) rfl (R.call bd48 (Ls.cons rfl (Ls.cons rfl Ls.nil)) rfl) (Calls.mono h ?_)
        rintro _ w56 ⟨r55, rfl, h⟩
        refine ⟨_, rfl, ?_⟩
        refine LE.nil ?_
        refine WE.seq ?_
        refine WE.reg ?_
        refine LE.p (v := (Value.int .i64 (0 : Int))) (Wn.no rfl) rfl (R.assign rfl) ?_
        refine LE.nil ?_
        refine WE.seq ?_
        refine WE.block ?_
        obtain ⟨I62, ⟨n61, h⟩, hr63⟩ := h
        refine WE.loop (fun n e w => ∃ (x57 : Int), I62 n x57 w ∧ e 0 = (Value.pointer p0) ∧ e 3 = (Value.pointer (some b2)) ∧ e 6 = (Value.pointer (some b33)) ∧ e 7 = (Value.bool r30) ∧ e 8 = (Value.int .i64 x57)) n61 ⟨_, h, f45, f46, f47, f48, rfl⟩ ?_
        clear h
        rintro n61 e60 w59 ⟨x57, h, f66, f67, f68, f69, f70⟩
        replace h := hr63 n61 x57 w59 h
        refine WE.seq ?_
        refine WE.seq ?_
        obtain ⟨J71, hJ71, h⟩ := M.join_use h
        refine WE.drawJ (fun e w => ∃ (x72 : Bool), J71 x72 w ∧ e 0 = (Value.pointer p0) ∧ e 3 = (Value.pointer (some b2)) ∧ e 6 = (Value.pointer (some b33)) ∧ e 7 = (Value.bool r30) ∧ e 8 = (Value.int .i64 x57) ∧ e 56 = (Value.bool x72)) mix ?_ ?_
        · clear hJ71
          obtain ⟨w73, hww73, h⟩ := M.drew_use h
          rw [← hww73]
          clear hww73
          refine DE.t 0 (v := (Value.int .i64 x57)) rfl (by kernel_rfl) (Wn.no rfl) rfl (R.move f70) ?_
          refine DE.t 1 (v := (Value.pointer p0)) rfl (by kernel_rfl) (Wn.no rfl) rfl (R.move f66) ?_
          obtain ⟨a74, h75, h⟩ := h
          refine DE.t 2 (v := (Value.pointer (some a74))) rfl (by kernel_rfl) (Wn.no rfl) rfl (R.nilC (congrArg Value.pointer h75)) ?_
          refine DE.t 3 (v := (Value.pointer (some a74))) rfl (by kernel_rfl) (Wn.no rfl) rfl (R.fld (off := 0) fa74_0 rfl) ?_
          obtain ⟨t76, h77, h⟩ := h
          refine DE.main 4 (by kernel_rfl) ?_
          refine One.r 4 (v := (SV.v t76)) rfl (Wn.no rfl) rfl (R.ld sc44 rfl h77) (.inl rfl) ?_
          refine DE.t 5 (v := (Value.int .i64 (t76.len : Int))) rfl (by kernel_rfl) (Wn.no rfl) rfl (R.len sl44 rfl) ?_
          refine DE.t 6 (v := (Value.bool (decide (x57 < (t76.len : Int))))) rfl (by kernel_rfl) (Wn.no rfl) rfl (R.lss rfl rfl) ?_
          refine DE.t 7 (v := (Value.bool (decide (x57 < (t76.len : Int))))) rfl (by kernel_rfl) (Wn.no rfl) rfl (R.move rfl) ?_
          rcases M.ite_use h with ⟨hb78, h⟩ | ⟨hb78, h⟩
          · refine DE.t 8 (v := (Value.pointer p0)) rfl (by kernel_rfl) (Wn.yes 7 44 true rfl rfl rfl (congrArg Value.bool hb78)) rfl (R.move f66) ?_
            obtain ⟨a79, h80, h⟩ := h
            refine DE.t 9 (v := (Value.pointer (some a79))) rfl (by kernel_rfl) (Wn.yes 7 44 true rfl rfl rfl (congrArg Value.bool hb78)) rfl (R.nilC (congrArg Value.pointer h80)) ?_
            refine DE.t 10 (v := (Value.pointer (some a79))) rfl (by kernel_rfl) (Wn.yes 7 44 true rfl rfl rfl (congrArg Value.bool hb78)) rfl (R.fld (off := 0) fa74_0 rfl) ?_
            refine DE.t 12 (v := (Value.int .i64 x57)) rfl (by kernel_rfl) (Wn.yes 7 44 true rfl rfl rfl (congrArg Value.bool hb78)) rfl (R.move f70) ?_
            refine DE.t 16 (v := (Value.pointer (some b2))) rfl (by kernel_rfl) (Wn.yes 7 44 true rfl rfl rfl (congrArg Value.bool hb78)) rfl (R.fld (off := 0) fa32_0 f67) ?_
            obtain ⟨t81, h82, h⟩ := h
            refine DE.hold 11 (fun w => w.cell? a79 = some (SV.v t81)) (v := (SV.v t81)) rfl (by kernel_rfl) (Wn.yes 7 44 true rfl rfl rfl (congrArg Value.bool hb78)) rfl h82 (fun w hs => R.ld sc44 rfl hs) ?_
            obtain ⟨a83, h84, h85, h86, h⟩ := h
            refine DE.t 13 (v := (Value.pointer (some (a83.add (x57.toNat * 6))))) rfl (by kernel_rfl) (Wn.yes 7 44 true rfl rfl rfl (congrArg Value.bool hb78)) rfl (R.idx (s := t81) sl44 rfl rfl h84 h85 h86) ?_
            refine DE.t 14 (v := (Value.pointer (some (a83.add (x57.toNat * 6))))) rfl (by kernel_rfl) (Wn.yes 7 44 true rfl rfl rfl (congrArg Value.bool hb78)) rfl (R.fld (off := 0) fa32_0 rfl) ?_
            obtain ⟨t87, h88, h⟩ := h
            obtain ⟨t89, h90, h⟩ := h
            refine DE.hold 15 (fun w => w.cell? (a83.add (x57.toNat * 6)) = some (Value.int .u32 t87) ∧ w.cell? ((a83.add (x57.toNat * 6)).add 1) = some (Value.int .i64 t89)) (v := (Value.agg #[(Value.int .u32 t87), (Value.int .i64 t89)])) rfl (by kernel_rfl) (Wn.yes 7 44 true rfl rfl rfl (congrArg Value.bool hb78)) rfl ⟨h88, h90⟩ (fun w hs => R.ldA ag28 sz28 rfl rfl (Cs.cons hs.1 (Cs.cons hs.2 Cs.nil))) ?_
            obtain ⟨t91, h92, h⟩ := h
            obtain ⟨t93, h94, h⟩ := h
            refine DE.main 17 (by kernel_rfl) ?_
            refine One.r 17 (v := (Value.agg #[(Value.int .u32 t91), (Value.int .i64 t93)])) rfl (Wn.yes 7 44 true rfl rfl rfl (congrArg Value.bool hb78)) rfl (R.ldA ag28 sz28 rfl rfl (Cs.cons h92 (Cs.cons h94 Cs.nil))) (.inl rfl) ?_
            refine DE.main 18 (by kernel_rfl) ?_
            refine One.c 18 rfl (Wn.yes 7 44 true rfl rfl rfl (congrArg Value.bool hb78)) rfl (R.call bd49 (Ls.cons rfl (Ls.cons rfl Ls.nil)) rfl) (Calls.mono h ?_)
            rintro _ w96 ⟨r95, rfl, h⟩
            refine ⟨_, rfl, ⟨aftT (by kernel_rfl), aftT (by kernel_rfl), trivial⟩, ?_⟩
            refine DE.t 19 (v := (Value.bool r95)) rfl (by kernel_rfl) (Wn.no rfl) rfl (R.pickT (congrArg Value.bool hb78) rfl) ?_
            refine DE.done (by kernel_rfl) ?_
            exact ⟨_, h, f66, f67, f68, f69, f70, rfl⟩
          · refine DE.u 8 rfl (by kernel_rfl) (Un.no 7 44 true rfl rfl rfl (congrArg Value.bool hb78)) ?_
            refine DE.u 9 rfl (by kernel_rfl) (Un.no 7 44 true rfl rfl rfl (congrArg Value.bool hb78)) ?_
            refine DE.u 10 rfl (by kernel_rfl) (Un.no 7 44 true rfl rfl rfl (congrArg Value.bool hb78)) ?_
            refine DE.u 11 rfl (by kernel_rfl) (Un.no 7 44 true rfl rfl rfl (congrArg Value.bool hb78)) ?_
            refine DE.u 12 rfl (by kernel_rfl) (Un.no 7 44 true rfl rfl rfl (congrArg Value.bool hb78)) ?_
            refine DE.u 13 rfl (by kernel_rfl) (Un.no 7 44 true rfl rfl rfl (congrArg Value.bool hb78)) ?_
            refine DE.u 14 rfl (by kernel_rfl) (Un.no 7 44 true rfl rfl rfl (congrArg Value.bool hb78)) ?_
            refine DE.u 15 rfl (by kernel_rfl) (Un.no 7 44 true rfl rfl rfl (congrArg Value.bool hb78)) ?_
            refine DE.u 16 rfl (by kernel_rfl) (Un.no 7 44 true rfl rfl rfl (congrArg Value.bool hb78)) ?_
            refine DE.u 17 rfl (by kernel_rfl) (Un.no 7 44 true rfl rfl rfl (congrArg Value.bool hb78)) ?_
            refine DE.u 18 rfl (by kernel_rfl) (Un.no 7 44 true rfl rfl rfl (congrArg Value.bool hb78)) ?_
            refine DE.t 19 (v := (Value.bool false)) rfl (by kernel_rfl) (Wn.no rfl) rfl (R.pickF (congrArg Value.bool hb78) rfl) ?_
            refine DE.done (by kernel_rfl) ?_
            exact ⟨_, h, f66, f67, f68, f69, f70, rfl⟩
        · rintro e97 w98 ⟨x72, h, f99, f100, f101, f102, f103, f104⟩
          subst hJ71
          refine WE.condT rfl (b := x72) f104 ?_ ?_
          · intro hb105
            replace h := M.ite_t h hb105
            refine WE.skip ?_
            refine WE.block ?_
            refine WE.reg ?_
            refine LE.p (v := (Value.int .i64 x57)) (Wn.no rfl) rfl (R.move f103) ?_
            refine LE.p (v := (Value.int .i64 (IntKind.i64.wrap (x57 + (1 : Int))))) (Wn.no rfl) rfl (R.add rfl rfl) ?_
            refine LE.p (v := (Value.int .i64 (IntKind.i64.wrap (x57 + (1 : Int))))) (Wn.no rfl) rfl (R.assign rfl) ?_
            refine LE.nil ?_
            obtain ⟨m64, hm65, h⟩ := h
            exact ⟨m64, hm65, _, h, f99, f100, f101, f102, rfl⟩
          · intro hb105
            replace h := M.ite_f h hb105
            refine WE.exit ?_
            refine WE.seq ?_
            obtain ⟨J106, hJ106, h⟩ := M.join_use h
            refine WE.drawJ (fun e w => J106 w ∧ e 3 = (Value.pointer (some b2)) ∧ e 6 = (Value.pointer (some b33)) ∧ e 7 = (Value.bool r30)) mix ?_ ?_
            · clear hJ106
              obtain ⟨w107, hww107, h⟩ := M.drew_use h
              rw [← hww107]
              clear hww107
              refine DE.t 0 (v := (Value.pointer p0)) rfl (by kernel_rfl) (Wn.no rfl) rfl (R.move f99) ?_
              refine DE.t 2 (v := (Value.pointer p0)) rfl (by kernel_rfl) (Wn.no rfl) rfl (R.move f99) ?_
              obtain ⟨a108, h109, h⟩ := h
              refine DE.t 3 (v := (Value.pointer (some a108))) rfl (by kernel_rfl) (Wn.no rfl) rfl (R.nilC (congrArg Value.pointer h109)) ?_
              refine DE.t 4 (v := (Value.pointer (some a108))) rfl (by kernel_rfl) (Wn.no rfl) rfl (R.fld (off := 0) fa74_0 rfl) ?_
              refine DE.t 6 (v := (Value.int .i64 x57)) rfl (by kernel_rfl) (Wn.no rfl) rfl (R.move f103) ?_
              refine DE.t 12 (v := (Value.pointer p0)) rfl (by kernel_rfl) (Wn.no rfl) rfl (R.move f99) ?_
              obtain ⟨a110, h111, h⟩ := h
              refine DE.t 13 (v := (Value.pointer (some a110))) rfl (by kernel_rfl) (Wn.no rfl) rfl (R.nilC (congrArg Value.pointer h111)) ?_
              refine DE.t 14 (v := (Value.pointer (some a110))) rfl (by kernel_rfl) (Wn.no rfl) rfl (R.fld (off := 0) fa74_0 rfl) ?_
              refine DE.t 16 (v := (Value.int .i64 x57)) rfl (by kernel_rfl) (Wn.no rfl) rfl (R.move f103) ?_
              obtain ⟨t112, h113, h⟩ := h
              refine DE.hold 5 (fun w => w.cell? a108 = some (SV.v t112)) (v := (SV.v t112)) rfl (by kernel_rfl) (Wn.no rfl) rfl h113 (fun w hs => R.ld sc44 rfl hs) ?_
              obtain ⟨h114, h115, h116, h⟩ := h
              refine DE.t 7 (v := (SV.v (SV.sub t112 (Int.toNat (0 : Int)) (Int.toNat x57) 6))) rfl (by kernel_rfl) (Wn.no rfl) rfl (R.slc (s := t112) (lo := (0 : Int)) (hi := x57) _ _ sl44 rfl rfl rfl h114 h115 h116) ?_
              obtain ⟨t118, t119, t120, t121, t122, t123, h124, h⟩ := h
              refine DE.hold 9 (fun w => Cs w b2 0 [(Value.int .u32 t118), (Value.int .i64 t119), (Value.bool t120), (Value.int .i64 t121), (Value.int .u32 t122), (Value.float .f64 t123)]) (v := (Value.agg #[(Value.int .u32 t118), (Value.int .i64 t119), (Value.bool t120), (Value.int .i64 t121), (Value.int .u32 t122), (Value.float .f64 t123)])) rfl (by kernel_rfl) (Wn.no rfl) rfl h124 (fun w hs => R.ldA ag32 sz32 f100 rfl hs) ?_
              obtain ⟨t125, h126, h⟩ := h
              refine DE.hold 15 (fun w => w.cell? a110 = some (SV.v t125)) (v := (SV.v t125)) rfl (by kernel_rfl) (Wn.no rfl) rfl h126 (fun w hs => R.ld sc44 rfl hs) ?_
              obtain ⟨h127, h128, h129, h⟩ := h
              refine DE.t 17 (v := (SV.v (SV.sub t125 (Int.toNat x57) (Int.toNat (t125.len : Int)) 6))) rfl (by kernel_rfl) (Wn.no rfl) rfl (R.slc (s := t125) (lo := x57) (hi := (t125.len : Int)) _ _ sl44 rfl rfl rfl h127 h128 h129) ?_
              refine DE.main2 1 10 (by kernel_rfl) ?_ ?_
              · replace h := h.1
                obtain ⟨b133, hpb133, w131, hww131, h⟩ := M.new_use h
                obtain ⟨k134, h⟩ := h
                obtain ⟨k135, h⟩ := h
                obtain ⟨k136, h⟩ := h
                refine One.r 1 (v := (SV.v (SV.mk (some b133) 0 0))) rfl (Wn.no rfl) rfl (R.bsl (by exact Ls.nil) (fun w => bs44_0  w) hpb133 hww131) (.inr ⟨fun _ => k134, fun _ => k135, fun _ => k136, trivial⟩) ?_
                refine DE.main2 8 10 (by kernel_rfl) ?_ ?_
                · replace h := h.1
                  obtain ⟨s137, w138, h139, h⟩ := h
                  obtain ⟨k140, h⟩ := h
                  obtain ⟨k141, h⟩ := h
                  refine One.r 8 (v := (SV.v s137)) rfl (Wn.no rfl) rfl (R.app (s := (SV.mk (some b133) 0 0)) (r := s137) rfl rfl h139) (.inr ⟨fun _ => k140, fun _ => k141, aftT (by kernel_rfl), trivial⟩) ?_
                  obtain ⟨b144, hpb144, w142, hww142, h⟩ := M.new_use h
                  obtain ⟨k145, h⟩ := h
                  obtain ⟨k146, h⟩ := h
                  refine DE.main 10 (by kernel_rfl) ?_
                  refine One.r 10 (v := (SV.v (SV.mk (some b144) 1 1))) rfl (Wn.no rfl) rfl (R.bsl (by exact (Ls.cons (R.Pr rfl) Ls.nil)) (fun w => bs44_1 t118 t119 t120 t121 t122 t123 w) hpb144 hww142) (.inr ⟨fun _ => k145, aftT (by kernel_rfl), fun _ => k146, trivial⟩) ?_
                  obtain ⟨s147, w148, h149, h⟩ := h
                  obtain ⟨k150, h⟩ := h
                  refine DE.main 11 (by kernel_rfl) ?_
                  refine One.r 11 (v := (SV.v s147)) rfl (Wn.no rfl) rfl (R.app (s := s137) (r := s147) rfl rfl h149) (.inr ⟨fun _ => k150, aftT (by kernel_rfl), aftT (by kernel_rfl), trivial⟩) ?_
                  obtain ⟨s151, w152, h153, h⟩ := h
                  refine DE.main 18 (by kernel_rfl) ?_
                  refine One.r 18 (v := (SV.v s151)) rfl (Wn.no rfl) rfl (R.app (s := s147) (r := s151) rfl rfl h153) (.inr ⟨aftT (by kernel_rfl), aftT (by kernel_rfl), aftT (by kernel_rfl), trivial⟩) ?_
                  obtain ⟨a154, h155, h⟩ := h
                  refine DE.t 19 (v := (Value.pointer (some a154))) rfl (by kernel_rfl) (Wn.no rfl) rfl (R.nilC (congrArg Value.pointer h155)) ?_
                  refine DE.t 20 (v := (Value.pointer (some a154))) rfl (by kernel_rfl) (Wn.no rfl) rfl (R.fld (off := 0) fa74_0 rfl) ?_
                  obtain ⟨w156, hww156, h157, h158, h⟩ := M.st_use h
                  refine DE.main 21 (by kernel_rfl) ?_
                  refine One.s 21 rfl (Wn.no rfl) rfl (R.st (a := a154) (v := (SV.v s151)) sz44 rfl rfl rfl rfl h157 h158 hww156) ⟨aftT (by kernel_rfl), aftT (by kernel_rfl), aftT (by kernel_rfl), trivial⟩ ?_
                  refine DE.done (by kernel_rfl) ?_
                  exact ⟨h, f100, f101, f102⟩
                · replace h := h.2
                  obtain ⟨b161, hpb161, w159, hww159, h⟩ := M.new_use h
                  obtain ⟨k162, h⟩ := h
                  obtain ⟨k163, h⟩ := h
                  refine One.r 10 (v := (SV.v (SV.mk (some b161) 1 1))) rfl (Wn.no rfl) rfl (R.bsl (by exact (Ls.cons (R.Pr rfl) Ls.nil)) (fun w => bs44_1 t118 t119 t120 t121 t122 t123 w) hpb161 hww159) (.inr ⟨fun _ => k162, aftT (by kernel_rfl), fun _ => k163, trivial⟩) ?_
                  obtain ⟨s164, w165, h166, h⟩ := h
                  obtain ⟨k167, h⟩ := h
                  obtain ⟨k168, h⟩ := h
                  refine DE.main 8 (by kernel_rfl) ?_
                  refine One.r 8 (v := (SV.v s164)) rfl (Wn.no rfl) rfl (R.app (s := (SV.mk (some b133) 0 0)) (r := s164) rfl rfl h166) (.inr ⟨fun _ => k167, fun _ => k168, aftT (by kernel_rfl), trivial⟩) ?_
                  obtain ⟨s169, w170, h171, h⟩ := h
                  obtain ⟨k172, h⟩ := h
                  refine DE.main 11 (by kernel_rfl) ?_
                  refine One.r 11 (v := (SV.v s169)) rfl (Wn.no rfl) rfl (R.app (s := s164) (r := s169) rfl rfl h171) (.inr ⟨fun _ => k172, aftT (by kernel_rfl), aftT (by kernel_rfl), trivial⟩) ?_
                  obtain ⟨s173, w174, h175, h⟩ := h
                  refine DE.main 18 (by kernel_rfl) ?_
                  refine One.r 18 (v := (SV.v s173)) rfl (Wn.no rfl) rfl (R.app (s := s169) (r := s173) rfl rfl h175) (.inr ⟨aftT (by kernel_rfl), aftT (by kernel_rfl), aftT (by kernel_rfl), trivial⟩) ?_
                  obtain ⟨a176, h177, h⟩ := h
                  refine DE.t 19 (v := (Value.pointer (some a176))) rfl (by kernel_rfl) (Wn.no rfl) rfl (R.nilC (congrArg Value.pointer h177)) ?_
                  refine DE.t 20 (v := (Value.pointer (some a176))) rfl (by kernel_rfl) (Wn.no rfl) rfl (R.fld (off := 0) fa74_0 rfl) ?_
                  obtain ⟨w178, hww178, h179, h180, h⟩ := M.st_use h
                  refine DE.main 21 (by kernel_rfl) ?_
                  refine One.s 21 rfl (Wn.no rfl) rfl (R.st (a := a176) (v := (SV.v s173)) sz44 rfl rfl rfl rfl h179 h180 hww178) ⟨aftT (by kernel_rfl), aftT (by kernel_rfl), aftT (by kernel_rfl), trivial⟩ ?_
                  refine DE.done (by kernel_rfl) ?_
                  exact ⟨h, f100, f101, f102⟩
              · replace h := h.2
                obtain ⟨b183, hpb183, w181, hww181, h⟩ := M.new_use h
                obtain ⟨k184, h⟩ := h
                obtain ⟨k185, h⟩ := h
                refine One.r 10 (v := (SV.v (SV.mk (some b183) 1 1))) rfl (Wn.no rfl) rfl (R.bsl (by exact (Ls.cons (R.Pr rfl) Ls.nil)) (fun w => bs44_1 t118 t119 t120 t121 t122 t123 w) hpb183 hww181) (.inr ⟨fun _ => k184, aftT (by kernel_rfl), fun _ => k185, trivial⟩) ?_
                obtain ⟨b188, hpb188, w186, hww186, h⟩ := M.new_use h
                obtain ⟨k189, h⟩ := h
                obtain ⟨k190, h⟩ := h
                obtain ⟨k191, h⟩ := h
                refine DE.main 1 (by kernel_rfl) ?_
                refine One.r 1 (v := (SV.v (SV.mk (some b188) 0 0))) rfl (Wn.no rfl) rfl (R.bsl (by exact Ls.nil) (fun w => bs44_0  w) hpb188 hww186) (.inr ⟨fun _ => k189, fun _ => k190, fun _ => k191, trivial⟩) ?_
                obtain ⟨s192, w193, h194, h⟩ := h
                obtain ⟨k195, h⟩ := h
                obtain ⟨k196, h⟩ := h
                refine DE.main 8 (by kernel_rfl) ?_
                refine One.r 8 (v := (SV.v s192)) rfl (Wn.no rfl) rfl (R.app (s := (SV.mk (some b188) 0 0)) (r := s192) rfl rfl h194) (.inr ⟨fun _ => k195, fun _ => k196, aftT (by kernel_rfl), trivial⟩) ?_
                obtain ⟨s197, w198, h199, h⟩ := h
                obtain ⟨k200, h⟩ := h
                refine DE.main 11 (by kernel_rfl) ?_
                refine One.r 11 (v := (SV.v s197)) rfl (Wn.no rfl) rfl (R.app (s := s192) (r := s197) rfl rfl h199) (.inr ⟨fun _ => k200, aftT (by kernel_rfl), aftT (by kernel_rfl), trivial⟩) ?_
                obtain ⟨s201, w202, h203, h⟩ := h
                refine DE.main 18 (by kernel_rfl) ?_
                refine One.r 18 (v := (SV.v s201)) rfl (Wn.no rfl) rfl (R.app (s := s197) (r := s201) rfl rfl h203) (.inr ⟨aftT (by kernel_rfl), aftT (by kernel_rfl), aftT (by kernel_rfl), trivial⟩) ?_
                obtain ⟨a204, h205, h⟩ := h
                refine DE.t 19 (v := (Value.pointer (some a204))) rfl (by kernel_rfl) (Wn.no rfl) rfl (R.nilC (congrArg Value.pointer h205)) ?_
                refine DE.t 20 (v := (Value.pointer (some a204))) rfl (by kernel_rfl) (Wn.no rfl) rfl (R.fld (off := 0) fa74_0 rfl) ?_
                obtain ⟨w206, hww206, h207, h208, h⟩ := M.st_use h
                refine DE.main 21 (by kernel_rfl) ?_
                refine One.s 21 rfl (Wn.no rfl) rfl (R.st (a := a204) (v := (SV.v s201)) sz44 rfl rfl rfl rfl h207 h208 hww206) ⟨aftT (by kernel_rfl), aftT (by kernel_rfl), aftT (by kernel_rfl), trivial⟩ ?_
                refine DE.done (by kernel_rfl) ?_
                exact ⟨h, f100, f101, f102⟩
            · rintro e209 w210 ⟨h, f211, f212, f213⟩
              subst hJ106
              refine WE.seq ?_
              obtain ⟨J214, hJ214, h⟩ := M.join_use h
              refine WE.regJ (fun e w => ∃ (x215 : Bool) (x216 : Int), J214 x215 x216 w ∧ e 4 = (Value.bool x215) ∧ e 5 = (Value.int .i64 x216)) ?_ ?_
              · clear hJ214
                refine LE.p (v := (Value.bool r30)) (Wn.no rfl) rfl (R.move f213) ?_
                refine LE.p (v := (Value.bool (!r30))) (Wn.no rfl) rfl (R.not rfl) ?_
                refine LE.p (v := (Value.bool (!r30))) (Wn.no rfl) rfl (R.move rfl) ?_
                rcases M.ite_use h with ⟨hb217, h⟩ | ⟨hb217, h⟩
                · refine LE.u (Un.no 2 82 false rfl rfl rfl (congrArg Value.bool hb217)) ?_
                  refine LE.u (Un.no 2 82 false rfl rfl rfl (congrArg Value.bool hb217)) ?_
                  refine LE.u (Un.no 2 82 false rfl rfl rfl (congrArg Value.bool hb217)) ?_
                  refine LE.u (Un.no 2 82 false rfl rfl rfl (congrArg Value.bool hb217)) ?_
                  refine LE.p (v := (Value.bool true)) (Wn.no rfl) rfl (R.pickT (congrArg Value.bool hb217) rfl) ?_
                  refine LE.p (v := (Value.bool true)) (Wn.no rfl) rfl (R.assign rfl) ?_
                  refine LE.p (v := (Value.int .i64 (0 : Int))) (Wn.no rfl) rfl (R.assign rfl) ?_
                  refine LE.nil ?_
                  exact ⟨_, _, h, rfl, rfl⟩
                · obtain ⟨t218, t219, t220, t221, t222, t223, h224, h⟩ := h
                  refine LE.r (v := (Value.agg #[(Value.int .u32 t218), (Value.int .i64 t219), (Value.bool t220), (Value.int .i64 t221), (Value.int .u32 t222), (Value.float .f64 t223)])) (Wn.yes 2 82 false rfl rfl rfl (congrArg Value.bool hb217)) rfl (R.ldA ag32 sz32 f212 rfl h224) ?_
                  obtain ⟨t225, t226, t227, t228, t229, t230, h231, h⟩ := h
                  refine LE.r (v := (Value.agg #[(Value.int .u32 t225), (Value.int .i64 t226), (Value.bool t227), (Value.int .i64 t228), (Value.int .u32 t229), (Value.float .f64 t230)])) (Wn.yes 2 82 false rfl rfl rfl (congrArg Value.bool hb217)) rfl (R.ldA ag32 sz32 f211 rfl h231) ?_
                  refine LE.c (Wn.yes 2 82 false rfl rfl rfl (congrArg Value.bool hb217)) rfl (R.call bd50 (Ls.cons rfl (Ls.cons rfl Ls.nil)) rfl) (Calls.mono h ?_)
                  rintro _ w233 ⟨r232, rfl, h⟩
                  refine ⟨_, rfl, ?_⟩
                  refine LE.p (v := (Value.bool (!r232))) (Wn.yes 2 82 false rfl rfl rfl (congrArg Value.bool hb217)) rfl (R.not rfl) ?_
                  refine LE.p (v := (Value.bool (!r232))) (Wn.no rfl) rfl (R.pickF (congrArg Value.bool hb217) rfl) ?_
                  refine LE.p (v := (Value.bool (!r232))) (Wn.no rfl) rfl (R.assign rfl) ?_
                  refine LE.p (v := (Value.int .i64 (0 : Int))) (Wn.no rfl) rfl (R.assign rfl) ?_
                  refine LE.nil ?_
                  exact ⟨_, _, h, rfl, rfl⟩
              · rintro e234 w235 ⟨x215, x216, h, f236, f237⟩
                subst hJ214
                refine WE.ret ?_
                exact ⟨_, (Res.tmp f236 (Res.tmp f237 Res.nil)), _, _, rfl, h⟩
/-- The formula of signpost.addr.Right. -/
def F30 (p0_0 : Int) (p0_1 : Int) (K : Bool → World → Prop) (w0 : World) : Prop :=
M.new (.cells #[(Value.int .u32 p0_0), (Value.int .i64 p0_1)] 28) w0 fun b2 w1 =>
M.join (fun (x4 : Bool) (w20 : World) => 
K x4 w20) fun J3 => 
M.drew w1 fun w5 => 
M.ld (Value.int .i64) (b2.add 1) w5 fun t6 =>
M.ite (decide ((0 : Int) ≤ t6)) (
M.ld (Value.int .i64) (b2.add 1) w5 fun t9 =>
M.ite (decide (t9 ≤ (32 : Int))) (
M.ld (Value.int .u32) b2 w5 fun t12 =>
M.ld (Value.int .i64) (b2.add 1) w5 fun t14 =>
Calls Try.prog 51 #[(Value.int .i64 t14)] w5 (R51 fun r16 w17 =>
M.keep (w17.cell? b2 = some (Value.int .u32 t12)) <|
J3 ((bAndNot .u32 t12 r16) == (0 : Int)) w17)) (
J3 false w5)) (
J3 false w5)
theorem F30_ok {w0 : World} {p0_0 : Int} {p0_1 : Int} {K : Bool → World → Prop} (h : F30 p0_0 p0_1 K w0) : Calls Try.prog 30 #[(Value.agg #[(Value.int .u32 p0_0), (Value.int .i64 p0_1)])] w0 (R30 K) := by
  refine calls_of_WE (args := [(Value.agg #[(Value.int .u32 p0_0), (Value.int .i64 p0_1)])]) (rs := [.tmp 2]) Try.func30 rfl (N := 20) rfl rfl rfl rfl ?_
  refine WE.seq ?_
  refine WE.reg ?_
  obtain ⟨b2, hpb2, w1, hww1, h⟩ := M.new_use h
  refine LE.r (v := (Value.pointer (some b2))) (Wn.no rfl) rfl (R.box (cs := #[(Value.int .u32 p0_0), (Value.int .i64 p0_1)]) rfl rfl hpb2 hww1) ?_
  refine LE.p (v := (Value.bool false)) (Wn.no rfl) rfl (R.assign rfl) ?_
  refine LE.nil ?_
  refine WE.seq ?_
  obtain ⟨J3, hJ3, h⟩ := M.join_use h
  refine WE.drawJ (fun e w => ∃ (x4 : Bool), J3 x4 w ∧ e 2 = (Value.bool x4)) mix ?_ ?_
  · clear hJ3
    obtain ⟨w5, hww5, h⟩ := M.drew_use h
    rw [← hww5]
    clear hww5
    refine DE.t 0 (v := (Value.pointer (some (b2.add 1)))) rfl (by kernel_rfl) (Wn.no rfl) rfl (R.fld (off := 1) fa28_1 rfl) ?_
    obtain ⟨t6, h7, h⟩ := h
    refine DE.main 1 (by kernel_rfl) ?_
    refine One.r 1 (v := (Value.int .i64 t6)) rfl (Wn.no rfl) rfl (R.ld sc3 rfl h7) (.inl rfl) ?_
    refine DE.t 2 (v := (Value.bool (decide ((0 : Int) ≤ t6)))) rfl (by kernel_rfl) (Wn.no rfl) rfl (R.geq rfl rfl) ?_
    refine DE.t 3 (v := (Value.bool (decide ((0 : Int) ≤ t6)))) rfl (by kernel_rfl) (Wn.no rfl) rfl (R.move rfl) ?_
    rcases M.ite_use h with ⟨hb8, h⟩ | ⟨hb8, h⟩
    · refine DE.t 4 (v := (Value.pointer (some (b2.add 1)))) rfl (by kernel_rfl) (Wn.yes 3 6 true rfl rfl rfl (congrArg Value.bool hb8)) rfl (R.fld (off := 1) fa28_1 rfl) ?_
      obtain ⟨t9, h10, h⟩ := h
      refine DE.main 5 (by kernel_rfl) ?_
      refine One.r 5 (v := (Value.int .i64 t9)) rfl (Wn.yes 3 6 true rfl rfl rfl (congrArg Value.bool hb8)) rfl (R.ld sc3 rfl h10) (.inl rfl) ?_
      refine DE.t 6 (v := (Value.bool (decide (t9 ≤ (32 : Int))))) rfl (by kernel_rfl) (Wn.yes 3 6 true rfl rfl rfl (congrArg Value.bool hb8)) rfl (R.leq rfl rfl) ?_
      refine DE.t 7 (v := (Value.bool (decide (t9 ≤ (32 : Int))))) rfl (by kernel_rfl) (Wn.no rfl) rfl (R.pickT (congrArg Value.bool hb8) rfl) ?_
      refine DE.t 8 (v := (Value.bool (decide (t9 ≤ (32 : Int))))) rfl (by kernel_rfl) (Wn.no rfl) rfl (R.move rfl) ?_
      rcases M.ite_use h with ⟨hb11, h⟩ | ⟨hb11, h⟩
      · refine DE.t 9 (v := (Value.pointer (some b2))) rfl (by kernel_rfl) (Wn.yes 8 11 true rfl rfl rfl (congrArg Value.bool hb11)) rfl (R.fld (off := 0) fa28_0 rfl) ?_
        refine DE.t 11 (v := (Value.pointer (some (b2.add 1)))) rfl (by kernel_rfl) (Wn.yes 8 11 true rfl rfl rfl (congrArg Value.bool hb11)) rfl (R.fld (off := 1) fa28_1 rfl) ?_
        obtain ⟨t12, h13, h⟩ := h
        refine DE.hold 10 (fun w => w.cell? b2 = some (Value.int .u32 t12)) (v := (Value.int .u32 t12)) rfl (by kernel_rfl) (Wn.yes 8 11 true rfl rfl rfl (congrArg Value.bool hb11)) rfl h13 (fun w hs => R.ld sc26 rfl hs) ?_
        obtain ⟨t14, h15, h⟩ := h
        refine DE.main 12 (by kernel_rfl) ?_
        refine One.r 12 (v := (Value.int .i64 t14)) rfl (Wn.yes 8 11 true rfl rfl rfl (congrArg Value.bool hb11)) rfl (R.ld sc3 rfl h15) (.inl rfl) ?_
        refine DE.main 13 (by kernel_rfl) ?_
        refine One.c 13 rfl (Wn.yes 8 11 true rfl rfl rfl (congrArg Value.bool hb11)) rfl (R.call bd51 (Ls.cons rfl Ls.nil) rfl) (Calls.mono h ?_)
        rintro _ w17 ⟨r16, rfl, h⟩
        obtain ⟨k18, h⟩ := h
        refine ⟨_, rfl, ⟨fun _ => k18, trivial⟩, ?_⟩
        refine DE.t 14 (v := (Value.int .u32 (bAndNot .u32 t12 r16))) rfl (by kernel_rfl) (Wn.yes 8 11 true rfl rfl rfl (congrArg Value.bool hb11)) rfl (R.andNot rfl rfl) ?_
        refine DE.t 15 (v := (Value.bool ((bAndNot .u32 t12 r16) == (0 : Int)))) rfl (by kernel_rfl) (Wn.yes 8 11 true rfl rfl rfl (congrArg Value.bool hb11)) rfl (R.eql rfl rfl) ?_
        refine DE.t 16 (v := (Value.bool ((bAndNot .u32 t12 r16) == (0 : Int)))) rfl (by kernel_rfl) (Wn.no rfl) rfl (R.pickT (congrArg Value.bool hb11) rfl) ?_
        refine DE.t 17 (v := (Value.bool ((bAndNot .u32 t12 r16) == (0 : Int)))) rfl (by kernel_rfl) (Wn.no rfl) rfl (R.assign rfl) ?_
        refine DE.done (by kernel_rfl) ?_
        exact ⟨_, h, rfl⟩
      · refine DE.u 9 rfl (by kernel_rfl) (Un.no 8 11 true rfl rfl rfl (congrArg Value.bool hb11)) ?_
        refine DE.u 10 rfl (by kernel_rfl) (Un.no 8 11 true rfl rfl rfl (congrArg Value.bool hb11)) ?_
        refine DE.u 11 rfl (by kernel_rfl) (Un.no 8 11 true rfl rfl rfl (congrArg Value.bool hb11)) ?_
        refine DE.u 12 rfl (by kernel_rfl) (Un.no 8 11 true rfl rfl rfl (congrArg Value.bool hb11)) ?_
        refine DE.u 13 rfl (by kernel_rfl) (Un.no 8 11 true rfl rfl rfl (congrArg Value.bool hb11)) ?_
        refine DE.u 14 rfl (by kernel_rfl) (Un.no 8 11 true rfl rfl rfl (congrArg Value.bool hb11)) ?_
        refine DE.u 15 rfl (by kernel_rfl) (Un.no 8 11 true rfl rfl rfl (congrArg Value.bool hb11)) ?_
        refine DE.t 16 (v := (Value.bool false)) rfl (by kernel_rfl) (Wn.no rfl) rfl (R.pickF (congrArg Value.bool hb11) rfl) ?_
        refine DE.t 17 (v := (Value.bool false)) rfl (by kernel_rfl) (Wn.no rfl) rfl (R.assign rfl) ?_
        refine DE.done (by kernel_rfl) ?_
        exact ⟨_, h, rfl⟩
    · refine DE.u 4 rfl (by kernel_rfl) (Un.no 3 6 true rfl rfl rfl (congrArg Value.bool hb8)) ?_
      refine DE.u 5 rfl (by kernel_rfl) (Un.no 3 6 true rfl rfl rfl (congrArg Value.bool hb8)) ?_
      refine DE.u 6 rfl (by kernel_rfl) (Un.no 3 6 true rfl rfl rfl (congrArg Value.bool hb8)) ?_
      refine DE.t 7 (v := (Value.bool false)) rfl (by kernel_rfl) (Wn.no rfl) rfl (R.pickF (congrArg Value.bool hb8) rfl) ?_
      refine DE.t 8 (v := (Value.bool false)) rfl (by kernel_rfl) (Wn.no rfl) rfl (R.move rfl) ?_
      refine DE.u 9 rfl (by kernel_rfl) (Un.no 8 11 true rfl rfl rfl rfl) ?_
      refine DE.u 10 rfl (by kernel_rfl) (Un.no 8 11 true rfl rfl rfl rfl) ?_
      refine DE.u 11 rfl (by kernel_rfl) (Un.no 8 11 true rfl rfl rfl rfl) ?_
      refine DE.u 12 rfl (by kernel_rfl) (Un.no 8 11 true rfl rfl rfl rfl) ?_
      refine DE.u 13 rfl (by kernel_rfl) (Un.no 8 11 true rfl rfl rfl rfl) ?_
      refine DE.u 14 rfl (by kernel_rfl) (Un.no 8 11 true rfl rfl rfl rfl) ?_
      refine DE.u 15 rfl (by kernel_rfl) (Un.no 8 11 true rfl rfl rfl rfl) ?_
      refine DE.t 16 (v := (Value.bool false)) rfl (by kernel_rfl) (Wn.no rfl) rfl (R.pickF rfl rfl) ?_
      refine DE.t 17 (v := (Value.bool false)) rfl (by kernel_rfl) (Wn.no rfl) rfl (R.assign rfl) ?_
      refine DE.done (by kernel_rfl) ?_
      exact ⟨_, h, rfl⟩
  · rintro e19 w20 ⟨x4, h, f21⟩
    subst hJ3
    refine WE.ret ?_
    exact ⟨_, (Res.tmp f21 Res.nil), _, rfl, h⟩
/-- The formula of slices.Contains[[]signpost.api.Prefix,signpost.api.Prefix]. -/
def F31 (p0 : SV) (p1_0 : Int) (p1_1 : Int) (K : Bool → World → Prop) (w0 : World) : Prop :=
M.new (.cells #[(Value.int .u32 p1_0), (Value.int .i64 p1_1)] 28) w0 fun b2 w1 =>
M.ld (Value.int .u32) b2 w1 fun t3 =>
M.ld (Value.int .i64) (b2.add 1) w1 fun t5 =>
Calls Try.prog 52 #[(SV.v p0), (Value.agg #[(Value.int .u32 t3), (Value.int .i64 t5)])] w1 (R52 fun r7 w8 =>
K (decide ((0 : Int) ≤ r7)) w8)
theorem F31_ok {w0 : World} {p0 : SV} {p1_0 : Int} {p1_1 : Int} {K : Bool → World → Prop} (h : F31 p0 p1_0 p1_1 K w0) : Calls Try.prog 31 #[(SV.v p0), (Value.agg #[(Value.int .u32 p1_0), (Value.int .i64 p1_1)])] w0 (R31 K) := by
  refine calls_of_WE (args := [(SV.v p0), (Value.agg #[(Value.int .u32 p1_0), (Value.int .i64 p1_1)])]) (rs := [.tmp 4]) Try.func31 rfl (N := 9) rfl rfl rfl rfl ?_
  refine WE.seq ?_
  refine WE.reg ?_
  obtain ⟨b2, hpb2, w1, hww1, h⟩ := M.new_use h
  refine LE.r (v := (Value.pointer (some b2))) (Wn.no rfl) rfl (R.box (cs := #[(Value.int .u32 p1_0), (Value.int .i64 p1_1)]) rfl rfl hpb2 hww1) ?_
  refine LE.p (v := (Value.bool false)) (Wn.no rfl) rfl (R.assign rfl) ?_
  refine LE.nil ?_
  refine WE.seq ?_
  refine WE.reg ?_
  refine LE.p (v := (SV.v p0)) (Wn.no rfl) rfl (R.move rfl) ?_
  obtain ⟨t3, h4, h⟩ := h
  obtain ⟨t5, h6, h⟩ := h
  refine LE.r (v := (Value.agg #[(Value.int .u32 t3), (Value.int .i64 t5)])) (Wn.no rfl) rfl (R.ldA ag28 sz28 rfl rfl (Cs.cons h4 (Cs.cons h6 Cs.nil))) ?_
  refine LE.c (Wn.no rfl) rfl (R.call bd52 (Ls.cons rfl (Ls.cons rfl Ls.nil)) rfl) (Calls.mono h ?_)
  rintro _ w8 ⟨r7, rfl, h⟩
  refine ⟨_, rfl, ?_⟩
  refine LE.p (v := (Value.bool (decide ((0 : Int) ≤ r7)))) (Wn.no rfl) rfl (R.geq rfl rfl) ?_
  refine LE.p (v := (Value.bool (decide ((0 : Int) ≤ r7)))) (Wn.no rfl) rfl (R.assign rfl) ?_
  refine LE.nil ?_
  refine WE.ret ?_
  exact ⟨_, (Res.tmp rfl Res.nil), _, rfl, h⟩
/-- The formula of slices.ContainsFunc[[]uint32,uint32]. -/
def F32 (p0 : SV) (p1 : FV) (K : Bool → World → Prop) (w0 : World) : Prop :=
Calls Try.prog 53 #[(SV.v p0), (FV.v p1)] w0 (R53 fun r1 w2 =>
K (decide ((0 : Int) ≤ r1)) w2)
theorem F32_ok {w0 : World} {p0 : SV} {p1 : FV} {K : Bool → World → Prop} (h : F32 p0 p1 K w0) : Calls Try.prog 32 #[(SV.v p0), (FV.v p1)] w0 (R32 K) := by
  refine calls_of_WE (args := [(SV.v p0), (FV.v p1)]) (rs := [.tmp 4]) Try.func32 rfl (N := 9) rfl rfl rfl rfl ?_
  refine WE.seq ?_
  refine WE.reg ?_
  refine LE.p (v := (Value.bool false)) (Wn.no rfl) rfl (R.assign rfl) ?_
  refine LE.nil ?_
  refine WE.seq ?_
  refine WE.reg ?_
  refine LE.p (v := (SV.v p0)) (Wn.no rfl) rfl (R.move rfl) ?_
  refine LE.p (v := (FV.v p1)) (Wn.no rfl) rfl (R.move rfl) ?_
  refine LE.c (Wn.no rfl) rfl (R.call bd53 (Ls.cons rfl (Ls.cons rfl Ls.nil)) rfl) (Calls.mono h ?_)
  rintro _ w2 ⟨r1, rfl, h⟩
  refine ⟨_, rfl, ?_⟩
  refine LE.p (v := (Value.bool (decide ((0 : Int) ≤ r1)))) (Wn.no rfl) rfl (R.geq rfl rfl) ?_
  refine LE.p (v := (Value.bool (decide ((0 : Int) ≤ r1)))) (Wn.no rfl) rfl (R.assign rfl) ?_
  refine LE.nil ?_
  refine WE.ret ?_
  exact ⟨_, (Res.tmp rfl Res.nil), _, rfl, h⟩
/-- The formula of signpost.nexthop.Depends$1. -/
def F33 (p0 : Int) (c1 : Addr) (K : Bool → World → Prop) (w0 : World) : Prop :=
M.ld (Value.int .u32) c1 w0 fun t1 =>
M.ld (Value.int .i64) (c1.add 1) w0 fun t3 =>
Calls Try.prog 34 #[(Value.agg #[(Value.int .u32 t1), (Value.int .i64 t3)]), (Value.int .u32 p0)] w0 (R34 fun r5 w6 =>
K r5 w6)
theorem F33_ok {w0 : World} {p0 : Int} {c1 : Addr} {K : Bool → World → Prop} (h : F33 p0 c1 K w0) : Calls Try.prog 33 #[(Value.int .u32 p0), (Value.pointer (some c1))] w0 (R33 K) := by
  refine calls_of_WE (args := [(Value.int .u32 p0), (Value.pointer (some c1))]) (rs := [.tmp 3]) Try.func33 rfl (N := 7) rfl rfl rfl rfl ?_
  refine WE.seq ?_
  refine WE.reg ?_
  refine LE.p (v := (Value.bool false)) (Wn.no rfl) rfl (R.assign rfl) ?_
  refine LE.nil ?_
  refine WE.seq ?_
  refine WE.reg ?_
  obtain ⟨t1, h2, h⟩ := h
  obtain ⟨t3, h4, h⟩ := h
  refine LE.r (v := (Value.agg #[(Value.int .u32 t1), (Value.int .i64 t3)])) (Wn.no rfl) rfl (R.ldA ag28 sz28 rfl rfl (Cs.cons h2 (Cs.cons h4 Cs.nil))) ?_
  refine LE.p (v := (Value.int .u32 p0)) (Wn.no rfl) rfl (R.move rfl) ?_
  refine LE.c (Wn.no rfl) rfl (R.call bd34 (Ls.cons rfl (Ls.cons rfl Ls.nil)) rfl) (Calls.mono h ?_)
  rintro _ w6 ⟨r5, rfl, h⟩
  refine ⟨_, rfl, ?_⟩
  refine LE.p (v := (Value.bool r5)) (Wn.no rfl) rfl (R.assign rfl) ?_
  refine LE.nil ?_
  refine WE.ret ?_
  exact ⟨_, (Res.tmp rfl Res.nil), _, rfl, h⟩
/-- The formula of signpost.addr.Has. -/
def F34 (p0_0 : Int) (p0_1 : Int) (p1 : Int) (K : Bool → World → Prop) (w0 : World) : Prop :=
M.new (.cells #[(Value.int .u32 p0_0), (Value.int .i64 p0_1)] 28) w0 fun b2 w1 =>
M.join (fun (x4 : Bool) (w21 : World) => 
K x4 w21) fun J3 => 
M.drew w1 fun w5 => 
M.ld (Value.int .u32) b2 w5 fun t6 =>
M.ld (Value.int .i64) (b2.add 1) w5 fun t8 =>
Calls Try.prog 30 #[(Value.agg #[(Value.int .u32 t6), (Value.int .i64 t8)])] w5 (R30 fun r10 w11 =>
M.ite r10 (
M.ld (Value.int .i64) (b2.add 1) w11 fun t13 =>
M.ld (Value.int .u32) b2 w11 fun t15 =>
Calls Try.prog 51 #[(Value.int .i64 t13)] w11 (R51 fun r17 w18 =>
M.keep (w18.cell? b2 = some (Value.int .u32 t15)) <|
J3 ((bAnd .u32 p1 r17) == t15) w18)) (
J3 false w11))
theorem F34_ok {w0 : World} {p0_0 : Int} {p0_1 : Int} {p1 : Int} {K : Bool → World → Prop} (h : F34 p0_0 p0_1 p1 K w0) : Calls Try.prog 34 #[(Value.agg #[(Value.int .u32 p0_0), (Value.int .i64 p0_1)]), (Value.int .u32 p1)] w0 (R34 K) := by
  refine calls_of_WE (args := [(Value.agg #[(Value.int .u32 p0_0), (Value.int .i64 p0_1)]), (Value.int .u32 p1)]) (rs := [.tmp 4]) Try.func34 rfl (N := 17) rfl rfl rfl rfl ?_
  refine WE.seq ?_
  refine WE.reg ?_
  obtain ⟨b2, hpb2, w1, hww1, h⟩ := M.new_use h
  refine LE.r (v := (Value.pointer (some b2))) (Wn.no rfl) rfl (R.box (cs := #[(Value.int .u32 p0_0), (Value.int .i64 p0_1)]) rfl rfl hpb2 hww1) ?_
  refine LE.p (v := (Value.bool false)) (Wn.no rfl) rfl (R.assign rfl) ?_
  refine LE.nil ?_
  refine WE.seq ?_
  obtain ⟨J3, hJ3, h⟩ := M.join_use h
  refine WE.drawJ (fun e w => ∃ (x4 : Bool), J3 x4 w ∧ e 4 = (Value.bool x4)) mix ?_ ?_
  · clear hJ3
    obtain ⟨w5, hww5, h⟩ := M.drew_use h
    rw [← hww5]
    clear hww5
    obtain ⟨t6, h7, h⟩ := h
    obtain ⟨t8, h9, h⟩ := h
    refine DE.main 0 (by kernel_rfl) ?_
    refine One.r 0 (v := (Value.agg #[(Value.int .u32 t6), (Value.int .i64 t8)])) rfl (Wn.no rfl) rfl (R.ldA ag28 sz28 rfl rfl (Cs.cons h7 (Cs.cons h9 Cs.nil))) (.inl rfl) ?_
    refine DE.main 1 (by kernel_rfl) ?_
    refine One.c 1 rfl (Wn.no rfl) rfl (R.call bd30 (Ls.cons rfl Ls.nil) rfl) (Calls.mono h ?_)
    rintro _ w11 ⟨r10, rfl, h⟩
    refine ⟨_, rfl, trivial, ?_⟩
    refine DE.t 2 (v := (Value.bool r10)) rfl (by kernel_rfl) (Wn.no rfl) rfl (R.move rfl) ?_
    rcases M.ite_use h with ⟨hb12, h⟩ | ⟨hb12, h⟩
    · refine DE.t 3 (v := (Value.int .u32 p1)) rfl (by kernel_rfl) (Wn.yes 2 7 true rfl rfl rfl (congrArg Value.bool hb12)) rfl (R.move rfl) ?_
      refine DE.t 4 (v := (Value.pointer (some (b2.add 1)))) rfl (by kernel_rfl) (Wn.yes 2 7 true rfl rfl rfl (congrArg Value.bool hb12)) rfl (R.fld (off := 1) fa28_1 rfl) ?_
      refine DE.t 8 (v := (Value.pointer (some b2))) rfl (by kernel_rfl) (Wn.yes 2 7 true rfl rfl rfl (congrArg Value.bool hb12)) rfl (R.fld (off := 0) fa28_0 rfl) ?_
      obtain ⟨t13, h14, h⟩ := h
      refine DE.hold 5 (fun w => w.cell? (b2.add 1) = some (Value.int .i64 t13)) (v := (Value.int .i64 t13)) rfl (by kernel_rfl) (Wn.yes 2 7 true rfl rfl rfl (congrArg Value.bool hb12)) rfl h14 (fun w hs => R.ld sc3 rfl hs) ?_
      obtain ⟨t15, h16, h⟩ := h
      refine DE.hold 9 (fun w => w.cell? b2 = some (Value.int .u32 t15)) (v := (Value.int .u32 t15)) rfl (by kernel_rfl) (Wn.yes 2 7 true rfl rfl rfl (congrArg Value.bool hb12)) rfl h16 (fun w hs => R.ld sc26 rfl hs) ?_
      refine DE.main 6 (by kernel_rfl) ?_
      refine One.c 6 rfl (Wn.yes 2 7 true rfl rfl rfl (congrArg Value.bool hb12)) rfl (R.call bd51 (Ls.cons rfl Ls.nil) rfl) (Calls.mono h ?_)
      rintro _ w18 ⟨r17, rfl, h⟩
      obtain ⟨k19, h⟩ := h
      refine ⟨_, rfl, ⟨fun _ => k19, aftT (by kernel_rfl), trivial⟩, ?_⟩
      refine DE.t 7 (v := (Value.int .u32 (bAnd .u32 p1 r17))) rfl (by kernel_rfl) (Wn.yes 2 7 true rfl rfl rfl (congrArg Value.bool hb12)) rfl (R.and rfl rfl) ?_
      refine DE.t 10 (v := (Value.bool ((bAnd .u32 p1 r17) == t15))) rfl (by kernel_rfl) (Wn.yes 2 7 true rfl rfl rfl (congrArg Value.bool hb12)) rfl (R.eql rfl rfl) ?_
      refine DE.t 11 (v := (Value.bool ((bAnd .u32 p1 r17) == t15))) rfl (by kernel_rfl) (Wn.no rfl) rfl (R.pickT (congrArg Value.bool hb12) rfl) ?_
      refine DE.t 12 (v := (Value.bool ((bAnd .u32 p1 r17) == t15))) rfl (by kernel_rfl) (Wn.no rfl) rfl (R.assign rfl) ?_
      refine DE.done (by kernel_rfl) ?_
      exact ⟨_, h, rfl⟩
    · refine DE.u 3 rfl (by kernel_rfl) (Un.no 2 7 true rfl rfl rfl (congrArg Value.bool hb12)) ?_
      refine DE.u 4 rfl (by kernel_rfl) (Un.no 2 7 true rfl rfl rfl (congrArg Value.bool hb12)) ?_
      refine DE.u 5 rfl (by kernel_rfl) (Un.no 2 7 true rfl rfl rfl (congrArg Value.bool hb12)) ?_
      refine DE.u 6 rfl (by kernel_rfl) (Un.no 2 7 true rfl rfl rfl (congrArg Value.bool hb12)) ?_
      refine DE.u 7 rfl (by kernel_rfl) (Un.no 2 7 true rfl rfl rfl (congrArg Value.bool hb12)) ?_
      refine DE.u 8 rfl (by kernel_rfl) (Un.no 2 7 true rfl rfl rfl (congrArg Value.bool hb12)) ?_
      refine DE.u 9 rfl (by kernel_rfl) (Un.no 2 7 true rfl rfl rfl (congrArg Value.bool hb12)) ?_
      refine DE.u 10 rfl (by kernel_rfl) (Un.no 2 7 true rfl rfl rfl (congrArg Value.bool hb12)) ?_
      refine DE.t 11 (v := (Value.bool false)) rfl (by kernel_rfl) (Wn.no rfl) rfl (R.pickF (congrArg Value.bool hb12) rfl) ?_
      refine DE.t 12 (v := (Value.bool false)) rfl (by kernel_rfl) (Wn.no rfl) rfl (R.assign rfl) ?_
      refine DE.done (by kernel_rfl) ?_
      exact ⟨_, h, rfl⟩
  · rintro e20 w21 ⟨x4, h, f22⟩
    subst hJ3
    refine WE.ret ?_
    exact ⟨_, (Res.tmp f22 Res.nil), _, rfl, h⟩
/-- The formula of signpost.signpostref1.Mask. -/
def F35 (p0 : Int) (K : Int → World → Prop) (w0 : World) : Prop :=
M.loop2 (fun (J3 : Int → Int → World → Prop) (x1 : Int) (x2 : Int) (w4 : World) => 
M.join (fun (x15 : Bool) (w18 : World) => 
M.ite x15 (
M.sh (IntKind.u64.wrap (IntKind.i64.wrap ((31 : Int) - x2))) <|
J3 (bOr .u32 x1 (bShl .u32 (1 : Int) (IntKind.u64.wrap (IntKind.i64.wrap ((31 : Int) - x2))))) (IntKind.i64.wrap (x2 + (1 : Int))) w18) (
K x1 w18)) fun J14 => 
M.ite (decide (x2 < p0)) (
J14 (decide (x2 < (32 : Int))) w4) (
J14 false w4)) (0 : Int) (0 : Int) w0
theorem F35_ok {w0 : World} {p0 : Int} {K : Int → World → Prop} (h : F35 p0 K w0) : Calls Try.prog 35 #[(Value.int .i64 p0)] w0 (R35 K) := by
  refine calls_of_WE (args := [(Value.int .i64 p0)]) (rs := [.tmp 2]) Try.func35 rfl (N := 21) rfl rfl rfl rfl ?_
  refine WE.seq ?_
  refine WE.reg ?_
  refine LE.p (v := (Value.int .u32 (0 : Int))) (Wn.no rfl) rfl (R.assign rfl) ?_
  refine LE.nil ?_
  refine WE.seq ?_
  refine WE.reg ?_
  refine LE.p (v := (Value.int .u32 (0 : Int))) (Wn.no rfl) rfl (R.assign rfl) ?_
  refine LE.nil ?_
  refine WE.seq ?_
  refine WE.seq ?_
  refine WE.reg ?_
  refine LE.p (v := (Value.int .i64 (0 : Int))) (Wn.no rfl) rfl (R.assign rfl) ?_
  refine LE.nil ?_
  refine WE.block ?_
  obtain ⟨I7, ⟨n6, h⟩, hr8⟩ := h
  refine WE.loop (fun n e w => ∃ (x1 : Int) (x2 : Int), I7 n x1 x2 w ∧ e 0 = (Value.int .i64 p0) ∧ e 3 = (Value.int .u32 x1) ∧ e 4 = (Value.int .i64 x2)) n6 ⟨_, _, h, rfl, rfl, rfl⟩ ?_
  clear h
  rintro n6 e5 w4 ⟨x1, x2, h, f11, f12, f13⟩
  replace h := hr8 n6 x1 x2 w4 h
  refine WE.seq ?_
  refine WE.seq ?_
  obtain ⟨J14, hJ14, h⟩ := M.join_use h
  refine WE.regJ (fun e w => ∃ (x15 : Bool), J14 x15 w ∧ e 0 = (Value.int .i64 p0) ∧ e 3 = (Value.int .u32 x1) ∧ e 4 = (Value.int .i64 x2) ∧ e 11 = (Value.bool x15)) ?_ ?_
  · clear hJ14
    refine LE.p (v := (Value.int .i64 x2)) (Wn.no rfl) rfl (R.move f13) ?_
    refine LE.p (v := (Value.int .i64 p0)) (Wn.no rfl) rfl (R.move f11) ?_
    refine LE.p (v := (Value.bool (decide (x2 < p0)))) (Wn.no rfl) rfl (R.lss rfl rfl) ?_
    refine LE.p (v := (Value.bool (decide (x2 < p0)))) (Wn.no rfl) rfl (R.move rfl) ?_
    rcases M.ite_use h with ⟨hb16, h⟩ | ⟨hb16, h⟩
    · refine LE.p (v := (Value.int .i64 x2)) (Wn.yes 3 8 true rfl rfl rfl (congrArg Value.bool hb16)) rfl (R.move f13) ?_
      refine LE.p (v := (Value.bool (decide (x2 < (32 : Int))))) (Wn.yes 3 8 true rfl rfl rfl (congrArg Value.bool hb16)) rfl (R.lss rfl rfl) ?_
      refine LE.p (v := (Value.bool (decide (x2 < (32 : Int))))) (Wn.no rfl) rfl (R.pickT (congrArg Value.bool hb16) rfl) ?_
      refine LE.nil ?_
      exact ⟨_, h, f11, f12, f13, rfl⟩
    · refine LE.u (Un.no 3 8 true rfl rfl rfl (congrArg Value.bool hb16)) ?_
      refine LE.u (Un.no 3 8 true rfl rfl rfl (congrArg Value.bool hb16)) ?_
      refine LE.p (v := (Value.bool false)) (Wn.no rfl) rfl (R.pickF (congrArg Value.bool hb16) rfl) ?_
      refine LE.nil ?_
      exact ⟨_, h, f11, f12, f13, rfl⟩
  · rintro e17 w18 ⟨x15, h, f19, f20, f21, f22⟩
    subst hJ14
    refine WE.condT rfl (b := x15) f22 ?_ ?_
    · intro hb23
      replace h := M.ite_t h hb23
      refine WE.skip ?_
      refine WE.seq ?_
      refine WE.block ?_
      refine WE.reg ?_
      refine LE.p (v := (Value.int .u32 x1)) (Wn.no rfl) rfl (R.move f20) ?_
      refine LE.p (v := (Value.int .i64 x2)) (Wn.no rfl) rfl (R.move f21) ?_
      refine LE.p (v := (Value.int .i64 (IntKind.i64.wrap ((31 : Int) - x2)))) (Wn.no rfl) rfl (R.sub rfl rfl) ?_
      refine LE.p (v := (Value.int .u64 (IntKind.u64.wrap (IntKind.i64.wrap ((31 : Int) - x2))))) (Wn.no rfl) rfl (R.conv in30 in3 rfl) ?_
      obtain ⟨h24, h⟩ := h
      refine LE.p (v := (Value.int .u32 (bShl .u32 (1 : Int) (IntKind.u64.wrap (IntKind.i64.wrap ((31 : Int) - x2)))))) (Wn.no rfl) rfl (R.shl rfl rfl h24) ?_
      refine LE.p (v := (Value.int .u32 (bOr .u32 x1 (bShl .u32 (1 : Int) (IntKind.u64.wrap (IntKind.i64.wrap ((31 : Int) - x2))))))) (Wn.no rfl) rfl (R.or rfl rfl) ?_
      refine LE.p (v := (Value.int .u32 (bOr .u32 x1 (bShl .u32 (1 : Int) (IntKind.u64.wrap (IntKind.i64.wrap ((31 : Int) - x2))))))) (Wn.no rfl) rfl (R.assign rfl) ?_
      refine LE.nil ?_
      refine WE.reg ?_
      refine LE.p (v := (Value.int .i64 x2)) (Wn.no rfl) rfl (R.move f21) ?_
      refine LE.p (v := (Value.int .i64 (IntKind.i64.wrap (x2 + (1 : Int))))) (Wn.no rfl) rfl (R.add rfl rfl) ?_
      refine LE.p (v := (Value.int .i64 (IntKind.i64.wrap (x2 + (1 : Int))))) (Wn.no rfl) rfl (R.assign rfl) ?_
      refine LE.nil ?_
      obtain ⟨m9, hm10, h⟩ := h
      exact ⟨m9, hm10, _, _, h, f19, rfl, rfl⟩
    · intro hb23
      replace h := M.ite_f h hb23
      refine WE.exit ?_
      refine WE.seq ?_
      refine WE.reg ?_
      refine LE.p (v := (Value.int .u32 x1)) (Wn.no rfl) rfl (R.move f20) ?_
      refine LE.p (v := (Value.int .u32 x1)) (Wn.no rfl) rfl (R.assign rfl) ?_
      refine LE.nil ?_
      refine WE.ret ?_
      exact ⟨_, (Res.tmp rfl Res.nil), _, rfl, h⟩
/-- The formula of signpost.metric.Right. -/
def F36 (p0 : Nat) (K : Bool → World → Prop) (w0 : World) : Prop :=
K (fGeq p0 (0 : Nat)) w0
theorem F36_ok {w0 : World} {p0 : Nat} {K : Bool → World → Prop} (h : F36 p0 K w0) : Calls Try.prog 36 #[(Value.float .f64 p0)] w0 (R36 K) := by
  refine calls_of_WE (args := [(Value.float .f64 p0)]) (rs := [.tmp 2]) Try.func36 rfl (N := 5) rfl rfl rfl rfl ?_
  refine WE.seq ?_
  refine WE.reg ?_
  refine LE.p (v := (Value.bool false)) (Wn.no rfl) rfl (R.assign rfl) ?_
  refine LE.nil ?_
  refine WE.seq ?_
  refine WE.reg ?_
  refine LE.p (v := (Value.float .f64 p0)) (Wn.no rfl) rfl (R.move rfl) ?_
  refine LE.p (v := (Value.bool (fGeq p0 (0 : Nat)))) (Wn.no rfl) rfl (R.fgeq rfl rfl) ?_
  refine LE.p (v := (Value.bool (fGeq p0 (0 : Nat)))) (Wn.no rfl) rfl (R.assign rfl) ?_
  refine LE.nil ?_
  refine WE.ret ?_
  exact ⟨_, (Res.tmp rfl Res.nil), _, rfl, h⟩
/-- The formula of math.Inf. -/
def F37 (p0 : Int) (K : Nat → World → Prop) (w0 : World) : Prop :=
M.join (fun (x2 : Int) (w5 : World) => 
K (Int.toNat x2) w5) fun J1 => 
M.ite (decide ((0 : Int) ≤ p0)) (
J1 (9218868437227405312 : Int) w0) (
J1 (18442240474082181120 : Int) w0)
theorem F37_ok {w0 : World} {p0 : Int} {K : Nat → World → Prop} (h : F37 p0 K w0) : Calls Try.prog 37 #[(Value.int .i64 p0)] w0 (R37 K) := by
  refine calls_of_WE (args := [(Value.int .i64 p0)]) (rs := [.tmp 2]) Try.func37 rfl (N := 8) rfl rfl rfl rfl ?_
  refine WE.seq ?_
  refine WE.reg ?_
  refine LE.p (v := (Value.float .f64 (0 : Nat))) (Wn.no rfl) rfl (R.assign rfl) ?_
  refine LE.nil ?_
  refine WE.seq ?_
  refine WE.reg ?_
  refine LE.p (v := (Value.int .u64 (0 : Int))) (Wn.no rfl) rfl (R.assign rfl) ?_
  refine LE.nil ?_
  obtain ⟨J1, hJ1, h⟩ := M.join_use h
  refine WE.join (fun e w => ∃ (x2 : Int), J1 x2 w ∧ e 3 = (Value.int .u64 x2)) ?_ ?_
  · clear hJ1
    refine WE.seq ?_
    refine WE.reg ?_
    refine LE.p (v := (Value.int .i64 p0)) (Wn.no rfl) rfl (R.move rfl) ?_
    refine LE.p (v := (Value.bool (decide ((0 : Int) ≤ p0)))) (Wn.no rfl) rfl (R.geq rfl rfl) ?_
    refine LE.nil ?_
    refine WE.condT rfl (b := (decide ((0 : Int) ≤ p0))) rfl ?_ ?_
    · intro hb3
      replace h := M.ite_t h hb3
      refine WE.reg ?_
      refine LE.p (v := (Value.int .u64 (9218868437227405312 : Int))) (Wn.no rfl) rfl (R.assign rfl) ?_
      refine LE.nil ?_
      exact ⟨_, h, rfl⟩
    · intro hb3
      replace h := M.ite_f h hb3
      refine WE.reg ?_
      refine LE.p (v := (Value.int .u64 (18442240474082181120 : Int))) (Wn.no rfl) rfl (R.assign rfl) ?_
      refine LE.nil ?_
      exact ⟨_, h, rfl⟩
  · rintro e4 w5 ⟨x2, h, f6⟩
    subst hJ1
    refine WE.seq ?_
    refine WE.reg ?_
    refine LE.p (v := (Value.int .u64 x2)) (Wn.no rfl) rfl (R.move f6) ?_
    refine LE.p (v := (Value.float .f64 (Int.toNat x2))) (Wn.no rfl) rfl (R.callx (xt54 x2) (by exact (Ls.cons rfl Ls.nil)) rfl) ?_
    refine LE.p (v := (Value.float .f64 (Int.toNat x2))) (Wn.no rfl) rfl (R.assign rfl) ?_
    refine LE.nil ?_
    refine WE.ret ?_
    exact ⟨_, (Res.tmp rfl Res.nil), _, rfl, h⟩
/-- The formula of signpost.trie.bit. -/
def F38 (p0 : Int) (p1 : Int) (K : Int → World → Prop) (w0 : World) : Prop :=
M.sh (IntKind.i64.wrap ((31 : Int) - p1)) <|
K (IntKind.i64.wrap (bAnd .u32 (bShr .u32 p0 (IntKind.i64.wrap ((31 : Int) - p1))) (1 : Int))) w0
theorem F38_ok {w0 : World} {p0 : Int} {p1 : Int} {K : Int → World → Prop} (h : F38 p0 p1 K w0) : Calls Try.prog 38 #[(Value.int .u32 p0), (Value.int .i64 p1)] w0 (R38 K) := by
  refine calls_of_WE (args := [(Value.int .u32 p0), (Value.int .i64 p1)]) (rs := [.tmp 4]) Try.func38 rfl (N := 11) rfl rfl rfl rfl ?_
  refine WE.seq ?_
  refine WE.reg ?_
  refine LE.p (v := (Value.int .i64 (0 : Int))) (Wn.no rfl) rfl (R.assign rfl) ?_
  refine LE.nil ?_
  refine WE.seq ?_
  refine WE.reg ?_
  refine LE.p (v := (Value.int .u32 p0)) (Wn.no rfl) rfl (R.move rfl) ?_
  refine LE.p (v := (Value.int .i64 p1)) (Wn.no rfl) rfl (R.move rfl) ?_
  refine LE.p (v := (Value.int .i64 (IntKind.i64.wrap ((31 : Int) - p1)))) (Wn.no rfl) rfl (R.sub rfl rfl) ?_
  obtain ⟨h1, h⟩ := h
  refine LE.p (v := (Value.int .u32 (bShr .u32 p0 (IntKind.i64.wrap ((31 : Int) - p1))))) (Wn.no rfl) rfl (R.shr rfl rfl h1) ?_
  refine LE.p (v := (Value.int .u32 (bAnd .u32 (bShr .u32 p0 (IntKind.i64.wrap ((31 : Int) - p1))) (1 : Int)))) (Wn.no rfl) rfl (R.and rfl rfl) ?_
  refine LE.p (v := (Value.int .i64 (IntKind.i64.wrap (bAnd .u32 (bShr .u32 p0 (IntKind.i64.wrap ((31 : Int) - p1))) (1 : Int))))) (Wn.no rfl) rfl (R.conv in3 in26 rfl) ?_
  refine LE.p (v := (Value.int .i64 (IntKind.i64.wrap (bAnd .u32 (bShr .u32 p0 (IntKind.i64.wrap ((31 : Int) - p1))) (1 : Int))))) (Wn.no rfl) rfl (R.assign rfl) ?_
  refine LE.nil ?_
  refine WE.ret ?_
  exact ⟨_, (Res.tmp rfl Res.nil), _, rfl, h⟩
/-- The formula of math.Abs. -/
def F39 (p0 : Nat) (K : Nat → World → Prop) (w0 : World) : Prop :=
K (Int.toNat (bAndNot .u64 (p0 : Int) (9223372036854775808 : Int))) w0
theorem F39_ok {w0 : World} {p0 : Nat} {K : Nat → World → Prop} (h : F39 p0 K w0) : Calls Try.prog 39 #[(Value.float .f64 p0)] w0 (R39 K) := by
  refine calls_of_WE (args := [(Value.float .f64 p0)]) (rs := [.tmp 2]) Try.func39 rfl (N := 7) rfl rfl rfl rfl ?_
  refine WE.seq ?_
  refine WE.reg ?_
  refine LE.p (v := (Value.float .f64 (0 : Nat))) (Wn.no rfl) rfl (R.assign rfl) ?_
  refine LE.nil ?_
  refine WE.seq ?_
  refine WE.reg ?_
  refine LE.p (v := (Value.float .f64 p0)) (Wn.no rfl) rfl (R.move rfl) ?_
  refine LE.p (v := (Value.int .u64 (p0 : Int))) (Wn.no rfl) rfl (R.callx (xt18 p0) (by exact (Ls.cons rfl Ls.nil)) rfl) ?_
  refine LE.p (v := (Value.int .u64 (bAndNot .u64 (p0 : Int) (9223372036854775808 : Int)))) (Wn.no rfl) rfl (R.andNot rfl rfl) ?_
  refine LE.p (v := (Value.float .f64 (Int.toNat (bAndNot .u64 (p0 : Int) (9223372036854775808 : Int))))) (Wn.no rfl) rfl (R.callx (xt54 (bAndNot .u64 (p0 : Int) (9223372036854775808 : Int))) (by exact (Ls.cons rfl Ls.nil)) rfl) ?_
  refine LE.p (v := (Value.float .f64 (Int.toNat (bAndNot .u64 (p0 : Int) (9223372036854775808 : Int))))) (Wn.no rfl) rfl (R.assign rfl) ?_
  refine LE.nil ?_
  refine WE.ret ?_
  exact ⟨_, (Res.tmp rfl Res.nil), _, rfl, h⟩
/-- The formula of (*signpost.trie.Trie).Get. -/
def F40 (p0 : Option Addr) (p1_0 : Int) (p1_1 : Int) (K : Int → Bool → World → Prop) (w0 : World) : Prop :=
M.new (.cells #[(Value.int .u32 p1_0), (Value.int .i64 p1_1)] 28) w0 fun b2 w1 =>
M.ld (Value.int .u32) b2 w1 fun t3 =>
M.ld (Value.int .i64) (b2.add 1) w1 fun t5 =>
Calls Try.prog 30 #[(Value.agg #[(Value.int .u32 t3), (Value.int .i64 t5)])] w1 (R30 fun r7 w8 =>
M.ite (!r7) (
K (0 : Int) false w8) (
M.ld (Value.int .u32) b2 w8 fun t10 =>
M.ld (Value.int .i64) (b2.add 1) w8 fun t12 =>
Calls Try.prog 55 #[(Value.pointer p0), (Value.agg #[(Value.int .u32 t10), (Value.int .i64 t12)])] w8 (R55 fun r14 w15 =>
M.join (fun (x17 : Bool) (w24 : World) => 
M.ite x17 (
K (0 : Int) false w24) (
M.nil r14 fun a28 =>
M.ld (Value.int .i64) (a28.add 3) w24 fun t30 =>
K t30 true w24)) fun J16 => 
M.ite (Option.isNone r14) (
J16 true w15) (
M.nil r14 fun a19 =>
M.ld Value.bool (a19.add 2) w15 fun t21 =>
J16 (!t21) w15))))
theorem F40_ok {w0 : World} {p0 : Option Addr} {p1_0 : Int} {p1_1 : Int} {K : Int → Bool → World → Prop} (h : F40 p0 p1_0 p1_1 K w0) : Calls Try.prog 40 #[(Value.pointer p0), (Value.agg #[(Value.int .u32 p1_0), (Value.int .i64 p1_1)])] w0 (R40 K) := by
  refine calls_of_WE (args := [(Value.pointer p0), (Value.agg #[(Value.int .u32 p1_0), (Value.int .i64 p1_1)])]) (rs := [.tmp 4, .tmp 5]) Try.func40 rfl (N := 26) rfl rfl rfl rfl ?_
  refine WE.seq ?_
  refine WE.reg ?_
  obtain ⟨b2, hpb2, w1, hww1, h⟩ := M.new_use h
  refine LE.r (v := (Value.pointer (some b2))) (Wn.no rfl) rfl (R.box (cs := #[(Value.int .u32 p1_0), (Value.int .i64 p1_1)]) rfl rfl hpb2 hww1) ?_
  refine LE.p (v := (Value.int .i64 (0 : Int))) (Wn.no rfl) rfl (R.assign rfl) ?_
  refine LE.p (v := (Value.bool false)) (Wn.no rfl) rfl (R.assign rfl) ?_
  refine LE.nil ?_
  refine WE.seq ?_
  refine WE.seq ?_
  refine WE.reg ?_
  obtain ⟨t3, h4, h⟩ := h
  obtain ⟨t5, h6, h⟩ := h
  refine LE.r (v := (Value.agg #[(Value.int .u32 t3), (Value.int .i64 t5)])) (Wn.no rfl) rfl (R.ldA ag28 sz28 rfl rfl (Cs.cons h4 (Cs.cons h6 Cs.nil))) ?_
  refine LE.c (Wn.no rfl) rfl (R.call bd30 (Ls.cons rfl Ls.nil) rfl) (Calls.mono h ?_)
  rintro _ w8 ⟨r7, rfl, h⟩
  refine ⟨_, rfl, ?_⟩
  refine LE.p (v := (Value.bool (!r7))) (Wn.no rfl) rfl (R.not rfl) ?_
  refine LE.nil ?_
  refine WE.condT rfl (b := (!r7)) rfl ?_ ?_
  · intro hb9
    replace h := M.ite_t h hb9
    refine WE.seq ?_
    refine WE.reg ?_
    refine LE.p (v := (Value.int .i64 (0 : Int))) (Wn.no rfl) rfl (R.assign rfl) ?_
    refine LE.p (v := (Value.bool false)) (Wn.no rfl) rfl (R.assign rfl) ?_
    refine LE.nil ?_
    refine WE.ret ?_
    exact ⟨_, (Res.tmp rfl (Res.tmp rfl Res.nil)), _, _, rfl, h⟩
  · intro hb9
    replace h := M.ite_f h hb9
    refine WE.skip ?_
    refine WE.seq ?_
    refine WE.reg ?_
    refine LE.p (v := (Value.pointer p0)) (Wn.no rfl) rfl (R.move rfl) ?_
    obtain ⟨t10, h11, h⟩ := h
    obtain ⟨t12, h13, h⟩ := h
    refine LE.r (v := (Value.agg #[(Value.int .u32 t10), (Value.int .i64 t12)])) (Wn.no rfl) rfl (R.ldA ag28 sz28 rfl rfl (Cs.cons h11 (Cs.cons h13 Cs.nil))) ?_
    refine LE.c (Wn.no rfl) rfl (R.call bd55 (Ls.cons rfl (Ls.cons rfl Ls.nil)) rfl) (Calls.mono h ?_)
    rintro _ w15 ⟨r14, rfl, h⟩
    refine ⟨_, rfl, ?_⟩
    refine LE.p (v := (Value.pointer r14)) (Wn.no rfl) rfl (R.assign rfl) ?_
    refine LE.nil ?_
    refine WE.seq ?_
    refine WE.seq ?_
    obtain ⟨J16, hJ16, h⟩ := M.join_use h
    refine WE.regJ (fun e w => ∃ (x17 : Bool), J16 x17 w ∧ e 6 = (Value.pointer r14) ∧ e 21 = (Value.bool x17)) ?_ ?_
    · clear hJ16
      refine LE.p (v := (Value.pointer r14)) (Wn.no rfl) rfl (R.move rfl) ?_
      refine LE.p (v := (Value.bool (Option.isNone r14))) (Wn.no rfl) rfl (R.peqNil pt81 rfl rfl) ?_
      refine LE.p (v := (Value.bool (Option.isNone r14))) (Wn.no rfl) rfl (R.move rfl) ?_
      rcases M.ite_use h with ⟨hb18, h⟩ | ⟨hb18, h⟩
      · refine LE.u (Un.no 2 15 false rfl rfl rfl (congrArg Value.bool hb18)) ?_
        refine LE.u (Un.no 2 15 false rfl rfl rfl (congrArg Value.bool hb18)) ?_
        refine LE.u (Un.no 2 15 false rfl rfl rfl (congrArg Value.bool hb18)) ?_
        refine LE.u (Un.no 2 15 false rfl rfl rfl (congrArg Value.bool hb18)) ?_
        refine LE.u (Un.no 2 15 false rfl rfl rfl (congrArg Value.bool hb18)) ?_
        refine LE.p (v := (Value.bool true)) (Wn.no rfl) rfl (R.pickT (congrArg Value.bool hb18) rfl) ?_
        refine LE.nil ?_
        exact ⟨_, h, rfl, rfl⟩
      · refine LE.p (v := (Value.pointer r14)) (Wn.yes 2 15 false rfl rfl rfl (congrArg Value.bool hb18)) rfl (R.move rfl) ?_
        obtain ⟨a19, h20, h⟩ := h
        refine LE.p (v := (Value.pointer (some a19))) (Wn.yes 2 15 false rfl rfl rfl (congrArg Value.bool hb18)) rfl (R.nilC (congrArg Value.pointer h20)) ?_
        refine LE.p (v := (Value.pointer (some (a19.add 2)))) (Wn.yes 2 15 false rfl rfl rfl (congrArg Value.bool hb18)) rfl (R.fld (off := 2) fa84_1 rfl) ?_
        obtain ⟨t21, h22, h⟩ := h
        refine LE.r (v := (Value.bool t21)) (Wn.yes 2 15 false rfl rfl rfl (congrArg Value.bool hb18)) rfl (R.ld sc4 rfl h22) ?_
        refine LE.p (v := (Value.bool (!t21))) (Wn.yes 2 15 false rfl rfl rfl (congrArg Value.bool hb18)) rfl (R.not rfl) ?_
        refine LE.p (v := (Value.bool (!t21))) (Wn.no rfl) rfl (R.pickF (congrArg Value.bool hb18) rfl) ?_
        refine LE.nil ?_
        exact ⟨_, h, rfl, rfl⟩
    · rintro e23 w24 ⟨x17, h, f25, f26⟩
      subst hJ16
      refine WE.condT rfl (b := x17) f26 ?_ ?_
      · intro hb27
        replace h := M.ite_t h hb27
        refine WE.seq ?_
        refine WE.reg ?_
        refine LE.p (v := (Value.int .i64 (0 : Int))) (Wn.no rfl) rfl (R.assign rfl) ?_
        refine LE.p (v := (Value.bool false)) (Wn.no rfl) rfl (R.assign rfl) ?_
        refine LE.nil ?_
        refine WE.ret ?_
        exact ⟨_, (Res.tmp rfl (Res.tmp rfl Res.nil)), _, _, rfl, h⟩
      · intro hb27
        replace h := M.ite_f h hb27
        refine WE.skip ?_
        refine WE.seq ?_
        refine WE.reg ?_
        refine LE.p (v := (Value.pointer r14)) (Wn.no rfl) rfl (R.move f25) ?_
        obtain ⟨a28, h29, h⟩ := h
        refine LE.p (v := (Value.pointer (some a28))) (Wn.no rfl) rfl (R.nilC (congrArg Value.pointer h29)) ?_
        refine LE.p (v := (Value.pointer (some (a28.add 3)))) (Wn.no rfl) rfl (R.fld (off := 3) fa84_2 rfl) ?_
        obtain ⟨t30, h31, h⟩ := h
        refine LE.r (v := (Value.int .i64 t30)) (Wn.no rfl) rfl (R.ld sc3 rfl h31) ?_
        refine LE.p (v := (Value.int .i64 t30)) (Wn.no rfl) rfl (R.assign rfl) ?_
        refine LE.p (v := (Value.bool true)) (Wn.no rfl) rfl (R.assign rfl) ?_
        refine LE.nil ?_
        refine WE.ret ?_
        exact ⟨_, (Res.tmp rfl (Res.tmp rfl Res.nil)), _, _, rfl, h⟩
/-- The formula of (*signpost.trie.node).empty. -/
def F41 (p0 : Option Addr) (K : Bool → World → Prop) (w0 : World) : Prop :=
M.join (fun (x2 : Bool) (w22 : World) => 
K x2 w22) fun J1 => 
M.nil p0 fun a3 =>
M.ld Value.bool (a3.add 2) w0 fun t5 =>
M.ite (!t5) (
M.nil p0 fun a8 =>
M.inb (0 : Int) 2 <|
M.ld Value.pointer (a8.add ((0 : Int).toNat * 1)) w0 fun t12 =>
M.ite (Option.isNone t12) (
M.nil p0 fun a15 =>
M.inb (1 : Int) 2 <|
M.ld Value.pointer (a15.add ((1 : Int).toNat * 1)) w0 fun t19 =>
J1 (Option.isNone t19) w0) (
J1 false w0)) (
J1 false w0)
theorem F41_ok {w0 : World} {p0 : Option Addr} {K : Bool → World → Prop} (h : F41 p0 K w0) : Calls Try.prog 41 #[(Value.pointer p0)] w0 (R41 K) := by
  refine calls_of_WE (args := [(Value.pointer p0)]) (rs := [.tmp 2]) Try.func41 rfl (N := 24) rfl rfl rfl rfl ?_
  refine WE.seq ?_
  refine WE.reg ?_
  refine LE.p (v := (Value.bool false)) (Wn.no rfl) rfl (R.assign rfl) ?_
  refine LE.nil ?_
  refine WE.seq ?_
  obtain ⟨J1, hJ1, h⟩ := M.join_use h
  refine WE.regJ (fun e w => ∃ (x2 : Bool), J1 x2 w ∧ e 2 = (Value.bool x2)) ?_ ?_
  · clear hJ1
    refine LE.p (v := (Value.pointer p0)) (Wn.no rfl) rfl (R.move rfl) ?_
    obtain ⟨a3, h4, h⟩ := h
    refine LE.p (v := (Value.pointer (some a3))) (Wn.no rfl) rfl (R.nilC (congrArg Value.pointer h4)) ?_
    refine LE.p (v := (Value.pointer (some (a3.add 2)))) (Wn.no rfl) rfl (R.fld (off := 2) fa84_1 rfl) ?_
    obtain ⟨t5, h6, h⟩ := h
    refine LE.r (v := (Value.bool t5)) (Wn.no rfl) rfl (R.ld sc4 rfl h6) ?_
    refine LE.p (v := (Value.bool (!t5))) (Wn.no rfl) rfl (R.not rfl) ?_
    refine LE.p (v := (Value.bool (!t5))) (Wn.no rfl) rfl (R.move rfl) ?_
    rcases M.ite_use h with ⟨hb7, h⟩ | ⟨hb7, h⟩
    · refine LE.p (v := (Value.pointer p0)) (Wn.yes 5 8 true rfl rfl rfl (congrArg Value.bool hb7)) rfl (R.move rfl) ?_
      obtain ⟨a8, h9, h⟩ := h
      refine LE.p (v := (Value.pointer (some a8))) (Wn.yes 5 8 true rfl rfl rfl (congrArg Value.bool hb7)) rfl (R.nilC (congrArg Value.pointer h9)) ?_
      refine LE.p (v := (Value.pointer (some a8))) (Wn.yes 5 8 true rfl rfl rfl (congrArg Value.bool hb7)) rfl (R.fld (off := 0) fa84_0 rfl) ?_
      obtain ⟨h10, h11, h⟩ := h
      refine LE.p (v := (Value.pointer (some (a8.add ((0 : Int).toNat * 1))))) (Wn.yes 5 8 true rfl rfl rfl (congrArg Value.bool hb7)) rfl (R.idxArr ar82 rfl rfl h10 h11) ?_
      obtain ⟨t12, h13, h⟩ := h
      refine LE.r (v := (Value.pointer t12)) (Wn.yes 5 8 true rfl rfl rfl (congrArg Value.bool hb7)) rfl (R.ld sc81 rfl h13) ?_
      refine LE.p (v := (Value.bool (Option.isNone t12))) (Wn.yes 5 8 true rfl rfl rfl (congrArg Value.bool hb7)) rfl (R.peqNil pt81 rfl rfl) ?_
      refine LE.p (v := (Value.bool (Option.isNone t12))) (Wn.no rfl) rfl (R.pickT (congrArg Value.bool hb7) rfl) ?_
      refine LE.p (v := (Value.bool (Option.isNone t12))) (Wn.no rfl) rfl (R.move rfl) ?_
      rcases M.ite_use h with ⟨hb14, h⟩ | ⟨hb14, h⟩
      · refine LE.p (v := (Value.pointer p0)) (Wn.yes 13 16 true rfl rfl rfl (congrArg Value.bool hb14)) rfl (R.move rfl) ?_
        obtain ⟨a15, h16, h⟩ := h
        refine LE.p (v := (Value.pointer (some a15))) (Wn.yes 13 16 true rfl rfl rfl (congrArg Value.bool hb14)) rfl (R.nilC (congrArg Value.pointer h16)) ?_
        refine LE.p (v := (Value.pointer (some a15))) (Wn.yes 13 16 true rfl rfl rfl (congrArg Value.bool hb14)) rfl (R.fld (off := 0) fa84_0 rfl) ?_
        obtain ⟨h17, h18, h⟩ := h
        refine LE.p (v := (Value.pointer (some (a15.add ((1 : Int).toNat * 1))))) (Wn.yes 13 16 true rfl rfl rfl (congrArg Value.bool hb14)) rfl (R.idxArr ar82 rfl rfl h17 h18) ?_
        obtain ⟨t19, h20, h⟩ := h
        refine LE.r (v := (Value.pointer t19)) (Wn.yes 13 16 true rfl rfl rfl (congrArg Value.bool hb14)) rfl (R.ld sc81 rfl h20) ?_
        refine LE.p (v := (Value.bool (Option.isNone t19))) (Wn.yes 13 16 true rfl rfl rfl (congrArg Value.bool hb14)) rfl (R.peqNil pt81 rfl rfl) ?_
        refine LE.p (v := (Value.bool (Option.isNone t19))) (Wn.no rfl) rfl (R.pickT (congrArg Value.bool hb14) rfl) ?_
        refine LE.p (v := (Value.bool (Option.isNone t19))) (Wn.no rfl) rfl (R.assign rfl) ?_
        refine LE.nil ?_
        exact ⟨_, h, rfl⟩
      · refine LE.u (Un.no 13 16 true rfl rfl rfl (congrArg Value.bool hb14)) ?_
        refine LE.u (Un.no 13 16 true rfl rfl rfl (congrArg Value.bool hb14)) ?_
        refine LE.u (Un.no 13 16 true rfl rfl rfl (congrArg Value.bool hb14)) ?_
        refine LE.u (Un.no 13 16 true rfl rfl rfl (congrArg Value.bool hb14)) ?_
        refine LE.u (Un.no 13 16 true rfl rfl rfl (congrArg Value.bool hb14)) ?_
        refine LE.u (Un.no 13 16 true rfl rfl rfl (congrArg Value.bool hb14)) ?_
        refine LE.p (v := (Value.bool false)) (Wn.no rfl) rfl (R.pickF (congrArg Value.bool hb14) rfl) ?_
        refine LE.p (v := (Value.bool false)) (Wn.no rfl) rfl (R.assign rfl) ?_
        refine LE.nil ?_
        exact ⟨_, h, rfl⟩
    · refine LE.u (Un.no 5 8 true rfl rfl rfl (congrArg Value.bool hb7)) ?_
      refine LE.u (Un.no 5 8 true rfl rfl rfl (congrArg Value.bool hb7)) ?_
      refine LE.u (Un.no 5 8 true rfl rfl rfl (congrArg Value.bool hb7)) ?_
      refine LE.u (Un.no 5 8 true rfl rfl rfl (congrArg Value.bool hb7)) ?_
      refine LE.u (Un.no 5 8 true rfl rfl rfl (congrArg Value.bool hb7)) ?_
      refine LE.u (Un.no 5 8 true rfl rfl rfl (congrArg Value.bool hb7)) ?_
      refine LE.p (v := (Value.bool false)) (Wn.no rfl) rfl (R.pickF (congrArg Value.bool hb7) rfl) ?_
      refine LE.p (v := (Value.bool false)) (Wn.no rfl) rfl (R.move rfl) ?_
      refine LE.u (Un.no 13 16 true rfl rfl rfl rfl) ?_
      refine LE.u (Un.no 13 16 true rfl rfl rfl rfl) ?_
      refine LE.u (Un.no 13 16 true rfl rfl rfl rfl) ?_
      refine LE.u (Un.no 13 16 true rfl rfl rfl rfl) ?_
      refine LE.u (Un.no 13 16 true rfl rfl rfl rfl) ?_
      refine LE.u (Un.no 13 16 true rfl rfl rfl rfl) ?_
      refine LE.p (v := (Value.bool false)) (Wn.no rfl) rfl (R.pickF rfl rfl) ?_
      refine LE.p (v := (Value.bool false)) (Wn.no rfl) rfl (R.assign rfl) ?_
      refine LE.nil ?_
      exact ⟨_, h, rfl⟩
  · rintro e21 w22 ⟨x2, h, f23⟩
    subst hJ1
    refine WE.ret ?_
    exact ⟨_, (Res.tmp f23 Res.nil), _, rfl, h⟩
/-- The formula of signpost.metric.Same. -/
def F42 (p0 : Nat) (p1 : Nat) (K : Bool → World → Prop) (w0 : World) : Prop :=
Calls Try.prog 23 #[(Value.float .f64 p0)] w0 (R23 fun r1 w2 =>
Calls Try.prog 23 #[(Value.float .f64 p1)] w2 (R23 fun r3 w4 =>
K (fEql r1 r3) w4))
theorem F42_ok {w0 : World} {p0 : Nat} {p1 : Nat} {K : Bool → World → Prop} (h : F42 p0 p1 K w0) : Calls Try.prog 42 #[(Value.float .f64 p0), (Value.float .f64 p1)] w0 (R42 K) := by
  refine calls_of_WE (args := [(Value.float .f64 p0), (Value.float .f64 p1)]) (rs := [.tmp 4]) Try.func42 rfl (N := 10) rfl rfl rfl rfl ?_
  refine WE.seq ?_
  refine WE.reg ?_
  refine LE.p (v := (Value.bool false)) (Wn.no rfl) rfl (R.assign rfl) ?_
  refine LE.nil ?_
  refine WE.seq ?_
  refine WE.reg ?_
  refine LE.p (v := (Value.float .f64 p0)) (Wn.no rfl) rfl (R.move rfl) ?_
  refine LE.c (Wn.no rfl) rfl (R.call bd23 (Ls.cons rfl Ls.nil) rfl) (Calls.mono h ?_)
  rintro _ w2 ⟨r1, rfl, h⟩
  refine ⟨_, rfl, ?_⟩
  refine LE.p (v := (Value.float .f64 p1)) (Wn.no rfl) rfl (R.move rfl) ?_
  refine LE.c (Wn.no rfl) rfl (R.call bd23 (Ls.cons rfl Ls.nil) rfl) (Calls.mono h ?_)
  rintro _ w4 ⟨r3, rfl, h⟩
  refine ⟨_, rfl, ?_⟩
  refine LE.p (v := (Value.bool (fEql r1 r3))) (Wn.no rfl) rfl (R.feql rfl rfl) ?_
  refine LE.p (v := (Value.bool (fEql r1 r3))) (Wn.no rfl) rfl (R.assign rfl) ?_
  refine LE.nil ?_
  refine WE.ret ?_
  exact ⟨_, (Res.tmp rfl Res.nil), _, rfl, h⟩
/-- The formula of (*signpost.igp.Table).Match. -/
def F43 (p0 : Option Addr) (p1 : Int) (K : Int → Int → Bool → Int → Int → Nat → Bool → World → Prop) (w0 : World) : Prop :=
M.new (.cells #[(Value.int .u32 (0 : Int)), (Value.int .i64 (0 : Int)), (Value.bool false), (Value.int .i64 (0 : Int)), (Value.int .u32 (0 : Int)), (Value.float .f64 (0 : Nat))] 32) w0 fun b2 w1 =>
M.nil p0 fun a3 =>
M.ld Value.pointer (a3.add 1) w1 fun t5 =>
Calls Try.prog 56 #[(Value.pointer t5), (Value.int .u32 p1)] w1 (R56 fun r7 r8 r9 r10 w11 =>
M.new (.cells #[(Value.int .u32 (0 : Int)), (Value.int .i64 (0 : Int))] 28) w11 fun b13 w12 =>
M.stA b13 [(Value.int .u32 r7), (Value.int .i64 r8)] w12 fun w14 =>
M.ite (!r10) (
M.stA b2 [(Value.int .u32 (0 : Int)), (Value.int .i64 (0 : Int)), (Value.bool false), (Value.int .i64 (0 : Int)), (Value.int .u32 (0 : Int)), (Value.float .f64 (0 : Nat))] w14 fun w17 =>
∃ (t19 : Int) (t20 : Int) (t21 : Bool) (t22 : Int) (t23 : Int) (t24 : Nat), Cs w17 b2 0 [(Value.int .u32 t19), (Value.int .i64 t20), (Value.bool t21), (Value.int .i64 t22), (Value.int .u32 t23), (Value.float .f64 t24)] ∧
K t19 t20 t21 t22 t23 t24 false w17) (
M.drew w14 fun w26 => 
M.nil p0 fun a27 =>
M.ld Value.map (a27.add 2) w26 fun t29 =>
M.ld (Value.int .u32) b13 w26 fun t31 =>
M.ld (Value.int .i64) (b13.add 1) w26 fun t33 =>
∃ (t35 : Int) (t36 : Int) (t37 : Bool) (t38 : Int) (t39 : Int) (t40 : Nat), (Instr.lookup 59 (Value.map t29) (Value.agg #[(Value.int .u32 t31), (Value.int .i64 t33)]) false).run Try.prog w26 = .ok (Value.agg #[(Value.int .u32 t35), (Value.int .i64 t36), (Value.bool t37), (Value.int .i64 t38), (Value.int .u32 t39), (Value.float .f64 t40)]) w26 ∧
M.stA b2 [(Value.int .u32 t35), (Value.int .i64 t36), (Value.bool t37), (Value.int .i64 t38), (Value.int .u32 t39), (Value.float .f64 t40)] w26 fun w42 =>
∃ (t44 : Int) (t45 : Int) (t46 : Bool) (t47 : Int) (t48 : Int) (t49 : Nat), Cs w42 b2 0 [(Value.int .u32 t44), (Value.int .i64 t45), (Value.bool t46), (Value.int .i64 t47), (Value.int .u32 t48), (Value.float .f64 t49)] ∧
K t44 t45 t46 t47 t48 t49 true w42))
theorem F43_ok {w0 : World} {p0 : Option Addr} {p1 : Int} {K : Int → Int → Bool → Int → Int → Nat → Bool → World → Prop} (h : F43 p0 p1 K w0) : Calls Try.prog 43 #[(Value.pointer p0), (Value.int .u32 p1)] w0 (R43 K) := by
  refine calls_of_WE (args := [(Value.pointer p0), (Value.int .u32 p1)]) (rs := [.cell 4 32, .tmp 5]) Try.func43 rfl (N := 28) rfl rfl rfl rfl ?_
  refine WE.seq ?_
  refine WE.reg ?_
  obtain ⟨b2, hpb2, w1, hww1, h⟩ := M.new_use h
  refine LE.r (v := (Value.pointer (some b2))) (Wn.no rfl) rfl (R.alloc (cs := #[(Value.int .u32 (0 : Int)), (Value.int .i64 (0 : Int)), (Value.bool false), (Value.int .i64 (0 : Int)), (Value.int .u32 (0 : Int)), (Value.float .f64 (0 : Nat))]) ze32 rfl hpb2 hww1) ?_
  refine LE.p (v := (Value.bool false)) (Wn.no rfl) rfl (R.assign rfl) ?_
  refine LE.nil ?_
  refine WE.seq ?_
  refine WE.reg ?_
  refine LE.p (v := (Value.pointer p0)) (Wn.no rfl) rfl (R.move rfl) ?_
  obtain ⟨a3, h4, h⟩ := h
  refine LE.p (v := (Value.pointer (some a3))) (Wn.no rfl) rfl (R.nilC (congrArg Value.pointer h4)) ?_
  refine LE.p (v := (Value.pointer (some (a3.add 1)))) (Wn.no rfl) rfl (R.fld (off := 1) fa61_1 rfl) ?_
  obtain ⟨t5, h6, h⟩ := h
  refine LE.r (v := (Value.pointer t5)) (Wn.no rfl) rfl (R.ld sc57 rfl h6) ?_
  refine LE.p (v := (Value.int .u32 p1)) (Wn.no rfl) rfl (R.move rfl) ?_
  refine LE.c (Wn.no rfl) rfl (R.call bd56 (Ls.cons rfl (Ls.cons rfl Ls.nil)) rfl) (Calls.mono h ?_)
  rintro _ w11 ⟨r7, r8, r9, r10, rfl, h⟩
  refine ⟨_, rfl, ?_⟩
  refine LE.p (v := (Value.tuple #[(Value.agg #[(Value.int .u32 r7), (Value.int .i64 r8)]), (Value.int .i64 r9), (Value.bool r10)])) (Wn.no rfl) rfl (R.move rfl) ?_
  refine LE.p (v := (Value.agg #[(Value.int .u32 r7), (Value.int .i64 r8)])) (Wn.no rfl) rfl (R.ext rfl rfl) ?_
  refine LE.p (v := (Value.int .i64 r9)) (Wn.no rfl) rfl (R.ext rfl rfl) ?_
  refine LE.p (v := (Value.bool r10)) (Wn.no rfl) rfl (R.ext rfl rfl) ?_
  obtain ⟨b13, hpb13, w12, hww12, h⟩ := M.new_use h
  refine LE.r (v := (Value.pointer (some b13))) (Wn.no rfl) rfl (R.alloc (cs := #[(Value.int .u32 (0 : Int)), (Value.int .i64 (0 : Int))]) ze28 rfl hpb13 hww12) ?_
  obtain ⟨w14, hww14, h15, h⟩ := M.stA_use h
  refine LE.s (Wn.no rfl) rfl (R.stA (a := b13) [(Value.int .u32 r7), (Value.int .i64 r8)] sz28 rfl rfl rfl (by simp [Value.oneCell']) h15 hww14) ?_
  refine LE.p (v := (Value.int .i64 r9)) (Wn.no rfl) rfl (R.assign rfl) ?_
  refine LE.p (v := (Value.bool r10)) (Wn.no rfl) rfl (R.assign rfl) ?_
  refine LE.nil ?_
  refine WE.seq ?_
  refine WE.seq ?_
  refine WE.reg ?_
  refine LE.p (v := (Value.bool r10)) (Wn.no rfl) rfl (R.move rfl) ?_
  refine LE.p (v := (Value.bool (!r10))) (Wn.no rfl) rfl (R.not rfl) ?_
  refine LE.nil ?_
  refine WE.condT rfl (b := (!r10)) rfl ?_ ?_
  · intro hb16
    replace h := M.ite_t h hb16
    refine WE.seq ?_
    refine WE.reg ?_
    refine LE.p (v := (Value.agg #[(Value.int .u32 (0 : Int)), (Value.int .i64 (0 : Int)), (Value.bool false), (Value.int .i64 (0 : Int)), (Value.int .u32 (0 : Int)), (Value.float .f64 (0 : Nat))])) (Wn.no rfl) rfl (R.bld (by exact Ls.nil) (fun w => bu32_  w)) ?_
    obtain ⟨w17, hww17, h18, h⟩ := M.stA_use h
    refine LE.s (Wn.no rfl) rfl (R.stA (a := b2) [(Value.int .u32 (0 : Int)), (Value.int .i64 (0 : Int)), (Value.bool false), (Value.int .i64 (0 : Int)), (Value.int .u32 (0 : Int)), (Value.float .f64 (0 : Nat))] sz32 rfl rfl rfl (by simp [Value.oneCell']) h18 hww17) ?_
    refine LE.p (v := (Value.bool false)) (Wn.no rfl) rfl (R.assign rfl) ?_
    refine LE.nil ?_
    refine WE.ret ?_
    obtain ⟨t19, t20, t21, t22, t23, t24, h25, h⟩ := h
    exact ⟨_, (Res.cell rfl (R.ldCellA ag32 sz32 rfl h25) (Res.tmp rfl Res.nil)), _, _, _, _, _, _, _, rfl, h⟩
  · intro hb16
    replace h := M.ite_f h hb16
    refine WE.skip ?_
    refine WE.seq ?_
    refine WE.draw mix ?_
    obtain ⟨w26, hww26, h⟩ := M.drew_use h
    rw [← hww26]
    clear hww26
    refine DE.t 0 (v := (Value.pointer p0)) rfl (by kernel_rfl) (Wn.no rfl) rfl (R.move rfl) ?_
    obtain ⟨a27, h28, h⟩ := h
    refine DE.t 1 (v := (Value.pointer (some a27))) rfl (by kernel_rfl) (Wn.no rfl) rfl (R.nilC (congrArg Value.pointer h28)) ?_
    refine DE.t 2 (v := (Value.pointer (some (a27.add 2)))) rfl (by kernel_rfl) (Wn.no rfl) rfl (R.fld (off := 2) fa61_2 rfl) ?_
    obtain ⟨t29, h30, h⟩ := h
    refine DE.hold 3 (fun w => w.cell? (a27.add 2) = some (Value.map t29)) (v := (Value.map t29)) rfl (by kernel_rfl) (Wn.no rfl) rfl h30 (fun w hs => R.ld sc59 rfl hs) ?_
    obtain ⟨t31, h32, h⟩ := h
    obtain ⟨t33, h34, h⟩ := h
    refine DE.main 4 (by kernel_rfl) ?_
    refine One.r 4 (v := (Value.agg #[(Value.int .u32 t31), (Value.int .i64 t33)])) rfl (Wn.no rfl) rfl (R.ldA ag28 sz28 rfl rfl (Cs.cons h32 (Cs.cons h34 Cs.nil))) (.inl rfl) ?_
    obtain ⟨t35, t36, t37, t38, t39, t40, h41, h⟩ := h
    refine DE.main 5 (by kernel_rfl) ?_
    refine One.r 5 (v := (Value.agg #[(Value.int .u32 t35), (Value.int .i64 t36), (Value.bool t37), (Value.int .i64 t38), (Value.int .u32 t39), (Value.float .f64 t40)])) rfl (Wn.no rfl) rfl (R.look rfl rfl h41) (.inl rfl) ?_
    obtain ⟨w42, hww42, h43, h⟩ := M.stA_use h
    refine DE.main 6 (by kernel_rfl) ?_
    refine One.s 6 rfl (Wn.no rfl) rfl (R.stA (a := b2) [(Value.int .u32 t35), (Value.int .i64 t36), (Value.bool t37), (Value.int .i64 t38), (Value.int .u32 t39), (Value.float .f64 t40)] sz32 rfl rfl rfl (by simp [Value.oneCell']) h43 hww42) ⟨aftT (by kernel_rfl), trivial⟩ ?_
    refine DE.t 7 (v := (Value.bool true)) rfl (by kernel_rfl) (Wn.no rfl) rfl (R.assign rfl) ?_
    refine DE.done (by kernel_rfl) ?_
    refine WE.ret ?_
    obtain ⟨t44, t45, t46, t47, t48, t49, h50, h⟩ := h
    exact ⟨_, (Res.cell rfl (R.ldCellA ag32 sz32 rfl h50) (Res.tmp rfl Res.nil)), _, _, _, _, _, _, _, rfl, h⟩
/-- The formula of signpost.metric.Add. -/
def F44 (p0 : Nat) (p1 : Nat) (K : Nat → World → Prop) (w0 : World) : Prop :=
Calls Try.prog 23 #[(Value.float .f64 p0)] w0 (R23 fun r1 w2 =>
Calls Try.prog 23 #[(Value.float .f64 p1)] w2 (R23 fun r3 w4 =>
M.fl .add r1 r3 fun r5 =>
K r5 w4))
theorem F44_ok {w0 : World} {p0 : Nat} {p1 : Nat} {K : Nat → World → Prop} (h : F44 p0 p1 K w0) : Calls Try.prog 44 #[(Value.float .f64 p0), (Value.float .f64 p1)] w0 (R44 K) := by
  refine calls_of_WE (args := [(Value.float .f64 p0), (Value.float .f64 p1)]) (rs := [.tmp 4]) Try.func44 rfl (N := 10) rfl rfl rfl rfl ?_
  refine WE.seq ?_
  refine WE.reg ?_
  refine LE.p (v := (Value.float .f64 (0 : Nat))) (Wn.no rfl) rfl (R.assign rfl) ?_
  refine LE.nil ?_
  refine WE.seq ?_
  refine WE.reg ?_
  refine LE.p (v := (Value.float .f64 p0)) (Wn.no rfl) rfl (R.move rfl) ?_
  refine LE.c (Wn.no rfl) rfl (R.call bd23 (Ls.cons rfl Ls.nil) rfl) (Calls.mono h ?_)
  rintro _ w2 ⟨r1, rfl, h⟩
  refine ⟨_, rfl, ?_⟩
  refine LE.p (v := (Value.float .f64 p1)) (Wn.no rfl) rfl (R.move rfl) ?_
  refine LE.c (Wn.no rfl) rfl (R.call bd23 (Ls.cons rfl Ls.nil) rfl) (Calls.mono h ?_)
  rintro _ w4 ⟨r3, rfl, h⟩
  refine ⟨_, rfl, ?_⟩
  obtain ⟨r5, h6, h⟩ := h
  refine LE.p (v := (Value.float .f64 r5)) (Wn.no rfl) rfl (R.farith h6 rfl rfl) ?_
  refine LE.p (v := (Value.float .f64 r5)) (Wn.no rfl) rfl (R.assign rfl) ?_
  refine LE.nil ?_
  refine WE.ret ?_
  exact ⟨_, (Res.tmp rfl Res.nil), _, rfl, h⟩
/-- The formula of signpost.signpostref15.Right. -/
def F45 (p0_0 : Int) (p0_1 : Int) (p0_2 : Bool) (p0_3 : Int) (p0_4 : Int) (p0_5 : Nat) (K : Bool → World → Prop) (w0 : World) : Prop :=
M.new (.cells #[(Value.int .u32 p0_0), (Value.int .i64 p0_1), (Value.bool p0_2), (Value.int .i64 p0_3), (Value.int .u32 p0_4), (Value.float .f64 p0_5)] 32) w0 fun b2 w1 =>
M.join (fun (x4 : Bool) (w17 : World) => 
M.ite x4 (
K false w17) (
M.ld Value.bool (b2.add 2) w17 fun t21 =>
M.ite t21 (
M.join (fun (x25 : Bool) (w35 : World) => 
K x25 w35) fun J24 => 
M.ld (Value.int .i64) (b2.add 3) w17 fun t26 =>
M.ite (decide ((0 : Int) ≤ t26)) (
M.ld (Value.int .i64) (b2.add 3) w17 fun t29 =>
M.ite (decide (t29 ≤ (255 : Int))) (
M.ld (Value.int .u32) (b2.add 4) w17 fun t32 =>
J24 (t32 == (0 : Int)) w17) (
J24 false w17)) (
J24 false w17)) (
M.ld (Value.int .i64) (b2.add 3) w17 fun t37 =>
K (t37 == (0 : Int)) w17))) fun J3 => 
M.ld (Value.int .u32) b2 w1 fun t5 =>
M.ld (Value.int .i64) (b2.add 1) w1 fun t7 =>
Calls Try.prog 57 #[(Value.agg #[(Value.int .u32 t5), (Value.int .i64 t7)])] w1 (R57 fun r9 w10 =>
M.ite (!r9) (
J3 true w10) (
M.ld (Value.float .f64) (b2.add 5) w10 fun t12 =>
Calls Try.prog 58 #[(Value.float .f64 t12)] w10 (R58 fun r14 w15 =>
J3 (!r14) w15)))
theorem F45_ok {w0 : World} {p0_0 : Int} {p0_1 : Int} {p0_2 : Bool} {p0_3 : Int} {p0_4 : Int} {p0_5 : Nat} {K : Bool → World → Prop} (h : F45 p0_0 p0_1 p0_2 p0_3 p0_4 p0_5 K w0) : Calls Try.prog 45 #[(Value.agg #[(Value.int .u32 p0_0), (Value.int .i64 p0_1), (Value.bool p0_2), (Value.int .i64 p0_3), (Value.int .u32 p0_4), (Value.float .f64 p0_5)])] w0 (R45 K) := by
  refine calls_of_WE (args := [(Value.agg #[(Value.int .u32 p0_0), (Value.int .i64 p0_1), (Value.bool p0_2), (Value.int .i64 p0_3), (Value.int .u32 p0_4), (Value.float .f64 p0_5)])]) (rs := [.tmp 2]) Try.func45 rfl (N := 31) rfl rfl rfl rfl ?_
  refine WE.seq ?_
  refine WE.reg ?_
  obtain ⟨b2, hpb2, w1, hww1, h⟩ := M.new_use h
  refine LE.r (v := (Value.pointer (some b2))) (Wn.no rfl) rfl (R.box (cs := #[(Value.int .u32 p0_0), (Value.int .i64 p0_1), (Value.bool p0_2), (Value.int .i64 p0_3), (Value.int .u32 p0_4), (Value.float .f64 p0_5)]) rfl rfl hpb2 hww1) ?_
  refine LE.p (v := (Value.bool false)) (Wn.no rfl) rfl (R.assign rfl) ?_
  refine LE.nil ?_
  refine WE.seq ?_
  refine WE.seq ?_
  obtain ⟨J3, hJ3, h⟩ := M.join_use h
  refine WE.regJ (fun e w => ∃ (x4 : Bool), J3 x4 w ∧ e 1 = (Value.pointer (some b2)) ∧ e 12 = (Value.bool x4)) ?_ ?_
  · clear hJ3
    refine LE.p (v := (Value.pointer (some b2))) (Wn.no rfl) rfl (R.fld (off := 0) fa32_0 rfl) ?_
    obtain ⟨t5, h6, h⟩ := h
    obtain ⟨t7, h8, h⟩ := h
    refine LE.r (v := (Value.agg #[(Value.int .u32 t5), (Value.int .i64 t7)])) (Wn.no rfl) rfl (R.ldA ag28 sz28 rfl rfl (Cs.cons h6 (Cs.cons h8 Cs.nil))) ?_
    refine LE.c (Wn.no rfl) rfl (R.call bd57 (Ls.cons rfl Ls.nil) rfl) (Calls.mono h ?_)
    rintro _ w10 ⟨r9, rfl, h⟩
    refine ⟨_, rfl, ?_⟩
    refine LE.p (v := (Value.bool (!r9))) (Wn.no rfl) rfl (R.not rfl) ?_
    refine LE.p (v := (Value.bool (!r9))) (Wn.no rfl) rfl (R.move rfl) ?_
    rcases M.ite_use h with ⟨hb11, h⟩ | ⟨hb11, h⟩
    · refine LE.u (Un.no 4 7 false rfl rfl rfl (congrArg Value.bool hb11)) ?_
      refine LE.u (Un.no 4 7 false rfl rfl rfl (congrArg Value.bool hb11)) ?_
      refine LE.u (Un.no 4 7 false rfl rfl rfl (congrArg Value.bool hb11)) ?_
      refine LE.u (Un.no 4 7 false rfl rfl rfl (congrArg Value.bool hb11)) ?_
      refine LE.p (v := (Value.bool true)) (Wn.no rfl) rfl (R.pickT (congrArg Value.bool hb11) rfl) ?_
      refine LE.nil ?_
      exact ⟨_, h, rfl, rfl⟩
    · refine LE.p (v := (Value.pointer (some (b2.add 5)))) (Wn.yes 4 7 false rfl rfl rfl (congrArg Value.bool hb11)) rfl (R.fld (off := 5) fa32_4 rfl) ?_
      obtain ⟨t12, h13, h⟩ := h
      refine LE.r (v := (Value.float .f64 t12)) (Wn.yes 4 7 false rfl rfl rfl (congrArg Value.bool hb11)) rfl (R.ld sc22 rfl h13) ?_
      refine LE.c (Wn.yes 4 7 false rfl rfl rfl (congrArg Value.bool hb11)) rfl (R.call bd58 (Ls.cons rfl Ls.nil) rfl) (Calls.mono h ?_)
      rintro _ w15 ⟨r14, rfl, h⟩
      refine ⟨_, rfl, ?_⟩
      refine LE.p (v := (Value.bool (!r14))) (Wn.yes 4 7 false rfl rfl rfl (congrArg Value.bool hb11)) rfl (R.not rfl) ?_
      refine LE.p (v := (Value.bool (!r14))) (Wn.no rfl) rfl (R.pickF (congrArg Value.bool hb11) rfl) ?_
      refine LE.nil ?_
      exact ⟨_, h, rfl, rfl⟩
  · rintro e16 w17 ⟨x4, h, f18, f19⟩
    subst hJ3
    refine WE.condT rfl (b := x4) f19 ?_ ?_
    · intro hb20
      replace h := M.ite_t h hb20
      refine WE.seq ?_
      refine WE.reg ?_
      refine LE.p (v := (Value.bool false)) (Wn.no rfl) rfl (R.assign rfl) ?_
      refine LE.nil ?_
      refine WE.ret ?_
      exact ⟨_, (Res.tmp rfl Res.nil), _, rfl, h⟩
    · intro hb20
      replace h := M.ite_f h hb20
      refine WE.skip ?_
      refine WE.seq ?_
      refine WE.seq ?_
      refine WE.reg ?_
      refine LE.p (v := (Value.pointer (some (b2.add 2)))) (Wn.no rfl) rfl (R.fld (off := 2) fa32_1 f18) ?_
      obtain ⟨t21, h22, h⟩ := h
      refine LE.r (v := (Value.bool t21)) (Wn.no rfl) rfl (R.ld sc4 rfl h22) ?_
      refine LE.nil ?_
      refine WE.condT rfl (b := t21) rfl ?_ ?_
      · intro hb23
        replace h := M.ite_t h hb23
        refine WE.seq ?_
        obtain ⟨J24, hJ24, h⟩ := M.join_use h
        refine WE.regJ (fun e w => ∃ (x25 : Bool), J24 x25 w ∧ e 2 = (Value.bool x25)) ?_ ?_
        · clear hJ24
          refine LE.p (v := (Value.pointer (some (b2.add 3)))) (Wn.no rfl) rfl (R.fld (off := 3) fa32_2 f18) ?_
          obtain ⟨t26, h27, h⟩ := h
          refine LE.r (v := (Value.int .i64 t26)) (Wn.no rfl) rfl (R.ld sc3 rfl h27) ?_
          refine LE.p (v := (Value.bool (decide ((0 : Int) ≤ t26)))) (Wn.no rfl) rfl (R.geq rfl rfl) ?_
          refine LE.p (v := (Value.bool (decide ((0 : Int) ≤ t26)))) (Wn.no rfl) rfl (R.move rfl) ?_
          rcases M.ite_use h with ⟨hb28, h⟩ | ⟨hb28, h⟩
          · refine LE.p (v := (Value.pointer (some (b2.add 3)))) (Wn.yes 3 18 true rfl rfl rfl (congrArg Value.bool hb28)) rfl (R.fld (off := 3) fa32_2 f18) ?_
            obtain ⟨t29, h30, h⟩ := h
            refine LE.r (v := (Value.int .i64 t29)) (Wn.yes 3 18 true rfl rfl rfl (congrArg Value.bool hb28)) rfl (R.ld sc3 rfl h30) ?_
            refine LE.p (v := (Value.bool (decide (t29 ≤ (255 : Int))))) (Wn.yes 3 18 true rfl rfl rfl (congrArg Value.bool hb28)) rfl (R.leq rfl rfl) ?_
            refine LE.p (v := (Value.bool (decide (t29 ≤ (255 : Int))))) (Wn.no rfl) rfl (R.pickT (congrArg Value.bool hb28) rfl) ?_
            refine LE.p (v := (Value.bool (decide (t29 ≤ (255 : Int))))) (Wn.no rfl) rfl (R.move rfl) ?_
            rcases M.ite_use h with ⟨hb31, h⟩ | ⟨hb31, h⟩
            · refine LE.p (v := (Value.pointer (some (b2.add 4)))) (Wn.yes 8 23 true rfl rfl rfl (congrArg Value.bool hb31)) rfl (R.fld (off := 4) fa32_3 f18) ?_
              obtain ⟨t32, h33, h⟩ := h
              refine LE.r (v := (Value.int .u32 t32)) (Wn.yes 8 23 true rfl rfl rfl (congrArg Value.bool hb31)) rfl (R.ld sc26 rfl h33) ?_
              refine LE.p (v := (Value.bool (t32 == (0 : Int)))) (Wn.yes 8 23 true rfl rfl rfl (congrArg Value.bool hb31)) rfl (R.eql rfl rfl) ?_
              refine LE.p (v := (Value.bool (t32 == (0 : Int)))) (Wn.no rfl) rfl (R.pickT (congrArg Value.bool hb31) rfl) ?_
              refine LE.p (v := (Value.bool (t32 == (0 : Int)))) (Wn.no rfl) rfl (R.assign rfl) ?_
              refine LE.nil ?_
              exact ⟨_, h, rfl⟩
            · refine LE.u (Un.no 8 23 true rfl rfl rfl (congrArg Value.bool hb31)) ?_
              refine LE.u (Un.no 8 23 true rfl rfl rfl (congrArg Value.bool hb31)) ?_
              refine LE.u (Un.no 8 23 true rfl rfl rfl (congrArg Value.bool hb31)) ?_
              refine LE.p (v := (Value.bool false)) (Wn.no rfl) rfl (R.pickF (congrArg Value.bool hb31) rfl) ?_
              refine LE.p (v := (Value.bool false)) (Wn.no rfl) rfl (R.assign rfl) ?_
              refine LE.nil ?_
              exact ⟨_, h, rfl⟩
          · refine LE.u (Un.no 3 18 true rfl rfl rfl (congrArg Value.bool hb28)) ?_
            refine LE.u (Un.no 3 18 true rfl rfl rfl (congrArg Value.bool hb28)) ?_
            refine LE.u (Un.no 3 18 true rfl rfl rfl (congrArg Value.bool hb28)) ?_
            refine LE.p (v := (Value.bool false)) (Wn.no rfl) rfl (R.pickF (congrArg Value.bool hb28) rfl) ?_
            refine LE.p (v := (Value.bool false)) (Wn.no rfl) rfl (R.move rfl) ?_
            refine LE.u (Un.no 8 23 true rfl rfl rfl rfl) ?_
            refine LE.u (Un.no 8 23 true rfl rfl rfl rfl) ?_
            refine LE.u (Un.no 8 23 true rfl rfl rfl rfl) ?_
            refine LE.p (v := (Value.bool false)) (Wn.no rfl) rfl (R.pickF rfl rfl) ?_
            refine LE.p (v := (Value.bool false)) (Wn.no rfl) rfl (R.assign rfl) ?_
            refine LE.nil ?_
            exact ⟨_, h, rfl⟩
        · rintro e34 w35 ⟨x25, h, f36⟩
          subst hJ24
          refine WE.ret ?_
          exact ⟨_, (Res.tmp f36 Res.nil), _, rfl, h⟩
      · intro hb23
        replace h := M.ite_f h hb23
        refine WE.skip ?_
        refine WE.seq ?_
        refine WE.reg ?_
        refine LE.p (v := (Value.pointer (some (b2.add 3)))) (Wn.no rfl) rfl (R.fld (off := 3) fa32_2 f18) ?_
        obtain ⟨t37, h38, h⟩ := h
        refine LE.r (v := (Value.int .i64 t37)) (Wn.no rfl) rfl (R.ld sc3 rfl h38) ?_
        refine LE.p (v := (Value.bool (t37 == (0 : Int)))) (Wn.no rfl) rfl (R.eql rfl rfl) ?_
        refine LE.p (v := (Value.bool (t37 == (0 : Int)))) (Wn.no rfl) rfl (R.assign rfl) ?_
        refine LE.nil ?_
        refine WE.ret ?_
        exact ⟨_, (Res.tmp rfl Res.nil), _, rfl, h⟩
/-- The formula of signpost.signpostref2.Clean. -/
def F46 (p0 : Nat) (K : Nat → World → Prop) (w0 : World) : Prop :=
Calls Try.prog 58 #[(Value.float .f64 p0)] w0 (R58 fun r1 w2 =>
M.ite (!r1) (
Calls Try.prog 37 #[(Value.int .i64 (1 : Int))] w2 (R37 fun r4 w5 =>
K r4 w5)) (
M.ite (fEql p0 (0 : Nat)) (
K (0 : Nat) w2) (
K p0 w2)))
theorem F46_ok {w0 : World} {p0 : Nat} {K : Nat → World → Prop} (h : F46 p0 K w0) : Calls Try.prog 46 #[(Value.float .f64 p0)] w0 (R46 K) := by
  refine calls_of_WE (args := [(Value.float .f64 p0)]) (rs := [.tmp 2]) Try.func46 rfl (N := 10) rfl rfl rfl rfl ?_
  refine WE.seq ?_
  refine WE.reg ?_
  refine LE.p (v := (Value.float .f64 (0 : Nat))) (Wn.no rfl) rfl (R.assign rfl) ?_
  refine LE.nil ?_
  refine WE.seq ?_
  refine WE.seq ?_
  refine WE.reg ?_
  refine LE.p (v := (Value.float .f64 p0)) (Wn.no rfl) rfl (R.move rfl) ?_
  refine LE.c (Wn.no rfl) rfl (R.call bd58 (Ls.cons rfl Ls.nil) rfl) (Calls.mono h ?_)
  rintro _ w2 ⟨r1, rfl, h⟩
  refine ⟨_, rfl, ?_⟩
  refine LE.p (v := (Value.bool (!r1))) (Wn.no rfl) rfl (R.not rfl) ?_
  refine LE.nil ?_
  refine WE.condT rfl (b := (!r1)) rfl ?_ ?_
  · intro hb3
    replace h := M.ite_t h hb3
    refine WE.seq ?_
    refine WE.reg ?_
    refine LE.c (Wn.no rfl) rfl (R.call bd37 (Ls.cons rfl Ls.nil) rfl) (Calls.mono h ?_)
    rintro _ w5 ⟨r4, rfl, h⟩
    refine ⟨_, rfl, ?_⟩
    refine LE.p (v := (Value.float .f64 r4)) (Wn.no rfl) rfl (R.assign rfl) ?_
    refine LE.nil ?_
    refine WE.ret ?_
    exact ⟨_, (Res.tmp rfl Res.nil), _, rfl, h⟩
  · intro hb3
    replace h := M.ite_f h hb3
    refine WE.skip ?_
    refine WE.seq ?_
    refine WE.seq ?_
    refine WE.reg ?_
    refine LE.p (v := (Value.float .f64 p0)) (Wn.no rfl) rfl (R.move rfl) ?_
    refine LE.p (v := (Value.bool (fEql p0 (0 : Nat)))) (Wn.no rfl) rfl (R.feql rfl rfl) ?_
    refine LE.nil ?_
    refine WE.condT rfl (b := (fEql p0 (0 : Nat))) rfl ?_ ?_
    · intro hb6
      replace h := M.ite_t h hb6
      refine WE.seq ?_
      refine WE.reg ?_
      refine LE.p (v := (Value.float .f64 (0 : Nat))) (Wn.no rfl) rfl (R.assign rfl) ?_
      refine LE.nil ?_
      refine WE.ret ?_
      exact ⟨_, (Res.tmp rfl Res.nil), _, rfl, h⟩
    · intro hb6
      replace h := M.ite_f h hb6
      refine WE.skip ?_
      refine WE.seq ?_
      refine WE.reg ?_
      refine LE.p (v := (Value.float .f64 p0)) (Wn.no rfl) rfl (R.move rfl) ?_
      refine LE.p (v := (Value.float .f64 p0)) (Wn.no rfl) rfl (R.assign rfl) ?_
      refine LE.nil ?_
      refine WE.ret ?_
      exact ⟨_, (Res.tmp rfl Res.nil), _, rfl, h⟩
/-- The formula of (*signpost.signpostref15.Table).Get. -/
def F47 (p0 : Option Addr) (p1_0 : Int) (p1_1 : Int) (K : Int → Int → Bool → Int → Int → Nat → Bool → World → Prop) (w0 : World) : Prop :=
M.new (.cells #[(Value.int .u32 p1_0), (Value.int .i64 p1_1)] 28) w0 fun b2 w1 =>
M.new (.cells #[(Value.int .u32 (0 : Int)), (Value.int .i64 (0 : Int)), (Value.bool false), (Value.int .i64 (0 : Int)), (Value.int .u32 (0 : Int)), (Value.float .f64 (0 : Nat))] 32) w1 fun b4 w3 =>
M.loop1 (fun (J6 : Int → World → Prop) (x5 : Int) (w7 : World) => 
M.nil p0 fun a18 =>
M.ld SV.v a18 w7 fun t20 =>
M.ite (decide (x5 < (t20.len : Int))) (
M.drew w7 fun w23 => 
M.nil p0 fun a24 =>
M.ld SV.v a24 w23 fun t26 =>
M.idx t26 x5 6 fun a28 =>
M.ld (Value.int .u32) (a28.add (x5.toNat * 6)) w23 fun t32 =>
M.ld (Value.int .i64) ((a28.add (x5.toNat * 6)).add 1) w23 fun t34 =>
M.ld (Value.int .u32) b2 w23 fun t36 =>
M.ld (Value.int .i64) (b2.add 1) w23 fun t38 =>
M.ite ((t32 == t36) && (t34 == t38)) (
M.nil p0 fun a41 =>
M.ld SV.v a41 w23 fun t43 =>
M.idx t43 x5 6 fun a45 =>
∃ (t49 : Int) (t50 : Int) (t51 : Bool) (t52 : Int) (t53 : Int) (t54 : Nat), Cs w23 (a45.add (x5.toNat * 6)) 0 [(Value.int .u32 t49), (Value.int .i64 t50), (Value.bool t51), (Value.int .i64 t52), (Value.int .u32 t53), (Value.float .f64 t54)] ∧
M.stA b4 [(Value.int .u32 t49), (Value.int .i64 t50), (Value.bool t51), (Value.int .i64 t52), (Value.int .u32 t53), (Value.float .f64 t54)] w23 fun w56 =>
∃ (t58 : Int) (t59 : Int) (t60 : Bool) (t61 : Int) (t62 : Int) (t63 : Nat), Cs w56 b4 0 [(Value.int .u32 t58), (Value.int .i64 t59), (Value.bool t60), (Value.int .i64 t61), (Value.int .u32 t62), (Value.float .f64 t63)] ∧
K t58 t59 t60 t61 t62 t63 true w56) (
J6 (IntKind.i64.wrap (x5 + (1 : Int))) w23)) (
M.stA b4 [(Value.int .u32 (0 : Int)), (Value.int .i64 (0 : Int)), (Value.bool false), (Value.int .i64 (0 : Int)), (Value.int .u32 (0 : Int)), (Value.float .f64 (0 : Nat))] w7 fun w65 =>
∃ (t67 : Int) (t68 : Int) (t69 : Bool) (t70 : Int) (t71 : Int) (t72 : Nat), Cs w65 b4 0 [(Value.int .u32 t67), (Value.int .i64 t68), (Value.bool t69), (Value.int .i64 t70), (Value.int .u32 t71), (Value.float .f64 t72)] ∧
K t67 t68 t69 t70 t71 t72 false w65)) (0 : Int) w3
theorem F47_ok {w0 : World} {p0 : Option Addr} {p1_0 : Int} {p1_1 : Int} {K : Int → Int → Bool → Int → Int → Nat → Bool → World → Prop} (h : F47 p0 p1_0 p1_1 K w0) : Calls Try.prog 47 #[(Value.pointer p0), (Value.agg #[(Value.int .u32 p1_0), (Value.int .i64 p1_1)])] w0 (R47 K) := by
  refine calls_of_WE (args := [(Value.pointer p0), (Value.agg #[(Value.int .u32 p1_0), (Value.int .i64 p1_1)])]) (rs := [.cell 4 32, .tmp 5]) Try.func47 rfl (N := 34) rfl rfl rfl rfl ?_
  refine WE.seq ?_
  refine WE.reg ?_
  obtain ⟨b2, hpb2, w1, hww1, h⟩ := M.new_use h
  refine LE.r (v := (Value.pointer (some b2))) (Wn.no rfl) rfl (R.box (cs := #[(Value.int .u32 p1_0), (Value.int .i64 p1_1)]) rfl rfl hpb2 hww1) ?_
  obtain ⟨b4, hpb4, w3, hww3, h⟩ := M.new_use h
  refine LE.r (v := (Value.pointer (some b4))) (Wn.no rfl) rfl (R.alloc (cs := #[(Value.int .u32 (0 : Int)), (Value.int .i64 (0 : Int)), (Value.bool false), (Value.int .i64 (0 : Int)), (Value.int .u32 (0 : Int)), (Value.float .f64 (0 : Nat))]) ze32 rfl hpb4 hww3) ?_
  refine LE.p (v := (Value.bool false)) (Wn.no rfl) rfl (R.assign rfl) ?_
  refine LE.nil ?_
  refine WE.seq ?_
  refine WE.seq ?_
  refine WE.reg ?_
  refine LE.p (v := (Value.int .i64 (0 : Int))) (Wn.no rfl) rfl (R.assign rfl) ?_
  refine LE.nil ?_
  refine WE.block ?_
  obtain ⟨I10, ⟨n9, h⟩, hr11⟩ := h
  refine WE.loop (fun n e w => ∃ (x5 : Int), I10 n x5 w ∧ e 0 = (Value.pointer p0) ∧ e 3 = (Value.pointer (some b2)) ∧ e 4 = (Value.pointer (some b4)) ∧ e 6 = (Value.int .i64 x5)) n9 ⟨_, h, rfl, rfl, rfl, rfl⟩ ?_
  clear h
  rintro n9 e8 w7 ⟨x5, h, f14, f15, f16, f17⟩
  replace h := hr11 n9 x5 w7 h
  refine WE.seq ?_
  refine WE.seq ?_
  refine WE.reg ?_
  refine LE.p (v := (Value.int .i64 x5)) (Wn.no rfl) rfl (R.move f17) ?_
  refine LE.p (v := (Value.pointer p0)) (Wn.no rfl) rfl (R.move f14) ?_
  obtain ⟨a18, h19, h⟩ := h
  refine LE.p (v := (Value.pointer (some a18))) (Wn.no rfl) rfl (R.nilC (congrArg Value.pointer h19)) ?_
  refine LE.p (v := (Value.pointer (some a18))) (Wn.no rfl) rfl (R.fld (off := 0) fa74_0 rfl) ?_
  obtain ⟨t20, h21, h⟩ := h
  refine LE.r (v := (SV.v t20)) (Wn.no rfl) rfl (R.ld sc44 rfl h21) ?_
  refine LE.p (v := (Value.int .i64 (t20.len : Int))) (Wn.no rfl) rfl (R.len sl44 rfl) ?_
  refine LE.p (v := (Value.bool (decide (x5 < (t20.len : Int))))) (Wn.no rfl) rfl (R.lss rfl rfl) ?_
  refine LE.nil ?_
  refine WE.condT rfl (b := (decide (x5 < (t20.len : Int)))) rfl ?_ ?_
  · intro hb22
    replace h := M.ite_t h hb22
    refine WE.skip ?_
    refine WE.seq ?_
    refine WE.block ?_
    refine WE.seq ?_
    refine WE.draw mix ?_
    obtain ⟨w23, hww23, h⟩ := M.drew_use h
    rw [← hww23]
    clear hww23
    refine DE.t 0 (v := (Value.pointer p0)) rfl (by kernel_rfl) (Wn.no rfl) rfl (R.move f14) ?_
    obtain ⟨a24, h25, h⟩ := h
    refine DE.t 1 (v := (Value.pointer (some a24))) rfl (by kernel_rfl) (Wn.no rfl) rfl (R.nilC (congrArg Value.pointer h25)) ?_
    refine DE.t 2 (v := (Value.pointer (some a24))) rfl (by kernel_rfl) (Wn.no rfl) rfl (R.fld (off := 0) fa74_0 rfl) ?_
    refine DE.t 4 (v := (Value.int .i64 x5)) rfl (by kernel_rfl) (Wn.no rfl) rfl (R.move f17) ?_
    obtain ⟨t26, h27, h⟩ := h
    refine DE.hold 3 (fun w => w.cell? a24 = some (SV.v t26)) (v := (SV.v t26)) rfl (by kernel_rfl) (Wn.no rfl) rfl h27 (fun w hs => R.ld sc44 rfl hs) ?_
    obtain ⟨a28, h29, h30, h31, h⟩ := h
    refine DE.t 5 (v := (Value.pointer (some (a28.add (x5.toNat * 6))))) rfl (by kernel_rfl) (Wn.no rfl) rfl (R.idx (s := t26) sl44 rfl rfl h29 h30 h31) ?_
    refine DE.t 6 (v := (Value.pointer (some (a28.add (x5.toNat * 6))))) rfl (by kernel_rfl) (Wn.no rfl) rfl (R.fld (off := 0) fa32_0 rfl) ?_
    obtain ⟨t32, h33, h⟩ := h
    obtain ⟨t34, h35, h⟩ := h
    refine DE.hold 7 (fun w => w.cell? (a28.add (x5.toNat * 6)) = some (Value.int .u32 t32) ∧ w.cell? ((a28.add (x5.toNat * 6)).add 1) = some (Value.int .i64 t34)) (v := (Value.agg #[(Value.int .u32 t32), (Value.int .i64 t34)])) rfl (by kernel_rfl) (Wn.no rfl) rfl ⟨h33, h35⟩ (fun w hs => R.ldA ag28 sz28 rfl rfl (Cs.cons hs.1 (Cs.cons hs.2 Cs.nil))) ?_
    obtain ⟨t36, h37, h⟩ := h
    obtain ⟨t38, h39, h⟩ := h
    refine DE.main 8 (by kernel_rfl) ?_
    refine One.r 8 (v := (Value.agg #[(Value.int .u32 t36), (Value.int .i64 t38)])) rfl (Wn.no rfl) rfl (R.ldA ag28 sz28 f15 rfl (Cs.cons h37 (Cs.cons h39 Cs.nil))) (.inl rfl) ?_
    refine DE.t 9 (v := (Value.bool ((t32 == t36) && (t34 == t38)))) rfl (by kernel_rfl) (Wn.no rfl) rfl (R.eqS (fun w => eq28 t32 t36 t34 t38 w) sg28 rfl rfl) ?_
    refine DE.done (by kernel_rfl) ?_
    refine WE.condT rfl (b := ((t32 == t36) && (t34 == t38))) rfl ?_ ?_
    · intro hb40
      replace h := M.ite_t h hb40
      refine WE.seq ?_
      refine WE.reg ?_
      refine LE.p (v := (Value.pointer p0)) (Wn.no rfl) rfl (R.move f14) ?_
      obtain ⟨a41, h42, h⟩ := h
      refine LE.p (v := (Value.pointer (some a41))) (Wn.no rfl) rfl (R.nilC (congrArg Value.pointer h42)) ?_
      refine LE.p (v := (Value.pointer (some a41))) (Wn.no rfl) rfl (R.fld (off := 0) fa74_0 rfl) ?_
      obtain ⟨t43, h44, h⟩ := h
      refine LE.r (v := (SV.v t43)) (Wn.no rfl) rfl (R.ld sc44 rfl h44) ?_
      refine LE.p (v := (Value.int .i64 x5)) (Wn.no rfl) rfl (R.move f17) ?_
      obtain ⟨a45, h46, h47, h48, h⟩ := h
      refine LE.p (v := (Value.pointer (some (a45.add (x5.toNat * 6))))) (Wn.no rfl) rfl (R.idx (s := t43) sl44 rfl rfl h46 h47 h48) ?_
      obtain ⟨t49, t50, t51, t52, t53, t54, h55, h⟩ := h
      refine LE.r (v := (Value.agg #[(Value.int .u32 t49), (Value.int .i64 t50), (Value.bool t51), (Value.int .i64 t52), (Value.int .u32 t53), (Value.float .f64 t54)])) (Wn.no rfl) rfl (R.ldA ag32 sz32 rfl rfl h55) ?_
      obtain ⟨w56, hww56, h57, h⟩ := M.stA_use h
      refine LE.s (Wn.no rfl) rfl (R.stA (a := b4) [(Value.int .u32 t49), (Value.int .i64 t50), (Value.bool t51), (Value.int .i64 t52), (Value.int .u32 t53), (Value.float .f64 t54)] sz32 f16 rfl rfl (by simp [Value.oneCell']) h57 hww56) ?_
      refine LE.p (v := (Value.bool true)) (Wn.no rfl) rfl (R.assign rfl) ?_
      refine LE.nil ?_
      refine WE.ret ?_
      obtain ⟨t58, t59, t60, t61, t62, t63, h64, h⟩ := h
      exact ⟨_, (Res.cell f16 (R.ldCellA ag32 sz32 rfl h64) (Res.tmp rfl Res.nil)), _, _, _, _, _, _, _, rfl, h⟩
    · intro hb40
      replace h := M.ite_f h hb40
      refine WE.skip ?_
      refine WE.reg ?_
      refine LE.p (v := (Value.int .i64 x5)) (Wn.no rfl) rfl (R.move f17) ?_
      refine LE.p (v := (Value.int .i64 (IntKind.i64.wrap (x5 + (1 : Int))))) (Wn.no rfl) rfl (R.add rfl rfl) ?_
      refine LE.p (v := (Value.int .i64 (IntKind.i64.wrap (x5 + (1 : Int))))) (Wn.no rfl) rfl (R.assign rfl) ?_
      refine LE.nil ?_
      obtain ⟨m12, hm13, h⟩ := h
      exact ⟨m12, hm13, _, h, f14, f15, f16, rfl⟩
  · intro hb22
    replace h := M.ite_f h hb22
    refine WE.exit ?_
    refine WE.seq ?_
    refine WE.reg ?_
    refine LE.p (v := (Value.agg #[(Value.int .u32 (0 : Int)), (Value.int .i64 (0 : Int)), (Value.bool false), (Value.int .i64 (0 : Int)), (Value.int .u32 (0 : Int)), (Value.float .f64 (0 : Nat))])) (Wn.no rfl) rfl (R.bld (by exact Ls.nil) (fun w => bu32_  w)) ?_
    obtain ⟨w65, hww65, h66, h⟩ := M.stA_use h
    refine LE.s (Wn.no rfl) rfl (R.stA (a := b4) [(Value.int .u32 (0 : Int)), (Value.int .i64 (0 : Int)), (Value.bool false), (Value.int .i64 (0 : Int)), (Value.int .u32 (0 : Int)), (Value.float .f64 (0 : Nat))] sz32 f16 rfl rfl (by simp [Value.oneCell']) h66 hww65) ?_
    refine LE.p (v := (Value.bool false)) (Wn.no rfl) rfl (R.assign rfl) ?_
    refine LE.nil ?_
    refine WE.ret ?_
    obtain ⟨t67, t68, t69, t70, t71, t72, h73, h⟩ := h
    exact ⟨_, (Res.cell f16 (R.ldCellA ag32 sz32 rfl h73) (Res.tmp rfl Res.nil)), _, _, _, _, _, _, _, rfl, h⟩
/-- The formula of (*signpost.signpostref15.Table).Cut. -/
def F48 (p0 : Option Addr) (p1_0 : Int) (p1_1 : Int) (K : Bool → World → Prop) (w0 : World) : Prop :=
M.new (.cells #[(Value.int .u32 p1_0), (Value.int .i64 p1_1)] 28) w0 fun b2 w1 =>
M.loop1 (fun (J4 : Int → World → Prop) (x3 : Int) (w5 : World) => 
M.nil p0 fun a15 =>
M.ld SV.v a15 w5 fun t17 =>
M.ite (decide (x3 < (t17.len : Int))) (
M.drew w5 fun w20 => 
M.nil p0 fun a21 =>
M.ld SV.v a21 w20 fun t23 =>
M.idx t23 x3 6 fun a25 =>
M.ld (Value.int .u32) (a25.add (x3.toNat * 6)) w20 fun t29 =>
M.ld (Value.int .i64) ((a25.add (x3.toNat * 6)).add 1) w20 fun t31 =>
M.ld (Value.int .u32) b2 w20 fun t33 =>
M.ld (Value.int .i64) (b2.add 1) w20 fun t35 =>
M.ite ((t29 == t33) && (t31 == t35)) (
M.drew w20 fun w38 => 
M.nil p0 fun a39 =>
M.nil p0 fun a41 =>
M.ld SV.v a39 w38 fun t43 =>
M.bnd (0 : Int) x3 t43 <|
M.ld SV.v a41 w38 fun t49 =>
M.bnd (IntKind.i64.wrap (x3 + (1 : Int))) (t49.len : Int) t49 <|
M.new (.cells #[] 32) w38 fun b57 w55 =>
M.keep (w55.cell? a41 = some (SV.v t49)) <|
M.keep (w55.cell? a39 = some (SV.v t43)) <|
M.app Try.prog 44 44 44 (SV.mk (some b57) 0 0) (SV.v (SV.sub t43 (Int.toNat (0 : Int)) (Int.toNat x3) 6)) w55 fun s60 w61 =>
M.keep (w61.cell? a41 = some (SV.v t49)) <|
M.app Try.prog 44 44 44 s60 (SV.v (SV.sub t49 (Int.toNat (IntKind.i64.wrap (x3 + (1 : Int)))) (Int.toNat (t49.len : Int)) 6)) w61 fun s64 w65 =>
M.nil p0 fun a67 =>
M.st a67 (SV.v s64) w65 fun w69 =>
K true w69) (
J4 (IntKind.i64.wrap (x3 + (1 : Int))) w20)) (
K false w5)) (0 : Int) w1
theorem F48_ok {w0 : World} {p0 : Option Addr} {p1_0 : Int} {p1_1 : Int} {K : Bool → World → Prop} (h : F48 p0 p1_0 p1_1 K w0) : Calls Try.prog 48 #[(Value.pointer p0), (Value.agg #[(Value.int .u32 p1_0), (Value.int .i64 p1_1)])] w0 (R48 K) := by
  refine calls_of_WE (args := [(Value.pointer p0), (Value.agg #[(Value.int .u32 p1_0), (Value.int .i64 p1_1)])]) (rs := [.tmp 4]) Try.func48 rfl (N := 44) rfl rfl rfl rfl ?_
  refine WE.seq ?_
  refine WE.reg ?_
  obtain ⟨b2, hpb2, w1, hww1, h⟩ := M.new_use h
  refine LE.r (v := (Value.pointer (some b2))) (Wn.no rfl) rfl (R.box (cs := #[(Value.int .u32 p1_0), (Value.int .i64 p1_1)]) rfl rfl hpb2 hww1) ?_
  refine LE.p (v := (Value.bool false)) (Wn.no rfl) rfl (R.assign rfl) ?_
  refine LE.nil ?_
  refine WE.seq ?_
  refine WE.seq ?_
  refine WE.reg ?_
  refine LE.p (v := (Value.int .i64 (0 : Int))) (Wn.no rfl) rfl (R.assign rfl) ?_
  refine LE.nil ?_
  refine WE.block ?_
  obtain ⟨I8, ⟨n7, h⟩, hr9⟩ := h
  refine WE.loop (fun n e w => ∃ (x3 : Int), I8 n x3 w ∧ e 0 = (Value.pointer p0) ∧ e 3 = (Value.pointer (some b2)) ∧ e 5 = (Value.int .i64 x3)) n7 ⟨_, h, rfl, rfl, rfl⟩ ?_
  clear h
  rintro n7 e6 w5 ⟨x3, h, f12, f13, f14⟩
  replace h := hr9 n7 x3 w5 h
  refine WE.seq ?_
  refine WE.seq ?_
  refine WE.reg ?_
  refine LE.p (v := (Value.int .i64 x3)) (Wn.no rfl) rfl (R.move f14) ?_
  refine LE.p (v := (Value.pointer p0)) (Wn.no rfl) rfl (R.move f12) ?_
  obtain ⟨a15, h16, h⟩ := h
  refine LE.p (v := (Value.pointer (some a15))) (Wn.no rfl) rfl (R.nilC (congrArg Value.pointer h16)) ?_
  refine LE.p (v := (Value.pointer (some a15))) (Wn.no rfl) rfl (R.fld (off := 0) fa74_0 rfl) ?_
  obtain ⟨t17, h18, h⟩ := h
  refine LE.r (v := (SV.v t17)) (Wn.no rfl) rfl (R.ld sc44 rfl h18) ?_
  refine LE.p (v := (Value.int .i64 (t17.len : Int))) (Wn.no rfl) rfl (R.len sl44 rfl) ?_
  refine LE.p (v := (Value.bool (decide (x3 < (t17.len : Int))))) (Wn.no rfl) rfl (R.lss rfl rfl) ?_
  refine LE.nil ?_
  refine WE.condT rfl (b := (decide (x3 < (t17.len : Int)))) rfl ?_ ?_
  · intro hb19
    replace h := M.ite_t h hb19
    refine WE.skip ?_
    refine WE.seq ?_
    refine WE.block ?_
    refine WE.seq ?_
    refine WE.draw mix ?_
    obtain ⟨w20, hww20, h⟩ := M.drew_use h
    rw [← hww20]
    clear hww20
    refine DE.t 0 (v := (Value.pointer p0)) rfl (by kernel_rfl) (Wn.no rfl) rfl (R.move f12) ?_
    obtain ⟨a21, h22, h⟩ := h
    refine DE.t 1 (v := (Value.pointer (some a21))) rfl (by kernel_rfl) (Wn.no rfl) rfl (R.nilC (congrArg Value.pointer h22)) ?_
    refine DE.t 2 (v := (Value.pointer (some a21))) rfl (by kernel_rfl) (Wn.no rfl) rfl (R.fld (off := 0) fa74_0 rfl) ?_
    refine DE.t 4 (v := (Value.int .i64 x3)) rfl (by kernel_rfl) (Wn.no rfl) rfl (R.move f14) ?_
    obtain ⟨t23, h24, h⟩ := h
    refine DE.hold 3 (fun w => w.cell? a21 = some (SV.v t23)) (v := (SV.v t23)) rfl (by kernel_rfl) (Wn.no rfl) rfl h24 (fun w hs => R.ld sc44 rfl hs) ?_
    obtain ⟨a25, h26, h27, h28, h⟩ := h
    refine DE.t 5 (v := (Value.pointer (some (a25.add (x3.toNat * 6))))) rfl (by kernel_rfl) (Wn.no rfl) rfl (R.idx (s := t23) sl44 rfl rfl h26 h27 h28) ?_
    refine DE.t 6 (v := (Value.pointer (some (a25.add (x3.toNat * 6))))) rfl (by kernel_rfl) (Wn.no rfl) rfl (R.fld (off := 0) fa32_0 rfl) ?_
    obtain ⟨t29, h30, h⟩ := h
    obtain ⟨t31, h32, h⟩ := h
    refine DE.hold 7 (fun w => w.cell? (a25.add (x3.toNat * 6)) = some (Value.int .u32 t29) ∧ w.cell? ((a25.add (x3.toNat * 6)).add 1) = some (Value.int .i64 t31)) (v := (Value.agg #[(Value.int .u32 t29), (Value.int .i64 t31)])) rfl (by kernel_rfl) (Wn.no rfl) rfl ⟨h30, h32⟩ (fun w hs => R.ldA ag28 sz28 rfl rfl (Cs.cons hs.1 (Cs.cons hs.2 Cs.nil))) ?_
    obtain ⟨t33, h34, h⟩ := h
    obtain ⟨t35, h36, h⟩ := h
    refine DE.main 8 (by kernel_rfl) ?_
    refine One.r 8 (v := (Value.agg #[(Value.int .u32 t33), (Value.int .i64 t35)])) rfl (Wn.no rfl) rfl (R.ldA ag28 sz28 f13 rfl (Cs.cons h34 (Cs.cons h36 Cs.nil))) (.inl rfl) ?_
    refine DE.t 9 (v := (Value.bool ((t29 == t33) && (t31 == t35)))) rfl (by kernel_rfl) (Wn.no rfl) rfl (R.eqS (fun w => eq28 t29 t33 t31 t35 w) sg28 rfl rfl) ?_
    refine DE.done (by kernel_rfl) ?_
    refine WE.condT rfl (b := ((t29 == t33) && (t31 == t35))) rfl ?_ ?_
    · intro hb37
      replace h := M.ite_t h hb37
      refine WE.seq ?_
      refine WE.draw mix ?_
      obtain ⟨w38, hww38, h⟩ := M.drew_use h
      rw [← hww38]
      clear hww38
      refine DE.t 0 (v := (Value.pointer p0)) rfl (by kernel_rfl) (Wn.no rfl) rfl (R.move f12) ?_
      refine DE.t 2 (v := (Value.pointer p0)) rfl (by kernel_rfl) (Wn.no rfl) rfl (R.move f12) ?_
      obtain ⟨a39, h40, h⟩ := h
      refine DE.t 3 (v := (Value.pointer (some a39))) rfl (by kernel_rfl) (Wn.no rfl) rfl (R.nilC (congrArg Value.pointer h40)) ?_
      refine DE.t 4 (v := (Value.pointer (some a39))) rfl (by kernel_rfl) (Wn.no rfl) rfl (R.fld (off := 0) fa74_0 rfl) ?_
      refine DE.t 6 (v := (Value.int .i64 x3)) rfl (by kernel_rfl) (Wn.no rfl) rfl (R.move f14) ?_
      refine DE.t 9 (v := (Value.pointer p0)) rfl (by kernel_rfl) (Wn.no rfl) rfl (R.move f12) ?_
      obtain ⟨a41, h42, h⟩ := h
      refine DE.t 10 (v := (Value.pointer (some a41))) rfl (by kernel_rfl) (Wn.no rfl) rfl (R.nilC (congrArg Value.pointer h42)) ?_
      refine DE.t 11 (v := (Value.pointer (some a41))) rfl (by kernel_rfl) (Wn.no rfl) rfl (R.fld (off := 0) fa74_0 rfl) ?_
      refine DE.t 13 (v := (Value.int .i64 x3)) rfl (by kernel_rfl) (Wn.no rfl) rfl (R.move f14) ?_
      refine DE.t 14 (v := (Value.int .i64 (IntKind.i64.wrap (x3 + (1 : Int))))) rfl (by kernel_rfl) (Wn.no rfl) rfl (R.add rfl rfl) ?_
      obtain ⟨t43, h44, h⟩ := h
      refine DE.hold 5 (fun w => w.cell? a39 = some (SV.v t43)) (v := (SV.v t43)) rfl (by kernel_rfl) (Wn.no rfl) rfl h44 (fun w hs => R.ld sc44 rfl hs) ?_
      obtain ⟨h45, h46, h47, h⟩ := h
      refine DE.t 7 (v := (SV.v (SV.sub t43 (Int.toNat (0 : Int)) (Int.toNat x3) 6))) rfl (by kernel_rfl) (Wn.no rfl) rfl (R.slc (s := t43) (lo := (0 : Int)) (hi := x3) _ _ sl44 rfl rfl rfl h45 h46 h47) ?_
      obtain ⟨t49, h50, h⟩ := h
      refine DE.hold 12 (fun w => w.cell? a41 = some (SV.v t49)) (v := (SV.v t49)) rfl (by kernel_rfl) (Wn.no rfl) rfl h50 (fun w hs => R.ld sc44 rfl hs) ?_
      obtain ⟨h51, h52, h53, h⟩ := h
      refine DE.t 15 (v := (SV.v (SV.sub t49 (Int.toNat (IntKind.i64.wrap (x3 + (1 : Int)))) (Int.toNat (t49.len : Int)) 6))) rfl (by kernel_rfl) (Wn.no rfl) rfl (R.slc (s := t49) (lo := (IntKind.i64.wrap (x3 + (1 : Int)))) (hi := (t49.len : Int)) _ _ sl44 rfl rfl rfl h51 h52 h53) ?_
      obtain ⟨b57, hpb57, w55, hww55, h⟩ := M.new_use h
      obtain ⟨k58, h⟩ := h
      obtain ⟨k59, h⟩ := h
      refine DE.main 1 (by kernel_rfl) ?_
      refine One.r 1 (v := (SV.v (SV.mk (some b57) 0 0))) rfl (Wn.no rfl) rfl (R.bsl (by exact Ls.nil) (fun w => bs44_0  w) hpb57 hww55) (.inr ⟨fun _ => k58, fun _ => k59, trivial⟩) ?_
      obtain ⟨s60, w61, h62, h⟩ := h
      obtain ⟨k63, h⟩ := h
      refine DE.main 8 (by kernel_rfl) ?_
      refine One.r 8 (v := (SV.v s60)) rfl (Wn.no rfl) rfl (R.app (s := (SV.mk (some b57) 0 0)) (r := s60) rfl rfl h62) (.inr ⟨fun _ => k63, aftT (by kernel_rfl), trivial⟩) ?_
      obtain ⟨s64, w65, h66, h⟩ := h
      refine DE.main 16 (by kernel_rfl) ?_
      refine One.r 16 (v := (SV.v s64)) rfl (Wn.no rfl) rfl (R.app (s := s60) (r := s64) rfl rfl h66) (.inr ⟨aftT (by kernel_rfl), aftT (by kernel_rfl), trivial⟩) ?_
      obtain ⟨a67, h68, h⟩ := h
      refine DE.t 17 (v := (Value.pointer (some a67))) rfl (by kernel_rfl) (Wn.no rfl) rfl (R.nilC (congrArg Value.pointer h68)) ?_
      refine DE.t 18 (v := (Value.pointer (some a67))) rfl (by kernel_rfl) (Wn.no rfl) rfl (R.fld (off := 0) fa74_0 rfl) ?_
      obtain ⟨w69, hww69, h70, h71, h⟩ := M.st_use h
      refine DE.main 19 (by kernel_rfl) ?_
      refine One.s 19 rfl (Wn.no rfl) rfl (R.st (a := a67) (v := (SV.v s64)) sz44 rfl rfl rfl rfl h70 h71 hww69) ⟨aftT (by kernel_rfl), aftT (by kernel_rfl), trivial⟩ ?_
      refine DE.done (by kernel_rfl) ?_
      refine WE.seq ?_
      refine WE.reg ?_
      refine LE.p (v := (Value.bool true)) (Wn.no rfl) rfl (R.assign rfl) ?_
      refine LE.nil ?_
      refine WE.ret ?_
      exact ⟨_, (Res.tmp rfl Res.nil), _, rfl, h⟩
    · intro hb37
      replace h := M.ite_f h hb37
      refine WE.skip ?_
      refine WE.reg ?_
      refine LE.p (v := (Value.int .i64 x3)) (Wn.no rfl) rfl (R.move f14) ?_
      refine LE.p (v := (Value.int .i64 (IntKind.i64.wrap (x3 + (1 : Int))))) (Wn.no rfl) rfl (R.add rfl rfl) ?_
      refine LE.p (v := (Value.int .i64 (IntKind.i64.wrap (x3 + (1 : Int))))) (Wn.no rfl) rfl (R.assign rfl) ?_
      refine LE.nil ?_
      obtain ⟨m10, hm11, h⟩ := h
      exact ⟨m10, hm11, _, h, f12, f13, rfl⟩
  · intro hb19
    replace h := M.ite_f h hb19
    refine WE.exit ?_
    refine WE.seq ?_
    refine WE.reg ?_
    refine LE.p (v := (Value.bool false)) (Wn.no rfl) rfl (R.assign rfl) ?_
    refine LE.nil ?_
    refine WE.ret ?_
    exact ⟨_, (Res.tmp rfl Res.nil), _, rfl, h⟩
/-- The formula of signpost.signpostref1.Less. -/
def F49 (p0_0 : Int) (p0_1 : Int) (p1_0 : Int) (p1_1 : Int) (K : Bool → World → Prop) (w0 : World) : Prop :=
M.new (.cells #[(Value.int .u32 p0_0), (Value.int .i64 p0_1)] 28) w0 fun b2 w1 =>
M.new (.cells #[(Value.int .u32 p1_0), (Value.int .i64 p1_1)] 28) w1 fun b4 w3 =>
M.join (fun (x6 : Bool) (w21 : World) => 
M.ite x6 (
K false w21) (
M.join (fun (x27 : Bool) (w43 : World) => 
K x27 w43) fun J26 => 
M.ld (Value.int .u32) b2 w21 fun t28 =>
M.ld (Value.int .u32) b4 w21 fun t30 =>
M.ite (decide (t28 < t30)) (
J26 true w21) (
M.ld (Value.int .u32) b2 w21 fun t33 =>
M.ld (Value.int .u32) b4 w21 fun t35 =>
M.ite (t33 == t35) (
M.ld (Value.int .i64) (b2.add 1) w21 fun t38 =>
M.ld (Value.int .i64) (b4.add 1) w21 fun t40 =>
J26 (decide (t38 < t40)) w21) (
J26 false w21)))) fun J5 => 
M.ld (Value.int .u32) b2 w3 fun t7 =>
M.ld (Value.int .i64) (b2.add 1) w3 fun t9 =>
Calls Try.prog 57 #[(Value.agg #[(Value.int .u32 t7), (Value.int .i64 t9)])] w3 (R57 fun r11 w12 =>
M.ite (!r11) (
J5 true w12) (
M.ld (Value.int .u32) b4 w12 fun t14 =>
M.ld (Value.int .i64) (b4.add 1) w12 fun t16 =>
Calls Try.prog 57 #[(Value.agg #[(Value.int .u32 t14), (Value.int .i64 t16)])] w12 (R57 fun r18 w19 =>
J5 (!r18) w19)))
theorem F49_ok {w0 : World} {p0_0 : Int} {p0_1 : Int} {p1_0 : Int} {p1_1 : Int} {K : Bool → World → Prop} (h : F49 p0_0 p0_1 p1_0 p1_1 K w0) : Calls Try.prog 49 #[(Value.agg #[(Value.int .u32 p0_0), (Value.int .i64 p0_1)]), (Value.agg #[(Value.int .u32 p1_0), (Value.int .i64 p1_1)])] w0 (R49 K) := by
  refine calls_of_WE (args := [(Value.agg #[(Value.int .u32 p0_0), (Value.int .i64 p0_1)]), (Value.agg #[(Value.int .u32 p1_0), (Value.int .i64 p1_1)])]) (rs := [.tmp 4]) Try.func49 rfl (N := 32) rfl rfl rfl rfl ?_
  refine WE.seq ?_
  refine WE.reg ?_
  obtain ⟨b2, hpb2, w1, hww1, h⟩ := M.new_use h
  refine LE.r (v := (Value.pointer (some b2))) (Wn.no rfl) rfl (R.box (cs := #[(Value.int .u32 p0_0), (Value.int .i64 p0_1)]) rfl rfl hpb2 hww1) ?_
  obtain ⟨b4, hpb4, w3, hww3, h⟩ := M.new_use h
  refine LE.r (v := (Value.pointer (some b4))) (Wn.no rfl) rfl (R.box (cs := #[(Value.int .u32 p1_0), (Value.int .i64 p1_1)]) rfl rfl hpb4 hww3) ?_
  refine LE.p (v := (Value.bool false)) (Wn.no rfl) rfl (R.assign rfl) ?_
  refine LE.nil ?_
  refine WE.seq ?_
  refine WE.seq ?_
  obtain ⟨J5, hJ5, h⟩ := M.join_use h
  refine WE.regJ (fun e w => ∃ (x6 : Bool), J5 x6 w ∧ e 2 = (Value.pointer (some b2)) ∧ e 3 = (Value.pointer (some b4)) ∧ e 12 = (Value.bool x6)) ?_ ?_
  · clear hJ5
    obtain ⟨t7, h8, h⟩ := h
    obtain ⟨t9, h10, h⟩ := h
    refine LE.r (v := (Value.agg #[(Value.int .u32 t7), (Value.int .i64 t9)])) (Wn.no rfl) rfl (R.ldA ag28 sz28 rfl rfl (Cs.cons h8 (Cs.cons h10 Cs.nil))) ?_
    refine LE.c (Wn.no rfl) rfl (R.call bd57 (Ls.cons rfl Ls.nil) rfl) (Calls.mono h ?_)
    rintro _ w12 ⟨r11, rfl, h⟩
    refine ⟨_, rfl, ?_⟩
    refine LE.p (v := (Value.bool (!r11))) (Wn.no rfl) rfl (R.not rfl) ?_
    refine LE.p (v := (Value.bool (!r11))) (Wn.no rfl) rfl (R.move rfl) ?_
    rcases M.ite_use h with ⟨hb13, h⟩ | ⟨hb13, h⟩
    · refine LE.u (Un.no 3 8 false rfl rfl rfl (congrArg Value.bool hb13)) ?_
      refine LE.u (Un.no 3 8 false rfl rfl rfl (congrArg Value.bool hb13)) ?_
      refine LE.u (Un.no 3 8 false rfl rfl rfl (congrArg Value.bool hb13)) ?_
      refine LE.p (v := (Value.bool true)) (Wn.no rfl) rfl (R.pickT (congrArg Value.bool hb13) rfl) ?_
      refine LE.nil ?_
      exact ⟨_, h, rfl, rfl, rfl⟩
    · obtain ⟨t14, h15, h⟩ := h
      obtain ⟨t16, h17, h⟩ := h
      refine LE.r (v := (Value.agg #[(Value.int .u32 t14), (Value.int .i64 t16)])) (Wn.yes 3 8 false rfl rfl rfl (congrArg Value.bool hb13)) rfl (R.ldA ag28 sz28 rfl rfl (Cs.cons h15 (Cs.cons h17 Cs.nil))) ?_
      refine LE.c (Wn.yes 3 8 false rfl rfl rfl (congrArg Value.bool hb13)) rfl (R.call bd57 (Ls.cons rfl Ls.nil) rfl) (Calls.mono h ?_)
      rintro _ w19 ⟨r18, rfl, h⟩
      refine ⟨_, rfl, ?_⟩
      refine LE.p (v := (Value.bool (!r18))) (Wn.yes 3 8 false rfl rfl rfl (congrArg Value.bool hb13)) rfl (R.not rfl) ?_
      refine LE.p (v := (Value.bool (!r18))) (Wn.no rfl) rfl (R.pickF (congrArg Value.bool hb13) rfl) ?_
      refine LE.nil ?_
      exact ⟨_, h, rfl, rfl, rfl⟩
  · rintro e20 w21 ⟨x6, h, f22, f23, f24⟩
    subst hJ5
    refine WE.condT rfl (b := x6) f24 ?_ ?_
    · intro hb25
      replace h := M.ite_t h hb25
      refine WE.seq ?_
      refine WE.reg ?_
      refine LE.p (v := (Value.bool false)) (Wn.no rfl) rfl (R.assign rfl) ?_
      refine LE.nil ?_
      refine WE.ret ?_
      exact ⟨_, (Res.tmp rfl Res.nil), _, rfl, h⟩
    · intro hb25
      replace h := M.ite_f h hb25
      refine WE.skip ?_
      refine WE.seq ?_
      obtain ⟨J26, hJ26, h⟩ := M.join_use h
      refine WE.regJ (fun e w => ∃ (x27 : Bool), J26 x27 w ∧ e 4 = (Value.bool x27)) ?_ ?_
      · clear hJ26
        refine LE.p (v := (Value.pointer (some b2))) (Wn.no rfl) rfl (R.fld (off := 0) fa28_0 f22) ?_
        obtain ⟨t28, h29, h⟩ := h
        refine LE.r (v := (Value.int .u32 t28)) (Wn.no rfl) rfl (R.ld sc26 rfl h29) ?_
        refine LE.p (v := (Value.pointer (some b4))) (Wn.no rfl) rfl (R.fld (off := 0) fa28_0 f23) ?_
        obtain ⟨t30, h31, h⟩ := h
        refine LE.r (v := (Value.int .u32 t30)) (Wn.no rfl) rfl (R.ld sc26 rfl h31) ?_
        refine LE.p (v := (Value.bool (decide (t28 < t30)))) (Wn.no rfl) rfl (R.lss rfl rfl) ?_
        refine LE.p (v := (Value.bool (decide (t28 < t30)))) (Wn.no rfl) rfl (R.move rfl) ?_
        rcases M.ite_use h with ⟨hb32, h⟩ | ⟨hb32, h⟩
        · refine LE.u (Un.no 5 18 false rfl rfl rfl (congrArg Value.bool hb32)) ?_
          refine LE.u (Un.no 5 18 false rfl rfl rfl (congrArg Value.bool hb32)) ?_
          refine LE.u (Un.no 5 18 false rfl rfl rfl (congrArg Value.bool hb32)) ?_
          refine LE.u (Un.no 5 18 false rfl rfl rfl (congrArg Value.bool hb32)) ?_
          refine LE.u (Un.no 5 18 false rfl rfl rfl (congrArg Value.bool hb32)) ?_
          refine LE.u (Un.no 5 18 false rfl rfl rfl (congrArg Value.bool hb32)) ?_
          refine LE.u (Un.un 11 24 true rfl rfl rfl rfl) ?_
          refine LE.u (Un.un 11 24 true rfl rfl rfl rfl) ?_
          refine LE.u (Un.un 11 24 true rfl rfl rfl rfl) ?_
          refine LE.u (Un.un 11 24 true rfl rfl rfl rfl) ?_
          refine LE.u (Un.un 11 24 true rfl rfl rfl rfl) ?_
          refine LE.u (Un.no 5 18 false rfl rfl rfl (congrArg Value.bool hb32)) ?_
          refine LE.p (v := (Value.bool true)) (Wn.no rfl) rfl (R.pickT (congrArg Value.bool hb32) rfl) ?_
          refine LE.p (v := (Value.bool true)) (Wn.no rfl) rfl (R.assign rfl) ?_
          refine LE.nil ?_
          exact ⟨_, h, rfl⟩
        · refine LE.p (v := (Value.pointer (some b2))) (Wn.yes 5 18 false rfl rfl rfl (congrArg Value.bool hb32)) rfl (R.fld (off := 0) fa28_0 f22) ?_
          obtain ⟨t33, h34, h⟩ := h
          refine LE.r (v := (Value.int .u32 t33)) (Wn.yes 5 18 false rfl rfl rfl (congrArg Value.bool hb32)) rfl (R.ld sc26 rfl h34) ?_
          refine LE.p (v := (Value.pointer (some b4))) (Wn.yes 5 18 false rfl rfl rfl (congrArg Value.bool hb32)) rfl (R.fld (off := 0) fa28_0 f23) ?_
          obtain ⟨t35, h36, h⟩ := h
          refine LE.r (v := (Value.int .u32 t35)) (Wn.yes 5 18 false rfl rfl rfl (congrArg Value.bool hb32)) rfl (R.ld sc26 rfl h36) ?_
          refine LE.p (v := (Value.bool (t33 == t35))) (Wn.yes 5 18 false rfl rfl rfl (congrArg Value.bool hb32)) rfl (R.eql rfl rfl) ?_
          refine LE.p (v := (Value.bool (t33 == t35))) (Wn.yes 5 18 false rfl rfl rfl (congrArg Value.bool hb32)) rfl (R.move rfl) ?_
          rcases M.ite_use h with ⟨hb37, h⟩ | ⟨hb37, h⟩
          · refine LE.p (v := (Value.pointer (some (b2.add 1)))) (Wn.yes 11 24 true rfl rfl rfl (congrArg Value.bool hb37)) rfl (R.fld (off := 1) fa28_1 f22) ?_
            obtain ⟨t38, h39, h⟩ := h
            refine LE.r (v := (Value.int .i64 t38)) (Wn.yes 11 24 true rfl rfl rfl (congrArg Value.bool hb37)) rfl (R.ld sc3 rfl h39) ?_
            refine LE.p (v := (Value.pointer (some (b4.add 1)))) (Wn.yes 11 24 true rfl rfl rfl (congrArg Value.bool hb37)) rfl (R.fld (off := 1) fa28_1 f23) ?_
            obtain ⟨t40, h41, h⟩ := h
            refine LE.r (v := (Value.int .i64 t40)) (Wn.yes 11 24 true rfl rfl rfl (congrArg Value.bool hb37)) rfl (R.ld sc3 rfl h41) ?_
            refine LE.p (v := (Value.bool (decide (t38 < t40)))) (Wn.yes 11 24 true rfl rfl rfl (congrArg Value.bool hb37)) rfl (R.lss rfl rfl) ?_
            refine LE.p (v := (Value.bool (decide (t38 < t40)))) (Wn.yes 5 18 false rfl rfl rfl (congrArg Value.bool hb32)) rfl (R.pickT (congrArg Value.bool hb37) rfl) ?_
            refine LE.p (v := (Value.bool (decide (t38 < t40)))) (Wn.no rfl) rfl (R.pickF (congrArg Value.bool hb32) rfl) ?_
            refine LE.p (v := (Value.bool (decide (t38 < t40)))) (Wn.no rfl) rfl (R.assign rfl) ?_
            refine LE.nil ?_
            exact ⟨_, h, rfl⟩
          · refine LE.u (Un.no 11 24 true rfl rfl rfl (congrArg Value.bool hb37)) ?_
            refine LE.u (Un.no 11 24 true rfl rfl rfl (congrArg Value.bool hb37)) ?_
            refine LE.u (Un.no 11 24 true rfl rfl rfl (congrArg Value.bool hb37)) ?_
            refine LE.u (Un.no 11 24 true rfl rfl rfl (congrArg Value.bool hb37)) ?_
            refine LE.u (Un.no 11 24 true rfl rfl rfl (congrArg Value.bool hb37)) ?_
            refine LE.p (v := (Value.bool false)) (Wn.yes 5 18 false rfl rfl rfl (congrArg Value.bool hb32)) rfl (R.pickF (congrArg Value.bool hb37) rfl) ?_
            refine LE.p (v := (Value.bool false)) (Wn.no rfl) rfl (R.pickF (congrArg Value.bool hb32) rfl) ?_
            refine LE.p (v := (Value.bool false)) (Wn.no rfl) rfl (R.assign rfl) ?_
            refine LE.nil ?_
            exact ⟨_, h, rfl⟩
      · rintro e42 w43 ⟨x27, h, f44⟩
        subst hJ26
        refine WE.ret ?_
        exact ⟨_, (Res.tmp f44 Res.nil), _, rfl, h⟩
/-- The formula of signpost.signpostref15.Same. -/
def F50 (p0_0 : Int) (p0_1 : Int) (p0_2 : Bool) (p0_3 : Int) (p0_4 : Int) (p0_5 : Nat) (p1_0 : Int) (p1_1 : Int) (p1_2 : Bool) (p1_3 : Int) (p1_4 : Int) (p1_5 : Nat) (K : Bool → World → Prop) (w0 : World) : Prop :=
M.new (.cells #[(Value.int .u32 p0_0), (Value.int .i64 p0_1), (Value.bool p0_2), (Value.int .i64 p0_3), (Value.int .u32 p0_4), (Value.float .f64 p0_5)] 32) w0 fun b2 w1 =>
M.new (.cells #[(Value.int .u32 p1_0), (Value.int .i64 p1_1), (Value.bool p1_2), (Value.int .i64 p1_3), (Value.int .u32 p1_4), (Value.float .f64 p1_5)] 32) w1 fun b4 w3 =>
M.join (fun (x6 : Bool) (w38 : World) => 
K x6 w38) fun J5 => 
M.ld (Value.int .u32) b2 w3 fun t7 =>
M.ld (Value.int .i64) (b2.add 1) w3 fun t9 =>
M.ld (Value.int .u32) b4 w3 fun t11 =>
M.ld (Value.int .i64) (b4.add 1) w3 fun t13 =>
M.ite ((t7 == t11) && (t9 == t13)) (
M.ld Value.bool (b2.add 2) w3 fun t16 =>
M.ld Value.bool (b4.add 2) w3 fun t18 =>
M.ite (t16 == t18) (
M.ld (Value.int .i64) (b2.add 3) w3 fun t21 =>
M.ld (Value.int .i64) (b4.add 3) w3 fun t23 =>
M.ite (t21 == t23) (
M.ld (Value.int .u32) (b2.add 4) w3 fun t26 =>
M.ld (Value.int .u32) (b4.add 4) w3 fun t28 =>
M.ite (t26 == t28) (
M.ld (Value.float .f64) (b2.add 5) w3 fun t31 =>
M.ld (Value.float .f64) (b4.add 5) w3 fun t33 =>
Calls Try.prog 59 #[(Value.float .f64 t31), (Value.float .f64 t33)] w3 (R59 fun r35 w36 =>
J5 r35 w36)) (
J5 false w3)) (
J5 false w3)) (
J5 false w3)) (
J5 false w3)
theorem F50_ok {w0 : World} {p0_0 : Int} {p0_1 : Int} {p0_2 : Bool} {p0_3 : Int} {p0_4 : Int} {p0_5 : Nat} {p1_0 : Int} {p1_1 : Int} {p1_2 : Bool} {p1_3 : Int} {p1_4 : Int} {p1_5 : Nat} {K : Bool → World → Prop} (h : F50 p0_0 p0_1 p0_2 p0_3 p0_4 p0_5 p1_0 p1_1 p1_2 p1_3 p1_4 p1_5 K w0) : Calls Try.prog 50 #[(Value.agg #[(Value.int .u32 p0_0), (Value.int .i64 p0_1), (Value.bool p0_2), (Value.int .i64 p0_3), (Value.int .u32 p0_4), (Value.float .f64 p0_5)]), (Value.agg #[(Value.int .u32 p1_0), (Value.int .i64 p1_1), (Value.bool p1_2), (Value.int .i64 p1_3), (Value.int .u32 p1_4), (Value.float .f64 p1_5)])] w0 (R50 K) := by
  refine calls_of_WE (args := [(Value.agg #[(Value.int .u32 p0_0), (Value.int .i64 p0_1), (Value.bool p0_2), (Value.int .i64 p0_3), (Value.int .u32 p0_4), (Value.float .f64 p0_5)]), (Value.agg #[(Value.int .u32 p1_0), (Value.int .i64 p1_1), (Value.bool p1_2), (Value.int .i64 p1_3), (Value.int .u32 p1_4), (Value.float .f64 p1_5)])]) (rs := [.tmp 4]) Try.func50 rfl (N := 38) rfl rfl rfl rfl ?_
  refine WE.seq ?_
  refine WE.reg ?_
  obtain ⟨b2, hpb2, w1, hww1, h⟩ := M.new_use h
  refine LE.r (v := (Value.pointer (some b2))) (Wn.no rfl) rfl (R.box (cs := #[(Value.int .u32 p0_0), (Value.int .i64 p0_1), (Value.bool p0_2), (Value.int .i64 p0_3), (Value.int .u32 p0_4), (Value.float .f64 p0_5)]) rfl rfl hpb2 hww1) ?_
  obtain ⟨b4, hpb4, w3, hww3, h⟩ := M.new_use h
  refine LE.r (v := (Value.pointer (some b4))) (Wn.no rfl) rfl (R.box (cs := #[(Value.int .u32 p1_0), (Value.int .i64 p1_1), (Value.bool p1_2), (Value.int .i64 p1_3), (Value.int .u32 p1_4), (Value.float .f64 p1_5)]) rfl rfl hpb4 hww3) ?_
  refine LE.p (v := (Value.bool false)) (Wn.no rfl) rfl (R.assign rfl) ?_
  refine LE.nil ?_
  refine WE.seq ?_
  obtain ⟨J5, hJ5, h⟩ := M.join_use h
  refine WE.regJ (fun e w => ∃ (x6 : Bool), J5 x6 w ∧ e 4 = (Value.bool x6)) ?_ ?_
  · clear hJ5
    refine LE.p (v := (Value.pointer (some b2))) (Wn.no rfl) rfl (R.fld (off := 0) fa32_0 rfl) ?_
    obtain ⟨t7, h8, h⟩ := h
    obtain ⟨t9, h10, h⟩ := h
    refine LE.r (v := (Value.agg #[(Value.int .u32 t7), (Value.int .i64 t9)])) (Wn.no rfl) rfl (R.ldA ag28 sz28 rfl rfl (Cs.cons h8 (Cs.cons h10 Cs.nil))) ?_
    refine LE.p (v := (Value.pointer (some b4))) (Wn.no rfl) rfl (R.fld (off := 0) fa32_0 rfl) ?_
    obtain ⟨t11, h12, h⟩ := h
    obtain ⟨t13, h14, h⟩ := h
    refine LE.r (v := (Value.agg #[(Value.int .u32 t11), (Value.int .i64 t13)])) (Wn.no rfl) rfl (R.ldA ag28 sz28 rfl rfl (Cs.cons h12 (Cs.cons h14 Cs.nil))) ?_
    refine LE.p (v := (Value.bool ((t7 == t11) && (t9 == t13)))) (Wn.no rfl) rfl (R.eqS (fun w => eq28 t7 t11 t9 t13 w) sg28 rfl rfl) ?_
    refine LE.p (v := (Value.bool ((t7 == t11) && (t9 == t13)))) (Wn.no rfl) rfl (R.move rfl) ?_
    rcases M.ite_use h with ⟨hb15, h⟩ | ⟨hb15, h⟩
    · refine LE.p (v := (Value.pointer (some (b2.add 2)))) (Wn.yes 5 10 true rfl rfl rfl (congrArg Value.bool hb15)) rfl (R.fld (off := 2) fa32_1 rfl) ?_
      obtain ⟨t16, h17, h⟩ := h
      refine LE.r (v := (Value.bool t16)) (Wn.yes 5 10 true rfl rfl rfl (congrArg Value.bool hb15)) rfl (R.ld sc4 rfl h17) ?_
      refine LE.p (v := (Value.pointer (some (b4.add 2)))) (Wn.yes 5 10 true rfl rfl rfl (congrArg Value.bool hb15)) rfl (R.fld (off := 2) fa32_1 rfl) ?_
      obtain ⟨t18, h19, h⟩ := h
      refine LE.r (v := (Value.bool t18)) (Wn.yes 5 10 true rfl rfl rfl (congrArg Value.bool hb15)) rfl (R.ld sc4 rfl h19) ?_
      refine LE.p (v := (Value.bool (t16 == t18))) (Wn.yes 5 10 true rfl rfl rfl (congrArg Value.bool hb15)) rfl (R.beql bo4 rfl rfl) ?_
      refine LE.p (v := (Value.bool (t16 == t18))) (Wn.no rfl) rfl (R.pickT (congrArg Value.bool hb15) rfl) ?_
      refine LE.p (v := (Value.bool (t16 == t18))) (Wn.no rfl) rfl (R.move rfl) ?_
      rcases M.ite_use h with ⟨hb20, h⟩ | ⟨hb20, h⟩
      · refine LE.p (v := (Value.pointer (some (b2.add 3)))) (Wn.yes 12 17 true rfl rfl rfl (congrArg Value.bool hb20)) rfl (R.fld (off := 3) fa32_2 rfl) ?_
        obtain ⟨t21, h22, h⟩ := h
        refine LE.r (v := (Value.int .i64 t21)) (Wn.yes 12 17 true rfl rfl rfl (congrArg Value.bool hb20)) rfl (R.ld sc3 rfl h22) ?_
        refine LE.p (v := (Value.pointer (some (b4.add 3)))) (Wn.yes 12 17 true rfl rfl rfl (congrArg Value.bool hb20)) rfl (R.fld (off := 3) fa32_2 rfl) ?_
        obtain ⟨t23, h24, h⟩ := h
        refine LE.r (v := (Value.int .i64 t23)) (Wn.yes 12 17 true rfl rfl rfl (congrArg Value.bool hb20)) rfl (R.ld sc3 rfl h24) ?_
        refine LE.p (v := (Value.bool (t21 == t23))) (Wn.yes 12 17 true rfl rfl rfl (congrArg Value.bool hb20)) rfl (R.eql rfl rfl) ?_
        refine LE.p (v := (Value.bool (t21 == t23))) (Wn.no rfl) rfl (R.pickT (congrArg Value.bool hb20) rfl) ?_
        refine LE.p (v := (Value.bool (t21 == t23))) (Wn.no rfl) rfl (R.move rfl) ?_
        rcases M.ite_use h with ⟨hb25, h⟩ | ⟨hb25, h⟩
        · refine LE.p (v := (Value.pointer (some (b2.add 4)))) (Wn.yes 19 24 true rfl rfl rfl (congrArg Value.bool hb25)) rfl (R.fld (off := 4) fa32_3 rfl) ?_
          obtain ⟨t26, h27, h⟩ := h
          refine LE.r (v := (Value.int .u32 t26)) (Wn.yes 19 24 true rfl rfl rfl (congrArg Value.bool hb25)) rfl (R.ld sc26 rfl h27) ?_
          refine LE.p (v := (Value.pointer (some (b4.add 4)))) (Wn.yes 19 24 true rfl rfl rfl (congrArg Value.bool hb25)) rfl (R.fld (off := 4) fa32_3 rfl) ?_
          obtain ⟨t28, h29, h⟩ := h
          refine LE.r (v := (Value.int .u32 t28)) (Wn.yes 19 24 true rfl rfl rfl (congrArg Value.bool hb25)) rfl (R.ld sc26 rfl h29) ?_
          refine LE.p (v := (Value.bool (t26 == t28))) (Wn.yes 19 24 true rfl rfl rfl (congrArg Value.bool hb25)) rfl (R.eql rfl rfl) ?_
          refine LE.p (v := (Value.bool (t26 == t28))) (Wn.no rfl) rfl (R.pickT (congrArg Value.bool hb25) rfl) ?_
          refine LE.p (v := (Value.bool (t26 == t28))) (Wn.no rfl) rfl (R.move rfl) ?_
          rcases M.ite_use h with ⟨hb30, h⟩ | ⟨hb30, h⟩
          · refine LE.p (v := (Value.pointer (some (b2.add 5)))) (Wn.yes 26 31 true rfl rfl rfl (congrArg Value.bool hb30)) rfl (R.fld (off := 5) fa32_4 rfl) ?_
            obtain ⟨t31, h32, h⟩ := h
            refine LE.r (v := (Value.float .f64 t31)) (Wn.yes 26 31 true rfl rfl rfl (congrArg Value.bool hb30)) rfl (R.ld sc22 rfl h32) ?_
            refine LE.p (v := (Value.pointer (some (b4.add 5)))) (Wn.yes 26 31 true rfl rfl rfl (congrArg Value.bool hb30)) rfl (R.fld (off := 5) fa32_4 rfl) ?_
            obtain ⟨t33, h34, h⟩ := h
            refine LE.r (v := (Value.float .f64 t33)) (Wn.yes 26 31 true rfl rfl rfl (congrArg Value.bool hb30)) rfl (R.ld sc22 rfl h34) ?_
            refine LE.c (Wn.yes 26 31 true rfl rfl rfl (congrArg Value.bool hb30)) rfl (R.call bd59 (Ls.cons rfl (Ls.cons rfl Ls.nil)) rfl) (Calls.mono h ?_)
            rintro _ w36 ⟨r35, rfl, h⟩
            refine ⟨_, rfl, ?_⟩
            refine LE.p (v := (Value.bool r35)) (Wn.no rfl) rfl (R.pickT (congrArg Value.bool hb30) rfl) ?_
            refine LE.p (v := (Value.bool r35)) (Wn.no rfl) rfl (R.assign rfl) ?_
            refine LE.nil ?_
            exact ⟨_, h, rfl⟩
          · refine LE.u (Un.no 26 31 true rfl rfl rfl (congrArg Value.bool hb30)) ?_
            refine LE.u (Un.no 26 31 true rfl rfl rfl (congrArg Value.bool hb30)) ?_
            refine LE.u (Un.no 26 31 true rfl rfl rfl (congrArg Value.bool hb30)) ?_
            refine LE.u (Un.no 26 31 true rfl rfl rfl (congrArg Value.bool hb30)) ?_
            refine LE.u (Un.no 26 31 true rfl rfl rfl (congrArg Value.bool hb30)) ?_
            refine LE.p (v := (Value.bool false)) (Wn.no rfl) rfl (R.pickF (congrArg Value.bool hb30) rfl) ?_
            refine LE.p (v := (Value.bool false)) (Wn.no rfl) rfl (R.assign rfl) ?_
            refine LE.nil ?_
            exact ⟨_, h, rfl⟩
        · refine LE.u (Un.no 19 24 true rfl rfl rfl (congrArg Value.bool hb25)) ?_
          refine LE.u (Un.no 19 24 true rfl rfl rfl (congrArg Value.bool hb25)) ?_
          refine LE.u (Un.no 19 24 true rfl rfl rfl (congrArg Value.bool hb25)) ?_
          refine LE.u (Un.no 19 24 true rfl rfl rfl (congrArg Value.bool hb25)) ?_
          refine LE.u (Un.no 19 24 true rfl rfl rfl (congrArg Value.bool hb25)) ?_
          refine LE.p (v := (Value.bool false)) (Wn.no rfl) rfl (R.pickF (congrArg Value.bool hb25) rfl) ?_
          refine LE.p (v := (Value.bool false)) (Wn.no rfl) rfl (R.move rfl) ?_
          refine LE.u (Un.no 26 31 true rfl rfl rfl rfl) ?_
          refine LE.u (Un.no 26 31 true rfl rfl rfl rfl) ?_
          refine LE.u (Un.no 26 31 true rfl rfl rfl rfl) ?_
          refine LE.u (Un.no 26 31 true rfl rfl rfl rfl) ?_
          refine LE.u (Un.no 26 31 true rfl rfl rfl rfl) ?_
          refine LE.p (v := (Value.bool false)) (Wn.no rfl) rfl (R.pickF rfl rfl) ?_
          refine LE.p (v := (Value.bool false)) (Wn.no rfl) rfl (R.assign rfl) ?_
          refine LE.nil ?_
          exact ⟨_, h, rfl⟩
      · refine LE.u (Un.no 12 17 true rfl rfl rfl (congrArg Value.bool hb20)) ?_
        refine LE.u (Un.no 12 17 true rfl rfl rfl (congrArg Value.bool hb20)) ?_
        refine LE.u (Un.no 12 17 true rfl rfl rfl (congrArg Value.bool hb20)) ?_
        refine LE.u (Un.no 12 17 true rfl rfl rfl (congrArg Value.bool hb20)) ?_
        refine LE.u (Un.no 12 17 true rfl rfl rfl (congrArg Value.bool hb20)) ?_
        refine LE.p (v := (Value.bool false)) (Wn.no rfl) rfl (R.pickF (congrArg Value.bool hb20) rfl) ?_
        refine LE.p (v := (Value.bool false)) (Wn.no rfl) rfl (R.move rfl) ?_
        refine LE.u (Un.no 19 24 true rfl rfl rfl rfl) ?_
        refine LE.u (Un.no 19 24 true rfl rfl rfl rfl) ?_
        refine LE.u (Un.no 19 24 true rfl rfl rfl rfl) ?_
        refine LE.u (Un.no 19 24 true rfl rfl rfl rfl) ?_
        refine LE.u (Un.no 19 24 true rfl rfl rfl rfl) ?_
        refine LE.p (v := (Value.bool false)) (Wn.no rfl) rfl (R.pickF rfl rfl) ?_
        refine LE.p (v := (Value.bool false)) (Wn.no rfl) rfl (R.move rfl) ?_
        refine LE.u (Un.no 26 31 true rfl rfl rfl rfl) ?_
        refine LE.u (Un.no 26 31 true rfl rfl rfl rfl) ?_
        refine LE.u (Un.no 26 31 true rfl rfl rfl rfl) ?_
        refine LE.u (Un.no 26 31 true rfl rfl rfl rfl) ?_
        refine LE.u (Un.no 26 31 true rfl rfl rfl rfl) ?_
        refine LE.p (v := (Value.bool false)) (Wn.no rfl) rfl (R.pickF rfl rfl) ?_
        refine LE.p (v := (Value.bool false)) (Wn.no rfl) rfl (R.assign rfl) ?_
        refine LE.nil ?_
        exact ⟨_, h, rfl⟩
    · refine LE.u (Un.no 5 10 true rfl rfl rfl (congrArg Value.bool hb15)) ?_
      refine LE.u (Un.no 5 10 true rfl rfl rfl (congrArg Value.bool hb15)) ?_
      refine LE.u (Un.no 5 10 true rfl rfl rfl (congrArg Value.bool hb15)) ?_
      refine LE.u (Un.no 5 10 true rfl rfl rfl (congrArg Value.bool hb15)) ?_
      refine LE.u (Un.no 5 10 true rfl rfl rfl (congrArg Value.bool hb15)) ?_
      refine LE.p (v := (Value.bool false)) (Wn.no rfl) rfl (R.pickF (congrArg Value.bool hb15) rfl) ?_
      refine LE.p (v := (Value.bool false)) (Wn.no rfl) rfl (R.move rfl) ?_
      refine LE.u (Un.no 12 17 true rfl rfl rfl rfl) ?_
      refine LE.u (Un.no 12 17 true rfl rfl rfl rfl) ?_
      refine LE.u (Un.no 12 17 true rfl rfl rfl rfl) ?_
      refine LE.u (Un.no 12 17 true rfl rfl rfl rfl) ?_
      refine LE.u (Un.no 12 17 true rfl rfl rfl rfl) ?_
      refine LE.p (v := (Value.bool false)) (Wn.no rfl) rfl (R.pickF rfl rfl) ?_
      refine LE.p (v := (Value.bool false)) (Wn.no rfl) rfl (R.move rfl) ?_
      refine LE.u (Un.no 19 24 true rfl rfl rfl rfl) ?_
      refine LE.u (Un.no 19 24 true rfl rfl rfl rfl) ?_
      refine LE.u (Un.no 19 24 true rfl rfl rfl rfl) ?_
      refine LE.u (Un.no 19 24 true rfl rfl rfl rfl) ?_
      refine LE.u (Un.no 19 24 true rfl rfl rfl rfl) ?_
      refine LE.p (v := (Value.bool false)) (Wn.no rfl) rfl (R.pickF rfl rfl) ?_
      refine LE.p (v := (Value.bool false)) (Wn.no rfl) rfl (R.move rfl) ?_
      refine LE.u (Un.no 26 31 true rfl rfl rfl rfl) ?_
      refine LE.u (Un.no 26 31 true rfl rfl rfl rfl) ?_
      refine LE.u (Un.no 26 31 true rfl rfl rfl rfl) ?_
      refine LE.u (Un.no 26 31 true rfl rfl rfl rfl) ?_
      refine LE.u (Un.no 26 31 true rfl rfl rfl rfl) ?_
      refine LE.p (v := (Value.bool false)) (Wn.no rfl) rfl (R.pickF rfl rfl) ?_
      refine LE.p (v := (Value.bool false)) (Wn.no rfl) rfl (R.assign rfl) ?_
      refine LE.nil ?_
      exact ⟨_, h, rfl⟩
  · rintro e37 w38 ⟨x6, h, f39⟩
    subst hJ5
    refine WE.ret ?_
    exact ⟨_, (Res.tmp f39 Res.nil), _, rfl, h⟩
/-- The formula of signpost.addr.Mask. -/
def F51 (p0 : Int) (K : Int → World → Prop) (w0 : World) : Prop :=
M.ite (decide (p0 < (1 : Int))) (
K (0 : Int) w0) (
M.sh (IntKind.i64.wrap ((32 : Int) - (min p0 (32 : Int)))) <|
K (bShl .u32 (4294967295 : Int) (IntKind.i64.wrap ((32 : Int) - (min p0 (32 : Int))))) w0)
theorem F51_ok {w0 : World} {p0 : Int} {K : Int → World → Prop} (h : F51 p0 K w0) : Calls Try.prog 51 #[(Value.int .i64 p0)] w0 (R51 K) := by
  refine calls_of_WE (args := [(Value.int .i64 p0)]) (rs := [.tmp 2]) Try.func51 rfl (N := 9) rfl rfl rfl rfl ?_
  refine WE.seq ?_
  refine WE.reg ?_
  refine LE.p (v := (Value.int .u32 (0 : Int))) (Wn.no rfl) rfl (R.assign rfl) ?_
  refine LE.nil ?_
  refine WE.seq ?_
  refine WE.seq ?_
  refine WE.reg ?_
  refine LE.p (v := (Value.int .i64 p0)) (Wn.no rfl) rfl (R.move rfl) ?_
  refine LE.p (v := (Value.bool (decide (p0 < (1 : Int))))) (Wn.no rfl) rfl (R.lss rfl rfl) ?_
  refine LE.nil ?_
  refine WE.condT rfl (b := (decide (p0 < (1 : Int)))) rfl ?_ ?_
  · intro hb1
    replace h := M.ite_t h hb1
    refine WE.seq ?_
    refine WE.reg ?_
    refine LE.p (v := (Value.int .u32 (0 : Int))) (Wn.no rfl) rfl (R.assign rfl) ?_
    refine LE.nil ?_
    refine WE.ret ?_
    exact ⟨_, (Res.tmp rfl Res.nil), _, rfl, h⟩
  · intro hb1
    replace h := M.ite_f h hb1
    refine WE.skip ?_
    refine WE.seq ?_
    refine WE.reg ?_
    refine LE.p (v := (Value.int .i64 p0)) (Wn.no rfl) rfl (R.move rfl) ?_
    refine LE.p (v := (Value.int .i64 (min p0 (32 : Int)))) (Wn.no rfl) rfl (R.min2 rfl rfl) ?_
    refine LE.p (v := (Value.int .i64 (IntKind.i64.wrap ((32 : Int) - (min p0 (32 : Int)))))) (Wn.no rfl) rfl (R.sub rfl rfl) ?_
    obtain ⟨h2, h⟩ := h
    refine LE.p (v := (Value.int .u32 (bShl .u32 (4294967295 : Int) (IntKind.i64.wrap ((32 : Int) - (min p0 (32 : Int))))))) (Wn.no rfl) rfl (R.shl rfl rfl h2) ?_
    refine LE.p (v := (Value.int .u32 (bShl .u32 (4294967295 : Int) (IntKind.i64.wrap ((32 : Int) - (min p0 (32 : Int))))))) (Wn.no rfl) rfl (R.assign rfl) ?_
    refine LE.nil ?_
    refine WE.ret ?_
    exact ⟨_, (Res.tmp rfl Res.nil), _, rfl, h⟩
/-- The formula of slices.Index[[]signpost.api.Prefix,signpost.api.Prefix]. -/
def F52 (p0 : SV) (p1_0 : Int) (p1_1 : Int) (K : Int → World → Prop) (w0 : World) : Prop :=
M.new (.cells #[(Value.int .u32 p1_0), (Value.int .i64 p1_1)] 28) w0 fun b2 w1 =>
M.loop1 (fun (J4 : Int → World → Prop) (x3 : Int) (w5 : World) => 
M.ite (decide (x3 < (p0.len : Int))) (
M.drew w5 fun w17 => 
M.idx p0 x3 2 fun a18 =>
M.ld (Value.int .u32) b2 w17 fun t22 =>
M.ld (Value.int .i64) (b2.add 1) w17 fun t24 =>
M.ld (Value.int .u32) (a18.add (x3.toNat * 2)) w17 fun t26 =>
M.ld (Value.int .i64) ((a18.add (x3.toNat * 2)).add 1) w17 fun t28 =>
M.ite ((t22 == t26) && (t24 == t28)) (
K x3 w17) (
J4 (IntKind.i64.wrap (x3 + (1 : Int))) w17)) (
K (-1 : Int) w5)) (0 : Int) w1
theorem F52_ok {w0 : World} {p0 : SV} {p1_0 : Int} {p1_1 : Int} {K : Int → World → Prop} (h : F52 p0 p1_0 p1_1 K w0) : Calls Try.prog 52 #[(SV.v p0), (Value.agg #[(Value.int .u32 p1_0), (Value.int .i64 p1_1)])] w0 (R52 K) := by
  refine calls_of_WE (args := [(SV.v p0), (Value.agg #[(Value.int .u32 p1_0), (Value.int .i64 p1_1)])]) (rs := [.tmp 4]) Try.func52 rfl (N := 19) rfl rfl rfl rfl ?_
  refine WE.seq ?_
  refine WE.reg ?_
  obtain ⟨b2, hpb2, w1, hww1, h⟩ := M.new_use h
  refine LE.r (v := (Value.pointer (some b2))) (Wn.no rfl) rfl (R.box (cs := #[(Value.int .u32 p1_0), (Value.int .i64 p1_1)]) rfl rfl hpb2 hww1) ?_
  refine LE.p (v := (Value.int .i64 (0 : Int))) (Wn.no rfl) rfl (R.assign rfl) ?_
  refine LE.nil ?_
  refine WE.seq ?_
  refine WE.seq ?_
  refine WE.reg ?_
  refine LE.p (v := (SV.v p0)) (Wn.no rfl) rfl (R.move rfl) ?_
  refine LE.p (v := (Value.int .i64 (p0.len : Int))) (Wn.no rfl) rfl (R.len sl40 rfl) ?_
  refine LE.p (v := (Value.int .i64 (0 : Int))) (Wn.no rfl) rfl (R.move rfl) ?_
  refine LE.nil ?_
  refine WE.block ?_
  obtain ⟨I8, ⟨n7, h⟩, hr9⟩ := h
  refine WE.loop (fun n e w => ∃ (x3 : Int), I8 n x3 w ∧ e 0 = (SV.v p0) ∧ e 3 = (Value.pointer (some b2)) ∧ e 7 = (Value.int .i64 (p0.len : Int)) ∧ e 8 = (Value.int .i64 x3)) n7 ⟨_, h, rfl, rfl, rfl, rfl⟩ ?_
  clear h
  rintro n7 e6 w5 ⟨x3, h, f12, f13, f14, f15⟩
  replace h := hr9 n7 x3 w5 h
  refine WE.seq ?_
  refine WE.reg ?_
  refine LE.p (v := (Value.bool (decide (x3 < (p0.len : Int))))) (Wn.no rfl) rfl (R.lss f15 f14) ?_
  refine LE.nil ?_
  refine WE.seq ?_
  refine WE.condT rfl (b := (decide (x3 < (p0.len : Int)))) rfl ?_ ?_
  · intro hb16
    replace h := M.ite_t h hb16
    refine WE.skip ?_
    refine WE.seq ?_
    refine WE.block ?_
    refine WE.seq ?_
    refine WE.reg ?_
    refine LE.p (v := (Value.int .i64 x3)) (Wn.no rfl) rfl (R.move f15) ?_
    refine LE.p (v := (Value.int .i64 x3)) (Wn.no rfl) rfl (R.assign rfl) ?_
    refine LE.nil ?_
    refine WE.seq ?_
    refine WE.draw mix ?_
    obtain ⟨w17, hww17, h⟩ := M.drew_use h
    rw [← hww17]
    clear hww17
    refine DE.t 1 (v := (SV.v p0)) rfl (by kernel_rfl) (Wn.no rfl) rfl (R.move f12) ?_
    refine DE.t 2 (v := (Value.int .i64 x3)) rfl (by kernel_rfl) (Wn.no rfl) rfl (R.move rfl) ?_
    obtain ⟨a18, h19, h20, h21, h⟩ := h
    refine DE.t 3 (v := (Value.pointer (some (a18.add (x3.toNat * 2))))) rfl (by kernel_rfl) (Wn.no rfl) rfl (R.idx (s := p0) sl40 rfl rfl h19 h20 h21) ?_
    obtain ⟨t22, h23, h⟩ := h
    obtain ⟨t24, h25, h⟩ := h
    refine DE.hold 0 (fun w => w.cell? b2 = some (Value.int .u32 t22) ∧ w.cell? (b2.add 1) = some (Value.int .i64 t24)) (v := (Value.agg #[(Value.int .u32 t22), (Value.int .i64 t24)])) rfl (by kernel_rfl) (Wn.no rfl) rfl ⟨h23, h25⟩ (fun w hs => R.ldA ag28 sz28 f13 rfl (Cs.cons hs.1 (Cs.cons hs.2 Cs.nil))) ?_
    obtain ⟨t26, h27, h⟩ := h
    obtain ⟨t28, h29, h⟩ := h
    refine DE.main 4 (by kernel_rfl) ?_
    refine One.r 4 (v := (Value.agg #[(Value.int .u32 t26), (Value.int .i64 t28)])) rfl (Wn.no rfl) rfl (R.ldA ag28 sz28 rfl rfl (Cs.cons h27 (Cs.cons h29 Cs.nil))) (.inl rfl) ?_
    refine DE.t 5 (v := (Value.bool ((t22 == t26) && (t24 == t28)))) rfl (by kernel_rfl) (Wn.no rfl) rfl (R.eqS (fun w => eq28 t22 t26 t24 t28 w) sg28 rfl rfl) ?_
    refine DE.done (by kernel_rfl) ?_
    refine WE.condT rfl (b := ((t22 == t26) && (t24 == t28))) rfl ?_ ?_
    · intro hb30
      replace h := M.ite_t h hb30
      refine WE.seq ?_
      refine WE.reg ?_
      refine LE.p (v := (Value.int .i64 x3)) (Wn.no rfl) rfl (R.move rfl) ?_
      refine LE.p (v := (Value.int .i64 x3)) (Wn.no rfl) rfl (R.assign rfl) ?_
      refine LE.nil ?_
      refine WE.ret ?_
      exact ⟨_, (Res.tmp rfl Res.nil), _, rfl, h⟩
    · intro hb30
      replace h := M.ite_f h hb30
      refine WE.skip ?_
      refine WE.reg ?_
      refine LE.p (v := (Value.int .i64 (IntKind.i64.wrap (x3 + (1 : Int))))) (Wn.no rfl) rfl (R.add f15 rfl) ?_
      refine LE.p (v := (Value.int .i64 (IntKind.i64.wrap (x3 + (1 : Int))))) (Wn.no rfl) rfl (R.move rfl) ?_
      refine LE.nil ?_
      obtain ⟨m10, hm11, h⟩ := h
      exact ⟨m10, hm11, _, h, f12, f13, f14, rfl⟩
  · intro hb16
    replace h := M.ite_f h hb16
    refine WE.exit ?_
    refine WE.seq ?_
    refine WE.reg ?_
    refine LE.p (v := (Value.int .i64 (-1 : Int))) (Wn.no rfl) rfl (R.assign rfl) ?_
    refine LE.nil ?_
    refine WE.ret ?_
    exact ⟨_, (Res.tmp rfl Res.nil), _, rfl, h⟩
/-- The formula of slices.IndexFunc[[]uint32,uint32]. -/
def F53 (p0 : SV) (p1 : FV) (K : Int → World → Prop) (w0 : World) : Prop :=
M.loop1 (fun (J2 : Int → World → Prop) (x1 : Int) (w3 : World) => 
M.ite (decide (x1 < (p0.len : Int))) (
M.idx p0 x1 1 fun a15 =>
M.ld (Value.int .u32) (a15.add (x1.toNat * 1)) w3 fun t19 =>
bodyB Try.prog (FV.f p1) = true ∧ Calls Try.prog (FV.f p1) (List.toArray ([(Value.int .u32 t19)] ++ FV.caps p1)) w3 (RV4 fun r21 w22 =>
M.ite r21 (
K x1 w22) (
J2 (IntKind.i64.wrap (x1 + (1 : Int))) w22))) (
K (-1 : Int) w3)) (0 : Int) w0
theorem F53_ok {w0 : World} {p0 : SV} {p1 : FV} {K : Int → World → Prop} (h : F53 p0 p1 K w0) : Calls Try.prog 53 #[(SV.v p0), (FV.v p1)] w0 (R53 K) := by
  refine calls_of_WE (args := [(SV.v p0), (FV.v p1)]) (rs := [.tmp 4]) Try.func53 rfl (N := 19) rfl rfl rfl rfl ?_
  refine WE.seq ?_
  refine WE.reg ?_
  refine LE.p (v := (Value.int .i64 (0 : Int))) (Wn.no rfl) rfl (R.assign rfl) ?_
  refine LE.nil ?_
  refine WE.seq ?_
  refine WE.seq ?_
  refine WE.reg ?_
  refine LE.p (v := (SV.v p0)) (Wn.no rfl) rfl (R.move rfl) ?_
  refine LE.p (v := (Value.int .i64 (p0.len : Int))) (Wn.no rfl) rfl (R.len sl68 rfl) ?_
  refine LE.p (v := (Value.int .i64 (0 : Int))) (Wn.no rfl) rfl (R.move rfl) ?_
  refine LE.nil ?_
  refine WE.block ?_
  obtain ⟨I6, ⟨n5, h⟩, hr7⟩ := h
  refine WE.loop (fun n e w => ∃ (x1 : Int), I6 n x1 w ∧ e 0 = (SV.v p0) ∧ e 1 = (FV.v p1) ∧ e 7 = (Value.int .i64 (p0.len : Int)) ∧ e 8 = (Value.int .i64 x1)) n5 ⟨_, h, rfl, rfl, rfl, rfl⟩ ?_
  clear h
  rintro n5 e4 w3 ⟨x1, h, f10, f11, f12, f13⟩
  replace h := hr7 n5 x1 w3 h
  refine WE.seq ?_
  refine WE.reg ?_
  refine LE.p (v := (Value.bool (decide (x1 < (p0.len : Int))))) (Wn.no rfl) rfl (R.lss f13 f12) ?_
  refine LE.nil ?_
  refine WE.seq ?_
  refine WE.condT rfl (b := (decide (x1 < (p0.len : Int)))) rfl ?_ ?_
  · intro hb14
    replace h := M.ite_t h hb14
    refine WE.skip ?_
    refine WE.seq ?_
    refine WE.block ?_
    refine WE.seq ?_
    refine WE.reg ?_
    refine LE.p (v := (Value.int .i64 x1)) (Wn.no rfl) rfl (R.move f13) ?_
    refine LE.p (v := (Value.int .i64 x1)) (Wn.no rfl) rfl (R.assign rfl) ?_
    refine LE.nil ?_
    refine WE.seq ?_
    refine WE.reg ?_
    refine LE.p (v := (FV.v p1)) (Wn.no rfl) rfl (R.move f11) ?_
    refine LE.p (v := (SV.v p0)) (Wn.no rfl) rfl (R.move f10) ?_
    refine LE.p (v := (Value.int .i64 x1)) (Wn.no rfl) rfl (R.move rfl) ?_
    obtain ⟨a15, h16, h17, h18, h⟩ := h
    refine LE.p (v := (Value.pointer (some (a15.add (x1.toNat * 1))))) (Wn.no rfl) rfl (R.idx (s := p0) sl68 rfl rfl h16 h17 h18) ?_
    obtain ⟨t19, h20, h⟩ := h
    refine LE.r (v := (Value.int .u32 t19)) (Wn.no rfl) rfl (R.ld sc26 rfl h20) ?_
    obtain ⟨hb23, h⟩ := h
    refine LE.c (Wn.no rfl) rfl (R.callv hb23 (Ls.cons rfl Ls.nil) rfl) (Calls.mono h ?_)
    rintro _ w22 ⟨r21, rfl, h⟩
    refine ⟨_, rfl, ?_⟩
    refine LE.nil ?_
    refine WE.condT rfl (b := r21) rfl ?_ ?_
    · intro hb24
      replace h := M.ite_t h hb24
      refine WE.seq ?_
      refine WE.reg ?_
      refine LE.p (v := (Value.int .i64 x1)) (Wn.no rfl) rfl (R.move rfl) ?_
      refine LE.p (v := (Value.int .i64 x1)) (Wn.no rfl) rfl (R.assign rfl) ?_
      refine LE.nil ?_
      refine WE.ret ?_
      exact ⟨_, (Res.tmp rfl Res.nil), _, rfl, h⟩
    · intro hb24
      replace h := M.ite_f h hb24
      refine WE.skip ?_
      refine WE.reg ?_
      refine LE.p (v := (Value.int .i64 (IntKind.i64.wrap (x1 + (1 : Int))))) (Wn.no rfl) rfl (R.add f13 rfl) ?_
      refine LE.p (v := (Value.int .i64 (IntKind.i64.wrap (x1 + (1 : Int))))) (Wn.no rfl) rfl (R.move rfl) ?_
      refine LE.nil ?_
      obtain ⟨m8, hm9, h⟩ := h
      exact ⟨m8, hm9, _, h, f10, f11, f12, rfl⟩
  · intro hb14
    replace h := M.ite_f h hb14
    refine WE.exit ?_
    refine WE.seq ?_
    refine WE.reg ?_
    refine LE.p (v := (Value.int .i64 (-1 : Int))) (Wn.no rfl) rfl (R.assign rfl) ?_
    refine LE.nil ?_
    refine WE.ret ?_
    exact ⟨_, (Res.tmp rfl Res.nil), _, rfl, h⟩
/-- The formula of (*signpost.trie.Trie).find. -/
def F55 (p0 : Option Addr) (p1_0 : Int) (p1_1 : Int) (K : Option Addr → World → Prop) (w0 : World) : Prop :=
M.new (.cells #[(Value.int .u32 p1_0), (Value.int .i64 p1_1)] 28) w0 fun b2 w1 =>
M.nil p0 fun a3 =>
M.ld (Value.int .i64) (b2.add 1) w1 fun t5 =>
M.loop2 (fun (J9 : Option Addr → Int → World → Prop) (x7 : Option Addr) (x8 : Int) (w10 : World) => 
M.ite (decide (x8 < t5)) (
M.drew w10 fun w22 => 
M.nil x7 fun a23 =>
M.ld (Value.int .u32) b2 w22 fun t25 =>
Calls Try.prog 38 #[(Value.int .u32 t25), (Value.int .i64 x8)] w22 (R38 fun r27 w28 =>
M.inb r27 2 <|
M.ld Value.pointer (a23.add (r27.toNat * 1)) w28 fun t31 =>
M.ite (Option.isNone t31) (
K (none : Option Addr) w28) (
J9 t31 (IntKind.i64.wrap (x8 + (1 : Int))) w28))) (
K x7 w10)) (some a3) (0 : Int) w1
theorem F55_ok {w0 : World} {p0 : Option Addr} {p1_0 : Int} {p1_1 : Int} {K : Option Addr → World → Prop} (h : F55 p0 p1_0 p1_1 K w0) : Calls Try.prog 55 #[(Value.pointer p0), (Value.agg #[(Value.int .u32 p1_0), (Value.int .i64 p1_1)])] w0 (R55 K) := by
  refine calls_of_WE (args := [(Value.pointer p0), (Value.agg #[(Value.int .u32 p1_0), (Value.int .i64 p1_1)])]) (rs := [.tmp 4]) Try.func55 rfl (N := 28) rfl rfl rfl rfl ?_
  refine WE.seq ?_
  refine WE.reg ?_
  obtain ⟨b2, hpb2, w1, hww1, h⟩ := M.new_use h
  refine LE.r (v := (Value.pointer (some b2))) (Wn.no rfl) rfl (R.box (cs := #[(Value.int .u32 p1_0), (Value.int .i64 p1_1)]) rfl rfl hpb2 hww1) ?_
  refine LE.p (v := (Value.pointer (none : Option Addr))) (Wn.no rfl) rfl (R.assign rfl) ?_
  refine LE.nil ?_
  refine WE.seq ?_
  refine WE.reg ?_
  refine LE.p (v := (Value.pointer p0)) (Wn.no rfl) rfl (R.move rfl) ?_
  obtain ⟨a3, h4, h⟩ := h
  refine LE.p (v := (Value.pointer (some a3))) (Wn.no rfl) rfl (R.nilC (congrArg Value.pointer h4)) ?_
  refine LE.p (v := (Value.pointer (some a3))) (Wn.no rfl) rfl (R.fld (off := 0) fa86_0 rfl) ?_
  refine LE.p (v := (Value.pointer (some a3))) (Wn.no rfl) rfl (R.assign rfl) ?_
  refine LE.nil ?_
  refine WE.seq ?_
  refine WE.seq ?_
  refine WE.reg ?_
  refine LE.p (v := (Value.pointer (some (b2.add 1)))) (Wn.no rfl) rfl (R.fld (off := 1) fa28_1 rfl) ?_
  obtain ⟨t5, h6, h⟩ := h
  refine LE.r (v := (Value.int .i64 t5)) (Wn.no rfl) rfl (R.ld sc3 rfl h6) ?_
  refine LE.p (v := (Value.int .i64 (0 : Int))) (Wn.no rfl) rfl (R.move rfl) ?_
  refine LE.nil ?_
  refine WE.block ?_
  obtain ⟨I13, ⟨n12, h⟩, hr14⟩ := h
  refine WE.loop (fun n e w => ∃ (x7 : Option Addr) (x8 : Int), I13 n x7 x8 w ∧ e 3 = (Value.pointer (some b2)) ∧ e 5 = (Value.pointer x7) ∧ e 11 = (Value.int .i64 t5) ∧ e 12 = (Value.int .i64 x8)) n12 ⟨_, _, h, rfl, rfl, rfl, rfl⟩ ?_
  clear h
  rintro n12 e11 w10 ⟨x7, x8, h, f17, f18, f19, f20⟩
  replace h := hr14 n12 x7 x8 w10 h
  refine WE.seq ?_
  refine WE.reg ?_
  refine LE.p (v := (Value.bool (decide (x8 < t5)))) (Wn.no rfl) rfl (R.lss f20 f19) ?_
  refine LE.nil ?_
  refine WE.seq ?_
  refine WE.condT rfl (b := (decide (x8 < t5))) rfl ?_ ?_
  · intro hb21
    replace h := M.ite_t h hb21
    refine WE.skip ?_
    refine WE.seq ?_
    refine WE.block ?_
    refine WE.seq ?_
    refine WE.reg ?_
    refine LE.p (v := (Value.int .i64 x8)) (Wn.no rfl) rfl (R.move f20) ?_
    refine LE.p (v := (Value.int .i64 x8)) (Wn.no rfl) rfl (R.assign rfl) ?_
    refine LE.nil ?_
    refine WE.seq ?_
    refine WE.draw mix ?_
    obtain ⟨w22, hww22, h⟩ := M.drew_use h
    rw [← hww22]
    clear hww22
    refine DE.t 0 (v := (Value.pointer x7)) rfl (by kernel_rfl) (Wn.no rfl) rfl (R.move f18) ?_
    refine DE.t 1 (v := (Value.pointer (some b2))) rfl (by kernel_rfl) (Wn.no rfl) rfl (R.fld (off := 0) fa28_0 f17) ?_
    refine DE.t 3 (v := (Value.int .i64 x8)) rfl (by kernel_rfl) (Wn.no rfl) rfl (R.move rfl) ?_
    obtain ⟨a23, h24, h⟩ := h
    refine DE.t 5 (v := (Value.pointer (some a23))) rfl (by kernel_rfl) (Wn.no rfl) rfl (R.nilC (congrArg Value.pointer h24)) ?_
    refine DE.t 6 (v := (Value.pointer (some a23))) rfl (by kernel_rfl) (Wn.no rfl) rfl (R.fld (off := 0) fa84_0 rfl) ?_
    obtain ⟨t25, h26, h⟩ := h
    refine DE.main 2 (by kernel_rfl) ?_
    refine One.r 2 (v := (Value.int .u32 t25)) rfl (Wn.no rfl) rfl (R.ld sc26 rfl h26) (.inl rfl) ?_
    refine DE.main 4 (by kernel_rfl) ?_
    refine One.c 4 rfl (Wn.no rfl) rfl (R.call bd38 (Ls.cons rfl (Ls.cons rfl Ls.nil)) rfl) (Calls.mono h ?_)
    rintro _ w28 ⟨r27, rfl, h⟩
    refine ⟨_, rfl, trivial, ?_⟩
    obtain ⟨h29, h30, h⟩ := h
    refine DE.t 7 (v := (Value.pointer (some (a23.add (r27.toNat * 1))))) rfl (by kernel_rfl) (Wn.no rfl) rfl (R.idxArr ar82 rfl rfl h29 h30) ?_
    obtain ⟨t31, h32, h⟩ := h
    refine DE.main 8 (by kernel_rfl) ?_
    refine One.r 8 (v := (Value.pointer t31)) rfl (Wn.no rfl) rfl (R.ld sc81 rfl h32) (.inl rfl) ?_
    refine DE.t 9 (v := (Value.pointer t31)) rfl (by kernel_rfl) (Wn.no rfl) rfl (R.assign rfl) ?_
    refine DE.done (by kernel_rfl) ?_
    refine WE.seq ?_
    refine WE.reg ?_
    refine LE.p (v := (Value.pointer t31)) (Wn.no rfl) rfl (R.move rfl) ?_
    refine LE.p (v := (Value.bool (Option.isNone t31))) (Wn.no rfl) rfl (R.peqNil pt81 rfl rfl) ?_
    refine LE.nil ?_
    refine WE.condT rfl (b := (Option.isNone t31)) rfl ?_ ?_
    · intro hb33
      replace h := M.ite_t h hb33
      refine WE.seq ?_
      refine WE.reg ?_
      refine LE.p (v := (Value.pointer (none : Option Addr))) (Wn.no rfl) rfl (R.assign rfl) ?_
      refine LE.nil ?_
      refine WE.ret ?_
      exact ⟨_, (Res.tmp rfl Res.nil), _, rfl, h⟩
    · intro hb33
      replace h := M.ite_f h hb33
      refine WE.skip ?_
      refine WE.reg ?_
      refine LE.p (v := (Value.int .i64 (IntKind.i64.wrap (x8 + (1 : Int))))) (Wn.no rfl) rfl (R.add f20 rfl) ?_
      refine LE.p (v := (Value.int .i64 (IntKind.i64.wrap (x8 + (1 : Int))))) (Wn.no rfl) rfl (R.move rfl) ?_
      refine LE.nil ?_
      obtain ⟨m15, hm16, h⟩ := h
      exact ⟨m15, hm16, _, _, h, f17, rfl, f19, rfl⟩
  · intro hb21
    replace h := M.ite_f h hb21
    refine WE.exit ?_
    refine WE.seq ?_
    refine WE.reg ?_
    refine LE.p (v := (Value.pointer x7)) (Wn.no rfl) rfl (R.move f18) ?_
    refine LE.p (v := (Value.pointer x7)) (Wn.no rfl) rfl (R.assign rfl) ?_
    refine LE.nil ?_
    refine WE.ret ?_
    exact ⟨_, (Res.tmp rfl Res.nil), _, rfl, h⟩
/-- The formula of (*signpost.trie.Trie).Match. -/
def F56 (p0 : Option Addr) (p1 : Int) (K : Int → Int → Int → Bool → World → Prop) (w0 : World) : Prop :=
M.new (.cells #[(Value.int .u32 (0 : Int)), (Value.int .i64 (0 : Int))] 28) w0 fun b2 w1 =>
Calls Try.prog 60 #[(Value.pointer p0), (Value.int .u32 p1), (Value.int .i64 (32 : Int))] w1 (R60 fun r3 w4 =>
M.ite ((r3.len : Int) == (0 : Int)) (
M.stA b2 [(Value.int .u32 (0 : Int)), (Value.int .i64 (0 : Int))] w4 fun w6 =>
M.ld (Value.int .u32) b2 w6 fun t8 =>
M.ld (Value.int .i64) (b2.add 1) w6 fun t10 =>
K t8 t10 (0 : Int) false w6) (
M.idx r3 (IntKind.i64.wrap ((r3.len : Int) - (1 : Int))) 2 fun a12 =>
M.ld (Value.int .u32) (a12.add ((IntKind.i64.wrap ((r3.len : Int) - (1 : Int))).toNat * 2)) w4 fun t16 =>
M.ld (Value.int .i64) ((a12.add ((IntKind.i64.wrap ((r3.len : Int) - (1 : Int))).toNat * 2)).add 1) w4 fun t18 =>
M.new (.cells #[(Value.int .u32 (0 : Int)), (Value.int .i64 (0 : Int))] 28) w4 fun b21 w20 =>
M.stA b21 [(Value.int .u32 t16), (Value.int .i64 t18)] w20 fun w22 =>
M.ld (Value.int .u32) b21 w22 fun t24 =>
M.ld (Value.int .i64) (b21.add 1) w22 fun t26 =>
Calls Try.prog 40 #[(Value.pointer p0), (Value.agg #[(Value.int .u32 t24), (Value.int .i64 t26)])] w22 (R40 fun r28 r29 w30 =>
M.ld (Value.int .u32) b21 w30 fun t31 =>
M.ld (Value.int .i64) (b21.add 1) w30 fun t33 =>
M.stA b2 [(Value.int .u32 t31), (Value.int .i64 t33)] w30 fun w35 =>
M.ld (Value.int .u32) b2 w35 fun t37 =>
M.ld (Value.int .i64) (b2.add 1) w35 fun t39 =>
K t37 t39 r28 true w35)))
theorem F56_ok {w0 : World} {p0 : Option Addr} {p1 : Int} {K : Int → Int → Int → Bool → World → Prop} (h : F56 p0 p1 K w0) : Calls Try.prog 56 #[(Value.pointer p0), (Value.int .u32 p1)] w0 (R56 K) := by
  refine calls_of_WE (args := [(Value.pointer p0), (Value.int .u32 p1)]) (rs := [.cell 4 28, .tmp 5, .tmp 6]) Try.func56 rfl (N := 32) rfl rfl rfl rfl ?_
  refine WE.seq ?_
  refine WE.reg ?_
  obtain ⟨b2, hpb2, w1, hww1, h⟩ := M.new_use h
  refine LE.r (v := (Value.pointer (some b2))) (Wn.no rfl) rfl (R.alloc (cs := #[(Value.int .u32 (0 : Int)), (Value.int .i64 (0 : Int))]) ze28 rfl hpb2 hww1) ?_
  refine LE.p (v := (Value.int .i64 (0 : Int))) (Wn.no rfl) rfl (R.assign rfl) ?_
  refine LE.p (v := (Value.bool false)) (Wn.no rfl) rfl (R.assign rfl) ?_
  refine LE.nil ?_
  refine WE.seq ?_
  refine WE.reg ?_
  refine LE.p (v := (Value.pointer p0)) (Wn.no rfl) rfl (R.move rfl) ?_
  refine LE.p (v := (Value.int .u32 p1)) (Wn.no rfl) rfl (R.move rfl) ?_
  refine LE.c (Wn.no rfl) rfl (R.call bd60 (Ls.cons rfl (Ls.cons rfl (Ls.cons rfl Ls.nil))) rfl) (Calls.mono h ?_)
  rintro _ w4 ⟨r3, rfl, h⟩
  refine ⟨_, rfl, ?_⟩
  refine LE.p (v := (SV.v r3)) (Wn.no rfl) rfl (R.assign rfl) ?_
  refine LE.nil ?_
  refine WE.seq ?_
  refine WE.seq ?_
  refine WE.reg ?_
  refine LE.p (v := (SV.v r3)) (Wn.no rfl) rfl (R.move rfl) ?_
  refine LE.p (v := (Value.int .i64 (r3.len : Int))) (Wn.no rfl) rfl (R.len sl40 rfl) ?_
  refine LE.p (v := (Value.bool ((r3.len : Int) == (0 : Int)))) (Wn.no rfl) rfl (R.eql rfl rfl) ?_
  refine LE.nil ?_
  refine WE.condT rfl (b := ((r3.len : Int) == (0 : Int))) rfl ?_ ?_
  · intro hb5
    replace h := M.ite_t h hb5
    refine WE.seq ?_
    refine WE.reg ?_
    refine LE.p (v := (Value.agg #[(Value.int .u32 (0 : Int)), (Value.int .i64 (0 : Int))])) (Wn.no rfl) rfl (R.bld (by exact Ls.nil) (fun w => bu28_  w)) ?_
    obtain ⟨w6, hww6, h7, h⟩ := M.stA_use h
    refine LE.s (Wn.no rfl) rfl (R.stA (a := b2) [(Value.int .u32 (0 : Int)), (Value.int .i64 (0 : Int))] sz28 rfl rfl rfl (by simp [Value.oneCell']) h7 hww6) ?_
    refine LE.p (v := (Value.int .i64 (0 : Int))) (Wn.no rfl) rfl (R.assign rfl) ?_
    refine LE.p (v := (Value.bool false)) (Wn.no rfl) rfl (R.assign rfl) ?_
    refine LE.nil ?_
    refine WE.ret ?_
    obtain ⟨t8, h9, h⟩ := h
    obtain ⟨t10, h11, h⟩ := h
    exact ⟨_, (Res.cell rfl (R.ldCellA ag28 sz28 rfl (Cs.cons h9 (Cs.cons h11 Cs.nil))) (Res.tmp rfl (Res.tmp rfl Res.nil))), _, _, _, _, rfl, h⟩
  · intro hb5
    replace h := M.ite_f h hb5
    refine WE.skip ?_
    refine WE.seq ?_
    refine WE.reg ?_
    refine LE.p (v := (SV.v r3)) (Wn.no rfl) rfl (R.move rfl) ?_
    refine LE.p (v := (SV.v r3)) (Wn.no rfl) rfl (R.move rfl) ?_
    refine LE.p (v := (Value.int .i64 (r3.len : Int))) (Wn.no rfl) rfl (R.len sl40 rfl) ?_
    refine LE.p (v := (Value.int .i64 (IntKind.i64.wrap ((r3.len : Int) - (1 : Int))))) (Wn.no rfl) rfl (R.sub rfl rfl) ?_
    obtain ⟨a12, h13, h14, h15, h⟩ := h
    refine LE.p (v := (Value.pointer (some (a12.add ((IntKind.i64.wrap ((r3.len : Int) - (1 : Int))).toNat * 2))))) (Wn.no rfl) rfl (R.idx (s := r3) sl40 rfl rfl h13 h14 h15) ?_
    obtain ⟨t16, h17, h⟩ := h
    obtain ⟨t18, h19, h⟩ := h
    refine LE.r (v := (Value.agg #[(Value.int .u32 t16), (Value.int .i64 t18)])) (Wn.no rfl) rfl (R.ldA ag28 sz28 rfl rfl (Cs.cons h17 (Cs.cons h19 Cs.nil))) ?_
    obtain ⟨b21, hpb21, w20, hww20, h⟩ := M.new_use h
    refine LE.r (v := (Value.pointer (some b21))) (Wn.no rfl) rfl (R.alloc (cs := #[(Value.int .u32 (0 : Int)), (Value.int .i64 (0 : Int))]) ze28 rfl hpb21 hww20) ?_
    obtain ⟨w22, hww22, h23, h⟩ := M.stA_use h
    refine LE.s (Wn.no rfl) rfl (R.stA (a := b21) [(Value.int .u32 t16), (Value.int .i64 t18)] sz28 rfl rfl rfl (by simp [Value.oneCell']) h23 hww22) ?_
    refine LE.nil ?_
    refine WE.seq ?_
    refine WE.reg ?_
    refine LE.p (v := (Value.pointer p0)) (Wn.no rfl) rfl (R.move rfl) ?_
    obtain ⟨t24, h25, h⟩ := h
    obtain ⟨t26, h27, h⟩ := h
    refine LE.r (v := (Value.agg #[(Value.int .u32 t24), (Value.int .i64 t26)])) (Wn.no rfl) rfl (R.ldA ag28 sz28 rfl rfl (Cs.cons h25 (Cs.cons h27 Cs.nil))) ?_
    refine LE.c (Wn.no rfl) rfl (R.call bd40 (Ls.cons rfl (Ls.cons rfl Ls.nil)) rfl) (Calls.mono h ?_)
    rintro _ w30 ⟨r28, r29, rfl, h⟩
    refine ⟨_, rfl, ?_⟩
    refine LE.p (v := (Value.tuple #[(Value.int .i64 r28), (Value.bool r29)])) (Wn.no rfl) rfl (R.move rfl) ?_
    refine LE.p (v := (Value.int .i64 r28)) (Wn.no rfl) rfl (R.ext rfl rfl) ?_
    refine LE.p (v := (Value.bool r29)) (Wn.no rfl) rfl (R.ext rfl rfl) ?_
    refine LE.p (v := (Value.int .i64 r28)) (Wn.no rfl) rfl (R.assign rfl) ?_
    refine LE.p (v := (Value.bool r29)) (Wn.no rfl) rfl (R.assign rfl) ?_
    refine LE.nil ?_
    refine WE.seq ?_
    refine WE.reg ?_
    obtain ⟨t31, h32, h⟩ := h
    obtain ⟨t33, h34, h⟩ := h
    refine LE.r (v := (Value.agg #[(Value.int .u32 t31), (Value.int .i64 t33)])) (Wn.no rfl) rfl (R.ldA ag28 sz28 rfl rfl (Cs.cons h32 (Cs.cons h34 Cs.nil))) ?_
    refine LE.p (v := (Value.int .i64 r28)) (Wn.no rfl) rfl (R.move rfl) ?_
    obtain ⟨w35, hww35, h36, h⟩ := M.stA_use h
    refine LE.s (Wn.no rfl) rfl (R.stA (a := b2) [(Value.int .u32 t31), (Value.int .i64 t33)] sz28 rfl rfl rfl (by simp [Value.oneCell']) h36 hww35) ?_
    refine LE.p (v := (Value.int .i64 r28)) (Wn.no rfl) rfl (R.assign rfl) ?_
    refine LE.p (v := (Value.bool true)) (Wn.no rfl) rfl (R.assign rfl) ?_
    refine LE.nil ?_
    refine WE.ret ?_
    obtain ⟨t37, h38, h⟩ := h
    obtain ⟨t39, h40, h⟩ := h
    exact ⟨_, (Res.cell rfl (R.ldCellA ag28 sz28 rfl (Cs.cons h38 (Cs.cons h40 Cs.nil))) (Res.tmp rfl (Res.tmp rfl Res.nil))), _, _, _, _, rfl, h⟩
end Go.Proofs.Ytecegjimdohmeaa
