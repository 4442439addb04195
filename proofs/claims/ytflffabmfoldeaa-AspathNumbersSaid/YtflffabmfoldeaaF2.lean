/-
  Printed by gen.py: the formula of each function, and that it holds of the function.
-/
import Derived.Test.YtflffabmfoldeaaTy
namespace Go.Proofs.Ytflffabmfoldeaa
set_option linter.unusedVariables false
set_option linter.unusedSimpArgs false
open Go.Sp
set_option linter.unusedVariables false
/-- The formula of signpost.signpostlaw6.AspathNumbers. -/
def F7  (K : Bool → World → Prop) (w0 : World) : Prop :=
M.mk Try.prog 25 (Value.int .i64 (255 : Int)) (Value.int .i64 (255 : Int)) w0 fun s1 w2 =>
M.mk Try.prog 25 (Value.int .i64 (256 : Int)) (Value.int .i64 (256 : Int)) w2 fun s4 w5 =>
M.mk Try.prog 24 (Value.int .i64 (17 : Int)) (Value.int .i64 (17 : Int)) w5 fun s7 w8 =>
M.loop1 (fun (J11 : Int → World → Prop) (x10 : Int) (w12 : World) => 
M.ite (decide (x10 < (17 : Int))) (
M.new (.cells #[(Value.int .u32 (IntKind.u32.wrap x10))] 23) w12 fun b26 w24 =>
M.idx s7 x10 2 fun a27 =>
M.stA (a27.add (x10.toNat * 2)) [(Value.int .i64 (1 : Int)), (SV.v (SV.mk (some b26) 1 1))] w24 fun w31 =>
J11 (IntKind.i64.wrap (x10 + (1 : Int))) w31) (
M.drew w12 fun w33 => 
M.bnd (0 : Int) (254 : Int) s1 <|
M.bnd (0 : Int) (16 : Int) s7 <|
∀ (b45 : Nat) (b49 : Nat) (b53 : Nat) (b57 : Nat) (b61 : Nat) (b65 : Nat) (b69 : Nat) (b73 : Nat) (b77 : Nat) (b81 : Nat) (b85 : Nat) (b89 : Nat) (b93 : Nat) (b97 : Nat) (b101 : Nat) (b105 : Nat) (b109 : Nat) (b113 : Nat) (w115 : World), Keeps [] w33 w115 → Blk w115 b45 27 [(Value.int .i64 (0 : Int)), (SV.v SV.nil)] → Blk w115 b49 27 [(Value.int .i64 (1 : Int)), (SV.v SV.nil)] → Blk w115 b53 27 [(Value.int .i64 (2 : Int)), (SV.v SV.nil)] → Blk w115 b57 23 [(Value.int .u32 (1 : Int))] → Blk w115 b61 27 [(Value.int .i64 (3 : Int)), (SV.v (SV.mk (some (Addr.mk b57 0 none)) 1 1))] → Blk w115 b65 27 [(Value.int .i64 (2 : Int)), (SV.v s1)] → Blk w115 b69 27 [(Value.int .i64 (2 : Int)), (SV.v s4)] → Blk w115 b73 27 [(Value.int .i64 (2 : Int)), (SV.v (SV.sub s1 (Int.toNat (0 : Int)) (Int.toNat (254 : Int)) 1))] → Blk w115 b77 23 [(Value.int .u32 (5 : Int)), (Value.int .u32 (5 : Int))] → Blk w115 b81 23 [(Value.int .u32 (5 : Int))] → Blk w115 b85 27 [(Value.int .i64 (1 : Int)), (SV.v (SV.mk (some (Addr.mk b77 0 none)) 2 2)), (Value.int .i64 (2 : Int)), (SV.v (SV.mk (some (Addr.mk b81 0 none)) 1 1))] → Blk w115 b89 23 [(Value.int .u32 (5 : Int))] → Blk w115 b93 27 [(Value.int .i64 (2 : Int)), (SV.v (SV.mk (some (Addr.mk b89 0 none)) 1 1))] → Blk w115 b97 23 [(Value.int .u32 (5 : Int)), (Value.int .u32 (6 : Int))] → Blk w115 b101 27 [(Value.int .i64 (2 : Int)), (SV.v (SV.mk (some (Addr.mk b97 0 none)) 2 2))] → Blk w115 b105 23 [(Value.int .u32 (6 : Int))] → Blk w115 b109 27 [(Value.int .i64 (2 : Int)), (SV.v (SV.mk (some (Addr.mk b105 0 none)) 1 1))] → Blk w115 b113 24 [(SV.v SV.nil), (SV.v (SV.mk (some (Addr.mk b45 0 none)) 1 1)), (SV.v (SV.mk (some (Addr.mk b49 0 none)) 1 1)), (SV.v (SV.mk (some (Addr.mk b53 0 none)) 1 1)), (SV.v (SV.mk (some (Addr.mk b61 0 none)) 1 1)), (SV.v (SV.mk (some (Addr.mk b65 0 none)) 1 1)), (SV.v (SV.mk (some (Addr.mk b69 0 none)) 1 1)), (SV.v (SV.mk (some (Addr.mk b73 0 none)) 1 1)), (SV.v s7), (SV.v (SV.sub s7 (Int.toNat (0 : Int)) (Int.toNat (16 : Int)) 2)), (SV.v (SV.mk (some (Addr.mk b85 0 none)) 2 2)), (SV.v (SV.mk (some (Addr.mk b93 0 none)) 1 1)), (SV.v (SV.mk (some (Addr.mk b101 0 none)) 1 1)), (SV.v (SV.mk (some (Addr.mk b109 0 none)) 1 1))] →
M.loop1 (fun (J121 : Int → World → Prop) (x120 : Int) (w122 : World) => 
M.ite (decide (x120 < ((SV.mk (some (Addr.mk b113 0 none)) 14 14).len : Int))) (
M.loop1 (fun (J133 : Int → World → Prop) (x132 : Int) (w134 : World) => 
M.ite (decide (x132 < ((SV.mk (some (Addr.mk b113 0 none)) 14 14).len : Int))) (
M.new (.cells #[(Value.int .i64 (-1 : Int)), (Value.int .i64 (0 : Int)), (Value.int .i64 (1 : Int)), (Value.int .i64 (2 : Int)), (Value.int .i64 (10 : Int)), (Value.int .i64 (11 : Int))] 3) w134 fun b147 w145 =>
M.loop1 (fun (J149 : Int → World → Prop) (x148 : Int) (w150 : World) => 
M.ite (decide (x148 < ((SV.mk (some b147) 6 6).len : Int))) (
M.idx (SV.mk (some b147) 6 6) x148 1 fun a164 =>
M.ld (Value.int .i64) (a164.add (x148.toNat * 1)) w150 fun t168 =>
M.drew w150 fun w170 => 
M.idx (SV.mk (some (Addr.mk b113 0 none)) 14 14) x120 1 fun a171 =>
M.idx (SV.mk (some (Addr.mk b113 0 none)) 14 14) x132 1 fun a175 =>
M.ld SV.v (a171.add (x120.toNat * 1)) w170 fun t179 =>
M.ld SV.v (a175.add (x132.toNat * 1)) w170 fun t181 =>
Calls Try.prog 23 #[(SV.v t179), (SV.v t181), (Value.int .u32 (5 : Int)), (Value.int .i64 t168)] w170 (R23 fun r183 w184 =>
M.ite (!r183) (
K false w184) (
J149 (IntKind.i64.wrap (x148 + (1 : Int))) w184))) (
J133 (IntKind.i64.wrap (x132 + (1 : Int))) w150)) (0 : Int) w145) (
M.idx (SV.mk (some (Addr.mk b113 0 none)) 14 14) x120 1 fun a186 =>
M.ld SV.v (a186.add (x120.toNat * 1)) w134 fun t190 =>
Calls Try.prog 24 #[(SV.v t190)] w134 (R24 fun r192 w193 =>
M.join (fun (x195 : Bool) (w222 : World) => 
M.ite x195 (
K false w222) (
J121 (IntKind.i64.wrap (x120 + (1 : Int))) w222)) fun J194 => 
Calls Try.prog 25 #[(SV.v r192)] w193 (R25 fun r196 w197 =>
M.ite (!r196) (
J194 true w197) (
M.ite (decide ((0 : Int) < (r192.len : Int))) (
M.bnd (0 : Int) (IntKind.i64.wrap ((r192.len : Int) - (1 : Int))) r192 <|
Calls Try.prog 25 #[(SV.v (SV.sub r192 (Int.toNat (0 : Int)) (Int.toNat (IntKind.i64.wrap ((r192.len : Int) - (1 : Int)))) 1))] w197 (R25 fun r204 w205 =>
M.ite (!r204) (
J194 true w205) (
M.new (.cells #[] 5) w205 fun b209 w207 =>
M.app Try.prog 40 40 40 (SV.mk (some b209) 0 0) (SV.v r192) w207 fun s210 w211 =>
M.new (.cells #[(Value.int .u8 (2 : Int))] 5) w211 fun b215 w213 =>
M.app Try.prog 40 40 40 s210 (SV.v (SV.mk (some b215) 1 1)) w213 fun s216 w217 =>
Calls Try.prog 25 #[(SV.v s216)] w217 (R25 fun r219 w220 =>
J194 (!r219) w220)))) (
J194 false w197)))))) (0 : Int) w122) (
Calls Try.prog 14 #[] w122 (R14 fun r227 w228 =>
K r227 w228))) (0 : Int) w115)) (0 : Int) w8
theorem F7_ok {w0 : World}  {K : Bool → World → Prop} (h : F7 K w0) : Calls Try.prog 7 #[] w0 (R7 K) := by
  refine calls_of_WE (args := []) (rs := [.tmp 0]) Try.func7 rfl (N := 124) rfl rfl rfl rfl ?_
  refine WE.seq ?_
  refine WE.reg ?_
  refine LE.p (v := (Value.bool false)) (Wn.no rfl) rfl (R.assign rfl) ?_
  refine LE.nil ?_
  refine WE.seq ?_
  refine WE.reg ?_
  obtain ⟨s1, w2, h3, h⟩ := h
  refine LE.r (v := (SV.v s1)) (Wn.no rfl) rfl (R.mks rfl rfl h3) ?_
  refine LE.p (v := (SV.v s1)) (Wn.no rfl) rfl (R.assign rfl) ?_
  refine LE.nil ?_
  refine WE.seq ?_
  refine WE.reg ?_
  obtain ⟨s4, w5, h6, h⟩ := h
  refine LE.r (v := (SV.v s4)) (Wn.no rfl) rfl (R.mks rfl rfl h6) ?_
  refine LE.p (v := (SV.v s4)) (Wn.no rfl) rfl (R.assign rfl) ?_
  refine LE.nil ?_
  refine WE.seq ?_
  refine WE.reg ?_
  obtain ⟨s7, w8, h9, h⟩ := h
  refine LE.r (v := (SV.v s7)) (Wn.no rfl) rfl (R.mks rfl rfl h9) ?_
  refine LE.p (v := (SV.v s7)) (Wn.no rfl) rfl (R.assign rfl) ?_
  refine LE.nil ?_
  refine WE.seq ?_
  refine WE.seq ?_
  refine WE.reg ?_
  refine LE.p (v := (Value.int .i64 (0 : Int))) (Wn.no rfl) rfl (R.assign rfl) ?_
  refine LE.nil ?_
  refine WE.block ?_
  obtain ⟨I15, ⟨n14, h⟩, hr16⟩ := h
  refine WE.loop (fun n e w => ∃ (x10 : Int), I15 n x10 w ∧ e 1 = (SV.v s1) ∧ e 2 = (SV.v s4) ∧ e 3 = (SV.v s7) ∧ e 4 = (Value.int .i64 x10)) n14 ⟨_, h, rfl, rfl, rfl, rfl⟩ ?_
  clear h
  rintro n14 e13 w12 ⟨x10, h, f19, f20, f21, f22⟩
  replace h := hr16 n14 x10 w12 h
  refine WE.seq ?_
  refine WE.seq ?_
  refine WE.reg ?_
  refine LE.p (v := (Value.int .i64 x10)) (Wn.no rfl) rfl (R.move f22) ?_
  refine LE.p (v := (Value.bool (decide (x10 < (17 : Int))))) (Wn.no rfl) rfl (R.lss rfl rfl) ?_
  refine LE.nil ?_
  refine WE.condT rfl (b := (decide (x10 < (17 : Int)))) rfl ?_ ?_
  · intro hb23
    replace h := M.ite_t h hb23
    refine WE.skip ?_
    refine WE.seq ?_
    refine WE.block ?_
    refine WE.reg ?_
    refine LE.p (v := (SV.v s7)) (Wn.no rfl) rfl (R.move f21) ?_
    refine LE.p (v := (Value.int .i64 x10)) (Wn.no rfl) rfl (R.move f22) ?_
    refine LE.p (v := (Value.int .i64 x10)) (Wn.no rfl) rfl (R.move f22) ?_
    refine LE.p (v := (Value.int .u32 (IntKind.u32.wrap x10))) (Wn.no rfl) rfl (R.conv in23 in3 rfl) ?_
    obtain ⟨b26, hpb26, w24, hww24, h⟩ := M.new_use h
    refine LE.r (v := (SV.v (SV.mk (some b26) 1 1))) (Wn.no rfl) rfl (R.bsl (by exact (Ls.cons (R.Pr rfl) Ls.nil)) (fun w => bs25_1 (IntKind.u32.wrap x10) w) hpb26 hww24) ?_
    refine LE.p (v := (Value.agg #[(Value.int .i64 (1 : Int)), (SV.v (SV.mk (some b26) 1 1))])) (Wn.no rfl) rfl (R.bld (by exact (Ls.cons (R.Pr rfl) (Ls.cons (R.Pr rfl) Ls.nil))) (fun w => bu27_0_1 (1 : Int) (SV.mk (some b26) 1 1) w)) ?_
    obtain ⟨a27, h28, h29, h30, h⟩ := h
    refine LE.p (v := (Value.pointer (some (a27.add (x10.toNat * 2))))) (Wn.no rfl) rfl (R.idx (s := s7) sl24 rfl rfl h28 h29 h30) ?_
    obtain ⟨w31, hww31, h32, h⟩ := M.stA_use h
    refine LE.s (Wn.no rfl) rfl (R.stA (a := (a27.add (x10.toNat * 2))) [(Value.int .i64 (1 : Int)), (SV.v (SV.mk (some b26) 1 1))] sz27 rfl rfl rfl (by simp [Value.oneCell']) h32 hww31) ?_
    refine LE.nil ?_
    refine WE.reg ?_
    refine LE.p (v := (Value.int .i64 x10)) (Wn.no rfl) rfl (R.move f22) ?_
    refine LE.p (v := (Value.int .i64 (IntKind.i64.wrap (x10 + (1 : Int))))) (Wn.no rfl) rfl (R.add rfl rfl) ?_
    refine LE.p (v := (Value.int .i64 (IntKind.i64.wrap (x10 + (1 : Int))))) (Wn.no rfl) rfl (R.assign rfl) ?_
    refine LE.nil ?_
    obtain ⟨m17, hm18, h⟩ := h
    exact ⟨m17, hm18, _, h, f19, f20, f21, rfl⟩
  · intro hb23
    replace h := M.ite_f h hb23
    refine WE.exit ?_
    refine WE.seq ?_
    refine WE.draw mix ?_
    obtain ⟨w33, hww33, h⟩ := M.drew_use h
    rw [← hww33]
    clear hww33
    refine DE.t 0 (v := (Value.agg #[(Value.int .i64 (0 : Int)), (SV.v SV.nil)])) rfl (by kernel_rfl) (Wn.no rfl) rfl (R.bld (by exact Ls.nil) (fun w => bu27_  w)) ?_
    refine DE.t 2 (v := (Value.agg #[(Value.int .i64 (1 : Int)), (SV.v SV.nil)])) rfl (by kernel_rfl) (Wn.no rfl) rfl (R.bld (by exact (Ls.cons (R.Pr rfl) Ls.nil)) (fun w => bu27_0 (1 : Int) w)) ?_
    refine DE.t 4 (v := (Value.agg #[(Value.int .i64 (2 : Int)), (SV.v SV.nil)])) rfl (by kernel_rfl) (Wn.no rfl) rfl (R.bld (by exact (Ls.cons (R.Pr rfl) Ls.nil)) (fun w => bu27_0 (2 : Int) w)) ?_
    refine DE.t 9 (v := (SV.v s1)) rfl (by kernel_rfl) (Wn.no rfl) rfl (R.move f19) ?_
    refine DE.t 10 (v := (Value.agg #[(Value.int .i64 (2 : Int)), (SV.v s1)])) rfl (by kernel_rfl) (Wn.no rfl) rfl (R.bld (by exact (Ls.cons (R.Pr rfl) (Ls.cons (R.Pr rfl) Ls.nil))) (fun w => bu27_0_1 (2 : Int) s1 w)) ?_
    refine DE.t 12 (v := (SV.v s4)) rfl (by kernel_rfl) (Wn.no rfl) rfl (R.move f20) ?_
    refine DE.t 13 (v := (Value.agg #[(Value.int .i64 (2 : Int)), (SV.v s4)])) rfl (by kernel_rfl) (Wn.no rfl) rfl (R.bld (by exact (Ls.cons (R.Pr rfl) (Ls.cons (R.Pr rfl) Ls.nil))) (fun w => bu27_0_1 (2 : Int) s4 w)) ?_
    refine DE.t 15 (v := (SV.v s1)) rfl (by kernel_rfl) (Wn.no rfl) rfl (R.move f19) ?_
    obtain ⟨h34, h35, h36, h⟩ := h
    refine DE.t 16 (v := (SV.v (SV.sub s1 (Int.toNat (0 : Int)) (Int.toNat (254 : Int)) 1))) rfl (by kernel_rfl) (Wn.no rfl) rfl (R.slc (s := s1) (lo := (0 : Int)) (hi := (254 : Int)) _ _ sl25 rfl rfl rfl h34 h35 h36) ?_
    refine DE.t 17 (v := (Value.agg #[(Value.int .i64 (2 : Int)), (SV.v (SV.sub s1 (Int.toNat (0 : Int)) (Int.toNat (254 : Int)) 1))])) rfl (by kernel_rfl) (Wn.no rfl) rfl (R.bld (by exact (Ls.cons (R.Pr rfl) (Ls.cons (R.Pr rfl) Ls.nil))) (fun w => bu27_0_1 (2 : Int) (SV.sub s1 (Int.toNat (0 : Int)) (Int.toNat (254 : Int)) 1) w)) ?_
    refine DE.t 19 (v := (SV.v s7)) rfl (by kernel_rfl) (Wn.no rfl) rfl (R.move f21) ?_
    refine DE.t 20 (v := (SV.v s7)) rfl (by kernel_rfl) (Wn.no rfl) rfl (R.move f21) ?_
    obtain ⟨h38, h39, h40, h⟩ := h
    refine DE.t 21 (v := (SV.v (SV.sub s7 (Int.toNat (0 : Int)) (Int.toNat (16 : Int)) 2))) rfl (by kernel_rfl) (Wn.no rfl) rfl (R.slc (s := s7) (lo := (0 : Int)) (hi := (16 : Int)) _ _ sl24 rfl rfl rfl h38 h39 h40) ?_
    refine DE.pool0 [⟨1, 26, [], fun v w => ∃ b45 : Nat, v = (SV.v (SV.mk (some (Addr.mk b45 0 none)) 1 1)) ∧ Blk w b45 27 [(Value.int .i64 (0 : Int)), (SV.v SV.nil)]⟩,
      ⟨3, 28, [], fun v w => ∃ b49 : Nat, v = (SV.v (SV.mk (some (Addr.mk b49 0 none)) 1 1)) ∧ Blk w b49 27 [(Value.int .i64 (1 : Int)), (SV.v SV.nil)]⟩,
      ⟨5, 30, [], fun v w => ∃ b53 : Nat, v = (SV.v (SV.mk (some (Addr.mk b53 0 none)) 1 1)) ∧ Blk w b53 27 [(Value.int .i64 (2 : Int)), (SV.v SV.nil)]⟩,
      ⟨6, 31, [], fun v w => ∃ b57 : Nat, v = (SV.v (SV.mk (some (Addr.mk b57 0 none)) 1 1)) ∧ Blk w b57 23 [(Value.int .u32 (1 : Int))]⟩,
      ⟨7, 32, [31], fun v w => ∃ b57 : Nat, v = (Value.agg #[(Value.int .i64 (3 : Int)), (SV.v (SV.mk (some (Addr.mk b57 0 none)) 1 1))]) ∧ Blk w b57 23 [(Value.int .u32 (1 : Int))]⟩,
      ⟨8, 33, [32], fun v w => ∃ b57 b61 : Nat, v = (SV.v (SV.mk (some (Addr.mk b61 0 none)) 1 1)) ∧ Blk w b57 23 [(Value.int .u32 (1 : Int))] ∧ Blk w b61 27 [(Value.int .i64 (3 : Int)), (SV.v (SV.mk (some (Addr.mk b57 0 none)) 1 1))]⟩,
      ⟨11, 36, [], fun v w => ∃ b65 : Nat, v = (SV.v (SV.mk (some (Addr.mk b65 0 none)) 1 1)) ∧ Blk w b65 27 [(Value.int .i64 (2 : Int)), (SV.v s1)]⟩,
      ⟨14, 39, [], fun v w => ∃ b69 : Nat, v = (SV.v (SV.mk (some (Addr.mk b69 0 none)) 1 1)) ∧ Blk w b69 27 [(Value.int .i64 (2 : Int)), (SV.v s4)]⟩,
      ⟨18, 43, [], fun v w => ∃ b73 : Nat, v = (SV.v (SV.mk (some (Addr.mk b73 0 none)) 1 1)) ∧ Blk w b73 27 [(Value.int .i64 (2 : Int)), (SV.v (SV.sub s1 (Int.toNat (0 : Int)) (Int.toNat (254 : Int)) 1))]⟩,
      ⟨22, 47, [], fun v w => ∃ b77 : Nat, v = (SV.v (SV.mk (some (Addr.mk b77 0 none)) 2 2)) ∧ Blk w b77 23 [(Value.int .u32 (5 : Int)), (Value.int .u32 (5 : Int))]⟩,
      ⟨23, 48, [47], fun v w => ∃ b77 : Nat, v = (Value.agg #[(Value.int .i64 (1 : Int)), (SV.v (SV.mk (some (Addr.mk b77 0 none)) 2 2))]) ∧ Blk w b77 23 [(Value.int .u32 (5 : Int)), (Value.int .u32 (5 : Int))]⟩,
      ⟨24, 49, [], fun v w => ∃ b81 : Nat, v = (SV.v (SV.mk (some (Addr.mk b81 0 none)) 1 1)) ∧ Blk w b81 23 [(Value.int .u32 (5 : Int))]⟩,
      ⟨25, 50, [49], fun v w => ∃ b81 : Nat, v = (Value.agg #[(Value.int .i64 (2 : Int)), (SV.v (SV.mk (some (Addr.mk b81 0 none)) 1 1))]) ∧ Blk w b81 23 [(Value.int .u32 (5 : Int))]⟩,
      ⟨26, 51, [48, 50], fun v w => ∃ b77 b81 b85 : Nat, v = (SV.v (SV.mk (some (Addr.mk b85 0 none)) 2 2)) ∧ Blk w b77 23 [(Value.int .u32 (5 : Int)), (Value.int .u32 (5 : Int))] ∧ Blk w b81 23 [(Value.int .u32 (5 : Int))] ∧ Blk w b85 27 [(Value.int .i64 (1 : Int)), (SV.v (SV.mk (some (Addr.mk b77 0 none)) 2 2)), (Value.int .i64 (2 : Int)), (SV.v (SV.mk (some (Addr.mk b81 0 none)) 1 1))]⟩,
      ⟨27, 52, [], fun v w => ∃ b89 : Nat, v = (SV.v (SV.mk (some (Addr.mk b89 0 none)) 1 1)) ∧ Blk w b89 23 [(Value.int .u32 (5 : Int))]⟩,
      ⟨28, 53, [52], fun v w => ∃ b89 : Nat, v = (Value.agg #[(Value.int .i64 (2 : Int)), (SV.v (SV.mk (some (Addr.mk b89 0 none)) 1 1))]) ∧ Blk w b89 23 [(Value.int .u32 (5 : Int))]⟩,
      ⟨29, 54, [53], fun v w => ∃ b89 b93 : Nat, v = (SV.v (SV.mk (some (Addr.mk b93 0 none)) 1 1)) ∧ Blk w b89 23 [(Value.int .u32 (5 : Int))] ∧ Blk w b93 27 [(Value.int .i64 (2 : Int)), (SV.v (SV.mk (some (Addr.mk b89 0 none)) 1 1))]⟩,
      ⟨30, 55, [], fun v w => ∃ b97 : Nat, v = (SV.v (SV.mk (some (Addr.mk b97 0 none)) 2 2)) ∧ Blk w b97 23 [(Value.int .u32 (5 : Int)), (Value.int .u32 (6 : Int))]⟩,
      ⟨31, 56, [55], fun v w => ∃ b97 : Nat, v = (Value.agg #[(Value.int .i64 (2 : Int)), (SV.v (SV.mk (some (Addr.mk b97 0 none)) 2 2))]) ∧ Blk w b97 23 [(Value.int .u32 (5 : Int)), (Value.int .u32 (6 : Int))]⟩,
      ⟨32, 57, [56], fun v w => ∃ b97 b101 : Nat, v = (SV.v (SV.mk (some (Addr.mk b101 0 none)) 1 1)) ∧ Blk w b97 23 [(Value.int .u32 (5 : Int)), (Value.int .u32 (6 : Int))] ∧ Blk w b101 27 [(Value.int .i64 (2 : Int)), (SV.v (SV.mk (some (Addr.mk b97 0 none)) 2 2))]⟩,
      ⟨33, 58, [], fun v w => ∃ b105 : Nat, v = (SV.v (SV.mk (some (Addr.mk b105 0 none)) 1 1)) ∧ Blk w b105 23 [(Value.int .u32 (6 : Int))]⟩,
      ⟨34, 59, [58], fun v w => ∃ b105 : Nat, v = (Value.agg #[(Value.int .i64 (2 : Int)), (SV.v (SV.mk (some (Addr.mk b105 0 none)) 1 1))]) ∧ Blk w b105 23 [(Value.int .u32 (6 : Int))]⟩,
      ⟨35, 60, [59], fun v w => ∃ b105 b109 : Nat, v = (SV.v (SV.mk (some (Addr.mk b109 0 none)) 1 1)) ∧ Blk w b105 23 [(Value.int .u32 (6 : Int))] ∧ Blk w b109 27 [(Value.int .i64 (2 : Int)), (SV.v (SV.mk (some (Addr.mk b105 0 none)) 1 1))]⟩,
      ⟨36, 61, [26, 28, 30, 33, 36, 39, 43, 51, 54, 57, 60], fun v w => ∃ b45 b49 b53 b57 b61 b65 b69 b73 b77 b81 b85 b89 b93 b97 b101 b105 b109 b113 : Nat, v = (SV.v (SV.mk (some (Addr.mk b113 0 none)) 14 14)) ∧ Blk w b45 27 [(Value.int .i64 (0 : Int)), (SV.v SV.nil)] ∧ Blk w b49 27 [(Value.int .i64 (1 : Int)), (SV.v SV.nil)] ∧ Blk w b53 27 [(Value.int .i64 (2 : Int)), (SV.v SV.nil)] ∧ Blk w b57 23 [(Value.int .u32 (1 : Int))] ∧ Blk w b61 27 [(Value.int .i64 (3 : Int)), (SV.v (SV.mk (some (Addr.mk b57 0 none)) 1 1))] ∧ Blk w b65 27 [(Value.int .i64 (2 : Int)), (SV.v s1)] ∧ Blk w b69 27 [(Value.int .i64 (2 : Int)), (SV.v s4)] ∧ Blk w b73 27 [(Value.int .i64 (2 : Int)), (SV.v (SV.sub s1 (Int.toNat (0 : Int)) (Int.toNat (254 : Int)) 1))] ∧ Blk w b77 23 [(Value.int .u32 (5 : Int)), (Value.int .u32 (5 : Int))] ∧ Blk w b81 23 [(Value.int .u32 (5 : Int))] ∧ Blk w b85 27 [(Value.int .i64 (1 : Int)), (SV.v (SV.mk (some (Addr.mk b77 0 none)) 2 2)), (Value.int .i64 (2 : Int)), (SV.v (SV.mk (some (Addr.mk b81 0 none)) 1 1))] ∧ Blk w b89 23 [(Value.int .u32 (5 : Int))] ∧ Blk w b93 27 [(Value.int .i64 (2 : Int)), (SV.v (SV.mk (some (Addr.mk b89 0 none)) 1 1))] ∧ Blk w b97 23 [(Value.int .u32 (5 : Int)), (Value.int .u32 (6 : Int))] ∧ Blk w b101 27 [(Value.int .i64 (2 : Int)), (SV.v (SV.mk (some (Addr.mk b97 0 none)) 2 2))] ∧ Blk w b105 23 [(Value.int .u32 (6 : Int))] ∧ Blk w b109 27 [(Value.int .i64 (2 : Int)), (SV.v (SV.mk (some (Addr.mk b105 0 none)) 1 1))] ∧ Blk w b113 24 [(SV.v SV.nil), (SV.v (SV.mk (some (Addr.mk b45 0 none)) 1 1)), (SV.v (SV.mk (some (Addr.mk b49 0 none)) 1 1)), (SV.v (SV.mk (some (Addr.mk b53 0 none)) 1 1)), (SV.v (SV.mk (some (Addr.mk b61 0 none)) 1 1)), (SV.v (SV.mk (some (Addr.mk b65 0 none)) 1 1)), (SV.v (SV.mk (some (Addr.mk b69 0 none)) 1 1)), (SV.v (SV.mk (some (Addr.mk b73 0 none)) 1 1)), (SV.v s7), (SV.v (SV.sub s7 (Int.toNat (0 : Int)) (Int.toNat (16 : Int)) 2)), (SV.v (SV.mk (some (Addr.mk b85 0 none)) 2 2)), (SV.v (SV.mk (some (Addr.mk b93 0 none)) 1 1)), (SV.v (SV.mk (some (Addr.mk b101 0 none)) 1 1)), (SV.v (SV.mk (some (Addr.mk b109 0 none)) 1 1))]⟩,
      ⟨37, 5, [61], fun v w => ∃ b45 b49 b53 b57 b61 b65 b69 b73 b77 b81 b85 b89 b93 b97 b101 b105 b109 b113 : Nat, v = (SV.v (SV.mk (some (Addr.mk b113 0 none)) 14 14)) ∧ Blk w b45 27 [(Value.int .i64 (0 : Int)), (SV.v SV.nil)] ∧ Blk w b49 27 [(Value.int .i64 (1 : Int)), (SV.v SV.nil)] ∧ Blk w b53 27 [(Value.int .i64 (2 : Int)), (SV.v SV.nil)] ∧ Blk w b57 23 [(Value.int .u32 (1 : Int))] ∧ Blk w b61 27 [(Value.int .i64 (3 : Int)), (SV.v (SV.mk (some (Addr.mk b57 0 none)) 1 1))] ∧ Blk w b65 27 [(Value.int .i64 (2 : Int)), (SV.v s1)] ∧ Blk w b69 27 [(Value.int .i64 (2 : Int)), (SV.v s4)] ∧ Blk w b73 27 [(Value.int .i64 (2 : Int)), (SV.v (SV.sub s1 (Int.toNat (0 : Int)) (Int.toNat (254 : Int)) 1))] ∧ Blk w b77 23 [(Value.int .u32 (5 : Int)), (Value.int .u32 (5 : Int))] ∧ Blk w b81 23 [(Value.int .u32 (5 : Int))] ∧ Blk w b85 27 [(Value.int .i64 (1 : Int)), (SV.v (SV.mk (some (Addr.mk b77 0 none)) 2 2)), (Value.int .i64 (2 : Int)), (SV.v (SV.mk (some (Addr.mk b81 0 none)) 1 1))] ∧ Blk w b89 23 [(Value.int .u32 (5 : Int))] ∧ Blk w b93 27 [(Value.int .i64 (2 : Int)), (SV.v (SV.mk (some (Addr.mk b89 0 none)) 1 1))] ∧ Blk w b97 23 [(Value.int .u32 (5 : Int)), (Value.int .u32 (6 : Int))] ∧ Blk w b101 27 [(Value.int .i64 (2 : Int)), (SV.v (SV.mk (some (Addr.mk b97 0 none)) 2 2))] ∧ Blk w b105 23 [(Value.int .u32 (6 : Int))] ∧ Blk w b109 27 [(Value.int .i64 (2 : Int)), (SV.v (SV.mk (some (Addr.mk b105 0 none)) 1 1))] ∧ Blk w b113 24 [(SV.v SV.nil), (SV.v (SV.mk (some (Addr.mk b45 0 none)) 1 1)), (SV.v (SV.mk (some (Addr.mk b49 0 none)) 1 1)), (SV.v (SV.mk (some (Addr.mk b53 0 none)) 1 1)), (SV.v (SV.mk (some (Addr.mk b61 0 none)) 1 1)), (SV.v (SV.mk (some (Addr.mk b65 0 none)) 1 1)), (SV.v (SV.mk (some (Addr.mk b69 0 none)) 1 1)), (SV.v (SV.mk (some (Addr.mk b73 0 none)) 1 1)), (SV.v s7), (SV.v (SV.sub s7 (Int.toNat (0 : Int)) (Int.toNat (16 : Int)) 2)), (SV.v (SV.mk (some (Addr.mk b85 0 none)) 2 2)), (SV.v (SV.mk (some (Addr.mk b93 0 none)) 1 1)), (SV.v (SV.mk (some (Addr.mk b101 0 none)) 1 1)), (SV.v (SV.mk (some (Addr.mk b109 0 none)) 1 1))]⟩] (by kernel_rfl) ?_ ?_ ?_
    · refine List.forall_mem_cons.2 ⟨?_, List.forall_mem_cons.2 ⟨?_, List.forall_mem_cons.2 ⟨?_, List.forall_mem_cons.2 ⟨?_, List.forall_mem_cons.2 ⟨?_, List.forall_mem_cons.2 ⟨?_, List.forall_mem_cons.2 ⟨?_, List.forall_mem_cons.2 ⟨?_, List.forall_mem_cons.2 ⟨?_, List.forall_mem_cons.2 ⟨?_, List.forall_mem_cons.2 ⟨?_, List.forall_mem_cons.2 ⟨?_, List.forall_mem_cons.2 ⟨?_, List.forall_mem_cons.2 ⟨?_, List.forall_mem_cons.2 ⟨?_, List.forall_mem_cons.2 ⟨?_, List.forall_mem_cons.2 ⟨?_, List.forall_mem_cons.2 ⟨?_, List.forall_mem_cons.2 ⟨?_, List.forall_mem_cons.2 ⟨?_, List.forall_mem_cons.2 ⟨?_, List.forall_mem_cons.2 ⟨?_, List.forall_mem_cons.2 ⟨?_, List.forall_mem_cons.2 ⟨?_, List.forall_mem_cons.2 ⟨?_, (fun _ hx => by cases hx)⟩⟩⟩⟩⟩⟩⟩⟩⟩⟩⟩⟩⟩⟩⟩⟩⟩⟩⟩⟩⟩⟩⟩⟩⟩
      · rintro v w w' ⟨b45, rfl, hb45⟩ k
        exact ⟨b45, rfl, hb45.keep k (by simp)⟩
      · rintro v w w' ⟨b49, rfl, hb49⟩ k
        exact ⟨b49, rfl, hb49.keep k (by simp)⟩
      · rintro v w w' ⟨b53, rfl, hb53⟩ k
        exact ⟨b53, rfl, hb53.keep k (by simp)⟩
      · rintro v w w' ⟨b57, rfl, hb57⟩ k
        exact ⟨b57, rfl, hb57.keep k (by simp)⟩
      · rintro v w w' ⟨b57, rfl, hb57⟩ k
        exact ⟨b57, rfl, hb57.keep k (by simp)⟩
      · rintro v w w' ⟨b57, b61, rfl, hb57, hb61⟩ k
        exact ⟨b57, b61, rfl, hb57.keep k (by simp), hb61.keep k (by simp)⟩
      · rintro v w w' ⟨b65, rfl, hb65⟩ k
        exact ⟨b65, rfl, hb65.keep k (by simp)⟩
      · rintro v w w' ⟨b69, rfl, hb69⟩ k
        exact ⟨b69, rfl, hb69.keep k (by simp)⟩
      · rintro v w w' ⟨b73, rfl, hb73⟩ k
        exact ⟨b73, rfl, hb73.keep k (by simp)⟩
      · rintro v w w' ⟨b77, rfl, hb77⟩ k
        exact ⟨b77, rfl, hb77.keep k (by simp)⟩
      · rintro v w w' ⟨b77, rfl, hb77⟩ k
        exact ⟨b77, rfl, hb77.keep k (by simp)⟩
      · rintro v w w' ⟨b81, rfl, hb81⟩ k
        exact ⟨b81, rfl, hb81.keep k (by simp)⟩
      · rintro v w w' ⟨b81, rfl, hb81⟩ k
        exact ⟨b81, rfl, hb81.keep k (by simp)⟩
      · rintro v w w' ⟨b77, b81, b85, rfl, hb77, hb81, hb85⟩ k
        exact ⟨b77, b81, b85, rfl, hb77.keep k (by simp), hb81.keep k (by simp), hb85.keep k (by simp)⟩
      · rintro v w w' ⟨b89, rfl, hb89⟩ k
        exact ⟨b89, rfl, hb89.keep k (by simp)⟩
      · rintro v w w' ⟨b89, rfl, hb89⟩ k
        exact ⟨b89, rfl, hb89.keep k (by simp)⟩
      · rintro v w w' ⟨b89, b93, rfl, hb89, hb93⟩ k
        exact ⟨b89, b93, rfl, hb89.keep k (by simp), hb93.keep k (by simp)⟩
      · rintro v w w' ⟨b97, rfl, hb97⟩ k
        exact ⟨b97, rfl, hb97.keep k (by simp)⟩
      · rintro v w w' ⟨b97, rfl, hb97⟩ k
        exact ⟨b97, rfl, hb97.keep k (by simp)⟩
      · rintro v w w' ⟨b97, b101, rfl, hb97, hb101⟩ k
        exact ⟨b97, b101, rfl, hb97.keep k (by simp), hb101.keep k (by simp)⟩
      · rintro v w w' ⟨b105, rfl, hb105⟩ k
        exact ⟨b105, rfl, hb105.keep k (by simp)⟩
      · rintro v w w' ⟨b105, rfl, hb105⟩ k
        exact ⟨b105, rfl, hb105.keep k (by simp)⟩
      · rintro v w w' ⟨b105, b109, rfl, hb105, hb109⟩ k
        exact ⟨b105, b109, rfl, hb105.keep k (by simp), hb109.keep k (by simp)⟩
      · rintro v w w' ⟨b45, b49, b53, b57, b61, b65, b69, b73, b77, b81, b85, b89, b93, b97, b101, b105, b109, b113, rfl, hb45, hb49, hb53, hb57, hb61, hb65, hb69, hb73, hb77, hb81, hb85, hb89, hb93, hb97, hb101, hb105, hb109, hb113⟩ k
        exact ⟨b45, b49, b53, b57, b61, b65, b69, b73, b77, b81, b85, b89, b93, b97, b101, b105, b109, b113, rfl, hb45.keep k (by simp), hb49.keep k (by simp), hb53.keep k (by simp), hb57.keep k (by simp), hb61.keep k (by simp), hb65.keep k (by simp), hb69.keep k (by simp), hb73.keep k (by simp), hb77.keep k (by simp), hb81.keep k (by simp), hb85.keep k (by simp), hb89.keep k (by simp), hb93.keep k (by simp), hb97.keep k (by simp), hb101.keep k (by simp), hb105.keep k (by simp), hb109.keep k (by simp), hb113.keep k (by simp)⟩
      · rintro v w w' ⟨b45, b49, b53, b57, b61, b65, b69, b73, b77, b81, b85, b89, b93, b97, b101, b105, b109, b113, rfl, hb45, hb49, hb53, hb57, hb61, hb65, hb69, hb73, hb77, hb81, hb85, hb89, hb93, hb97, hb101, hb105, hb109, hb113⟩ k
        exact ⟨b45, b49, b53, b57, b61, b65, b69, b73, b77, b81, b85, b89, b93, b97, b101, b105, b109, b113, rfl, hb45.keep k (by simp), hb49.keep k (by simp), hb53.keep k (by simp), hb57.keep k (by simp), hb61.keep k (by simp), hb65.keep k (by simp), hb69.keep k (by simp), hb73.keep k (by simp), hb77.keep k (by simp), hb81.keep k (by simp), hb85.keep k (by simp), hb89.keep k (by simp), hb93.keep k (by simp), hb97.keep k (by simp), hb101.keep k (by simp), hb105.keep k (by simp), hb109.keep k (by simp), hb113.keep k (by simp)⟩
    · refine List.forall_mem_cons.2 ⟨?_, List.forall_mem_cons.2 ⟨?_, List.forall_mem_cons.2 ⟨?_, List.forall_mem_cons.2 ⟨?_, List.forall_mem_cons.2 ⟨?_, List.forall_mem_cons.2 ⟨?_, List.forall_mem_cons.2 ⟨?_, List.forall_mem_cons.2 ⟨?_, List.forall_mem_cons.2 ⟨?_, List.forall_mem_cons.2 ⟨?_, List.forall_mem_cons.2 ⟨?_, List.forall_mem_cons.2 ⟨?_, List.forall_mem_cons.2 ⟨?_, List.forall_mem_cons.2 ⟨?_, List.forall_mem_cons.2 ⟨?_, List.forall_mem_cons.2 ⟨?_, List.forall_mem_cons.2 ⟨?_, List.forall_mem_cons.2 ⟨?_, List.forall_mem_cons.2 ⟨?_, List.forall_mem_cons.2 ⟨?_, List.forall_mem_cons.2 ⟨?_, List.forall_mem_cons.2 ⟨?_, List.forall_mem_cons.2 ⟨?_, List.forall_mem_cons.2 ⟨?_, List.forall_mem_cons.2 ⟨?_, (fun _ hx => by cases hx)⟩⟩⟩⟩⟩⟩⟩⟩⟩⟩⟩⟩⟩⟩⟩⟩⟩⟩⟩⟩⟩⟩⟩⟩⟩
      · refine ⟨_, rfl, fun e w hk he hQ => ?_⟩
        exact OpE.run (R.bsl (by exact (Ls.cons (R.Pr ((he 25 (by kernel_rfl)).trans rfl)) Ls.nil)) (fun w => bs24_1 (0 : Int) SV.nil w) rfl rfl) ⟨.inr trivial, Keeps.alloc [] w _, w.heap.size, rfl, Blk.new w _ _⟩
      · refine ⟨_, rfl, fun e w hk he hQ => ?_⟩
        exact OpE.run (R.bsl (by exact (Ls.cons (R.Pr ((he 27 (by kernel_rfl)).trans rfl)) Ls.nil)) (fun w => bs24_1 (1 : Int) SV.nil w) rfl rfl) ⟨.inr trivial, Keeps.alloc [] w _, w.heap.size, rfl, Blk.new w _ _⟩
      · refine ⟨_, rfl, fun e w hk he hQ => ?_⟩
        exact OpE.run (R.bsl (by exact (Ls.cons (R.Pr ((he 29 (by kernel_rfl)).trans rfl)) Ls.nil)) (fun w => bs24_1 (2 : Int) SV.nil w) rfl rfl) ⟨.inr trivial, Keeps.alloc [] w _, w.heap.size, rfl, Blk.new w _ _⟩
      · refine ⟨_, rfl, fun e w hk he hQ => ?_⟩
        exact OpE.run (R.bsl (by exact (Ls.cons (R.Pr rfl) Ls.nil)) (fun w => bs25_1 (1 : Int) w) rfl rfl) ⟨.inr trivial, Keeps.alloc [] w _, w.heap.size, rfl, Blk.new w _ _⟩
      · refine ⟨_, rfl, fun e w hk he hQ => ?_⟩
        obtain ⟨b57, hv31, hb57⟩ := hQ 3 _ rfl rfl
        exact OpE.run (R.bld (by exact (Ls.cons (R.Pr rfl) (Ls.cons (R.Pr hv31) Ls.nil))) (fun w => bu27_0_1 (3 : Int) (SV.mk (some (Addr.mk b57 0 none)) 1 1) w) w) ⟨.inl rfl, Keeps.refl _ _, b57, rfl, hb57⟩
      · refine ⟨_, rfl, fun e w hk he hQ => ?_⟩
        obtain ⟨b57, hv32, hb57⟩ := hQ 4 _ rfl rfl
        exact OpE.run (R.bsl (by exact (Ls.cons (R.Pr hv32) Ls.nil)) (fun w => bs24_1 (3 : Int) (SV.mk (some (Addr.mk b57 0 none)) 1 1) w) rfl rfl) ⟨.inr trivial, Keeps.alloc [] w _, b57, w.heap.size, rfl, hb57.keep (Keeps.alloc [] w _) (by simp), Blk.new w _ _⟩
      · refine ⟨_, rfl, fun e w hk he hQ => ?_⟩
        exact OpE.run (R.bsl (by exact (Ls.cons (R.Pr ((he 35 (by kernel_rfl)).trans rfl)) Ls.nil)) (fun w => bs24_1 (2 : Int) s1 w) rfl rfl) ⟨.inr trivial, Keeps.alloc [] w _, w.heap.size, rfl, Blk.new w _ _⟩
      · refine ⟨_, rfl, fun e w hk he hQ => ?_⟩
        exact OpE.run (R.bsl (by exact (Ls.cons (R.Pr ((he 38 (by kernel_rfl)).trans rfl)) Ls.nil)) (fun w => bs24_1 (2 : Int) s4 w) rfl rfl) ⟨.inr trivial, Keeps.alloc [] w _, w.heap.size, rfl, Blk.new w _ _⟩
      · refine ⟨_, rfl, fun e w hk he hQ => ?_⟩
        exact OpE.run (R.bsl (by exact (Ls.cons (R.Pr ((he 42 (by kernel_rfl)).trans rfl)) Ls.nil)) (fun w => bs24_1 (2 : Int) (SV.sub s1 (Int.toNat (0 : Int)) (Int.toNat (254 : Int)) 1) w) rfl rfl) ⟨.inr trivial, Keeps.alloc [] w _, w.heap.size, rfl, Blk.new w _ _⟩
      · refine ⟨_, rfl, fun e w hk he hQ => ?_⟩
        exact OpE.run (R.bsl (by exact (Ls.cons (R.Pr rfl) (Ls.cons (R.Pr rfl) Ls.nil))) (fun w => bs25_2 (5 : Int) (5 : Int) w) rfl rfl) ⟨.inr trivial, Keeps.alloc [] w _, w.heap.size, rfl, Blk.new w _ _⟩
      · refine ⟨_, rfl, fun e w hk he hQ => ?_⟩
        obtain ⟨b77, hv47, hb77⟩ := hQ 9 _ rfl rfl
        exact OpE.run (R.bld (by exact (Ls.cons (R.Pr rfl) (Ls.cons (R.Pr hv47) Ls.nil))) (fun w => bu27_0_1 (1 : Int) (SV.mk (some (Addr.mk b77 0 none)) 2 2) w) w) ⟨.inl rfl, Keeps.refl _ _, b77, rfl, hb77⟩
      · refine ⟨_, rfl, fun e w hk he hQ => ?_⟩
        exact OpE.run (R.bsl (by exact (Ls.cons (R.Pr rfl) Ls.nil)) (fun w => bs25_1 (5 : Int) w) rfl rfl) ⟨.inr trivial, Keeps.alloc [] w _, w.heap.size, rfl, Blk.new w _ _⟩
      · refine ⟨_, rfl, fun e w hk he hQ => ?_⟩
        obtain ⟨b81, hv49, hb81⟩ := hQ 11 _ rfl rfl
        exact OpE.run (R.bld (by exact (Ls.cons (R.Pr rfl) (Ls.cons (R.Pr hv49) Ls.nil))) (fun w => bu27_0_1 (2 : Int) (SV.mk (some (Addr.mk b81 0 none)) 1 1) w) w) ⟨.inl rfl, Keeps.refl _ _, b81, rfl, hb81⟩
      · refine ⟨_, rfl, fun e w hk he hQ => ?_⟩
        obtain ⟨b77, hv48, hb77⟩ := hQ 10 _ rfl rfl
        obtain ⟨b81, hv50, hb81⟩ := hQ 12 _ rfl rfl
        exact OpE.run (R.bsl (by exact (Ls.cons (R.Pr hv48) (Ls.cons (R.Pr hv50) Ls.nil))) (fun w => bs24_2 (1 : Int) (SV.mk (some (Addr.mk b77 0 none)) 2 2) (2 : Int) (SV.mk (some (Addr.mk b81 0 none)) 1 1) w) rfl rfl) ⟨.inr trivial, Keeps.alloc [] w _, b77, b81, w.heap.size, rfl, hb77.keep (Keeps.alloc [] w _) (by simp), hb81.keep (Keeps.alloc [] w _) (by simp), Blk.new w _ _⟩
      · refine ⟨_, rfl, fun e w hk he hQ => ?_⟩
        exact OpE.run (R.bsl (by exact (Ls.cons (R.Pr rfl) Ls.nil)) (fun w => bs25_1 (5 : Int) w) rfl rfl) ⟨.inr trivial, Keeps.alloc [] w _, w.heap.size, rfl, Blk.new w _ _⟩
      · refine ⟨_, rfl, fun e w hk he hQ => ?_⟩
        obtain ⟨b89, hv52, hb89⟩ := hQ 14 _ rfl rfl
        exact OpE.run (R.bld (by exact (Ls.cons (R.Pr rfl) (Ls.cons (R.Pr hv52) Ls.nil))) (fun w => bu27_0_1 (2 : Int) (SV.mk (some (Addr.mk b89 0 none)) 1 1) w) w) ⟨.inl rfl, Keeps.refl _ _, b89, rfl, hb89⟩
      · refine ⟨_, rfl, fun e w hk he hQ => ?_⟩
        obtain ⟨b89, hv53, hb89⟩ := hQ 15 _ rfl rfl
        exact OpE.run (R.bsl (by exact (Ls.cons (R.Pr hv53) Ls.nil)) (fun w => bs24_1 (2 : Int) (SV.mk (some (Addr.mk b89 0 none)) 1 1) w) rfl rfl) ⟨.inr trivial, Keeps.alloc [] w _, b89, w.heap.size, rfl, hb89.keep (Keeps.alloc [] w _) (by simp), Blk.new w _ _⟩
      · refine ⟨_, rfl, fun e w hk he hQ => ?_⟩
        exact OpE.run (R.bsl (by exact (Ls.cons (R.Pr rfl) (Ls.cons (R.Pr rfl) Ls.nil))) (fun w => bs25_2 (5 : Int) (6 : Int) w) rfl rfl) ⟨.inr trivial, Keeps.alloc [] w _, w.heap.size, rfl, Blk.new w _ _⟩
      · refine ⟨_, rfl, fun e w hk he hQ => ?_⟩
        obtain ⟨b97, hv55, hb97⟩ := hQ 17 _ rfl rfl
        exact OpE.run (R.bld (by exact (Ls.cons (R.Pr rfl) (Ls.cons (R.Pr hv55) Ls.nil))) (fun w => bu27_0_1 (2 : Int) (SV.mk (some (Addr.mk b97 0 none)) 2 2) w) w) ⟨.inl rfl, Keeps.refl _ _, b97, rfl, hb97⟩
      · refine ⟨_, rfl, fun e w hk he hQ => ?_⟩
        obtain ⟨b97, hv56, hb97⟩ := hQ 18 _ rfl rfl
        exact OpE.run (R.bsl (by exact (Ls.cons (R.Pr hv56) Ls.nil)) (fun w => bs24_1 (2 : Int) (SV.mk (some (Addr.mk b97 0 none)) 2 2) w) rfl rfl) ⟨.inr trivial, Keeps.alloc [] w _, b97, w.heap.size, rfl, hb97.keep (Keeps.alloc [] w _) (by simp), Blk.new w _ _⟩
      · refine ⟨_, rfl, fun e w hk he hQ => ?_⟩
        exact OpE.run (R.bsl (by exact (Ls.cons (R.Pr rfl) Ls.nil)) (fun w => bs25_1 (6 : Int) w) rfl rfl) ⟨.inr trivial, Keeps.alloc [] w _, w.heap.size, rfl, Blk.new w _ _⟩
      · refine ⟨_, rfl, fun e w hk he hQ => ?_⟩
        obtain ⟨b105, hv58, hb105⟩ := hQ 20 _ rfl rfl
        exact OpE.run (R.bld (by exact (Ls.cons (R.Pr rfl) (Ls.cons (R.Pr hv58) Ls.nil))) (fun w => bu27_0_1 (2 : Int) (SV.mk (some (Addr.mk b105 0 none)) 1 1) w) w) ⟨.inl rfl, Keeps.refl _ _, b105, rfl, hb105⟩
      · refine ⟨_, rfl, fun e w hk he hQ => ?_⟩
        obtain ⟨b105, hv59, hb105⟩ := hQ 21 _ rfl rfl
        exact OpE.run (R.bsl (by exact (Ls.cons (R.Pr hv59) Ls.nil)) (fun w => bs24_1 (2 : Int) (SV.mk (some (Addr.mk b105 0 none)) 1 1) w) rfl rfl) ⟨.inr trivial, Keeps.alloc [] w _, b105, w.heap.size, rfl, hb105.keep (Keeps.alloc [] w _) (by simp), Blk.new w _ _⟩
      · refine ⟨_, rfl, fun e w hk he hQ => ?_⟩
        obtain ⟨b45, hv26, hb45⟩ := hQ 0 _ rfl rfl
        obtain ⟨b49, hv28, hb49⟩ := hQ 1 _ rfl rfl
        obtain ⟨b53, hv30, hb53⟩ := hQ 2 _ rfl rfl
        obtain ⟨b57, b61, hv33, hb57, hb61⟩ := hQ 5 _ rfl rfl
        obtain ⟨b65, hv36, hb65⟩ := hQ 6 _ rfl rfl
        obtain ⟨b69, hv39, hb69⟩ := hQ 7 _ rfl rfl
        obtain ⟨b73, hv43, hb73⟩ := hQ 8 _ rfl rfl
        obtain ⟨b77, b81, b85, hv51, hb77, hb81, hb85⟩ := hQ 13 _ rfl rfl
        obtain ⟨b89, b93, hv54, hb89, hb93⟩ := hQ 16 _ rfl rfl
        obtain ⟨b97, b101, hv57, hb97, hb101⟩ := hQ 19 _ rfl rfl
        obtain ⟨b105, b109, hv60, hb105, hb109⟩ := hQ 22 _ rfl rfl
        exact OpE.run (R.bsl (by exact (Ls.cons (R.Pr rfl) (Ls.cons (R.Pr hv26) (Ls.cons (R.Pr hv28) (Ls.cons (R.Pr hv30) (Ls.cons (R.Pr hv33) (Ls.cons (R.Pr hv36) (Ls.cons (R.Pr hv39) (Ls.cons (R.Pr hv43) (Ls.cons (R.Pr ((he 44 (by kernel_rfl)).trans rfl)) (Ls.cons (R.Pr ((he 46 (by kernel_rfl)).trans rfl)) (Ls.cons (R.Pr hv51) (Ls.cons (R.Pr hv54) (Ls.cons (R.Pr hv57) (Ls.cons (R.Pr hv60) Ls.nil))))))))))))))) (fun w => bs49_14 SV.nil (SV.mk (some (Addr.mk b45 0 none)) 1 1) (SV.mk (some (Addr.mk b49 0 none)) 1 1) (SV.mk (some (Addr.mk b53 0 none)) 1 1) (SV.mk (some (Addr.mk b61 0 none)) 1 1) (SV.mk (some (Addr.mk b65 0 none)) 1 1) (SV.mk (some (Addr.mk b69 0 none)) 1 1) (SV.mk (some (Addr.mk b73 0 none)) 1 1) s7 (SV.sub s7 (Int.toNat (0 : Int)) (Int.toNat (16 : Int)) 2) (SV.mk (some (Addr.mk b85 0 none)) 2 2) (SV.mk (some (Addr.mk b93 0 none)) 1 1) (SV.mk (some (Addr.mk b101 0 none)) 1 1) (SV.mk (some (Addr.mk b109 0 none)) 1 1) w) rfl rfl) ⟨.inr trivial, Keeps.alloc [] w _, b45, b49, b53, b57, b61, b65, b69, b73, b77, b81, b85, b89, b93, b97, b101, b105, b109, w.heap.size, rfl, hb45.keep (Keeps.alloc [] w _) (by simp), hb49.keep (Keeps.alloc [] w _) (by simp), hb53.keep (Keeps.alloc [] w _) (by simp), hb57.keep (Keeps.alloc [] w _) (by simp), hb61.keep (Keeps.alloc [] w _) (by simp), hb65.keep (Keeps.alloc [] w _) (by simp), hb69.keep (Keeps.alloc [] w _) (by simp), hb73.keep (Keeps.alloc [] w _) (by simp), hb77.keep (Keeps.alloc [] w _) (by simp), hb81.keep (Keeps.alloc [] w _) (by simp), hb85.keep (Keeps.alloc [] w _) (by simp), hb89.keep (Keeps.alloc [] w _) (by simp), hb93.keep (Keeps.alloc [] w _) (by simp), hb97.keep (Keeps.alloc [] w _) (by simp), hb101.keep (Keeps.alloc [] w _) (by simp), hb105.keep (Keeps.alloc [] w _) (by simp), hb109.keep (Keeps.alloc [] w _) (by simp), Blk.new w _ _⟩
      · refine ⟨_, rfl, fun e w hk he hQ => ?_⟩
        obtain ⟨b45, b49, b53, b57, b61, b65, b69, b73, b77, b81, b85, b89, b93, b97, b101, b105, b109, b113, hv61, hb45, hb49, hb53, hb57, hb61, hb65, hb69, hb73, hb77, hb81, hb85, hb89, hb93, hb97, hb101, hb105, hb109, hb113⟩ := hQ 23 _ rfl rfl
        exact OpE.run (R.assign hv61 w) ⟨.inl rfl, Keeps.refl _ _, b45, b49, b53, b57, b61, b65, b69, b73, b77, b81, b85, b89, b93, b97, b101, b105, b109, b113, rfl, hb45, hb49, hb53, hb57, hb61, hb65, hb69, hb73, hb77, hb81, hb85, hb89, hb93, hb97, hb101, hb105, hb109, hb113⟩
    · intro e114 w115 hk116 he117 hQ118
      obtain ⟨b45, b49, b53, b57, b61, b65, b69, b73, b77, b81, b85, b89, b93, b97, b101, b105, b109, b113, hv119, hb45, hb49, hb53, hb57, hb61, hb65, hb69, hb73, hb77, hb81, hb85, hb89, hb93, hb97, hb101, hb105, hb109, hb113⟩ := hQ118 24 _ rfl
      replace h := h b45 b49 b53 b57 b61 b65 b69 b73 b77 b81 b85 b89 b93 b97 b101 b105 b109 b113 w115 hk116 hb45 hb49 hb53 hb57 hb61 hb65 hb69 hb73 hb77 hb81 hb85 hb89 hb93 hb97 hb101 hb105 hb109 hb113
      clear hQ118 hb45 hb49 hb53 hb57 hb61 hb65 hb69 hb73 hb77 hb81 hb85 hb89 hb93 hb97 hb101 hb105 hb109 hb113
      refine WE.seq ?_
      refine WE.seq ?_
      refine WE.reg ?_
      refine LE.p (v := (Value.int .i64 (0 : Int))) (Wn.no rfl) rfl (R.assign rfl) ?_
      refine LE.nil ?_
      refine WE.block ?_
      obtain ⟨I125, ⟨n124, h⟩, hr126⟩ := h
      refine WE.loop (fun n e w => ∃ (x120 : Int), I125 n x120 w ∧ e 5 = (SV.v (SV.mk (some (Addr.mk b113 0 none)) 14 14)) ∧ e 6 = (Value.int .i64 x120)) n124 ⟨_, h, hv119, rfl⟩ ?_
      clear h
      rintro n124 e123 w122 ⟨x120, h, f129, f130⟩
      replace h := hr126 n124 x120 w122 h
      refine WE.seq ?_
      refine WE.seq ?_
      refine WE.reg ?_
      refine LE.p (v := (Value.int .i64 x120)) (Wn.no rfl) rfl (R.move f130) ?_
      refine LE.p (v := (SV.v (SV.mk (some (Addr.mk b113 0 none)) 14 14))) (Wn.no rfl) rfl (R.move f129) ?_
      refine LE.p (v := (Value.int .i64 ((SV.mk (some (Addr.mk b113 0 none)) 14 14).len : Int))) (Wn.no rfl) rfl (R.len sl49 rfl) ?_
      refine LE.p (v := (Value.bool (decide (x120 < ((SV.mk (some (Addr.mk b113 0 none)) 14 14).len : Int))))) (Wn.no rfl) rfl (R.lss rfl rfl) ?_
      refine LE.nil ?_
      refine WE.condT rfl (b := (decide (x120 < ((SV.mk (some (Addr.mk b113 0 none)) 14 14).len : Int)))) rfl ?_ ?_
      · intro hb131
        replace h := M.ite_t h hb131
        refine WE.skip ?_
        refine WE.seq ?_
        refine WE.block ?_
        refine WE.seq ?_
        refine WE.seq ?_
        refine WE.reg ?_
        refine LE.p (v := (Value.int .i64 (0 : Int))) (Wn.no rfl) rfl (R.assign rfl) ?_
        refine LE.nil ?_
        refine WE.block ?_
        obtain ⟨I137, ⟨n136, h⟩, hr138⟩ := h
        refine WE.loop (fun n e w => ∃ (x132 : Int), I137 n x132 w ∧ e 5 = (SV.v (SV.mk (some (Addr.mk b113 0 none)) 14 14)) ∧ e 6 = (Value.int .i64 x120) ∧ e 7 = (Value.int .i64 x132)) n136 ⟨_, h, f129, f130, rfl⟩ ?_
        clear h
        rintro n136 e135 w134 ⟨x132, h, f141, f142, f143⟩
        replace h := hr138 n136 x132 w134 h
        refine WE.seq ?_
        refine WE.seq ?_
        refine WE.reg ?_
        refine LE.p (v := (Value.int .i64 x132)) (Wn.no rfl) rfl (R.move f143) ?_
        refine LE.p (v := (SV.v (SV.mk (some (Addr.mk b113 0 none)) 14 14))) (Wn.no rfl) rfl (R.move f141) ?_
        refine LE.p (v := (Value.int .i64 ((SV.mk (some (Addr.mk b113 0 none)) 14 14).len : Int))) (Wn.no rfl) rfl (R.len sl49 rfl) ?_
        refine LE.p (v := (Value.bool (decide (x132 < ((SV.mk (some (Addr.mk b113 0 none)) 14 14).len : Int))))) (Wn.no rfl) rfl (R.lss rfl rfl) ?_
        refine LE.nil ?_
        refine WE.condT rfl (b := (decide (x132 < ((SV.mk (some (Addr.mk b113 0 none)) 14 14).len : Int)))) rfl ?_ ?_
        · intro hb144
          replace h := M.ite_t h hb144
          refine WE.skip ?_
          refine WE.seq ?_
          refine WE.block ?_
          refine WE.seq ?_
          refine WE.reg ?_
          obtain ⟨b147, hpb147, w145, hww145, h⟩ := M.new_use h
          refine LE.r (v := (SV.v (SV.mk (some b147) 6 6))) (Wn.no rfl) rfl (R.bsl (by exact (Ls.cons (R.Pr rfl) (Ls.cons (R.Pr rfl) (Ls.cons (R.Pr rfl) (Ls.cons (R.Pr rfl) (Ls.cons (R.Pr rfl) (Ls.cons (R.Pr rfl) Ls.nil))))))) (fun w => bs22_6 (-1 : Int) (0 : Int) (1 : Int) (2 : Int) (10 : Int) (11 : Int) w) hpb147 hww145) ?_
          refine LE.p (v := (Value.int .i64 ((SV.mk (some b147) 6 6).len : Int))) (Wn.no rfl) rfl (R.len sl22 rfl) ?_
          refine LE.p (v := (Value.int .i64 (0 : Int))) (Wn.no rfl) rfl (R.move rfl) ?_
          refine LE.nil ?_
          refine WE.block ?_
          obtain ⟨I153, ⟨n152, h⟩, hr154⟩ := h
          refine WE.loop (fun n e w => ∃ (x148 : Int), I153 n x148 w ∧ e 5 = (SV.v (SV.mk (some (Addr.mk b113 0 none)) 14 14)) ∧ e 6 = (Value.int .i64 x120) ∧ e 7 = (Value.int .i64 x132) ∧ e 74 = (SV.v (SV.mk (some b147) 6 6)) ∧ e 75 = (Value.int .i64 ((SV.mk (some b147) 6 6).len : Int)) ∧ e 76 = (Value.int .i64 x148)) n152 ⟨_, h, f141, f142, f143, rfl, rfl, rfl⟩ ?_
          clear h
          rintro n152 e151 w150 ⟨x148, h, f157, f158, f159, f160, f161, f162⟩
          replace h := hr154 n152 x148 w150 h
          refine WE.seq ?_
          refine WE.reg ?_
          refine LE.p (v := (Value.bool (decide (x148 < ((SV.mk (some b147) 6 6).len : Int))))) (Wn.no rfl) rfl (R.lss f162 f161) ?_
          refine LE.nil ?_
          refine WE.seq ?_
          refine WE.condT rfl (b := (decide (x148 < ((SV.mk (some b147) 6 6).len : Int)))) rfl ?_ ?_
          · intro hb163
            replace h := M.ite_t h hb163
            refine WE.skip ?_
            refine WE.seq ?_
            refine WE.block ?_
            refine WE.seq ?_
            refine WE.reg ?_
            obtain ⟨a164, h165, h166, h167, h⟩ := h
            refine LE.p (v := (Value.pointer (some (a164.add (x148.toNat * 1))))) (Wn.no rfl) rfl (R.idx (s := (SV.mk (some b147) 6 6)) sl22 f160 f162 h165 h166 h167) ?_
            obtain ⟨t168, h169, h⟩ := h
            refine LE.r (v := (Value.int .i64 t168)) (Wn.no rfl) rfl (R.ld sc3 rfl h169) ?_
            refine LE.p (v := (Value.int .i64 t168)) (Wn.no rfl) rfl (R.assign rfl) ?_
            refine LE.nil ?_
            refine WE.seq ?_
            refine WE.draw mix ?_
            obtain ⟨w170, hww170, h⟩ := M.drew_use h
            rw [← hww170]
            clear hww170
            refine DE.t 0 (v := (SV.v (SV.mk (some (Addr.mk b113 0 none)) 14 14))) rfl (by kernel_rfl) (Wn.no rfl) rfl (R.move f157) ?_
            refine DE.t 1 (v := (Value.int .i64 x120)) rfl (by kernel_rfl) (Wn.no rfl) rfl (R.move f158) ?_
            obtain ⟨a171, h172, h173, h174, h⟩ := h
            refine DE.t 2 (v := (Value.pointer (some (a171.add (x120.toNat * 1))))) rfl (by kernel_rfl) (Wn.no rfl) rfl (R.idx (s := (SV.mk (some (Addr.mk b113 0 none)) 14 14)) sl49 rfl rfl h172 h173 h174) ?_
            refine DE.t 4 (v := (SV.v (SV.mk (some (Addr.mk b113 0 none)) 14 14))) rfl (by kernel_rfl) (Wn.no rfl) rfl (R.move f157) ?_
            refine DE.t 5 (v := (Value.int .i64 x132)) rfl (by kernel_rfl) (Wn.no rfl) rfl (R.move f159) ?_
            obtain ⟨a175, h176, h177, h178, h⟩ := h
            refine DE.t 6 (v := (Value.pointer (some (a175.add (x132.toNat * 1))))) rfl (by kernel_rfl) (Wn.no rfl) rfl (R.idx (s := (SV.mk (some (Addr.mk b113 0 none)) 14 14)) sl49 rfl rfl h176 h177 h178) ?_
            refine DE.t 8 (v := (Value.int .i64 t168)) rfl (by kernel_rfl) (Wn.no rfl) rfl (R.move rfl) ?_
            obtain ⟨t179, h180, h⟩ := h
            refine DE.hold 3 (fun w => w.cell? (a171.add (x120.toNat * 1)) = some (SV.v t179)) (v := (SV.v t179)) rfl (by kernel_rfl) (Wn.no rfl) rfl h180 (fun w hs => R.ld sc24 rfl hs) ?_
            obtain ⟨t181, h182, h⟩ := h
            refine DE.main 7 (by kernel_rfl) ?_
            refine One.r 7 (v := (SV.v t181)) rfl (Wn.no rfl) rfl (R.ld sc24 rfl h182) (.inl rfl) ?_
            refine DE.main 9 (by kernel_rfl) ?_
            refine One.c 9 rfl (Wn.no rfl) rfl (R.call bd23 (Ls.cons rfl (Ls.cons rfl (Ls.cons rfl (Ls.cons rfl Ls.nil)))) rfl) (Calls.mono h ?_)
            rintro _ w184 ⟨r183, rfl, h⟩
            refine ⟨_, rfl, ⟨aftT (by kernel_rfl), trivial⟩, ?_⟩
            refine DE.t 10 (v := (Value.bool (!r183))) rfl (by kernel_rfl) (Wn.no rfl) rfl (R.not rfl) ?_
            refine DE.done (by kernel_rfl) ?_
            refine WE.condT rfl (b := (!r183)) rfl ?_ ?_
            · intro hb185
              replace h := M.ite_t h hb185
              refine WE.seq ?_
              refine WE.reg ?_
              refine LE.p (v := (Value.bool false)) (Wn.no rfl) rfl (R.assign rfl) ?_
              refine LE.nil ?_
              refine WE.ret ?_
              exact ⟨_, (Res.tmp rfl Res.nil), _, rfl, h⟩
            · intro hb185
              replace h := M.ite_f h hb185
              refine WE.skip ?_
              refine WE.reg ?_
              refine LE.p (v := (Value.int .i64 (IntKind.i64.wrap (x148 + (1 : Int))))) (Wn.no rfl) rfl (R.add f162 rfl) ?_
              refine LE.p (v := (Value.int .i64 (IntKind.i64.wrap (x148 + (1 : Int))))) (Wn.no rfl) rfl (R.move rfl) ?_
              refine LE.nil ?_
              obtain ⟨m155, hm156, h⟩ := h
              exact ⟨m155, hm156, _, h, f157, f158, f159, f160, f161, rfl⟩
          · intro hb163
            replace h := M.ite_f h hb163
            refine WE.exit ?_
            refine WE.reg ?_
            refine LE.p (v := (Value.int .i64 x132)) (Wn.no rfl) rfl (R.move f159) ?_
            refine LE.p (v := (Value.int .i64 (IntKind.i64.wrap (x132 + (1 : Int))))) (Wn.no rfl) rfl (R.add rfl rfl) ?_
            refine LE.p (v := (Value.int .i64 (IntKind.i64.wrap (x132 + (1 : Int))))) (Wn.no rfl) rfl (R.assign rfl) ?_
            refine LE.nil ?_
            obtain ⟨m139, hm140, h⟩ := h
            exact ⟨m139, hm140, _, h, f157, f158, rfl⟩
        · intro hb144
          replace h := M.ite_f h hb144
          refine WE.exit ?_
          refine WE.seq ?_
          refine WE.reg ?_
          refine LE.p (v := (SV.v (SV.mk (some (Addr.mk b113 0 none)) 14 14))) (Wn.no rfl) rfl (R.move f141) ?_
          refine LE.p (v := (Value.int .i64 x120)) (Wn.no rfl) rfl (R.move f142) ?_
          obtain ⟨a186, h187, h188, h189, h⟩ := h
          refine LE.p (v := (Value.pointer (some (a186.add (x120.toNat * 1))))) (Wn.no rfl) rfl (R.idx (s := (SV.mk (some (Addr.mk b113 0 none)) 14 14)) sl49 rfl rfl h187 h188 h189) ?_
          obtain ⟨t190, h191, h⟩ := h
          refine LE.r (v := (SV.v t190)) (Wn.no rfl) rfl (R.ld sc24 rfl h191) ?_
          refine LE.c (Wn.no rfl) rfl (R.call bd24 (Ls.cons rfl Ls.nil) rfl) (Calls.mono h ?_)
          rintro _ w193 ⟨r192, rfl, h⟩
          refine ⟨_, rfl, ?_⟩
          refine LE.p (v := (SV.v r192)) (Wn.no rfl) rfl (R.assign rfl) ?_
          refine LE.nil ?_
          refine WE.seq ?_
          obtain ⟨J194, hJ194, h⟩ := M.join_use h
          refine WE.regJ (fun e w => ∃ (x195 : Bool), J194 x195 w ∧ e 5 = (SV.v (SV.mk (some (Addr.mk b113 0 none)) 14 14)) ∧ e 6 = (Value.int .i64 x120) ∧ e 122 = (Value.bool x195)) ?_ ?_
          · clear hJ194
            refine LE.p (v := (SV.v r192)) (Wn.no rfl) rfl (R.move rfl) ?_
            refine LE.c (Wn.no rfl) rfl (R.call bd25 (Ls.cons rfl Ls.nil) rfl) (Calls.mono h ?_)
            rintro _ w197 ⟨r196, rfl, h⟩
            refine ⟨_, rfl, ?_⟩
            refine LE.p (v := (Value.bool (!r196))) (Wn.no rfl) rfl (R.not rfl) ?_
            refine LE.p (v := (Value.bool (!r196))) (Wn.no rfl) rfl (R.move rfl) ?_
            rcases M.ite_use h with ⟨hb198, h⟩ | ⟨hb198, h⟩
            · refine LE.u (Un.no 3 100 false rfl rfl rfl (congrArg Value.bool hb198)) ?_
              refine LE.u (Un.no 3 100 false rfl rfl rfl (congrArg Value.bool hb198)) ?_
              refine LE.u (Un.no 3 100 false rfl rfl rfl (congrArg Value.bool hb198)) ?_
              refine LE.u (Un.no 3 100 false rfl rfl rfl (congrArg Value.bool hb198)) ?_
              refine LE.u (Un.un 7 104 true rfl rfl rfl rfl) ?_
              refine LE.u (Un.un 7 104 true rfl rfl rfl rfl) ?_
              refine LE.u (Un.un 7 104 true rfl rfl rfl rfl) ?_
              refine LE.u (Un.un 7 104 true rfl rfl rfl rfl) ?_
              refine LE.u (Un.un 7 104 true rfl rfl rfl rfl) ?_
              refine LE.u (Un.un 7 104 true rfl rfl rfl rfl) ?_
              refine LE.u (Un.un 7 104 true rfl rfl rfl rfl) ?_
              refine LE.u (Un.un 7 104 true rfl rfl rfl rfl) ?_
              refine LE.u (Un.un 15 112 false rfl rfl rfl rfl) ?_
              refine LE.u (Un.un 15 112 false rfl rfl rfl rfl) ?_
              refine LE.u (Un.un 15 112 false rfl rfl rfl rfl) ?_
              refine LE.u (Un.un 15 112 false rfl rfl rfl rfl) ?_
              refine LE.u (Un.un 15 112 false rfl rfl rfl rfl) ?_
              refine LE.u (Un.un 15 112 false rfl rfl rfl rfl) ?_
              refine LE.u (Un.un 15 112 false rfl rfl rfl rfl) ?_
              refine LE.u (Un.un 7 104 true rfl rfl rfl rfl) ?_
              refine LE.u (Un.no 3 100 false rfl rfl rfl (congrArg Value.bool hb198)) ?_
              refine LE.p (v := (Value.bool true)) (Wn.no rfl) rfl (R.pickT (congrArg Value.bool hb198) rfl) ?_
              refine LE.nil ?_
              exact ⟨_, h, f141, f142, rfl⟩
            · refine LE.p (v := (SV.v r192)) (Wn.yes 3 100 false rfl rfl rfl (congrArg Value.bool hb198)) rfl (R.move rfl) ?_
              refine LE.p (v := (Value.int .i64 (r192.len : Int))) (Wn.yes 3 100 false rfl rfl rfl (congrArg Value.bool hb198)) rfl (R.len sl40 rfl) ?_
              refine LE.p (v := (Value.bool (decide ((0 : Int) < (r192.len : Int))))) (Wn.yes 3 100 false rfl rfl rfl (congrArg Value.bool hb198)) rfl (R.gtr rfl rfl) ?_
              refine LE.p (v := (Value.bool (decide ((0 : Int) < (r192.len : Int))))) (Wn.yes 3 100 false rfl rfl rfl (congrArg Value.bool hb198)) rfl (R.move rfl) ?_
              rcases M.ite_use h with ⟨hb199, h⟩ | ⟨hb199, h⟩
              · refine LE.p (v := (SV.v r192)) (Wn.yes 7 104 true rfl rfl rfl (congrArg Value.bool hb199)) rfl (R.move rfl) ?_
                refine LE.p (v := (SV.v r192)) (Wn.yes 7 104 true rfl rfl rfl (congrArg Value.bool hb199)) rfl (R.move rfl) ?_
                refine LE.p (v := (Value.int .i64 (r192.len : Int))) (Wn.yes 7 104 true rfl rfl rfl (congrArg Value.bool hb199)) rfl (R.len sl40 rfl) ?_
                refine LE.p (v := (Value.int .i64 (IntKind.i64.wrap ((r192.len : Int) - (1 : Int))))) (Wn.yes 7 104 true rfl rfl rfl (congrArg Value.bool hb199)) rfl (R.sub rfl rfl) ?_
                obtain ⟨h200, h201, h202, h⟩ := h
                refine LE.p (v := (SV.v (SV.sub r192 (Int.toNat (0 : Int)) (Int.toNat (IntKind.i64.wrap ((r192.len : Int) - (1 : Int)))) 1))) (Wn.yes 7 104 true rfl rfl rfl (congrArg Value.bool hb199)) rfl (R.slc (s := r192) (lo := (0 : Int)) (hi := (IntKind.i64.wrap ((r192.len : Int) - (1 : Int)))) _ _ sl40 rfl rfl rfl h200 h201 h202) ?_
                refine LE.c (Wn.yes 7 104 true rfl rfl rfl (congrArg Value.bool hb199)) rfl (R.call bd25 (Ls.cons rfl Ls.nil) rfl) (Calls.mono h ?_)
                rintro _ w205 ⟨r204, rfl, h⟩
                refine ⟨_, rfl, ?_⟩
                refine LE.p (v := (Value.bool (!r204))) (Wn.yes 7 104 true rfl rfl rfl (congrArg Value.bool hb199)) rfl (R.not rfl) ?_
                refine LE.p (v := (Value.bool (!r204))) (Wn.yes 7 104 true rfl rfl rfl (congrArg Value.bool hb199)) rfl (R.move rfl) ?_
                rcases M.ite_use h with ⟨hb206, h⟩ | ⟨hb206, h⟩
                · refine LE.u (Un.no 15 112 false rfl rfl rfl (congrArg Value.bool hb206)) ?_
                  refine LE.u (Un.no 15 112 false rfl rfl rfl (congrArg Value.bool hb206)) ?_
                  refine LE.u (Un.no 15 112 false rfl rfl rfl (congrArg Value.bool hb206)) ?_
                  refine LE.u (Un.no 15 112 false rfl rfl rfl (congrArg Value.bool hb206)) ?_
                  refine LE.u (Un.no 15 112 false rfl rfl rfl (congrArg Value.bool hb206)) ?_
                  refine LE.u (Un.no 15 112 false rfl rfl rfl (congrArg Value.bool hb206)) ?_
                  refine LE.u (Un.no 15 112 false rfl rfl rfl (congrArg Value.bool hb206)) ?_
                  refine LE.p (v := (Value.bool true)) (Wn.yes 7 104 true rfl rfl rfl (congrArg Value.bool hb199)) rfl (R.pickT (congrArg Value.bool hb206) rfl) ?_
                  refine LE.p (v := (Value.bool true)) (Wn.yes 3 100 false rfl rfl rfl (congrArg Value.bool hb198)) rfl (R.pickT (congrArg Value.bool hb199) rfl) ?_
                  refine LE.p (v := (Value.bool true)) (Wn.no rfl) rfl (R.pickF (congrArg Value.bool hb198) rfl) ?_
                  refine LE.nil ?_
                  exact ⟨_, h, f141, f142, rfl⟩
                · obtain ⟨b209, hpb209, w207, hww207, h⟩ := M.new_use h
                  refine LE.r (v := (SV.v (SV.mk (some b209) 0 0))) (Wn.yes 15 112 false rfl rfl rfl (congrArg Value.bool hb206)) rfl (R.bsl (by exact Ls.nil) (fun w => bs40_0  w) hpb209 hww207) ?_
                  refine LE.p (v := (SV.v r192)) (Wn.yes 15 112 false rfl rfl rfl (congrArg Value.bool hb206)) rfl (R.move rfl) ?_
                  obtain ⟨s210, w211, h212, h⟩ := h
                  refine LE.r (v := (SV.v s210)) (Wn.yes 15 112 false rfl rfl rfl (congrArg Value.bool hb206)) rfl (R.app (s := (SV.mk (some b209) 0 0)) (r := s210) rfl rfl h212) ?_
                  obtain ⟨b215, hpb215, w213, hww213, h⟩ := M.new_use h
                  refine LE.r (v := (SV.v (SV.mk (some b215) 1 1))) (Wn.yes 15 112 false rfl rfl rfl (congrArg Value.bool hb206)) rfl (R.bsl (by exact (Ls.cons (R.Pr rfl) Ls.nil)) (fun w => bs40_1 (2 : Int) w) hpb215 hww213) ?_
                  obtain ⟨s216, w217, h218, h⟩ := h
                  refine LE.r (v := (SV.v s216)) (Wn.yes 15 112 false rfl rfl rfl (congrArg Value.bool hb206)) rfl (R.app (s := s210) (r := s216) rfl rfl h218) ?_
                  refine LE.c (Wn.yes 15 112 false rfl rfl rfl (congrArg Value.bool hb206)) rfl (R.call bd25 (Ls.cons rfl Ls.nil) rfl) (Calls.mono h ?_)
                  rintro _ w220 ⟨r219, rfl, h⟩
                  refine ⟨_, rfl, ?_⟩
                  refine LE.p (v := (Value.bool (!r219))) (Wn.yes 15 112 false rfl rfl rfl (congrArg Value.bool hb206)) rfl (R.not rfl) ?_
                  refine LE.p (v := (Value.bool (!r219))) (Wn.yes 7 104 true rfl rfl rfl (congrArg Value.bool hb199)) rfl (R.pickF (congrArg Value.bool hb206) rfl) ?_
                  refine LE.p (v := (Value.bool (!r219))) (Wn.yes 3 100 false rfl rfl rfl (congrArg Value.bool hb198)) rfl (R.pickT (congrArg Value.bool hb199) rfl) ?_
                  refine LE.p (v := (Value.bool (!r219))) (Wn.no rfl) rfl (R.pickF (congrArg Value.bool hb198) rfl) ?_
                  refine LE.nil ?_
                  exact ⟨_, h, f141, f142, rfl⟩
              · refine LE.u (Un.no 7 104 true rfl rfl rfl (congrArg Value.bool hb199)) ?_
                refine LE.u (Un.no 7 104 true rfl rfl rfl (congrArg Value.bool hb199)) ?_
                refine LE.u (Un.no 7 104 true rfl rfl rfl (congrArg Value.bool hb199)) ?_
                refine LE.u (Un.no 7 104 true rfl rfl rfl (congrArg Value.bool hb199)) ?_
                refine LE.u (Un.no 7 104 true rfl rfl rfl (congrArg Value.bool hb199)) ?_
                refine LE.u (Un.no 7 104 true rfl rfl rfl (congrArg Value.bool hb199)) ?_
                refine LE.u (Un.no 7 104 true rfl rfl rfl (congrArg Value.bool hb199)) ?_
                refine LE.u (Un.no 7 104 true rfl rfl rfl (congrArg Value.bool hb199)) ?_
                refine LE.u (Un.un 15 112 false rfl rfl rfl rfl) ?_
                refine LE.u (Un.un 15 112 false rfl rfl rfl rfl) ?_
                refine LE.u (Un.un 15 112 false rfl rfl rfl rfl) ?_
                refine LE.u (Un.un 15 112 false rfl rfl rfl rfl) ?_
                refine LE.u (Un.un 15 112 false rfl rfl rfl rfl) ?_
                refine LE.u (Un.un 15 112 false rfl rfl rfl rfl) ?_
                refine LE.u (Un.un 15 112 false rfl rfl rfl rfl) ?_
                refine LE.u (Un.no 7 104 true rfl rfl rfl (congrArg Value.bool hb199)) ?_
                refine LE.p (v := (Value.bool false)) (Wn.yes 3 100 false rfl rfl rfl (congrArg Value.bool hb198)) rfl (R.pickF (congrArg Value.bool hb199) rfl) ?_
                refine LE.p (v := (Value.bool false)) (Wn.no rfl) rfl (R.pickF (congrArg Value.bool hb198) rfl) ?_
                refine LE.nil ?_
                exact ⟨_, h, f141, f142, rfl⟩
          · rintro e221 w222 ⟨x195, h, f223, f224, f225⟩
            subst hJ194
            refine WE.condT rfl (b := x195) f225 ?_ ?_
            · intro hb226
              replace h := M.ite_t h hb226
              refine WE.seq ?_
              refine WE.reg ?_
              refine LE.p (v := (Value.bool false)) (Wn.no rfl) rfl (R.assign rfl) ?_
              refine LE.nil ?_
              refine WE.ret ?_
              exact ⟨_, (Res.tmp rfl Res.nil), _, rfl, h⟩
            · intro hb226
              replace h := M.ite_f h hb226
              refine WE.skip ?_
              refine WE.reg ?_
              refine LE.p (v := (Value.int .i64 x120)) (Wn.no rfl) rfl (R.move f224) ?_
              refine LE.p (v := (Value.int .i64 (IntKind.i64.wrap (x120 + (1 : Int))))) (Wn.no rfl) rfl (R.add rfl rfl) ?_
              refine LE.p (v := (Value.int .i64 (IntKind.i64.wrap (x120 + (1 : Int))))) (Wn.no rfl) rfl (R.assign rfl) ?_
              refine LE.nil ?_
              obtain ⟨m127, hm128, h⟩ := h
              exact ⟨m127, hm128, _, h, f223, rfl⟩
      · intro hb131
        replace h := M.ite_f h hb131
        refine WE.exit ?_
        refine WE.seq ?_
        refine WE.reg ?_
        refine LE.c (Wn.no rfl) rfl (R.call bd14 Ls.nil rfl) (Calls.mono h ?_)
        rintro _ w228 ⟨r227, rfl, h⟩
        refine ⟨_, rfl, ?_⟩
        refine LE.p (v := (Value.bool r227)) (Wn.no rfl) rfl (R.assign rfl) ?_
        refine LE.nil ?_
        refine WE.ret ?_
        exact ⟨_, (Res.tmp rfl Res.nil), _, rfl, h⟩
/-- The formula of signpost.signpostlaw6.AspathTells. -/
def F8 (p0 : SV) (p1 : SV) (p2 : Int) (p3 : Int) (p4 : SV) (p5 : Int) (p6 : Int) (K : Bool → World → Prop) (w0 : World) : Prop :=
Calls Try.prog 26 #[(SV.v p0)] w0 (R26 fun r1 w2 =>
Calls Try.prog 26 #[(SV.v p1)] w2 (R26 fun r3 w4 =>
Calls Try.prog 15 #[(SV.v r1)] w4 (R15 fun r5 w6 =>
Calls Try.prog 24 #[(SV.v r5)] w6 (R24 fun r7 w8 =>
M.join (fun (x10 : Bool) (w27 : World) => 
M.ite x10 (
K false w27) (
M.join (fun (w51 : World) => 
M.join (fun (x54 : Bool) (w61 : World) => 
K x54 w61) fun J53 => 
Calls Try.prog 25 #[(SV.v r7)] w51 (R25 fun r55 w56 =>
M.ite r55 (
Calls Try.prog 14 #[] w56 (R14 fun r58 w59 =>
J53 r58 w59)) (
J53 false w56))) fun J33 => 
M.ite (decide ((0 : Int) < (r7.len : Int))) (
Calls Try.prog 9 #[(Value.int .i64 p5), (Value.int .i64 (0 : Int)), (Value.int .i64 (IntKind.i64.wrap ((r7.len : Int) - (1 : Int))))] w27 (R9 fun r35 w36 =>
M.idx r7 r35 1 fun a37 =>
M.ld (Value.int .u8) (a37.add (r35.toNat * 1)) w36 fun t41 =>
M.idx r7 r35 1 fun a43 =>
M.st (a43.add (r35.toNat * 1)) (Value.int .u8 (bXor .u8 t41 p6)) w36 fun w47 =>
J33 w47)) (
J33 w27))) fun J9 => 
Calls Try.prog 23 #[(SV.v r1), (SV.v r3), (Value.int .u32 p2), (Value.int .i64 p3)] w8 (R23 fun r11 w12 =>
M.ite (!r11) (
J9 true w12) (
Calls Try.prog 15 #[(SV.v r3)] w12 (R15 fun r14 w15 =>
Calls Try.prog 23 #[(SV.v r5), (SV.v r14), (Value.int .u32 p2), (Value.int .i64 p3)] w15 (R23 fun r16 w17 =>
M.ite (!r16) (
J9 true w17) (
Calls Try.prog 22 #[(SV.v p4), (Value.int .i64 (200 : Int))] w17 (R22 fun r19 w20 =>
Calls Try.prog 25 #[(SV.v r19)] w20 (R25 fun r21 w22 =>
M.ite (!r21) (
J9 true w22) (
Calls Try.prog 25 #[(SV.v r7)] w22 (R25 fun r24 w25 =>
J9 (!r24) w25)))))))))))))
theorem F8_ok {w0 : World} {p0 : SV} {p1 : SV} {p2 : Int} {p3 : Int} {p4 : SV} {p5 : Int} {p6 : Int} {K : Bool → World → Prop} (h : F8 p0 p1 p2 p3 p4 p5 p6 K w0) : Calls Try.prog 8 #[(SV.v p0), (SV.v p1), (Value.int .u32 p2), (Value.int .i64 p3), (SV.v p4), (Value.int .i64 p5), (Value.int .u8 p6)] w0 (R8 K) := by
  refine calls_of_WE (args := [(SV.v p0), (SV.v p1), (Value.int .u32 p2), (Value.int .i64 p3), (SV.v p4), (Value.int .i64 p5), (Value.int .u8 p6)]) (rs := [.tmp 14]) Try.func8 rfl (N := 70) rfl rfl rfl rfl ?_
  refine WE.seq ?_
  refine WE.reg ?_
  refine LE.p (v := (Value.bool false)) (Wn.no rfl) rfl (R.assign rfl) ?_
  refine LE.nil ?_
  refine WE.seq ?_
  refine WE.reg ?_
  refine LE.p (v := (SV.v p0)) (Wn.no rfl) rfl (R.move rfl) ?_
  refine LE.c (Wn.no rfl) rfl (R.call bd26 (Ls.cons rfl Ls.nil) rfl) (Calls.mono h ?_)
  rintro _ w2 ⟨r1, rfl, h⟩
  refine ⟨_, rfl, ?_⟩
  refine LE.p (v := (SV.v p1)) (Wn.no rfl) rfl (R.move rfl) ?_
  refine LE.c (Wn.no rfl) rfl (R.call bd26 (Ls.cons rfl Ls.nil) rfl) (Calls.mono h ?_)
  rintro _ w4 ⟨r3, rfl, h⟩
  refine ⟨_, rfl, ?_⟩
  refine LE.p (v := (SV.v r1)) (Wn.no rfl) rfl (R.assign rfl) ?_
  refine LE.p (v := (SV.v r3)) (Wn.no rfl) rfl (R.assign rfl) ?_
  refine LE.nil ?_
  refine WE.seq ?_
  refine WE.reg ?_
  refine LE.p (v := (SV.v r1)) (Wn.no rfl) rfl (R.move rfl) ?_
  refine LE.c (Wn.no rfl) rfl (R.call bd15 (Ls.cons rfl Ls.nil) rfl) (Calls.mono h ?_)
  rintro _ w6 ⟨r5, rfl, h⟩
  refine ⟨_, rfl, ?_⟩
  refine LE.p (v := (SV.v r5)) (Wn.no rfl) rfl (R.assign rfl) ?_
  refine LE.nil ?_
  refine WE.seq ?_
  refine WE.reg ?_
  refine LE.p (v := (SV.v r5)) (Wn.no rfl) rfl (R.move rfl) ?_
  refine LE.c (Wn.no rfl) rfl (R.call bd24 (Ls.cons rfl Ls.nil) rfl) (Calls.mono h ?_)
  rintro _ w8 ⟨r7, rfl, h⟩
  refine ⟨_, rfl, ?_⟩
  refine LE.p (v := (SV.v r7)) (Wn.no rfl) rfl (R.assign rfl) ?_
  refine LE.nil ?_
  refine WE.seq ?_
  refine WE.seq ?_
  obtain ⟨J9, hJ9, h⟩ := M.join_use h
  refine WE.regJ (fun e w => ∃ (x10 : Bool), J9 x10 w ∧ e 5 = (Value.int .i64 p5) ∧ e 6 = (Value.int .u8 p6) ∧ e 16 = (SV.v r7) ∧ e 50 = (Value.bool x10)) ?_ ?_
  · clear hJ9
    refine LE.p (v := (SV.v r1)) (Wn.no rfl) rfl (R.move rfl) ?_
    refine LE.p (v := (SV.v r3)) (Wn.no rfl) rfl (R.move rfl) ?_
    refine LE.p (v := (Value.int .u32 p2)) (Wn.no rfl) rfl (R.move rfl) ?_
    refine LE.p (v := (Value.int .i64 p3)) (Wn.no rfl) rfl (R.move rfl) ?_
    refine LE.c (Wn.no rfl) rfl (R.call bd23 (Ls.cons rfl (Ls.cons rfl (Ls.cons rfl (Ls.cons rfl Ls.nil)))) rfl) (Calls.mono h ?_)
    rintro _ w12 ⟨r11, rfl, h⟩
    refine ⟨_, rfl, ?_⟩
    refine LE.p (v := (Value.bool (!r11))) (Wn.no rfl) rfl (R.not rfl) ?_
    refine LE.p (v := (Value.bool (!r11))) (Wn.no rfl) rfl (R.move rfl) ?_
    rcases M.ite_use h with ⟨hb13, h⟩ | ⟨hb13, h⟩
    · refine LE.u (Un.no 6 31 false rfl rfl rfl (congrArg Value.bool hb13)) ?_
      refine LE.u (Un.no 6 31 false rfl rfl rfl (congrArg Value.bool hb13)) ?_
      refine LE.u (Un.no 6 31 false rfl rfl rfl (congrArg Value.bool hb13)) ?_
      refine LE.u (Un.no 6 31 false rfl rfl rfl (congrArg Value.bool hb13)) ?_
      refine LE.u (Un.no 6 31 false rfl rfl rfl (congrArg Value.bool hb13)) ?_
      refine LE.u (Un.no 6 31 false rfl rfl rfl (congrArg Value.bool hb13)) ?_
      refine LE.u (Un.no 6 31 false rfl rfl rfl (congrArg Value.bool hb13)) ?_
      refine LE.p (v := (Value.bool true)) (Wn.no rfl) rfl (R.pickT (congrArg Value.bool hb13) rfl) ?_
      refine LE.p (v := (Value.bool true)) (Wn.no rfl) rfl (R.move rfl) ?_
      refine LE.u (Un.no 15 40 false rfl rfl rfl rfl) ?_
      refine LE.u (Un.no 15 40 false rfl rfl rfl rfl) ?_
      refine LE.u (Un.no 15 40 false rfl rfl rfl rfl) ?_
      refine LE.u (Un.no 15 40 false rfl rfl rfl rfl) ?_
      refine LE.p (v := (Value.bool true)) (Wn.no rfl) rfl (R.pickT rfl rfl) ?_
      refine LE.p (v := (Value.bool true)) (Wn.no rfl) rfl (R.move rfl) ?_
      refine LE.u (Un.no 21 46 false rfl rfl rfl rfl) ?_
      refine LE.u (Un.no 21 46 false rfl rfl rfl rfl) ?_
      refine LE.u (Un.no 21 46 false rfl rfl rfl rfl) ?_
      refine LE.p (v := (Value.bool true)) (Wn.no rfl) rfl (R.pickT rfl rfl) ?_
      refine LE.nil ?_
      exact ⟨_, h, rfl, rfl, rfl, rfl⟩
    · refine LE.p (v := (SV.v r5)) (Wn.yes 6 31 false rfl rfl rfl (congrArg Value.bool hb13)) rfl (R.move rfl) ?_
      refine LE.p (v := (SV.v r3)) (Wn.yes 6 31 false rfl rfl rfl (congrArg Value.bool hb13)) rfl (R.move rfl) ?_
      refine LE.c (Wn.yes 6 31 false rfl rfl rfl (congrArg Value.bool hb13)) rfl (R.call bd15 (Ls.cons rfl Ls.nil) rfl) (Calls.mono h ?_)
      rintro _ w15 ⟨r14, rfl, h⟩
      refine ⟨_, rfl, ?_⟩
      refine LE.p (v := (Value.int .u32 p2)) (Wn.yes 6 31 false rfl rfl rfl (congrArg Value.bool hb13)) rfl (R.move rfl) ?_
      refine LE.p (v := (Value.int .i64 p3)) (Wn.yes 6 31 false rfl rfl rfl (congrArg Value.bool hb13)) rfl (R.move rfl) ?_
      refine LE.c (Wn.yes 6 31 false rfl rfl rfl (congrArg Value.bool hb13)) rfl (R.call bd23 (Ls.cons rfl (Ls.cons rfl (Ls.cons rfl (Ls.cons rfl Ls.nil)))) rfl) (Calls.mono h ?_)
      rintro _ w17 ⟨r16, rfl, h⟩
      refine ⟨_, rfl, ?_⟩
      refine LE.p (v := (Value.bool (!r16))) (Wn.yes 6 31 false rfl rfl rfl (congrArg Value.bool hb13)) rfl (R.not rfl) ?_
      refine LE.p (v := (Value.bool (!r16))) (Wn.no rfl) rfl (R.pickF (congrArg Value.bool hb13) rfl) ?_
      refine LE.p (v := (Value.bool (!r16))) (Wn.no rfl) rfl (R.move rfl) ?_
      rcases M.ite_use h with ⟨hb18, h⟩ | ⟨hb18, h⟩
      · refine LE.u (Un.no 15 40 false rfl rfl rfl (congrArg Value.bool hb18)) ?_
        refine LE.u (Un.no 15 40 false rfl rfl rfl (congrArg Value.bool hb18)) ?_
        refine LE.u (Un.no 15 40 false rfl rfl rfl (congrArg Value.bool hb18)) ?_
        refine LE.u (Un.no 15 40 false rfl rfl rfl (congrArg Value.bool hb18)) ?_
        refine LE.p (v := (Value.bool true)) (Wn.no rfl) rfl (R.pickT (congrArg Value.bool hb18) rfl) ?_
        refine LE.p (v := (Value.bool true)) (Wn.no rfl) rfl (R.move rfl) ?_
        refine LE.u (Un.no 21 46 false rfl rfl rfl rfl) ?_
        refine LE.u (Un.no 21 46 false rfl rfl rfl rfl) ?_
        refine LE.u (Un.no 21 46 false rfl rfl rfl rfl) ?_
        refine LE.p (v := (Value.bool true)) (Wn.no rfl) rfl (R.pickT rfl rfl) ?_
        refine LE.nil ?_
        exact ⟨_, h, rfl, rfl, rfl, rfl⟩
      · refine LE.p (v := (SV.v p4)) (Wn.yes 15 40 false rfl rfl rfl (congrArg Value.bool hb18)) rfl (R.move rfl) ?_
        refine LE.c (Wn.yes 15 40 false rfl rfl rfl (congrArg Value.bool hb18)) rfl (R.call bd22 (Ls.cons rfl (Ls.cons rfl Ls.nil)) rfl) (Calls.mono h ?_)
        rintro _ w20 ⟨r19, rfl, h⟩
        refine ⟨_, rfl, ?_⟩
        refine LE.c (Wn.yes 15 40 false rfl rfl rfl (congrArg Value.bool hb18)) rfl (R.call bd25 (Ls.cons rfl Ls.nil) rfl) (Calls.mono h ?_)
        rintro _ w22 ⟨r21, rfl, h⟩
        refine ⟨_, rfl, ?_⟩
        refine LE.p (v := (Value.bool (!r21))) (Wn.yes 15 40 false rfl rfl rfl (congrArg Value.bool hb18)) rfl (R.not rfl) ?_
        refine LE.p (v := (Value.bool (!r21))) (Wn.no rfl) rfl (R.pickF (congrArg Value.bool hb18) rfl) ?_
        refine LE.p (v := (Value.bool (!r21))) (Wn.no rfl) rfl (R.move rfl) ?_
        rcases M.ite_use h with ⟨hb23, h⟩ | ⟨hb23, h⟩
        · refine LE.u (Un.no 21 46 false rfl rfl rfl (congrArg Value.bool hb23)) ?_
          refine LE.u (Un.no 21 46 false rfl rfl rfl (congrArg Value.bool hb23)) ?_
          refine LE.u (Un.no 21 46 false rfl rfl rfl (congrArg Value.bool hb23)) ?_
          refine LE.p (v := (Value.bool true)) (Wn.no rfl) rfl (R.pickT (congrArg Value.bool hb23) rfl) ?_
          refine LE.nil ?_
          exact ⟨_, h, rfl, rfl, rfl, rfl⟩
        · refine LE.p (v := (SV.v r7)) (Wn.yes 21 46 false rfl rfl rfl (congrArg Value.bool hb23)) rfl (R.move rfl) ?_
          refine LE.c (Wn.yes 21 46 false rfl rfl rfl (congrArg Value.bool hb23)) rfl (R.call bd25 (Ls.cons rfl Ls.nil) rfl) (Calls.mono h ?_)
          rintro _ w25 ⟨r24, rfl, h⟩
          refine ⟨_, rfl, ?_⟩
          refine LE.p (v := (Value.bool (!r24))) (Wn.yes 21 46 false rfl rfl rfl (congrArg Value.bool hb23)) rfl (R.not rfl) ?_
          refine LE.p (v := (Value.bool (!r24))) (Wn.no rfl) rfl (R.pickF (congrArg Value.bool hb23) rfl) ?_
          refine LE.nil ?_
          exact ⟨_, h, rfl, rfl, rfl, rfl⟩
  · rintro e26 w27 ⟨x10, h, f28, f29, f30, f31⟩
    subst hJ9
    refine WE.condT rfl (b := x10) f31 ?_ ?_
    · intro hb32
      replace h := M.ite_t h hb32
      refine WE.seq ?_
      refine WE.reg ?_
      refine LE.p (v := (Value.bool false)) (Wn.no rfl) rfl (R.assign rfl) ?_
      refine LE.nil ?_
      refine WE.ret ?_
      exact ⟨_, (Res.tmp rfl Res.nil), _, rfl, h⟩
    · intro hb32
      replace h := M.ite_f h hb32
      refine WE.skip ?_
      obtain ⟨J33, hJ33, h⟩ := M.join_use h
      refine WE.join (fun e w => J33 w ∧ e 16 = (SV.v r7)) ?_ ?_
      · clear hJ33
        refine WE.seq ?_
        refine WE.reg ?_
        refine LE.p (v := (SV.v r7)) (Wn.no rfl) rfl (R.move f30) ?_
        refine LE.p (v := (Value.int .i64 (r7.len : Int))) (Wn.no rfl) rfl (R.len sl40 rfl) ?_
        refine LE.p (v := (Value.bool (decide ((0 : Int) < (r7.len : Int))))) (Wn.no rfl) rfl (R.gtr rfl rfl) ?_
        refine LE.nil ?_
        refine WE.condT rfl (b := (decide ((0 : Int) < (r7.len : Int)))) rfl ?_ ?_
        · intro hb34
          replace h := M.ite_t h hb34
          refine WE.reg ?_
          refine LE.p (v := (SV.v r7)) (Wn.no rfl) rfl (R.move f30) ?_
          refine LE.p (v := (Value.int .i64 p5)) (Wn.no rfl) rfl (R.move f28) ?_
          refine LE.p (v := (SV.v r7)) (Wn.no rfl) rfl (R.move f30) ?_
          refine LE.p (v := (Value.int .i64 (r7.len : Int))) (Wn.no rfl) rfl (R.len sl40 rfl) ?_
          refine LE.p (v := (Value.int .i64 (IntKind.i64.wrap ((r7.len : Int) - (1 : Int))))) (Wn.no rfl) rfl (R.sub rfl rfl) ?_
          refine LE.c (Wn.no rfl) rfl (R.call bd9 (Ls.cons rfl (Ls.cons rfl (Ls.cons rfl Ls.nil))) rfl) (Calls.mono h ?_)
          rintro _ w36 ⟨r35, rfl, h⟩
          refine ⟨_, rfl, ?_⟩
          obtain ⟨a37, h38, h39, h40, h⟩ := h
          refine LE.p (v := (Value.pointer (some (a37.add (r35.toNat * 1))))) (Wn.no rfl) rfl (R.idx (s := r7) sl40 rfl rfl h38 h39 h40) ?_
          obtain ⟨t41, h42, h⟩ := h
          refine LE.r (v := (Value.int .u8 t41)) (Wn.no rfl) rfl (R.ld sc5 rfl h42) ?_
          refine LE.p (v := (Value.int .u8 p6)) (Wn.no rfl) rfl (R.move f29) ?_
          refine LE.p (v := (Value.int .u8 (bXor .u8 t41 p6))) (Wn.no rfl) rfl (R.xor rfl rfl) ?_
          obtain ⟨a43, h44, h45, h46, h⟩ := h
          refine LE.p (v := (Value.pointer (some (a43.add (r35.toNat * 1))))) (Wn.no rfl) rfl (R.idx (s := r7) sl40 rfl rfl h44 h45 h46) ?_
          obtain ⟨w47, hww47, h48, h49, h⟩ := M.st_use h
          refine LE.s (Wn.no rfl) rfl (R.st (a := (a43.add (r35.toNat * 1))) (v := (Value.int .u8 (bXor .u8 t41 p6))) sz5 rfl rfl rfl rfl h48 h49 hww47) ?_
          refine LE.nil ?_
          exact ⟨h, f30⟩
        · intro hb34
          replace h := M.ite_f h hb34
          refine WE.skip ?_
          exact ⟨h, f30⟩
      · rintro e50 w51 ⟨h, f52⟩
        subst hJ33
        refine WE.seq ?_
        obtain ⟨J53, hJ53, h⟩ := M.join_use h
        refine WE.regJ (fun e w => ∃ (x54 : Bool), J53 x54 w ∧ e 14 = (Value.bool x54)) ?_ ?_
        · clear hJ53
          refine LE.p (v := (SV.v r7)) (Wn.no rfl) rfl (R.move f52) ?_
          refine LE.c (Wn.no rfl) rfl (R.call bd25 (Ls.cons rfl Ls.nil) rfl) (Calls.mono h ?_)
          rintro _ w56 ⟨r55, rfl, h⟩
          refine ⟨_, rfl, ?_⟩
          refine LE.p (v := (Value.bool r55)) (Wn.no rfl) rfl (R.move rfl) ?_
          rcases M.ite_use h with ⟨hb57, h⟩ | ⟨hb57, h⟩
          · refine LE.c (Wn.yes 2 67 true rfl rfl rfl (congrArg Value.bool hb57)) rfl (R.call bd14 Ls.nil rfl) (Calls.mono h ?_)
            rintro _ w59 ⟨r58, rfl, h⟩
            refine ⟨_, rfl, ?_⟩
            refine LE.p (v := (Value.bool r58)) (Wn.no rfl) rfl (R.pickT (congrArg Value.bool hb57) rfl) ?_
            refine LE.p (v := (Value.bool r58)) (Wn.no rfl) rfl (R.assign rfl) ?_
            refine LE.nil ?_
            exact ⟨_, h, rfl⟩
          · refine LE.u (Un.no 2 67 true rfl rfl rfl (congrArg Value.bool hb57)) ?_
            refine LE.p (v := (Value.bool false)) (Wn.no rfl) rfl (R.pickF (congrArg Value.bool hb57) rfl) ?_
            refine LE.p (v := (Value.bool false)) (Wn.no rfl) rfl (R.assign rfl) ?_
            refine LE.nil ?_
            exact ⟨_, h, rfl⟩
        · rintro e60 w61 ⟨x54, h, f62⟩
          subst hJ53
          refine WE.ret ?_
          exact ⟨_, (Res.tmp f62 Res.nil), _, rfl, h⟩
/-- The formula of signpost.signpostbook.Within. -/
def F9 (p0 : Int) (p1 : Int) (p2 : Int) (K : Int → World → Prop) (w0 : World) : Prop :=
M.nz (IntKind.i64.wrap ((IntKind.i64.wrap (p2 - p1)) + (1 : Int))) <|
M.join (fun (x3 : Int) (w6 : World) => 
K (IntKind.i64.wrap (p1 + x3)) w6) fun J2 => 
M.ite (decide ((Int.tmod p0 (IntKind.i64.wrap ((IntKind.i64.wrap (p2 - p1)) + (1 : Int)))) < (0 : Int))) (
J2 (IntKind.i64.wrap ((IntKind.i64.wrap ((IntKind.i64.wrap ((Int.tmod p0 (IntKind.i64.wrap ((IntKind.i64.wrap (p2 - p1)) + (1 : Int)))) + p2)) - p1)) + (1 : Int))) w0) (
J2 (Int.tmod p0 (IntKind.i64.wrap ((IntKind.i64.wrap (p2 - p1)) + (1 : Int)))) w0)
theorem F9_ok {w0 : World} {p0 : Int} {p1 : Int} {p2 : Int} {K : Int → World → Prop} (h : F9 p0 p1 p2 K w0) : Calls Try.prog 9 #[(Value.int .i64 p0), (Value.int .i64 p1), (Value.int .i64 p2)] w0 (R9 K) := by
  refine calls_of_WE (args := [(Value.int .i64 p0), (Value.int .i64 p1), (Value.int .i64 p2)]) (rs := [.tmp 6]) Try.func9 rfl (N := 24) rfl rfl rfl rfl ?_
  refine WE.seq ?_
  refine WE.reg ?_
  refine LE.p (v := (Value.int .i64 (0 : Int))) (Wn.no rfl) rfl (R.assign rfl) ?_
  refine LE.nil ?_
  refine WE.seq ?_
  refine WE.reg ?_
  refine LE.p (v := (Value.int .i64 p0)) (Wn.no rfl) rfl (R.move rfl) ?_
  refine LE.p (v := (Value.int .i64 p2)) (Wn.no rfl) rfl (R.move rfl) ?_
  refine LE.p (v := (Value.int .i64 p1)) (Wn.no rfl) rfl (R.move rfl) ?_
  refine LE.p (v := (Value.int .i64 (IntKind.i64.wrap (p2 - p1)))) (Wn.no rfl) rfl (R.sub rfl rfl) ?_
  refine LE.p (v := (Value.int .i64 (IntKind.i64.wrap ((IntKind.i64.wrap (p2 - p1)) + (1 : Int))))) (Wn.no rfl) rfl (R.add rfl rfl) ?_
  obtain ⟨h1, h⟩ := h
  refine LE.p (v := (Value.int .i64 (Int.tmod p0 (IntKind.i64.wrap ((IntKind.i64.wrap (p2 - p1)) + (1 : Int)))))) (Wn.no rfl) rfl (R.rem rfl rfl h1) ?_
  refine LE.p (v := (Value.int .i64 (Int.tmod p0 (IntKind.i64.wrap ((IntKind.i64.wrap (p2 - p1)) + (1 : Int)))))) (Wn.no rfl) rfl (R.assign rfl) ?_
  refine LE.nil ?_
  obtain ⟨J2, hJ2, h⟩ := M.join_use h
  refine WE.join (fun e w => ∃ (x3 : Int), J2 x3 w ∧ e 0 = (Value.int .i64 x3) ∧ e 1 = (Value.int .i64 p1)) ?_ ?_
  · clear hJ2
    refine WE.seq ?_
    refine WE.reg ?_
    refine LE.p (v := (Value.int .i64 (Int.tmod p0 (IntKind.i64.wrap ((IntKind.i64.wrap (p2 - p1)) + (1 : Int)))))) (Wn.no rfl) rfl (R.move rfl) ?_
    refine LE.p (v := (Value.bool (decide ((Int.tmod p0 (IntKind.i64.wrap ((IntKind.i64.wrap (p2 - p1)) + (1 : Int)))) < (0 : Int))))) (Wn.no rfl) rfl (R.lss rfl rfl) ?_
    refine LE.nil ?_
    refine WE.condT rfl (b := (decide ((Int.tmod p0 (IntKind.i64.wrap ((IntKind.i64.wrap (p2 - p1)) + (1 : Int)))) < (0 : Int)))) rfl ?_ ?_
    · intro hb4
      replace h := M.ite_t h hb4
      refine WE.reg ?_
      refine LE.p (v := (Value.int .i64 (Int.tmod p0 (IntKind.i64.wrap ((IntKind.i64.wrap (p2 - p1)) + (1 : Int)))))) (Wn.no rfl) rfl (R.move rfl) ?_
      refine LE.p (v := (Value.int .i64 p2)) (Wn.no rfl) rfl (R.move rfl) ?_
      refine LE.p (v := (Value.int .i64 (IntKind.i64.wrap ((Int.tmod p0 (IntKind.i64.wrap ((IntKind.i64.wrap (p2 - p1)) + (1 : Int)))) + p2)))) (Wn.no rfl) rfl (R.add rfl rfl) ?_
      refine LE.p (v := (Value.int .i64 p1)) (Wn.no rfl) rfl (R.move rfl) ?_
      refine LE.p (v := (Value.int .i64 (IntKind.i64.wrap ((IntKind.i64.wrap ((Int.tmod p0 (IntKind.i64.wrap ((IntKind.i64.wrap (p2 - p1)) + (1 : Int)))) + p2)) - p1)))) (Wn.no rfl) rfl (R.sub rfl rfl) ?_
      refine LE.p (v := (Value.int .i64 (IntKind.i64.wrap ((IntKind.i64.wrap ((IntKind.i64.wrap ((Int.tmod p0 (IntKind.i64.wrap ((IntKind.i64.wrap (p2 - p1)) + (1 : Int)))) + p2)) - p1)) + (1 : Int))))) (Wn.no rfl) rfl (R.add rfl rfl) ?_
      refine LE.p (v := (Value.int .i64 (IntKind.i64.wrap ((IntKind.i64.wrap ((IntKind.i64.wrap ((Int.tmod p0 (IntKind.i64.wrap ((IntKind.i64.wrap (p2 - p1)) + (1 : Int)))) + p2)) - p1)) + (1 : Int))))) (Wn.no rfl) rfl (R.assign rfl) ?_
      refine LE.nil ?_
      exact ⟨_, h, rfl, rfl⟩
    · intro hb4
      replace h := M.ite_f h hb4
      refine WE.skip ?_
      exact ⟨_, h, rfl, rfl⟩
  · rintro e5 w6 ⟨x3, h, f7, f8⟩
    subst hJ2
    refine WE.seq ?_
    refine WE.reg ?_
    refine LE.p (v := (Value.int .i64 p1)) (Wn.no rfl) rfl (R.move f8) ?_
    refine LE.p (v := (Value.int .i64 x3)) (Wn.no rfl) rfl (R.move f7) ?_
    refine LE.p (v := (Value.int .i64 (IntKind.i64.wrap (p1 + x3)))) (Wn.no rfl) rfl (R.add rfl rfl) ?_
    refine LE.p (v := (Value.int .i64 (IntKind.i64.wrap (p1 + x3)))) (Wn.no rfl) rfl (R.assign rfl) ?_
    refine LE.nil ?_
    refine WE.ret ?_
    exact ⟨_, (Res.tmp rfl Res.nil), _, rfl, h⟩
/-- The formula of signpost.aspath.First. -/
def F10 (p0 : SV) (K : Int → Bool → World → Prop) (w0 : World) : Prop :=
M.join (fun (x2 : Bool) (w18 : World) => 
M.ite x2 (
K (0 : Int) false w18) (
M.idx p0 (0 : Int) 2 fun a22 =>
M.ld SV.v ((a22.add ((0 : Int).toNat * 2)).add 1) w18 fun t26 =>
M.idx t26 (0 : Int) 1 fun a28 =>
M.ld (Value.int .u32) (a28.add ((0 : Int).toNat * 1)) w18 fun t32 =>
K t32 true w18)) fun J1 => 
M.ite ((p0.len : Int) == (0 : Int)) (
J1 true w0) (
M.idx p0 (0 : Int) 2 fun a4 =>
M.ld (Value.int .i64) (a4.add ((0 : Int).toNat * 2)) w0 fun t8 =>
M.ite (t8 != (2 : Int)) (
J1 true w0) (
M.idx p0 (0 : Int) 2 fun a11 =>
M.ld SV.v ((a11.add ((0 : Int).toNat * 2)).add 1) w0 fun t15 =>
J1 ((t15.len : Int) == (0 : Int)) w0))
theorem F10_ok {w0 : World} {p0 : SV} {K : Int → Bool → World → Prop} (h : F10 p0 K w0) : Calls Try.prog 10 #[(SV.v p0)] w0 (R10 K) := by
  refine calls_of_WE (args := [(SV.v p0)]) (rs := [.tmp 2, .tmp 3]) Try.func10 rfl (N := 28) rfl rfl rfl rfl ?_
  refine WE.seq ?_
  refine WE.reg ?_
  refine LE.p (v := (Value.int .u32 (0 : Int))) (Wn.no rfl) rfl (R.assign rfl) ?_
  refine LE.p (v := (Value.bool false)) (Wn.no rfl) rfl (R.assign rfl) ?_
  refine LE.nil ?_
  refine WE.seq ?_
  refine WE.seq ?_
  obtain ⟨J1, hJ1, h⟩ := M.join_use h
  refine WE.regJ (fun e w => ∃ (x2 : Bool), J1 x2 w ∧ e 0 = (SV.v p0) ∧ e 21 = (Value.bool x2)) ?_ ?_
  · clear hJ1
    refine LE.p (v := (SV.v p0)) (Wn.no rfl) rfl (R.move rfl) ?_
    refine LE.p (v := (Value.int .i64 (p0.len : Int))) (Wn.no rfl) rfl (R.len sl24 rfl) ?_
    refine LE.p (v := (Value.bool ((p0.len : Int) == (0 : Int)))) (Wn.no rfl) rfl (R.eql rfl rfl) ?_
    refine LE.p (v := (Value.bool ((p0.len : Int) == (0 : Int)))) (Wn.no rfl) rfl (R.move rfl) ?_
    rcases M.ite_use h with ⟨hb3, h⟩ | ⟨hb3, h⟩
    · refine LE.u (Un.no 3 7 false rfl rfl rfl (congrArg Value.bool hb3)) ?_
      refine LE.u (Un.no 3 7 false rfl rfl rfl (congrArg Value.bool hb3)) ?_
      refine LE.u (Un.no 3 7 false rfl rfl rfl (congrArg Value.bool hb3)) ?_
      refine LE.u (Un.no 3 7 false rfl rfl rfl (congrArg Value.bool hb3)) ?_
      refine LE.u (Un.no 3 7 false rfl rfl rfl (congrArg Value.bool hb3)) ?_
      refine LE.p (v := (Value.bool true)) (Wn.no rfl) rfl (R.pickT (congrArg Value.bool hb3) rfl) ?_
      refine LE.p (v := (Value.bool true)) (Wn.no rfl) rfl (R.move rfl) ?_
      refine LE.u (Un.no 10 14 false rfl rfl rfl rfl) ?_
      refine LE.u (Un.no 10 14 false rfl rfl rfl rfl) ?_
      refine LE.u (Un.no 10 14 false rfl rfl rfl rfl) ?_
      refine LE.u (Un.no 10 14 false rfl rfl rfl rfl) ?_
      refine LE.u (Un.no 10 14 false rfl rfl rfl rfl) ?_
      refine LE.u (Un.no 10 14 false rfl rfl rfl rfl) ?_
      refine LE.p (v := (Value.bool true)) (Wn.no rfl) rfl (R.pickT rfl rfl) ?_
      refine LE.nil ?_
      exact ⟨_, h, rfl, rfl⟩
    · refine LE.p (v := (SV.v p0)) (Wn.yes 3 7 false rfl rfl rfl (congrArg Value.bool hb3)) rfl (R.move rfl) ?_
      obtain ⟨a4, h5, h6, h7, h⟩ := h
      refine LE.p (v := (Value.pointer (some (a4.add ((0 : Int).toNat * 2))))) (Wn.yes 3 7 false rfl rfl rfl (congrArg Value.bool hb3)) rfl (R.idx (s := p0) sl24 rfl rfl h5 h6 h7) ?_
      refine LE.p (v := (Value.pointer (some (a4.add ((0 : Int).toNat * 2))))) (Wn.yes 3 7 false rfl rfl rfl (congrArg Value.bool hb3)) rfl (R.fld (off := 0) fa27_0 rfl) ?_
      obtain ⟨t8, h9, h⟩ := h
      refine LE.r (v := (Value.int .i64 t8)) (Wn.yes 3 7 false rfl rfl rfl (congrArg Value.bool hb3)) rfl (R.ld sc3 rfl h9) ?_
      refine LE.p (v := (Value.bool (t8 != (2 : Int)))) (Wn.yes 3 7 false rfl rfl rfl (congrArg Value.bool hb3)) rfl (R.neq rfl rfl) ?_
      refine LE.p (v := (Value.bool (t8 != (2 : Int)))) (Wn.no rfl) rfl (R.pickF (congrArg Value.bool hb3) rfl) ?_
      refine LE.p (v := (Value.bool (t8 != (2 : Int)))) (Wn.no rfl) rfl (R.move rfl) ?_
      rcases M.ite_use h with ⟨hb10, h⟩ | ⟨hb10, h⟩
      · refine LE.u (Un.no 10 14 false rfl rfl rfl (congrArg Value.bool hb10)) ?_
        refine LE.u (Un.no 10 14 false rfl rfl rfl (congrArg Value.bool hb10)) ?_
        refine LE.u (Un.no 10 14 false rfl rfl rfl (congrArg Value.bool hb10)) ?_
        refine LE.u (Un.no 10 14 false rfl rfl rfl (congrArg Value.bool hb10)) ?_
        refine LE.u (Un.no 10 14 false rfl rfl rfl (congrArg Value.bool hb10)) ?_
        refine LE.u (Un.no 10 14 false rfl rfl rfl (congrArg Value.bool hb10)) ?_
        refine LE.p (v := (Value.bool true)) (Wn.no rfl) rfl (R.pickT (congrArg Value.bool hb10) rfl) ?_
        refine LE.nil ?_
        exact ⟨_, h, rfl, rfl⟩
      · refine LE.p (v := (SV.v p0)) (Wn.yes 10 14 false rfl rfl rfl (congrArg Value.bool hb10)) rfl (R.move rfl) ?_
        obtain ⟨a11, h12, h13, h14, h⟩ := h
        refine LE.p (v := (Value.pointer (some (a11.add ((0 : Int).toNat * 2))))) (Wn.yes 10 14 false rfl rfl rfl (congrArg Value.bool hb10)) rfl (R.idx (s := p0) sl24 rfl rfl h12 h13 h14) ?_
        refine LE.p (v := (Value.pointer (some ((a11.add ((0 : Int).toNat * 2)).add 1)))) (Wn.yes 10 14 false rfl rfl rfl (congrArg Value.bool hb10)) rfl (R.fld (off := 1) fa27_1 rfl) ?_
        obtain ⟨t15, h16, h⟩ := h
        refine LE.r (v := (SV.v t15)) (Wn.yes 10 14 false rfl rfl rfl (congrArg Value.bool hb10)) rfl (R.ld sc25 rfl h16) ?_
        refine LE.p (v := (Value.int .i64 (t15.len : Int))) (Wn.yes 10 14 false rfl rfl rfl (congrArg Value.bool hb10)) rfl (R.len sl25 rfl) ?_
        refine LE.p (v := (Value.bool ((t15.len : Int) == (0 : Int)))) (Wn.yes 10 14 false rfl rfl rfl (congrArg Value.bool hb10)) rfl (R.eql rfl rfl) ?_
        refine LE.p (v := (Value.bool ((t15.len : Int) == (0 : Int)))) (Wn.no rfl) rfl (R.pickF (congrArg Value.bool hb10) rfl) ?_
        refine LE.nil ?_
        exact ⟨_, h, rfl, rfl⟩
  · rintro e17 w18 ⟨x2, h, f19, f20⟩
    subst hJ1
    refine WE.condT rfl (b := x2) f20 ?_ ?_
    · intro hb21
      replace h := M.ite_t h hb21
      refine WE.seq ?_
      refine WE.reg ?_
      refine LE.p (v := (Value.int .u32 (0 : Int))) (Wn.no rfl) rfl (R.assign rfl) ?_
      refine LE.p (v := (Value.bool false)) (Wn.no rfl) rfl (R.assign rfl) ?_
      refine LE.nil ?_
      refine WE.ret ?_
      exact ⟨_, (Res.tmp rfl (Res.tmp rfl Res.nil)), _, _, rfl, h⟩
    · intro hb21
      replace h := M.ite_f h hb21
      refine WE.skip ?_
      refine WE.seq ?_
      refine WE.reg ?_
      refine LE.p (v := (SV.v p0)) (Wn.no rfl) rfl (R.move f19) ?_
      obtain ⟨a22, h23, h24, h25, h⟩ := h
      refine LE.p (v := (Value.pointer (some (a22.add ((0 : Int).toNat * 2))))) (Wn.no rfl) rfl (R.idx (s := p0) sl24 rfl rfl h23 h24 h25) ?_
      refine LE.p (v := (Value.pointer (some ((a22.add ((0 : Int).toNat * 2)).add 1)))) (Wn.no rfl) rfl (R.fld (off := 1) fa27_1 rfl) ?_
      obtain ⟨t26, h27, h⟩ := h
      refine LE.r (v := (SV.v t26)) (Wn.no rfl) rfl (R.ld sc25 rfl h27) ?_
      obtain ⟨a28, h29, h30, h31, h⟩ := h
      refine LE.p (v := (Value.pointer (some (a28.add ((0 : Int).toNat * 1))))) (Wn.no rfl) rfl (R.idx (s := t26) sl25 rfl rfl h29 h30 h31) ?_
      obtain ⟨t32, h33, h⟩ := h
      refine LE.r (v := (Value.int .u32 t32)) (Wn.no rfl) rfl (R.ld sc23 rfl h33) ?_
      refine LE.p (v := (Value.int .u32 t32)) (Wn.no rfl) rfl (R.assign rfl) ?_
      refine LE.p (v := (Value.bool true)) (Wn.no rfl) rfl (R.assign rfl) ?_
      refine LE.nil ?_
      refine WE.ret ?_
      exact ⟨_, (Res.tmp rfl (Res.tmp rfl Res.nil)), _, _, rfl, h⟩
/-- The formula of signpost.aspath.Prepend. -/
def F11 (p0 : SV) (p1 : Int) (p2 : Int) (K : SV → World → Prop) (w0 : World) : Prop :=
Calls Try.prog 27 #[(SV.v p0)] w0 (R27 fun r1 w2 =>
M.loop2 (fun (J5 : SV → Int → World → Prop) (x3 : SV) (x4 : Int) (w6 : World) => 
M.ite (decide (x4 < (min (max p2 (0 : Int)) (10 : Int)))) (
M.join (fun (x19 : SV) (w71 : World) => 
J5 x19 (IntKind.i64.wrap (x4 + (1 : Int))) w71) fun J18 => 
M.join (fun (x21 : Bool) (w37 : World) => 
M.ite x21 (
M.idx x3 (0 : Int) 2 fun a44 =>
M.ld SV.v ((a44.add ((0 : Int).toNat * 2)).add 1) w37 fun t48 =>
M.new (.cells #[(Value.int .u32 p1)] 23) w37 fun b52 w50 =>
Calls Try.prog 28 #[(SV.v t48), (Value.int .i64 (0 : Int)), (SV.v (SV.mk (some b52) 1 1))] w50 (R28 fun r53 w54 =>
M.idx x3 (0 : Int) 2 fun a55 =>
M.st ((a55.add ((0 : Int).toNat * 2)).add 1) (SV.v r53) w54 fun w59 =>
J18 x3 w59)) (
M.new (.cells #[(Value.int .u32 p1)] 23) w37 fun b64 w62 =>
M.new (.cells #[(Value.int .i64 (2 : Int)), (SV.v (SV.mk (some b64) 1 1))] 27) w62 fun b67 w65 =>
Calls Try.prog 29 #[(SV.v x3), (Value.int .i64 (0 : Int)), (SV.v (SV.mk (some b67) 1 1))] w65 (R29 fun r68 w69 =>
J18 r68 w69))) fun J20 => 
M.ite (decide ((0 : Int) < (x3.len : Int))) (
M.idx x3 (0 : Int) 2 fun a23 =>
M.ld (Value.int .i64) (a23.add ((0 : Int).toNat * 2)) w6 fun t27 =>
M.ite (t27 == (2 : Int)) (
M.idx x3 (0 : Int) 2 fun a30 =>
M.ld SV.v ((a30.add ((0 : Int).toNat * 2)).add 1) w6 fun t34 =>
J20 (decide ((t34.len : Int) < (255 : Int))) w6) (
J20 false w6)) (
J20 false w6)) (
K x3 w6)) r1 (0 : Int) w2)
theorem F11_ok {w0 : World} {p0 : SV} {p1 : Int} {p2 : Int} {K : SV → World → Prop} (h : F11 p0 p1 p2 K w0) : Calls Try.prog 11 #[(SV.v p0), (Value.int .u32 p1), (Value.int .i64 p2)] w0 (R11 K) := by
  refine calls_of_WE (args := [(SV.v p0), (Value.int .u32 p1), (Value.int .i64 p2)]) (rs := [.tmp 6]) Try.func11 rfl (N := 50) rfl rfl rfl rfl ?_
  refine WE.seq ?_
  refine WE.reg ?_
  refine LE.p (v := (SV.v SV.nil)) (Wn.no rfl) rfl (R.assign rfl) ?_
  refine LE.nil ?_
  refine WE.seq ?_
  refine WE.reg ?_
  refine LE.p (v := (SV.v p0)) (Wn.no rfl) rfl (R.move rfl) ?_
  refine LE.c (Wn.no rfl) rfl (R.call bd27 (Ls.cons rfl Ls.nil) rfl) (Calls.mono h ?_)
  rintro _ w2 ⟨r1, rfl, h⟩
  refine ⟨_, rfl, ?_⟩
  refine LE.p (v := (SV.v r1)) (Wn.no rfl) rfl (R.assign rfl) ?_
  refine LE.nil ?_
  refine WE.seq ?_
  refine WE.seq ?_
  refine WE.reg ?_
  refine LE.p (v := (Value.int .i64 p2)) (Wn.no rfl) rfl (R.move rfl) ?_
  refine LE.p (v := (Value.int .i64 (max p2 (0 : Int)))) (Wn.no rfl) rfl (R.max2 rfl rfl) ?_
  refine LE.p (v := (Value.int .i64 (min (max p2 (0 : Int)) (10 : Int)))) (Wn.no rfl) rfl (R.min2 rfl rfl) ?_
  refine LE.p (v := (Value.int .i64 (0 : Int))) (Wn.no rfl) rfl (R.move rfl) ?_
  refine LE.nil ?_
  refine WE.block ?_
  obtain ⟨I9, ⟨n8, h⟩, hr10⟩ := h
  refine WE.loop (fun n e w => ∃ (x3 : SV) (x4 : Int), I9 n x3 x4 w ∧ e 0 = (SV.v x3) ∧ e 1 = (Value.int .u32 p1) ∧ e 11 = (Value.int .i64 (min (max p2 (0 : Int)) (10 : Int))) ∧ e 12 = (Value.int .i64 x4)) n8 ⟨_, _, h, rfl, rfl, rfl, rfl⟩ ?_
  clear h
  rintro n8 e7 w6 ⟨x3, x4, h, f13, f14, f15, f16⟩
  replace h := hr10 n8 x3 x4 w6 h
  refine WE.seq ?_
  refine WE.reg ?_
  refine LE.p (v := (Value.bool (decide (x4 < (min (max p2 (0 : Int)) (10 : Int)))))) (Wn.no rfl) rfl (R.lss f16 f15) ?_
  refine LE.nil ?_
  refine WE.seq ?_
  refine WE.condT rfl (b := (decide (x4 < (min (max p2 (0 : Int)) (10 : Int))))) rfl ?_ ?_
  · intro hb17
    replace h := M.ite_t h hb17
    refine WE.skip ?_
    refine WE.seq ?_
    obtain ⟨J18, hJ18, h⟩ := M.join_use h
    refine WE.blkJ (fun e w => ∃ (x19 : SV), J18 x19 w ∧ e 0 = (SV.v x19) ∧ e 1 = (Value.int .u32 p1) ∧ e 11 = (Value.int .i64 (min (max p2 (0 : Int)) (10 : Int))) ∧ e 12 = (Value.int .i64 x4)) ?_ ?_
    · clear hJ18
      refine WE.seq ?_
      refine WE.seq ?_
      obtain ⟨J20, hJ20, h⟩ := M.join_use h
      refine WE.regJ (fun e w => ∃ (x21 : Bool), J20 x21 w ∧ e 0 = (SV.v x3) ∧ e 1 = (Value.int .u32 p1) ∧ e 11 = (Value.int .i64 (min (max p2 (0 : Int)) (10 : Int))) ∧ e 12 = (Value.int .i64 x4) ∧ e 31 = (Value.bool x21)) ?_ ?_
      · clear hJ20
        refine LE.p (v := (SV.v x3)) (Wn.no rfl) rfl (R.move f13) ?_
        refine LE.p (v := (Value.int .i64 (x3.len : Int))) (Wn.no rfl) rfl (R.len sl24 rfl) ?_
        refine LE.p (v := (Value.bool (decide ((0 : Int) < (x3.len : Int))))) (Wn.no rfl) rfl (R.gtr rfl rfl) ?_
        refine LE.p (v := (Value.bool (decide ((0 : Int) < (x3.len : Int))))) (Wn.no rfl) rfl (R.move rfl) ?_
        rcases M.ite_use h with ⟨hb22, h⟩ | ⟨hb22, h⟩
        · refine LE.p (v := (SV.v x3)) (Wn.yes 3 17 true rfl rfl rfl (congrArg Value.bool hb22)) rfl (R.move f13) ?_
          obtain ⟨a23, h24, h25, h26, h⟩ := h
          refine LE.p (v := (Value.pointer (some (a23.add ((0 : Int).toNat * 2))))) (Wn.yes 3 17 true rfl rfl rfl (congrArg Value.bool hb22)) rfl (R.idx (s := x3) sl24 rfl rfl h24 h25 h26) ?_
          refine LE.p (v := (Value.pointer (some (a23.add ((0 : Int).toNat * 2))))) (Wn.yes 3 17 true rfl rfl rfl (congrArg Value.bool hb22)) rfl (R.fld (off := 0) fa27_0 rfl) ?_
          obtain ⟨t27, h28, h⟩ := h
          refine LE.r (v := (Value.int .i64 t27)) (Wn.yes 3 17 true rfl rfl rfl (congrArg Value.bool hb22)) rfl (R.ld sc3 rfl h28) ?_
          refine LE.p (v := (Value.bool (t27 == (2 : Int)))) (Wn.yes 3 17 true rfl rfl rfl (congrArg Value.bool hb22)) rfl (R.eql rfl rfl) ?_
          refine LE.p (v := (Value.bool (t27 == (2 : Int)))) (Wn.no rfl) rfl (R.pickT (congrArg Value.bool hb22) rfl) ?_
          refine LE.p (v := (Value.bool (t27 == (2 : Int)))) (Wn.no rfl) rfl (R.move rfl) ?_
          rcases M.ite_use h with ⟨hb29, h⟩ | ⟨hb29, h⟩
          · refine LE.p (v := (SV.v x3)) (Wn.yes 10 24 true rfl rfl rfl (congrArg Value.bool hb29)) rfl (R.move f13) ?_
            obtain ⟨a30, h31, h32, h33, h⟩ := h
            refine LE.p (v := (Value.pointer (some (a30.add ((0 : Int).toNat * 2))))) (Wn.yes 10 24 true rfl rfl rfl (congrArg Value.bool hb29)) rfl (R.idx (s := x3) sl24 rfl rfl h31 h32 h33) ?_
            refine LE.p (v := (Value.pointer (some ((a30.add ((0 : Int).toNat * 2)).add 1)))) (Wn.yes 10 24 true rfl rfl rfl (congrArg Value.bool hb29)) rfl (R.fld (off := 1) fa27_1 rfl) ?_
            obtain ⟨t34, h35, h⟩ := h
            refine LE.r (v := (SV.v t34)) (Wn.yes 10 24 true rfl rfl rfl (congrArg Value.bool hb29)) rfl (R.ld sc25 rfl h35) ?_
            refine LE.p (v := (Value.int .i64 (t34.len : Int))) (Wn.yes 10 24 true rfl rfl rfl (congrArg Value.bool hb29)) rfl (R.len sl25 rfl) ?_
            refine LE.p (v := (Value.bool (decide ((t34.len : Int) < (255 : Int))))) (Wn.yes 10 24 true rfl rfl rfl (congrArg Value.bool hb29)) rfl (R.lss rfl rfl) ?_
            refine LE.p (v := (Value.bool (decide ((t34.len : Int) < (255 : Int))))) (Wn.no rfl) rfl (R.pickT (congrArg Value.bool hb29) rfl) ?_
            refine LE.nil ?_
            exact ⟨_, h, f13, f14, f15, f16, rfl⟩
          · refine LE.u (Un.no 10 24 true rfl rfl rfl (congrArg Value.bool hb29)) ?_
            refine LE.u (Un.no 10 24 true rfl rfl rfl (congrArg Value.bool hb29)) ?_
            refine LE.u (Un.no 10 24 true rfl rfl rfl (congrArg Value.bool hb29)) ?_
            refine LE.u (Un.no 10 24 true rfl rfl rfl (congrArg Value.bool hb29)) ?_
            refine LE.u (Un.no 10 24 true rfl rfl rfl (congrArg Value.bool hb29)) ?_
            refine LE.u (Un.no 10 24 true rfl rfl rfl (congrArg Value.bool hb29)) ?_
            refine LE.p (v := (Value.bool false)) (Wn.no rfl) rfl (R.pickF (congrArg Value.bool hb29) rfl) ?_
            refine LE.nil ?_
            exact ⟨_, h, f13, f14, f15, f16, rfl⟩
        · refine LE.u (Un.no 3 17 true rfl rfl rfl (congrArg Value.bool hb22)) ?_
          refine LE.u (Un.no 3 17 true rfl rfl rfl (congrArg Value.bool hb22)) ?_
          refine LE.u (Un.no 3 17 true rfl rfl rfl (congrArg Value.bool hb22)) ?_
          refine LE.u (Un.no 3 17 true rfl rfl rfl (congrArg Value.bool hb22)) ?_
          refine LE.u (Un.no 3 17 true rfl rfl rfl (congrArg Value.bool hb22)) ?_
          refine LE.p (v := (Value.bool false)) (Wn.no rfl) rfl (R.pickF (congrArg Value.bool hb22) rfl) ?_
          refine LE.p (v := (Value.bool false)) (Wn.no rfl) rfl (R.move rfl) ?_
          refine LE.u (Un.no 10 24 true rfl rfl rfl rfl) ?_
          refine LE.u (Un.no 10 24 true rfl rfl rfl rfl) ?_
          refine LE.u (Un.no 10 24 true rfl rfl rfl rfl) ?_
          refine LE.u (Un.no 10 24 true rfl rfl rfl rfl) ?_
          refine LE.u (Un.no 10 24 true rfl rfl rfl rfl) ?_
          refine LE.u (Un.no 10 24 true rfl rfl rfl rfl) ?_
          refine LE.p (v := (Value.bool false)) (Wn.no rfl) rfl (R.pickF rfl rfl) ?_
          refine LE.nil ?_
          exact ⟨_, h, f13, f14, f15, f16, rfl⟩
      · rintro e36 w37 ⟨x21, h, f38, f39, f40, f41, f42⟩
        subst hJ20
        refine WE.condT rfl (b := x21) f42 ?_ ?_
        · intro hb43
          replace h := M.ite_t h hb43
          refine WE.seq ?_
          refine WE.reg ?_
          refine LE.p (v := (SV.v x3)) (Wn.no rfl) rfl (R.move f38) ?_
          refine LE.p (v := (SV.v x3)) (Wn.no rfl) rfl (R.move f38) ?_
          obtain ⟨a44, h45, h46, h47, h⟩ := h
          refine LE.p (v := (Value.pointer (some (a44.add ((0 : Int).toNat * 2))))) (Wn.no rfl) rfl (R.idx (s := x3) sl24 rfl rfl h45 h46 h47) ?_
          refine LE.p (v := (Value.pointer (some ((a44.add ((0 : Int).toNat * 2)).add 1)))) (Wn.no rfl) rfl (R.fld (off := 1) fa27_1 rfl) ?_
          obtain ⟨t48, h49, h⟩ := h
          refine LE.r (v := (SV.v t48)) (Wn.no rfl) rfl (R.ld sc25 rfl h49) ?_
          refine LE.p (v := (Value.int .u32 p1)) (Wn.no rfl) rfl (R.move f39) ?_
          obtain ⟨b52, hpb52, w50, hww50, h⟩ := M.new_use h
          refine LE.r (v := (SV.v (SV.mk (some b52) 1 1))) (Wn.no rfl) rfl (R.bsl (by exact (Ls.cons (R.Pr rfl) Ls.nil)) (fun w => bs25_1 p1 w) hpb52 hww50) ?_
          refine LE.c (Wn.no rfl) rfl (R.call bd28 (Ls.cons rfl (Ls.cons rfl (Ls.cons rfl Ls.nil))) rfl) (Calls.mono h ?_)
          rintro _ w54 ⟨r53, rfl, h⟩
          refine ⟨_, rfl, ?_⟩
          obtain ⟨a55, h56, h57, h58, h⟩ := h
          refine LE.p (v := (Value.pointer (some (a55.add ((0 : Int).toNat * 2))))) (Wn.no rfl) rfl (R.idx (s := x3) sl24 rfl rfl h56 h57 h58) ?_
          refine LE.p (v := (Value.pointer (some ((a55.add ((0 : Int).toNat * 2)).add 1)))) (Wn.no rfl) rfl (R.fld (off := 1) fa27_1 rfl) ?_
          obtain ⟨w59, hww59, h60, h61, h⟩ := M.st_use h
          refine LE.s (Wn.no rfl) rfl (R.st (a := ((a55.add ((0 : Int).toNat * 2)).add 1)) (v := (SV.v r53)) sz25 rfl rfl rfl rfl h60 h61 hww59) ?_
          refine LE.nil ?_
          refine WE.exit ?_
          exact ⟨_, h, f38, f39, f40, f41⟩
        · intro hb43
          replace h := M.ite_f h hb43
          refine WE.skip ?_
          refine WE.reg ?_
          refine LE.p (v := (SV.v x3)) (Wn.no rfl) rfl (R.move f38) ?_
          refine LE.p (v := (Value.int .u32 p1)) (Wn.no rfl) rfl (R.move f39) ?_
          obtain ⟨b64, hpb64, w62, hww62, h⟩ := M.new_use h
          refine LE.r (v := (SV.v (SV.mk (some b64) 1 1))) (Wn.no rfl) rfl (R.bsl (by exact (Ls.cons (R.Pr rfl) Ls.nil)) (fun w => bs25_1 p1 w) hpb64 hww62) ?_
          refine LE.p (v := (Value.agg #[(Value.int .i64 (2 : Int)), (SV.v (SV.mk (some b64) 1 1))])) (Wn.no rfl) rfl (R.bld (by exact (Ls.cons (R.Pr rfl) (Ls.cons (R.Pr rfl) Ls.nil))) (fun w => bu27_0_1 (2 : Int) (SV.mk (some b64) 1 1) w)) ?_
          obtain ⟨b67, hpb67, w65, hww65, h⟩ := M.new_use h
          refine LE.r (v := (SV.v (SV.mk (some b67) 1 1))) (Wn.no rfl) rfl (R.bsl (by exact (Ls.cons (R.Pr rfl) Ls.nil)) (fun w => bs24_1 (2 : Int) (SV.mk (some b64) 1 1) w) hpb67 hww65) ?_
          refine LE.c (Wn.no rfl) rfl (R.call bd29 (Ls.cons rfl (Ls.cons rfl (Ls.cons rfl Ls.nil))) rfl) (Calls.mono h ?_)
          rintro _ w69 ⟨r68, rfl, h⟩
          refine ⟨_, rfl, ?_⟩
          refine LE.p (v := (SV.v r68)) (Wn.no rfl) rfl (R.assign rfl) ?_
          refine LE.nil ?_
          exact ⟨_, h, rfl, f39, f40, f41⟩
    · rintro e70 w71 ⟨x19, h, f72, f73, f74, f75⟩
      subst hJ18
      refine WE.reg ?_
      refine LE.p (v := (Value.int .i64 (IntKind.i64.wrap (x4 + (1 : Int))))) (Wn.no rfl) rfl (R.add f75 rfl) ?_
      refine LE.p (v := (Value.int .i64 (IntKind.i64.wrap (x4 + (1 : Int))))) (Wn.no rfl) rfl (R.move rfl) ?_
      refine LE.nil ?_
      obtain ⟨m11, hm12, h⟩ := h
      exact ⟨m11, hm12, _, _, h, f72, f73, f74, rfl⟩
  · intro hb17
    replace h := M.ite_f h hb17
    refine WE.exit ?_
    refine WE.seq ?_
    refine WE.reg ?_
    refine LE.p (v := (SV.v x3)) (Wn.no rfl) rfl (R.move f13) ?_
    refine LE.p (v := (SV.v x3)) (Wn.no rfl) rfl (R.assign rfl) ?_
    refine LE.nil ?_
    refine WE.ret ?_
    exact ⟨_, (Res.tmp rfl Res.nil), _, rfl, h⟩
/-- The formula of signpost.aspath.Right. -/
def F12 (p0 : SV) (K : Bool → World → Prop) (w0 : World) : Prop :=
M.loop1 (fun (J2 : Int → World → Prop) (x1 : Int) (w3 : World) => 
M.ite (decide (x1 < (p0.len : Int))) (
M.idx p0 x1 2 fun a15 =>
M.ld (Value.int .i64) (a15.add (x1.toNat * 2)) w3 fun t19 =>
M.ld SV.v ((a15.add (x1.toNat * 2)).add 1) w3 fun t21 =>
M.new (.cells #[(Value.int .i64 (0 : Int)), (SV.v SV.nil)] 27) w3 fun b24 w23 =>
M.stA b24 [(Value.int .i64 t19), (SV.v t21)] w23 fun w25 =>
M.ld (Value.int .i64) b24 w25 fun t27 =>
M.ld SV.v (b24.add 1) w25 fun t29 =>
Calls Try.prog 30 #[(Value.agg #[(Value.int .i64 t27), (SV.v t29)])] w25 (R30 fun r31 w32 =>
M.ite (!r31) (
K false w32) (
J2 (IntKind.i64.wrap (x1 + (1 : Int))) w32))) (
K (decide ((p0.len : Int) ≤ (16 : Int))) w3)) (0 : Int) w0
theorem F12_ok {w0 : World} {p0 : SV} {K : Bool → World → Prop} (h : F12 p0 K w0) : Calls Try.prog 12 #[(SV.v p0)] w0 (R12 K) := by
  refine calls_of_WE (args := [(SV.v p0)]) (rs := [.tmp 2]) Try.func12 rfl (N := 18) rfl rfl rfl rfl ?_
  refine WE.seq ?_
  refine WE.reg ?_
  refine LE.p (v := (Value.bool false)) (Wn.no rfl) rfl (R.assign rfl) ?_
  refine LE.nil ?_
  refine WE.seq ?_
  refine WE.seq ?_
  refine WE.reg ?_
  refine LE.p (v := (SV.v p0)) (Wn.no rfl) rfl (R.move rfl) ?_
  refine LE.p (v := (Value.int .i64 (p0.len : Int))) (Wn.no rfl) rfl (R.len sl24 rfl) ?_
  refine LE.p (v := (Value.int .i64 (0 : Int))) (Wn.no rfl) rfl (R.move rfl) ?_
  refine LE.nil ?_
  refine WE.block ?_
  obtain ⟨I6, ⟨n5, h⟩, hr7⟩ := h
  refine WE.loop (fun n e w => ∃ (x1 : Int), I6 n x1 w ∧ e 0 = (SV.v p0) ∧ e 5 = (SV.v p0) ∧ e 6 = (Value.int .i64 (p0.len : Int)) ∧ e 7 = (Value.int .i64 x1)) n5 ⟨_, h, rfl, rfl, rfl, rfl⟩ ?_
  clear h
  rintro n5 e4 w3 ⟨x1, h, f10, f11, f12, f13⟩
  replace h := hr7 n5 x1 w3 h
  refine WE.seq ?_
  refine WE.reg ?_
  refine LE.p (v := (Value.bool (decide (x1 < (p0.len : Int))))) (Wn.no rfl) rfl (R.lss f13 f12) ?_
  refine LE.nil ?_
  refine WE.seq ?_
  refine WE.condT rfl (b := (decide (x1 < (p0.len : Int)))) rfl ?_ ?_
  · intro hb14
    replace h := M.ite_t h hb14
    refine WE.skip ?_
    refine WE.seq ?_
    refine WE.block ?_
    refine WE.seq ?_
    refine WE.reg ?_
    obtain ⟨a15, h16, h17, h18, h⟩ := h
    refine LE.p (v := (Value.pointer (some (a15.add (x1.toNat * 2))))) (Wn.no rfl) rfl (R.idx (s := p0) sl24 f11 f13 h16 h17 h18) ?_
    obtain ⟨t19, h20, h⟩ := h
    obtain ⟨t21, h22, h⟩ := h
    refine LE.r (v := (Value.agg #[(Value.int .i64 t19), (SV.v t21)])) (Wn.no rfl) rfl (R.ldA ag27 sz27 rfl rfl (Cs.cons h20 (Cs.cons h22 Cs.nil))) ?_
    obtain ⟨b24, hpb24, w23, hww23, h⟩ := M.new_use h
    refine LE.r (v := (Value.pointer (some b24))) (Wn.no rfl) rfl (R.alloc (cs := #[(Value.int .i64 (0 : Int)), (SV.v SV.nil)]) ze27 rfl hpb24 hww23) ?_
    obtain ⟨w25, hww25, h26, h⟩ := M.stA_use h
    refine LE.s (Wn.no rfl) rfl (R.stA (a := b24) [(Value.int .i64 t19), (SV.v t21)] sz27 rfl rfl rfl (by simp [Value.oneCell']) h26 hww25) ?_
    refine LE.nil ?_
    refine WE.seq ?_
    refine WE.reg ?_
    obtain ⟨t27, h28, h⟩ := h
    obtain ⟨t29, h30, h⟩ := h
    refine LE.r (v := (Value.agg #[(Value.int .i64 t27), (SV.v t29)])) (Wn.no rfl) rfl (R.ldA ag27 sz27 rfl rfl (Cs.cons h28 (Cs.cons h30 Cs.nil))) ?_
    refine LE.c (Wn.no rfl) rfl (R.call bd30 (Ls.cons rfl Ls.nil) rfl) (Calls.mono h ?_)
    rintro _ w32 ⟨r31, rfl, h⟩
    refine ⟨_, rfl, ?_⟩
    refine LE.p (v := (Value.bool (!r31))) (Wn.no rfl) rfl (R.not rfl) ?_
    refine LE.nil ?_
    refine WE.condT rfl (b := (!r31)) rfl ?_ ?_
    · intro hb33
      replace h := M.ite_t h hb33
      refine WE.seq ?_
      refine WE.reg ?_
      refine LE.p (v := (Value.bool false)) (Wn.no rfl) rfl (R.assign rfl) ?_
      refine LE.nil ?_
      refine WE.ret ?_
      exact ⟨_, (Res.tmp rfl Res.nil), _, rfl, h⟩
    · intro hb33
      replace h := M.ite_f h hb33
      refine WE.skip ?_
      refine WE.reg ?_
      refine LE.p (v := (Value.int .i64 (IntKind.i64.wrap (x1 + (1 : Int))))) (Wn.no rfl) rfl (R.add f13 rfl) ?_
      refine LE.p (v := (Value.int .i64 (IntKind.i64.wrap (x1 + (1 : Int))))) (Wn.no rfl) rfl (R.move rfl) ?_
      refine LE.nil ?_
      obtain ⟨m8, hm9, h⟩ := h
      exact ⟨m8, hm9, _, h, f10, f11, f12, rfl⟩
  · intro hb14
    replace h := M.ite_f h hb14
    refine WE.exit ?_
    refine WE.seq ?_
    refine WE.reg ?_
    refine LE.p (v := (SV.v p0)) (Wn.no rfl) rfl (R.move f10) ?_
    refine LE.p (v := (Value.int .i64 (p0.len : Int))) (Wn.no rfl) rfl (R.len sl24 rfl) ?_
    refine LE.p (v := (Value.bool (decide ((p0.len : Int) ≤ (16 : Int))))) (Wn.no rfl) rfl (R.leq rfl rfl) ?_
    refine LE.p (v := (Value.bool (decide ((p0.len : Int) ≤ (16 : Int))))) (Wn.no rfl) rfl (R.assign rfl) ?_
    refine LE.nil ?_
    refine WE.ret ?_
    exact ⟨_, (Res.tmp rfl Res.nil), _, rfl, h⟩
/-- The formula of signpost.aspath.Count. -/
def F13 (p0 : SV) (K : Int → World → Prop) (w0 : World) : Prop :=
M.loop2 (fun (J3 : Int → Int → World → Prop) (x1 : Int) (x2 : Int) (w4 : World) => 
M.ite (decide (x2 < (p0.len : Int))) (
M.idx p0 x2 2 fun a16 =>
M.ld (Value.int .i64) (a16.add (x2.toNat * 2)) w4 fun t20 =>
M.ld SV.v ((a16.add (x2.toNat * 2)).add 1) w4 fun t22 =>
M.new (.cells #[(Value.int .i64 (0 : Int)), (SV.v SV.nil)] 27) w4 fun b25 w24 =>
M.stA b25 [(Value.int .i64 t20), (SV.v t22)] w24 fun w26 =>
M.ld (Value.int .i64) b25 w26 fun t28 =>
M.join (fun (x31 : Int) (w37 : World) => 
J3 x31 (IntKind.i64.wrap (x2 + (1 : Int))) w37) fun J30 => 
M.ite (t28 == (2 : Int)) (
M.ld SV.v (b25.add 1) w26 fun t33 =>
J30 (IntKind.i64.wrap (x1 + (t33.len : Int))) w26) (
M.ite (t28 == (1 : Int)) (
J30 (IntKind.i64.wrap (x1 + (1 : Int))) w26) (
J30 x1 w26))) (
K x1 w4)) (0 : Int) (0 : Int) w0
theorem F13_ok {w0 : World} {p0 : SV} {K : Int → World → Prop} (h : F13 p0 K w0) : Calls Try.prog 13 #[(SV.v p0)] w0 (R13 K) := by
  refine calls_of_WE (args := [(SV.v p0)]) (rs := [.tmp 2]) Try.func13 rfl (N := 27) rfl rfl rfl rfl ?_
  refine WE.seq ?_
  refine WE.reg ?_
  refine LE.p (v := (Value.int .i64 (0 : Int))) (Wn.no rfl) rfl (R.assign rfl) ?_
  refine LE.nil ?_
  refine WE.seq ?_
  refine WE.reg ?_
  refine LE.p (v := (Value.int .i64 (0 : Int))) (Wn.no rfl) rfl (R.assign rfl) ?_
  refine LE.nil ?_
  refine WE.seq ?_
  refine WE.seq ?_
  refine WE.reg ?_
  refine LE.p (v := (SV.v p0)) (Wn.no rfl) rfl (R.move rfl) ?_
  refine LE.p (v := (Value.int .i64 (p0.len : Int))) (Wn.no rfl) rfl (R.len sl24 rfl) ?_
  refine LE.p (v := (Value.int .i64 (0 : Int))) (Wn.no rfl) rfl (R.move rfl) ?_
  refine LE.nil ?_
  refine WE.block ?_
  obtain ⟨I7, ⟨n6, h⟩, hr8⟩ := h
  refine WE.loop (fun n e w => ∃ (x1 : Int) (x2 : Int), I7 n x1 x2 w ∧ e 3 = (Value.int .i64 x1) ∧ e 6 = (SV.v p0) ∧ e 7 = (Value.int .i64 (p0.len : Int)) ∧ e 8 = (Value.int .i64 x2)) n6 ⟨_, _, h, rfl, rfl, rfl, rfl⟩ ?_
  clear h
  rintro n6 e5 w4 ⟨x1, x2, h, f11, f12, f13, f14⟩
  replace h := hr8 n6 x1 x2 w4 h
  refine WE.seq ?_
  refine WE.reg ?_
  refine LE.p (v := (Value.bool (decide (x2 < (p0.len : Int))))) (Wn.no rfl) rfl (R.lss f14 f13) ?_
  refine LE.nil ?_
  refine WE.seq ?_
  refine WE.condT rfl (b := (decide (x2 < (p0.len : Int)))) rfl ?_ ?_
  · intro hb15
    replace h := M.ite_t h hb15
    refine WE.skip ?_
    refine WE.seq ?_
    refine WE.block ?_
    refine WE.seq ?_
    refine WE.reg ?_
    obtain ⟨a16, h17, h18, h19, h⟩ := h
    refine LE.p (v := (Value.pointer (some (a16.add (x2.toNat * 2))))) (Wn.no rfl) rfl (R.idx (s := p0) sl24 f12 f14 h17 h18 h19) ?_
    obtain ⟨t20, h21, h⟩ := h
    obtain ⟨t22, h23, h⟩ := h
    refine LE.r (v := (Value.agg #[(Value.int .i64 t20), (SV.v t22)])) (Wn.no rfl) rfl (R.ldA ag27 sz27 rfl rfl (Cs.cons h21 (Cs.cons h23 Cs.nil))) ?_
    obtain ⟨b25, hpb25, w24, hww24, h⟩ := M.new_use h
    refine LE.r (v := (Value.pointer (some b25))) (Wn.no rfl) rfl (R.alloc (cs := #[(Value.int .i64 (0 : Int)), (SV.v SV.nil)]) ze27 rfl hpb25 hww24) ?_
    obtain ⟨w26, hww26, h27, h⟩ := M.stA_use h
    refine LE.s (Wn.no rfl) rfl (R.stA (a := b25) [(Value.int .i64 t20), (SV.v t22)] sz27 rfl rfl rfl (by simp [Value.oneCell']) h27 hww26) ?_
    refine LE.nil ?_
    refine WE.seq ?_
    refine WE.reg ?_
    refine LE.p (v := (Value.pointer (some b25))) (Wn.no rfl) rfl (R.fld (off := 0) fa27_0 rfl) ?_
    obtain ⟨t28, h29, h⟩ := h
    refine LE.r (v := (Value.int .i64 t28)) (Wn.no rfl) rfl (R.ld sc3 rfl h29) ?_
    refine LE.nil ?_
    obtain ⟨J30, hJ30, h⟩ := M.join_use h
    refine WE.blkJ (fun e w => ∃ (x31 : Int), J30 x31 w ∧ e 3 = (Value.int .i64 x31) ∧ e 6 = (SV.v p0) ∧ e 7 = (Value.int .i64 (p0.len : Int)) ∧ e 8 = (Value.int .i64 x2)) ?_ ?_
    · clear hJ30
      refine WE.seq ?_
      refine WE.reg ?_
      refine LE.p (v := (Value.bool (t28 == (2 : Int)))) (Wn.no rfl) rfl (R.eql rfl rfl) ?_
      refine LE.p (v := (Value.bool (t28 == (2 : Int)))) (Wn.no rfl) rfl (R.assign rfl) ?_
      refine LE.nil ?_
      refine WE.condT rfl (b := (t28 == (2 : Int))) rfl ?_ ?_
      · intro hb32
        replace h := M.ite_t h hb32
        refine WE.reg ?_
        refine LE.p (v := (Value.int .i64 x1)) (Wn.no rfl) rfl (R.move f11) ?_
        refine LE.p (v := (Value.pointer (some (b25.add 1)))) (Wn.no rfl) rfl (R.fld (off := 1) fa27_1 rfl) ?_
        obtain ⟨t33, h34, h⟩ := h
        refine LE.r (v := (SV.v t33)) (Wn.no rfl) rfl (R.ld sc25 rfl h34) ?_
        refine LE.p (v := (Value.int .i64 (t33.len : Int))) (Wn.no rfl) rfl (R.len sl25 rfl) ?_
        refine LE.p (v := (Value.int .i64 (IntKind.i64.wrap (x1 + (t33.len : Int))))) (Wn.no rfl) rfl (R.add rfl rfl) ?_
        refine LE.p (v := (Value.int .i64 (IntKind.i64.wrap (x1 + (t33.len : Int))))) (Wn.no rfl) rfl (R.assign rfl) ?_
        refine LE.nil ?_
        exact ⟨_, h, rfl, f12, f13, f14⟩
      · intro hb32
        replace h := M.ite_f h hb32
        refine WE.seq ?_
        refine WE.reg ?_
        refine LE.p (v := (Value.bool (t28 == (1 : Int)))) (Wn.no rfl) rfl (R.eql rfl rfl) ?_
        refine LE.p (v := (Value.bool (t28 == (1 : Int)))) (Wn.no rfl) rfl (R.assign rfl) ?_
        refine LE.nil ?_
        refine WE.condT rfl (b := (t28 == (1 : Int))) rfl ?_ ?_
        · intro hb35
          replace h := M.ite_t h hb35
          refine WE.reg ?_
          refine LE.p (v := (Value.int .i64 x1)) (Wn.no rfl) rfl (R.move f11) ?_
          refine LE.p (v := (Value.int .i64 (IntKind.i64.wrap (x1 + (1 : Int))))) (Wn.no rfl) rfl (R.add rfl rfl) ?_
          refine LE.p (v := (Value.int .i64 (IntKind.i64.wrap (x1 + (1 : Int))))) (Wn.no rfl) rfl (R.assign rfl) ?_
          refine LE.nil ?_
          exact ⟨_, h, rfl, f12, f13, f14⟩
        · intro hb35
          replace h := M.ite_f h hb35
          refine WE.skip ?_
          exact ⟨_, h, f11, f12, f13, f14⟩
    · rintro e36 w37 ⟨x31, h, f38, f39, f40, f41⟩
      subst hJ30
      refine WE.reg ?_
      refine LE.p (v := (Value.int .i64 (IntKind.i64.wrap (x2 + (1 : Int))))) (Wn.no rfl) rfl (R.add f41 rfl) ?_
      refine LE.p (v := (Value.int .i64 (IntKind.i64.wrap (x2 + (1 : Int))))) (Wn.no rfl) rfl (R.move rfl) ?_
      refine LE.nil ?_
      obtain ⟨m9, hm10, h⟩ := h
      exact ⟨m9, hm10, _, _, h, f38, f39, f40, rfl⟩
  · intro hb15
    replace h := M.ite_f h hb15
    refine WE.exit ?_
    refine WE.seq ?_
    refine WE.reg ?_
    refine LE.p (v := (Value.int .i64 x1)) (Wn.no rfl) rfl (R.move f11) ?_
    refine LE.p (v := (Value.int .i64 x1)) (Wn.no rfl) rfl (R.assign rfl) ?_
    refine LE.nil ?_
    refine WE.ret ?_
    exact ⟨_, (Res.tmp rfl Res.nil), _, rfl, h⟩
/-- The formula of signpost.signpostlaw6.known. -/
def F14  (K : Bool → World → Prop) (w0 : World) : Prop :=
M.new (.cells #[(Value.int .u32 (1 : Int)), (Value.int .u32 (2 : Int))] 23) w0 fun b3 w1 =>
M.new (.cells #[(Value.int .u32 (3 : Int)), (Value.int .u32 (4 : Int))] 23) w1 fun b6 w4 =>
M.new (.cells #[(Value.int .i64 (2 : Int)), (SV.v (SV.mk (some b3) 2 2)), (Value.int .i64 (1 : Int)), (SV.v (SV.mk (some b6) 2 2))] 27) w4 fun b9 w7 =>
Calls Try.prog 10 #[(SV.v (SV.mk (some b9) 2 2))] w7 (R10 fun r10 r11 w12 =>
M.join (fun (x14 : Bool) (w35 : World) => 
K x14 w35) fun J13 => 
Calls Try.prog 13 #[(SV.v (SV.mk (some b9) 2 2))] w12 (R13 fun r15 w16 =>
M.ite (r15 == (3 : Int)) (
Calls Try.prog 16 #[(SV.v (SV.mk (some b9) 2 2)), (Value.int .u32 (4 : Int))] w16 (R16 fun r18 w19 =>
M.ite r18 (
Calls Try.prog 16 #[(SV.v (SV.mk (some b9) 2 2)), (Value.int .u32 (5 : Int))] w19 (R16 fun r21 w22 =>
M.ite (!r21) (
M.ite (r10 == (1 : Int)) (
M.ite r11 (
Calls Try.prog 11 #[(SV.v (SV.mk (some b9) 2 2)), (Value.int .u32 (9 : Int)), (Value.int .i64 (2 : Int))] w22 (R11 fun r26 w27 =>
M.idx r26 (0 : Int) 2 fun a28 =>
M.ld SV.v ((a28.add ((0 : Int).toNat * 2)).add 1) w27 fun t32 =>
J13 ((t32.len : Int) == (4 : Int)) w27)) (
J13 false w22)) (
J13 false w22)) (
J13 false w22))) (
J13 false w19))) (
J13 false w16)))
theorem F14_ok {w0 : World}  {K : Bool → World → Prop} (h : F14 K w0) : Calls Try.prog 14 #[] w0 (R14 K) := by
  refine calls_of_WE (args := []) (rs := [.tmp 0]) Try.func14 rfl (N := 42) rfl rfl rfl rfl ?_
  refine WE.seq ?_
  refine WE.reg ?_
  refine LE.p (v := (Value.bool false)) (Wn.no rfl) rfl (R.assign rfl) ?_
  refine LE.nil ?_
  refine WE.seq ?_
  refine WE.reg ?_
  obtain ⟨b3, hpb3, w1, hww1, h⟩ := M.new_use h
  refine LE.r (v := (SV.v (SV.mk (some b3) 2 2))) (Wn.no rfl) rfl (R.bsl (by exact (Ls.cons (R.Pr rfl) (Ls.cons (R.Pr rfl) Ls.nil))) (fun w => bs25_2 (1 : Int) (2 : Int) w) hpb3 hww1) ?_
  refine LE.p (v := (Value.agg #[(Value.int .i64 (2 : Int)), (SV.v (SV.mk (some b3) 2 2))])) (Wn.no rfl) rfl (R.bld (by exact (Ls.cons (R.Pr rfl) (Ls.cons (R.Pr rfl) Ls.nil))) (fun w => bu27_0_1 (2 : Int) (SV.mk (some b3) 2 2) w)) ?_
  obtain ⟨b6, hpb6, w4, hww4, h⟩ := M.new_use h
  refine LE.r (v := (SV.v (SV.mk (some b6) 2 2))) (Wn.no rfl) rfl (R.bsl (by exact (Ls.cons (R.Pr rfl) (Ls.cons (R.Pr rfl) Ls.nil))) (fun w => bs25_2 (3 : Int) (4 : Int) w) hpb6 hww4) ?_
  refine LE.p (v := (Value.agg #[(Value.int .i64 (1 : Int)), (SV.v (SV.mk (some b6) 2 2))])) (Wn.no rfl) rfl (R.bld (by exact (Ls.cons (R.Pr rfl) (Ls.cons (R.Pr rfl) Ls.nil))) (fun w => bu27_0_1 (1 : Int) (SV.mk (some b6) 2 2) w)) ?_
  obtain ⟨b9, hpb9, w7, hww7, h⟩ := M.new_use h
  refine LE.r (v := (SV.v (SV.mk (some b9) 2 2))) (Wn.no rfl) rfl (R.bsl (by exact (Ls.cons (R.Pr rfl) (Ls.cons (R.Pr rfl) Ls.nil))) (fun w => bs24_2 (2 : Int) (SV.mk (some b3) 2 2) (1 : Int) (SV.mk (some b6) 2 2) w) hpb9 hww7) ?_
  refine LE.p (v := (SV.v (SV.mk (some b9) 2 2))) (Wn.no rfl) rfl (R.assign rfl) ?_
  refine LE.nil ?_
  refine WE.seq ?_
  refine WE.reg ?_
  refine LE.p (v := (SV.v (SV.mk (some b9) 2 2))) (Wn.no rfl) rfl (R.move rfl) ?_
  refine LE.c (Wn.no rfl) rfl (R.call bd10 (Ls.cons rfl Ls.nil) rfl) (Calls.mono h ?_)
  rintro _ w12 ⟨r10, r11, rfl, h⟩
  refine ⟨_, rfl, ?_⟩
  refine LE.p (v := (Value.tuple #[(Value.int .u32 r10), (Value.bool r11)])) (Wn.no rfl) rfl (R.move rfl) ?_
  refine LE.p (v := (Value.int .u32 r10)) (Wn.no rfl) rfl (R.ext rfl rfl) ?_
  refine LE.p (v := (Value.bool r11)) (Wn.no rfl) rfl (R.ext rfl rfl) ?_
  refine LE.p (v := (Value.int .u32 r10)) (Wn.no rfl) rfl (R.assign rfl) ?_
  refine LE.p (v := (Value.bool r11)) (Wn.no rfl) rfl (R.assign rfl) ?_
  refine LE.nil ?_
  refine WE.seq ?_
  obtain ⟨J13, hJ13, h⟩ := M.join_use h
  refine WE.regJ (fun e w => ∃ (x14 : Bool), J13 x14 w ∧ e 0 = (Value.bool x14)) ?_ ?_
  · clear hJ13
    refine LE.p (v := (SV.v (SV.mk (some b9) 2 2))) (Wn.no rfl) rfl (R.move rfl) ?_
    refine LE.c (Wn.no rfl) rfl (R.call bd13 (Ls.cons rfl Ls.nil) rfl) (Calls.mono h ?_)
    rintro _ w16 ⟨r15, rfl, h⟩
    refine ⟨_, rfl, ?_⟩
    refine LE.p (v := (Value.bool (r15 == (3 : Int)))) (Wn.no rfl) rfl (R.eql rfl rfl) ?_
    refine LE.p (v := (Value.bool (r15 == (3 : Int)))) (Wn.no rfl) rfl (R.move rfl) ?_
    rcases M.ite_use h with ⟨hb17, h⟩ | ⟨hb17, h⟩
    · refine LE.p (v := (SV.v (SV.mk (some b9) 2 2))) (Wn.yes 3 17 true rfl rfl rfl (congrArg Value.bool hb17)) rfl (R.move rfl) ?_
      refine LE.c (Wn.yes 3 17 true rfl rfl rfl (congrArg Value.bool hb17)) rfl (R.call bd16 (Ls.cons rfl (Ls.cons rfl Ls.nil)) rfl) (Calls.mono h ?_)
      rintro _ w19 ⟨r18, rfl, h⟩
      refine ⟨_, rfl, ?_⟩
      refine LE.p (v := (Value.bool r18)) (Wn.no rfl) rfl (R.pickT (congrArg Value.bool hb17) rfl) ?_
      refine LE.p (v := (Value.bool r18)) (Wn.no rfl) rfl (R.move rfl) ?_
      rcases M.ite_use h with ⟨hb20, h⟩ | ⟨hb20, h⟩
      · refine LE.p (v := (SV.v (SV.mk (some b9) 2 2))) (Wn.yes 7 21 true rfl rfl rfl (congrArg Value.bool hb20)) rfl (R.move rfl) ?_
        refine LE.c (Wn.yes 7 21 true rfl rfl rfl (congrArg Value.bool hb20)) rfl (R.call bd16 (Ls.cons rfl (Ls.cons rfl Ls.nil)) rfl) (Calls.mono h ?_)
        rintro _ w22 ⟨r21, rfl, h⟩
        refine ⟨_, rfl, ?_⟩
        refine LE.p (v := (Value.bool (!r21))) (Wn.yes 7 21 true rfl rfl rfl (congrArg Value.bool hb20)) rfl (R.not rfl) ?_
        refine LE.p (v := (Value.bool (!r21))) (Wn.no rfl) rfl (R.pickT (congrArg Value.bool hb20) rfl) ?_
        refine LE.p (v := (Value.bool (!r21))) (Wn.no rfl) rfl (R.move rfl) ?_
        rcases M.ite_use h with ⟨hb23, h⟩ | ⟨hb23, h⟩
        · refine LE.p (v := (Value.int .u32 r10)) (Wn.yes 12 26 true rfl rfl rfl (congrArg Value.bool hb23)) rfl (R.move rfl) ?_
          refine LE.p (v := (Value.bool (r10 == (1 : Int)))) (Wn.yes 12 26 true rfl rfl rfl (congrArg Value.bool hb23)) rfl (R.eql rfl rfl) ?_
          refine LE.p (v := (Value.bool (r10 == (1 : Int)))) (Wn.no rfl) rfl (R.pickT (congrArg Value.bool hb23) rfl) ?_
          refine LE.p (v := (Value.bool (r10 == (1 : Int)))) (Wn.no rfl) rfl (R.move rfl) ?_
          rcases M.ite_use h with ⟨hb24, h⟩ | ⟨hb24, h⟩
          · refine LE.p (v := (Value.bool r11)) (Wn.yes 16 30 true rfl rfl rfl (congrArg Value.bool hb24)) rfl (R.move rfl) ?_
            refine LE.p (v := (Value.bool r11)) (Wn.no rfl) rfl (R.pickT (congrArg Value.bool hb24) rfl) ?_
            refine LE.p (v := (Value.bool r11)) (Wn.no rfl) rfl (R.move rfl) ?_
            rcases M.ite_use h with ⟨hb25, h⟩ | ⟨hb25, h⟩
            · refine LE.p (v := (SV.v (SV.mk (some b9) 2 2))) (Wn.yes 19 33 true rfl rfl rfl (congrArg Value.bool hb25)) rfl (R.move rfl) ?_
              refine LE.c (Wn.yes 19 33 true rfl rfl rfl (congrArg Value.bool hb25)) rfl (R.call bd11 (Ls.cons rfl (Ls.cons rfl (Ls.cons rfl Ls.nil))) rfl) (Calls.mono h ?_)
              rintro _ w27 ⟨r26, rfl, h⟩
              refine ⟨_, rfl, ?_⟩
              obtain ⟨a28, h29, h30, h31, h⟩ := h
              refine LE.p (v := (Value.pointer (some (a28.add ((0 : Int).toNat * 2))))) (Wn.yes 19 33 true rfl rfl rfl (congrArg Value.bool hb25)) rfl (R.idx (s := r26) sl24 rfl rfl h29 h30 h31) ?_
              refine LE.p (v := (Value.pointer (some ((a28.add ((0 : Int).toNat * 2)).add 1)))) (Wn.yes 19 33 true rfl rfl rfl (congrArg Value.bool hb25)) rfl (R.fld (off := 1) fa27_1 rfl) ?_
              obtain ⟨t32, h33, h⟩ := h
              refine LE.r (v := (SV.v t32)) (Wn.yes 19 33 true rfl rfl rfl (congrArg Value.bool hb25)) rfl (R.ld sc25 rfl h33) ?_
              refine LE.p (v := (Value.int .i64 (t32.len : Int))) (Wn.yes 19 33 true rfl rfl rfl (congrArg Value.bool hb25)) rfl (R.len sl25 rfl) ?_
              refine LE.p (v := (Value.bool ((t32.len : Int) == (4 : Int)))) (Wn.yes 19 33 true rfl rfl rfl (congrArg Value.bool hb25)) rfl (R.eql rfl rfl) ?_
              refine LE.p (v := (Value.bool ((t32.len : Int) == (4 : Int)))) (Wn.no rfl) rfl (R.pickT (congrArg Value.bool hb25) rfl) ?_
              refine LE.p (v := (Value.bool ((t32.len : Int) == (4 : Int)))) (Wn.no rfl) rfl (R.assign rfl) ?_
              refine LE.nil ?_
              exact ⟨_, h, rfl⟩
            · refine LE.u (Un.no 19 33 true rfl rfl rfl (congrArg Value.bool hb25)) ?_
              refine LE.u (Un.no 19 33 true rfl rfl rfl (congrArg Value.bool hb25)) ?_
              refine LE.u (Un.no 19 33 true rfl rfl rfl (congrArg Value.bool hb25)) ?_
              refine LE.u (Un.no 19 33 true rfl rfl rfl (congrArg Value.bool hb25)) ?_
              refine LE.u (Un.no 19 33 true rfl rfl rfl (congrArg Value.bool hb25)) ?_
              refine LE.u (Un.no 19 33 true rfl rfl rfl (congrArg Value.bool hb25)) ?_
              refine LE.u (Un.no 19 33 true rfl rfl rfl (congrArg Value.bool hb25)) ?_
              refine LE.p (v := (Value.bool false)) (Wn.no rfl) rfl (R.pickF (congrArg Value.bool hb25) rfl) ?_
              refine LE.p (v := (Value.bool false)) (Wn.no rfl) rfl (R.assign rfl) ?_
              refine LE.nil ?_
              exact ⟨_, h, rfl⟩
          · refine LE.u (Un.no 16 30 true rfl rfl rfl (congrArg Value.bool hb24)) ?_
            refine LE.p (v := (Value.bool false)) (Wn.no rfl) rfl (R.pickF (congrArg Value.bool hb24) rfl) ?_
            refine LE.p (v := (Value.bool false)) (Wn.no rfl) rfl (R.move rfl) ?_
            refine LE.u (Un.no 19 33 true rfl rfl rfl rfl) ?_
            refine LE.u (Un.no 19 33 true rfl rfl rfl rfl) ?_
            refine LE.u (Un.no 19 33 true rfl rfl rfl rfl) ?_
            refine LE.u (Un.no 19 33 true rfl rfl rfl rfl) ?_
            refine LE.u (Un.no 19 33 true rfl rfl rfl rfl) ?_
            refine LE.u (Un.no 19 33 true rfl rfl rfl rfl) ?_
            refine LE.u (Un.no 19 33 true rfl rfl rfl rfl) ?_
            refine LE.p (v := (Value.bool false)) (Wn.no rfl) rfl (R.pickF rfl rfl) ?_
            refine LE.p (v := (Value.bool false)) (Wn.no rfl) rfl (R.assign rfl) ?_
            refine LE.nil ?_
            exact ⟨_, h, rfl⟩
        · refine LE.u (Un.no 12 26 true rfl rfl rfl (congrArg Value.bool hb23)) ?_
          refine LE.u (Un.no 12 26 true rfl rfl rfl (congrArg Value.bool hb23)) ?_
          refine LE.p (v := (Value.bool false)) (Wn.no rfl) rfl (R.pickF (congrArg Value.bool hb23) rfl) ?_
          refine LE.p (v := (Value.bool false)) (Wn.no rfl) rfl (R.move rfl) ?_
          refine LE.u (Un.no 16 30 true rfl rfl rfl rfl) ?_
          refine LE.p (v := (Value.bool false)) (Wn.no rfl) rfl (R.pickF rfl rfl) ?_
          refine LE.p (v := (Value.bool false)) (Wn.no rfl) rfl (R.move rfl) ?_
          refine LE.u (Un.no 19 33 true rfl rfl rfl rfl) ?_
          refine LE.u (Un.no 19 33 true rfl rfl rfl rfl) ?_
          refine LE.u (Un.no 19 33 true rfl rfl rfl rfl) ?_
          refine LE.u (Un.no 19 33 true rfl rfl rfl rfl) ?_
          refine LE.u (Un.no 19 33 true rfl rfl rfl rfl) ?_
          refine LE.u (Un.no 19 33 true rfl rfl rfl rfl) ?_
          refine LE.u (Un.no 19 33 true rfl rfl rfl rfl) ?_
          refine LE.p (v := (Value.bool false)) (Wn.no rfl) rfl (R.pickF rfl rfl) ?_
          refine LE.p (v := (Value.bool false)) (Wn.no rfl) rfl (R.assign rfl) ?_
          refine LE.nil ?_
          exact ⟨_, h, rfl⟩
      · refine LE.u (Un.no 7 21 true rfl rfl rfl (congrArg Value.bool hb20)) ?_
        refine LE.u (Un.no 7 21 true rfl rfl rfl (congrArg Value.bool hb20)) ?_
        refine LE.u (Un.no 7 21 true rfl rfl rfl (congrArg Value.bool hb20)) ?_
        refine LE.p (v := (Value.bool false)) (Wn.no rfl) rfl (R.pickF (congrArg Value.bool hb20) rfl) ?_
        refine LE.p (v := (Value.bool false)) (Wn.no rfl) rfl (R.move rfl) ?_
        refine LE.u (Un.no 12 26 true rfl rfl rfl rfl) ?_
        refine LE.u (Un.no 12 26 true rfl rfl rfl rfl) ?_
        refine LE.p (v := (Value.bool false)) (Wn.no rfl) rfl (R.pickF rfl rfl) ?_
        refine LE.p (v := (Value.bool false)) (Wn.no rfl) rfl (R.move rfl) ?_
        refine LE.u (Un.no 16 30 true rfl rfl rfl rfl) ?_
        refine LE.p (v := (Value.bool false)) (Wn.no rfl) rfl (R.pickF rfl rfl) ?_
        refine LE.p (v := (Value.bool false)) (Wn.no rfl) rfl (R.move rfl) ?_
        refine LE.u (Un.no 19 33 true rfl rfl rfl rfl) ?_
        refine LE.u (Un.no 19 33 true rfl rfl rfl rfl) ?_
        refine LE.u (Un.no 19 33 true rfl rfl rfl rfl) ?_
        refine LE.u (Un.no 19 33 true rfl rfl rfl rfl) ?_
        refine LE.u (Un.no 19 33 true rfl rfl rfl rfl) ?_
        refine LE.u (Un.no 19 33 true rfl rfl rfl rfl) ?_
        refine LE.u (Un.no 19 33 true rfl rfl rfl rfl) ?_
        refine LE.p (v := (Value.bool false)) (Wn.no rfl) rfl (R.pickF rfl rfl) ?_
        refine LE.p (v := (Value.bool false)) (Wn.no rfl) rfl (R.assign rfl) ?_
        refine LE.nil ?_
        exact ⟨_, h, rfl⟩
    · refine LE.u (Un.no 3 17 true rfl rfl rfl (congrArg Value.bool hb17)) ?_
      refine LE.u (Un.no 3 17 true rfl rfl rfl (congrArg Value.bool hb17)) ?_
      refine LE.p (v := (Value.bool false)) (Wn.no rfl) rfl (R.pickF (congrArg Value.bool hb17) rfl) ?_
      refine LE.p (v := (Value.bool false)) (Wn.no rfl) rfl (R.move rfl) ?_
      refine LE.u (Un.no 7 21 true rfl rfl rfl rfl) ?_
      refine LE.u (Un.no 7 21 true rfl rfl rfl rfl) ?_
      refine LE.u (Un.no 7 21 true rfl rfl rfl rfl) ?_
      refine LE.p (v := (Value.bool false)) (Wn.no rfl) rfl (R.pickF rfl rfl) ?_
      refine LE.p (v := (Value.bool false)) (Wn.no rfl) rfl (R.move rfl) ?_
      refine LE.u (Un.no 12 26 true rfl rfl rfl rfl) ?_
      refine LE.u (Un.no 12 26 true rfl rfl rfl rfl) ?_
      refine LE.p (v := (Value.bool false)) (Wn.no rfl) rfl (R.pickF rfl rfl) ?_
      refine LE.p (v := (Value.bool false)) (Wn.no rfl) rfl (R.move rfl) ?_
      refine LE.u (Un.no 16 30 true rfl rfl rfl rfl) ?_
      refine LE.p (v := (Value.bool false)) (Wn.no rfl) rfl (R.pickF rfl rfl) ?_
      refine LE.p (v := (Value.bool false)) (Wn.no rfl) rfl (R.move rfl) ?_
      refine LE.u (Un.no 19 33 true rfl rfl rfl rfl) ?_
      refine LE.u (Un.no 19 33 true rfl rfl rfl rfl) ?_
      refine LE.u (Un.no 19 33 true rfl rfl rfl rfl) ?_
      refine LE.u (Un.no 19 33 true rfl rfl rfl rfl) ?_
      refine LE.u (Un.no 19 33 true rfl rfl rfl rfl) ?_
      refine LE.u (Un.no 19 33 true rfl rfl rfl rfl) ?_
      refine LE.u (Un.no 19 33 true rfl rfl rfl rfl) ?_
      refine LE.p (v := (Value.bool false)) (Wn.no rfl) rfl (R.pickF rfl rfl) ?_
      refine LE.p (v := (Value.bool false)) (Wn.no rfl) rfl (R.assign rfl) ?_
      refine LE.nil ?_
      exact ⟨_, h, rfl⟩
  · rintro e34 w35 ⟨x14, h, f36⟩
    subst hJ13
    refine WE.ret ?_
    exact ⟨_, (Res.tmp f36 Res.nil), _, rfl, h⟩
/-- The formula of signpost.signpostlaw6.right. -/
def F15 (p0 : SV) (K : SV → World → Prop) (w0 : World) : Prop :=
M.loop2 (fun (J3 : SV → Int → World → Prop) (x1 : SV) (x2 : Int) (w4 : World) => 
M.join (fun (x15 : Bool) (w18 : World) => 
M.ite x15 (
M.join (fun (x25 : SV) (w78 : World) => 
J3 x25 (IntKind.i64.wrap (x2 + (1 : Int))) w78) fun J24 => 
M.idx p0 x2 2 fun a26 =>
M.ld (Value.int .i64) (a26.add (x2.toNat * 2)) w18 fun t30 =>
M.ld SV.v ((a26.add (x2.toNat * 2)).add 1) w18 fun t32 =>
M.new (.cells #[(Value.int .i64 (0 : Int)), (SV.v SV.nil)] 27) w18 fun b35 w34 =>
M.stA b35 [(Value.int .i64 t30), (SV.v t32)] w34 fun w36 =>
M.ld SV.v (b35.add 1) w36 fun t38 =>
M.ite (decide ((0 : Int) < (t38.len : Int))) (
M.join (fun (w55 : World) => 
M.ld (Value.int .i64) b35 w55 fun t60 =>
Calls Try.prog 9 #[(Value.int .i64 t60), (Value.int .i64 (0 : Int)), (Value.int .i64 (1 : Int))] w55 (R9 fun r62 w63 =>
M.st b35 (Value.int .i64 (IntKind.i64.wrap ((1 : Int) + r62))) w63 fun w64 =>
M.ld (Value.int .i64) b35 w64 fun t67 =>
M.ld SV.v (b35.add 1) w64 fun t69 =>
M.new (.cells #[(Value.int .i64 t67), (SV.v t69)] 27) w64 fun b73 w71 =>
M.app Try.prog 24 24 24 x1 (SV.v (SV.mk (some b73) 1 1)) w71 fun s74 w75 =>
J24 s74 w75)) fun J41 => 
M.ld SV.v (b35.add 1) w36 fun t42 =>
M.ite (decide ((6 : Int) < (t42.len : Int))) (
M.ld SV.v (b35.add 1) w36 fun t45 =>
M.bnd (0 : Int) (6 : Int) t45 <|
M.st (b35.add 1) (SV.v (SV.sub t45 (Int.toNat (0 : Int)) (Int.toNat (6 : Int)) 1)) w36 fun w51 =>
J41 w51) (
J41 w36)) (
J24 x1 w36)) (
K x1 w18)) fun J14 => 
M.ite (decide (x2 < (p0.len : Int))) (
J14 (decide ((x1.len : Int) < (6 : Int))) w4) (
J14 false w4)) SV.nil (0 : Int) w0
theorem F15_ok {w0 : World} {p0 : SV} {K : SV → World → Prop} (h : F15 p0 K w0) : Calls Try.prog 15 #[(SV.v p0)] w0 (R15 K) := by
  refine calls_of_WE (args := [(SV.v p0)]) (rs := [.tmp 2]) Try.func15 rfl (N := 43) rfl rfl rfl rfl ?_
  refine WE.seq ?_
  refine WE.reg ?_
  refine LE.p (v := (SV.v SV.nil)) (Wn.no rfl) rfl (R.assign rfl) ?_
  refine LE.nil ?_
  refine WE.seq ?_
  refine WE.reg ?_
  refine LE.p (v := (SV.v SV.nil)) (Wn.no rfl) rfl (R.assign rfl) ?_
  refine LE.nil ?_
  refine WE.seq ?_
  refine WE.seq ?_
  refine WE.reg ?_
  refine LE.p (v := (Value.int .i64 (0 : Int))) (Wn.no rfl) rfl (R.assign rfl) ?_
  refine LE.nil ?_
  refine WE.block ?_
  obtain ⟨I7, ⟨n6, h⟩, hr8⟩ := h
  refine WE.loop (fun n e w => ∃ (x1 : SV) (x2 : Int), I7 n x1 x2 w ∧ e 0 = (SV.v p0) ∧ e 3 = (SV.v x1) ∧ e 4 = (Value.int .i64 x2)) n6 ⟨_, _, h, rfl, rfl, rfl⟩ ?_
  clear h
  rintro n6 e5 w4 ⟨x1, x2, h, f11, f12, f13⟩
  replace h := hr8 n6 x1 x2 w4 h
  refine WE.seq ?_
  refine WE.seq ?_
  obtain ⟨J14, hJ14, h⟩ := M.join_use h
  refine WE.regJ (fun e w => ∃ (x15 : Bool), J14 x15 w ∧ e 0 = (SV.v p0) ∧ e 3 = (SV.v x1) ∧ e 4 = (Value.int .i64 x2) ∧ e 14 = (Value.bool x15)) ?_ ?_
  · clear hJ14
    refine LE.p (v := (Value.int .i64 x2)) (Wn.no rfl) rfl (R.move f13) ?_
    refine LE.p (v := (SV.v p0)) (Wn.no rfl) rfl (R.move f11) ?_
    refine LE.p (v := (Value.int .i64 (p0.len : Int))) (Wn.no rfl) rfl (R.len sl24 rfl) ?_
    refine LE.p (v := (Value.bool (decide (x2 < (p0.len : Int))))) (Wn.no rfl) rfl (R.lss rfl rfl) ?_
    refine LE.p (v := (Value.bool (decide (x2 < (p0.len : Int))))) (Wn.no rfl) rfl (R.move rfl) ?_
    rcases M.ite_use h with ⟨hb16, h⟩ | ⟨hb16, h⟩
    · refine LE.p (v := (SV.v x1)) (Wn.yes 4 10 true rfl rfl rfl (congrArg Value.bool hb16)) rfl (R.move f12) ?_
      refine LE.p (v := (Value.int .i64 (x1.len : Int))) (Wn.yes 4 10 true rfl rfl rfl (congrArg Value.bool hb16)) rfl (R.len sl24 rfl) ?_
      refine LE.p (v := (Value.bool (decide ((x1.len : Int) < (6 : Int))))) (Wn.yes 4 10 true rfl rfl rfl (congrArg Value.bool hb16)) rfl (R.lss rfl rfl) ?_
      refine LE.p (v := (Value.bool (decide ((x1.len : Int) < (6 : Int))))) (Wn.no rfl) rfl (R.pickT (congrArg Value.bool hb16) rfl) ?_
      refine LE.nil ?_
      exact ⟨_, h, f11, f12, f13, rfl⟩
    · refine LE.u (Un.no 4 10 true rfl rfl rfl (congrArg Value.bool hb16)) ?_
      refine LE.u (Un.no 4 10 true rfl rfl rfl (congrArg Value.bool hb16)) ?_
      refine LE.u (Un.no 4 10 true rfl rfl rfl (congrArg Value.bool hb16)) ?_
      refine LE.p (v := (Value.bool false)) (Wn.no rfl) rfl (R.pickF (congrArg Value.bool hb16) rfl) ?_
      refine LE.nil ?_
      exact ⟨_, h, f11, f12, f13, rfl⟩
  · rintro e17 w18 ⟨x15, h, f19, f20, f21, f22⟩
    subst hJ14
    refine WE.condT rfl (b := x15) f22 ?_ ?_
    · intro hb23
      replace h := M.ite_t h hb23
      refine WE.skip ?_
      refine WE.seq ?_
      obtain ⟨J24, hJ24, h⟩ := M.join_use h
      refine WE.blkJ (fun e w => ∃ (x25 : SV), J24 x25 w ∧ e 0 = (SV.v p0) ∧ e 3 = (SV.v x25) ∧ e 4 = (Value.int .i64 x2)) ?_ ?_
      · clear hJ24
        refine WE.seq ?_
        refine WE.reg ?_
        refine LE.p (v := (SV.v p0)) (Wn.no rfl) rfl (R.move f19) ?_
        refine LE.p (v := (Value.int .i64 x2)) (Wn.no rfl) rfl (R.move f21) ?_
        obtain ⟨a26, h27, h28, h29, h⟩ := h
        refine LE.p (v := (Value.pointer (some (a26.add (x2.toNat * 2))))) (Wn.no rfl) rfl (R.idx (s := p0) sl24 rfl rfl h27 h28 h29) ?_
        obtain ⟨t30, h31, h⟩ := h
        obtain ⟨t32, h33, h⟩ := h
        refine LE.r (v := (Value.agg #[(Value.int .i64 t30), (SV.v t32)])) (Wn.no rfl) rfl (R.ldA ag27 sz27 rfl rfl (Cs.cons h31 (Cs.cons h33 Cs.nil))) ?_
        obtain ⟨b35, hpb35, w34, hww34, h⟩ := M.new_use h
        refine LE.r (v := (Value.pointer (some b35))) (Wn.no rfl) rfl (R.alloc (cs := #[(Value.int .i64 (0 : Int)), (SV.v SV.nil)]) ze27 rfl hpb35 hww34) ?_
        obtain ⟨w36, hww36, h37, h⟩ := M.stA_use h
        refine LE.s (Wn.no rfl) rfl (R.stA (a := b35) [(Value.int .i64 t30), (SV.v t32)] sz27 rfl rfl rfl (by simp [Value.oneCell']) h37 hww36) ?_
        refine LE.nil ?_
        refine WE.seq ?_
        refine WE.reg ?_
        refine LE.p (v := (Value.pointer (some (b35.add 1)))) (Wn.no rfl) rfl (R.fld (off := 1) fa27_1 rfl) ?_
        obtain ⟨t38, h39, h⟩ := h
        refine LE.r (v := (SV.v t38)) (Wn.no rfl) rfl (R.ld sc25 rfl h39) ?_
        refine LE.p (v := (Value.int .i64 (t38.len : Int))) (Wn.no rfl) rfl (R.len sl25 rfl) ?_
        refine LE.p (v := (Value.bool (decide ((0 : Int) < (t38.len : Int))))) (Wn.no rfl) rfl (R.gtr rfl rfl) ?_
        refine LE.nil ?_
        refine WE.condT rfl (b := (decide ((0 : Int) < (t38.len : Int)))) rfl ?_ ?_
        · intro hb40
          replace h := M.ite_t h hb40
          obtain ⟨J41, hJ41, h⟩ := M.join_use h
          refine WE.join (fun e w => J41 w ∧ e 0 = (SV.v p0) ∧ e 3 = (SV.v x1) ∧ e 4 = (Value.int .i64 x2) ∧ e 5 = (Value.pointer (some b35))) ?_ ?_
          · clear hJ41
            refine WE.seq ?_
            refine WE.reg ?_
            refine LE.p (v := (Value.pointer (some (b35.add 1)))) (Wn.no rfl) rfl (R.fld (off := 1) fa27_1 rfl) ?_
            obtain ⟨t42, h43, h⟩ := h
            refine LE.r (v := (SV.v t42)) (Wn.no rfl) rfl (R.ld sc25 rfl h43) ?_
            refine LE.p (v := (Value.int .i64 (t42.len : Int))) (Wn.no rfl) rfl (R.len sl25 rfl) ?_
            refine LE.p (v := (Value.bool (decide ((6 : Int) < (t42.len : Int))))) (Wn.no rfl) rfl (R.gtr rfl rfl) ?_
            refine LE.nil ?_
            refine WE.condT rfl (b := (decide ((6 : Int) < (t42.len : Int)))) rfl ?_ ?_
            · intro hb44
              replace h := M.ite_t h hb44
              refine WE.reg ?_
              refine LE.p (v := (Value.pointer (some (b35.add 1)))) (Wn.no rfl) rfl (R.fld (off := 1) fa27_1 rfl) ?_
              obtain ⟨t45, h46, h⟩ := h
              refine LE.r (v := (SV.v t45)) (Wn.no rfl) rfl (R.ld sc25 rfl h46) ?_
              obtain ⟨h47, h48, h49, h⟩ := h
              refine LE.p (v := (SV.v (SV.sub t45 (Int.toNat (0 : Int)) (Int.toNat (6 : Int)) 1))) (Wn.no rfl) rfl (R.slc (s := t45) (lo := (0 : Int)) (hi := (6 : Int)) _ _ sl25 rfl rfl rfl h47 h48 h49) ?_
              refine LE.p (v := (Value.pointer (some (b35.add 1)))) (Wn.no rfl) rfl (R.fld (off := 1) fa27_1 rfl) ?_
              obtain ⟨w51, hww51, h52, h53, h⟩ := M.st_use h
              refine LE.s (Wn.no rfl) rfl (R.st (a := (b35.add 1)) (v := (SV.v (SV.sub t45 (Int.toNat (0 : Int)) (Int.toNat (6 : Int)) 1))) sz25 rfl rfl rfl rfl h52 h53 hww51) ?_
              refine LE.nil ?_
              exact ⟨h, f19, f20, f21, rfl⟩
            · intro hb44
              replace h := M.ite_f h hb44
              refine WE.skip ?_
              exact ⟨h, f19, f20, f21, rfl⟩
          · rintro e54 w55 ⟨h, f56, f57, f58, f59⟩
            subst hJ41
            refine WE.seq ?_
            refine WE.reg ?_
            refine LE.p (v := (Value.pointer (some b35))) (Wn.no rfl) rfl (R.fld (off := 0) fa27_0 f59) ?_
            obtain ⟨t60, h61, h⟩ := h
            refine LE.r (v := (Value.int .i64 t60)) (Wn.no rfl) rfl (R.ld sc3 rfl h61) ?_
            refine LE.c (Wn.no rfl) rfl (R.call bd9 (Ls.cons rfl (Ls.cons rfl (Ls.cons rfl Ls.nil))) rfl) (Calls.mono h ?_)
            rintro _ w63 ⟨r62, rfl, h⟩
            refine ⟨_, rfl, ?_⟩
            refine LE.p (v := (Value.int .i64 (IntKind.i64.wrap ((1 : Int) + r62)))) (Wn.no rfl) rfl (R.add rfl rfl) ?_
            refine LE.p (v := (Value.pointer (some b35))) (Wn.no rfl) rfl (R.fld (off := 0) fa27_0 f59) ?_
            obtain ⟨w64, hww64, h65, h66, h⟩ := M.st_use h
            refine LE.s (Wn.no rfl) rfl (R.st (a := b35) (v := (Value.int .i64 (IntKind.i64.wrap ((1 : Int) + r62)))) sz3 rfl rfl rfl rfl h65 h66 hww64) ?_
            refine LE.nil ?_
            refine WE.reg ?_
            refine LE.p (v := (SV.v x1)) (Wn.no rfl) rfl (R.move f57) ?_
            obtain ⟨t67, h68, h⟩ := h
            obtain ⟨t69, h70, h⟩ := h
            refine LE.r (v := (Value.agg #[(Value.int .i64 t67), (SV.v t69)])) (Wn.no rfl) rfl (R.ldA ag27 sz27 f59 rfl (Cs.cons h68 (Cs.cons h70 Cs.nil))) ?_
            obtain ⟨b73, hpb73, w71, hww71, h⟩ := M.new_use h
            refine LE.r (v := (SV.v (SV.mk (some b73) 1 1))) (Wn.no rfl) rfl (R.bsl (by exact (Ls.cons (R.Pr rfl) Ls.nil)) (fun w => bs24_1 t67 t69 w) hpb73 hww71) ?_
            obtain ⟨s74, w75, h76, h⟩ := h
            refine LE.r (v := (SV.v s74)) (Wn.no rfl) rfl (R.app (s := x1) (r := s74) rfl rfl h76) ?_
            refine LE.p (v := (SV.v s74)) (Wn.no rfl) rfl (R.assign rfl) ?_
            refine LE.nil ?_
            exact ⟨_, h, f56, rfl, f58⟩
        · intro hb40
          replace h := M.ite_f h hb40
          refine WE.skip ?_
          exact ⟨_, h, f19, f20, f21⟩
      · rintro e77 w78 ⟨x25, h, f79, f80, f81⟩
        subst hJ24
        refine WE.reg ?_
        refine LE.p (v := (Value.int .i64 x2)) (Wn.no rfl) rfl (R.move f81) ?_
        refine LE.p (v := (Value.int .i64 (IntKind.i64.wrap (x2 + (1 : Int))))) (Wn.no rfl) rfl (R.add rfl rfl) ?_
        refine LE.p (v := (Value.int .i64 (IntKind.i64.wrap (x2 + (1 : Int))))) (Wn.no rfl) rfl (R.assign rfl) ?_
        refine LE.nil ?_
        obtain ⟨m9, hm10, h⟩ := h
        exact ⟨m9, hm10, _, _, h, f79, f80, rfl⟩
    · intro hb23
      replace h := M.ite_f h hb23
      refine WE.exit ?_
      refine WE.seq ?_
      refine WE.reg ?_
      refine LE.p (v := (SV.v x1)) (Wn.no rfl) rfl (R.move f20) ?_
      refine LE.p (v := (SV.v x1)) (Wn.no rfl) rfl (R.assign rfl) ?_
      refine LE.nil ?_
      refine WE.ret ?_
      exact ⟨_, (Res.tmp rfl Res.nil), _, rfl, h⟩
/-- The formula of signpost.aspath.Has. -/
def F16 (p0 : SV) (p1 : Int) (K : Bool → World → Prop) (w0 : World) : Prop :=
M.join (fun (x2 : Bool) (w60 : World) => 
K x2 w60) fun J1 => 
M.loop2 (fun (J5 : Bool → Int → World → Prop) (x3 : Bool) (x4 : Int) (w6 : World) => 
M.ite (decide (x4 < (p0.len : Int))) (
M.idx p0 x4 2 fun a19 =>
M.ld (Value.int .i64) (a19.add (x4.toNat * 2)) w6 fun t23 =>
M.ld SV.v ((a19.add (x4.toNat * 2)).add 1) w6 fun t25 =>
M.new (.cells #[(Value.int .i64 (0 : Int)), (SV.v SV.nil)] 27) w6 fun b28 w27 =>
M.stA b28 [(Value.int .i64 t23), (SV.v t25)] w27 fun w29 =>
M.ld SV.v (b28.add 1) w29 fun t31 =>
M.loop2 (fun (J35 : Bool → Int → World → Prop) (x33 : Bool) (x34 : Int) (w36 : World) => 
M.ite (decide (x34 < (t31.len : Int))) (
M.idx t31 x34 1 fun a52 =>
M.ld (Value.int .u32) (a52.add (x34.toNat * 1)) w36 fun t56 =>
M.ite (t56 == p1) (
J1 true w36) (
J35 x33 (IntKind.i64.wrap (x34 + (1 : Int))) w36)) (
J5 x33 (IntKind.i64.wrap (x4 + (1 : Int))) w36)) x3 (0 : Int) w29) (
J1 x3 w6)) false (0 : Int) w0
theorem F16_ok {w0 : World} {p0 : SV} {p1 : Int} {K : Bool → World → Prop} (h : F16 p0 p1 K w0) : Calls Try.prog 16 #[(SV.v p0), (Value.int .u32 p1)] w0 (R16 K) := by
  refine calls_of_WE (args := [(SV.v p0), (Value.int .u32 p1)]) (rs := [.tmp 4]) Try.func16 rfl (N := 29) rfl rfl rfl rfl ?_
  refine WE.seq ?_
  refine WE.reg ?_
  refine LE.p (v := (Value.bool false)) (Wn.no rfl) rfl (R.assign rfl) ?_
  refine LE.nil ?_
  refine WE.scope ?_
  refine WE.seq ?_
  refine WE.reg ?_
  refine LE.p (v := (Value.bool false)) (Wn.no rfl) rfl (R.assign rfl) ?_
  refine LE.nil ?_
  refine WE.seq ?_
  refine WE.label ?_
  refine WE.seq ?_
  refine WE.seq ?_
  refine WE.reg ?_
  refine LE.p (v := (SV.v p0)) (Wn.no rfl) rfl (R.move rfl) ?_
  refine LE.p (v := (Value.int .i64 (p0.len : Int))) (Wn.no rfl) rfl (R.len sl24 rfl) ?_
  refine LE.p (v := (Value.int .i64 (0 : Int))) (Wn.no rfl) rfl (R.move rfl) ?_
  refine LE.nil ?_
  obtain ⟨J1, hJ1, h⟩ := M.join_use h
  refine WE.blkJ (fun e w => ∃ (x2 : Bool), J1 x2 w ∧ e 5 = (Value.bool x2)) ?_ ?_
  · clear hJ1
    obtain ⟨I9, ⟨n8, h⟩, hr10⟩ := h
    refine WE.loop (fun n e w => ∃ (x3 : Bool) (x4 : Int), I9 n x3 x4 w ∧ e 1 = (Value.int .u32 p1) ∧ e 5 = (Value.bool x3) ∧ e 10 = (SV.v p0) ∧ e 11 = (Value.int .i64 (p0.len : Int)) ∧ e 12 = (Value.int .i64 x4)) n8 ⟨_, _, h, rfl, rfl, rfl, rfl, rfl⟩ ?_
    clear h
    rintro n8 e7 w6 ⟨x3, x4, h, f13, f14, f15, f16, f17⟩
    replace h := hr10 n8 x3 x4 w6 h
    refine WE.seq ?_
    refine WE.reg ?_
    refine LE.p (v := (Value.bool (decide (x4 < (p0.len : Int))))) (Wn.no rfl) rfl (R.lss f17 f16) ?_
    refine LE.nil ?_
    refine WE.seq ?_
    refine WE.condT rfl (b := (decide (x4 < (p0.len : Int)))) rfl ?_ ?_
    · intro hb18
      replace h := M.ite_t h hb18
      refine WE.skip ?_
      refine WE.seq ?_
      refine WE.block ?_
      refine WE.seq ?_
      refine WE.reg ?_
      obtain ⟨a19, h20, h21, h22, h⟩ := h
      refine LE.p (v := (Value.pointer (some (a19.add (x4.toNat * 2))))) (Wn.no rfl) rfl (R.idx (s := p0) sl24 f15 f17 h20 h21 h22) ?_
      obtain ⟨t23, h24, h⟩ := h
      obtain ⟨t25, h26, h⟩ := h
      refine LE.r (v := (Value.agg #[(Value.int .i64 t23), (SV.v t25)])) (Wn.no rfl) rfl (R.ldA ag27 sz27 rfl rfl (Cs.cons h24 (Cs.cons h26 Cs.nil))) ?_
      obtain ⟨b28, hpb28, w27, hww27, h⟩ := M.new_use h
      refine LE.r (v := (Value.pointer (some b28))) (Wn.no rfl) rfl (R.alloc (cs := #[(Value.int .i64 (0 : Int)), (SV.v SV.nil)]) ze27 rfl hpb28 hww27) ?_
      obtain ⟨w29, hww29, h30, h⟩ := M.stA_use h
      refine LE.s (Wn.no rfl) rfl (R.stA (a := b28) [(Value.int .i64 t23), (SV.v t25)] sz27 rfl rfl rfl (by simp [Value.oneCell']) h30 hww29) ?_
      refine LE.nil ?_
      refine WE.seq ?_
      refine WE.reg ?_
      refine LE.p (v := (Value.pointer (some (b28.add 1)))) (Wn.no rfl) rfl (R.fld (off := 1) fa27_1 rfl) ?_
      obtain ⟨t31, h32, h⟩ := h
      refine LE.r (v := (SV.v t31)) (Wn.no rfl) rfl (R.ld sc25 rfl h32) ?_
      refine LE.p (v := (Value.int .i64 (t31.len : Int))) (Wn.no rfl) rfl (R.len sl25 rfl) ?_
      refine LE.p (v := (Value.int .i64 (0 : Int))) (Wn.no rfl) rfl (R.move rfl) ?_
      refine LE.nil ?_
      refine WE.block ?_
      obtain ⟨I39, ⟨n38, h⟩, hr40⟩ := h
      refine WE.loop (fun n e w => ∃ (x33 : Bool) (x34 : Int), I39 n x33 x34 w ∧ e 1 = (Value.int .u32 p1) ∧ e 5 = (Value.bool x33) ∧ e 10 = (SV.v p0) ∧ e 11 = (Value.int .i64 (p0.len : Int)) ∧ e 12 = (Value.int .i64 x4) ∧ e 17 = (SV.v t31) ∧ e 18 = (Value.int .i64 (t31.len : Int)) ∧ e 19 = (Value.int .i64 x34)) n38 ⟨_, _, h, f13, f14, f15, f16, f17, rfl, rfl, rfl⟩ ?_
      clear h
      rintro n38 e37 w36 ⟨x33, x34, h, f43, f44, f45, f46, f47, f48, f49, f50⟩
      replace h := hr40 n38 x33 x34 w36 h
      refine WE.seq ?_
      refine WE.reg ?_
      refine LE.p (v := (Value.bool (decide (x34 < (t31.len : Int))))) (Wn.no rfl) rfl (R.lss f50 f49) ?_
      refine LE.nil ?_
      refine WE.seq ?_
      refine WE.condT rfl (b := (decide (x34 < (t31.len : Int)))) rfl ?_ ?_
      · intro hb51
        replace h := M.ite_t h hb51
        refine WE.skip ?_
        refine WE.seq ?_
        refine WE.block ?_
        refine WE.seq ?_
        refine WE.reg ?_
        obtain ⟨a52, h53, h54, h55, h⟩ := h
        refine LE.p (v := (Value.pointer (some (a52.add (x34.toNat * 1))))) (Wn.no rfl) rfl (R.idx (s := t31) sl25 f48 f50 h53 h54 h55) ?_
        obtain ⟨t56, h57, h⟩ := h
        refine LE.r (v := (Value.int .u32 t56)) (Wn.no rfl) rfl (R.ld sc23 rfl h57) ?_
        refine LE.p (v := (Value.int .u32 t56)) (Wn.no rfl) rfl (R.assign rfl) ?_
        refine LE.nil ?_
        refine WE.seq ?_
        refine WE.reg ?_
        refine LE.p (v := (Value.int .u32 t56)) (Wn.no rfl) rfl (R.move rfl) ?_
        refine LE.p (v := (Value.int .u32 p1)) (Wn.no rfl) rfl (R.move f43) ?_
        refine LE.p (v := (Value.bool (t56 == p1))) (Wn.no rfl) rfl (R.eql rfl rfl) ?_
        refine LE.nil ?_
        refine WE.condT rfl (b := (t56 == p1)) rfl ?_ ?_
        · intro hb58
          replace h := M.ite_t h hb58
          refine WE.seq ?_
          refine WE.reg ?_
          refine LE.p (v := (Value.bool true)) (Wn.no rfl) rfl (R.assign rfl) ?_
          refine LE.nil ?_
          refine WE.exit ?_
          exact ⟨_, h, rfl⟩
        · intro hb58
          replace h := M.ite_f h hb58
          refine WE.skip ?_
          refine WE.reg ?_
          refine LE.p (v := (Value.int .i64 (IntKind.i64.wrap (x34 + (1 : Int))))) (Wn.no rfl) rfl (R.add f50 rfl) ?_
          refine LE.p (v := (Value.int .i64 (IntKind.i64.wrap (x34 + (1 : Int))))) (Wn.no rfl) rfl (R.move rfl) ?_
          refine LE.nil ?_
          obtain ⟨m41, hm42, h⟩ := h
          exact ⟨m41, hm42, _, _, h, f43, f44, f45, f46, f47, f48, f49, rfl⟩
      · intro hb51
        replace h := M.ite_f h hb51
        refine WE.exit ?_
        refine WE.reg ?_
        refine LE.p (v := (Value.int .i64 (IntKind.i64.wrap (x4 + (1 : Int))))) (Wn.no rfl) rfl (R.add f47 rfl) ?_
        refine LE.p (v := (Value.int .i64 (IntKind.i64.wrap (x4 + (1 : Int))))) (Wn.no rfl) rfl (R.move rfl) ?_
        refine LE.nil ?_
        obtain ⟨m11, hm12, h⟩ := h
        exact ⟨m11, hm12, _, _, h, f43, f44, f45, f46, rfl⟩
    · intro hb18
      replace h := M.ite_f h hb18
      refine WE.exit ?_
      exact ⟨_, h, f14⟩
  · rintro e59 w60 ⟨x2, h, f61⟩
    subst hJ1
    refine WE.seq ?_
    refine WE.reg ?_
    refine LE.p (v := (Value.bool x2)) (Wn.no rfl) rfl (R.move f61) ?_
    refine LE.p (v := (Value.bool x2)) (Wn.no rfl) rfl (R.assign rfl) ?_
    refine LE.nil ?_
    refine WE.ret ?_
    exact ⟨_, (Res.tmp rfl Res.nil), _, rfl, h⟩
/-- The formula of signpost.aspath.Less. -/
def F17 (p0 : SV) (p1 : SV) (K : Bool → World → Prop) (w0 : World) : Prop :=
Calls Try.prog 31 #[(SV.v p0), (SV.v p1)] w0 (R31 fun r1 w2 =>
K (decide (r1 < (0 : Int))) w2)
theorem F17_ok {w0 : World} {p0 : SV} {p1 : SV} {K : Bool → World → Prop} (h : F17 p0 p1 K w0) : Calls Try.prog 17 #[(SV.v p0), (SV.v p1)] w0 (R17 K) := by
  refine calls_of_WE (args := [(SV.v p0), (SV.v p1)]) (rs := [.tmp 4]) Try.func17 rfl (N := 9) rfl rfl rfl rfl ?_
  refine WE.seq ?_
  refine WE.reg ?_
  refine LE.p (v := (Value.bool false)) (Wn.no rfl) rfl (R.assign rfl) ?_
  refine LE.nil ?_
  refine WE.seq ?_
  refine WE.reg ?_
  refine LE.p (v := (SV.v p0)) (Wn.no rfl) rfl (R.move rfl) ?_
  refine LE.p (v := (SV.v p1)) (Wn.no rfl) rfl (R.move rfl) ?_
  refine LE.c (Wn.no rfl) rfl (R.call bd31 (Ls.cons rfl (Ls.cons rfl Ls.nil)) rfl) (Calls.mono h ?_)
  rintro _ w2 ⟨r1, rfl, h⟩
  refine ⟨_, rfl, ?_⟩
  refine LE.p (v := (Value.bool (decide (r1 < (0 : Int))))) (Wn.no rfl) rfl (R.lss rfl rfl) ?_
  refine LE.p (v := (Value.bool (decide (r1 < (0 : Int))))) (Wn.no rfl) rfl (R.assign rfl) ?_
  refine LE.nil ?_
  refine WE.ret ?_
  exact ⟨_, (Res.tmp rfl Res.nil), _, rfl, h⟩
/-- The formula of signpost.aspath.Same. -/
def F18 (p0 : SV) (p1 : SV) (K : Bool → World → Prop) (w0 : World) : Prop :=
Calls Try.prog 31 #[(SV.v p0), (SV.v p1)] w0 (R31 fun r1 w2 =>
K (r1 == (0 : Int)) w2)
theorem F18_ok {w0 : World} {p0 : SV} {p1 : SV} {K : Bool → World → Prop} (h : F18 p0 p1 K w0) : Calls Try.prog 18 #[(SV.v p0), (SV.v p1)] w0 (R18 K) := by
  refine calls_of_WE (args := [(SV.v p0), (SV.v p1)]) (rs := [.tmp 4]) Try.func18 rfl (N := 9) rfl rfl rfl rfl ?_
  refine WE.seq ?_
  refine WE.reg ?_
  refine LE.p (v := (Value.bool false)) (Wn.no rfl) rfl (R.assign rfl) ?_
  refine LE.nil ?_
  refine WE.seq ?_
  refine WE.reg ?_
  refine LE.p (v := (SV.v p0)) (Wn.no rfl) rfl (R.move rfl) ?_
  refine LE.p (v := (SV.v p1)) (Wn.no rfl) rfl (R.move rfl) ?_
  refine LE.c (Wn.no rfl) rfl (R.call bd31 (Ls.cons rfl (Ls.cons rfl Ls.nil)) rfl) (Calls.mono h ?_)
  rintro _ w2 ⟨r1, rfl, h⟩
  refine ⟨_, rfl, ?_⟩
  refine LE.p (v := (Value.bool (r1 == (0 : Int)))) (Wn.no rfl) rfl (R.eql rfl rfl) ?_
  refine LE.p (v := (Value.bool (r1 == (0 : Int)))) (Wn.no rfl) rfl (R.assign rfl) ?_
  refine LE.nil ?_
  refine WE.ret ?_
  exact ⟨_, (Res.tmp rfl Res.nil), _, rfl, h⟩
/-- The formula of signpost.aspath.Encode. -/
def F19 (p0 : SV) (K : SV → Int → World → Prop) (w0 : World) : Prop :=
Calls Try.prog 12 #[(SV.v p0)] w0 (R12 fun r1 w2 =>
M.ite (!r1) (
K SV.nil (12 : Int) w2) (
Calls Try.prog 32 #[] w2 (R32 fun r4 w5 =>
M.loop1 (fun (J7 : Int → World → Prop) (x6 : Int) (w8 : World) => 
M.ite (decide (x6 < (p0.len : Int))) (
M.idx p0 x6 2 fun a20 =>
M.ld (Value.int .i64) (a20.add (x6.toNat * 2)) w8 fun t24 =>
M.ld SV.v ((a20.add (x6.toNat * 2)).add 1) w8 fun t26 =>
M.new (.cells #[(Value.int .i64 (0 : Int)), (SV.v SV.nil)] 27) w8 fun b29 w28 =>
M.stA b29 [(Value.int .i64 t24), (SV.v t26)] w28 fun w30 =>
M.ld (Value.int .i64) b29 w30 fun t32 =>
Calls Try.prog 33 #[(Value.pointer r4), (Value.int .i64 t32)] w30 (R33 fun w34 =>
M.ld SV.v (b29.add 1) w34 fun t35 =>
Calls Try.prog 33 #[(Value.pointer r4), (Value.int .i64 (t35.len : Int))] w34 (R33 fun w37 =>
M.ld SV.v (b29.add 1) w37 fun t38 =>
M.loop1 (fun (J41 : Int → World → Prop) (x40 : Int) (w42 : World) => 
M.ite (decide (x40 < (t38.len : Int))) (
M.idx t38 x40 1 fun a57 =>
M.ld (Value.int .u32) (a57.add (x40.toNat * 1)) w42 fun t61 =>
Calls Try.prog 34 #[(Value.pointer r4), (Value.int .u32 t61)] w42 (R34 fun w63 =>
J41 (IntKind.i64.wrap (x40 + (1 : Int))) w63)) (
J7 (IntKind.i64.wrap (x6 + (1 : Int))) w42)) (0 : Int) w37))) (
Calls Try.prog 35 #[(Value.pointer r4)] w8 (R35 fun r64 w65 =>
K r64 (0 : Int) w65))) (0 : Int) w5)))
theorem F19_ok {w0 : World} {p0 : SV} {K : SV → Int → World → Prop} (h : F19 p0 K w0) : Calls Try.prog 19 #[(SV.v p0)] w0 (R19 K) := by
  refine calls_of_WE (args := [(SV.v p0)]) (rs := [.tmp 2, .tmp 3]) Try.func19 rfl (N := 42) rfl rfl rfl rfl ?_
  refine WE.seq ?_
  refine WE.reg ?_
  refine LE.p (v := (SV.v SV.nil)) (Wn.no rfl) rfl (R.assign rfl) ?_
  refine LE.p (v := (Value.int .i64 (0 : Int))) (Wn.no rfl) rfl (R.assign rfl) ?_
  refine LE.nil ?_
  refine WE.seq ?_
  refine WE.seq ?_
  refine WE.reg ?_
  refine LE.p (v := (SV.v p0)) (Wn.no rfl) rfl (R.move rfl) ?_
  refine LE.c (Wn.no rfl) rfl (R.call bd12 (Ls.cons rfl Ls.nil) rfl) (Calls.mono h ?_)
  rintro _ w2 ⟨r1, rfl, h⟩
  refine ⟨_, rfl, ?_⟩
  refine LE.p (v := (Value.bool (!r1))) (Wn.no rfl) rfl (R.not rfl) ?_
  refine LE.nil ?_
  refine WE.condT rfl (b := (!r1)) rfl ?_ ?_
  · intro hb3
    replace h := M.ite_t h hb3
    refine WE.seq ?_
    refine WE.reg ?_
    refine LE.p (v := (SV.v SV.nil)) (Wn.no rfl) rfl (R.assign rfl) ?_
    refine LE.p (v := (Value.int .i64 (12 : Int))) (Wn.no rfl) rfl (R.assign rfl) ?_
    refine LE.nil ?_
    refine WE.ret ?_
    exact ⟨_, (Res.tmp rfl (Res.tmp rfl Res.nil)), _, _, rfl, h⟩
  · intro hb3
    replace h := M.ite_f h hb3
    refine WE.skip ?_
    refine WE.seq ?_
    refine WE.reg ?_
    refine LE.c (Wn.no rfl) rfl (R.call bd32 Ls.nil rfl) (Calls.mono h ?_)
    rintro _ w5 ⟨r4, rfl, h⟩
    refine ⟨_, rfl, ?_⟩
    refine LE.p (v := (Value.pointer r4)) (Wn.no rfl) rfl (R.assign rfl) ?_
    refine LE.nil ?_
    refine WE.seq ?_
    refine WE.seq ?_
    refine WE.reg ?_
    refine LE.p (v := (SV.v p0)) (Wn.no rfl) rfl (R.move rfl) ?_
    refine LE.p (v := (Value.int .i64 (p0.len : Int))) (Wn.no rfl) rfl (R.len sl24 rfl) ?_
    refine LE.p (v := (Value.int .i64 (0 : Int))) (Wn.no rfl) rfl (R.move rfl) ?_
    refine LE.nil ?_
    refine WE.block ?_
    obtain ⟨I11, ⟨n10, h⟩, hr12⟩ := h
    refine WE.loop (fun n e w => ∃ (x6 : Int), I11 n x6 w ∧ e 4 = (Value.pointer r4) ∧ e 13 = (SV.v p0) ∧ e 14 = (Value.int .i64 (p0.len : Int)) ∧ e 15 = (Value.int .i64 x6)) n10 ⟨_, h, rfl, rfl, rfl, rfl⟩ ?_
    clear h
    rintro n10 e9 w8 ⟨x6, h, f15, f16, f17, f18⟩
    replace h := hr12 n10 x6 w8 h
    refine WE.seq ?_
    refine WE.reg ?_
    refine LE.p (v := (Value.bool (decide (x6 < (p0.len : Int))))) (Wn.no rfl) rfl (R.lss f18 f17) ?_
    refine LE.nil ?_
    refine WE.seq ?_
    refine WE.condT rfl (b := (decide (x6 < (p0.len : Int)))) rfl ?_ ?_
    · intro hb19
      replace h := M.ite_t h hb19
      refine WE.skip ?_
      refine WE.seq ?_
      refine WE.block ?_
      refine WE.seq ?_
      refine WE.reg ?_
      obtain ⟨a20, h21, h22, h23, h⟩ := h
      refine LE.p (v := (Value.pointer (some (a20.add (x6.toNat * 2))))) (Wn.no rfl) rfl (R.idx (s := p0) sl24 f16 f18 h21 h22 h23) ?_
      obtain ⟨t24, h25, h⟩ := h
      obtain ⟨t26, h27, h⟩ := h
      refine LE.r (v := (Value.agg #[(Value.int .i64 t24), (SV.v t26)])) (Wn.no rfl) rfl (R.ldA ag27 sz27 rfl rfl (Cs.cons h25 (Cs.cons h27 Cs.nil))) ?_
      obtain ⟨b29, hpb29, w28, hww28, h⟩ := M.new_use h
      refine LE.r (v := (Value.pointer (some b29))) (Wn.no rfl) rfl (R.alloc (cs := #[(Value.int .i64 (0 : Int)), (SV.v SV.nil)]) ze27 rfl hpb29 hww28) ?_
      obtain ⟨w30, hww30, h31, h⟩ := M.stA_use h
      refine LE.s (Wn.no rfl) rfl (R.stA (a := b29) [(Value.int .i64 t24), (SV.v t26)] sz27 rfl rfl rfl (by simp [Value.oneCell']) h31 hww30) ?_
      refine LE.nil ?_
      refine WE.seq ?_
      refine WE.reg ?_
      refine LE.p (v := (Value.pointer r4)) (Wn.no rfl) rfl (R.move f15) ?_
      refine LE.p (v := (Value.pointer (some b29))) (Wn.no rfl) rfl (R.fld (off := 0) fa27_0 rfl) ?_
      obtain ⟨t32, h33, h⟩ := h
      refine LE.r (v := (Value.int .i64 t32)) (Wn.no rfl) rfl (R.ld sc3 rfl h33) ?_
      refine LE.c (Wn.no rfl) rfl (R.call bd33 (Ls.cons rfl (Ls.cons rfl Ls.nil)) rfl) (Calls.mono h ?_)
      rintro _ w34 ⟨rfl, h⟩
      refine ⟨_, rfl, ?_⟩
      refine LE.nil ?_
      refine WE.seq ?_
      refine WE.reg ?_
      refine LE.p (v := (Value.pointer r4)) (Wn.no rfl) rfl (R.move f15) ?_
      refine LE.p (v := (Value.pointer (some (b29.add 1)))) (Wn.no rfl) rfl (R.fld (off := 1) fa27_1 rfl) ?_
      obtain ⟨t35, h36, h⟩ := h
      refine LE.r (v := (SV.v t35)) (Wn.no rfl) rfl (R.ld sc25 rfl h36) ?_
      refine LE.p (v := (Value.int .i64 (t35.len : Int))) (Wn.no rfl) rfl (R.len sl25 rfl) ?_
      refine LE.c (Wn.no rfl) rfl (R.call bd33 (Ls.cons rfl (Ls.cons rfl Ls.nil)) rfl) (Calls.mono h ?_)
      rintro _ w37 ⟨rfl, h⟩
      refine ⟨_, rfl, ?_⟩
      refine LE.nil ?_
      refine WE.seq ?_
      refine WE.reg ?_
      refine LE.p (v := (Value.pointer (some (b29.add 1)))) (Wn.no rfl) rfl (R.fld (off := 1) fa27_1 rfl) ?_
      obtain ⟨t38, h39, h⟩ := h
      refine LE.r (v := (SV.v t38)) (Wn.no rfl) rfl (R.ld sc25 rfl h39) ?_
      refine LE.p (v := (Value.int .i64 (t38.len : Int))) (Wn.no rfl) rfl (R.len sl25 rfl) ?_
      refine LE.p (v := (Value.int .i64 (0 : Int))) (Wn.no rfl) rfl (R.move rfl) ?_
      refine LE.nil ?_
      refine WE.block ?_
      obtain ⟨I45, ⟨n44, h⟩, hr46⟩ := h
      refine WE.loop (fun n e w => ∃ (x40 : Int), I45 n x40 w ∧ e 4 = (Value.pointer r4) ∧ e 13 = (SV.v p0) ∧ e 14 = (Value.int .i64 (p0.len : Int)) ∧ e 15 = (Value.int .i64 x6) ∧ e 29 = (SV.v t38) ∧ e 30 = (Value.int .i64 (t38.len : Int)) ∧ e 31 = (Value.int .i64 x40)) n44 ⟨_, h, f15, f16, f17, f18, rfl, rfl, rfl⟩ ?_
      clear h
      rintro n44 e43 w42 ⟨x40, h, f49, f50, f51, f52, f53, f54, f55⟩
      replace h := hr46 n44 x40 w42 h
      refine WE.seq ?_
      refine WE.reg ?_
      refine LE.p (v := (Value.bool (decide (x40 < (t38.len : Int))))) (Wn.no rfl) rfl (R.lss f55 f54) ?_
      refine LE.nil ?_
      refine WE.seq ?_
      refine WE.condT rfl (b := (decide (x40 < (t38.len : Int)))) rfl ?_ ?_
      · intro hb56
        replace h := M.ite_t h hb56
        refine WE.skip ?_
        refine WE.seq ?_
        refine WE.block ?_
        refine WE.seq ?_
        refine WE.reg ?_
        obtain ⟨a57, h58, h59, h60, h⟩ := h
        refine LE.p (v := (Value.pointer (some (a57.add (x40.toNat * 1))))) (Wn.no rfl) rfl (R.idx (s := t38) sl25 f53 f55 h58 h59 h60) ?_
        obtain ⟨t61, h62, h⟩ := h
        refine LE.r (v := (Value.int .u32 t61)) (Wn.no rfl) rfl (R.ld sc23 rfl h62) ?_
        refine LE.p (v := (Value.int .u32 t61)) (Wn.no rfl) rfl (R.assign rfl) ?_
        refine LE.nil ?_
        refine WE.reg ?_
        refine LE.p (v := (Value.pointer r4)) (Wn.no rfl) rfl (R.move f49) ?_
        refine LE.p (v := (Value.int .u32 t61)) (Wn.no rfl) rfl (R.move rfl) ?_
        refine LE.c (Wn.no rfl) rfl (R.call bd34 (Ls.cons rfl (Ls.cons rfl Ls.nil)) rfl) (Calls.mono h ?_)
        rintro _ w63 ⟨rfl, h⟩
        refine ⟨_, rfl, ?_⟩
        refine LE.nil ?_
        refine WE.reg ?_
        refine LE.p (v := (Value.int .i64 (IntKind.i64.wrap (x40 + (1 : Int))))) (Wn.no rfl) rfl (R.add f55 rfl) ?_
        refine LE.p (v := (Value.int .i64 (IntKind.i64.wrap (x40 + (1 : Int))))) (Wn.no rfl) rfl (R.move rfl) ?_
        refine LE.nil ?_
        obtain ⟨m47, hm48, h⟩ := h
        exact ⟨m47, hm48, _, h, f49, f50, f51, f52, f53, f54, rfl⟩
      · intro hb56
        replace h := M.ite_f h hb56
        refine WE.exit ?_
        refine WE.reg ?_
        refine LE.p (v := (Value.int .i64 (IntKind.i64.wrap (x6 + (1 : Int))))) (Wn.no rfl) rfl (R.add f52 rfl) ?_
        refine LE.p (v := (Value.int .i64 (IntKind.i64.wrap (x6 + (1 : Int))))) (Wn.no rfl) rfl (R.move rfl) ?_
        refine LE.nil ?_
        obtain ⟨m13, hm14, h⟩ := h
        exact ⟨m13, hm14, _, h, f49, f50, f51, rfl⟩
    · intro hb19
      replace h := M.ite_f h hb19
      refine WE.exit ?_
      refine WE.seq ?_
      refine WE.reg ?_
      refine LE.p (v := (Value.pointer r4)) (Wn.no rfl) rfl (R.move f15) ?_
      refine LE.c (Wn.no rfl) rfl (R.call bd35 (Ls.cons rfl Ls.nil) rfl) (Calls.mono h ?_)
      rintro _ w65 ⟨r64, rfl, h⟩
      refine ⟨_, rfl, ?_⟩
      refine LE.p (v := (SV.v r64)) (Wn.no rfl) rfl (R.assign rfl) ?_
      refine LE.p (v := (Value.int .i64 (0 : Int))) (Wn.no rfl) rfl (R.assign rfl) ?_
      refine LE.nil ?_
      refine WE.ret ?_
      exact ⟨_, (Res.tmp rfl (Res.tmp rfl Res.nil)), _, _, rfl, h⟩
/-- The formula of signpost.aspath.Decode. -/
def F20 (p0 : SV) (K : SV → Bool → World → Prop) (w0 : World) : Prop :=
Calls Try.prog 36 #[(SV.v p0)] w0 (R36 fun r1 w2 =>
M.loop1 (fun (J4 : SV → World → Prop) (x3 : SV) (w5 : World) => 
Calls Try.prog 37 #[(Value.pointer r1)] w5 (R37 fun r14 w15 =>
M.ite (decide ((0 : Int) < r14)) (
Calls Try.prog 38 #[(Value.pointer r1)] w15 (R38 fun r17 w18 =>
M.new (.cells #[(Value.int .i64 (0 : Int)), (SV.v SV.nil)] 27) w18 fun b20 w19 =>
M.stA b20 [(Value.int .i64 r17), (SV.v SV.nil)] w19 fun w21 =>
Calls Try.prog 38 #[(Value.pointer r1)] w21 (R38 fun r23 w24 =>
Calls Try.prog 37 #[(Value.pointer r1)] w24 (R37 fun r25 w26 =>
M.ite (decide (r25 < (IntKind.i64.wrap (r23 * (4 : Int))))) (
K SV.nil false w26) (
M.loop1 (fun (J29 : Int → World → Prop) (x28 : Int) (w30 : World) => 
M.ite (decide (x28 < r23)) (
M.drew w30 fun w43 => 
M.ld SV.v (b20.add 1) w43 fun t44 =>
Calls Try.prog 39 #[(Value.pointer r1)] w43 (R39 fun r46 w47 =>
M.keep (w47.cell? (b20.add 1) = some (SV.v t44)) <|
M.new (.cells #[(Value.int .u32 r46)] 23) w47 fun b51 w49 =>
M.keep (w49.cell? (b20.add 1) = some (SV.v t44)) <|
M.app Try.prog 25 25 25 t44 (SV.v (SV.mk (some b51) 1 1)) w49 fun s53 w54 =>
M.st (b20.add 1) (SV.v s53) w54 fun w56 =>
J29 (IntKind.i64.wrap (x28 + (1 : Int))) w56)) (
M.ld (Value.int .i64) b20 w30 fun t59 =>
M.ld SV.v (b20.add 1) w30 fun t61 =>
M.new (.cells #[(Value.int .i64 t59), (SV.v t61)] 27) w30 fun b65 w63 =>
M.app Try.prog 24 24 24 x3 (SV.v (SV.mk (some b65) 1 1)) w63 fun s66 w67 =>
J4 s66 w67)) (0 : Int) w26))))) (
M.join (fun (x70 : Bool) (w77 : World) => 
M.ite x70 (
K SV.nil false w77) (
K x3 true w77)) fun J69 => 
Calls Try.prog 40 #[(Value.pointer r1)] w15 (R40 fun r71 w72 =>
M.ite (!r71) (
J69 true w72) (
Calls Try.prog 12 #[(SV.v x3)] w72 (R12 fun r74 w75 =>
J69 (!r74) w75)))))) SV.nil w2)
theorem F20_ok {w0 : World} {p0 : SV} {K : SV → Bool → World → Prop} (h : F20 p0 K w0) : Calls Try.prog 20 #[(SV.v p0)] w0 (R20 K) := by
  refine calls_of_WE (args := [(SV.v p0)]) (rs := [.tmp 2, .tmp 3]) Try.func20 rfl (N := 47) rfl rfl rfl rfl ?_
  refine WE.seq ?_
  refine WE.reg ?_
  refine LE.p (v := (SV.v SV.nil)) (Wn.no rfl) rfl (R.assign rfl) ?_
  refine LE.p (v := (Value.bool false)) (Wn.no rfl) rfl (R.assign rfl) ?_
  refine LE.nil ?_
  refine WE.seq ?_
  refine WE.reg ?_
  refine LE.p (v := (SV.v p0)) (Wn.no rfl) rfl (R.move rfl) ?_
  refine LE.c (Wn.no rfl) rfl (R.call bd36 (Ls.cons rfl Ls.nil) rfl) (Calls.mono h ?_)
  rintro _ w2 ⟨r1, rfl, h⟩
  refine ⟨_, rfl, ?_⟩
  refine LE.p (v := (Value.pointer r1)) (Wn.no rfl) rfl (R.assign rfl) ?_
  refine LE.nil ?_
  refine WE.seq ?_
  refine WE.reg ?_
  refine LE.p (v := (SV.v SV.nil)) (Wn.no rfl) rfl (R.assign rfl) ?_
  refine LE.nil ?_
  refine WE.seq ?_
  refine WE.block ?_
  obtain ⟨I8, ⟨n7, h⟩, hr9⟩ := h
  refine WE.loop (fun n e w => ∃ (x3 : SV), I8 n x3 w ∧ e 4 = (Value.pointer r1) ∧ e 5 = (SV.v x3)) n7 ⟨_, h, rfl, rfl⟩ ?_
  clear h
  rintro n7 e6 w5 ⟨x3, h, f12, f13⟩
  replace h := hr9 n7 x3 w5 h
  refine WE.seq ?_
  refine WE.seq ?_
  refine WE.reg ?_
  refine LE.p (v := (Value.pointer r1)) (Wn.no rfl) rfl (R.move f12) ?_
  refine LE.c (Wn.no rfl) rfl (R.call bd37 (Ls.cons rfl Ls.nil) rfl) (Calls.mono h ?_)
  rintro _ w15 ⟨r14, rfl, h⟩
  refine ⟨_, rfl, ?_⟩
  refine LE.p (v := (Value.bool (decide ((0 : Int) < r14)))) (Wn.no rfl) rfl (R.gtr rfl rfl) ?_
  refine LE.nil ?_
  refine WE.condT rfl (b := (decide ((0 : Int) < r14))) rfl ?_ ?_
  · intro hb16
    replace h := M.ite_t h hb16
    refine WE.skip ?_
    refine WE.block ?_
    refine WE.seq ?_
    refine WE.reg ?_
    refine LE.p (v := (Value.pointer r1)) (Wn.no rfl) rfl (R.move f12) ?_
    refine LE.c (Wn.no rfl) rfl (R.call bd38 (Ls.cons rfl Ls.nil) rfl) (Calls.mono h ?_)
    rintro _ w18 ⟨r17, rfl, h⟩
    refine ⟨_, rfl, ?_⟩
    refine LE.p (v := (Value.agg #[(Value.int .i64 r17), (SV.v SV.nil)])) (Wn.no rfl) rfl (R.bld (by exact (Ls.cons (R.Pr rfl) Ls.nil)) (fun w => bu27_0 r17 w)) ?_
    obtain ⟨b20, hpb20, w19, hww19, h⟩ := M.new_use h
    refine LE.r (v := (Value.pointer (some b20))) (Wn.no rfl) rfl (R.alloc (cs := #[(Value.int .i64 (0 : Int)), (SV.v SV.nil)]) ze27 rfl hpb20 hww19) ?_
    obtain ⟨w21, hww21, h22, h⟩ := M.stA_use h
    refine LE.s (Wn.no rfl) rfl (R.stA (a := b20) [(Value.int .i64 r17), (SV.v SV.nil)] sz27 rfl rfl rfl (by simp [Value.oneCell']) h22 hww21) ?_
    refine LE.nil ?_
    refine WE.seq ?_
    refine WE.reg ?_
    refine LE.p (v := (Value.pointer r1)) (Wn.no rfl) rfl (R.move f12) ?_
    refine LE.c (Wn.no rfl) rfl (R.call bd38 (Ls.cons rfl Ls.nil) rfl) (Calls.mono h ?_)
    rintro _ w24 ⟨r23, rfl, h⟩
    refine ⟨_, rfl, ?_⟩
    refine LE.p (v := (Value.int .i64 r23)) (Wn.no rfl) rfl (R.assign rfl) ?_
    refine LE.nil ?_
    refine WE.seq ?_
    refine WE.seq ?_
    refine WE.reg ?_
    refine LE.p (v := (Value.int .i64 r23)) (Wn.no rfl) rfl (R.move rfl) ?_
    refine LE.p (v := (Value.int .i64 (IntKind.i64.wrap (r23 * (4 : Int))))) (Wn.no rfl) rfl (R.mul rfl rfl) ?_
    refine LE.p (v := (Value.pointer r1)) (Wn.no rfl) rfl (R.move f12) ?_
    refine LE.c (Wn.no rfl) rfl (R.call bd37 (Ls.cons rfl Ls.nil) rfl) (Calls.mono h ?_)
    rintro _ w26 ⟨r25, rfl, h⟩
    refine ⟨_, rfl, ?_⟩
    refine LE.p (v := (Value.bool (decide (r25 < (IntKind.i64.wrap (r23 * (4 : Int))))))) (Wn.no rfl) rfl (R.gtr rfl rfl) ?_
    refine LE.nil ?_
    refine WE.condT rfl (b := (decide (r25 < (IntKind.i64.wrap (r23 * (4 : Int)))))) rfl ?_ ?_
    · intro hb27
      replace h := M.ite_t h hb27
      refine WE.seq ?_
      refine WE.reg ?_
      refine LE.p (v := (SV.v SV.nil)) (Wn.no rfl) rfl (R.assign rfl) ?_
      refine LE.p (v := (Value.bool false)) (Wn.no rfl) rfl (R.assign rfl) ?_
      refine LE.nil ?_
      refine WE.ret ?_
      exact ⟨_, (Res.tmp rfl (Res.tmp rfl Res.nil)), _, _, rfl, h⟩
    · intro hb27
      replace h := M.ite_f h hb27
      refine WE.skip ?_
      refine WE.seq ?_
      refine WE.seq ?_
      refine WE.reg ?_
      refine LE.p (v := (Value.int .i64 r23)) (Wn.no rfl) rfl (R.move rfl) ?_
      refine LE.p (v := (Value.int .i64 (0 : Int))) (Wn.no rfl) rfl (R.move rfl) ?_
      refine LE.nil ?_
      refine WE.block ?_
      obtain ⟨I33, ⟨n32, h⟩, hr34⟩ := h
      refine WE.loop (fun n e w => ∃ (x28 : Int), I33 n x28 w ∧ e 4 = (Value.pointer r1) ∧ e 5 = (SV.v x3) ∧ e 6 = (Value.pointer (some b20)) ∧ e 23 = (Value.int .i64 r23) ∧ e 24 = (Value.int .i64 x28)) n32 ⟨_, h, f12, f13, rfl, rfl, rfl⟩ ?_
      clear h
      rintro n32 e31 w30 ⟨x28, h, f37, f38, f39, f40, f41⟩
      replace h := hr34 n32 x28 w30 h
      refine WE.seq ?_
      refine WE.reg ?_
      refine LE.p (v := (Value.bool (decide (x28 < r23)))) (Wn.no rfl) rfl (R.lss f41 f40) ?_
      refine LE.nil ?_
      refine WE.seq ?_
      refine WE.condT rfl (b := (decide (x28 < r23))) rfl ?_ ?_
      · intro hb42
        replace h := M.ite_t h hb42
        refine WE.skip ?_
        refine WE.seq ?_
        refine WE.block ?_
        refine WE.draw mix ?_
        obtain ⟨w43, hww43, h⟩ := M.drew_use h
        rw [← hww43]
        clear hww43
        refine DE.t 0 (v := (Value.pointer (some (b20.add 1)))) rfl (by kernel_rfl) (Wn.no rfl) rfl (R.fld (off := 1) fa27_1 f39) ?_
        refine DE.t 2 (v := (Value.pointer r1)) rfl (by kernel_rfl) (Wn.no rfl) rfl (R.move f37) ?_
        obtain ⟨t44, h45, h⟩ := h
        refine DE.hold 1 (fun w => w.cell? (b20.add 1) = some (SV.v t44)) (v := (SV.v t44)) rfl (by kernel_rfl) (Wn.no rfl) rfl h45 (fun w hs => R.ld sc25 rfl hs) ?_
        refine DE.main 3 (by kernel_rfl) ?_
        refine One.c 3 rfl (Wn.no rfl) rfl (R.call bd39 (Ls.cons rfl Ls.nil) rfl) (Calls.mono h ?_)
        rintro _ w47 ⟨r46, rfl, h⟩
        obtain ⟨k48, h⟩ := h
        refine ⟨_, rfl, ⟨fun _ => k48, trivial⟩, ?_⟩
        obtain ⟨b51, hpb51, w49, hww49, h⟩ := M.new_use h
        obtain ⟨k52, h⟩ := h
        refine DE.main 4 (by kernel_rfl) ?_
        refine One.r 4 (v := (SV.v (SV.mk (some b51) 1 1))) rfl (Wn.no rfl) rfl (R.bsl (by exact (Ls.cons (R.Pr rfl) Ls.nil)) (fun w => bs25_1 r46 w) hpb51 hww49) (.inr ⟨fun _ => k52, trivial⟩) ?_
        obtain ⟨s53, w54, h55, h⟩ := h
        refine DE.main 5 (by kernel_rfl) ?_
        refine One.r 5 (v := (SV.v s53)) rfl (Wn.no rfl) rfl (R.app (s := t44) (r := s53) rfl rfl h55) (.inr ⟨aftT (by kernel_rfl), trivial⟩) ?_
        refine DE.t 6 (v := (Value.pointer (some (b20.add 1)))) rfl (by kernel_rfl) (Wn.no rfl) rfl (R.fld (off := 1) fa27_1 f39) ?_
        obtain ⟨w56, hww56, h57, h58, h⟩ := M.st_use h
        refine DE.main 7 (by kernel_rfl) ?_
        refine One.s 7 rfl (Wn.no rfl) rfl (R.st (a := (b20.add 1)) (v := (SV.v s53)) sz25 rfl rfl rfl rfl h57 h58 hww56) ⟨aftT (by kernel_rfl), trivial⟩ ?_
        refine DE.done (by kernel_rfl) ?_
        refine WE.reg ?_
        refine LE.p (v := (Value.int .i64 (IntKind.i64.wrap (x28 + (1 : Int))))) (Wn.no rfl) rfl (R.add f41 rfl) ?_
        refine LE.p (v := (Value.int .i64 (IntKind.i64.wrap (x28 + (1 : Int))))) (Wn.no rfl) rfl (R.move rfl) ?_
        refine LE.nil ?_
        obtain ⟨m35, hm36, h⟩ := h
        exact ⟨m35, hm36, _, h, f37, f38, f39, f40, rfl⟩
      · intro hb42
        replace h := M.ite_f h hb42
        refine WE.exit ?_
        refine WE.reg ?_
        refine LE.p (v := (SV.v x3)) (Wn.no rfl) rfl (R.move f38) ?_
        obtain ⟨t59, h60, h⟩ := h
        obtain ⟨t61, h62, h⟩ := h
        refine LE.r (v := (Value.agg #[(Value.int .i64 t59), (SV.v t61)])) (Wn.no rfl) rfl (R.ldA ag27 sz27 f39 rfl (Cs.cons h60 (Cs.cons h62 Cs.nil))) ?_
        obtain ⟨b65, hpb65, w63, hww63, h⟩ := M.new_use h
        refine LE.r (v := (SV.v (SV.mk (some b65) 1 1))) (Wn.no rfl) rfl (R.bsl (by exact (Ls.cons (R.Pr rfl) Ls.nil)) (fun w => bs24_1 t59 t61 w) hpb65 hww63) ?_
        obtain ⟨s66, w67, h68, h⟩ := h
        refine LE.r (v := (SV.v s66)) (Wn.no rfl) rfl (R.app (s := x3) (r := s66) rfl rfl h68) ?_
        refine LE.p (v := (SV.v s66)) (Wn.no rfl) rfl (R.assign rfl) ?_
        refine LE.nil ?_
        obtain ⟨m10, hm11, h⟩ := h
        exact ⟨m10, hm11, _, h, f37, rfl⟩
  · intro hb16
    replace h := M.ite_f h hb16
    refine WE.exit ?_
    refine WE.seq ?_
    refine WE.seq ?_
    obtain ⟨J69, hJ69, h⟩ := M.join_use h
    refine WE.regJ (fun e w => ∃ (x70 : Bool), J69 x70 w ∧ e 5 = (SV.v x3) ∧ e 45 = (Value.bool x70)) ?_ ?_
    · clear hJ69
      refine LE.p (v := (Value.pointer r1)) (Wn.no rfl) rfl (R.move f12) ?_
      refine LE.c (Wn.no rfl) rfl (R.call bd40 (Ls.cons rfl Ls.nil) rfl) (Calls.mono h ?_)
      rintro _ w72 ⟨r71, rfl, h⟩
      refine ⟨_, rfl, ?_⟩
      refine LE.p (v := (Value.bool (!r71))) (Wn.no rfl) rfl (R.not rfl) ?_
      refine LE.p (v := (Value.bool (!r71))) (Wn.no rfl) rfl (R.move rfl) ?_
      rcases M.ite_use h with ⟨hb73, h⟩ | ⟨hb73, h⟩
      · refine LE.u (Un.no 3 41 false rfl rfl rfl (congrArg Value.bool hb73)) ?_
        refine LE.u (Un.no 3 41 false rfl rfl rfl (congrArg Value.bool hb73)) ?_
        refine LE.u (Un.no 3 41 false rfl rfl rfl (congrArg Value.bool hb73)) ?_
        refine LE.p (v := (Value.bool true)) (Wn.no rfl) rfl (R.pickT (congrArg Value.bool hb73) rfl) ?_
        refine LE.nil ?_
        exact ⟨_, h, f13, rfl⟩
      · refine LE.p (v := (SV.v x3)) (Wn.yes 3 41 false rfl rfl rfl (congrArg Value.bool hb73)) rfl (R.move f13) ?_
        refine LE.c (Wn.yes 3 41 false rfl rfl rfl (congrArg Value.bool hb73)) rfl (R.call bd12 (Ls.cons rfl Ls.nil) rfl) (Calls.mono h ?_)
        rintro _ w75 ⟨r74, rfl, h⟩
        refine ⟨_, rfl, ?_⟩
        refine LE.p (v := (Value.bool (!r74))) (Wn.yes 3 41 false rfl rfl rfl (congrArg Value.bool hb73)) rfl (R.not rfl) ?_
        refine LE.p (v := (Value.bool (!r74))) (Wn.no rfl) rfl (R.pickF (congrArg Value.bool hb73) rfl) ?_
        refine LE.nil ?_
        exact ⟨_, h, f13, rfl⟩
    · rintro e76 w77 ⟨x70, h, f78, f79⟩
      subst hJ69
      refine WE.condT rfl (b := x70) f79 ?_ ?_
      · intro hb80
        replace h := M.ite_t h hb80
        refine WE.seq ?_
        refine WE.reg ?_
        refine LE.p (v := (SV.v SV.nil)) (Wn.no rfl) rfl (R.assign rfl) ?_
        refine LE.p (v := (Value.bool false)) (Wn.no rfl) rfl (R.assign rfl) ?_
        refine LE.nil ?_
        refine WE.ret ?_
        exact ⟨_, (Res.tmp rfl (Res.tmp rfl Res.nil)), _, _, rfl, h⟩
      · intro hb80
        replace h := M.ite_f h hb80
        refine WE.skip ?_
        refine WE.seq ?_
        refine WE.reg ?_
        refine LE.p (v := (SV.v x3)) (Wn.no rfl) rfl (R.move f78) ?_
        refine LE.p (v := (SV.v x3)) (Wn.no rfl) rfl (R.assign rfl) ?_
        refine LE.p (v := (Value.bool true)) (Wn.no rfl) rfl (R.assign rfl) ?_
        refine LE.nil ?_
        refine WE.ret ?_
        exact ⟨_, (Res.tmp rfl (Res.tmp rfl Res.nil)), _, _, rfl, h⟩
/-- The formula of signpost.signpostlaw6.segs. -/
def F21 (p0 : SV) (p1 : SV) (K : Bool → World → Prop) (w0 : World) : Prop :=
Calls Try.prog 41 #[(SV.v p0), (SV.v p1)] w0 (R41 fun r1 w2 =>
K (r1 == (0 : Int)) w2)
theorem F21_ok {w0 : World} {p0 : SV} {p1 : SV} {K : Bool → World → Prop} (h : F21 p0 p1 K w0) : Calls Try.prog 21 #[(SV.v p0), (SV.v p1)] w0 (R21 K) := by
  refine calls_of_WE (args := [(SV.v p0), (SV.v p1)]) (rs := [.tmp 4]) Try.func21 rfl (N := 9) rfl rfl rfl rfl ?_
  refine WE.seq ?_
  refine WE.reg ?_
  refine LE.p (v := (Value.bool false)) (Wn.no rfl) rfl (R.assign rfl) ?_
  refine LE.nil ?_
  refine WE.seq ?_
  refine WE.reg ?_
  refine LE.p (v := (SV.v p0)) (Wn.no rfl) rfl (R.move rfl) ?_
  refine LE.p (v := (SV.v p1)) (Wn.no rfl) rfl (R.move rfl) ?_
  refine LE.c (Wn.no rfl) rfl (R.call bd41 (Ls.cons rfl (Ls.cons rfl Ls.nil)) rfl) (Calls.mono h ?_)
  rintro _ w2 ⟨r1, rfl, h⟩
  refine ⟨_, rfl, ?_⟩
  refine LE.p (v := (Value.bool (r1 == (0 : Int)))) (Wn.no rfl) rfl (R.eql rfl rfl) ?_
  refine LE.p (v := (Value.bool (r1 == (0 : Int)))) (Wn.no rfl) rfl (R.assign rfl) ?_
  refine LE.nil ?_
  refine WE.ret ?_
  exact ⟨_, (Res.tmp rfl Res.nil), _, rfl, h⟩
/-- The formula of signpost.signpostkeep.Cut. -/
def F22 (p0 : SV) (p1 : Int) (K : SV → World → Prop) (w0 : World) : Prop :=
M.ite (decide (p1 < (p0.len : Int))) (
M.bnd (0 : Int) p1 p0 <|
K (SV.sub p0 (Int.toNat (0 : Int)) (Int.toNat p1) 1) w0) (
K p0 w0)
theorem F22_ok {w0 : World} {p0 : SV} {p1 : Int} {K : SV → World → Prop} (h : F22 p0 p1 K w0) : Calls Try.prog 22 #[(SV.v p0), (Value.int .i64 p1)] w0 (R22 K) := by
  refine calls_of_WE (args := [(SV.v p0), (Value.int .i64 p1)]) (rs := [.tmp 4]) Try.func22 rfl (N := 13) rfl rfl rfl rfl ?_
  refine WE.seq ?_
  refine WE.reg ?_
  refine LE.p (v := (SV.v SV.nil)) (Wn.no rfl) rfl (R.assign rfl) ?_
  refine LE.nil ?_
  refine WE.seq ?_
  refine WE.seq ?_
  refine WE.reg ?_
  refine LE.p (v := (SV.v p0)) (Wn.no rfl) rfl (R.move rfl) ?_
  refine LE.p (v := (Value.int .i64 (p0.len : Int))) (Wn.no rfl) rfl (R.len sl40 rfl) ?_
  refine LE.p (v := (Value.int .i64 p1)) (Wn.no rfl) rfl (R.move rfl) ?_
  refine LE.p (v := (Value.bool (decide (p1 < (p0.len : Int))))) (Wn.no rfl) rfl (R.gtr rfl rfl) ?_
  refine LE.nil ?_
  refine WE.condT rfl (b := (decide (p1 < (p0.len : Int)))) rfl ?_ ?_
  · intro hb1
    replace h := M.ite_t h hb1
    refine WE.seq ?_
    refine WE.reg ?_
    refine LE.p (v := (SV.v p0)) (Wn.no rfl) rfl (R.move rfl) ?_
    refine LE.p (v := (Value.int .i64 p1)) (Wn.no rfl) rfl (R.move rfl) ?_
    obtain ⟨h2, h3, h4, h⟩ := h
    refine LE.p (v := (SV.v (SV.sub p0 (Int.toNat (0 : Int)) (Int.toNat p1) 1))) (Wn.no rfl) rfl (R.slc (s := p0) (lo := (0 : Int)) (hi := p1) _ _ sl40 rfl rfl rfl h2 h3 h4) ?_
    refine LE.p (v := (SV.v (SV.sub p0 (Int.toNat (0 : Int)) (Int.toNat p1) 1))) (Wn.no rfl) rfl (R.assign rfl) ?_
    refine LE.nil ?_
    refine WE.ret ?_
    exact ⟨_, (Res.tmp rfl Res.nil), _, rfl, h⟩
  · intro hb1
    replace h := M.ite_f h hb1
    refine WE.skip ?_
    refine WE.seq ?_
    refine WE.reg ?_
    refine LE.p (v := (SV.v p0)) (Wn.no rfl) rfl (R.move rfl) ?_
    refine LE.p (v := (SV.v p0)) (Wn.no rfl) rfl (R.assign rfl) ?_
    refine LE.nil ?_
    refine WE.ret ?_
    exact ⟨_, (Res.tmp rfl Res.nil), _, rfl, h⟩
end Go.Proofs.Ytflffabmfoldeaa
