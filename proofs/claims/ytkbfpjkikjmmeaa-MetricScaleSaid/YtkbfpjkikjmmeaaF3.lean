/-
  Printed by gen.py: the formula of each function, and that it holds of the function.
-/
import Derived.Test.YtkbfpjkikjmmeaaTy
namespace Go.Proofs.Ytkbfpjkikjmmeaa
set_option linter.unusedVariables false
set_option linter.unusedSimpArgs false
open Go.Sp
set_option linter.unusedVariables false
/-- The formula of signpost.signpostlaw2.bits. -/
def F21 (p0 : Nat) (p1 : Nat) (K : Bool → World → Prop) (w0 : World) : Prop :=
K ((p0 : Int) == (p1 : Int)) w0
theorem F21_ok {w0 : World} {p0 : Nat} {p1 : Nat} {K : Bool → World → Prop} (h : F21 p0 p1 K w0) : Calls Try.prog 21 #[(Value.float .f64 p0), (Value.float .f64 p1)] w0 (R21 K) := by
  refine calls_of_WE (args := [(Value.float .f64 p0), (Value.float .f64 p1)]) (rs := [.tmp 4]) Try.func21 rfl (N := 10) rfl rfl rfl rfl ?_
  refine WE.seq ?_
  refine WE.reg ?_
  refine LE.p (v := (Value.bool false)) (Wn.no rfl) rfl (R.assign rfl) ?_
  refine LE.nil ?_
  refine WE.seq ?_
  refine WE.reg ?_
  refine LE.p (v := (Value.float .f64 p0)) (Wn.no rfl) rfl (R.move rfl) ?_
  refine LE.p (v := (Value.int .u64 (p0 : Int))) (Wn.no rfl) rfl (R.callx (xt30 p0) (by exact (Ls.cons rfl Ls.nil)) rfl) ?_
  refine LE.p (v := (Value.float .f64 p1)) (Wn.no rfl) rfl (R.move rfl) ?_
  refine LE.p (v := (Value.int .u64 (p1 : Int))) (Wn.no rfl) rfl (R.callx (xt30 p1) (by exact (Ls.cons rfl Ls.nil)) rfl) ?_
  refine LE.p (v := (Value.bool ((p0 : Int) == (p1 : Int)))) (Wn.no rfl) rfl (R.eql rfl rfl) ?_
  refine LE.p (v := (Value.bool ((p0 : Int) == (p1 : Int)))) (Wn.no rfl) rfl (R.assign rfl) ?_
  refine LE.nil ?_
  refine WE.ret ?_
  exact ⟨_, (Res.tmp rfl Res.nil), _, rfl, h⟩
/-- The formula of signpost.signpostref2.Shares. -/
def F22 (p0 : SV) (p1 : Int) (K : SV → World → Prop) (w0 : World) : Prop :=
M.mk Try.prog 24 (Value.int .i64 (p0.len : Int)) (Value.int .i64 (p0.len : Int)) w0 fun s1 w2 =>
M.ite (decide (p1 < (1 : Int))) (
K s1 w2) (
M.join (fun (x6 : Int) (w9 : World) => 
M.mk Try.prog 22 (Value.int .i64 (p0.len : Int)) (Value.int .i64 (p0.len : Int)) w9 fun s13 w14 =>
M.loop2 (fun (J18 : Bool → Int → World → Prop) (x16 : Bool) (x17 : Int) (w19 : World) => 
M.ite (decide (x17 < (p0.len : Int))) (
M.join (fun (w55 : World) => 
M.join (fun (x63 : Bool) (w74 : World) => 
J18 x63 (IntKind.i64.wrap (x17 + (1 : Int))) w74) fun J62 => 
M.ite x16 (
J62 true w55) (
M.idx p0 x17 1 fun a65 =>
M.ld (Value.float .f64) (a65.add (x17.toNat * 1)) w55 fun t69 =>
Calls Try.prog 13 #[(Value.float .f64 t69), (Value.int .i64 (1 : Int))] w55 (R13 fun r71 w72 =>
J62 r71 w72))) fun J33 => 
M.idx p0 x17 1 fun a34 =>
M.ld (Value.float .f64) (a34.add (x17.toNat * 1)) w19 fun t38 =>
M.ite (fGtr t38 (0 : Nat)) (
M.idx p0 x17 1 fun a41 =>
M.ld (Value.float .f64) (a41.add (x17.toNat * 1)) w19 fun t45 =>
M.idx s13 x17 1 fun a47 =>
M.st (a47.add (x17.toNat * 1)) (Value.float .f64 t45) w19 fun w51 =>
J33 w51) (
J33 w19)) (
M.loop1 (fun (J82 : Int → World → Prop) (x81 : Int) (w83 : World) => 
M.join (fun (x96 : Bool) (w99 : World) => 
M.ite x96 (
M.join (fun (w132 : World) => 
J82 (IntKind.i64.wrap (x81 + (1 : Int))) w132) fun J107 => 
M.idx s13 x81 1 fun a108 =>
M.ld (Value.float .f64) (a108.add (x81.toNat * 1)) w99 fun t112 =>
Calls Try.prog 13 #[(Value.float .f64 t112), (Value.int .i64 (1 : Int))] w99 (R13 fun r114 w115 =>
M.ite r114 (
M.idx s13 x81 1 fun a117 =>
M.st (a117.add (x81.toNat * 1)) (Value.float .f64 (4607182418800017408 : Nat)) w115 fun w121 =>
J107 w121) (
M.idx s13 x81 1 fun a124 =>
M.st (a124.add (x81.toNat * 1)) (Value.float .f64 (0 : Nat)) w115 fun w128 =>
J107 w128))) (
Calls Try.prog 41 #[(SV.v s13)] w99 (R41 fun r138 w139 =>
M.mk Try.prog 51 (Value.int .i64 (s13.len : Int)) (Value.int .i64 (s13.len : Int)) w139 fun s140 w141 =>
M.loop2 (fun (J145 : Bool → Int → World → Prop) (x143 : Bool) (x144 : Int) (w146 : World) => 
M.ite (decide (x144 < (s13.len : Int))) (
M.idx s13 x144 1 fun a161 =>
M.ld (Value.float .f64) (a161.add (x144.toNat * 1)) w146 fun t165 =>
M.idx s140 x144 1 fun a167 =>
M.st (a167.add (x144.toNat * 1)) (Value.bool (fGtr t165 (0 : Nat))) w146 fun w171 =>
M.join (fun (x175 : Bool) (w184 : World) => 
J145 x175 (IntKind.i64.wrap (x144 + (1 : Int))) w184) fun J174 => 
M.ite x143 (
J174 true w171) (
M.idx s140 x144 1 fun a177 =>
M.ld Value.bool (a177.add (x144.toNat * 1)) w171 fun t181 =>
J174 t181 w171)) (
M.ite (!x143) (
K s1 w146) (
M.join (fun (x194 : Nat) (w247 : World) => 
M.loop2 (fun (J255 : Int → Int → World → Prop) (x253 : Int) (x254 : Int) (w256 : World) => 
M.ite (decide (x254 < (s13.len : Int))) (
M.idx s13 x254 1 fun a271 =>
M.ld (Value.float .f64) (a271.add (x254.toNat * 1)) w256 fun t275 =>
M.fl .quo t275 x194 fun r277 =>
M.fl .mul r277 (fOfInt x6) fun r279 =>
M.f2i r279 .i64 fun r281 =>
M.idx s1 x254 1 fun a283 =>
M.st (a283.add (x254.toNat * 1)) (Value.int .i64 r281) w256 fun w287 =>
M.join (fun (w306 : World) => 
M.idx s1 x254 1 fun a314 =>
M.ld (Value.int .i64) (a314.add (x254.toNat * 1)) w306 fun t318 =>
J255 (IntKind.i64.wrap (x253 - t318)) (IntKind.i64.wrap (x254 + (1 : Int))) w306) fun J290 => 
M.idx s1 x254 1 fun a291 =>
M.ld (Value.int .i64) (a291.add (x254.toNat * 1)) w287 fun t295 =>
M.ite (decide (x6 < t295)) (
M.idx s1 x254 1 fun a298 =>
M.st (a298.add (x254.toNat * 1)) (Value.int .i64 x6) w287 fun w302 =>
J290 w302) (
J290 w287)) (
M.loop2 (fun (J322 : Int → Int → World → Prop) (x320 : Int) (x321 : Int) (w323 : World) => 
M.join (fun (x336 : Bool) (w339 : World) => 
M.ite x336 (
M.join (fun (x348 : Int) (w370 : World) => 
J322 x348 (IntKind.i64.wrap (x321 + (1 : Int))) w370) fun J347 => 
M.idx s140 x321 1 fun a349 =>
M.ld Value.bool (a349.add (x321.toNat * 1)) w339 fun t353 =>
M.ite t353 (
M.idx s1 x321 1 fun a356 =>
M.ld (Value.int .i64) (a356.add (x321.toNat * 1)) w339 fun t360 =>
M.idx s1 x321 1 fun a362 =>
M.st (a362.add (x321.toNat * 1)) (Value.int .i64 (IntKind.i64.wrap (t360 + (1 : Int)))) w339 fun w366 =>
J347 (IntKind.i64.wrap (x320 - (1 : Int))) w366) (
J347 x320 w339)) (
K s1 w339)) fun J335 => 
M.ite (decide (x321 < (s13.len : Int))) (
J335 (decide ((0 : Int) < x320)) w323) (
J335 false w323)) x253 (0 : Int) w256)) x6 (0 : Int) w247) fun J193 => 
Calls Try.prog 13 #[(Value.float .f64 r138), (Value.int .i64 (1 : Int))] w146 (R13 fun r195 w196 =>
M.ite r195 (
M.loop1 (fun (J199 : Int → World → Prop) (x198 : Int) (w200 : World) => 
M.ite (decide (x198 < (s13.len : Int))) (
M.loop1 (fun (J214 : Int → World → Prop) (x213 : Int) (w215 : World) => 
M.ite (decide (x213 < (64 : Int))) (
M.idx s13 x198 1 fun a229 =>
M.ld (Value.float .f64) (a229.add (x198.toNat * 1)) w215 fun t233 =>
M.fl .quo t233 (4611686018427387904 : Nat) fun r235 =>
M.idx s13 x198 1 fun a237 =>
M.st (a237.add (x198.toNat * 1)) (Value.float .f64 r235) w215 fun w241 =>
J214 (IntKind.i64.wrap (x213 + (1 : Int))) w241) (
J199 (IntKind.i64.wrap (x198 + (1 : Int))) w215)) (0 : Int) w200) (
Calls Try.prog 41 #[(SV.v s13)] w200 (R41 fun r244 w245 =>
J193 r244 w245))) (0 : Int) w196) (
J193 r138 w196))))) false (0 : Int) w141))) fun J95 => 
M.ite (decide (x81 < (s13.len : Int))) (
J95 x16 w83) (
J95 false w83)) (0 : Int) w19)) false (0 : Int) w14) fun J5 => 
M.ite (decide ((1000 : Int) < p1)) (
J5 (1000 : Int) w2) (
J5 p1 w2))
theorem F22_ok {w0 : World} {p0 : SV} {p1 : Int} {K : SV → World → Prop} (h : F22 p0 p1 K w0) : Calls Try.prog 22 #[(SV.v p0), (Value.int .i64 p1)] w0 (R22 K) := by
  refine calls_of_WE (args := [(SV.v p0), (Value.int .i64 p1)]) (rs := [.tmp 4]) Try.func22 rfl (N := 190) rfl rfl rfl rfl ?_
  refine WE.seq ?_
  refine WE.reg ?_
  refine LE.p (v := (SV.v SV.nil)) (Wn.no rfl) rfl (R.assign rfl) ?_
  refine LE.nil ?_
  refine WE.seq ?_
  refine WE.reg ?_
  refine LE.p (v := (SV.v p0)) (Wn.no rfl) rfl (R.move rfl) ?_
  refine LE.p (v := (Value.int .i64 (p0.len : Int))) (Wn.no rfl) rfl (R.len sl22 rfl) ?_
  obtain ⟨s1, w2, h3, h⟩ := h
  refine LE.r (v := (SV.v s1)) (Wn.no rfl) rfl (R.mks rfl rfl h3) ?_
  refine LE.p (v := (SV.v s1)) (Wn.no rfl) rfl (R.assign rfl) ?_
  refine LE.nil ?_
  refine WE.seq ?_
  refine WE.seq ?_
  refine WE.reg ?_
  refine LE.p (v := (Value.int .i64 p1)) (Wn.no rfl) rfl (R.move rfl) ?_
  refine LE.p (v := (Value.bool (decide (p1 < (1 : Int))))) (Wn.no rfl) rfl (R.lss rfl rfl) ?_
  refine LE.nil ?_
  refine WE.condT rfl (b := (decide (p1 < (1 : Int)))) rfl ?_ ?_
  · intro hb4
    replace h := M.ite_t h hb4
    refine WE.seq ?_
    refine WE.reg ?_
    refine LE.p (v := (SV.v s1)) (Wn.no rfl) rfl (R.move rfl) ?_
    refine LE.p (v := (SV.v s1)) (Wn.no rfl) rfl (R.assign rfl) ?_
    refine LE.nil ?_
    refine WE.ret ?_
    exact ⟨_, (Res.tmp rfl Res.nil), _, rfl, h⟩
  · intro hb4
    replace h := M.ite_f h hb4
    refine WE.skip ?_
    obtain ⟨J5, hJ5, h⟩ := M.join_use h
    refine WE.join (fun e w => ∃ (x6 : Int), J5 x6 w ∧ e 0 = (SV.v p0) ∧ e 1 = (Value.int .i64 x6) ∧ e 5 = (SV.v s1)) ?_ ?_
    · clear hJ5
      refine WE.seq ?_
      refine WE.reg ?_
      refine LE.p (v := (Value.int .i64 p1)) (Wn.no rfl) rfl (R.move rfl) ?_
      refine LE.p (v := (Value.bool (decide ((1000 : Int) < p1)))) (Wn.no rfl) rfl (R.gtr rfl rfl) ?_
      refine LE.nil ?_
      refine WE.condT rfl (b := (decide ((1000 : Int) < p1))) rfl ?_ ?_
      · intro hb7
        replace h := M.ite_t h hb7
        refine WE.reg ?_
        refine LE.p (v := (Value.int .i64 (1000 : Int))) (Wn.no rfl) rfl (R.assign rfl) ?_
        refine LE.nil ?_
        exact ⟨_, h, rfl, rfl, rfl⟩
      · intro hb7
        replace h := M.ite_f h hb7
        refine WE.skip ?_
        exact ⟨_, h, rfl, rfl, rfl⟩
    · rintro e8 w9 ⟨x6, h, f10, f11, f12⟩
      subst hJ5
      refine WE.seq ?_
      refine WE.reg ?_
      refine LE.p (v := (SV.v p0)) (Wn.no rfl) rfl (R.move f10) ?_
      refine LE.p (v := (Value.int .i64 (p0.len : Int))) (Wn.no rfl) rfl (R.len sl22 rfl) ?_
      obtain ⟨s13, w14, h15, h⟩ := h
      refine LE.r (v := (SV.v s13)) (Wn.no rfl) rfl (R.mks rfl rfl h15) ?_
      refine LE.p (v := (SV.v s13)) (Wn.no rfl) rfl (R.assign rfl) ?_
      refine LE.nil ?_
      refine WE.seq ?_
      refine WE.reg ?_
      refine LE.p (v := (Value.bool false)) (Wn.no rfl) rfl (R.assign rfl) ?_
      refine LE.nil ?_
      refine WE.seq ?_
      refine WE.seq ?_
      refine WE.reg ?_
      refine LE.p (v := (Value.int .i64 (0 : Int))) (Wn.no rfl) rfl (R.assign rfl) ?_
      refine LE.nil ?_
      refine WE.block ?_
      obtain ⟨I22, ⟨n21, h⟩, hr23⟩ := h
      refine WE.loop (fun n e w => ∃ (x16 : Bool) (x17 : Int), I22 n x16 x17 w ∧ e 0 = (SV.v p0) ∧ e 1 = (Value.int .i64 x6) ∧ e 5 = (SV.v s1) ∧ e 6 = (SV.v s13) ∧ e 7 = (Value.bool x16) ∧ e 8 = (Value.int .i64 x17)) n21 ⟨_, _, h, f10, f11, f12, rfl, rfl, rfl⟩ ?_
      clear h
      rintro n21 e20 w19 ⟨x16, x17, h, f26, f27, f28, f29, f30, f31⟩
      replace h := hr23 n21 x16 x17 w19 h
      refine WE.seq ?_
      refine WE.seq ?_
      refine WE.reg ?_
      refine LE.p (v := (Value.int .i64 x17)) (Wn.no rfl) rfl (R.move f31) ?_
      refine LE.p (v := (SV.v p0)) (Wn.no rfl) rfl (R.move f26) ?_
      refine LE.p (v := (Value.int .i64 (p0.len : Int))) (Wn.no rfl) rfl (R.len sl22 rfl) ?_
      refine LE.p (v := (Value.bool (decide (x17 < (p0.len : Int))))) (Wn.no rfl) rfl (R.lss rfl rfl) ?_
      refine LE.nil ?_
      refine WE.condT rfl (b := (decide (x17 < (p0.len : Int)))) rfl ?_ ?_
      · intro hb32
        replace h := M.ite_t h hb32
        refine WE.skip ?_
        refine WE.seq ?_
        refine WE.block ?_
        obtain ⟨J33, hJ33, h⟩ := M.join_use h
        refine WE.join (fun e w => J33 w ∧ e 0 = (SV.v p0) ∧ e 1 = (Value.int .i64 x6) ∧ e 5 = (SV.v s1) ∧ e 6 = (SV.v s13) ∧ e 7 = (Value.bool x16) ∧ e 8 = (Value.int .i64 x17)) ?_ ?_
        · clear hJ33
          refine WE.seq ?_
          refine WE.reg ?_
          refine LE.p (v := (SV.v p0)) (Wn.no rfl) rfl (R.move f26) ?_
          refine LE.p (v := (Value.int .i64 x17)) (Wn.no rfl) rfl (R.move f31) ?_
          obtain ⟨a34, h35, h36, h37, h⟩ := h
          refine LE.p (v := (Value.pointer (some (a34.add (x17.toNat * 1))))) (Wn.no rfl) rfl (R.idx (s := p0) sl22 rfl rfl h35 h36 h37) ?_
          obtain ⟨t38, h39, h⟩ := h
          refine LE.r (v := (Value.float .f64 t38)) (Wn.no rfl) rfl (R.ld sc26 rfl h39) ?_
          refine LE.p (v := (Value.bool (fGtr t38 (0 : Nat)))) (Wn.no rfl) rfl (R.fgtr rfl rfl) ?_
          refine LE.nil ?_
          refine WE.condT rfl (b := (fGtr t38 (0 : Nat))) rfl ?_ ?_
          · intro hb40
            replace h := M.ite_t h hb40
            refine WE.reg ?_
            refine LE.p (v := (SV.v s13)) (Wn.no rfl) rfl (R.move f29) ?_
            refine LE.p (v := (Value.int .i64 x17)) (Wn.no rfl) rfl (R.move f31) ?_
            refine LE.p (v := (SV.v p0)) (Wn.no rfl) rfl (R.move f26) ?_
            refine LE.p (v := (Value.int .i64 x17)) (Wn.no rfl) rfl (R.move f31) ?_
            obtain ⟨a41, h42, h43, h44, h⟩ := h
            refine LE.p (v := (Value.pointer (some (a41.add (x17.toNat * 1))))) (Wn.no rfl) rfl (R.idx (s := p0) sl22 rfl rfl h42 h43 h44) ?_
            obtain ⟨t45, h46, h⟩ := h
            refine LE.r (v := (Value.float .f64 t45)) (Wn.no rfl) rfl (R.ld sc26 rfl h46) ?_
            obtain ⟨a47, h48, h49, h50, h⟩ := h
            refine LE.p (v := (Value.pointer (some (a47.add (x17.toNat * 1))))) (Wn.no rfl) rfl (R.idx (s := s13) sl22 rfl rfl h48 h49 h50) ?_
            obtain ⟨w51, hww51, h52, h53, h⟩ := M.st_use h
            refine LE.s (Wn.no rfl) rfl (R.st (a := (a47.add (x17.toNat * 1))) (v := (Value.float .f64 t45)) sz26 rfl rfl rfl rfl h52 h53 hww51) ?_
            refine LE.nil ?_
            exact ⟨h, f26, f27, f28, f29, f30, f31⟩
          · intro hb40
            replace h := M.ite_f h hb40
            refine WE.skip ?_
            exact ⟨h, f26, f27, f28, f29, f30, f31⟩
        · rintro e54 w55 ⟨h, f56, f57, f58, f59, f60, f61⟩
          subst hJ33
          obtain ⟨J62, hJ62, h⟩ := M.join_use h
          refine WE.regJ (fun e w => ∃ (x63 : Bool), J62 x63 w ∧ e 0 = (SV.v p0) ∧ e 1 = (Value.int .i64 x6) ∧ e 5 = (SV.v s1) ∧ e 6 = (SV.v s13) ∧ e 7 = (Value.bool x63) ∧ e 8 = (Value.int .i64 x17)) ?_ ?_
          · clear hJ62
            refine LE.p (v := (Value.bool x16)) (Wn.no rfl) rfl (R.move f60) ?_
            refine LE.p (v := (Value.bool x16)) (Wn.no rfl) rfl (R.move rfl) ?_
            rcases M.ite_use h with ⟨hb64, h⟩ | ⟨hb64, h⟩
            · refine LE.u (Un.no 1 51 false rfl rfl rfl (congrArg Value.bool hb64)) ?_
              refine LE.u (Un.no 1 51 false rfl rfl rfl (congrArg Value.bool hb64)) ?_
              refine LE.u (Un.no 1 51 false rfl rfl rfl (congrArg Value.bool hb64)) ?_
              refine LE.u (Un.no 1 51 false rfl rfl rfl (congrArg Value.bool hb64)) ?_
              refine LE.u (Un.no 1 51 false rfl rfl rfl (congrArg Value.bool hb64)) ?_
              refine LE.p (v := (Value.bool true)) (Wn.no rfl) rfl (R.pickT (congrArg Value.bool hb64) rfl) ?_
              refine LE.p (v := (Value.bool true)) (Wn.no rfl) rfl (R.assign rfl) ?_
              refine LE.nil ?_
              exact ⟨_, h, f56, f57, f58, f59, rfl, f61⟩
            · refine LE.p (v := (SV.v p0)) (Wn.yes 1 51 false rfl rfl rfl (congrArg Value.bool hb64)) rfl (R.move f56) ?_
              refine LE.p (v := (Value.int .i64 x17)) (Wn.yes 1 51 false rfl rfl rfl (congrArg Value.bool hb64)) rfl (R.move f61) ?_
              obtain ⟨a65, h66, h67, h68, h⟩ := h
              refine LE.p (v := (Value.pointer (some (a65.add (x17.toNat * 1))))) (Wn.yes 1 51 false rfl rfl rfl (congrArg Value.bool hb64)) rfl (R.idx (s := p0) sl22 rfl rfl h66 h67 h68) ?_
              obtain ⟨t69, h70, h⟩ := h
              refine LE.r (v := (Value.float .f64 t69)) (Wn.yes 1 51 false rfl rfl rfl (congrArg Value.bool hb64)) rfl (R.ld sc26 rfl h70) ?_
              refine LE.c (Wn.yes 1 51 false rfl rfl rfl (congrArg Value.bool hb64)) rfl (R.call bd13 (Ls.cons rfl (Ls.cons rfl Ls.nil)) rfl) (Calls.mono h ?_)
              rintro _ w72 ⟨r71, rfl, h⟩
              refine ⟨_, rfl, ?_⟩
              refine LE.p (v := (Value.bool r71)) (Wn.no rfl) rfl (R.pickF (congrArg Value.bool hb64) rfl) ?_
              refine LE.p (v := (Value.bool r71)) (Wn.no rfl) rfl (R.assign rfl) ?_
              refine LE.nil ?_
              exact ⟨_, h, f56, f57, f58, f59, rfl, f61⟩
          · rintro e73 w74 ⟨x63, h, f75, f76, f77, f78, f79, f80⟩
            subst hJ62
            refine WE.reg ?_
            refine LE.p (v := (Value.int .i64 x17)) (Wn.no rfl) rfl (R.move f80) ?_
            refine LE.p (v := (Value.int .i64 (IntKind.i64.wrap (x17 + (1 : Int))))) (Wn.no rfl) rfl (R.add rfl rfl) ?_
            refine LE.p (v := (Value.int .i64 (IntKind.i64.wrap (x17 + (1 : Int))))) (Wn.no rfl) rfl (R.assign rfl) ?_
            refine LE.nil ?_
            obtain ⟨m24, hm25, h⟩ := h
            exact ⟨m24, hm25, _, _, h, f75, f76, f77, f78, f79, rfl⟩
      · intro hb32
        replace h := M.ite_f h hb32
        refine WE.exit ?_
        refine WE.seq ?_
        refine WE.seq ?_
        refine WE.reg ?_
        refine LE.p (v := (Value.int .i64 (0 : Int))) (Wn.no rfl) rfl (R.assign rfl) ?_
        refine LE.nil ?_
        refine WE.block ?_
        obtain ⟨I86, ⟨n85, h⟩, hr87⟩ := h
        refine WE.loop (fun n e w => ∃ (x81 : Int), I86 n x81 w ∧ e 1 = (Value.int .i64 x6) ∧ e 5 = (SV.v s1) ∧ e 6 = (SV.v s13) ∧ e 7 = (Value.bool x16) ∧ e 9 = (Value.int .i64 x81)) n85 ⟨_, h, f27, f28, f29, f30, rfl⟩ ?_
        clear h
        rintro n85 e84 w83 ⟨x81, h, f90, f91, f92, f93, f94⟩
        replace h := hr87 n85 x81 w83 h
        refine WE.seq ?_
        refine WE.seq ?_
        obtain ⟨J95, hJ95, h⟩ := M.join_use h
        refine WE.regJ (fun e w => ∃ (x96 : Bool), J95 x96 w ∧ e 1 = (Value.int .i64 x6) ∧ e 5 = (SV.v s1) ∧ e 6 = (SV.v s13) ∧ e 7 = (Value.bool x16) ∧ e 9 = (Value.int .i64 x81) ∧ e 64 = (Value.bool x96)) ?_ ?_
        · clear hJ95
          refine LE.p (v := (Value.int .i64 x81)) (Wn.no rfl) rfl (R.move f94) ?_
          refine LE.p (v := (SV.v s13)) (Wn.no rfl) rfl (R.move f92) ?_
          refine LE.p (v := (Value.int .i64 (s13.len : Int))) (Wn.no rfl) rfl (R.len sl22 rfl) ?_
          refine LE.p (v := (Value.bool (decide (x81 < (s13.len : Int))))) (Wn.no rfl) rfl (R.lss rfl rfl) ?_
          refine LE.p (v := (Value.bool (decide (x81 < (s13.len : Int))))) (Wn.no rfl) rfl (R.move rfl) ?_
          rcases M.ite_use h with ⟨hb97, h⟩ | ⟨hb97, h⟩
          · refine LE.p (v := (Value.bool x16)) (Wn.yes 4 62 true rfl rfl rfl (congrArg Value.bool hb97)) rfl (R.move f93) ?_
            refine LE.p (v := (Value.bool x16)) (Wn.no rfl) rfl (R.pickT (congrArg Value.bool hb97) rfl) ?_
            refine LE.nil ?_
            exact ⟨_, h, f90, f91, f92, f93, f94, rfl⟩
          · refine LE.u (Un.no 4 62 true rfl rfl rfl (congrArg Value.bool hb97)) ?_
            refine LE.p (v := (Value.bool false)) (Wn.no rfl) rfl (R.pickF (congrArg Value.bool hb97) rfl) ?_
            refine LE.nil ?_
            exact ⟨_, h, f90, f91, f92, f93, f94, rfl⟩
        · rintro e98 w99 ⟨x96, h, f100, f101, f102, f103, f104, f105⟩
          subst hJ95
          refine WE.condT rfl (b := x96) f105 ?_ ?_
          · intro hb106
            replace h := M.ite_t h hb106
            refine WE.skip ?_
            refine WE.seq ?_
            obtain ⟨J107, hJ107, h⟩ := M.join_use h
            refine WE.blkJ (fun e w => J107 w ∧ e 1 = (Value.int .i64 x6) ∧ e 5 = (SV.v s1) ∧ e 6 = (SV.v s13) ∧ e 7 = (Value.bool x16) ∧ e 9 = (Value.int .i64 x81)) ?_ ?_
            · clear hJ107
              refine WE.seq ?_
              refine WE.reg ?_
              refine LE.p (v := (SV.v s13)) (Wn.no rfl) rfl (R.move f102) ?_
              refine LE.p (v := (Value.int .i64 x81)) (Wn.no rfl) rfl (R.move f104) ?_
              obtain ⟨a108, h109, h110, h111, h⟩ := h
              refine LE.p (v := (Value.pointer (some (a108.add (x81.toNat * 1))))) (Wn.no rfl) rfl (R.idx (s := s13) sl22 rfl rfl h109 h110 h111) ?_
              obtain ⟨t112, h113, h⟩ := h
              refine LE.r (v := (Value.float .f64 t112)) (Wn.no rfl) rfl (R.ld sc26 rfl h113) ?_
              refine LE.c (Wn.no rfl) rfl (R.call bd13 (Ls.cons rfl (Ls.cons rfl Ls.nil)) rfl) (Calls.mono h ?_)
              rintro _ w115 ⟨r114, rfl, h⟩
              refine ⟨_, rfl, ?_⟩
              refine LE.nil ?_
              refine WE.condT rfl (b := r114) rfl ?_ ?_
              · intro hb116
                replace h := M.ite_t h hb116
                refine WE.reg ?_
                refine LE.p (v := (SV.v s13)) (Wn.no rfl) rfl (R.move f102) ?_
                refine LE.p (v := (Value.int .i64 x81)) (Wn.no rfl) rfl (R.move f104) ?_
                obtain ⟨a117, h118, h119, h120, h⟩ := h
                refine LE.p (v := (Value.pointer (some (a117.add (x81.toNat * 1))))) (Wn.no rfl) rfl (R.idx (s := s13) sl22 rfl rfl h118 h119 h120) ?_
                obtain ⟨w121, hww121, h122, h123, h⟩ := M.st_use h
                refine LE.s (Wn.no rfl) rfl (R.st (a := (a117.add (x81.toNat * 1))) (v := (Value.float .f64 (4607182418800017408 : Nat))) sz26 rfl rfl rfl rfl h122 h123 hww121) ?_
                refine LE.nil ?_
                exact ⟨h, f100, f101, f102, f103, f104⟩
              · intro hb116
                replace h := M.ite_f h hb116
                refine WE.reg ?_
                refine LE.p (v := (SV.v s13)) (Wn.no rfl) rfl (R.move f102) ?_
                refine LE.p (v := (Value.int .i64 x81)) (Wn.no rfl) rfl (R.move f104) ?_
                obtain ⟨a124, h125, h126, h127, h⟩ := h
                refine LE.p (v := (Value.pointer (some (a124.add (x81.toNat * 1))))) (Wn.no rfl) rfl (R.idx (s := s13) sl22 rfl rfl h125 h126 h127) ?_
                obtain ⟨w128, hww128, h129, h130, h⟩ := M.st_use h
                refine LE.s (Wn.no rfl) rfl (R.st (a := (a124.add (x81.toNat * 1))) (v := (Value.float .f64 (0 : Nat))) sz26 rfl rfl rfl rfl h129 h130 hww128) ?_
                refine LE.nil ?_
                exact ⟨h, f100, f101, f102, f103, f104⟩
            · rintro e131 w132 ⟨h, f133, f134, f135, f136, f137⟩
              subst hJ107
              refine WE.reg ?_
              refine LE.p (v := (Value.int .i64 x81)) (Wn.no rfl) rfl (R.move f137) ?_
              refine LE.p (v := (Value.int .i64 (IntKind.i64.wrap (x81 + (1 : Int))))) (Wn.no rfl) rfl (R.add rfl rfl) ?_
              refine LE.p (v := (Value.int .i64 (IntKind.i64.wrap (x81 + (1 : Int))))) (Wn.no rfl) rfl (R.assign rfl) ?_
              refine LE.nil ?_
              obtain ⟨m88, hm89, h⟩ := h
              exact ⟨m88, hm89, _, h, f133, f134, f135, f136, rfl⟩
          · intro hb106
            replace h := M.ite_f h hb106
            refine WE.exit ?_
            refine WE.seq ?_
            refine WE.reg ?_
            refine LE.p (v := (SV.v s13)) (Wn.no rfl) rfl (R.move f102) ?_
            refine LE.c (Wn.no rfl) rfl (R.call bd41 (Ls.cons rfl Ls.nil) rfl) (Calls.mono h ?_)
            rintro _ w139 ⟨r138, rfl, h⟩
            refine ⟨_, rfl, ?_⟩
            refine LE.p (v := (Value.float .f64 r138)) (Wn.no rfl) rfl (R.assign rfl) ?_
            refine LE.nil ?_
            refine WE.seq ?_
            refine WE.reg ?_
            refine LE.p (v := (SV.v s13)) (Wn.no rfl) rfl (R.move f102) ?_
            refine LE.p (v := (Value.int .i64 (s13.len : Int))) (Wn.no rfl) rfl (R.len sl22 rfl) ?_
            obtain ⟨s140, w141, h142, h⟩ := h
            refine LE.r (v := (SV.v s140)) (Wn.no rfl) rfl (R.mks rfl rfl h142) ?_
            refine LE.p (v := (SV.v s140)) (Wn.no rfl) rfl (R.assign rfl) ?_
            refine LE.nil ?_
            refine WE.seq ?_
            refine WE.reg ?_
            refine LE.p (v := (Value.bool false)) (Wn.no rfl) rfl (R.assign rfl) ?_
            refine LE.nil ?_
            refine WE.seq ?_
            refine WE.seq ?_
            refine WE.reg ?_
            refine LE.p (v := (Value.int .i64 (0 : Int))) (Wn.no rfl) rfl (R.assign rfl) ?_
            refine LE.nil ?_
            refine WE.block ?_
            obtain ⟨I149, ⟨n148, h⟩, hr150⟩ := h
            refine WE.loop (fun n e w => ∃ (x143 : Bool) (x144 : Int), I149 n x143 x144 w ∧ e 1 = (Value.int .i64 x6) ∧ e 5 = (SV.v s1) ∧ e 6 = (SV.v s13) ∧ e 10 = (Value.float .f64 r138) ∧ e 11 = (SV.v s140) ∧ e 12 = (Value.bool x143) ∧ e 13 = (Value.int .i64 x144)) n148 ⟨_, _, h, f100, f101, f102, rfl, rfl, rfl, rfl⟩ ?_
            clear h
            rintro n148 e147 w146 ⟨x143, x144, h, f153, f154, f155, f156, f157, f158, f159⟩
            replace h := hr150 n148 x143 x144 w146 h
            refine WE.seq ?_
            refine WE.seq ?_
            refine WE.reg ?_
            refine LE.p (v := (Value.int .i64 x144)) (Wn.no rfl) rfl (R.move f159) ?_
            refine LE.p (v := (SV.v s13)) (Wn.no rfl) rfl (R.move f155) ?_
            refine LE.p (v := (Value.int .i64 (s13.len : Int))) (Wn.no rfl) rfl (R.len sl22 rfl) ?_
            refine LE.p (v := (Value.bool (decide (x144 < (s13.len : Int))))) (Wn.no rfl) rfl (R.lss rfl rfl) ?_
            refine LE.nil ?_
            refine WE.condT rfl (b := (decide (x144 < (s13.len : Int)))) rfl ?_ ?_
            · intro hb160
              replace h := M.ite_t h hb160
              refine WE.skip ?_
              refine WE.seq ?_
              refine WE.block ?_
              refine WE.seq ?_
              refine WE.reg ?_
              refine LE.p (v := (SV.v s140)) (Wn.no rfl) rfl (R.move f157) ?_
              refine LE.p (v := (Value.int .i64 x144)) (Wn.no rfl) rfl (R.move f159) ?_
              refine LE.p (v := (SV.v s13)) (Wn.no rfl) rfl (R.move f155) ?_
              refine LE.p (v := (Value.int .i64 x144)) (Wn.no rfl) rfl (R.move f159) ?_
              obtain ⟨a161, h162, h163, h164, h⟩ := h
              refine LE.p (v := (Value.pointer (some (a161.add (x144.toNat * 1))))) (Wn.no rfl) rfl (R.idx (s := s13) sl22 rfl rfl h162 h163 h164) ?_
              obtain ⟨t165, h166, h⟩ := h
              refine LE.r (v := (Value.float .f64 t165)) (Wn.no rfl) rfl (R.ld sc26 rfl h166) ?_
              refine LE.p (v := (Value.bool (fGtr t165 (0 : Nat)))) (Wn.no rfl) rfl (R.fgtr rfl rfl) ?_
              obtain ⟨a167, h168, h169, h170, h⟩ := h
              refine LE.p (v := (Value.pointer (some (a167.add (x144.toNat * 1))))) (Wn.no rfl) rfl (R.idx (s := s140) sl51 rfl rfl h168 h169 h170) ?_
              obtain ⟨w171, hww171, h172, h173, h⟩ := M.st_use h
              refine LE.s (Wn.no rfl) rfl (R.st (a := (a167.add (x144.toNat * 1))) (v := (Value.bool (fGtr t165 (0 : Nat)))) sz4 rfl rfl rfl rfl h172 h173 hww171) ?_
              refine LE.nil ?_
              obtain ⟨J174, hJ174, h⟩ := M.join_use h
              refine WE.regJ (fun e w => ∃ (x175 : Bool), J174 x175 w ∧ e 1 = (Value.int .i64 x6) ∧ e 5 = (SV.v s1) ∧ e 6 = (SV.v s13) ∧ e 10 = (Value.float .f64 r138) ∧ e 11 = (SV.v s140) ∧ e 12 = (Value.bool x175) ∧ e 13 = (Value.int .i64 x144)) ?_ ?_
              · clear hJ174
                refine LE.p (v := (Value.bool x143)) (Wn.no rfl) rfl (R.move f158) ?_
                refine LE.p (v := (Value.bool x143)) (Wn.no rfl) rfl (R.move rfl) ?_
                rcases M.ite_use h with ⟨hb176, h⟩ | ⟨hb176, h⟩
                · refine LE.u (Un.no 1 98 false rfl rfl rfl (congrArg Value.bool hb176)) ?_
                  refine LE.u (Un.no 1 98 false rfl rfl rfl (congrArg Value.bool hb176)) ?_
                  refine LE.u (Un.no 1 98 false rfl rfl rfl (congrArg Value.bool hb176)) ?_
                  refine LE.u (Un.no 1 98 false rfl rfl rfl (congrArg Value.bool hb176)) ?_
                  refine LE.p (v := (Value.bool true)) (Wn.no rfl) rfl (R.pickT (congrArg Value.bool hb176) rfl) ?_
                  refine LE.p (v := (Value.bool true)) (Wn.no rfl) rfl (R.assign rfl) ?_
                  refine LE.nil ?_
                  exact ⟨_, h, f153, f154, f155, f156, f157, rfl, f159⟩
                · refine LE.p (v := (SV.v s140)) (Wn.yes 1 98 false rfl rfl rfl (congrArg Value.bool hb176)) rfl (R.move f157) ?_
                  refine LE.p (v := (Value.int .i64 x144)) (Wn.yes 1 98 false rfl rfl rfl (congrArg Value.bool hb176)) rfl (R.move f159) ?_
                  obtain ⟨a177, h178, h179, h180, h⟩ := h
                  refine LE.p (v := (Value.pointer (some (a177.add (x144.toNat * 1))))) (Wn.yes 1 98 false rfl rfl rfl (congrArg Value.bool hb176)) rfl (R.idx (s := s140) sl51 rfl rfl h178 h179 h180) ?_
                  obtain ⟨t181, h182, h⟩ := h
                  refine LE.r (v := (Value.bool t181)) (Wn.yes 1 98 false rfl rfl rfl (congrArg Value.bool hb176)) rfl (R.ld sc4 rfl h182) ?_
                  refine LE.p (v := (Value.bool t181)) (Wn.no rfl) rfl (R.pickF (congrArg Value.bool hb176) rfl) ?_
                  refine LE.p (v := (Value.bool t181)) (Wn.no rfl) rfl (R.assign rfl) ?_
                  refine LE.nil ?_
                  exact ⟨_, h, f153, f154, f155, f156, f157, rfl, f159⟩
              · rintro e183 w184 ⟨x175, h, f185, f186, f187, f188, f189, f190, f191⟩
                subst hJ174
                refine WE.reg ?_
                refine LE.p (v := (Value.int .i64 x144)) (Wn.no rfl) rfl (R.move f191) ?_
                refine LE.p (v := (Value.int .i64 (IntKind.i64.wrap (x144 + (1 : Int))))) (Wn.no rfl) rfl (R.add rfl rfl) ?_
                refine LE.p (v := (Value.int .i64 (IntKind.i64.wrap (x144 + (1 : Int))))) (Wn.no rfl) rfl (R.assign rfl) ?_
                refine LE.nil ?_
                obtain ⟨m151, hm152, h⟩ := h
                exact ⟨m151, hm152, _, _, h, f185, f186, f187, f188, f189, f190, rfl⟩
            · intro hb160
              replace h := M.ite_f h hb160
              refine WE.exit ?_
              refine WE.seq ?_
              refine WE.seq ?_
              refine WE.reg ?_
              refine LE.p (v := (Value.bool x143)) (Wn.no rfl) rfl (R.move f158) ?_
              refine LE.p (v := (Value.bool (!x143))) (Wn.no rfl) rfl (R.not rfl) ?_
              refine LE.nil ?_
              refine WE.condT rfl (b := (!x143)) rfl ?_ ?_
              · intro hb192
                replace h := M.ite_t h hb192
                refine WE.seq ?_
                refine WE.reg ?_
                refine LE.p (v := (SV.v s1)) (Wn.no rfl) rfl (R.move f154) ?_
                refine LE.p (v := (SV.v s1)) (Wn.no rfl) rfl (R.assign rfl) ?_
                refine LE.nil ?_
                refine WE.ret ?_
                exact ⟨_, (Res.tmp rfl Res.nil), _, rfl, h⟩
              · intro hb192
                replace h := M.ite_f h hb192
                refine WE.skip ?_
                obtain ⟨J193, hJ193, h⟩ := M.join_use h
                refine WE.join (fun e w => ∃ (x194 : Nat), J193 x194 w ∧ e 1 = (Value.int .i64 x6) ∧ e 5 = (SV.v s1) ∧ e 6 = (SV.v s13) ∧ e 10 = (Value.float .f64 x194) ∧ e 11 = (SV.v s140)) ?_ ?_
                · clear hJ193
                  refine WE.seq ?_
                  refine WE.reg ?_
                  refine LE.p (v := (Value.float .f64 r138)) (Wn.no rfl) rfl (R.move f156) ?_
                  refine LE.c (Wn.no rfl) rfl (R.call bd13 (Ls.cons rfl (Ls.cons rfl Ls.nil)) rfl) (Calls.mono h ?_)
                  rintro _ w196 ⟨r195, rfl, h⟩
                  refine ⟨_, rfl, ?_⟩
                  refine LE.nil ?_
                  refine WE.condT rfl (b := r195) rfl ?_ ?_
                  · intro hb197
                    replace h := M.ite_t h hb197
                    refine WE.seq ?_
                    refine WE.seq ?_
                    refine WE.reg ?_
                    refine LE.p (v := (Value.int .i64 (0 : Int))) (Wn.no rfl) rfl (R.assign rfl) ?_
                    refine LE.nil ?_
                    refine WE.block ?_
                    obtain ⟨I203, ⟨n202, h⟩, hr204⟩ := h
                    refine WE.loop (fun n e w => ∃ (x198 : Int), I203 n x198 w ∧ e 1 = (Value.int .i64 x6) ∧ e 5 = (SV.v s1) ∧ e 6 = (SV.v s13) ∧ e 11 = (SV.v s140) ∧ e 14 = (Value.int .i64 x198)) n202 ⟨_, h, f153, f154, f155, f157, rfl⟩ ?_
                    clear h
                    rintro n202 e201 w200 ⟨x198, h, f207, f208, f209, f210, f211⟩
                    replace h := hr204 n202 x198 w200 h
                    refine WE.seq ?_
                    refine WE.seq ?_
                    refine WE.reg ?_
                    refine LE.p (v := (Value.int .i64 x198)) (Wn.no rfl) rfl (R.move f211) ?_
                    refine LE.p (v := (SV.v s13)) (Wn.no rfl) rfl (R.move f209) ?_
                    refine LE.p (v := (Value.int .i64 (s13.len : Int))) (Wn.no rfl) rfl (R.len sl22 rfl) ?_
                    refine LE.p (v := (Value.bool (decide (x198 < (s13.len : Int))))) (Wn.no rfl) rfl (R.lss rfl rfl) ?_
                    refine LE.nil ?_
                    refine WE.condT rfl (b := (decide (x198 < (s13.len : Int)))) rfl ?_ ?_
                    · intro hb212
                      replace h := M.ite_t h hb212
                      refine WE.skip ?_
                      refine WE.seq ?_
                      refine WE.block ?_
                      refine WE.seq ?_
                      refine WE.reg ?_
                      refine LE.p (v := (Value.int .i64 (0 : Int))) (Wn.no rfl) rfl (R.assign rfl) ?_
                      refine LE.nil ?_
                      refine WE.block ?_
                      obtain ⟨I218, ⟨n217, h⟩, hr219⟩ := h
                      refine WE.loop (fun n e w => ∃ (x213 : Int), I218 n x213 w ∧ e 1 = (Value.int .i64 x6) ∧ e 5 = (SV.v s1) ∧ e 6 = (SV.v s13) ∧ e 11 = (SV.v s140) ∧ e 14 = (Value.int .i64 x198) ∧ e 15 = (Value.int .i64 x213)) n217 ⟨_, h, f207, f208, f209, f210, f211, rfl⟩ ?_
                      clear h
                      rintro n217 e216 w215 ⟨x213, h, f222, f223, f224, f225, f226, f227⟩
                      replace h := hr219 n217 x213 w215 h
                      refine WE.seq ?_
                      refine WE.seq ?_
                      refine WE.reg ?_
                      refine LE.p (v := (Value.int .i64 x213)) (Wn.no rfl) rfl (R.move f227) ?_
                      refine LE.p (v := (Value.bool (decide (x213 < (64 : Int))))) (Wn.no rfl) rfl (R.lss rfl rfl) ?_
                      refine LE.nil ?_
                      refine WE.condT rfl (b := (decide (x213 < (64 : Int)))) rfl ?_ ?_
                      · intro hb228
                        replace h := M.ite_t h hb228
                        refine WE.skip ?_
                        refine WE.seq ?_
                        refine WE.block ?_
                        refine WE.reg ?_
                        refine LE.p (v := (SV.v s13)) (Wn.no rfl) rfl (R.move f224) ?_
                        refine LE.p (v := (Value.int .i64 x198)) (Wn.no rfl) rfl (R.move f226) ?_
                        refine LE.p (v := (SV.v s13)) (Wn.no rfl) rfl (R.move f224) ?_
                        refine LE.p (v := (Value.int .i64 x198)) (Wn.no rfl) rfl (R.move f226) ?_
                        obtain ⟨a229, h230, h231, h232, h⟩ := h
                        refine LE.p (v := (Value.pointer (some (a229.add (x198.toNat * 1))))) (Wn.no rfl) rfl (R.idx (s := s13) sl22 rfl rfl h230 h231 h232) ?_
                        obtain ⟨t233, h234, h⟩ := h
                        refine LE.r (v := (Value.float .f64 t233)) (Wn.no rfl) rfl (R.ld sc26 rfl h234) ?_
                        obtain ⟨r235, h236, h⟩ := h
                        refine LE.p (v := (Value.float .f64 r235)) (Wn.no rfl) rfl (R.farith h236 rfl rfl) ?_
                        obtain ⟨a237, h238, h239, h240, h⟩ := h
                        refine LE.p (v := (Value.pointer (some (a237.add (x198.toNat * 1))))) (Wn.no rfl) rfl (R.idx (s := s13) sl22 rfl rfl h238 h239 h240) ?_
                        obtain ⟨w241, hww241, h242, h243, h⟩ := M.st_use h
                        refine LE.s (Wn.no rfl) rfl (R.st (a := (a237.add (x198.toNat * 1))) (v := (Value.float .f64 r235)) sz26 rfl rfl rfl rfl h242 h243 hww241) ?_
                        refine LE.nil ?_
                        refine WE.reg ?_
                        refine LE.p (v := (Value.int .i64 x213)) (Wn.no rfl) rfl (R.move f227) ?_
                        refine LE.p (v := (Value.int .i64 (IntKind.i64.wrap (x213 + (1 : Int))))) (Wn.no rfl) rfl (R.add rfl rfl) ?_
                        refine LE.p (v := (Value.int .i64 (IntKind.i64.wrap (x213 + (1 : Int))))) (Wn.no rfl) rfl (R.assign rfl) ?_
                        refine LE.nil ?_
                        obtain ⟨m220, hm221, h⟩ := h
                        exact ⟨m220, hm221, _, h, f222, f223, f224, f225, f226, rfl⟩
                      · intro hb228
                        replace h := M.ite_f h hb228
                        refine WE.exit ?_
                        refine WE.reg ?_
                        refine LE.p (v := (Value.int .i64 x198)) (Wn.no rfl) rfl (R.move f226) ?_
                        refine LE.p (v := (Value.int .i64 (IntKind.i64.wrap (x198 + (1 : Int))))) (Wn.no rfl) rfl (R.add rfl rfl) ?_
                        refine LE.p (v := (Value.int .i64 (IntKind.i64.wrap (x198 + (1 : Int))))) (Wn.no rfl) rfl (R.assign rfl) ?_
                        refine LE.nil ?_
                        obtain ⟨m205, hm206, h⟩ := h
                        exact ⟨m205, hm206, _, h, f222, f223, f224, f225, rfl⟩
                    · intro hb212
                      replace h := M.ite_f h hb212
                      refine WE.exit ?_
                      refine WE.reg ?_
                      refine LE.p (v := (SV.v s13)) (Wn.no rfl) rfl (R.move f209) ?_
                      refine LE.c (Wn.no rfl) rfl (R.call bd41 (Ls.cons rfl Ls.nil) rfl) (Calls.mono h ?_)
                      rintro _ w245 ⟨r244, rfl, h⟩
                      refine ⟨_, rfl, ?_⟩
                      refine LE.p (v := (Value.float .f64 r244)) (Wn.no rfl) rfl (R.assign rfl) ?_
                      refine LE.nil ?_
                      exact ⟨_, h, f207, f208, f209, rfl, f210⟩
                  · intro hb197
                    replace h := M.ite_f h hb197
                    refine WE.skip ?_
                    exact ⟨_, h, f153, f154, f155, f156, f157⟩
                · rintro e246 w247 ⟨x194, h, f248, f249, f250, f251, f252⟩
                  subst hJ193
                  refine WE.seq ?_
                  refine WE.reg ?_
                  refine LE.p (v := (Value.int .i64 x6)) (Wn.no rfl) rfl (R.move f248) ?_
                  refine LE.p (v := (Value.int .i64 x6)) (Wn.no rfl) rfl (R.assign rfl) ?_
                  refine LE.nil ?_
                  refine WE.seq ?_
                  refine WE.seq ?_
                  refine WE.reg ?_
                  refine LE.p (v := (Value.int .i64 (0 : Int))) (Wn.no rfl) rfl (R.assign rfl) ?_
                  refine LE.nil ?_
                  refine WE.block ?_
                  obtain ⟨I259, ⟨n258, h⟩, hr260⟩ := h
                  refine WE.loop (fun n e w => ∃ (x253 : Int) (x254 : Int), I259 n x253 x254 w ∧ e 1 = (Value.int .i64 x6) ∧ e 5 = (SV.v s1) ∧ e 6 = (SV.v s13) ∧ e 10 = (Value.float .f64 x194) ∧ e 11 = (SV.v s140) ∧ e 16 = (Value.int .i64 x253) ∧ e 17 = (Value.int .i64 x254)) n258 ⟨_, _, h, f248, f249, f250, f251, f252, rfl, rfl⟩ ?_
                  clear h
                  rintro n258 e257 w256 ⟨x253, x254, h, f263, f264, f265, f266, f267, f268, f269⟩
                  replace h := hr260 n258 x253 x254 w256 h
                  refine WE.seq ?_
                  refine WE.seq ?_
                  refine WE.reg ?_
                  refine LE.p (v := (Value.int .i64 x254)) (Wn.no rfl) rfl (R.move f269) ?_
                  refine LE.p (v := (SV.v s13)) (Wn.no rfl) rfl (R.move f265) ?_
                  refine LE.p (v := (Value.int .i64 (s13.len : Int))) (Wn.no rfl) rfl (R.len sl22 rfl) ?_
                  refine LE.p (v := (Value.bool (decide (x254 < (s13.len : Int))))) (Wn.no rfl) rfl (R.lss rfl rfl) ?_
                  refine LE.nil ?_
                  refine WE.condT rfl (b := (decide (x254 < (s13.len : Int)))) rfl ?_ ?_
                  · intro hb270
                    replace h := M.ite_t h hb270
                    refine WE.skip ?_
                    refine WE.seq ?_
                    refine WE.block ?_
                    refine WE.seq ?_
                    refine WE.reg ?_
                    refine LE.p (v := (SV.v s13)) (Wn.no rfl) rfl (R.move f265) ?_
                    refine LE.p (v := (Value.int .i64 x254)) (Wn.no rfl) rfl (R.move f269) ?_
                    obtain ⟨a271, h272, h273, h274, h⟩ := h
                    refine LE.p (v := (Value.pointer (some (a271.add (x254.toNat * 1))))) (Wn.no rfl) rfl (R.idx (s := s13) sl22 rfl rfl h272 h273 h274) ?_
                    obtain ⟨t275, h276, h⟩ := h
                    refine LE.r (v := (Value.float .f64 t275)) (Wn.no rfl) rfl (R.ld sc26 rfl h276) ?_
                    refine LE.p (v := (Value.float .f64 x194)) (Wn.no rfl) rfl (R.move f266) ?_
                    obtain ⟨r277, h278, h⟩ := h
                    refine LE.p (v := (Value.float .f64 r277)) (Wn.no rfl) rfl (R.farith h278 rfl rfl) ?_
                    refine LE.p (v := (Value.float .f64 r277)) (Wn.no rfl) rfl (R.assign rfl) ?_
                    refine LE.nil ?_
                    refine WE.seq ?_
                    refine WE.reg ?_
                    refine LE.p (v := (Value.float .f64 r277)) (Wn.no rfl) rfl (R.move rfl) ?_
                    refine LE.p (v := (Value.int .i64 x6)) (Wn.no rfl) rfl (R.move f263) ?_
                    refine LE.p (v := (Value.float .f64 (fOfInt x6))) (Wn.no rfl) rfl (R.i2f fo26 in3 rfl) ?_
                    obtain ⟨r279, h280, h⟩ := h
                    refine LE.p (v := (Value.float .f64 r279)) (Wn.no rfl) rfl (R.farith h280 rfl rfl) ?_
                    refine LE.p (v := (Value.float .f64 r279)) (Wn.no rfl) rfl (R.assign rfl) ?_
                    refine LE.nil ?_
                    refine WE.seq ?_
                    refine WE.reg ?_
                    refine LE.p (v := (SV.v s1)) (Wn.no rfl) rfl (R.move f264) ?_
                    refine LE.p (v := (Value.int .i64 x254)) (Wn.no rfl) rfl (R.move f269) ?_
                    refine LE.p (v := (Value.float .f64 r279)) (Wn.no rfl) rfl (R.move rfl) ?_
                    obtain ⟨r281, h282, h⟩ := h
                    refine LE.p (v := (Value.int .i64 r281)) (Wn.no rfl) rfl (R.f2i in3 fo26 h282 rfl) ?_
                    obtain ⟨a283, h284, h285, h286, h⟩ := h
                    refine LE.p (v := (Value.pointer (some (a283.add (x254.toNat * 1))))) (Wn.no rfl) rfl (R.idx (s := s1) sl24 rfl rfl h284 h285 h286) ?_
                    obtain ⟨w287, hww287, h288, h289, h⟩ := M.st_use h
                    refine LE.s (Wn.no rfl) rfl (R.st (a := (a283.add (x254.toNat * 1))) (v := (Value.int .i64 r281)) sz3 rfl rfl rfl rfl h288 h289 hww287) ?_
                    refine LE.nil ?_
                    obtain ⟨J290, hJ290, h⟩ := M.join_use h
                    refine WE.join (fun e w => J290 w ∧ e 1 = (Value.int .i64 x6) ∧ e 5 = (SV.v s1) ∧ e 6 = (SV.v s13) ∧ e 10 = (Value.float .f64 x194) ∧ e 11 = (SV.v s140) ∧ e 16 = (Value.int .i64 x253) ∧ e 17 = (Value.int .i64 x254)) ?_ ?_
                    · clear hJ290
                      refine WE.seq ?_
                      refine WE.reg ?_
                      refine LE.p (v := (SV.v s1)) (Wn.no rfl) rfl (R.move f264) ?_
                      refine LE.p (v := (Value.int .i64 x254)) (Wn.no rfl) rfl (R.move f269) ?_
                      obtain ⟨a291, h292, h293, h294, h⟩ := h
                      refine LE.p (v := (Value.pointer (some (a291.add (x254.toNat * 1))))) (Wn.no rfl) rfl (R.idx (s := s1) sl24 rfl rfl h292 h293 h294) ?_
                      obtain ⟨t295, h296, h⟩ := h
                      refine LE.r (v := (Value.int .i64 t295)) (Wn.no rfl) rfl (R.ld sc3 rfl h296) ?_
                      refine LE.p (v := (Value.int .i64 x6)) (Wn.no rfl) rfl (R.move f263) ?_
                      refine LE.p (v := (Value.bool (decide (x6 < t295)))) (Wn.no rfl) rfl (R.gtr rfl rfl) ?_
                      refine LE.nil ?_
                      refine WE.condT rfl (b := (decide (x6 < t295))) rfl ?_ ?_
                      · intro hb297
                        replace h := M.ite_t h hb297
                        refine WE.reg ?_
                        refine LE.p (v := (SV.v s1)) (Wn.no rfl) rfl (R.move f264) ?_
                        refine LE.p (v := (Value.int .i64 x254)) (Wn.no rfl) rfl (R.move f269) ?_
                        refine LE.p (v := (Value.int .i64 x6)) (Wn.no rfl) rfl (R.move f263) ?_
                        obtain ⟨a298, h299, h300, h301, h⟩ := h
                        refine LE.p (v := (Value.pointer (some (a298.add (x254.toNat * 1))))) (Wn.no rfl) rfl (R.idx (s := s1) sl24 rfl rfl h299 h300 h301) ?_
                        obtain ⟨w302, hww302, h303, h304, h⟩ := M.st_use h
                        refine LE.s (Wn.no rfl) rfl (R.st (a := (a298.add (x254.toNat * 1))) (v := (Value.int .i64 x6)) sz3 rfl rfl rfl rfl h303 h304 hww302) ?_
                        refine LE.nil ?_
                        exact ⟨h, f263, f264, f265, f266, f267, f268, f269⟩
                      · intro hb297
                        replace h := M.ite_f h hb297
                        refine WE.skip ?_
                        exact ⟨h, f263, f264, f265, f266, f267, f268, f269⟩
                    · rintro e305 w306 ⟨h, f307, f308, f309, f310, f311, f312, f313⟩
                      subst hJ290
                      refine WE.reg ?_
                      refine LE.p (v := (Value.int .i64 x253)) (Wn.no rfl) rfl (R.move f312) ?_
                      refine LE.p (v := (SV.v s1)) (Wn.no rfl) rfl (R.move f308) ?_
                      refine LE.p (v := (Value.int .i64 x254)) (Wn.no rfl) rfl (R.move f313) ?_
                      obtain ⟨a314, h315, h316, h317, h⟩ := h
                      refine LE.p (v := (Value.pointer (some (a314.add (x254.toNat * 1))))) (Wn.no rfl) rfl (R.idx (s := s1) sl24 rfl rfl h315 h316 h317) ?_
                      obtain ⟨t318, h319, h⟩ := h
                      refine LE.r (v := (Value.int .i64 t318)) (Wn.no rfl) rfl (R.ld sc3 rfl h319) ?_
                      refine LE.p (v := (Value.int .i64 (IntKind.i64.wrap (x253 - t318)))) (Wn.no rfl) rfl (R.sub rfl rfl) ?_
                      refine LE.p (v := (Value.int .i64 (IntKind.i64.wrap (x253 - t318)))) (Wn.no rfl) rfl (R.assign rfl) ?_
                      refine LE.nil ?_
                      refine WE.reg ?_
                      refine LE.p (v := (Value.int .i64 x254)) (Wn.no rfl) rfl (R.move f313) ?_
                      refine LE.p (v := (Value.int .i64 (IntKind.i64.wrap (x254 + (1 : Int))))) (Wn.no rfl) rfl (R.add rfl rfl) ?_
                      refine LE.p (v := (Value.int .i64 (IntKind.i64.wrap (x254 + (1 : Int))))) (Wn.no rfl) rfl (R.assign rfl) ?_
                      refine LE.nil ?_
                      obtain ⟨m261, hm262, h⟩ := h
                      exact ⟨m261, hm262, _, _, h, f307, f308, f309, f310, f311, rfl, rfl⟩
                  · intro hb270
                    replace h := M.ite_f h hb270
                    refine WE.exit ?_
                    refine WE.seq ?_
                    refine WE.seq ?_
                    refine WE.reg ?_
                    refine LE.p (v := (Value.int .i64 (0 : Int))) (Wn.no rfl) rfl (R.assign rfl) ?_
                    refine LE.nil ?_
                    refine WE.block ?_
                    obtain ⟨I326, ⟨n325, h⟩, hr327⟩ := h
                    refine WE.loop (fun n e w => ∃ (x320 : Int) (x321 : Int), I326 n x320 x321 w ∧ e 5 = (SV.v s1) ∧ e 6 = (SV.v s13) ∧ e 11 = (SV.v s140) ∧ e 16 = (Value.int .i64 x320) ∧ e 20 = (Value.int .i64 x321)) n325 ⟨_, _, h, f264, f265, f267, f268, rfl⟩ ?_
                    clear h
                    rintro n325 e324 w323 ⟨x320, x321, h, f330, f331, f332, f333, f334⟩
                    replace h := hr327 n325 x320 x321 w323 h
                    refine WE.seq ?_
                    refine WE.seq ?_
                    obtain ⟨J335, hJ335, h⟩ := M.join_use h
                    refine WE.regJ (fun e w => ∃ (x336 : Bool), J335 x336 w ∧ e 5 = (SV.v s1) ∧ e 6 = (SV.v s13) ∧ e 11 = (SV.v s140) ∧ e 16 = (Value.int .i64 x320) ∧ e 20 = (Value.int .i64 x321) ∧ e 174 = (Value.bool x336)) ?_ ?_
                    · clear hJ335
                      refine LE.p (v := (Value.int .i64 x321)) (Wn.no rfl) rfl (R.move f334) ?_
                      refine LE.p (v := (SV.v s13)) (Wn.no rfl) rfl (R.move f331) ?_
                      refine LE.p (v := (Value.int .i64 (s13.len : Int))) (Wn.no rfl) rfl (R.len sl22 rfl) ?_
                      refine LE.p (v := (Value.bool (decide (x321 < (s13.len : Int))))) (Wn.no rfl) rfl (R.lss rfl rfl) ?_
                      refine LE.p (v := (Value.bool (decide (x321 < (s13.len : Int))))) (Wn.no rfl) rfl (R.move rfl) ?_
                      rcases M.ite_use h with ⟨hb337, h⟩ | ⟨hb337, h⟩
                      · refine LE.p (v := (Value.int .i64 x320)) (Wn.yes 4 171 true rfl rfl rfl (congrArg Value.bool hb337)) rfl (R.move f333) ?_
                        refine LE.p (v := (Value.bool (decide ((0 : Int) < x320)))) (Wn.yes 4 171 true rfl rfl rfl (congrArg Value.bool hb337)) rfl (R.gtr rfl rfl) ?_
                        refine LE.p (v := (Value.bool (decide ((0 : Int) < x320)))) (Wn.no rfl) rfl (R.pickT (congrArg Value.bool hb337) rfl) ?_
                        refine LE.nil ?_
                        exact ⟨_, h, f330, f331, f332, f333, f334, rfl⟩
                      · refine LE.u (Un.no 4 171 true rfl rfl rfl (congrArg Value.bool hb337)) ?_
                        refine LE.u (Un.no 4 171 true rfl rfl rfl (congrArg Value.bool hb337)) ?_
                        refine LE.p (v := (Value.bool false)) (Wn.no rfl) rfl (R.pickF (congrArg Value.bool hb337) rfl) ?_
                        refine LE.nil ?_
                        exact ⟨_, h, f330, f331, f332, f333, f334, rfl⟩
                    · rintro e338 w339 ⟨x336, h, f340, f341, f342, f343, f344, f345⟩
                      subst hJ335
                      refine WE.condT rfl (b := x336) f345 ?_ ?_
                      · intro hb346
                        replace h := M.ite_t h hb346
                        refine WE.skip ?_
                        refine WE.seq ?_
                        obtain ⟨J347, hJ347, h⟩ := M.join_use h
                        refine WE.blkJ (fun e w => ∃ (x348 : Int), J347 x348 w ∧ e 5 = (SV.v s1) ∧ e 6 = (SV.v s13) ∧ e 11 = (SV.v s140) ∧ e 16 = (Value.int .i64 x348) ∧ e 20 = (Value.int .i64 x321)) ?_ ?_
                        · clear hJ347
                          refine WE.seq ?_
                          refine WE.reg ?_
                          refine LE.p (v := (SV.v s140)) (Wn.no rfl) rfl (R.move f342) ?_
                          refine LE.p (v := (Value.int .i64 x321)) (Wn.no rfl) rfl (R.move f344) ?_
                          obtain ⟨a349, h350, h351, h352, h⟩ := h
                          refine LE.p (v := (Value.pointer (some (a349.add (x321.toNat * 1))))) (Wn.no rfl) rfl (R.idx (s := s140) sl51 rfl rfl h350 h351 h352) ?_
                          obtain ⟨t353, h354, h⟩ := h
                          refine LE.r (v := (Value.bool t353)) (Wn.no rfl) rfl (R.ld sc4 rfl h354) ?_
                          refine LE.nil ?_
                          refine WE.condT rfl (b := t353) rfl ?_ ?_
                          · intro hb355
                            replace h := M.ite_t h hb355
                            refine WE.seq ?_
                            refine WE.reg ?_
                            refine LE.p (v := (SV.v s1)) (Wn.no rfl) rfl (R.move f340) ?_
                            refine LE.p (v := (Value.int .i64 x321)) (Wn.no rfl) rfl (R.move f344) ?_
                            obtain ⟨a356, h357, h358, h359, h⟩ := h
                            refine LE.p (v := (Value.pointer (some (a356.add (x321.toNat * 1))))) (Wn.no rfl) rfl (R.idx (s := s1) sl24 rfl rfl h357 h358 h359) ?_
                            obtain ⟨t360, h361, h⟩ := h
                            refine LE.r (v := (Value.int .i64 t360)) (Wn.no rfl) rfl (R.ld sc3 rfl h361) ?_
                            refine LE.p (v := (Value.int .i64 (IntKind.i64.wrap (t360 + (1 : Int))))) (Wn.no rfl) rfl (R.add rfl rfl) ?_
                            obtain ⟨a362, h363, h364, h365, h⟩ := h
                            refine LE.p (v := (Value.pointer (some (a362.add (x321.toNat * 1))))) (Wn.no rfl) rfl (R.idx (s := s1) sl24 rfl rfl h363 h364 h365) ?_
                            obtain ⟨w366, hww366, h367, h368, h⟩ := M.st_use h
                            refine LE.s (Wn.no rfl) rfl (R.st (a := (a362.add (x321.toNat * 1))) (v := (Value.int .i64 (IntKind.i64.wrap (t360 + (1 : Int))))) sz3 rfl rfl rfl rfl h367 h368 hww366) ?_
                            refine LE.nil ?_
                            refine WE.reg ?_
                            refine LE.p (v := (Value.int .i64 x320)) (Wn.no rfl) rfl (R.move f343) ?_
                            refine LE.p (v := (Value.int .i64 (IntKind.i64.wrap (x320 - (1 : Int))))) (Wn.no rfl) rfl (R.sub rfl rfl) ?_
                            refine LE.p (v := (Value.int .i64 (IntKind.i64.wrap (x320 - (1 : Int))))) (Wn.no rfl) rfl (R.assign rfl) ?_
                            refine LE.nil ?_
                            exact ⟨_, h, f340, f341, f342, rfl, f344⟩
                          · intro hb355
                            replace h := M.ite_f h hb355
                            refine WE.skip ?_
                            exact ⟨_, h, f340, f341, f342, f343, f344⟩
                        · rintro e369 w370 ⟨x348, h, f371, f372, f373, f374, f375⟩
                          subst hJ347
                          refine WE.reg ?_
                          refine LE.p (v := (Value.int .i64 x321)) (Wn.no rfl) rfl (R.move f375) ?_
                          refine LE.p (v := (Value.int .i64 (IntKind.i64.wrap (x321 + (1 : Int))))) (Wn.no rfl) rfl (R.add rfl rfl) ?_
                          refine LE.p (v := (Value.int .i64 (IntKind.i64.wrap (x321 + (1 : Int))))) (Wn.no rfl) rfl (R.assign rfl) ?_
                          refine LE.nil ?_
                          obtain ⟨m328, hm329, h⟩ := h
                          exact ⟨m328, hm329, _, _, h, f371, f372, f373, f374, rfl⟩
                      · intro hb346
                        replace h := M.ite_f h hb346
                        refine WE.exit ?_
                        refine WE.seq ?_
                        refine WE.reg ?_
                        refine LE.p (v := (SV.v s1)) (Wn.no rfl) rfl (R.move f340) ?_
                        refine LE.p (v := (SV.v s1)) (Wn.no rfl) rfl (R.assign rfl) ?_
                        refine LE.nil ?_
                        refine WE.ret ?_
                        exact ⟨_, (Res.tmp rfl Res.nil), _, rfl, h⟩
/-- The formula of signpost.metric.Less. -/
def F23 (p0 : Nat) (p1 : Nat) (K : Bool → World → Prop) (w0 : World) : Prop :=
Calls Try.prog 28 #[(Value.float .f64 p0)] w0 (R28 fun r1 w2 =>
Calls Try.prog 28 #[(Value.float .f64 p1)] w2 (R28 fun r3 w4 =>
K (fLss r1 r3) w4))
theorem F23_ok {w0 : World} {p0 : Nat} {p1 : Nat} {K : Bool → World → Prop} (h : F23 p0 p1 K w0) : Calls Try.prog 23 #[(Value.float .f64 p0), (Value.float .f64 p1)] w0 (R23 K) := by
  refine calls_of_WE (args := [(Value.float .f64 p0), (Value.float .f64 p1)]) (rs := [.tmp 4]) Try.func23 rfl (N := 10) rfl rfl rfl rfl ?_
  refine WE.seq ?_
  refine WE.reg ?_
  refine LE.p (v := (Value.bool false)) (Wn.no rfl) rfl (R.assign rfl) ?_
  refine LE.nil ?_
  refine WE.seq ?_
  refine WE.reg ?_
  refine LE.p (v := (Value.float .f64 p0)) (Wn.no rfl) rfl (R.move rfl) ?_
  refine LE.c (Wn.no rfl) rfl (R.call bd28 (Ls.cons rfl Ls.nil) rfl) (Calls.mono h ?_)
  rintro _ w2 ⟨r1, rfl, h⟩
  refine ⟨_, rfl, ?_⟩
  refine LE.p (v := (Value.float .f64 p1)) (Wn.no rfl) rfl (R.move rfl) ?_
  refine LE.c (Wn.no rfl) rfl (R.call bd28 (Ls.cons rfl Ls.nil) rfl) (Calls.mono h ?_)
  rintro _ w4 ⟨r3, rfl, h⟩
  refine ⟨_, rfl, ?_⟩
  refine LE.p (v := (Value.bool (fLss r1 r3))) (Wn.no rfl) rfl (R.flss rfl rfl) ?_
  refine LE.p (v := (Value.bool (fLss r1 r3))) (Wn.no rfl) rfl (R.assign rfl) ?_
  refine LE.nil ?_
  refine WE.ret ?_
  exact ⟨_, (Res.tmp rfl Res.nil), _, rfl, h⟩
/-- The formula of signpost.metric.Bits. -/
def F24 (p0 : Nat) (K : Int → World → Prop) (w0 : World) : Prop :=
Calls Try.prog 28 #[(Value.float .f64 p0)] w0 (R28 fun r1 w2 =>
K (r1 : Int) w2)
theorem F24_ok {w0 : World} {p0 : Nat} {K : Int → World → Prop} (h : F24 p0 K w0) : Calls Try.prog 24 #[(Value.float .f64 p0)] w0 (R24 K) := by
  refine calls_of_WE (args := [(Value.float .f64 p0)]) (rs := [.tmp 2]) Try.func24 rfl (N := 6) rfl rfl rfl rfl ?_
  refine WE.seq ?_
  refine WE.reg ?_
  refine LE.p (v := (Value.int .u64 (0 : Int))) (Wn.no rfl) rfl (R.assign rfl) ?_
  refine LE.nil ?_
  refine WE.seq ?_
  refine WE.reg ?_
  refine LE.p (v := (Value.float .f64 p0)) (Wn.no rfl) rfl (R.move rfl) ?_
  refine LE.c (Wn.no rfl) rfl (R.call bd28 (Ls.cons rfl Ls.nil) rfl) (Calls.mono h ?_)
  rintro _ w2 ⟨r1, rfl, h⟩
  refine ⟨_, rfl, ?_⟩
  refine LE.p (v := (Value.int .u64 (r1 : Int))) (Wn.no rfl) rfl (R.callx (xt30 r1) (by exact (Ls.cons rfl Ls.nil)) rfl) ?_
  refine LE.p (v := (Value.int .u64 (r1 : Int))) (Wn.no rfl) rfl (R.assign rfl) ?_
  refine LE.nil ?_
  refine WE.ret ?_
  exact ⟨_, (Res.tmp rfl Res.nil), _, rfl, h⟩
/-- The formula of signpost.metric.Same. -/
def F25 (p0 : Nat) (p1 : Nat) (K : Bool → World → Prop) (w0 : World) : Prop :=
Calls Try.prog 28 #[(Value.float .f64 p0)] w0 (R28 fun r1 w2 =>
Calls Try.prog 28 #[(Value.float .f64 p1)] w2 (R28 fun r3 w4 =>
K (fEql r1 r3) w4))
theorem F25_ok {w0 : World} {p0 : Nat} {p1 : Nat} {K : Bool → World → Prop} (h : F25 p0 p1 K w0) : Calls Try.prog 25 #[(Value.float .f64 p0), (Value.float .f64 p1)] w0 (R25 K) := by
  refine calls_of_WE (args := [(Value.float .f64 p0), (Value.float .f64 p1)]) (rs := [.tmp 4]) Try.func25 rfl (N := 10) rfl rfl rfl rfl ?_
  refine WE.seq ?_
  refine WE.reg ?_
  refine LE.p (v := (Value.bool false)) (Wn.no rfl) rfl (R.assign rfl) ?_
  refine LE.nil ?_
  refine WE.seq ?_
  refine WE.reg ?_
  refine LE.p (v := (Value.float .f64 p0)) (Wn.no rfl) rfl (R.move rfl) ?_
  refine LE.c (Wn.no rfl) rfl (R.call bd28 (Ls.cons rfl Ls.nil) rfl) (Calls.mono h ?_)
  rintro _ w2 ⟨r1, rfl, h⟩
  refine ⟨_, rfl, ?_⟩
  refine LE.p (v := (Value.float .f64 p1)) (Wn.no rfl) rfl (R.move rfl) ?_
  refine LE.c (Wn.no rfl) rfl (R.call bd28 (Ls.cons rfl Ls.nil) rfl) (Calls.mono h ?_)
  rintro _ w4 ⟨r3, rfl, h⟩
  refine ⟨_, rfl, ?_⟩
  refine LE.p (v := (Value.bool (fEql r1 r3))) (Wn.no rfl) rfl (R.feql rfl rfl) ?_
  refine LE.p (v := (Value.bool (fEql r1 r3))) (Wn.no rfl) rfl (R.assign rfl) ?_
  refine LE.nil ?_
  refine WE.ret ?_
  exact ⟨_, (Res.tmp rfl Res.nil), _, rfl, h⟩
/-- The formula of signpost.metric.Right. -/
def F26 (p0 : Nat) (K : Bool → World → Prop) (w0 : World) : Prop :=
K (fGeq p0 (0 : Nat)) w0
theorem F26_ok {w0 : World} {p0 : Nat} {K : Bool → World → Prop} (h : F26 p0 K w0) : Calls Try.prog 26 #[(Value.float .f64 p0)] w0 (R26 K) := by
  refine calls_of_WE (args := [(Value.float .f64 p0)]) (rs := [.tmp 2]) Try.func26 rfl (N := 5) rfl rfl rfl rfl ?_
  refine WE.seq ?_
  refine WE.reg ?_
  refine LE.p (v := (Value.bool false)) (Wn.no rfl) rfl (R.assign rfl) ?_
  refine LE.nil ?_
  refine WE.seq ?_
  refine WE.reg ?_
  refine LE.p (v := (Value.float .f64 p0)) (Wn.no rfl) rfl (R.move rfl) ?_
  refine LE.p (v := (Value.bool (fGeq p0 (0 : Nat)))) (Wn.no rfl) rfl (R.fgeq rfl rfl) ?_
  refine LE.p (v := (Value.bool (fGeq p0 (0 : Nat)))) (Wn.no rfl) rfl (R.assign rfl) ?_
  refine LE.nil ?_
  refine WE.ret ?_
  exact ⟨_, (Res.tmp rfl Res.nil), _, rfl, h⟩
/-- The formula of math.Signbit. -/
def F27 (p0 : Nat) (K : Bool → World → Prop) (w0 : World) : Prop :=
K (decide ((IntKind.i64.wrap (p0 : Int)) < (0 : Int))) w0
theorem F27_ok {w0 : World} {p0 : Nat} {K : Bool → World → Prop} (h : F27 p0 K w0) : Calls Try.prog 27 #[(Value.float .f64 p0)] w0 (R27 K) := by
  refine calls_of_WE (args := [(Value.float .f64 p0)]) (rs := [.tmp 2]) Try.func27 rfl (N := 7) rfl rfl rfl rfl ?_
  refine WE.seq ?_
  refine WE.reg ?_
  refine LE.p (v := (Value.bool false)) (Wn.no rfl) rfl (R.assign rfl) ?_
  refine LE.nil ?_
  refine WE.seq ?_
  refine WE.reg ?_
  refine LE.p (v := (Value.float .f64 p0)) (Wn.no rfl) rfl (R.move rfl) ?_
  refine LE.p (v := (Value.int .u64 (p0 : Int))) (Wn.no rfl) rfl (R.callx (xt30 p0) (by exact (Ls.cons rfl Ls.nil)) rfl) ?_
  refine LE.p (v := (Value.int .i64 (IntKind.i64.wrap (p0 : Int)))) (Wn.no rfl) rfl (R.conv in2 in37 rfl) ?_
  refine LE.p (v := (Value.bool (decide ((IntKind.i64.wrap (p0 : Int)) < (0 : Int))))) (Wn.no rfl) rfl (R.lss rfl rfl) ?_
  refine LE.p (v := (Value.bool (decide ((IntKind.i64.wrap (p0 : Int)) < (0 : Int))))) (Wn.no rfl) rfl (R.assign rfl) ?_
  refine LE.nil ?_
  refine WE.ret ?_
  exact ⟨_, (Res.tmp rfl Res.nil), _, rfl, h⟩
/-- The formula of signpost.metric.Clean. -/
def F28 (p0 : Nat) (K : Nat → World → Prop) (w0 : World) : Prop :=
Calls Try.prog 26 #[(Value.float .f64 p0)] w0 (R26 fun r1 w2 =>
M.ite (!r1) (
Calls Try.prog 33 #[(Value.int .i64 (1 : Int))] w2 (R33 fun r4 w5 =>
K r4 w5)) (
M.ite (fEql p0 (0 : Nat)) (
K (0 : Nat) w2) (
K p0 w2)))
theorem F28_ok {w0 : World} {p0 : Nat} {K : Nat → World → Prop} (h : F28 p0 K w0) : Calls Try.prog 28 #[(Value.float .f64 p0)] w0 (R28 K) := by
  refine calls_of_WE (args := [(Value.float .f64 p0)]) (rs := [.tmp 2]) Try.func28 rfl (N := 12) rfl rfl rfl rfl ?_
  refine WE.seq ?_
  refine WE.reg ?_
  refine LE.p (v := (Value.float .f64 (0 : Nat))) (Wn.no rfl) rfl (R.assign rfl) ?_
  refine LE.nil ?_
  refine WE.seq ?_
  refine WE.block ?_
  refine WE.seq ?_
  refine WE.reg ?_
  refine LE.p (v := (Value.float .f64 p0)) (Wn.no rfl) rfl (R.move rfl) ?_
  refine LE.c (Wn.no rfl) rfl (R.call bd26 (Ls.cons rfl Ls.nil) rfl) (Calls.mono h ?_)
  rintro _ w2 ⟨r1, rfl, h⟩
  refine ⟨_, rfl, ?_⟩
  refine LE.p (v := (Value.bool (!r1))) (Wn.no rfl) rfl (R.not rfl) ?_
  refine LE.p (v := (Value.bool (!r1))) (Wn.no rfl) rfl (R.assign rfl) ?_
  refine LE.nil ?_
  refine WE.condT rfl (b := (!r1)) rfl ?_ ?_
  · intro hb3
    replace h := M.ite_t h hb3
    refine WE.seq ?_
    refine WE.reg ?_
    refine LE.c (Wn.no rfl) rfl (R.call bd33 (Ls.cons rfl Ls.nil) rfl) (Calls.mono h ?_)
    rintro _ w5 ⟨r4, rfl, h⟩
    refine ⟨_, rfl, ?_⟩
    refine LE.p (v := (Value.float .f64 r4)) (Wn.no rfl) rfl (R.assign rfl) ?_
    refine LE.nil ?_
    refine WE.ret ?_
    exact ⟨_, (Res.tmp rfl Res.nil), _, rfl, h⟩
  · intro hb3
    replace h := M.ite_f h hb3
    refine WE.seq ?_
    refine WE.reg ?_
    refine LE.p (v := (Value.float .f64 p0)) (Wn.no rfl) rfl (R.move rfl) ?_
    refine LE.p (v := (Value.bool (fEql p0 (0 : Nat)))) (Wn.no rfl) rfl (R.feql rfl rfl) ?_
    refine LE.p (v := (Value.bool (fEql p0 (0 : Nat)))) (Wn.no rfl) rfl (R.assign rfl) ?_
    refine LE.nil ?_
    refine WE.condT rfl (b := (fEql p0 (0 : Nat))) rfl ?_ ?_
    · intro hb6
      replace h := M.ite_t h hb6
      refine WE.seq ?_
      refine WE.reg ?_
      refine LE.p (v := (Value.float .f64 (0 : Nat))) (Wn.no rfl) rfl (R.assign rfl) ?_
      refine LE.nil ?_
      refine WE.ret ?_
      exact ⟨_, (Res.tmp rfl Res.nil), _, rfl, h⟩
    · intro hb6
      replace h := M.ite_f h hb6
      refine WE.skip ?_
      refine WE.seq ?_
      refine WE.reg ?_
      refine LE.p (v := (Value.float .f64 p0)) (Wn.no rfl) rfl (R.move rfl) ?_
      refine LE.p (v := (Value.float .f64 p0)) (Wn.no rfl) rfl (R.assign rfl) ?_
      refine LE.nil ?_
      refine WE.ret ?_
      exact ⟨_, (Res.tmp rfl Res.nil), _, rfl, h⟩
/-- The formula of signpost.signpostlaw2.ends. -/
def F29  (K : SV → World → Prop) (w0 : World) : Prop :=
Calls Try.prog 42 #[(Value.float .f64 (0 : Nat)), (Value.float .f64 (13830554455654793216 : Nat))] w0 (R42 fun r1 w2 =>
Calls Try.prog 33 #[(Value.int .i64 (1 : Int))] w2 (R33 fun r3 w4 =>
Calls Try.prog 33 #[(Value.int .i64 (-1 : Int))] w4 (R33 fun r5 w6 =>
Calls Try.prog 16 #[] w6 (R16 fun r7 w8 =>
M.new (.cells #[(Value.float .f64 (0 : Nat)), (Value.float .f64 r1), (Value.float .f64 (4607182418800017408 : Nat)), (Value.float .f64 (13830554455654793216 : Nat)), (Value.float .f64 (4611686018427387904 : Nat)), (Value.float .f64 (4602678819172646912 : Nat)), (Value.float .f64 r3), (Value.float .f64 r5), (Value.float .f64 r7), (Value.float .f64 (9218868437227405311 : Nat)), (Value.float .f64 (18442240474082181119 : Nat)), (Value.float .f64 (1 : Nat)), (Value.float .f64 (4845873199050653696 : Nat)), (Value.float .f64 (9094988921128908188 : Nat)), (Value.float .f64 (4613937818241073152 : Nat))] 26) w8 fun b11 w9 =>
K (SV.mk (some b11) 15 15) w9))))
theorem F29_ok {w0 : World}  {K : SV → World → Prop} (h : F29 K w0) : Calls Try.prog 29 #[] w0 (R29 K) := by
  refine calls_of_WE (args := []) (rs := [.tmp 0]) Try.func29 rfl (N := 6) rfl rfl rfl rfl ?_
  refine WE.seq ?_
  refine WE.reg ?_
  refine LE.p (v := (SV.v SV.nil)) (Wn.no rfl) rfl (R.assign rfl) ?_
  refine LE.nil ?_
  refine WE.seq ?_
  refine WE.reg ?_
  refine LE.c (Wn.no rfl) rfl (R.call bd42 (Ls.cons rfl (Ls.cons rfl Ls.nil)) rfl) (Calls.mono h ?_)
  rintro _ w2 ⟨r1, rfl, h⟩
  refine ⟨_, rfl, ?_⟩
  refine LE.c (Wn.no rfl) rfl (R.call bd33 (Ls.cons rfl Ls.nil) rfl) (Calls.mono h ?_)
  rintro _ w4 ⟨r3, rfl, h⟩
  refine ⟨_, rfl, ?_⟩
  refine LE.c (Wn.no rfl) rfl (R.call bd33 (Ls.cons rfl Ls.nil) rfl) (Calls.mono h ?_)
  rintro _ w6 ⟨r5, rfl, h⟩
  refine ⟨_, rfl, ?_⟩
  refine LE.c (Wn.no rfl) rfl (R.call bd16 Ls.nil rfl) (Calls.mono h ?_)
  rintro _ w8 ⟨r7, rfl, h⟩
  refine ⟨_, rfl, ?_⟩
  obtain ⟨b11, hpb11, w9, hww9, h⟩ := M.new_use h
  refine LE.r (v := (SV.v (SV.mk (some b11) 15 15))) (Wn.no rfl) rfl (R.bsl (by exact (Ls.cons (R.Pr rfl) (Ls.cons (R.Pr rfl) (Ls.cons (R.Pr rfl) (Ls.cons (R.Pr rfl) (Ls.cons (R.Pr rfl) (Ls.cons (R.Pr rfl) (Ls.cons (R.Pr rfl) (Ls.cons (R.Pr rfl) (Ls.cons (R.Pr rfl) (Ls.cons (R.Pr rfl) (Ls.cons (R.Pr rfl) (Ls.cons (R.Pr rfl) (Ls.cons (R.Pr rfl) (Ls.cons (R.Pr rfl) (Ls.cons (R.Pr rfl) Ls.nil)))))))))))))))) (fun w => bs22_15 (0 : Nat) r1 (4607182418800017408 : Nat) (13830554455654793216 : Nat) (4611686018427387904 : Nat) (4602678819172646912 : Nat) r3 r5 r7 (9218868437227405311 : Nat) (18442240474082181119 : Nat) (1 : Nat) (4845873199050653696 : Nat) (9094988921128908188 : Nat) (4613937818241073152 : Nat) w) hpb11 hww9) ?_
  refine LE.p (v := (SV.v (SV.mk (some b11) 15 15))) (Wn.no rfl) rfl (R.assign rfl) ?_
  refine LE.nil ?_
  refine WE.ret ?_
  exact ⟨_, (Res.tmp rfl Res.nil), _, rfl, h⟩
/-- The formula of signpost.metric.counts. -/
def F31 (p0 : SV) (K : SV → World → Prop) (w0 : World) : Prop :=
M.mk Try.prog 22 (Value.int .i64 (p0.len : Int)) (Value.int .i64 (p0.len : Int)) w0 fun s1 w2 =>
M.loop2 (fun (J6 : Bool → Int → World → Prop) (x4 : Bool) (x5 : Int) (w7 : World) => 
M.ite (decide (x5 < (p0.len : Int))) (
M.idx p0 x5 1 fun a21 =>
M.ld (Value.float .f64) (a21.add (x5.toNat * 1)) w7 fun t25 =>
M.join (fun (x28 : Bool) (w33 : World) => 
J6 x28 (IntKind.i64.wrap (x5 + (1 : Int))) w33) fun J27 => 
M.ite x4 (
J27 true w7) (
Calls Try.prog 13 #[(Value.float .f64 t25), (Value.int .i64 (1 : Int))] w7 (R13 fun r30 w31 =>
J27 r30 w31))) (
M.loop1 (fun (J41 : Int → World → Prop) (x40 : Int) (w42 : World) => 
M.ite (decide (x40 < (p0.len : Int))) (
M.idx p0 x40 1 fun a55 =>
M.ld (Value.float .f64) (a55.add (x40.toNat * 1)) w42 fun t59 =>
M.join (fun (w107 : World) => 
J41 (IntKind.i64.wrap (x40 + (1 : Int))) w107) fun J61 => 
M.join (fun (x63 : Bool) (w68 : World) => 
M.ite x63 (
M.idx s1 x40 1 fun a78 =>
M.st (a78.add (x40.toNat * 1)) (Value.float .f64 (4607182418800017408 : Nat)) w68 fun w82 =>
J61 w82) (
M.join (fun (x86 : Bool) (w89 : World) => 
M.ite x86 (
M.idx s1 x40 1 fun a99 =>
M.st (a99.add (x40.toNat * 1)) (Value.float .f64 t59) w89 fun w103 =>
J61 w103) (
J61 w89)) fun J85 => 
M.ite (!x4) (
J85 (fGtr t59 (0 : Nat)) w68) (
J85 false w68))) fun J62 => 
M.ite x4 (
Calls Try.prog 13 #[(Value.float .f64 t59), (Value.int .i64 (1 : Int))] w42 (R13 fun r65 w66 =>
J62 r65 w66)) (
J62 false w42)) (
K s1 w42)) (0 : Int) w7)) false (0 : Int) w2
theorem F31_ok {w0 : World} {p0 : SV} {K : SV → World → Prop} (h : F31 p0 K w0) : Calls Try.prog 31 #[(SV.v p0)] w0 (R31 K) := by
  refine calls_of_WE (args := [(SV.v p0)]) (rs := [.tmp 2]) Try.func31 rfl (N := 53) rfl rfl rfl rfl ?_
  refine WE.seq ?_
  refine WE.reg ?_
  refine LE.p (v := (SV.v SV.nil)) (Wn.no rfl) rfl (R.assign rfl) ?_
  refine LE.nil ?_
  refine WE.seq ?_
  refine WE.reg ?_
  refine LE.p (v := (SV.v p0)) (Wn.no rfl) rfl (R.move rfl) ?_
  refine LE.p (v := (Value.int .i64 (p0.len : Int))) (Wn.no rfl) rfl (R.len sl22 rfl) ?_
  obtain ⟨s1, w2, h3, h⟩ := h
  refine LE.r (v := (SV.v s1)) (Wn.no rfl) rfl (R.mks rfl rfl h3) ?_
  refine LE.p (v := (SV.v s1)) (Wn.no rfl) rfl (R.assign rfl) ?_
  refine LE.nil ?_
  refine WE.seq ?_
  refine WE.reg ?_
  refine LE.p (v := (Value.bool false)) (Wn.no rfl) rfl (R.assign rfl) ?_
  refine LE.nil ?_
  refine WE.seq ?_
  refine WE.seq ?_
  refine WE.reg ?_
  refine LE.p (v := (SV.v p0)) (Wn.no rfl) rfl (R.move rfl) ?_
  refine LE.p (v := (Value.int .i64 (p0.len : Int))) (Wn.no rfl) rfl (R.len sl22 rfl) ?_
  refine LE.p (v := (Value.int .i64 (0 : Int))) (Wn.no rfl) rfl (R.move rfl) ?_
  refine LE.nil ?_
  refine WE.block ?_
  obtain ⟨I10, ⟨n9, h⟩, hr11⟩ := h
  refine WE.loop (fun n e w => ∃ (x4 : Bool) (x5 : Int), I10 n x4 x5 w ∧ e 0 = (SV.v p0) ∧ e 3 = (SV.v s1) ∧ e 4 = (Value.bool x4) ∧ e 12 = (SV.v p0) ∧ e 13 = (Value.int .i64 (p0.len : Int)) ∧ e 14 = (Value.int .i64 x5)) n9 ⟨_, _, h, rfl, rfl, rfl, rfl, rfl, rfl⟩ ?_
  clear h
  rintro n9 e8 w7 ⟨x4, x5, h, f14, f15, f16, f17, f18, f19⟩
  replace h := hr11 n9 x4 x5 w7 h
  refine WE.seq ?_
  refine WE.reg ?_
  refine LE.p (v := (Value.bool (decide (x5 < (p0.len : Int))))) (Wn.no rfl) rfl (R.lss f19 f18) ?_
  refine LE.nil ?_
  refine WE.seq ?_
  refine WE.condT rfl (b := (decide (x5 < (p0.len : Int)))) rfl ?_ ?_
  · intro hb20
    replace h := M.ite_t h hb20
    refine WE.skip ?_
    refine WE.seq ?_
    refine WE.block ?_
    refine WE.seq ?_
    refine WE.reg ?_
    obtain ⟨a21, h22, h23, h24, h⟩ := h
    refine LE.p (v := (Value.pointer (some (a21.add (x5.toNat * 1))))) (Wn.no rfl) rfl (R.idx (s := p0) sl22 f17 f19 h22 h23 h24) ?_
    obtain ⟨t25, h26, h⟩ := h
    refine LE.r (v := (Value.float .f64 t25)) (Wn.no rfl) rfl (R.ld sc26 rfl h26) ?_
    refine LE.p (v := (Value.float .f64 t25)) (Wn.no rfl) rfl (R.assign rfl) ?_
    refine LE.nil ?_
    obtain ⟨J27, hJ27, h⟩ := M.join_use h
    refine WE.regJ (fun e w => ∃ (x28 : Bool), J27 x28 w ∧ e 0 = (SV.v p0) ∧ e 3 = (SV.v s1) ∧ e 4 = (Value.bool x28) ∧ e 12 = (SV.v p0) ∧ e 13 = (Value.int .i64 (p0.len : Int)) ∧ e 14 = (Value.int .i64 x5)) ?_ ?_
    · clear hJ27
      refine LE.p (v := (Value.bool x4)) (Wn.no rfl) rfl (R.move f16) ?_
      refine LE.p (v := (Value.bool x4)) (Wn.no rfl) rfl (R.move rfl) ?_
      rcases M.ite_use h with ⟨hb29, h⟩ | ⟨hb29, h⟩
      · refine LE.u (Un.no 1 19 false rfl rfl rfl (congrArg Value.bool hb29)) ?_
        refine LE.u (Un.no 1 19 false rfl rfl rfl (congrArg Value.bool hb29)) ?_
        refine LE.p (v := (Value.bool true)) (Wn.no rfl) rfl (R.pickT (congrArg Value.bool hb29) rfl) ?_
        refine LE.p (v := (Value.bool true)) (Wn.no rfl) rfl (R.assign rfl) ?_
        refine LE.nil ?_
        exact ⟨_, h, f14, f15, rfl, f17, f18, f19⟩
      · refine LE.p (v := (Value.float .f64 t25)) (Wn.yes 1 19 false rfl rfl rfl (congrArg Value.bool hb29)) rfl (R.move rfl) ?_
        refine LE.c (Wn.yes 1 19 false rfl rfl rfl (congrArg Value.bool hb29)) rfl (R.call bd13 (Ls.cons rfl (Ls.cons rfl Ls.nil)) rfl) (Calls.mono h ?_)
        rintro _ w31 ⟨r30, rfl, h⟩
        refine ⟨_, rfl, ?_⟩
        refine LE.p (v := (Value.bool r30)) (Wn.no rfl) rfl (R.pickF (congrArg Value.bool hb29) rfl) ?_
        refine LE.p (v := (Value.bool r30)) (Wn.no rfl) rfl (R.assign rfl) ?_
        refine LE.nil ?_
        exact ⟨_, h, f14, f15, rfl, f17, f18, f19⟩
    · rintro e32 w33 ⟨x28, h, f34, f35, f36, f37, f38, f39⟩
      subst hJ27
      refine WE.reg ?_
      refine LE.p (v := (Value.int .i64 (IntKind.i64.wrap (x5 + (1 : Int))))) (Wn.no rfl) rfl (R.add f39 rfl) ?_
      refine LE.p (v := (Value.int .i64 (IntKind.i64.wrap (x5 + (1 : Int))))) (Wn.no rfl) rfl (R.move rfl) ?_
      refine LE.nil ?_
      obtain ⟨m12, hm13, h⟩ := h
      exact ⟨m12, hm13, _, _, h, f34, f35, f36, f37, f38, rfl⟩
  · intro hb20
    replace h := M.ite_f h hb20
    refine WE.exit ?_
    refine WE.seq ?_
    refine WE.seq ?_
    refine WE.reg ?_
    refine LE.p (v := (SV.v p0)) (Wn.no rfl) rfl (R.move f14) ?_
    refine LE.p (v := (Value.int .i64 (p0.len : Int))) (Wn.no rfl) rfl (R.len sl22 rfl) ?_
    refine LE.p (v := (Value.int .i64 (0 : Int))) (Wn.no rfl) rfl (R.move rfl) ?_
    refine LE.nil ?_
    refine WE.block ?_
    obtain ⟨I45, ⟨n44, h⟩, hr46⟩ := h
    refine WE.loop (fun n e w => ∃ (x40 : Int), I45 n x40 w ∧ e 3 = (SV.v s1) ∧ e 4 = (Value.bool x4) ∧ e 24 = (SV.v p0) ∧ e 25 = (Value.int .i64 (p0.len : Int)) ∧ e 26 = (Value.int .i64 x40)) n44 ⟨_, h, f15, f16, rfl, rfl, rfl⟩ ?_
    clear h
    rintro n44 e43 w42 ⟨x40, h, f49, f50, f51, f52, f53⟩
    replace h := hr46 n44 x40 w42 h
    refine WE.seq ?_
    refine WE.reg ?_
    refine LE.p (v := (Value.bool (decide (x40 < (p0.len : Int))))) (Wn.no rfl) rfl (R.lss f53 f52) ?_
    refine LE.nil ?_
    refine WE.seq ?_
    refine WE.condT rfl (b := (decide (x40 < (p0.len : Int)))) rfl ?_ ?_
    · intro hb54
      replace h := M.ite_t h hb54
      refine WE.skip ?_
      refine WE.seq ?_
      refine WE.block ?_
      refine WE.seq ?_
      refine WE.reg ?_
      refine LE.p (v := (Value.int .i64 x40)) (Wn.no rfl) rfl (R.move f53) ?_
      obtain ⟨a55, h56, h57, h58, h⟩ := h
      refine LE.p (v := (Value.pointer (some (a55.add (x40.toNat * 1))))) (Wn.no rfl) rfl (R.idx (s := p0) sl22 f51 f53 h56 h57 h58) ?_
      obtain ⟨t59, h60, h⟩ := h
      refine LE.r (v := (Value.float .f64 t59)) (Wn.no rfl) rfl (R.ld sc26 rfl h60) ?_
      refine LE.p (v := (Value.int .i64 x40)) (Wn.no rfl) rfl (R.assign rfl) ?_
      refine LE.p (v := (Value.float .f64 t59)) (Wn.no rfl) rfl (R.assign rfl) ?_
      refine LE.nil ?_
      obtain ⟨J61, hJ61, h⟩ := M.join_use h
      refine WE.blkJ (fun e w => J61 w ∧ e 3 = (SV.v s1) ∧ e 4 = (Value.bool x4) ∧ e 24 = (SV.v p0) ∧ e 25 = (Value.int .i64 (p0.len : Int)) ∧ e 26 = (Value.int .i64 x40)) ?_ ?_
      · clear hJ61
        refine WE.seq ?_
        obtain ⟨J62, hJ62, h⟩ := M.join_use h
        refine WE.regJ (fun e w => ∃ (x63 : Bool), J62 x63 w ∧ e 3 = (SV.v s1) ∧ e 4 = (Value.bool x4) ∧ e 7 = (Value.int .i64 x40) ∧ e 8 = (Value.float .f64 t59) ∧ e 24 = (SV.v p0) ∧ e 25 = (Value.int .i64 (p0.len : Int)) ∧ e 26 = (Value.int .i64 x40) ∧ e 31 = (Value.bool x63)) ?_ ?_
        · clear hJ62
          refine LE.p (v := (Value.bool x4)) (Wn.no rfl) rfl (R.move f50) ?_
          refine LE.p (v := (Value.bool x4)) (Wn.no rfl) rfl (R.move rfl) ?_
          rcases M.ite_use h with ⟨hb64, h⟩ | ⟨hb64, h⟩
          · refine LE.p (v := (Value.float .f64 t59)) (Wn.yes 1 33 true rfl rfl rfl (congrArg Value.bool hb64)) rfl (R.move rfl) ?_
            refine LE.c (Wn.yes 1 33 true rfl rfl rfl (congrArg Value.bool hb64)) rfl (R.call bd13 (Ls.cons rfl (Ls.cons rfl Ls.nil)) rfl) (Calls.mono h ?_)
            rintro _ w66 ⟨r65, rfl, h⟩
            refine ⟨_, rfl, ?_⟩
            refine LE.p (v := (Value.bool r65)) (Wn.no rfl) rfl (R.pickT (congrArg Value.bool hb64) rfl) ?_
            refine LE.p (v := (Value.bool r65)) (Wn.no rfl) rfl (R.assign rfl) ?_
            refine LE.nil ?_
            exact ⟨_, h, f49, f50, rfl, rfl, f51, f52, f53, rfl⟩
          · refine LE.u (Un.no 1 33 true rfl rfl rfl (congrArg Value.bool hb64)) ?_
            refine LE.u (Un.no 1 33 true rfl rfl rfl (congrArg Value.bool hb64)) ?_
            refine LE.p (v := (Value.bool false)) (Wn.no rfl) rfl (R.pickF (congrArg Value.bool hb64) rfl) ?_
            refine LE.p (v := (Value.bool false)) (Wn.no rfl) rfl (R.assign rfl) ?_
            refine LE.nil ?_
            exact ⟨_, h, f49, f50, rfl, rfl, f51, f52, f53, rfl⟩
        · rintro e67 w68 ⟨x63, h, f69, f70, f71, f72, f73, f74, f75, f76⟩
          subst hJ62
          refine WE.condT rfl (b := x63) f76 ?_ ?_
          · intro hb77
            replace h := M.ite_t h hb77
            refine WE.reg ?_
            refine LE.p (v := (SV.v s1)) (Wn.no rfl) rfl (R.move f69) ?_
            refine LE.p (v := (Value.int .i64 x40)) (Wn.no rfl) rfl (R.move f71) ?_
            obtain ⟨a78, h79, h80, h81, h⟩ := h
            refine LE.p (v := (Value.pointer (some (a78.add (x40.toNat * 1))))) (Wn.no rfl) rfl (R.idx (s := s1) sl22 rfl rfl h79 h80 h81) ?_
            obtain ⟨w82, hww82, h83, h84, h⟩ := M.st_use h
            refine LE.s (Wn.no rfl) rfl (R.st (a := (a78.add (x40.toNat * 1))) (v := (Value.float .f64 (4607182418800017408 : Nat))) sz26 rfl rfl rfl rfl h83 h84 hww82) ?_
            refine LE.nil ?_
            exact ⟨h, f69, f70, f73, f74, f75⟩
          · intro hb77
            replace h := M.ite_f h hb77
            refine WE.seq ?_
            obtain ⟨J85, hJ85, h⟩ := M.join_use h
            refine WE.regJ (fun e w => ∃ (x86 : Bool), J85 x86 w ∧ e 3 = (SV.v s1) ∧ e 4 = (Value.bool x4) ∧ e 7 = (Value.int .i64 x40) ∧ e 8 = (Value.float .f64 t59) ∧ e 24 = (SV.v p0) ∧ e 25 = (Value.int .i64 (p0.len : Int)) ∧ e 26 = (Value.int .i64 x40) ∧ e 40 = (Value.bool x86)) ?_ ?_
            · clear hJ85
              refine LE.p (v := (Value.bool x4)) (Wn.no rfl) rfl (R.move f70) ?_
              refine LE.p (v := (Value.bool (!x4))) (Wn.no rfl) rfl (R.not rfl) ?_
              refine LE.p (v := (Value.bool (!x4))) (Wn.no rfl) rfl (R.move rfl) ?_
              rcases M.ite_use h with ⟨hb87, h⟩ | ⟨hb87, h⟩
              · refine LE.p (v := (Value.float .f64 t59)) (Wn.yes 2 43 true rfl rfl rfl (congrArg Value.bool hb87)) rfl (R.move f72) ?_
                refine LE.p (v := (Value.bool (fGtr t59 (0 : Nat)))) (Wn.yes 2 43 true rfl rfl rfl (congrArg Value.bool hb87)) rfl (R.fgtr rfl rfl) ?_
                refine LE.p (v := (Value.bool (fGtr t59 (0 : Nat)))) (Wn.no rfl) rfl (R.pickT (congrArg Value.bool hb87) rfl) ?_
                refine LE.p (v := (Value.bool (fGtr t59 (0 : Nat)))) (Wn.no rfl) rfl (R.assign rfl) ?_
                refine LE.nil ?_
                exact ⟨_, h, f69, f70, f71, f72, f73, f74, f75, rfl⟩
              · refine LE.u (Un.no 2 43 true rfl rfl rfl (congrArg Value.bool hb87)) ?_
                refine LE.u (Un.no 2 43 true rfl rfl rfl (congrArg Value.bool hb87)) ?_
                refine LE.p (v := (Value.bool false)) (Wn.no rfl) rfl (R.pickF (congrArg Value.bool hb87) rfl) ?_
                refine LE.p (v := (Value.bool false)) (Wn.no rfl) rfl (R.assign rfl) ?_
                refine LE.nil ?_
                exact ⟨_, h, f69, f70, f71, f72, f73, f74, f75, rfl⟩
            · rintro e88 w89 ⟨x86, h, f90, f91, f92, f93, f94, f95, f96, f97⟩
              subst hJ85
              refine WE.condT rfl (b := x86) f97 ?_ ?_
              · intro hb98
                replace h := M.ite_t h hb98
                refine WE.reg ?_
                refine LE.p (v := (SV.v s1)) (Wn.no rfl) rfl (R.move f90) ?_
                refine LE.p (v := (Value.int .i64 x40)) (Wn.no rfl) rfl (R.move f92) ?_
                refine LE.p (v := (Value.float .f64 t59)) (Wn.no rfl) rfl (R.move f93) ?_
                obtain ⟨a99, h100, h101, h102, h⟩ := h
                refine LE.p (v := (Value.pointer (some (a99.add (x40.toNat * 1))))) (Wn.no rfl) rfl (R.idx (s := s1) sl22 rfl rfl h100 h101 h102) ?_
                obtain ⟨w103, hww103, h104, h105, h⟩ := M.st_use h
                refine LE.s (Wn.no rfl) rfl (R.st (a := (a99.add (x40.toNat * 1))) (v := (Value.float .f64 t59)) sz26 rfl rfl rfl rfl h104 h105 hww103) ?_
                refine LE.nil ?_
                exact ⟨h, f90, f91, f94, f95, f96⟩
              · intro hb98
                replace h := M.ite_f h hb98
                refine WE.skip ?_
                exact ⟨h, f90, f91, f94, f95, f96⟩
      · rintro e106 w107 ⟨h, f108, f109, f110, f111, f112⟩
        subst hJ61
        refine WE.reg ?_
        refine LE.p (v := (Value.int .i64 (IntKind.i64.wrap (x40 + (1 : Int))))) (Wn.no rfl) rfl (R.add f112 rfl) ?_
        refine LE.p (v := (Value.int .i64 (IntKind.i64.wrap (x40 + (1 : Int))))) (Wn.no rfl) rfl (R.move rfl) ?_
        refine LE.nil ?_
        obtain ⟨m47, hm48, h⟩ := h
        exact ⟨m47, hm48, _, h, f108, f109, f110, f111, rfl⟩
    · intro hb54
      replace h := M.ite_f h hb54
      refine WE.exit ?_
      refine WE.seq ?_
      refine WE.reg ?_
      refine LE.p (v := (SV.v s1)) (Wn.no rfl) rfl (R.move f49) ?_
      refine LE.p (v := (SV.v s1)) (Wn.no rfl) rfl (R.assign rfl) ?_
      refine LE.nil ?_
      refine WE.ret ?_
      exact ⟨_, (Res.tmp rfl Res.nil), _, rfl, h⟩
/-- The formula of signpost.metric.sum. -/
def F32 (p0 : SV) (K : Nat → World → Prop) (w0 : World) : Prop :=
M.loop2 (fun (J3 : Nat → Int → World → Prop) (x1 : Nat) (x2 : Int) (w4 : World) => 
M.ite (decide (x2 < (p0.len : Int))) (
M.idx p0 x2 1 fun a16 =>
M.ld (Value.float .f64) (a16.add (x2.toNat * 1)) w4 fun t20 =>
M.fl .add x1 t20 fun r22 =>
J3 r22 (IntKind.i64.wrap (x2 + (1 : Int))) w4) (
K x1 w4)) (0 : Nat) (0 : Int) w0
theorem F32_ok {w0 : World} {p0 : SV} {K : Nat → World → Prop} (h : F32 p0 K w0) : Calls Try.prog 32 #[(SV.v p0)] w0 (R32 K) := by
  refine calls_of_WE (args := [(SV.v p0)]) (rs := [.tmp 2]) Try.func32 rfl (N := 17) rfl rfl rfl rfl ?_
  refine WE.seq ?_
  refine WE.reg ?_
  refine LE.p (v := (Value.float .f64 (0 : Nat))) (Wn.no rfl) rfl (R.assign rfl) ?_
  refine LE.nil ?_
  refine WE.seq ?_
  refine WE.reg ?_
  refine LE.p (v := (Value.float .f64 (0 : Nat))) (Wn.no rfl) rfl (R.assign rfl) ?_
  refine LE.nil ?_
  refine WE.seq ?_
  refine WE.seq ?_
  refine WE.reg ?_
  refine LE.p (v := (SV.v p0)) (Wn.no rfl) rfl (R.move rfl) ?_
  refine LE.p (v := (Value.int .i64 (p0.len : Int))) (Wn.no rfl) rfl (R.len sl22 rfl) ?_
  refine LE.p (v := (Value.int .i64 (0 : Int))) (Wn.no rfl) rfl (R.move rfl) ?_
  refine LE.nil ?_
  refine WE.block ?_
  obtain ⟨I7, ⟨n6, h⟩, hr8⟩ := h
  refine WE.loop (fun n e w => ∃ (x1 : Nat) (x2 : Int), I7 n x1 x2 w ∧ e 3 = (Value.float .f64 x1) ∧ e 6 = (SV.v p0) ∧ e 7 = (Value.int .i64 (p0.len : Int)) ∧ e 8 = (Value.int .i64 x2)) n6 ⟨_, _, h, rfl, rfl, rfl, rfl⟩ ?_
  clear h
  rintro n6 e5 w4 ⟨x1, x2, h, f11, f12, f13, f14⟩
  replace h := hr8 n6 x1 x2 w4 h
  refine WE.seq ?_
  refine WE.reg ?_
  refine LE.p (v := (Value.bool (decide (x2 < (p0.len : Int))))) (Wn.no rfl) rfl (R.lss f14 f13) ?_
  refine LE.nil ?_
  refine WE.seq ?_
  refine WE.condT rfl (b := (decide (x2 < (p0.len : Int)))) rfl ?_ ?_
  · intro hb15
    replace h := M.ite_t h hb15
    refine WE.skip ?_
    refine WE.seq ?_
    refine WE.block ?_
    refine WE.seq ?_
    refine WE.reg ?_
    obtain ⟨a16, h17, h18, h19, h⟩ := h
    refine LE.p (v := (Value.pointer (some (a16.add (x2.toNat * 1))))) (Wn.no rfl) rfl (R.idx (s := p0) sl22 f12 f14 h17 h18 h19) ?_
    obtain ⟨t20, h21, h⟩ := h
    refine LE.r (v := (Value.float .f64 t20)) (Wn.no rfl) rfl (R.ld sc26 rfl h21) ?_
    refine LE.p (v := (Value.float .f64 t20)) (Wn.no rfl) rfl (R.assign rfl) ?_
    refine LE.nil ?_
    refine WE.reg ?_
    refine LE.p (v := (Value.float .f64 x1)) (Wn.no rfl) rfl (R.move f11) ?_
    refine LE.p (v := (Value.float .f64 t20)) (Wn.no rfl) rfl (R.move rfl) ?_
    obtain ⟨r22, h23, h⟩ := h
    refine LE.p (v := (Value.float .f64 r22)) (Wn.no rfl) rfl (R.farith h23 rfl rfl) ?_
    refine LE.p (v := (Value.float .f64 r22)) (Wn.no rfl) rfl (R.assign rfl) ?_
    refine LE.nil ?_
    refine WE.reg ?_
    refine LE.p (v := (Value.int .i64 (IntKind.i64.wrap (x2 + (1 : Int))))) (Wn.no rfl) rfl (R.add f14 rfl) ?_
    refine LE.p (v := (Value.int .i64 (IntKind.i64.wrap (x2 + (1 : Int))))) (Wn.no rfl) rfl (R.move rfl) ?_
    refine LE.nil ?_
    obtain ⟨m9, hm10, h⟩ := h
    exact ⟨m9, hm10, _, _, h, rfl, f12, f13, rfl⟩
  · intro hb15
    replace h := M.ite_f h hb15
    refine WE.exit ?_
    refine WE.seq ?_
    refine WE.reg ?_
    refine LE.p (v := (Value.float .f64 x1)) (Wn.no rfl) rfl (R.move f11) ?_
    refine LE.p (v := (Value.float .f64 x1)) (Wn.no rfl) rfl (R.assign rfl) ?_
    refine LE.nil ?_
    refine WE.ret ?_
    exact ⟨_, (Res.tmp rfl Res.nil), _, rfl, h⟩
/-- The formula of math.Inf. -/
def F33 (p0 : Int) (K : Nat → World → Prop) (w0 : World) : Prop :=
M.join (fun (x2 : Int) (w5 : World) => 
K (Int.toNat x2) w5) fun J1 => 
M.ite (decide ((0 : Int) ≤ p0)) (
J1 (9218868437227405312 : Int) w0) (
J1 (18442240474082181120 : Int) w0)
theorem F33_ok {w0 : World} {p0 : Int} {K : Nat → World → Prop} (h : F33 p0 K w0) : Calls Try.prog 33 #[(Value.int .i64 p0)] w0 (R33 K) := by
  refine calls_of_WE (args := [(Value.int .i64 p0)]) (rs := [.tmp 2]) Try.func33 rfl (N := 8) rfl rfl rfl rfl ?_
  refine WE.seq ?_
  refine WE.reg ?_
  refine LE.p (v := (Value.float .f64 (0 : Nat))) (Wn.no rfl) rfl (R.assign rfl) ?_
  refine LE.nil ?_
  refine WE.seq ?_
  refine WE.reg ?_
  refine LE.p (v := (Value.int .u64 (0 : Int))) (Wn.no rfl) rfl (R.assign rfl) ?_
  refine LE.nil ?_
  obtain ⟨J1, hJ1, h⟩ := M.join_use h
  refine WE.join (fun e w => ∃ (x2 : Int), J1 x2 w ∧ e 3 = (Value.int .u64 x2)) ?_ ?_
  · clear hJ1
    refine WE.seq ?_
    refine WE.reg ?_
    refine LE.p (v := (Value.int .i64 p0)) (Wn.no rfl) rfl (R.move rfl) ?_
    refine LE.p (v := (Value.bool (decide ((0 : Int) ≤ p0)))) (Wn.no rfl) rfl (R.geq rfl rfl) ?_
    refine LE.nil ?_
    refine WE.condT rfl (b := (decide ((0 : Int) ≤ p0))) rfl ?_ ?_
    · intro hb3
      replace h := M.ite_t h hb3
      refine WE.reg ?_
      refine LE.p (v := (Value.int .u64 (9218868437227405312 : Int))) (Wn.no rfl) rfl (R.assign rfl) ?_
      refine LE.nil ?_
      exact ⟨_, h, rfl⟩
    · intro hb3
      replace h := M.ite_f h hb3
      refine WE.reg ?_
      refine LE.p (v := (Value.int .u64 (18442240474082181120 : Int))) (Wn.no rfl) rfl (R.assign rfl) ?_
      refine LE.nil ?_
      exact ⟨_, h, rfl⟩
  · rintro e4 w5 ⟨x2, h, f6⟩
    subst hJ1
    refine WE.seq ?_
    refine WE.reg ?_
    refine LE.p (v := (Value.int .u64 x2)) (Wn.no rfl) rfl (R.move f6) ?_
    refine LE.p (v := (Value.float .f64 (Int.toNat x2))) (Wn.no rfl) rfl (R.callx (xt19 x2) (by exact (Ls.cons rfl Ls.nil)) rfl) ?_
    refine LE.p (v := (Value.float .f64 (Int.toNat x2))) (Wn.no rfl) rfl (R.assign rfl) ?_
    refine LE.nil ?_
    refine WE.ret ?_
    exact ⟨_, (Res.tmp rfl Res.nil), _, rfl, h⟩
/-- The formula of math.Abs. -/
def F34 (p0 : Nat) (K : Nat → World → Prop) (w0 : World) : Prop :=
K (Int.toNat (bAndNot .u64 (p0 : Int) (9223372036854775808 : Int))) w0
theorem F34_ok {w0 : World} {p0 : Nat} {K : Nat → World → Prop} (h : F34 p0 K w0) : Calls Try.prog 34 #[(Value.float .f64 p0)] w0 (R34 K) := by
  refine calls_of_WE (args := [(Value.float .f64 p0)]) (rs := [.tmp 2]) Try.func34 rfl (N := 7) rfl rfl rfl rfl ?_
  refine WE.seq ?_
  refine WE.reg ?_
  refine LE.p (v := (Value.float .f64 (0 : Nat))) (Wn.no rfl) rfl (R.assign rfl) ?_
  refine LE.nil ?_
  refine WE.seq ?_
  refine WE.reg ?_
  refine LE.p (v := (Value.float .f64 p0)) (Wn.no rfl) rfl (R.move rfl) ?_
  refine LE.p (v := (Value.int .u64 (p0 : Int))) (Wn.no rfl) rfl (R.callx (xt30 p0) (by exact (Ls.cons rfl Ls.nil)) rfl) ?_
  refine LE.p (v := (Value.int .u64 (bAndNot .u64 (p0 : Int) (9223372036854775808 : Int)))) (Wn.no rfl) rfl (R.andNot rfl rfl) ?_
  refine LE.p (v := (Value.float .f64 (Int.toNat (bAndNot .u64 (p0 : Int) (9223372036854775808 : Int))))) (Wn.no rfl) rfl (R.callx (xt19 (bAndNot .u64 (p0 : Int) (9223372036854775808 : Int))) (by exact (Ls.cons rfl Ls.nil)) rfl) ?_
  refine LE.p (v := (Value.float .f64 (Int.toNat (bAndNot .u64 (p0 : Int) (9223372036854775808 : Int))))) (Wn.no rfl) rfl (R.assign rfl) ?_
  refine LE.nil ?_
  refine WE.ret ?_
  exact ⟨_, (Res.tmp rfl Res.nil), _, rfl, h⟩
/-- The formula of signpost.signpostref2.Right. -/
def F35 (p0 : Nat) (K : Bool → World → Prop) (w0 : World) : Prop :=
K (fGeq p0 (0 : Nat)) w0
theorem F35_ok {w0 : World} {p0 : Nat} {K : Bool → World → Prop} (h : F35 p0 K w0) : Calls Try.prog 35 #[(Value.float .f64 p0)] w0 (R35 K) := by
  refine calls_of_WE (args := [(Value.float .f64 p0)]) (rs := [.tmp 2]) Try.func35 rfl (N := 5) rfl rfl rfl rfl ?_
  refine WE.seq ?_
  refine WE.reg ?_
  refine LE.p (v := (Value.bool false)) (Wn.no rfl) rfl (R.assign rfl) ?_
  refine LE.nil ?_
  refine WE.seq ?_
  refine WE.reg ?_
  refine LE.p (v := (Value.float .f64 p0)) (Wn.no rfl) rfl (R.move rfl) ?_
  refine LE.p (v := (Value.bool (fGeq p0 (0 : Nat)))) (Wn.no rfl) rfl (R.fgeq rfl rfl) ?_
  refine LE.p (v := (Value.bool (fGeq p0 (0 : Nat)))) (Wn.no rfl) rfl (R.assign rfl) ?_
  refine LE.nil ?_
  refine WE.ret ?_
  exact ⟨_, (Res.tmp rfl Res.nil), _, rfl, h⟩
/-- The formula of signpost.signpostref2.Bits. -/
def F36 (p0 : Nat) (K : Int → World → Prop) (w0 : World) : Prop :=
Calls Try.prog 37 #[(Value.float .f64 p0)] w0 (R37 fun r1 w2 =>
K (r1 : Int) w2)
theorem F36_ok {w0 : World} {p0 : Nat} {K : Int → World → Prop} (h : F36 p0 K w0) : Calls Try.prog 36 #[(Value.float .f64 p0)] w0 (R36 K) := by
  refine calls_of_WE (args := [(Value.float .f64 p0)]) (rs := [.tmp 2]) Try.func36 rfl (N := 6) rfl rfl rfl rfl ?_
  refine WE.seq ?_
  refine WE.reg ?_
  refine LE.p (v := (Value.int .u64 (0 : Int))) (Wn.no rfl) rfl (R.assign rfl) ?_
  refine LE.nil ?_
  refine WE.seq ?_
  refine WE.reg ?_
  refine LE.p (v := (Value.float .f64 p0)) (Wn.no rfl) rfl (R.move rfl) ?_
  refine LE.c (Wn.no rfl) rfl (R.call bd37 (Ls.cons rfl Ls.nil) rfl) (Calls.mono h ?_)
  rintro _ w2 ⟨r1, rfl, h⟩
  refine ⟨_, rfl, ?_⟩
  refine LE.p (v := (Value.int .u64 (r1 : Int))) (Wn.no rfl) rfl (R.callx (xt30 r1) (by exact (Ls.cons rfl Ls.nil)) rfl) ?_
  refine LE.p (v := (Value.int .u64 (r1 : Int))) (Wn.no rfl) rfl (R.assign rfl) ?_
  refine LE.nil ?_
  refine WE.ret ?_
  exact ⟨_, (Res.tmp rfl Res.nil), _, rfl, h⟩
/-- The formula of signpost.signpostref2.Clean. -/
def F37 (p0 : Nat) (K : Nat → World → Prop) (w0 : World) : Prop :=
Calls Try.prog 35 #[(Value.float .f64 p0)] w0 (R35 fun r1 w2 =>
M.ite (!r1) (
Calls Try.prog 33 #[(Value.int .i64 (1 : Int))] w2 (R33 fun r4 w5 =>
K r4 w5)) (
M.ite (fEql p0 (0 : Nat)) (
K (0 : Nat) w2) (
K p0 w2)))
theorem F37_ok {w0 : World} {p0 : Nat} {K : Nat → World → Prop} (h : F37 p0 K w0) : Calls Try.prog 37 #[(Value.float .f64 p0)] w0 (R37 K) := by
  refine calls_of_WE (args := [(Value.float .f64 p0)]) (rs := [.tmp 2]) Try.func37 rfl (N := 10) rfl rfl rfl rfl ?_
  refine WE.seq ?_
  refine WE.reg ?_
  refine LE.p (v := (Value.float .f64 (0 : Nat))) (Wn.no rfl) rfl (R.assign rfl) ?_
  refine LE.nil ?_
  refine WE.seq ?_
  refine WE.seq ?_
  refine WE.reg ?_
  refine LE.p (v := (Value.float .f64 p0)) (Wn.no rfl) rfl (R.move rfl) ?_
  refine LE.c (Wn.no rfl) rfl (R.call bd35 (Ls.cons rfl Ls.nil) rfl) (Calls.mono h ?_)
  rintro _ w2 ⟨r1, rfl, h⟩
  refine ⟨_, rfl, ?_⟩
  refine LE.p (v := (Value.bool (!r1))) (Wn.no rfl) rfl (R.not rfl) ?_
  refine LE.nil ?_
  refine WE.condT rfl (b := (!r1)) rfl ?_ ?_
  · intro hb3
    replace h := M.ite_t h hb3
    refine WE.seq ?_
    refine WE.reg ?_
    refine LE.c (Wn.no rfl) rfl (R.call bd33 (Ls.cons rfl Ls.nil) rfl) (Calls.mono h ?_)
    rintro _ w5 ⟨r4, rfl, h⟩
    refine ⟨_, rfl, ?_⟩
    refine LE.p (v := (Value.float .f64 r4)) (Wn.no rfl) rfl (R.assign rfl) ?_
    refine LE.nil ?_
    refine WE.ret ?_
    exact ⟨_, (Res.tmp rfl Res.nil), _, rfl, h⟩
  · intro hb3
    replace h := M.ite_f h hb3
    refine WE.skip ?_
    refine WE.seq ?_
    refine WE.seq ?_
    refine WE.reg ?_
    refine LE.p (v := (Value.float .f64 p0)) (Wn.no rfl) rfl (R.move rfl) ?_
    refine LE.p (v := (Value.bool (fEql p0 (0 : Nat)))) (Wn.no rfl) rfl (R.feql rfl rfl) ?_
    refine LE.nil ?_
    refine WE.condT rfl (b := (fEql p0 (0 : Nat))) rfl ?_ ?_
    · intro hb6
      replace h := M.ite_t h hb6
      refine WE.seq ?_
      refine WE.reg ?_
      refine LE.p (v := (Value.float .f64 (0 : Nat))) (Wn.no rfl) rfl (R.assign rfl) ?_
      refine LE.nil ?_
      refine WE.ret ?_
      exact ⟨_, (Res.tmp rfl Res.nil), _, rfl, h⟩
    · intro hb6
      replace h := M.ite_f h hb6
      refine WE.skip ?_
      refine WE.seq ?_
      refine WE.reg ?_
      refine LE.p (v := (Value.float .f64 p0)) (Wn.no rfl) rfl (R.move rfl) ?_
      refine LE.p (v := (Value.float .f64 p0)) (Wn.no rfl) rfl (R.assign rfl) ?_
      refine LE.nil ?_
      refine WE.ret ?_
      exact ⟨_, (Res.tmp rfl Res.nil), _, rfl, h⟩
/-- The formula of signpost.signpostref2.Add. -/
def F38 (p0 : Nat) (p1 : Nat) (K : Nat → World → Prop) (w0 : World) : Prop :=
Calls Try.prog 37 #[(Value.float .f64 p0)] w0 (R37 fun r1 w2 =>
Calls Try.prog 37 #[(Value.float .f64 p1)] w2 (R37 fun r3 w4 =>
M.fl .add r1 r3 fun r5 =>
K r5 w4))
theorem F38_ok {w0 : World} {p0 : Nat} {p1 : Nat} {K : Nat → World → Prop} (h : F38 p0 p1 K w0) : Calls Try.prog 38 #[(Value.float .f64 p0), (Value.float .f64 p1)] w0 (R38 K) := by
  refine calls_of_WE (args := [(Value.float .f64 p0), (Value.float .f64 p1)]) (rs := [.tmp 4]) Try.func38 rfl (N := 10) rfl rfl rfl rfl ?_
  refine WE.seq ?_
  refine WE.reg ?_
  refine LE.p (v := (Value.float .f64 (0 : Nat))) (Wn.no rfl) rfl (R.assign rfl) ?_
  refine LE.nil ?_
  refine WE.seq ?_
  refine WE.reg ?_
  refine LE.p (v := (Value.float .f64 p0)) (Wn.no rfl) rfl (R.move rfl) ?_
  refine LE.c (Wn.no rfl) rfl (R.call bd37 (Ls.cons rfl Ls.nil) rfl) (Calls.mono h ?_)
  rintro _ w2 ⟨r1, rfl, h⟩
  refine ⟨_, rfl, ?_⟩
  refine LE.p (v := (Value.float .f64 p1)) (Wn.no rfl) rfl (R.move rfl) ?_
  refine LE.c (Wn.no rfl) rfl (R.call bd37 (Ls.cons rfl Ls.nil) rfl) (Calls.mono h ?_)
  rintro _ w4 ⟨r3, rfl, h⟩
  refine ⟨_, rfl, ?_⟩
  obtain ⟨r5, h6, h⟩ := h
  refine LE.p (v := (Value.float .f64 r5)) (Wn.no rfl) rfl (R.farith h6 rfl rfl) ?_
  refine LE.p (v := (Value.float .f64 r5)) (Wn.no rfl) rfl (R.assign rfl) ?_
  refine LE.nil ?_
  refine WE.ret ?_
  exact ⟨_, (Res.tmp rfl Res.nil), _, rfl, h⟩
/-- The formula of signpost.signpostref2.Less. -/
def F39 (p0 : Nat) (p1 : Nat) (K : Bool → World → Prop) (w0 : World) : Prop :=
Calls Try.prog 37 #[(Value.float .f64 p0)] w0 (R37 fun r1 w2 =>
Calls Try.prog 37 #[(Value.float .f64 p1)] w2 (R37 fun r3 w4 =>
K (fLss r1 r3) w4))
theorem F39_ok {w0 : World} {p0 : Nat} {p1 : Nat} {K : Bool → World → Prop} (h : F39 p0 p1 K w0) : Calls Try.prog 39 #[(Value.float .f64 p0), (Value.float .f64 p1)] w0 (R39 K) := by
  refine calls_of_WE (args := [(Value.float .f64 p0), (Value.float .f64 p1)]) (rs := [.tmp 4]) Try.func39 rfl (N := 10) rfl rfl rfl rfl ?_
  refine WE.seq ?_
  refine WE.reg ?_
  refine LE.p (v := (Value.bool false)) (Wn.no rfl) rfl (R.assign rfl) ?_
  refine LE.nil ?_
  refine WE.seq ?_
  refine WE.reg ?_
  refine LE.p (v := (Value.float .f64 p0)) (Wn.no rfl) rfl (R.move rfl) ?_
  refine LE.c (Wn.no rfl) rfl (R.call bd37 (Ls.cons rfl Ls.nil) rfl) (Calls.mono h ?_)
  rintro _ w2 ⟨r1, rfl, h⟩
  refine ⟨_, rfl, ?_⟩
  refine LE.p (v := (Value.float .f64 p1)) (Wn.no rfl) rfl (R.move rfl) ?_
  refine LE.c (Wn.no rfl) rfl (R.call bd37 (Ls.cons rfl Ls.nil) rfl) (Calls.mono h ?_)
  rintro _ w4 ⟨r3, rfl, h⟩
  refine ⟨_, rfl, ?_⟩
  refine LE.p (v := (Value.bool (fLss r1 r3))) (Wn.no rfl) rfl (R.flss rfl rfl) ?_
  refine LE.p (v := (Value.bool (fLss r1 r3))) (Wn.no rfl) rfl (R.assign rfl) ?_
  refine LE.nil ?_
  refine WE.ret ?_
  exact ⟨_, (Res.tmp rfl Res.nil), _, rfl, h⟩
/-- The formula of signpost.signpostref2.Same. -/
def F40 (p0 : Nat) (p1 : Nat) (K : Bool → World → Prop) (w0 : World) : Prop :=
Calls Try.prog 37 #[(Value.float .f64 p0)] w0 (R37 fun r1 w2 =>
Calls Try.prog 37 #[(Value.float .f64 p1)] w2 (R37 fun r3 w4 =>
K (fEql r1 r3) w4))
theorem F40_ok {w0 : World} {p0 : Nat} {p1 : Nat} {K : Bool → World → Prop} (h : F40 p0 p1 K w0) : Calls Try.prog 40 #[(Value.float .f64 p0), (Value.float .f64 p1)] w0 (R40 K) := by
  refine calls_of_WE (args := [(Value.float .f64 p0), (Value.float .f64 p1)]) (rs := [.tmp 4]) Try.func40 rfl (N := 10) rfl rfl rfl rfl ?_
  refine WE.seq ?_
  refine WE.reg ?_
  refine LE.p (v := (Value.bool false)) (Wn.no rfl) rfl (R.assign rfl) ?_
  refine LE.nil ?_
  refine WE.seq ?_
  refine WE.reg ?_
  refine LE.p (v := (Value.float .f64 p0)) (Wn.no rfl) rfl (R.move rfl) ?_
  refine LE.c (Wn.no rfl) rfl (R.call bd37 (Ls.cons rfl Ls.nil) rfl) (Calls.mono h ?_)
  rintro _ w2 ⟨r1, rfl, h⟩
  refine ⟨_, rfl, ?_⟩
  refine LE.p (v := (Value.float .f64 p1)) (Wn.no rfl) rfl (R.move rfl) ?_
  refine LE.c (Wn.no rfl) rfl (R.call bd37 (Ls.cons rfl Ls.nil) rfl) (Calls.mono h ?_)
  rintro _ w4 ⟨r3, rfl, h⟩
  refine ⟨_, rfl, ?_⟩
  refine LE.p (v := (Value.bool (fEql r1 r3))) (Wn.no rfl) rfl (R.feql rfl rfl) ?_
  refine LE.p (v := (Value.bool (fEql r1 r3))) (Wn.no rfl) rfl (R.assign rfl) ?_
  refine LE.nil ?_
  refine WE.ret ?_
  exact ⟨_, (Res.tmp rfl Res.nil), _, rfl, h⟩
/-- The formula of signpost.signpostref2.total. -/
def F41 (p0 : SV) (K : Nat → World → Prop) (w0 : World) : Prop :=
M.loop2 (fun (J3 : Nat → Int → World → Prop) (x1 : Nat) (x2 : Int) (w4 : World) => 
M.ite (decide (x2 < (p0.len : Int))) (
M.idx p0 x2 1 fun a15 =>
M.ld (Value.float .f64) (a15.add (x2.toNat * 1)) w4 fun t19 =>
M.fl .add x1 t19 fun r21 =>
J3 r21 (IntKind.i64.wrap (x2 + (1 : Int))) w4) (
K x1 w4)) (0 : Nat) (0 : Int) w0
theorem F41_ok {w0 : World} {p0 : SV} {K : Nat → World → Prop} (h : F41 p0 K w0) : Calls Try.prog 41 #[(SV.v p0)] w0 (R41 K) := by
  refine calls_of_WE (args := [(SV.v p0)]) (rs := [.tmp 2]) Try.func41 rfl (N := 18) rfl rfl rfl rfl ?_
  refine WE.seq ?_
  refine WE.reg ?_
  refine LE.p (v := (Value.float .f64 (0 : Nat))) (Wn.no rfl) rfl (R.assign rfl) ?_
  refine LE.nil ?_
  refine WE.seq ?_
  refine WE.reg ?_
  refine LE.p (v := (Value.float .f64 (0 : Nat))) (Wn.no rfl) rfl (R.assign rfl) ?_
  refine LE.nil ?_
  refine WE.seq ?_
  refine WE.seq ?_
  refine WE.reg ?_
  refine LE.p (v := (Value.int .i64 (0 : Int))) (Wn.no rfl) rfl (R.assign rfl) ?_
  refine LE.nil ?_
  refine WE.block ?_
  obtain ⟨I7, ⟨n6, h⟩, hr8⟩ := h
  refine WE.loop (fun n e w => ∃ (x1 : Nat) (x2 : Int), I7 n x1 x2 w ∧ e 0 = (SV.v p0) ∧ e 3 = (Value.float .f64 x1) ∧ e 4 = (Value.int .i64 x2)) n6 ⟨_, _, h, rfl, rfl, rfl⟩ ?_
  clear h
  rintro n6 e5 w4 ⟨x1, x2, h, f11, f12, f13⟩
  replace h := hr8 n6 x1 x2 w4 h
  refine WE.seq ?_
  refine WE.seq ?_
  refine WE.reg ?_
  refine LE.p (v := (Value.int .i64 x2)) (Wn.no rfl) rfl (R.move f13) ?_
  refine LE.p (v := (SV.v p0)) (Wn.no rfl) rfl (R.move f11) ?_
  refine LE.p (v := (Value.int .i64 (p0.len : Int))) (Wn.no rfl) rfl (R.len sl22 rfl) ?_
  refine LE.p (v := (Value.bool (decide (x2 < (p0.len : Int))))) (Wn.no rfl) rfl (R.lss rfl rfl) ?_
  refine LE.nil ?_
  refine WE.condT rfl (b := (decide (x2 < (p0.len : Int)))) rfl ?_ ?_
  · intro hb14
    replace h := M.ite_t h hb14
    refine WE.skip ?_
    refine WE.seq ?_
    refine WE.block ?_
    refine WE.reg ?_
    refine LE.p (v := (Value.float .f64 x1)) (Wn.no rfl) rfl (R.move f12) ?_
    refine LE.p (v := (SV.v p0)) (Wn.no rfl) rfl (R.move f11) ?_
    refine LE.p (v := (Value.int .i64 x2)) (Wn.no rfl) rfl (R.move f13) ?_
    obtain ⟨a15, h16, h17, h18, h⟩ := h
    refine LE.p (v := (Value.pointer (some (a15.add (x2.toNat * 1))))) (Wn.no rfl) rfl (R.idx (s := p0) sl22 rfl rfl h16 h17 h18) ?_
    obtain ⟨t19, h20, h⟩ := h
    refine LE.r (v := (Value.float .f64 t19)) (Wn.no rfl) rfl (R.ld sc26 rfl h20) ?_
    obtain ⟨r21, h22, h⟩ := h
    refine LE.p (v := (Value.float .f64 r21)) (Wn.no rfl) rfl (R.farith h22 rfl rfl) ?_
    refine LE.p (v := (Value.float .f64 r21)) (Wn.no rfl) rfl (R.assign rfl) ?_
    refine LE.nil ?_
    refine WE.reg ?_
    refine LE.p (v := (Value.int .i64 x2)) (Wn.no rfl) rfl (R.move f13) ?_
    refine LE.p (v := (Value.int .i64 (IntKind.i64.wrap (x2 + (1 : Int))))) (Wn.no rfl) rfl (R.add rfl rfl) ?_
    refine LE.p (v := (Value.int .i64 (IntKind.i64.wrap (x2 + (1 : Int))))) (Wn.no rfl) rfl (R.assign rfl) ?_
    refine LE.nil ?_
    obtain ⟨m9, hm10, h⟩ := h
    exact ⟨m9, hm10, _, _, h, f11, rfl, rfl⟩
  · intro hb14
    replace h := M.ite_f h hb14
    refine WE.exit ?_
    refine WE.seq ?_
    refine WE.reg ?_
    refine LE.p (v := (Value.float .f64 x1)) (Wn.no rfl) rfl (R.move f12) ?_
    refine LE.p (v := (Value.float .f64 x1)) (Wn.no rfl) rfl (R.assign rfl) ?_
    refine LE.nil ?_
    refine WE.ret ?_
    exact ⟨_, (Res.tmp rfl Res.nil), _, rfl, h⟩
/-- The formula of math.Copysign. -/
def F42 (p0 : Nat) (p1 : Nat) (K : Nat → World → Prop) (w0 : World) : Prop :=
K (Int.toNat (bOr .u64 (bAndNot .u64 (p0 : Int) (9223372036854775808 : Int)) (bAnd .u64 (p1 : Int) (9223372036854775808 : Int)))) w0
theorem F42_ok {w0 : World} {p0 : Nat} {p1 : Nat} {K : Nat → World → Prop} (h : F42 p0 p1 K w0) : Calls Try.prog 42 #[(Value.float .f64 p0), (Value.float .f64 p1)] w0 (R42 K) := by
  refine calls_of_WE (args := [(Value.float .f64 p0), (Value.float .f64 p1)]) (rs := [.tmp 4]) Try.func42 rfl (N := 13) rfl rfl rfl rfl ?_
  refine WE.seq ?_
  refine WE.reg ?_
  refine LE.p (v := (Value.float .f64 (0 : Nat))) (Wn.no rfl) rfl (R.assign rfl) ?_
  refine LE.nil ?_
  refine WE.seq ?_
  refine WE.reg ?_
  refine LE.p (v := (Value.float .f64 p0)) (Wn.no rfl) rfl (R.move rfl) ?_
  refine LE.p (v := (Value.int .u64 (p0 : Int))) (Wn.no rfl) rfl (R.callx (xt30 p0) (by exact (Ls.cons rfl Ls.nil)) rfl) ?_
  refine LE.p (v := (Value.int .u64 (bAndNot .u64 (p0 : Int) (9223372036854775808 : Int)))) (Wn.no rfl) rfl (R.andNot rfl rfl) ?_
  refine LE.p (v := (Value.float .f64 p1)) (Wn.no rfl) rfl (R.move rfl) ?_
  refine LE.p (v := (Value.int .u64 (p1 : Int))) (Wn.no rfl) rfl (R.callx (xt30 p1) (by exact (Ls.cons rfl Ls.nil)) rfl) ?_
  refine LE.p (v := (Value.int .u64 (bAnd .u64 (p1 : Int) (9223372036854775808 : Int)))) (Wn.no rfl) rfl (R.and rfl rfl) ?_
  refine LE.p (v := (Value.int .u64 (bOr .u64 (bAndNot .u64 (p0 : Int) (9223372036854775808 : Int)) (bAnd .u64 (p1 : Int) (9223372036854775808 : Int))))) (Wn.no rfl) rfl (R.or rfl rfl) ?_
  refine LE.p (v := (Value.float .f64 (Int.toNat (bOr .u64 (bAndNot .u64 (p0 : Int) (9223372036854775808 : Int)) (bAnd .u64 (p1 : Int) (9223372036854775808 : Int)))))) (Wn.no rfl) rfl (R.callx (xt19 (bOr .u64 (bAndNot .u64 (p0 : Int) (9223372036854775808 : Int)) (bAnd .u64 (p1 : Int) (9223372036854775808 : Int)))) (by exact (Ls.cons rfl Ls.nil)) rfl) ?_
  refine LE.p (v := (Value.float .f64 (Int.toNat (bOr .u64 (bAndNot .u64 (p0 : Int) (9223372036854775808 : Int)) (bAnd .u64 (p1 : Int) (9223372036854775808 : Int)))))) (Wn.no rfl) rfl (R.assign rfl) ?_
  refine LE.nil ?_
  refine WE.ret ?_
  exact ⟨_, (Res.tmp rfl Res.nil), _, rfl, h⟩
end Go.Proofs.Ytkbfpjkikjmmeaa
