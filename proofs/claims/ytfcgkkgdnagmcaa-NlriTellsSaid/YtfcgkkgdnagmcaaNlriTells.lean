/-
  NlriTells: prefixes are written, and read, as the document says; their bytes with one turned, too.
-/
import Derived.Test.YtfcgkkgdnagmcaaNlriL
namespace Go.Proofs.Ytfcgkkgdnagmcaa
set_option linter.unusedVariables false
set_option linter.unusedSimpArgs false
open Go.Sp
open Go.RowKit (Below)

theorem tells_c {W : World} (p3 p4 : Int) {s0 s1 s2 : SV} {zs ns : List Int} {bs : List UInt8} (h0 : Rd 1 W s0 (zs.map (Value.int .u32))) (hz : ∀ z ∈ zs, 0 ≤ z ∧ z < 4294967296) (h1 : Rd 1 W s1 (ns.map (Value.int .i64))) (h2 : Rd 1 W s2 (bv bs)) :
    Calls Try.prog 4 #[s0.v, s1.v, s2.v, .int .i64 p3, .int .u8 p4] W (R4 fun r w' => r = true ∧ Below W.heap.size W w') := by
  refine F4_ok ((prefixes_c h0 hz h1).mono fun e w1 g => ?_)
  obtain ⟨r1, rfl, l, o1, l40, hlt, f1, k1⟩ := g
  refine ⟨_, rfl, (tame_c o1.rd hlt (by omega)).mono fun e w2 g => ?_⟩
  obtain ⟨r2, rfl, m, o2, hml, hmt, f2, k2⟩ := g
  refine ⟨_, rfl, (renc_c o2.rd (fun x hx => (hmt x hx).1) (by omega)).mono fun e w3 g => ?_⟩
  obtain ⟨r3, ok3, rfl, h3, _, k3⟩ := g
  obtain ⟨rfl, o3, f3⟩ := h3 (fun x hx => (hmt x hx).2)
  have a1 := (Aft.refl W).new k1
  have a2 := a1.new k2
  have a3 := a2.new k3
  have hel := encB_le m
  generalize encB m = x at *
  refine ⟨_, _, rfl, M.join_by (fun J => ∀ w, Keeps [] w3 w → J false w) ?_ ?_⟩
  rotate_left
  · intro J hJ
    refine (same_c ((o1.keep k2 (by simp)).keep k3 (by simp)).rd hlt (by omega)).mono fun e w4 g => ?_
    obtain ⟨r4, rfl, rfl, k4⟩ := g
    refine ⟨_, rfl, M.ite_n rfl ((same_c ((o2.keep k3 (by simp)).keep k4 (by simp)).rd (fun x hx => (hmt x hx).1) (by omega)).mono fun e w5 g => ?_)⟩
    obtain ⟨r5, rfl, rfl, k5⟩ := g
    have k35 := k4.trans k5 (by simp)
    have h2' := h2.arg (a3.new k35).1
    refine ⟨_, rfl, M.ite_n rfl ((cut_c h2' 200).mono fun e w6 g => ?_)⟩
    obtain ⟨r6, rfl, rfl, c6⟩ := g
    refine ⟨_, rfl, (read_c (c6 _ h2') (by rw [List.length_take]; omega)).mono fun e w7 g => ?_⟩
    obtain ⟨r7, rfl, rfl, k7⟩ := g
    have k37 := k35.trans k7 (by simp)
    refine ⟨_, rfl, M.ite_n rfl ((read_c (o3.keep k37 (by simp)).rd (by omega)).mono fun e w8 g => ?_)⟩
    obtain ⟨r8, rfl, rfl, k8⟩ := g
    exact ⟨_, rfl, hJ _ (k37.trans k8 (by simp))⟩
  intro w4 k4
  have o4 := o3.keep k4 (by simp)
  have a4 := a3.new k4
  have hl4 := o4.rd.len
  rw [bv_length, Nat.mul_one] at hl4
  have hfr : ∀ y ∈ r3.blk, W.heap.size ≤ y := fun y hy => by have := f3 y hy; have := a2.2; omega
  refine M.ite_ff (M.join_by (fun J => ∀ w y, Own 5 1 w r3 (bv y) → y.length = x.length → Aft W w → J w) ?_ ?_)
  · intro w5 y o5 hyl a5
    refine M.join_by (fun J => ∀ w, Aft W w → J true w) (fun w h => ⟨rfl, h.1⟩) fun J hJ => ?_
    refine (read_c o5.rd (by omega)).mono fun e w6 g => ?_
    obtain ⟨r6, rfl, rfl, k6⟩ := g
    refine ⟨_, rfl, M.ite_tt (known_c.mono fun e w7 g => ?_)⟩
    obtain ⟨r7, rfl, rfl, k7⟩ := g
    exact ⟨_, rfl, hJ _ ((a5.new k6).new k7)⟩
  · intro J hJ
    refine M.ite_by (fun c => ?_) (fun c => hJ _ _ o4 rfl a4)
    have c := of_decide_eq_true c
    rw [w64 (n := (r3.len : Int) - 1) (by omega) (by omega)]
    refine (within_c p3 0 _ (by omega) (by omega) (by omega)).mono fun e w6 g => ?_
    obtain ⟨r6, rfl, _, g0, g9, rfl⟩ := g
    obtain ⟨a, ha⟩ := o4.rd.some (by omega)
    obtain ⟨j, rfl⟩ := Int.eq_ofNat_of_zero_le g0
    have hj : j < x.length := by omega
    have hcell := o4.rd.at ha (bv_get (List.getElem?_eq_getElem hj))
    obtain ⟨c8, hc⟩ := bXor_u8 (x[j].toNat : Int) p4
    obtain ⟨u1, u2, u3, u4⟩ := o4.put ha (j := j) (by rw [bv_length]; exact hj) (Value.int .u8 (c8.toNat : Int))
    rw [bv_set] at u3
    refine ⟨_, rfl, a, ha, by omega, by omega, _, by simpa using hcell, a, ha, by omega, by omega, ?_⟩
    dsimp only
    rw [hc, show ((j : Nat) : Int).toNat * 1 = j by omega]
    exact ⟨u1, u2, hJ _ _ u3 (by simp) (a4.step u4 hfr)⟩
theorem tells_law (W : World) (args : List Value) (h : GdArgs W [(false, .cons (.slice (.cons (.int .u32) .nil)) .nil), (false, .cons (.slice (.cons (.int .i64) .nil)) .nil), (false, .cons (.slice (.cons (.int .u8) .nil)) .nil), (false, .cons (.int .i64) .nil), (false, .cons (.int .u8) .nil)] args) : Calls Try.prog 4 args.toArray W fun e W' => e = .returned (.bool true) ∧ Below W.heap.size W W' := by
  obtain ⟨v0, r, rfl, h0, h⟩ := h.one
  obtain ⟨v1, r, rfl, h1, h⟩ := h.one
  obtain ⟨v2, r, rfl, h2, h⟩ := h.one
  obtain ⟨v3, r, rfl, h3, h⟩ := h.one
  obtain ⟨v4, r, rfl, h4, h⟩ := h.one
  cases h
  obtain ⟨s0, zs, rfl, r0, _, _, hz⟩ := good_ints h0
  obtain ⟨s1, ns, rfl, r1, _, _, _⟩ := good_ints h1
  obtain ⟨s2, bs, rfl, r2, _, _⟩ := good_bytes h2
  obtain ⟨n3, rfl, _⟩ := good_int h3
  obtain ⟨n4, rfl, _⟩ := good_int h4
  have e1 : IntKind.u32.min = 0 := rfl
  have e2 : IntKind.u32.max = 4294967295 := rfl
  exact (tells_c n3 n4 r0 (fun z hz' => by have := hz z hz'; omega) r1 r2).mono fun e w' ⟨b, he, hb, hw⟩ => by subst hb; exact ⟨he, hw⟩
end Go.Proofs.Ytfcgkkgdnagmcaa
