/-
  OpenTells: OPENs are written, and read, as the document says; their bytes with one turned, too.
-/
import Derived.Test.YtdlefnpnnpohmaaOpenC
namespace Go.Proofs.Ytdlefnpnnpohmaa
set_option linter.unusedVariables false
set_option linter.unusedSimpArgs false
open Go.Sp
open Go.RowKit (Below)

theorem tells_c {W : World} (p0 p1 p2 p4 p5 : Int) {s : SV} {bs : List UInt8} (hs : Rd 1 W s (bv bs)) :
    Calls Try.prog 3 #[.int .i64 p0, .int .i64 p1, .int .u32 p2, s.v, .int .i64 p4, .int .u8 p5] W (R3 fun r w' => r = true ∧ Below W.heap.size W w') := by
  refine F3_ok ((within_c p0 0 65534 (by omega) (by omega) (by omega)).mono fun e w1 g => ?_)
  obtain ⟨r1, rfl, _, _, _, rfl⟩ := g
  refine ⟨_, rfl, (within_c p1 0 65532 (by omega) (by omega) (by omega)).mono fun e w1 g => ?_⟩
  obtain ⟨r3, rfl, _, _, _, rfl⟩ := g
  refine ⟨_, rfl, M.new_blk fun b w2 hb B k2 => M.stA_blk B rfl fun w3 B3 k3 => ⟨_, B3.cell 0, _, B3.cell 1, _, B3.cell 2, (renc_c _ _ _).mono fun e w4 g => ?_⟩⟩
  obtain ⟨r15, rfl, o4, f4, k4⟩ := g
  have hx := helloB_len (IntKind.i64.wrap (1 + r1)) (IntKind.i64.wrap (3 + r3)) (bOr .u32 p2 1)
  generalize helloB (IntKind.i64.wrap (1 + r1)) (IntKind.i64.wrap (3 + r3)) (bOr .u32 p2 1) = x at *
  have a2 := (Aft.refl w1).new k2
  have a3 : Aft w1 w3 := a2.step k3 (by simp; omega)
  have a4 := a3.new k4
  have B4 := B3.keep k4 (by simp)
  have hcut : ∀ {w : World}, Aft w1 w → Rd 1 w s (bv bs) := fun h => hs.arg h.1
  refine ⟨_, rfl, M.join_by (fun J => ∀ w, Keeps [] w4 w → J false w) ?_ ?_⟩
  rotate_left
  · intro J hJ
    refine (same_c p0 p1 p2).mono fun e w5 g => ?_
    obtain ⟨r5, rfl, rfl, k5⟩ := g
    have B5 := B4.keep k5 (by simp)
    refine ⟨_, rfl, M.ite_n rfl ⟨_, B5.cell 0, _, B5.cell 1, _, B5.cell 2, (same_c _ _ _).mono fun e w6 g => ?_⟩⟩
    obtain ⟨r6, rfl, rfl, k6⟩ := g
    have k46 := k5.trans k6 (by simp)
    refine ⟨_, rfl, M.ite_n rfl ((read_c (o4.keep k46 (by simp)).rd (by omega)).mono fun e w7 g => ?_)⟩
    obtain ⟨r7, rfl, rfl, k7⟩ := g
    have k47 := k46.trans k7 (by simp)
    refine ⟨_, rfl, M.ite_n rfl ((cut_c (hcut (a4.new k47)) 60).mono fun e w8 g => ?_)⟩
    obtain ⟨r8, rfl, rfl, c8⟩ := g
    refine ⟨_, rfl, (read_c (c8 _ (hcut (a4.new k47))) (by rw [List.length_take]; omega)).mono fun e w9 g => ?_⟩
    obtain ⟨r9, rfl, rfl, k9⟩ := g
    exact ⟨_, rfl, hJ _ (k47.trans k9 (by simp))⟩
  intro w5 k5
  have o5 := o4.keep k5 (by simp)
  have hl5 := o5.rd.len
  rw [bv_length, Nat.mul_one, hx] at hl5
  have a5 := a4.new k5
  refine M.ite_ff ?_
  rw [← hl5, w64 (n := ((10 : Nat) : Int) - 1) (by omega) (by omega)]
  refine (within_c p4 0 _ (by omega) (by omega) (by omega)).mono fun e w6 g => ?_
  obtain ⟨r6, rfl, _, h0, h9, rfl⟩ := g
  obtain ⟨a, ha⟩ := o5.rd.some (by omega)
  obtain ⟨j, rfl⟩ := Int.eq_ofNat_of_zero_le h0
  have hj : j < x.length := by omega
  have hcell := o5.rd.at ha (bv_get (List.getElem?_eq_getElem hj))
  obtain ⟨c, hc⟩ := bXor_u8 (x[j].toNat : Int) p5
  obtain ⟨u1, u2, u3, u4⟩ := o5.put ha (j := j) (by rw [bv_length]; exact hj) (Value.int .u8 (c.toNat : Int))
  rw [bv_set] at u3
  have hfr : ∀ y ∈ r15.blk, w1.heap.size ≤ y := fun y hy => by have := f4 y hy; have := a3.2; omega
  refine ⟨_, rfl, a, ha, by omega, by omega, _, by simpa using hcell, a, ha, by omega, by omega, ?_⟩
  dsimp only
  rw [hc, show ((j : Nat) : Int).toNat * 1 = j by omega]
  refine ⟨u1, u2, ?_⟩
  generalize w6.setCell (a.add j) (Value.int .u8 (c.toNat : Int)) = w7 at *
  have a7 := a5.step u4 hfr
  refine M.join_by (fun J => ∀ w, Aft w1 w → J true w) (fun w h => ⟨rfl, h.1⟩) fun J hJ => ?_
  have hxs : (x.set j c).length = 10 := by simp [hx]
  refine (read_c u3.rd (by omega)).mono fun e w8 g => ?_
  obtain ⟨r8, rfl, rfl, k8⟩ := g
  have a8 := a7.new k8
  refine ⟨_, rfl, M.ite_tt ((cut_c (hcut a8) 5).mono fun e w9 g => ?_)⟩
  obtain ⟨r9, rfl, rfl, c9⟩ := g
  have h5 : (bs.take 5).length ≤ 5 := by rw [List.length_take]; omega
  obtain ⟨r10, w10, v1, v2, v3, v4⟩ := app_b (u3.keep k8 (by simp)) (c9 _ (hcut a8)) (by omega)
  have a10 := a8.step v3 hfr
  refine ⟨_, rfl, r10, w10, v1, (read_c v2.rd (by rw [List.length_append]; omega)).mono fun e w11 g => ?_⟩
  obtain ⟨r11, rfl, rfl, k11⟩ := g
  refine ⟨_, rfl, M.ite_tt (known_c.mono fun e w12 g => ?_)⟩
  obtain ⟨r12, rfl, rfl, k12⟩ := g
  exact ⟨_, rfl, hJ _ ((a10.new k11).new k12)⟩
theorem tells_law (W : World) (args : List Value) (h : GdArgs W [(false, .cons (.int .i64) .nil), (false, .cons (.int .i64) .nil), (false, .cons (.int .u32) .nil), (false, .cons (.slice (.cons (.int .u8) .nil)) .nil), (false, .cons (.int .i64) .nil), (false, .cons (.int .u8) .nil)] args) : Calls Try.prog 3 args.toArray W fun e W' => e = .returned (.bool true) ∧ Below W.heap.size W W' := by
  obtain ⟨v0, r, rfl, h0, h⟩ := h.one
  obtain ⟨v1, r, rfl, h1, h⟩ := h.one
  obtain ⟨v2, r, rfl, h2, h⟩ := h.one
  obtain ⟨v3, r, rfl, h3, h⟩ := h.one
  obtain ⟨v4, r, rfl, h4, h⟩ := h.one
  obtain ⟨v5, r, rfl, h5, h⟩ := h.one
  cases h
  obtain ⟨n0, rfl, _⟩ := good_int h0
  obtain ⟨n1, rfl, _⟩ := good_int h1
  obtain ⟨n2, rfl, _⟩ := good_int h2
  obtain ⟨s0, bs, rfl, hr, hl0, _⟩ := good_bytes h3
  obtain ⟨n4, rfl, _⟩ := good_int h4
  obtain ⟨n5, rfl, _⟩ := good_int h5
  exact (tells_c n0 n1 n2 n4 n5 hr).mono fun e w' ⟨b, he, hb, hw⟩ => by subst hb; exact ⟨he, hw⟩
end Go.Proofs.Ytdlefnpnnpohmaa
