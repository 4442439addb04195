/-
  OpenBack: OPENs and NOTIFICATIONs come back; what is cut off does not.
-/
import Derived.Test.YtdlefnpnnpohmaaOpenN
import Derived.Test.YtdlefnpnnpohmaaOpenSizes
namespace Go.Proofs.Ytdlefnpnnpohmaa
set_option linter.unusedVariables false
set_option linter.unusedSimpArgs false
open Go.Sp
open Go.RowKit (Below)

theorem lowB_byte {c : Int} (h : 0 ≤ c ∧ c < 256) : ∃ b : UInt8, lowB c 1 = [b] ∧ (b.toNat : Int) = c := by
  refine ⟨UInt8.ofNat c.toNat, ?_, ?_⟩
  · unfold lowB beB beB
    rw [Nat.pow_zero, Nat.div_one, show (c % 18446744073709551616).toNat = c.toNat by omega]
  · rw [UInt8.toNat_ofNat']; omega
theorem or_one {x : Int} (h : 0 ≤ x ∧ x < 4294967296) : ∃ n : Nat, bOr .u32 x 1 = (n : Int) ∧ 0 < n ∧ n < 4294967296 := by
  obtain ⟨n, rfl⟩ := Int.eq_ofNat_of_zero_le h.1
  have h1 : n < 2 ^ 32 := by have := h.2; omega
  refine ⟨n ||| 1, bOr_nat .u32 n 1 h1 (by decide) rfl, ?_, Nat.or_lt_two_pow h1 (by decide)⟩
  have := Nat.right_le_or (n := n) (m := 1)
  omega
theorem back_c {W : World} (p0 p1 p2 p3 p4 p6 : Int) (hp2 : 0 ≤ p2 ∧ p2 < 4294967296) (hp3 : 0 ≤ p3 ∧ p3 < 256) (hp4 : 0 ≤ p4 ∧ p4 < 256) {s : SV} {bs : List UInt8} (hs : Rd 1 W s (bv bs)) :
    Calls Try.prog 7 #[.int .i64 p0, .int .i64 p1, .int .u32 p2, .int .u8 p3, .int .u8 p4, s.v, .int .i64 p6] W (R7 fun r w' => r = true ∧ Below W.heap.size W w') := by
  refine F7_ok ((within_c p0 0 65534 (by omega) (by omega) (by omega)).mono fun e w1 g => ?_)
  obtain ⟨r1, rfl, _, a0, a1, rfl⟩ := g
  refine ⟨_, rfl, (within_c p1 0 65532 (by omega) (by omega) (by omega)).mono fun e w1 g => ?_⟩
  obtain ⟨r3, rfl, _, a2, a3, rfl⟩ := g
  obtain ⟨id, hid, hid0, hid1⟩ := or_one hp2
  refine ⟨_, rfl, ?_⟩
  dsimp only
  rw [w64 (n := 1 + r1) (by omega) (by omega), w64 (n := 3 + r3) (by omega) (by omega), hid]
  have hok : helloOk (1 + r1) (3 + r3) (id : Int) = true := by
    simp only [helloOk, Bool.and_eq_true, Bool.or_eq_true, decide_eq_true_eq, beq_iff_eq, bne_iff_ne]
    omega
  refine M.new_blk fun b w2 hb B k2 => M.stA_blk B rfl fun w3 B3 k3 => ⟨_, B3.cell 0, _, B3.cell 1, _, B3.cell 2, (enc_c _ _ _).mono fun e w4 g => ?_⟩
  obtain ⟨r4, x4, rfl, h4, _, k4⟩ := g
  obtain ⟨rfl, o4, l4, f4⟩ := h4 hok
  have hlen := helloB_len (1 + r1) (3 + r3) (id : Int)
  refine ⟨_, _, rfl, (dec_c o4.rd (by omega)).mono fun e w5 g => ?_⟩
  obtain ⟨y0, y1, y2, y3, y4, y5, rfl, d5, hd5, rd5, k5⟩ := g
  have hdh := dec_hello hok (by omega) []
  rw [List.append_nil, if_pos rfl] at hdh
  rw [hdh] at hd5
  simp only [Dec.mk.injEq] at hd5
  obtain ⟨rfl, rfl, rfl, rfl, rfl, rfl⟩ := hd5
  have B5 := (B3.keep k4 (by simp)).keep k5 (by simp)
  refine ⟨_, _, _, _, _, _, rfl, M.new_blk fun c w6 hc C k6 => M.new_blk fun c' w7 hc' C' k7 => ?_⟩
  have hClt := C.lt
  refine M.stA_blk (C.keep k7 (by simp)) rfl fun w8 C8 k8 => M.stA_blk (C'.keep k8 (by simp; omega)) rfl fun w9 C9 k9 => ?_
  have C8 := C8.keep k9 (by simp; omega)
  have hs6 := k6.size
  have k59 : Keeps [] w5 w9 := ((k6.trans k7 (by simp)).trans k8 (by simp; omega)).trans k9 (by simp; omega)
  have B9 := B5.keep k59 (by simp)
  have a9 : Aft w1 w9 := (((((Aft.refl w1).new k2).step k3 (by simp; omega)).new k4).new k5).new k59
  have o9 := (o4.keep k5 (by simp)).keep k59 (by simp)
  refine M.join_by (fun J => J false w9) ?_ fun J hJ => M.ite_n rfl ⟨_, C9.cell 0, M.ite_n rfl ⟨_, C8.cell 0, _, C8.cell 1, _, C8.cell 2, _, B9.cell 0, _, B9.cell 1, _, B9.cell 2, M.ite_n (by simp) (by rw [l4]; exact hJ)⟩⟩
  refine M.ite_ff ((within_c p6 0 9 (by omega) (by omega) (by omega)).mono fun e w10 g => ?_)
  obtain ⟨r10, rfl, _, g0, g9, rfl⟩ := g
  obtain ⟨j, rfl⟩ := Int.eq_ofNat_of_zero_le g0
  have hcap := o9.rd.cap
  have s10 := o9.rd.sub (l := 0) (u := j) (by omega) (by omega)
  simp only [Nat.zero_mul, List.drop_zero, Nat.sub_zero, Nat.mul_one, bv_take] at s10
  have hcut : ((helloB (1 + r1) (3 + r3) (id : Int)).take j).length < 10 := by rw [List.length_take]; omega
  refine ⟨_, rfl, by omega, by omega, by omega, (dec_c s10 (by omega)).mono fun e w11 g => ?_⟩
  obtain ⟨z0, z1, z2, z3, z4, z5, rfl, d11, hd11, rd11, k11⟩ := g
  rw [decH, if_pos hcut] at hd11
  simp only [Dec.mk.injEq] at hd11
  obtain ⟨rfl, rfl, rfl, rfl, rfl, rfl⟩ := hd11
  refine ⟨_, _, _, _, _, _, rfl, M.new_blk fun f w12 hf F k12 => M.new_blk fun f' w13 hf' F' k13 => ?_⟩
  have hFlt := F.lt
  refine M.stA_blk (F.keep k13 (by simp)) rfl fun w14 F14 k14 => M.stA_blk (F'.keep k14 (by simp; omega)) rfl fun w15 F15 k15 => ?_
  have hs12 := k12.size
  have k1115 : Keeps [] w11 w15 := ((k12.trans k13 (by simp)).trans k14 (by simp; omega)).trans k15 (by simp; omega)
  have a15 := (a9.new k11).new k1115
  refine (cut_c (hs.arg a15.1) 100).mono fun e w16 g => ?_
  obtain ⟨r16, rfl, rfl, c16⟩ := g
  have hr16 := c16 _ (hs.arg a15.1)
  have h100 : (bs.take 100).length ≤ 100 := by rw [List.length_take]; omega
  generalize bs.take 100 = ds at *
  have hl16 := hr16.len
  rw [bv_length, Nat.mul_one] at hl16
  refine ⟨_, rfl, ?_⟩
  dsimp only
  rw [w64 (n := p3) (by omega) (by omega), w64 (n := p4) (by omega) (by omega)]
  refine (encn_c p3 p4 hr16 (by omega)).mono fun e w17 g => ?_
  obtain ⟨r17, rfl, o17, f17, k17⟩ := g
  obtain ⟨b0, e0, h0⟩ := lowB_byte hp3
  obtain ⟨b1, e1, h1⟩ := lowB_byte hp4
  rw [e0, e1] at o17
  simp only [List.singleton_append, List.cons_append, List.nil_append] at o17
  have hl17 := o17.rd.len
  rw [bv_length, Nat.mul_one] at hl17
  simp only [List.length_cons] at hl17
  refine ⟨_, rfl, (decn_c o17.rd (by simp; omega)).mono fun e w18 g => ?_⟩
  obtain ⟨c18, x18, d18, ok18, rfl, hm, k18⟩ := g
  obtain ⟨rfl, rfl, rfl, rd18⟩ := hm
  refine ⟨_, _, _, _, rfl, M.new_blk fun q w19 hq Q k19 => M.stA_blk Q rfl fun w20 Q20 k20 => ?_⟩
  have k1820 : Keeps [] w18 w20 := k19.trans k20 (by simp; omega)
  have k1620 := (k17.trans k18 (by simp)).trans k1820 (by simp)
  have F20 := F15.keep k1620 (by simp)
  have a20 := a15.new k1620
  refine M.join_by (fun J => ∀ w, Aft w1 w → J true w) (fun w h => ⟨rfl, h.1⟩) fun J hJ => ⟨_, F20.cell 0, M.ite_y rfl ⟨_, F20.cell 1, M.ite_y rfl (M.ite_tt (M.ite_y ?_ ⟨_, Q20.cell 0, _, Q20.cell 1, _, Q20.cell 2, (knote_c (rd18.keep k1820 (by simp)) (hr16.keep k1620 (by simp))).mono fun e w21 g => ?_⟩))⟩⟩
  · rw [w64 (by omega) (by omega)]
    simp; omega
  · obtain ⟨r21, rfl, hr, k21⟩ := g
    have : r21 = true := by rw [hr, h0, h1]; simp
    subst this
    refine ⟨_, rfl, M.ite_tt (known_c.mono fun e w22 g => ?_)⟩
    obtain ⟨r22, rfl, rfl, k22⟩ := g
    exact ⟨_, rfl, hJ _ ((a20.new k21).new k22)⟩
theorem back_law (W : World) (args : List Value) (h : GdArgs W [(false, .cons (.int .i64) .nil), (false, .cons (.int .i64) .nil), (false, .cons (.int .u32) .nil), (false, .cons (.int .u8) .nil), (false, .cons (.int .u8) .nil), (false, .cons (.slice (.cons (.int .u8) .nil)) .nil), (false, .cons (.int .i64) .nil)] args) : Calls Try.prog 7 args.toArray W fun e W' => e = .returned (.bool true) ∧ Below W.heap.size W W' := by
  obtain ⟨v0, r, rfl, h0, h⟩ := h.one
  obtain ⟨v1, r, rfl, h1, h⟩ := h.one
  obtain ⟨v2, r, rfl, h2, h⟩ := h.one
  obtain ⟨v3, r, rfl, h3, h⟩ := h.one
  obtain ⟨v4, r, rfl, h4, h⟩ := h.one
  obtain ⟨v5, r, rfl, h5, h⟩ := h.one
  obtain ⟨v6, r, rfl, h6, h⟩ := h.one
  cases h
  obtain ⟨n0, rfl, _⟩ := good_int h0
  obtain ⟨n1, rfl, _⟩ := good_int h1
  obtain ⟨n2, rfl, g2⟩ := good_int h2
  obtain ⟨n3, rfl, g3⟩ := good_int h3
  obtain ⟨n4, rfl, g4⟩ := good_int h4
  obtain ⟨s0, bs, rfl, hr, hl0, _⟩ := good_bytes h5
  obtain ⟨n6, rfl, _⟩ := good_int h6
  have e1 : IntKind.u32.min = 0 := rfl
  have e2 : IntKind.u32.max = 4294967295 := rfl
  have e3 : IntKind.u8.min = 0 := rfl
  have e4 : IntKind.u8.max = 255 := rfl
  exact (back_c n0 n1 n2 n3 n4 n6 (by omega) (by omega) (by omega) hr).mono fun e w' ⟨b, he, hb, hw⟩ => by subst hb; exact ⟨he, hw⟩
end Go.Proofs.Ytdlefnpnnpohmaa
