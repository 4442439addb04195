/-
  NlriBits: what stands beyond a prefix's bits does not matter; where a prefix is cut off, nothing is read.
-/
import Derived.Test.YtfcgkkgdnagmcaaNlriP
namespace Go.Proofs.Ytfcgkkgdnagmcaa
set_option linter.unusedVariables false
set_option linter.unusedSimpArgs false
open Go.Sp
open Go.RowKit (Below)

theorem or_div (b m j : Nat) (hm : m < 2 ^ j) : (b ||| m) / 2 ^ j = b / 2 ^ j := by
  rw [← Nat.shiftRight_eq_div_pow, ← Nat.shiftRight_eq_div_pow, Nat.shiftRight_or_distrib, Nat.shiftRight_eq_div_pow m, Nat.div_eq_of_lt hm, Nat.or_zero]
/-- The last byte's low bits do not matter. -/
theorem top_or {ys : List UInt8} {b c : UInt8} {n m : Nat} (hl : ys.length + 1 = (n + 7) / 8) (hn : n ≤ 32) (h8 : n % 8 ≠ 0) (hm : m < 2 ^ (8 - n % 8)) (hc : c.toNat = b.toNat ||| m) :
    topN (valB (ys ++ [c])) n = topN (valB (ys ++ [b])) n := by
  have hk : ys.length + 1 ≤ 4 := by omega
  unfold topN
  congr 1
  have e1 : 2 ^ (32 - n) = 256 ^ (4 - (ys.length + 1)) * 2 ^ (8 - n % 8) := by
    rw [show (256 : Nat) = 2 ^ 8 from rfl, ← Nat.pow_mul, ← Nat.pow_add]
    congr 1; omega
  have e2 : (256 : Nat) = 2 ^ (n % 8) * 2 ^ (8 - n % 8) := by
    rw [← Nat.pow_add, show n % 8 + (8 - n % 8) = 8 by omega]
  have key : ∀ d : UInt8, valB (ys ++ [d]) / 2 ^ (32 - n) = be ys * 2 ^ (n % 8) + d.toNat / 2 ^ (8 - n % 8) := by
    intro d
    have hp : 0 < 256 ^ (4 - (ys.length + 1)) := Nat.pow_pos (by omega)
    have hp2 : 0 < 2 ^ (8 - n % 8) := Nat.two_pow_pos _
    unfold valB
    rw [List.length_append, List.length_singleton, e1, ← Nat.div_div_eq_div_mul, Nat.mul_div_cancel _ hp, be_snoc]
    have e3 : be ys * 256 = be ys * 2 ^ (n % 8) * 2 ^ (8 - n % 8) := by rw [Nat.mul_assoc, ← e2]
    rw [e3, Nat.mul_comm (be ys * 2 ^ (n % 8)), Nat.mul_add_div hp2]
  rw [key, key, hc, or_div _ _ _ hm]
theorem tmod8 (n : Nat) : Int.tmod (n : Int) 8 = ((n % 8 : Nat) : Int) := rfl
theorem bits_c {W : World} {p0 : Nat} (hp0 : p0 < 4294967296) (p1 p2 p3 : Int) (hp2 : 0 ≤ p2 ∧ p2 < 256) :
    Calls Try.prog 6 #[.int .u32 (p0 : Int), .int .i64 p1, .int .u8 p2, .int .i64 p3] W (R6 fun r w' => r = true ∧ Below W.heap.size W w') := by
  refine F6_ok ((any_c hp0 p1).mono fun e w1 g => ?_)
  obtain ⟨x1, y1, rfl, k, hk32, _, rfl, rfl, k1⟩ := g
  have ht := topN_lt (n := k) hp0
  have hR := rightP_top (a := p0) hk32
  have hlow : lowN (topN p0 k) k = 0 := lowN_top p0 k
  generalize topN p0 k = a at *
  refine ⟨_, _, rfl, M.new_blk fun b w2 hb B k2 => M.stA_blk B rfl fun w3 B3 k3 => ⟨_, B3.cell 0, _, B3.cell 1, M.new_by ?_⟩⟩
  have kal := Keeps.alloc [] w3 (.cells (pv (a, (k : Int))).toArray 24)
  have k03 : Keeps [] W w3 := (k1.trans k2 (by simp)).trans k3 (by have := k1.size; simp; omega)
  refine (enc_c (new_p w3 (a, (k : Int))) (by simpa using ht) (by simp)).mono fun e w4 g => ?_
  obtain ⟨r4, e4, rfl, h4, _, k4⟩ := g
  obtain ⟨rfl, o4, l4, f4⟩ := h4 (by simpa using hR)
  have k34 := kal.trans k4 (by simp)
  have B4 := B3.keep k34 (by simp)
  have k04 := k03.trans k34 (by simp)
  have hbw : b < w4.heap.size := B4.lt
  have hen : encB [(a, (k : Int))] = encB1 (a, (k : Int)) := by simp [encB]
  rw [hen] at o4 l4
  have hE1 := encB1_len (x := (a, (k : Int))) hR
  have hsz : sizeP (a, (k : Int)) = 1 + (k + 7) / 8 := by
    unfold sizeP
    rw [if_pos hR, Int.toNat_natCast]
  have hB : encB1 (a, (k : Int)) = UInt8.ofNat k :: (lowB (a : Int) 4).take ((k + 7) / 8) := by
    rw [encB1, lowB_one hk32, Int.toNat_natCast]; rfl
  have hdec := dec_one (x := (a, (k : Int))) ht hR []
  rw [List.append_nil, decB_nil] at hdec
  have hkb : (UInt8.ofNat k).toNat = k := by rw [UInt8.toNat_ofNat']; omega
  have hyl : ((lowB (a : Int) 4).take ((k + 7) / 8)).length = (k + 7) / 8 := by rw [List.length_take, lowB_len]; omega
  generalize hY : (lowB (a : Int) 4).take ((k + 7) / 8) = Y at *
  have hlr4 : r4.len = 1 + (k + 7) / 8 := by omega
  refine ⟨_, _, rfl, M.join_by (fun J => ∀ w, Keeps [] w4 w → J false w) ?_ ?_⟩
  rotate_left
  · intro J hJ
    refine M.ite_n rfl (M.ite_n (by simp; omega) ⟨_, B4.cell 0, _, B4.cell 1, (size_c (x := (a, (k : Int))) ht).mono fun e w5 g => ?_⟩)
    obtain ⟨r5, rfl, rfl, k5⟩ := g
    refine ⟨_, rfl, ?_⟩
    have := hJ _ k5
    rw [hsz, hlr4]
    simpa using this
  intro w5 k5
  have B5 := B4.keep k5 (by simp)
  have o5 := o4.keep k5 (by simp)
  have k05 := k04.trans k5 (by simp)
  rw [hB] at o5 hdec hE1
  obtain ⟨r6, w6, v1, v2, v3, v4⟩ := copy_b o5.rd (by rw [List.length_cons]; omega)
  have B6 := B5.keep v3 (by simp)
  have o6 := o5.keep v3 (by simp)
  have k06 := k05.trans v3 (by simp)
  have hl6 := v2.rd.len
  rw [bv_length, Nat.mul_one, List.length_cons, hyl] at hl6
  have hfr6 : ∀ y ∈ r6.blk, W.heap.size ≤ y ∧ y ≠ b ∧ y ∉ r4.blk := fun y hy => by
    have h1 := v4 y hy
    have h2 := k05.size
    have h3 := k5.size
    refine ⟨by omega, by omega, fun h => ?_⟩
    have := o4.lt y h
    omega
  refine M.ite_ff (M.new_by ⟨r6, w6, v1, ?_⟩)
  -- what is read: the bytes, their last one's low bits anyhow
  refine M.join_by (fun J => ∀ w x, Own 5 1 w r6 (bv x) → x.length ≤ 5 → decB x = some [(a, (k : Int))] → Keeps [] W w → Blk w b 24 [.int .u32 (a : Int), .int .i64 (k : Int)] → Own 5 1 w r4 (bv (UInt8.ofNat k :: Y)) → J w) ?_ ?_
  rotate_left
  · intro J hJ
    refine ⟨_, B6.cell 1, M.ite_by (fun c => ?_) (fun c => ?_)⟩
    · have c : k % 8 ≠ 0 := by
        rw [tmod8] at c
        simp at c; omega
      have kd := Keeps.drew [] w6
      have d6 := v2.keep kd (by simp)
      have Bd := B6.keep kd (by simp)
      have hlast : IntKind.i64.wrap ((r6.len : Int) - 1) = (((k + 7) / 8 : Nat) : Int) := by rw [w64 (by omega) (by omega)]; omega
      rw [hlast]
      obtain ⟨ad, had⟩ := d6.rd.some (by omega)
      -- the last byte
      have hY1 : 0 < Y.length := by omega
      obtain ⟨ys, lb, hys⟩ : ∃ ys lb, Y = ys ++ [lb] := ⟨Y.dropLast, Y.getLast (by intro h; simp [h] at hY1), (List.dropLast_concat_getLast _).symm⟩
      have hysl : ys.length + 1 = (k + 7) / 8 := by rw [← hyl, hys]; simp
      have hget : (UInt8.ofNat k :: Y)[(k + 7) / 8]? = some lb := by
        rw [← hysl, hys, List.getElem?_cons_succ, List.getElem?_append_right (by omega)]; simp
      have hcell := d6.rd.at had (bv_get hget)
      have hsh : IntKind.u64.wrap (Int.tmod ((k : Nat) : Int) 8) = ((k % 8 : Nat) : Int) := by rw [tmod8, wu64 (by omega) (by omega)]
      refine M.drew_by ⟨ad, had, by omega, by omega, _, (by rw [show (((k + 7) / 8 : Nat) : Int).toNat * 1 = (k + 7) / 8 by omega]; exact hcell), _, Bd.cell 1, ?_⟩
      dsimp only
      rw [hsh]
      refine ⟨by omega, ad, had, by omega, by omega, ?_⟩
      obtain ⟨p2, rfl⟩ := Int.eq_ofNat_of_zero_le hp2.1
      have hlb := lb.toNat_lt
      have h255 : 255 / 2 ^ (k % 8) < 2 ^ (8 - k % 8) := by
        apply Nat.div_lt_of_lt_mul
        rw [← Nat.pow_add, show k % 8 + (8 - k % 8) = 8 by omega]; decide
      have h255b : 255 / 2 ^ (k % 8) ≤ 255 := Nat.div_le_self _ _
      have hsh2 : bShr .u8 (255 : Int) ((k % 8 : Nat) : Int) = ((255 / 2 ^ (k % 8) : Nat) : Int) := bShr_nat .u8 255 (k % 8) (by show k % 8 ≤ 8; omega)
      have hand : p2 &&& (255 / 2 ^ (k % 8)) ≤ 255 / 2 ^ (k % 8) := Nat.and_le_right
      have hor : lb.toNat ||| (p2 &&& (255 / 2 ^ (k % 8))) < 2 ^ 8 := Nat.or_lt_two_pow hlb (by omega)
      have hbyte : bOr .u8 (lb.toNat : Int) (bAnd .u8 (p2 : Int) (bShr .u8 (255 : Int) ((k % 8 : Nat) : Int))) = ((UInt8.ofNat (lb.toNat ||| (p2 &&& (255 / 2 ^ (k % 8))))).toNat : Int) := by
        rw [hsh2, bAnd_nat .u8 p2 _ (by show p2 < 256; omega) (by show _ < 256; omega) rfl, bOr_nat .u8 _ _ hlb (by show _ < 256; omega) rfl, UInt8.toNat_ofNat', Nat.mod_eq_of_lt hor]
      rw [hbyte]
      generalize hcc : UInt8.ofNat (lb.toNat ||| (p2 &&& (255 / 2 ^ (k % 8)))) = cb at *
      have hcn : cb.toNat = lb.toNat ||| (p2 &&& (255 / 2 ^ (k % 8))) := by rw [← hcc, UInt8.toNat_ofNat', Nat.mod_eq_of_lt hor]
      obtain ⟨u1, u2, u3, u4⟩ := d6.put had (j := (k + 7) / 8) (by rw [bv_length, List.length_cons]; omega) (Value.int .u8 (cb.toNat : Int))
      rw [bv_set] at u3
      have hset : (UInt8.ofNat k :: Y).set ((k + 7) / 8) cb = UInt8.ofNat k :: (ys ++ [cb]) := by
        rw [← hysl, hys, List.set_cons_succ, List.set_append_right _ _ (by omega)]; simp
      rw [hset] at u3
      rw [show (((k + 7) / 8 : Nat) : Int).toNat * 1 = (k + 7) / 8 by omega]
      refine ⟨u1, u2, hJ _ _ u3 (by simp only [List.length_cons, List.length_append, List.length_nil]; omega) ?_ ?_ ?_ ?_⟩
      · have hl1 : (ys ++ [cb]).length = (k + 7) / 8 := by simp; omega
        have hl2 : (ys ++ [lb]).length = (k + 7) / 8 := by simp; omega
        have hv : topN (valB (ys ++ [lb])) k = a := by
          rw [← hys, ← hY, val_right ht hk32 hlow, topN_of_low hlow]
        rw [decB_cons, hkb, if_neg (by omega), if_neg (by omega), ← hl1, List.drop_length, List.take_length, decB_nil, top_or hysl hk32 c (by omega) hcn, hv]
        rfl
      · exact (k06.trans kd (by simp)).trans u4 (fun y hy => .inr (hfr6 y hy).1)
      · exact Bd.keep u4 (fun h => (hfr6 b h).2.1 rfl)
      · exact (o6.keep kd (by simp)).keep u4 (fun y hy h => (hfr6 y h).2.2 hy)
    · exact hJ _ _ v2 (by rw [List.length_cons]; omega) hdec k06 B6 o6
  intro w7 x o7 hx5 hdx k07 B7 o47
  refine (dec_c o7.rd (by omega)).mono fun e w8 g => ?_
  obtain ⟨r8, ok8, rfl, h8, k8⟩ := g
  rw [hdx] at h8
  obtain ⟨rfl, o8, f8⟩ := h8
  have kd := Keeps.drew [] w8
  have o9 := o8.keep kd (by simp)
  have hl9 := pf_len o9.rd
  have B9 := (B7.keep k8 (by simp)).keep kd (by simp)
  obtain ⟨ad, had⟩ := o9.rd.some (by rw [hl9]; simp)
  have e9 := pf_at o9.rd had (i := 0) rfl
  have k09 := (k07.trans k8 (by simp)).trans kd (by simp)
  have o49 := (o47.keep k8 (by simp)).keep kd (by simp)
  refine ⟨_, _, rfl, M.join_by (fun J => J false w8.drew) ?_ ?_⟩
  rotate_left
  · intro J hJ
    refine M.drew_by (M.ite_n rfl (M.ite_n (by rw [hl9]; rfl) ⟨ad, had, by omega, by rw [hl9]; simp, _, e9.1, _, e9.2, _, B9.cell 0, _, B9.cell 1, ?_⟩))
    simpa using hJ
  refine M.ite_ff (M.join_by (fun J => ∀ w, Keeps [] W w → J w) ?_ ?_)
  · intro w10 k10
    refine known_c.mono fun e w11 g => ?_
    obtain ⟨r11, rfl, rfl, k11⟩ := g
    exact ⟨_, rfl, rfl, ((Aft.refl W).new (k10.trans k11 (by simp))).1⟩
  · intro J hJ
    refine M.ite_by (fun c => ?_) (fun c => hJ _ k09)
    have c := of_decide_eq_true c
    rw [w64 (n := (r4.len : Int) - 1) (by omega) (by omega)]
    refine (within_c p3 1 _ (by omega) (by omega) (by omega)).mono fun e w10 g => ?_
    obtain ⟨r10, rfl, _, g0, g9, rfl⟩ := g
    obtain ⟨j, rfl⟩ := Int.eq_ofNat_of_zero_le (show 0 ≤ r10 by omega)
    have hc49 := o49.rd.cap
    have s10 := o49.rd.sub (l := 0) (u := j) (by omega) (by omega)
    simp only [Nat.zero_mul, List.drop_zero, Nat.sub_zero, Nat.mul_one, bv_take] at s10
    refine ⟨_, rfl, by omega, by omega, by omega, (dec_c s10 (by rw [List.length_take, List.length_cons]; omega)).mono fun e w11 g => ?_⟩
    obtain ⟨r11, ok11, rfl, h11, k11⟩ := g
    have hcut : decB ((UInt8.ofNat k :: Y).take j) = none := by
      obtain ⟨j, rfl⟩ : ∃ i, j = i + 1 := ⟨j - 1, by omega⟩
      rw [List.take_succ_cons, decB_cons, hkb, if_neg (by omega), if_pos (by rw [List.length_take]; omega)]
    rw [hcut] at h11
    obtain ⟨rfl, rfl⟩ := h11
    exact ⟨_, _, rfl, M.join_by (fun J => J false w11) (M.ite_ff (hJ _ (k09.trans k11 (by simp)))) (fun J2 hJ2 => M.ite_ff hJ2)⟩
theorem bits_law (W : World) (args : List Value) (h : GdArgs W [(false, .cons (.int .u32) .nil), (false, .cons (.int .i64) .nil), (false, .cons (.int .u8) .nil), (false, .cons (.int .i64) .nil)] args) : Calls Try.prog 6 args.toArray W fun e W' => e = .returned (.bool true) ∧ Below W.heap.size W W' := by
  obtain ⟨v0, r, rfl, h0, h⟩ := h.one
  obtain ⟨v1, r, rfl, h1, h⟩ := h.one
  obtain ⟨v2, r, rfl, h2, h⟩ := h.one
  obtain ⟨v3, r, rfl, h3, h⟩ := h.one
  cases h
  obtain ⟨n0, rfl, g0⟩ := good_int h0
  obtain ⟨n1, rfl, _⟩ := good_int h1
  obtain ⟨n2, rfl, g2⟩ := good_int h2
  obtain ⟨n3, rfl, _⟩ := good_int h3
  have e1 : IntKind.u32.min = 0 := rfl
  have e2 : IntKind.u32.max = 4294967295 := rfl
  have e3 : IntKind.u8.min = 0 := rfl
  have e4 : IntKind.u8.max = 255 := rfl
  obtain ⟨n0, rfl⟩ := Int.eq_ofNat_of_zero_le (show 0 ≤ n0 by omega)
  exact (bits_c (p0 := n0) (by omega) n1 n2 n3 (by omega)).mono fun e w' ⟨b, he, hb, hw⟩ => by subst hb; exact ⟨he, hw⟩
end Go.Proofs.Ytfcgkkgdnagmcaa
