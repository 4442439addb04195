/-
  OpenSizes: an OPEN is ten bytes; with any bytes more it is another Note's, or none.
-/
import Derived.Test.YtdlefnpnnpohmaaOpenC
namespace Go.Proofs.Ytdlefnpnnpohmaa
set_option linter.unusedVariables false
set_option linter.unusedSimpArgs false
open Go.Sp
open Go.RowKit (Below)

theorem dec_hello {a h i : Int} (ok : helloOk a h i = true) (hi : 0 ≤ i ∧ i < 4294967296) (more : List UInt8) :
    decH (helloB a h i ++ more) = if more = [] then ⟨a, h, i, 0, 0, []⟩ else ⟨0, 0, 0, 2, 0, []⟩ := by
  simp only [helloOk, Bool.and_eq_true, Bool.or_eq_true, decide_eq_true_eq, beq_iff_eq, bne_iff_ne] at ok
  obtain ⟨o1, o2, o3, o4, o5⟩ := ok
  have e0 : ((helloB a h i ++ more).drop 9).take 1 = [0] := rfl
  have e1 : (helloB a h i ++ more).take 1 = [4] := rfl
  have e2 : ((helloB a h i ++ more).drop 1).take 2 = lowB a 2 := rfl
  have e3 : ((helloB a h i ++ more).drop 3).take 2 = lowB h 2 := rfl
  have e4 : ((helloB a h i ++ more).drop 5).take 4 = lowB i 4 := rfl
  have hl : (helloB a h i ++ more).length = 10 + more.length := by rw [List.length_append, helloB_len]
  have b2 : (be (lowB a 2) : Int) = a % 65536 := lowB_be a 2 (by omega)
  have b3 : (be (lowB h 2) : Int) = h % 65536 := lowB_be h 2 (by omega)
  have b4 : (be (lowB i 4) : Int) = i % 4294967296 := lowB_be i 4 (by omega)
  have hz : be [0] = 0 := rfl
  have h4 : be [4] = 4 := rfl
  unfold decH
  rw [e0, e1, e2, e3, e4, hl, hz, h4, if_neg (by omega), if_neg (by omega)]
  cases more with
  | nil =>
    rw [if_neg (by simp), if_neg (by omega), if_neg (by omega), if_neg (by omega), if_neg (by omega), if_pos rfl]
    rw [show (be (lowB a 2) : Int) = a by omega, show (be (lowB h 2) : Int) = h by omega, show (be (lowB i 4) : Int) = i by omega]
  | cons x l =>
    rw [if_pos (by simp only [List.length_cons]; omega), if_neg (by simp)]

theorem sizes_c {W : World} (p0 p1 p2 : Int) (hp2 : 0 ≤ p2 ∧ p2 < 4294967296) {s : SV} {bs : List UInt8} (hs : Rd 1 W s (bv bs)) :
    Calls Try.prog 5 #[.int .i64 p0, .int .i64 p1, .int .u32 p2, s.v] W (R5 fun r w' => r = true ∧ Below W.heap.size W w') := by
  refine F5_ok (M.new_blk fun b w1 hb B k1 => M.stA_blk B rfl fun w2 B k2 => ⟨_, B.cell 0, _, B.cell 1, _, B.cell 2, (enc_c p0 p1 p2).mono fun e w3 g => ?_⟩)
  obtain ⟨r, x, rfl, h1, h2, k3⟩ := g
  have a3 : Aft W w3 := (((Aft.refl W).new k1).step k2 (by simp; omega)).new k3
  have hok : (x == 0) = helloOk p0 p1 p2 := by
    cases hk : helloOk p0 p1 p2 with
    | true => rw [(h1 hk).1]; rfl
    | false => rw [(h2 hk).1]; rfl
  have hdef : helloOk p0 p1 p2 = (decide (1 ≤ p0) && (decide (p0 ≤ 65535) && ((p1 == 0 || decide (3 ≤ p1)) && (decide (p1 ≤ 65535) && p2 != 0)))) := rfl
  refine ⟨_, _, rfl, M.join_by (fun J => J false w3) ?_ ?_⟩
  rotate_left
  · intro J hJ
    rw [hok, hdef]
    refine M.ite_by (fun c => ?_) (fun c => ?_)
    · refine M.ite_by (fun c2 => ?_) (fun c2 => ?_)
      · refine M.ite_by (fun c3 => ?_) (fun c3 => ?_)
        · have c3' : p1 = 0 := by simpa using c3
          subst c3'
          simpa [c, c2] using hJ
        · refine M.ite_by (fun c4 => ?_) (fun c4 => ?_)
          · refine M.ite_by (fun c5 => ?_) (fun c5 => ?_)
            · simpa [c, c2, c3, c4, c5] using hJ
            · simpa [c, c2, c3, c4, c5] using hJ
          · simpa [c, c2, c3, c4] using hJ
      · simpa [c, c2] using hJ
    · simpa [c] using hJ
  refine M.ite_ff ?_
  cases hk : helloOk p0 p1 p2 with
  | false =>
    obtain ⟨rfl, rfl⟩ := h2 hk
    refine M.ite_tt (M.join_by (fun J => ∀ w, Aft W w → J true w) (fun w h => ⟨rfl, h.1⟩) fun J hJ => M.ite_y rfl (M.ite_tt (known_c.mono fun e w4 g => ?_)))
    obtain ⟨r4, rfl, rfl, k4⟩ := g
    exact ⟨_, rfl, hJ _ (a3.new k4)⟩
  | true =>
    obtain ⟨rfl, o3, l3, f3⟩ := h1 hk
    refine M.ite_ff ((cut_c (hs.arg a3.1) 50).mono fun e w4 g => ?_)
    obtain ⟨r4, rfl, rfl, c4⟩ := g
    have c4' := c4 _ (hs.arg a3.1)
    have h50 : (bs.take 50).length ≤ 50 := by rw [List.length_take]; omega
    generalize bs.take 50 = more at *
    have hl4 := c4'.len
    rw [bv_length, Nat.mul_one] at hl4
    obtain ⟨r5, w5, v1, v2, v3, v4⟩ := copy_b o3.rd (by rw [helloB_len]; omega)
    obtain ⟨r6, w6, u1, u2, u3, u4⟩ := app_b v2 (c4'.keep v3 (by simp)) (by rw [helloB_len]; omega)
    have k46 : Keeps [] w4 w6 := v3.trans u3 (fun y hy => .inr (v4 y hy))
    refine ⟨_, rfl, M.new_by ⟨r5, w5, v1, r6, w6, u1, (dec_c u2.rd (by rw [List.length_append, helloB_len]; omega)).mono fun e w7 g => ?_⟩⟩
    obtain ⟨x0, x1, x2, x3, x4, x5, rfl, d, hd, rd, k7⟩ := g
    rw [dec_hello hk hp2] at hd
    refine ⟨_, _, _, _, _, _, rfl, M.new_blk fun b w8 hb2 B8 k8 => M.new_blk fun c w9 hc C9 k9 => ?_⟩
    have hBlt := B8.lt
    refine M.stA_blk (B8.keep k9 (by simp)) rfl fun w10 B10 k10 => M.stA_blk (C9.keep k10 (by simp; omega)) rfl fun w11 C11 k11 => ?_
    have hs8 := k8.size
    have a11 : Aft W w11 := by
      have k711 : Keeps [] w7 w11 := ((k8.trans k9 (by simp)).trans k10 (by simp; omega)).trans k11 (by simp; omega)
      exact ((a3.new k46).new k7).new k711
    refine M.join_by (fun J => ∀ w, Aft W w → J true w) (fun w h => ⟨rfl, h.1⟩) fun J hJ => M.ite_y (by rw [l3]; rfl) ⟨_, C11.cell 0, ?_⟩
    have fin : Calls Try.prog 13 #[] w11 (R13 fun r71 w72 => J r71 w72) := known_c.mono fun e w12 g => by
      obtain ⟨r12, rfl, rfl, k12⟩ := g
      exact ⟨_, rfl, hJ _ (a11.new k12)⟩
    cases more with
    | nil =>
      rw [if_pos rfl] at hd
      simp only [Dec.mk.injEq] at hd
      obtain ⟨rfl, rfl, rfl, rfl, rfl, rfl⟩ := hd
      simp only [List.length_nil] at hl4
      refine M.ite_y (by simp [← hl4]) (M.ite_y (by simp [← hl4]) fin)
    | cons y l =>
      rw [if_neg (by simp)] at hd
      simp only [Dec.mk.injEq] at hd
      obtain ⟨rfl, rfl, rfl, rfl, rfl, rfl⟩ := hd
      simp only [List.length_cons] at hl4
      have hz : ((r4.len : Int) == 0) = false := by simp; omega
      exact M.ite_y (by rw [hz]; rfl) (M.ite_n hz ⟨_, C11.cell 0, M.ite_y rfl ⟨_, C11.cell 1, M.ite_y rfl fin⟩⟩)
theorem sizes_law (W : World) (args : List Value) (h : GdArgs W [(false, .cons (.int .i64) .nil), (false, .cons (.int .i64) .nil), (false, .cons (.int .u32) .nil), (false, .cons (.slice (.cons (.int .u8) .nil)) .nil)] args) : Calls Try.prog 5 args.toArray W fun e W' => e = .returned (.bool true) ∧ Below W.heap.size W W' := by
  obtain ⟨v0, r, rfl, h0, h⟩ := h.one
  obtain ⟨v1, r, rfl, h1, h⟩ := h.one
  obtain ⟨v2, r, rfl, h2, h⟩ := h.one
  obtain ⟨v3, r, rfl, h3, h⟩ := h.one
  cases h
  obtain ⟨n0, rfl, _⟩ := good_int h0
  obtain ⟨n1, rfl, _⟩ := good_int h1
  obtain ⟨n2, rfl, hn2⟩ := good_int h2
  obtain ⟨s0, bs, rfl, hr, hl0, _⟩ := good_bytes h3
  have e1 : IntKind.u32.min = 0 := rfl
  have e2 : IntKind.u32.max = 4294967295 := rfl
  exact (sizes_c n0 n1 n2 (by omega) hr).mono fun e w' ⟨b, he, hb, hw⟩ => by subst hb; exact ⟨he, hw⟩
end Go.Proofs.Ytdlefnpnnpohmaa
