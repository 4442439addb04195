/-
  WireBack: what is written is read, one behind the other, and nothing is left. For every list of parts.
-/
import Derived.Test.YtobnlhfkggeahaaWireL
import Derived.Test.YtobnlhfkggeahaaSpArg
import Derived.Test.YtobnlhfkggeahaaRows
namespace Go.Proofs.Ytobnlhfkggeahaa
set_option linter.unusedVariables false
set_option linter.unusedSimpArgs false
open Go.Sp
open Go.RowKit (Below)

def partSh : ShL := .cons (.int .i64) (.cons (.int .i64) (.cons (.slice (.cons (.int .u8) .nil)) .nil))
/-- A part of the list, as it lies in memory, from then on. -/
def PartAt (W : World) (s : SV) (i : Nat) (x : Int × Int × List UInt8) : Prop :=
  ∃ (a : Addr) (b : SV), s.a = some a ∧ x.2.2.length = b.len ∧ ∀ w, Below W.heap.size W w → w.cell? (a.add (i * 3)) = some (.int .i64 x.1) ∧ w.cell? ((a.add (i * 3)).add 1) = some (.int .i64 x.2.1) ∧ w.cell? ((a.add (i * 3)).add 2) = some b.v ∧ Rd 1 w b (bv x.2.2)
theorem parts_of {W : World} {v : Value} (h : Gd W (.slice partSh) v) : ∃ (s : SV) (l : List (Int × Int × List UInt8)), v = s.v ∧ l.length = s.len ∧ s.len ≤ maxLen ∧ ∀ i x, l[i]? = some x → PartAt W s i x := by
  simp only [Gd] at h
  obtain ⟨s, vs, rfl, hr, hc, hg⟩ := h
  obtain ⟨l, hl, hp⟩ := list_choose (n := s.len) (p := fun i x => PartAt W s i x) (fun i hi => by
    obtain ⟨a, ha⟩ := hr.some (by omega)
    have h1 := hg i hi
    simp only [partSh, GdL] at h1
    obtain ⟨v1, r1, h2, ⟨k, rfl, _⟩, v2, r2, rfl, ⟨n, rfl, _⟩, v3, r3, rfl, h3, rfl⟩ := h1
    obtain ⟨b, bs, rfl, hb, hbl, _⟩ := good_bytes h3
    have h4 := fun j v (hj : j < 3) (hv : [Value.int .i64 k, Value.int .i64 n, b.v][j]? = some v) => hr.row ha (i := i) (j := j) (v := v) hj (by simp only [partSh, ShL.len] at h2 ⊢; rw [h2]; exact hv)
    exact ⟨(k, n, bs), a, b, ha, hbl, fun w hw => ⟨below_cell hw (by have := h4 0 _ (by omega) rfl; rw [add_zero] at this; exact this), below_cell hw (h4 1 _ (by omega) rfl), below_cell hw (h4 2 _ (by omega) rfl), hb.arg hw⟩⟩)
  exact ⟨s, l, rfl, hl, Nat.le_trans hr.cap hc, hp⟩

/-- What is written for one part. -/
def pb (x : Int × Int × List UInt8) : List UInt8 := lowB x.2.1 1 ++ (lowB x.2.1 2 ++ (lowB (IntKind.u32.wrap x.2.1) 4 ++ x.2.2.take 50))
theorem pb_le (x : Int × Int × List UInt8) : (pb x).length ≤ 57 := by
  simp [pb, lowB, beB_length]; omega
def pbs (l : List (Int × Int × List UInt8)) : List UInt8 := l.flatMap pb
theorem pbs_le (l : List (Int × Int × List UInt8)) : (pbs l).length ≤ 57 * l.length := by
  induction l with
  | nil => simp [pbs]
  | cons x l ih =>
    have := pb_le x
    simp only [pbs, List.flatMap_cons, List.length_append, List.length_cons] at *
    omega
theorem rawOut_app (a b : List UInt8) (n : Int) (hn : n = a.length) : rawOut (a ++ b) false n = a ∧ rawLeft (a ++ b) false n = b ∧ rawBad (a ++ b) false n = false := by
  have h : rawBad (a ++ b) false n = false := by simp [rawBad]; omega
  refine ⟨?_, ?_, h⟩
  · simp only [rawOut, h]
    rw [show n.toNat = a.length by omega]; simp
  · simp only [rawLeft, h]
    rw [show n.toNat = a.length by omega]; simp

theorem back_c {W : World} {s : SV} {l : List (Int × Int × List UInt8)} (hl : l.length = s.len) (hm : s.len ≤ maxLen) (hp : ∀ i x, l[i]? = some x → PartAt W s i x) :
    Calls Try.prog 6 #[s.v] W (R6 fun r w' => r = true ∧ Below W.heap.size W w') := by
  refine F6_ok (neww_c.mono fun e w1 h => ?_)
  obtain ⟨r, rfl, p, rfl, hw, hk, hpB⟩ := h
  refine ⟨_, rfl, M.ite_n rfl ?_⟩
  have hsB := hw.lt.1
  have b1 : Below W.heap.size W w1 := (Below.refl _ _) |> fun h => hk.below h (Nat.le_refl _) (by simp)
  unfold maxLen at hm
  refine M.loop1_by (fun x w => ∃ i : Nat, x = i ∧ i ≤ l.length ∧ i ≤ 30 ∧ Below W.heap.size W w ∧ ∃ q, IsW w p q (pbs (l.take i)) ∧ (∀ x ∈ q, W.heap.size ≤ x) ∧ W.heap.size ≤ w.heap.size) (fun x _ => (30 - x).toNat)
    ⟨0, rfl, by omega, by omega, b1, [], by simpa [pbs] using hw, by simp, by omega⟩ ?_
  rintro x w J ⟨i, rfl, hil, hi30, hb, q, hw, hqB, hBw⟩ hJ
  refine M.join_lt (fun hx1 hx2 => ?_) (fun hend => ?_)
  · have hil2 : i < l.length := by omega
    have hi2 : i < 30 := by omega
    have hpi := hp i l[i] (List.getElem?_eq_getElem hil2)
    obtain ⟨a, b, ha, hbl, hpi⟩ := hpi
    obtain ⟨c0, c1, c2, hbr⟩ := hpi _ hb
    have hT := pbs_le (l.take i)
    have hTl : (l.take i).length ≤ 30 := by rw [List.length_take]; omega
    generalize hT0 : pbs (l.take i) = T at *
    have hmem : ∀ x ∈ (p :: q), W.heap.size ≤ x := by
      intro x hx
      rcases List.mem_cons.1 hx with rfl | hx
      · omega
      · exact hqB x hx
    have step : ∀ {w2 : World} {q2 : List Nat} {wo : World} {qo : List Nat}, Below W.heap.size W wo → W.heap.size ≤ wo.heap.size → (∀ x ∈ qo, W.heap.size ≤ x) → Keeps (p :: qo) wo w2 → (∀ k ∈ q2, k ∈ qo ∨ wo.heap.size ≤ k) → Below W.heap.size W w2 ∧ W.heap.size ≤ w2.heap.size ∧ (∀ x ∈ q2, W.heap.size ≤ x) := by
      intro w2 q2 wo qo hb hB2 hqo hk2 hq2
      refine ⟨hk2.below hb hB2 ?_, Nat.le_trans hB2 hk2.size, fun x hx => ?_⟩
      · intro x hx
        rcases List.mem_cons.1 hx with rfl | hx
        · omega
        · exact hqo x hx
      · rcases hq2 x hx with h | h
        · exact hqo x h
        · omega
    have hl4 : ∀ n k, (lowB n k).length = k := fun n k => by simp [lowB, beB_length]
    refine ⟨a, ha, by omega, hx1, _, c1, (wu8_c hw _ (by omega)).mono fun e w2 h => ?_⟩
    obtain ⟨rfl, q2, hw2, hk2, hq2⟩ := h
    obtain ⟨hb2, hB2, hq2B⟩ := step hb hBw hqB hk2 hq2
    obtain ⟨c0, c1, c2, hbr⟩ := hpi _ hb2
    refine ⟨rfl, a, ha, by omega, hx1, _, c1, (wu16_c hw2 _ (by rw [List.length_append, hl4]; omega)).mono fun e w3 h => ?_⟩
    obtain ⟨rfl, q3, hw3, hk3, hq3⟩ := h
    obtain ⟨hb3, hB3, hq3B⟩ := step hb2 hB2 hq2B hk3 hq3
    obtain ⟨c0, c1, c2, hbr⟩ := hpi _ hb3
    refine ⟨rfl, a, ha, by omega, hx1, _, c1, (wu32_c hw3 _ (by rw [List.length_append, List.length_append, hl4, hl4]; omega)).mono fun e w4 h => ?_⟩
    obtain ⟨rfl, q4, hw4, hk4, hq4⟩ := h
    obtain ⟨hb4, hB4, hq4B⟩ := step hb3 hB3 hq3B hk4 hq4
    obtain ⟨c0, c1, c2, hbr⟩ := hpi _ hb4
    refine ⟨rfl, a, ha, by omega, hx1, b, c2, (cut_c hbr 50).mono fun e w5 h => ?_⟩
    obtain ⟨r5, rfl, rfl, hr5⟩ := h
    refine ⟨_, rfl, (wraw_c hw4 (hr5 _ hbr) (by rw [List.length_append, List.length_append, List.length_append, hl4, hl4, hl4, List.length_take]; omega)).mono fun e w6 h => ?_⟩
    obtain ⟨rfl, q6, hw6, hk6, hq6⟩ := h
    obtain ⟨hb6, hB6, hq6B⟩ := step hb4 hB4 hq4B hk6 hq6
    refine ⟨rfl, ?_⟩
    rw [w64 (by omega) (by omega)]
    refine hJ _ _ ⟨i + 1, by omega, by omega, by omega, hb6, q6, ?_, hq6B, hB6⟩ (by omega)
    have : pbs (l.take (i + 1)) = T ++ pb l[i] := by
      rw [List.take_succ_eq_append_getElem hil2, ← hT0]
      unfold pbs
      rw [List.flatMap_append]
      simp only [List.flatMap_cons, List.flatMap_nil, List.append_nil]
    rw [this, pb]
    simpa [List.append_assoc] using hw6
  · have hT := pbs_le (l.take i)
    have hTl : (l.take i).length = i := by rw [List.length_take]; omega
    refine (done_c hw (by omega)).mono fun e w2 h => ?_
    obtain ⟨r2, rfl, ho2, hl2, hk2, hq2⟩ := h
    have hw2 := hw.keep hk2 (by simp) (by simp)
    have hb2 : Below W.heap.size W w2 := hk2.below hb hBw (by simp)
    refine ⟨_, rfl, (newr_c ho2.rd (by omega)).mono fun e w3 h => ?_⟩
    obtain ⟨r3, rfl, pr, qr, rfl, hr3, hk3, hpr, hqr⟩ := h
    have hb3 : Below W.heap.size W w3 := hk3.below hb2 (Nat.le_trans hBw hk2.size) (by simp)
    have hw3 := hw2.keep hk3 (by simp) (by simp)
    have hB3 : W.heap.size ≤ w3.heap.size := Nat.le_trans (Nat.le_trans hBw hk2.size) hk3.size
    have hprB : W.heap.size ≤ pr := by have := hk2.size; omega
    have hqrB : ∀ x ∈ qr, W.heap.size ≤ x := by intro x hx; have := hqr x hx; have := hk2.size; omega
    refine ⟨_, rfl, M.join_by (fun J => J false w3) ?_ ?_⟩
    rotate_left
    · intro J hJ2
      refine M.ite_n rfl ((left_c hr3).mono fun e w4 h => ?_)
      obtain ⟨r4, rfl, rfl, rfl⟩ := h
      refine ⟨_, rfl, (wlen_c hw3).mono fun e w5 h => ?_⟩
      obtain ⟨r5, rfl, rfl, rfl⟩ := h
      refine ⟨_, rfl, ?_⟩
      simpa using hJ2
    refine M.ite_n rfl ?_
    refine M.loop1_by (fun x w => ∃ j : Nat, x = j ∧ j ≤ i ∧ Below W.heap.size W w ∧ W.heap.size ≤ w.heap.size ∧ IsR w pr qr (pbs ((l.take i).drop j)) false) (fun x _ => (30 - x).toNat)
      ⟨0, rfl, by omega, hb3, hB3, by simpa using hr3⟩ ?_
    rintro x w' J ⟨j, rfl, hji, hb, hB, hr⟩ hJ2
    have hdl := pbs_le ((l.take i).drop j)
    have hdl2 : ((l.take i).drop j).length = i - j := by rw [List.length_drop, hTl]
    refine M.join_lt (fun hx1 hx2 => ?_) (fun hend2 => ?_)
    · have hji2 : j < i := by omega
      have hjl : j < l.length := by omega
      have hpi := hp j l[j] (List.getElem?_eq_getElem hjl)
      have hsplit : pbs ((l.take i).drop j) = pb l[j] ++ pbs ((l.take i).drop (j + 1)) := by
        rw [List.drop_eq_getElem_cons (by omega : j < (l.take i).length)]
        simp [pbs]
      rw [hsplit] at hr
      have hdl3 := pbs_le ((l.take i).drop (j + 1))
      have hdl4 : ((l.take i).drop (j + 1)).length = i - (j + 1) := by rw [List.length_drop, hTl]
      generalize hrest : pbs ((l.take i).drop (j + 1)) = rest at *
      generalize hx0 : l[j] = x0 at *
      obtain ⟨k0, n0, b0⟩ := x0
      have hl4 : ∀ n k, (lowB n k).length = k := fun n k => by simp [lowB, beB_length]
      have hmem : ∀ x ∈ [pr], W.heap.size ≤ x := by intro x hx; simp at hx; omega
      simp only [pb, List.append_assoc] at hr
      have ht50 : (b0.take 50).length ≤ 50 := by rw [List.length_take]; omega
      -- the cut
      obtain ⟨a, b, ha, hbl, hpi⟩ := hpi
      obtain ⟨c0, c1, c2, hbr⟩ := hpi _ hb
      refine ⟨a, ha, by omega, hx1, b, c2, (cut_c hbr 50).mono fun e w1 h => ?_⟩
      obtain ⟨r1, rfl, rfl, hr1⟩ := h
      have hb1 := hb.drew
      refine ⟨_, rfl, M.join_by (fun J => ∀ w, Below W.heap.size W w → W.heap.size ≤ w.heap.size → IsR w pr qr rest false → J false w) ?_ ?_⟩
      · intro w6 hb6 hB6 hr6
        refine M.ite_ff ?_
        rw [w64 (by omega) (by omega)]
        exact hJ2 _ _ ⟨j + 1, by omega, by omega, hb6, hB6, by rw [hrest]; exact hr6⟩ (by omega)
      intro J3 hJ3
      refine M.drew_by ?_
      have kd := Keeps.drew [] w1
      have hbd := kd.below hb hB (by simp)
      have hrd := hr.keep kd (by simp) (by simp)
      obtain ⟨c0, c1, c2, hbr⟩ := hpi _ hbd
      refine ⟨a, ha, by omega, hx1, _, c1, (ru8_c hrd (by simp only [List.length_append, hl4]; omega)).mono fun e w2 h => ?_⟩
      obtain ⟨r2, rfl, hr2, hi2, hk2⟩ := h
      obtain ⟨e1, e2, e3⟩ := rawOut_app (lowB n0 1) (lowB n0 2 ++ (lowB (IntKind.u32.wrap n0) 4 ++ (b0.take 50 ++ rest))) 1 (by rw [hl4]; rfl)
      rw [e1] at hr2
      rw [e2, e3] at hi2
      have hB1 : W.heap.size ≤ w1.drew.heap.size := hB
      have hb2 := hk2.below hbd hB1 hmem
      have hB2 : W.heap.size ≤ w2.heap.size := Nat.le_trans hB1 hk2.size
      obtain ⟨c0, c1, c2, hbr⟩ := hpi _ hb2
      have h8 : r2 = bAnd .i64 n0 255 := by
        rw [hr2, lowB, lowB_be _ _ (by omega)]
        exact (bAnd64_low n0 8 (by omega)).symm
      refine ⟨_, rfl, c1, M.ite_n (by rw [h8]; simp) ⟨a, ha, by omega, hx1, _, c1, (ru16_c hi2 (by simp only [List.length_append, hl4]; omega)).mono fun e w3 h => ?_⟩⟩
      obtain ⟨r3, rfl, hr3', hi3, hk3⟩ := h
      obtain ⟨e1, e2, e3⟩ := rawOut_app (lowB n0 2) (lowB (IntKind.u32.wrap n0) 4 ++ (b0.take 50 ++ rest)) 2 (by rw [hl4]; rfl)
      rw [e1] at hr3'
      rw [e2, e3] at hi3
      have hb3 := hk3.below hb2 hB2 hmem
      have hB3 : W.heap.size ≤ w3.heap.size := Nat.le_trans hB2 hk3.size
      obtain ⟨c0, c1, c2, hbr⟩ := hpi _ hb3
      have h16 : r3 = bAnd .i64 n0 65535 := by
        rw [hr3', lowB, lowB_be _ _ (by omega)]
        exact (bAnd64_low n0 16 (by omega)).symm
      refine ⟨_, rfl, c1, M.ite_n (by rw [h16]; simp) ⟨a, ha, by omega, hx1, _, c1, (ru32_c hi3 (by simp only [List.length_append, hl4]; omega)).mono fun e w4 h => ?_⟩⟩
      obtain ⟨r4, rfl, hr4', hi4, hk4⟩ := h
      obtain ⟨e1, e2, e3⟩ := rawOut_app (lowB (IntKind.u32.wrap n0) 4) (b0.take 50 ++ rest) 4 (by rw [hl4]; rfl)
      rw [e1] at hr4'
      rw [e2, e3] at hi4
      have hb4 := hk4.below hb3 hB3 hmem
      have hB4 : W.heap.size ≤ w4.heap.size := Nat.le_trans hB3 hk4.size
      obtain ⟨c0, c1, c2, hbr⟩ := hpi _ hb4
      have h32 : r4 = IntKind.u32.wrap n0 := by
        rw [hr4', lowB, lowB_be _ _ (by omega), IntKind.wrap_u32]
        show n0 % 4294967296 % 4294967296 = n0 % 4294967296
        omega
      have hrb : ∀ {w1 : World}, Below W.heap.size W w1 → Rd 1 w1 r1 (bv (b0.take 50)) := fun h => hr1 _ (hpi _ h).2.2.2
      have hr1w := hrb hb4
      have hr1l := hr1w.len
      rw [bv_length, Nat.mul_one] at hr1l
      refine ⟨_, rfl, c1, M.ite_n (by rw [h32]; simp) ⟨_, b2s_c hr1w, (raw_c hi4 _ (by simp only [List.length_append]; omega)).mono fun e w5 h => ?_⟩⟩
      obtain ⟨r5, rfl, ho5, hi5, hk5, hf5⟩ := h
      obtain ⟨e1, e2, e3⟩ := rawOut_app (b0.take 50) rest r1.len (by omega)
      rw [e1] at ho5
      rw [e2, e3] at hi5
      have hb5 := hk5.below hb4 hB4 hmem
      have hB5 : W.heap.size ≤ w5.heap.size := Nat.le_trans hB4 hk5.size
      have hr1w5 := hrb hb5
      refine ⟨_, rfl, b2s_c hr1w5, _, b2s_c ho5.rd, M.ite_n (by simp) ((fine_c hi5).mono fun e w6 h => ?_)⟩
      obtain ⟨r6, rfl, rfl, rfl⟩ := h
      exact ⟨_, rfl, hJ3 _ hb5 hB5 hi5⟩
    · have hij : j = i := by omega
      subst hij
      rw [List.drop_of_length_le (by omega)] at hr
      refine M.join_by (fun J => ∀ w, Below W.heap.size W w → J true w) ?_ ?_
      · intro w hb
        exact ⟨rfl, hb⟩
      intro J4 hJ4
      refine (left_c hr).mono fun e w2 h => ?_
      obtain ⟨r2, rfl, rfl, rfl⟩ := h
      refine ⟨_, rfl, M.ite_y rfl ((ru8_c hr (by simp [pbs])).mono fun e w3 h => ?_)⟩
      obtain ⟨r3, rfl, hr3', hi3, hk3⟩ := h
      have hb3' := hk3.below hb hB (by intro x hx; simp at hx; omega)
      refine ⟨_, rfl, M.ite_y (by rw [hr3']; rfl) ((fine_c hi3).mono fun e w4 h => ?_)⟩
      obtain ⟨r4, rfl, rfl, rfl⟩ := h
      refine ⟨_, rfl, M.ite_y rfl (known_c.mono fun e w5 h => ?_)⟩
      obtain ⟨r5, rfl, rfl, hk5⟩ := h
      exact ⟨_, rfl, hJ4 _ (hk5.below hb3' (Nat.le_trans hB hk3.size) (by simp))⟩
theorem back_law (W : World) (args : List Value) (h : GdArgs W [(false, .cons (.slice partSh) .nil)] args) : Calls Try.prog 6 args.toArray W fun e W' => e = .returned (.bool true) ∧ Below W.heap.size W W' := by
  obtain ⟨v, r, rfl, h1, h2⟩ := h.one
  cases h2
  obtain ⟨s, l, rfl, hl, hm, hp⟩ := parts_of h1
  exact (back_c hl hm hp).mono fun e w' ⟨b, he, hb, hw⟩ => by subst hb; exact ⟨he, hw⟩
end Go.Proofs.Ytobnlhfkggeahaa
