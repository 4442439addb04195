/-
  WireTells: numbers and bytes are written, and read, as the document says, for any of them.
-/
import Derived.Test.YtobnlhfkggeahaaWireG
namespace Go.Proofs.Ytobnlhfkggeahaa
set_option linter.unusedVariables false
set_option linter.unusedSimpArgs false
open Go.Sp
open Go.RowKit (Below)

theorem putl_c {w : World} {p : Nat} {q : List Nat} {bs : List UInt8} {s : SV} (h : IsW w p q bs) (hs : Own 5 1 w s (bv bs)) (hsp : p ∉ s.blk) (hsq : ∀ x ∈ s.blk, x ∉ q) (kind n : Int) (b : SV) {bb : List UInt8} (hb : ∀ w', Keeps (p :: q) w w' → Rd 1 w' b (bv bb)) (hlen : bs.length + 200 ≤ 140737488355328) :
    Calls Try.prog 18 #[.pointer (some ⟨p, 0, none⟩), s.v, .agg #[.int .i64 kind, .int .i64 n, b.v]] w (R18 fun r w' => ∃ q' more, IsW w' p q' (bs ++ more) ∧ more.length ≤ 100 ∧ Own 5 1 w' r (bv (bs ++ more)) ∧ Keeps (p :: q) w w' ∧ (∀ k ∈ q', k ∈ q ∨ w.heap.size ≤ k) ∧ (∀ k ∈ r.blk, w.heap.size ≤ k ∧ k ≠ p) ∧ (∀ k ∈ r.blk, k ∉ q')) := by
  have hlt := h.lt
  have kal := Keeps.alloc [] w (.cells [Value.int .i64 kind, .int .i64 n, b.v].toArray 31)
  have hb0 := Blk.new w [Value.int .i64 kind, .int .i64 n, b.v] 31
  have h1 := h.keep kal (by simp) (by simp)
  have s1 := hs.keep kal (by simp)
  have hss : ∀ x ∈ s.blk, x ∉ p :: q := by
    intro x hx hpq
    rcases List.mem_cons.1 hpq with rfl | hpq
    · exact hsp hx
    · exact hsq x hx hpq
  have hbn : w.heap.size ∉ p :: q := by
    intro hpq
    rcases List.mem_cons.1 hpq with h | h
    · omega
    · have := hlt.2 _ h; omega
  have hl4 : ∀ n k, (lowB n k).length = k := fun n k => by simp [lowB, beB_length]
  have fin : ∀ {w2 w3 : World} {q2 : List Nat} {more : List UInt8} {r : SV}, more.length ≤ 100 → IsW w2 p q2 (bs ++ more) → Keeps (p :: q) (w.alloc (.cells [Value.int .i64 kind, .int .i64 n, b.v].toArray 31)) w2 → (∀ k ∈ q2, k ∈ q ∨ (w.alloc (.cells [Value.int .i64 kind, .int .i64 n, b.v].toArray 31)).heap.size ≤ k) →
      Own 5 1 w3 r (bv (bs ++ more)) → Keeps [] w2 w3 → (∀ k ∈ r.blk, w2.heap.size ≤ k) →
      (∃ q' more, IsW w3 p q' (bs ++ more) ∧ more.length ≤ 100 ∧ Own 5 1 w3 r (bv (bs ++ more)) ∧ Keeps (p :: q) w w3 ∧ (∀ k ∈ q', k ∈ q ∨ w.heap.size ≤ k) ∧ (∀ k ∈ r.blk, w.heap.size ≤ k ∧ k ≠ p) ∧ (∀ k ∈ r.blk, k ∉ q')) := by
    intro w2 w3 q2 more r hm a1 a2 a3 a4 a5 a6
    have hs2 := a2.size
    simp at hs2
    refine ⟨q2, more, a1.keep a5 (by simp) (by simp), hm, a4, (kal.up.and a2).and a5.up, ?_, ?_, ?_⟩
    · intro k hk
      rcases a3 k hk with h | h
      · exact .inl h
      · simp at h; right; omega
    · intro k hk
      have := a6 k hk
      have := hlt.1
      omega
    · intro k hk hkq
      have := a6 k hk
      have := a1.lt.2 k hkq
      omega
  have hbA : ∀ {w2 : World} {i : Nat} {v : Value}, Keeps (p :: q) (w.alloc (.cells [Value.int .i64 kind, .int .i64 n, b.v].toArray 31)) w2 → [Value.int .i64 kind, .int .i64 n, b.v][i]? = some v → w2.cell? ((⟨w.heap.size, 0, none⟩ : Addr).add i) = some v := by
    intro w2 i v k hv
    rw [add_mk, (hb0.keep k hbn).cell, Nat.zero_add]; exact hv
  refine F18_ok (M.new_by ⟨_, hb0.cell 0, M.ite_by (fun hk => ?_) (fun hk => ?_)⟩)
  · refine ⟨n, hbA (Keeps.refl _ _) rfl, (wu8_c h1 n (by omega)).mono fun e w2 g => ?_⟩
    obtain ⟨rfl, q2, g1, g2, g3⟩ := g
    refine ⟨rfl, n, hbA g2 rfl, (bu8_c (s1.keep g2 hss).rd n (by omega)).mono fun e w3 g => ?_⟩
    obtain ⟨r, rfl, f1, f2, f3⟩ := g
    exact ⟨_, rfl, fin (by rw [hl4]; omega) g1 g2 g3 f1 f2 f3⟩
  refine M.ite_by (fun hk => ?_) (fun hk => ?_)
  · refine ⟨n, hbA (Keeps.refl _ _) rfl, (wu16_c h1 n (by omega)).mono fun e w2 g => ?_⟩
    obtain ⟨rfl, q2, g1, g2, g3⟩ := g
    refine ⟨rfl, n, hbA g2 rfl, (bu16_c (s1.keep g2 hss).rd n (by omega)).mono fun e w3 g => ?_⟩
    obtain ⟨r, rfl, f1, f2, f3⟩ := g
    exact ⟨_, rfl, fin (by rw [hl4]; omega) g1 g2 g3 f1 f2 f3⟩
  refine M.ite_by (fun hk => ?_) (fun hk => ?_)
  · refine ⟨n, hbA (Keeps.refl _ _) rfl, (wu32_c h1 _ (by omega)).mono fun e w2 g => ?_⟩
    obtain ⟨rfl, q2, g1, g2, g3⟩ := g
    refine ⟨rfl, n, hbA g2 rfl, (bu32_c (s1.keep g2 hss).rd _ (by omega)).mono fun e w3 g => ?_⟩
    obtain ⟨r, rfl, f1, f2, f3⟩ := g
    exact ⟨_, rfl, fin (by rw [hl4]; omega) g1 g2 g3 f1 f2 f3⟩
  · have htk : (bb.take 100).length ≤ 100 := by rw [List.length_take]; omega
    refine ⟨b, hbA (Keeps.refl _ _) rfl, (cut_c (hb _ kal.up) 100).mono fun e w2 g => ?_⟩
    obtain ⟨r2, rfl, rfl, c2⟩ := g
    refine ⟨_, rfl, (wraw_c h1 (c2 _ (hb _ kal.up)) (by omega)).mono fun e w3 g => ?_⟩
    obtain ⟨rfl, q3, g1, g2, g3⟩ := g
    have kd := Keeps.drew [] w3
    have g2d := g2.and kd.up
    have al2 := Keeps.alloc [] w3.drew (.cells #[] 5)
    obtain ⟨r4, w4, e1, e2, e3, e4⟩ := copy_b ((s1.keep g2d hss).rd) (by omega)
    have g4 := g2d.and e3.up
    refine ⟨rfl, M.drew_by ⟨b, hbA g2d rfl, M.new_by ⟨hbA (g2d.and al2.up) rfl, r4, w4, e1, hbA g4 rfl, (cut_c (hb _ (kal.up.and g4)) 100).mono fun e w5 g => ?_⟩⟩⟩
    obtain ⟨r5, rfl, rfl, c5⟩ := g
    obtain ⟨r6, w6, f1, f2, f3, f4⟩ := app_b e2 (c5 _ (hb _ (kal.up.and g4))) (by omega)
    refine ⟨_, rfl, r6, w6, f1, fin htk g1 g2 g3 f2 ((kd.trans e3 (by simp)).trans f3 (fun x hx => .inr (e4 x hx))) ?_⟩
    intro k hk
    rcases f4 k hk with h | h
    · exact e4 k h
    · have := e3.size; simp at this; omega

theorem tells_c {W : World} {s0 s1 s2 : SV} {l asks : List (Int × Int × List UInt8)} {more : List UInt8} (hl : l.length = s0.len) (hm : s0.len ≤ maxLen) (hp : ∀ i x, l[i]? = some x → PartAt W s0 i x)
    (hl1 : asks.length = s1.len) (hm1 : s1.len ≤ maxLen) (hp1 : ∀ i x, asks[i]? = some x → PartAt W s1 i x) (hmore : Rd 1 W s2 (bv more)) :
    Calls Try.prog 5 #[s0.v, s1.v, s2.v] W (R5 fun r w' => r = true ∧ Below W.heap.size W w') := by
  unfold maxLen at hm hm1
  refine F5_ok (neww_c.mono fun e w1 h => ?_)
  obtain ⟨r, rfl, p, rfl, hw, hk, hpB⟩ := h
  refine ⟨_, rfl, M.ite_n rfl ?_⟩
  refine M.loop2_by (fun s x w => ∃ (i : Nat) (q : List Nat) (bs : List UInt8), x = i ∧ i ≤ 30 ∧ Aft W w ∧ bs.length ≤ 100 * i ∧ IsW w p q bs ∧ Own 5 1 w s (bv bs) ∧ p ∉ s.blk ∧ (∀ x ∈ s.blk, x ∉ q) ∧ (∀ x ∈ q, W.heap.size ≤ x) ∧ (∀ x ∈ s.blk, W.heap.size ≤ x)) (fun _ x _ => (30 - x).toNat)
    ⟨0, [], [], rfl, by omega, (Aft.refl W).new hk, by simp, hw, Own.nil _ _ _, by simp [SV.blk], by simp [SV.blk], by simp, by simp [SV.blk]⟩ ?_
  rintro s x w J ⟨i, q, bs, rfl, hi, ha, hbl, hw, ho, hps, hsq, hqB, hsB⟩ hJ
  refine M.join_lt (fun hx1 hx2 => ?_) (fun hend => ?_)
  · have hil : i < l.length := by omega
    have hpi := hp i l[i] (List.getElem?_eq_getElem hil)
    obtain ⟨a, b, hsa, hbl2, hpi⟩ := hpi
    obtain ⟨c0, c1, c2, hbr⟩ := hpi _ ha.1
    have hpq : ∀ x ∈ p :: q, W.heap.size ≤ x := by
      intro x hx
      rcases List.mem_cons.1 hx with rfl | hx
      · exact hpB
      · exact hqB x hx
    refine ⟨a, hsa, by omega, hx1, _, c0, _, c1, b, c2, (putl_c hw ho hps hsq _ _ b (bb := l[i].2.2) (fun w' k => (hpi _ (ha.step k hpq).1).2.2.2) (by omega)).mono fun e w2 h => ?_⟩
    obtain ⟨r, rfl, q2, m2, g1, g2, g3, g4, g5, g6, g7⟩ := h
    have a2 := ha.step g4 hpq
    have hl2 : (bs ++ m2).length ≤ 100 * (i + 1) := by rw [List.length_append]; omega
    refine ⟨_, rfl, M.join_by (fun J => ∀ w3, Keeps [] w2 w3 → J false w3) ?_ ?_⟩
    · intro w3 k3
      refine M.ite_ff ?_
      rw [w64 (by omega) (by omega)]
      refine hJ _ _ _ ⟨i + 1, q2, bs ++ m2, by omega, by omega, a2.new k3, hl2, g1.keep k3 (by simp) (by simp), g3.keep k3 (by simp), fun h => (g6 p h).2 rfl, g7, fun x hx => ?_, fun x hx => ?_⟩ (by omega)
      · rcases g5 x hx with h | h
        · exact hqB x h
        · have := ha.2; omega
      · have := ha.2; have := g6 x hx; omega
    · intro J3 hJ3
      have kd := Keeps.drew [] w2
      have d1 := g1.keep kd (by simp) (by simp)
      have d3 := g3.keep kd (by simp)
      have dl := d3.rd.len
      rw [bv_length, Nat.mul_one] at dl
      refine M.drew_by ((wlen_c d1).mono fun e w3 h => ?_)
      obtain ⟨r3, rfl, rfl, rfl⟩ := h
      refine ⟨_, rfl, M.ite_n (by rw [dl]; simp) ⟨_, b2s_c d3.rd, (done_c d1 (by omega)).mono fun e w4 h => ?_⟩⟩
      obtain ⟨r4, rfl, o4, l4, k4, f4⟩ := h
      refine ⟨_, rfl, b2s_c (d3.keep k4 (by simp)).rd, _, b2s_c o4.rd, ?_⟩
      have := hJ3 _ (kd.trans k4 (by simp))
      simpa using this
  · refine (cut_c (hmore.arg ha.1) 100).mono fun e w2 h => ?_
    obtain ⟨r2, rfl, rfl, c2⟩ := h
    have hml : (more.take 100).length ≤ 100 := by rw [List.length_take]; omega
    obtain ⟨r3, w3, e1, e2, e3, e4⟩ := app_b ho (c2 _ (hmore.arg ha.1)) (by omega)
    have a3 := ha.step e3 hsB
    have hl3 : (bs ++ more.take 100).length ≤ 100 * i + 100 := by rw [List.length_append]; omega
    refine ⟨_, rfl, r3, w3, e1, (newr_c e2.rd (by omega)).mono fun e w4 h => ?_⟩
    obtain ⟨r4, rfl, p4, q4, rfl, hr, k4, hp4, hq4⟩ := h
    have hlp := hr.lt
    have a4 := a3.new k4
    have kal := Keeps.alloc [] w4 (.cells [r3.v, .int .i64 0, .bool false].toArray 28)
    have hr3lt := e2.lt
    have hk4s := k4.size
    refine ⟨_, rfl, M.new_by (M.ite_n rfl ?_)⟩
    have hP : Pair (w4.alloc (.cells [r3.v, .int .i64 0, .bool false].toArray 28)) p4 q4 w4.heap.size r3.blk (bs ++ more.take 100) false := by
      refine ⟨hr.keep kal (by simp) (by simp), r3, bs ++ more.take 100, 0, rfl, ?_, Blk.new _ _ _, ((e2.keep k4 (by simp)).keep kal (by simp)).rd, by omega, by omega, rfl⟩
      intro hx
      have := hr3lt _ hx
      omega
    have hne : p4 ≠ w4.heap.size := by omega
    have hpq : p4 ∉ r3.blk := fun hx => by have := hr3lt _ hx; omega
    have hqp : w4.heap.size ∉ q4 := fun hx => by have := hq4 _ hx; omega
    refine M.loop1_by (fun x w => ∃ (j : Nat) (bs1 : List UInt8) (bad1 : Bool), x = j ∧ j ≤ 30 ∧ Aft W w ∧ Pair w p4 q4 w4.heap.size r3.blk bs1 bad1) (fun x _ => (30 - x).toNat) ⟨0, _, _, rfl, by omega, a4.new kal, hP⟩ ?_
    rintro x w5 J4 ⟨j, bs', bad', rfl, hj, a5, P5⟩ hJ4
    have hp4B : W.heap.size ≤ p4 := by have := a3.2; omega
    refine M.join_lt (fun hx1 hx2 => ?_) (fun hend2 => ?_)
    · have hjl : j < asks.length := by omega
      obtain ⟨a, b, hsa, hbl2, hpi⟩ := hp1 j asks[j] (List.getElem?_eq_getElem hjl)
      obtain ⟨c0, c1, c2', hbr⟩ := hpi _ a5.1
      refine ⟨a, hsa, by omega, hx1, _, c0, _, c1, b, c2', (getl_c P5 hne hpq hqp _ _ _).mono fun e w6 h => ?_⟩
      obtain ⟨r6, rfl, rfl, b6, d6, P6, k6⟩ := h
      refine ⟨_, rfl, M.ite_n rfl ?_⟩
      rw [w64 (by omega) (by omega)]
      refine hJ4 _ _ ⟨j + 1, b6, d6, by omega, by omega, a5.step k6 ?_, P6⟩ (by omega)
      intro x hx
      simp at hx
      have := a4.2
      omega
    · refine known_c.mono fun e w6 h => ?_
      obtain ⟨r6, rfl, rfl, hk6⟩ := h
      exact ⟨_, rfl, rfl, (a5.new hk6).1⟩
theorem tells_law (W : World) (args : List Value) (h : GdArgs W [(false, .cons (.slice partSh) .nil), (false, .cons (.slice partSh) .nil), (false, .cons (.slice (.cons (.int .u8) .nil)) .nil)] args) : Calls Try.prog 5 args.toArray W fun e W' => e = .returned (.bool true) ∧ Below W.heap.size W W' := by
  obtain ⟨v, r, rfl, h1, h2⟩ := h.one
  obtain ⟨v2, r, rfl, h3, h4⟩ := h2.one
  obtain ⟨v3, r, rfl, h5, h6⟩ := h4.one
  cases h6
  obtain ⟨s, l, rfl, hl, hm, hp⟩ := parts_of h1
  obtain ⟨s1, l1, rfl, hl1, hm1, hp1⟩ := parts_of h3
  obtain ⟨s0, bs, rfl, hr, hl0, _⟩ := good_bytes h5
  exact (tells_c hl hm hp hl1 hm1 hp1 hr).mono fun e w' ⟨b, he, hb, hw⟩ => by subst hb; exact ⟨he, hw⟩
end Go.Proofs.Ytobnlhfkggeahaa
