/-
  What the functions of package wire do to memory, each proved from its printed formula.
-/
import Derived.Test.YtflffabmfoldeaaF
import Derived.Test.YtflffabmfoldeaaSpNum
namespace Go.Proofs.Ytflffabmfoldeaa
set_option linter.unusedVariables false
set_option linter.unusedSimpArgs false
open Go.Sp

theorem wireEl : elemB Try.prog 5 1 1 = true := by kernel_rfl
theorem wireSl : sliceB Try.prog 40 5 1 = true := by kernel_rfl
theorem wireRd1 : sizeB Try.prog 79 2 = true := by kernel_rfl

theorem clone_c {w : World} {s : SV} {bs : List UInt8} (h : Rd 1 w s (bv bs)) (hb : bs.length ≤ 140737488355328) :
    Calls Try.prog 57 #[s.v] w (R57 fun r w' => Own 5 1 w' r (bv bs) ∧ r.len = bs.length ∧ Keeps [] w w' ∧ ∀ k ∈ r.blk, w.heap.size ≤ k) := by
  have hl := h.len
  rw [bv_length, Nat.mul_one] at hl
  refine F57_ok (M.ite_by (fun hn => ?_) (fun hn => M.new_by ?_))
  · have := h.none (Option.isNone_iff_eq_none.1 hn)
    have h0 : bs = [] := List.eq_nil_of_length_eq_zero (by omega)
    subst h0
    exact ⟨Own.nil _ _ _, rfl, Keeps.refl _ _, by simp [SV.blk]⟩
  · obtain ⟨r, w', hr, ho, hlen, hk, hf⟩ := app_own (P := Try.prog) (ty := 40) wireSl wireEl (Own.new w 5 1 0 [] rfl (by decide)) (h.keep (Keeps.alloc [] w _) (by simp)) (bv_one bs) (by simp only [Nat.zero_add, Nat.mul_one]; omega)
    refine ⟨r, w', hr, by simpa using ho, by simp only [] at hlen; omega, (Keeps.alloc [] w (.cells #[] 5)).trans hk ?_, ?_⟩
    · intro x hx; right; simp [SV.blk] at hx; omega
    · intro k hk'
      rcases hf k hk' with h1 | h1
      · simp [SV.blk] at h1; omega
      · simp at h1; omega

/-- A Reader at block p whose bytes lie in q's blocks: it has these bytes left. -/
def IsR (w : World) (p : Nat) (q : List Nat) (bs : List UInt8) (bad : Bool) : Prop :=
  ∃ s : SV, s.blk = q ∧ p ∉ q ∧ Blk w p 79 [s.v, .bool bad] ∧ Rd 1 w s (bv bs)
theorem IsR.keep {w w' : World} {p : Nat} {q : List Nat} {bs : List UInt8} {bad : Bool} {D : List Nat} (h : IsR w p q bs bad) (k : Keeps D w w') (hp : p ∉ D) (hq : ∀ x ∈ q, x ∉ D) : IsR w' p q bs bad := by
  obtain ⟨s, h1, h2, h3, h4⟩ := h
  exact ⟨s, h1, h2, h3.keep k hp, h4.keep k (by rw [h1]; exact hq)⟩
theorem IsR.lt {w : World} {p : Nat} {q : List Nat} {bs : List UInt8} {bad : Bool} (h : IsR w p q bs bad) : p < w.heap.size := by
  obtain ⟨s, h1, h2, h3, h4⟩ := h
  exact h3.lt

theorem newr_c {w : World} {s : SV} {bs : List UInt8} (h : Rd 1 w s (bv bs)) (hb : bs.length ≤ 140737488355328) :
    Calls Try.prog 36 #[s.v] w (R36 fun r w' => ∃ p q, r = some ⟨p, 0, none⟩ ∧ IsR w' p q bs false ∧ Keeps [] w w' ∧ w.heap.size ≤ p ∧ (∀ x ∈ q, w.heap.size ≤ x ∧ x < w'.heap.size)) := by
  refine F36_ok ((clone_c h hb).mono fun e w1 h1 => ?_)
  obtain ⟨r, rfl, ho, hl, hk, hf⟩ := h1
  refine ⟨r, rfl, M.new_by ⟨w1.heap.size, r.blk, rfl, ⟨r, rfl, ?_, Blk.new _ _ _, (ho.keep (Keeps.alloc [] _ _) (by simp)).rd⟩, hk.trans (Keeps.alloc [] _ _) (by simp), hk.size, fun x hx => ⟨hf x hx, by have := ho.lt x hx; simp; omega⟩⟩⟩
  intro hx
  have := ho.lt _ hx
  omega

theorem left_c {w : World} {p : Nat} {q : List Nat} {bs : List UInt8} {bad : Bool} (h : IsR w p q bs bad) :
    Calls Try.prog 37 #[.pointer (some ⟨p, 0, none⟩)] w (R37 fun r w' => r = (if bad then 0 else (bs.length : Int)) ∧ w' = w) := by
  obtain ⟨s, h1, h2, h3, h4⟩ := h
  have hl := h4.len
  rw [bv_length, Nat.mul_one] at hl
  refine F37_ok ⟨_, rfl, bad, by rw [add_mk]; exact h3.cell 1, M.ite_by (fun hb => ?_) (fun hb => ?_)⟩
  · subst hb; exact ⟨rfl, rfl⟩
  · subst hb; exact ⟨_, rfl, s, h3.cell 0, by simp [hl], rfl⟩

theorem fine_c {w : World} {p : Nat} {q : List Nat} {bs : List UInt8} {bad : Bool} (h : IsR w p q bs bad) :
    Calls Try.prog 40 #[.pointer (some ⟨p, 0, none⟩)] w (R40 fun r w' => r = !bad ∧ w' = w) := by
  obtain ⟨s, h1, h2, h3, h4⟩ := h
  exact F40_ok ⟨_, rfl, bad, by rw [add_mk]; exact h3.cell 1, rfl, rfl⟩

/-- What Raw does: the bytes that come back, those that are left, is it bad now. -/
def rawBad (bs : List UInt8) (bad : Bool) (n : Int) : Bool := bad || decide ((bs.length : Int) < n)
def rawOut (bs : List UInt8) (bad : Bool) (n : Int) : List UInt8 := if rawBad bs bad n then [] else bs.take n.toNat
def rawLeft (bs : List UInt8) (bad : Bool) (n : Int) : List UInt8 := if rawBad bs bad n then bs else bs.drop n.toNat

theorem raw_c {w : World} {p : Nat} {q : List Nat} {bs : List UInt8} {bad : Bool} (h : IsR w p q bs bad) (n : Int) (hb : bs.length ≤ 140737488355328) :
    Calls Try.prog 69 #[.pointer (some ⟨p, 0, none⟩), .int .i64 n] w (R69 fun r w' => Own 5 1 w' r (bv (rawOut bs bad n)) ∧ IsR w' p q (rawLeft bs bad n) (rawBad bs bad n) ∧ Keeps [p] w w' ∧ ∀ k ∈ r.blk, w.heap.size ≤ k) := by
  obtain ⟨s, h1, h2, h3, h4⟩ := h
  have hl := h4.len
  rw [bv_length, Nat.mul_one] at hl
  have hlt := h3.lt
  have hsp : ∀ x ∈ s.blk, x ∉ [p] := by intro x hx hxp; simp at hxp; subst hxp; rw [h1] at hx; exact h2 hx
  -- behind the first statement
  have key : ∀ w1, Keeps [p] w w1 → Blk w1 p 79 [s.v, .bool (rawBad bs bad n)] → Rd 1 w1 s (bv bs) →
      (M.join (fun (x26 : Bool) (w33 : World) => M.ite x26 (Own 5 1 w33 SV.nil (bv (rawOut bs bad n)) ∧ IsR w33 p q (rawLeft bs bad n) (rawBad bs bad n) ∧ Keeps [p] w w33 ∧ ∀ k ∈ SV.nil.blk, w.heap.size ≤ k) (
        M.nil (some ⟨p, 0, none⟩) fun a38 => M.ld SV.v a38 w33 fun t40 => M.bnd (0 : Int) n t40 <|
        Calls Try.prog 57 #[(SV.v (SV.sub t40 (Int.toNat (0 : Int)) (Int.toNat n) 1))] w33 (R57 fun r46 w47 =>
        M.nil (some ⟨p, 0, none⟩) fun a48 => M.ld SV.v a48 w47 fun t50 => M.bnd n (t50.len : Int) t50 <|
        M.nil (some ⟨p, 0, none⟩) fun a56 => M.st a56 (SV.v (SV.sub t50 (Int.toNat n) (Int.toNat (t50.len : Int)) 1)) w47 fun w58 =>
        (Own 5 1 w58 r46 (bv (rawOut bs bad n)) ∧ IsR w58 p q (rawLeft bs bad n) (rawBad bs bad n) ∧ Keeps [p] w w58 ∧ ∀ k ∈ r46.blk, w.heap.size ≤ k)))) fun J25 =>
        M.nil (some ⟨p, 0, none⟩) fun a27 => M.ld Value.bool (a27.add 1) w1 fun t29 => M.ite t29 (J25 true w1) (J25 (decide (n < (1 : Int))) w1)) := by
    intro w1 k1 b1 r1
    refine ⟨_, rfl, rawBad bs bad n, by rw [add_mk]; exact b1.cell 1, M.ite_by (fun hbad => ?_) (fun hbad => ?_)⟩
    · refine M.ite_tt ⟨?_, ⟨s, h1, h2, b1, ?_⟩, k1, by simp [SV.blk]⟩
      · simp only [rawOut, hbad, if_true]; exact Own.nil _ _ _
      · simp only [rawLeft, hbad, if_true]; exact r1
    · have hn : n ≤ (bs.length : Int) := by
        simp only [rawBad, Bool.or_eq_false_iff, decide_eq_false_iff_not] at hbad; omega
      by_cases hn1 : n < 1
      · rw [decide_eq_true hn1]
        have h0 : n.toNat = 0 := by omega
        refine M.ite_tt ⟨?_, ⟨s, h1, h2, b1, ?_⟩, k1, by simp [SV.blk]⟩
        · simp only [rawOut, hbad, h0]; exact Own.nil _ _ _
        · simp only [rawLeft, hbad, h0]; exact r1
      · rw [decide_eq_false hn1]
        have hcap := h4.cap
        have hnn : n.toNat ≤ s.len := by omega
        have hsub := r1.sub (l := 0) (u := n.toNat) (Nat.zero_le _) hnn
        simp only [List.drop_zero, Nat.sub_zero, Nat.mul_one, bv_take] at hsub
        refine M.ite_ff ⟨_, rfl, s, b1.cell 0, by omega, by omega, by omega, (clone_c hsub (by simp; omega)).mono fun e w2 h5 => ?_⟩
        obtain ⟨r, rfl, ho, hrl, k2, hf⟩ := h5
        have b2 := b1.keep k2 (by simp)
        have r2 := r1.keep k2 (by simp)
        have hs2 := r2.sub (l := n.toNat) (u := s.len) (by omega) (Nat.le_refl _)
        have htk : ((bv bs).drop (n.toNat * 1)).take ((s.len - n.toNat) * 1) = bv (bs.drop n.toNat) := by
          rw [Nat.mul_one, Nat.mul_one, bv_drop, bv_take]
          congr 1
          apply List.take_of_length_le
          simp; omega
        rw [htk] at hs2
        have hset : Keeps [p] w2 (w2.setCell ⟨p, 0, none⟩ (SV.v (SV.sub s n.toNat s.len 1))) := Keeps.set _ (by simp) _
        refine ⟨r, rfl, _, rfl, s, b2.cell 0, by omega, by omega, by omega, _, rfl, ⟨_, b2.cell 0⟩, b2.free 0, ?_, ?_, ?_, ?_⟩
        · simp only [rawOut, hbad]
          refine ho.keep (D := [p]) hset fun x hx hxp => ?_
          simp at hxp
          have h6 := hf x hx
          have h7 := k1.size
          omega
        · refine ⟨SV.sub s n.toNat s.len 1, by rw [SV.sub_blk]; exact h1, h2, ?_, ?_⟩
          · have := b2.set 0 (SV.v (SV.sub s n.toNat s.len 1))
            simpa [hbad] using this
          · simp only [rawLeft, hbad]
            exact hs2.keep (D := [p]) hset (by rw [SV.sub_blk]; exact hsp)
        · exact (k1.trans k2 (by simp)).trans hset (by simp)
        · intro k hk
          have h6 := hf k hk
          have h7 := k1.size
          omega
  refine F69_ok ⟨_, rfl, bad, by rw [add_mk]; exact h3.cell 1, M.ite_by (fun hbad => ?_) (fun hbad => ?_)⟩
  · subst hbad
    refine ⟨_, rfl, ⟨_, by rw [add_mk]; exact h3.cell 1⟩, by rw [add_mk]; exact h3.free 1, key _ (Keeps.set _ (by simp [add_block]) _) ?_ (h4.keep (D := [p]) (Keeps.set _ (by simp [add_block]) _) hsp)⟩
    rw [add_mk]
    have := h3.set 1 (.bool true)
    simpa [rawBad] using this
  · subst hbad
    refine ⟨_, rfl, s, h3.cell 0, _, rfl, ⟨_, by rw [add_mk]; exact h3.cell 1⟩, by rw [add_mk]; exact h3.free 1, key _ (Keeps.set _ (by simp [add_block]) _) ?_ (h4.keep (D := [p]) (Keeps.set _ (by simp [add_block]) _) hsp)⟩
    rw [add_mk]
    have := h3.set 1 (.bool (decide ((s.len : Int) < n)))
    simpa [rawBad, hl] using this

theorem rawOut_le (bs : List UInt8) (bad : Bool) (n : Int) : (rawOut bs bad n).length ≤ n.toNat ∧ (rawOut bs bad n).length ≤ bs.length := by
  unfold rawOut; split
  · simp
  · simp; omega

theorem take_succ_getElem {bs : List UInt8} {k : Nat} (hk : k < bs.length) : bs.take (k + 1) = bs.take k ++ [bs[k]] := by
  rw [List.take_succ_eq_append_getElem hk]

theorem get_c {w : World} {p : Nat} {q : List Nat} {bs : List UInt8} {bad : Bool} (h : IsR w p q bs bad) (n : Int) (hn : n ≤ 7) (hb : bs.length ≤ 140737488355328) :
    Calls Try.prog 58 #[.pointer (some ⟨p, 0, none⟩), .int .i64 n] w (R58 fun r w' => r = (be (rawOut bs bad n) : Int) ∧ IsR w' p q (rawLeft bs bad n) (rawBad bs bad n) ∧ Keeps [p] w w') := by
  refine F58_ok ((raw_c h n hb).mono fun e w2 h1 => ?_)
  obtain ⟨r, rfl, ho, hr, hk, hf⟩ := h1
  refine ⟨r, rfl, ?_⟩
  generalize hout : rawOut bs bad n = out at *
  have hle : out.length ≤ 7 := by have := rawOut_le bs bad n; rw [hout] at this; omega
  have hrd := ho.rd
  have hl := hrd.len
  rw [bv_length, Nat.mul_one] at hl
  refine M.loop2_by (fun x y w => ∃ k : Nat, k ≤ out.length ∧ x = (be (out.take k) : Int) ∧ y = k ∧ w = w2) (fun _ y _ => out.length - y.toNat) ⟨0, Nat.zero_le _, rfl, rfl, rfl⟩ ?_
  rintro x y w J ⟨k, hkl, rfl, rfl, rfl⟩ hJ
  refine M.ite_by (fun hlt => ?_) (fun hge => ?_)
  · have hlt := of_decide_eq_true hlt
    have hkl' : k < out.length := by omega
    obtain ⟨a, ha⟩ := hrd.some (by omega)
    have hc := hrd.at ha (bv_get (List.getElem?_eq_getElem hkl'))
    refine ⟨a, ha, by omega, hlt, _, by simpa using hc, ?_⟩
    have h1 := be_lt (out.take k)
    have h2 : (out.take k).length ≤ 6 := by simp; omega
    have h3 : be (out.take k) < 256 ^ 6 := Nat.lt_of_lt_of_le h1 (Nat.pow_le_pow_right (by omega) h2)
    show J (bOr .u64 (bShl .u64 _ (8 : Int)) (IntKind.u64.wrap _)) (IntKind.i64.wrap _) w
    rw [or_shl8 .u64 (be (out.take k)) _ (.inr rfl) ?_ (UInt8.toNat_lt _), w64 (by omega) (by omega)]
    · refine hJ _ _ _ ⟨k + 1, by omega, ?_, by omega, rfl⟩ (by omega)
      rw [take_succ_getElem hkl', be_snoc]
    · have e6 : (256 : Nat) ^ 6 = 281474976710656 := by decide
      rw [e6] at h3
      show _ < (18446744073709551616 : Nat)
      omega
  · have hge := of_decide_eq_false hge
    have : k = out.length := by omega
    subst this
    rw [List.take_length]
    exact ⟨rfl, hr, hk⟩

theorem ru8_c {w : World} {p : Nat} {q : List Nat} {bs : List UInt8} {bad : Bool} (h : IsR w p q bs bad) (hb : bs.length ≤ 140737488355328) :
    Calls Try.prog 38 #[.pointer (some ⟨p, 0, none⟩)] w (R38 fun r w' => r = (be (rawOut bs bad 1) : Int) ∧ IsR w' p q (rawLeft bs bad 1) (rawBad bs bad 1) ∧ Keeps [p] w w') := by
  refine F38_ok ((get_c h 1 (by omega) hb).mono fun e w2 h1 => ?_)
  obtain ⟨r, rfl, rfl, h2⟩ := h1
  refine ⟨_, rfl, ?_, h2⟩
  have h1 := be_lt (rawOut bs bad 1)
  have h3 : be (rawOut bs bad 1) < 256 ^ 1 := Nat.lt_of_lt_of_le h1 (Nat.pow_le_pow_right (by omega) (rawOut_le bs bad 1).1)
  rw [w64 (by omega) (by omega)]
theorem ru32_c {w : World} {p : Nat} {q : List Nat} {bs : List UInt8} {bad : Bool} (h : IsR w p q bs bad) (hb : bs.length ≤ 140737488355328) :
    Calls Try.prog 39 #[.pointer (some ⟨p, 0, none⟩)] w (R39 fun r w' => r = (be (rawOut bs bad 4) : Int) ∧ IsR w' p q (rawLeft bs bad 4) (rawBad bs bad 4) ∧ Keeps [p] w w') := by
  refine F39_ok ((get_c h 4 (by omega) hb).mono fun e w2 h1 => ?_)
  obtain ⟨r, rfl, rfl, h2⟩ := h1
  refine ⟨_, rfl, ?_, h2⟩
  have h1 := be_lt (rawOut bs bad 4)
  have h3 : be (rawOut bs bad 4) < 256 ^ 4 := Nat.lt_of_lt_of_le h1 (Nat.pow_le_pow_right (by omega) (rawOut_le bs bad 4).1)
  rw [wu32 (by omega) (by omega)]

/-- A Writer at block p that has written these bytes, in q's blocks. -/
def IsW (w : World) (p : Nat) (q : List Nat) (bs : List UInt8) : Prop :=
  ∃ s : SV, s.blk = q ∧ p ∉ q ∧ Blk w p 74 [s.v] ∧ Own 5 1 w s (bv bs)
theorem IsW.keep {w w' : World} {p : Nat} {q : List Nat} {bs : List UInt8} {D : List Nat} (h : IsW w p q bs) (k : Keeps D w w') (hp : p ∉ D) (hq : ∀ x ∈ q, x ∉ D) : IsW w' p q bs := by
  obtain ⟨s, h1, h2, h3, h4⟩ := h
  exact ⟨s, h1, h2, h3.keep k hp, h4.keep k (by rw [h1]; exact hq)⟩
theorem IsW.lt {w : World} {p : Nat} {q : List Nat} {bs : List UInt8} (h : IsW w p q bs) : p < w.heap.size ∧ ∀ x ∈ q, x < w.heap.size := by
  obtain ⟨s, h1, h2, h3, h4⟩ := h
  exact ⟨h3.lt, by rw [← h1]; exact h4.lt⟩

theorem neww_c {w : World} : Calls Try.prog 32 #[] w (R32 fun r w' => ∃ p, r = some ⟨p, 0, none⟩ ∧ IsW w' p [] [] ∧ Keeps [] w w' ∧ w.heap.size ≤ p) := by
  refine F32_ok (M.new_by ⟨w.heap.size, rfl, ⟨SV.nil, rfl, by simp, Blk.new _ _ _, Own.nil _ _ _⟩, Keeps.alloc _ _ _, Nat.le_refl _⟩)

/-- Appending to a Writer's bytes and keeping the new slice. -/
theorem IsW.app {w : World} {p : Nat} {q : List Nat} {bs news : List UInt8} (h : IsW w p q bs) {x : SV} (hx : Rd 1 w x (bv news)) (hb : bs.length + news.length ≤ 140737488355328) :
    ∃ s : SV, w.cell? ⟨p, 0, none⟩ = some s.v ∧ ∃ r w1, (Builtin.append_ #[40, 40] 40 #[s.v, x.v]).run Try.prog w = .ok (SV.v r) w1 ∧ w1.cell? ⟨p, 0, none⟩ = some s.v ∧ w1.frozen? ⟨p, 0, none⟩ = false ∧
      ∃ q', IsW (w1.setCell ⟨p, 0, none⟩ r.v) p q' (bs ++ news) ∧ Keeps (p :: q) w (w1.setCell ⟨p, 0, none⟩ r.v) ∧ (∀ k ∈ q', k ∈ q ∨ w.heap.size ≤ k) := by
  obtain ⟨s, h1, h2, h3, h4⟩ := h
  have hl := h4.rd.len
  have hxl := hx.len
  rw [bv_length, Nat.mul_one] at hl hxl
  obtain ⟨r, w1, hr, ho, hlen, hk, hf⟩ := app_own (P := Try.prog) (ty := 40) wireSl wireEl h4 hx (bv_one news) (by omega)
  have b1 := h3.keep hk (by rw [h1]; exact h2)
  have hpr : p ∉ r.blk := by
    intro hp
    rcases hf p hp with h5 | h5
    · rw [h1] at h5; exact h2 h5
    · have := h3.lt; omega
  have hset : Keeps [p] w1 (w1.setCell ⟨p, 0, none⟩ r.v) := Keeps.set _ (by simp) _
  refine ⟨s, h3.cell 0, r, w1, hr, b1.cell 0, b1.free 0, r.blk, ⟨r, rfl, hpr, ?_, ?_⟩, ?_, ?_⟩
  · simpa using b1.set 0 r.v
  · rw [bv_append]
    exact ho.keep hset (fun y hy hyp => by simp at hyp; subst hyp; exact hpr hy)
  · exact (hk.mono (D' := p :: q) (fun y hy => .inl (by rw [h1] at hy; simp [hy]))).trans hset (by simp)
  · intro k hk'
    rw [← h1]; exact hf k hk'

theorem beB_take (n k : Nat) : beB n (k + 1) = UInt8.ofNat (n / 256 ^ k) :: beB n k := rfl
theorem byte_of (n k : Nat) (hk : k ≤ 7) : IntKind.u8.wrap (bShr .u64 (n : Int) (IntKind.i64.wrap (8 * (k : Int)))) = ((UInt8.ofNat (n / 256 ^ k)).toNat : Int) := by
  rw [w64 (by omega) (by omega), show (8 * (k : Int)) = ((8 * k : Nat) : Int) by omega, bShr_nat .u64 n (8 * k) (by show 8 * k ≤ 64; omega), IntKind.wrap_u8]
  rw [Nat.pow_mul]
  simp [UInt8.toNat_ofNat']

theorem put_c {w : World} {p : Nat} {q : List Nat} {bs : List UInt8} (h : IsW w p q bs) (n size : Nat) (hs : size ≤ 8) (hb : bs.length + 8 ≤ 140737488355328) :
    Calls Try.prog 56 #[.pointer (some ⟨p, 0, none⟩), .int .u64 (n : Int), .int .i64 (size : Int)] w (R56 fun w' => ∃ q', IsW w' p q' (bs ++ beB n size) ∧ Keeps (p :: q) w w' ∧ (∀ k ∈ q', k ∈ q ∨ w.heap.size ≤ k)) := by
  refine F56_ok ?_
  refine M.loop1_by (fun x w1 => ∃ (k : Nat) (d : List UInt8), x = (k : Int) - 1 ∧ k + d.length = size ∧ d ++ beB n k = beB n size ∧ ∃ q', IsW w1 p q' (bs ++ d) ∧ Keeps (p :: q) w w1 ∧ (∀ k ∈ q', k ∈ q ∨ w.heap.size ≤ k)) (fun x _ => (x + 1).toNat)
    ⟨size, [], by rw [w64 (by omega) (by omega)], by simp, by simp, q, by simpa using h, Keeps.refl _ _, fun k hk => .inl hk⟩ ?_
  rintro x w1 J ⟨k, d, rfl, hkd, hd, q', hw, hk, hq⟩ hJ
  refine M.ite_by (fun hlt => ?_) (fun hge => ?_)
  · have hlt := of_decide_eq_true hlt
    obtain ⟨k, rfl⟩ : ∃ m, k = m + 1 := ⟨k - 1, by omega⟩
    have hx1 : ((k + 1 : Nat) : Int) - 1 = (k : Int) := by omega
    rw [hx1]
    refine M.drew_by ?_
    have hw1 := hw.keep (Keeps.drew [] w1) (by simp) (by simp)
    have hbyte := byte_of n k (by omega)
    have hal := Keeps.alloc [] w1.drew (.cells [Value.int .u8 ((UInt8.ofNat (n / 256 ^ k)).toNat : Int)].toArray 5)
    have hw2 := hw1.keep hal (by simp) (by simp)
    have hx : Rd 1 (w1.drew.alloc (.cells [Value.int .u8 ((UInt8.ofNat (n / 256 ^ k)).toNat : Int)].toArray 5)) ⟨some ⟨w1.drew.heap.size, 0, none⟩, 1, 1⟩ (bv [UInt8.ofNat (n / 256 ^ k)]) :=
      (Own.new w1.drew 5 1 1 (bv [UInt8.ofNat (n / 256 ^ k)]) rfl (by decide)).rd
    obtain ⟨s, hc, r, w3, hr, hc1, hf1, q2, hw3, hk3, hq3⟩ := hw2.app hx (by simp; omega)
    obtain ⟨s1, hs1, hs2, hs3, hs4⟩ := hw1
    have hc0 := hs3.cell 0
    have hss : s1 = s := by
      have h5 := (hs3.keep hal (by simp)).cell 0
      rw [hc] at h5
      simp only [List.getElem?_cons_zero, Option.some.injEq, SV.v, Value.slice.injEq] at h5
      obtain ⟨a1, l1, c1⟩ := s1
      obtain ⟨a2, l2, c2⟩ := s
      simp only [] at h5
      obtain ⟨rfl, rfl, rfl⟩ := h5
      rfl
    subst hss
    refine ⟨_, rfl, by rw [w64 (by omega) (by omega)]; omega, s1, hc0, M.new_by ?_⟩
    rw [hbyte]
    refine ⟨hc, r, w3, hr, _, rfl, ⟨_, hc1⟩, hf1, hJ _ _ ⟨k, d ++ [UInt8.ofNat (n / 256 ^ k)], by rw [w64 (by omega) (by omega)], by simp; omega, by rw [List.append_assoc]; exact hd, q2, ?_, ?_, ?_⟩ (by rw [w64 (by omega) (by omega)]; omega)⟩
    · rw [← List.append_assoc]; exact hw3
    · refine (hk.trans ((Keeps.drew [] w1).trans hal (by simp)) (by simp)).trans hk3 ?_
      intro x hx
      rcases List.mem_cons.1 hx with rfl | hx
      · left; simp
      · rcases hq x hx with h5 | h5
        · left; simp [h5]
        · right; exact h5
    · intro x hx
      rcases hq3 x hx with h5 | h5
      · exact hq x h5
      · right
        have := hk.size
        simp at h5
        omega
  · have hge := of_decide_eq_false hge
    have : k = 0 := by omega
    subst this
    simp only [beB, List.append_nil] at hd
    subst hd
    exact ⟨q', hw, hk, hq⟩

theorem wrap_u64_nat (n : Int) : ∃ m : Nat, IntKind.u64.wrap n = (m : Int) ∧ (m : Int) = n % 18446744073709551616 := by
  rw [IntKind.wrap_u64]
  exact ⟨(n % 18446744073709551616).toNat, by omega, by omega⟩
/-- The lowest k bytes of a number of Go's. -/
def lowB (n : Int) (k : Nat) : List UInt8 := beB (n % 18446744073709551616).toNat k
theorem wu8_c {w : World} {p : Nat} {q : List Nat} {bs : List UInt8} (h : IsW w p q bs) (n : Int) (hb : bs.length + 8 ≤ 140737488355328) :
    Calls Try.prog 33 #[.pointer (some ⟨p, 0, none⟩), .int .i64 n] w (R33 fun w' => ∃ q', IsW w' p q' (bs ++ lowB n 1) ∧ Keeps (p :: q) w w' ∧ (∀ k ∈ q', k ∈ q ∨ w.heap.size ≤ k)) := by
  refine F33_ok ?_
  unfold F33
  rw [IntKind.wrap_u64, show n % 18446744073709551616 = ((n % 18446744073709551616).toNat : Int) by omega]
  exact put_c h _ 1 (by omega) hb
theorem wu32_c {w : World} {p : Nat} {q : List Nat} {bs : List UInt8} (h : IsW w p q bs) (n : Int) (hb : bs.length + 8 ≤ 140737488355328) :
    Calls Try.prog 34 #[.pointer (some ⟨p, 0, none⟩), .int .u32 n] w (R34 fun w' => ∃ q', IsW w' p q' (bs ++ lowB n 4) ∧ Keeps (p :: q) w w' ∧ (∀ k ∈ q', k ∈ q ∨ w.heap.size ≤ k)) := by
  refine F34_ok ?_
  unfold F34
  rw [IntKind.wrap_u64, show n % 18446744073709551616 = ((n % 18446744073709551616).toNat : Int) by omega]
  exact put_c h _ 4 (by omega) hb

theorem done_c {w : World} {p : Nat} {q : List Nat} {bs : List UInt8} (h : IsW w p q bs) (hb : bs.length ≤ 140737488355328) :
    Calls Try.prog 35 #[.pointer (some ⟨p, 0, none⟩)] w (R35 fun r w' => Own 5 1 w' r (bv bs) ∧ r.len = bs.length ∧ Keeps [] w w' ∧ ∀ k ∈ r.blk, w.heap.size ≤ k) := by
  obtain ⟨s, h1, h2, h3, h4⟩ := h
  exact F35_ok ⟨_, rfl, s, h3.cell 0, (clone_c h4.rd hb).mono fun e w' ⟨r, he, h5⟩ => ⟨r, he, h5⟩⟩
theorem rawOut_app (a b : List UInt8) (n : Int) (hn : n = a.length) : rawOut (a ++ b) false n = a ∧ rawLeft (a ++ b) false n = b ∧ rawBad (a ++ b) false n = false := by
  have h : rawBad (a ++ b) false n = false := by simp [rawBad]; omega
  refine ⟨?_, ?_, h⟩
  · simp only [rawOut, h]
    rw [show n.toNat = a.length by omega]; simp
  · simp only [rawLeft, h]
    rw [show n.toNat = a.length by omega]; simp
end Go.Proofs.Ytflffabmfoldeaa
