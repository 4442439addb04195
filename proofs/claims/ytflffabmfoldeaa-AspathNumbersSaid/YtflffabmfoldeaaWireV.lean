/-
  What the functions of the document's own answer for chapter 4 do to memory.
-/
import Derived.Test.YtflffabmfoldeaaWireC
import Derived.Test.YtflffabmfoldeaaSpBytes
namespace Go.Proofs.Ytflffabmfoldeaa
set_option linter.unusedVariables false
set_option linter.unusedSimpArgs false
open Go.Sp

theorem app_b {w : World} {s x : SV} {bs news : List UInt8} (ho : Own 5 1 w s (bv bs)) (hx : Rd 1 w x (bv news)) (hb : bs.length + news.length ≤ 140737488355328) :
    ∃ r w', (Builtin.append_ #[40, 40] 40 #[s.v, x.v]).run Try.prog w = .ok (SV.v r) w' ∧ Own 5 1 w' r (bv (bs ++ news)) ∧ Keeps s.blk w w' ∧ (∀ k ∈ r.blk, k ∈ s.blk ∨ w.heap.size ≤ k) := by
  have hl := ho.rd.len
  have hxl := hx.len
  rw [bv_length, Nat.mul_one] at hl hxl
  obtain ⟨r, w', h1, h2, h3, h4, h5⟩ := app_own (P := Try.prog) (ty := 40) wireSl wireEl ho hx (bv_one news) (by omega)
  exact ⟨r, w', h1, by rw [bv_append]; exact h2, h4, h5⟩
/-- append onto a new slice without bytes: a copy. -/
theorem copy_b {w : World} {x : SV} {news : List UInt8} (hx : Rd 1 w x (bv news)) (hb : news.length ≤ 140737488355328) :
    ∃ r w', (Builtin.append_ #[40, 40] 40 #[(SV.mk (some ⟨w.heap.size, 0, none⟩) 0 0).v, x.v]).run Try.prog (w.alloc (.cells #[] 5)) = .ok (SV.v r) w' ∧ Own 5 1 w' r (bv news) ∧ Keeps [] w w' ∧ (∀ k ∈ r.blk, w.heap.size ≤ k) := by
  obtain ⟨r, w', h1, h2, h3, h4⟩ := app_b (s := SV.mk (some ⟨w.heap.size, 0, none⟩) 0 0) (bs := []) (Own.new w 5 1 0 [] rfl (by decide)) (hx.keep (Keeps.alloc [] w _) (by simp)) (by simpa using hb)
  refine ⟨r, w', h1, by simpa using h2, (Keeps.alloc [] w (.cells #[] 5)).trans h3 ?_, ?_⟩
  · intro x hx; right; simp [SV.blk] at hx; omega
  · intro k hk
    rcases h4 k hk with h5 | h5
    · simp [SV.blk] at h5; omega
    · simp at h5; omega

/-- A Reader of the document's at block p; its bytes lie in q's blocks; these are left. -/
def IsV (w : World) (p : Nat) (q : List Nat) (bs : List UInt8) (bad : Bool) : Prop :=
  ∃ (s : SV) (full : List UInt8) (k : Nat), (bv full ≠ [] → s.blk = q) ∧ p ∉ q ∧ Blk w p 85 [s.v, .int .i64 (k : Int), .bool bad] ∧ Rd 1 w s (bv full) ∧ k ≤ full.length ∧ full.length ≤ 140737488355328 ∧ bs = full.drop k
theorem IsV.keep {w w' : World} {p : Nat} {q : List Nat} {bs : List UInt8} {bad : Bool} {D : List Nat} (h : IsV w p q bs bad) (k : Keeps D w w') (hp : p ∉ D) (hq : ∀ x ∈ q, x ∉ D) : IsV w' p q bs bad := by
  obtain ⟨s, f, n, h1, h2, h3, h4, h5⟩ := h
  exact ⟨s, f, n, h1, h2, h3.keep k hp, h4.keep' k (fun hf => by rw [h1 hf]; exact hq), h5⟩
theorem IsV.lt {w : World} {p : Nat} {q : List Nat} {bs : List UInt8} {bad : Bool} (h : IsV w p q bs bad) : p < w.heap.size := by
  obtain ⟨s, f, n, h1, h2, h3, h4, h5⟩ := h
  exact h3.lt
theorem IsV.len {w : World} {p : Nat} {q : List Nat} {bs : List UInt8} {bad : Bool} (h : IsV w p q bs bad) : bs.length ≤ 140737488355328 := by
  obtain ⟨s, f, n, h1, h2, h3, h4, h5, h6, rfl⟩ := h
  rw [List.length_drop]; omega

theorem IsV.start {w : World} {s : SV} {bs : List UInt8} (h : Rd 1 w s (bv bs)) (hb : bs.length ≤ 140737488355328) {p : Nat} {w' : World} (hp : p = w.heap.size) (P : Blk w' p 85 [s.v, .int .i64 0, .bool false]) (k : Keeps [] w w') :
    ∃ q, IsV w' p q bs false ∧ ∀ x ∈ q, x < w.heap.size := by
  by_cases hbs : bs = []
  · subst hbs
    exact ⟨[], ⟨s, [], 0, fun hf => absurd rfl hf, by simp, P, h.keep k (by simp), by simp, by simp, rfl⟩, by simp⟩
  · have hpos : 0 < bs.length := List.length_pos_iff.2 hbs
    have hl := h.len
    rw [bv_length, Nat.mul_one] at hl
    have hlt : ∀ x ∈ s.blk, x < w.heap.size := by
      intro x hx
      obtain ⟨a, ha⟩ := h.some (by omega)
      have hc := h.at ha (i := 0) (bv_get (List.getElem?_eq_getElem hpos))
      have := World.block_lt_of_cell? _ _ hc
      rw [add_block] at this
      simp [SV.blk, ha] at hx
      omega
    exact ⟨s.blk, ⟨s, bs, 0, fun _ => rfl, fun hx => by have := hlt _ hx; omega, P, h.keep k (by simp), by omega, hb, rfl⟩, hlt⟩
theorem vleft_c {w : World} {p : Nat} {q : List Nat} {bs : List UInt8} {bad : Bool} (h : IsV w p q bs bad) :
    Calls Try.prog 61 #[.pointer (some ⟨p, 0, none⟩)] w (R61 fun r w' => r = (if bad then 0 else (bs.length : Int)) ∧ Keeps [] w w') := by
  obtain ⟨s, f, k, h1, h2, h3, h4, h5, h6, rfl⟩ := h
  have hl := h4.len
  rw [bv_length, Nat.mul_one] at hl
  refine F61_ok ⟨_, rfl, bad, by rw [add_mk]; exact h3.cell 2, M.ite_by (fun hb => ?_) (fun hb => ?_)⟩
  · subst hb; exact ⟨rfl, Keeps.refl _ _⟩
  · subst hb
    have hd := h3.keep (Keeps.drew [] w) (by simp)
    refine M.drew_by ⟨_, rfl, _, rfl, s, hd.cell 0, k, by rw [add_mk]; exact hd.cell 1, ?_, Keeps.drew [] w⟩
    rw [w64 (by omega) (by omega)]
    simp only [List.length_drop, Bool.false_eq_true, if_false]
    omega

theorem vraw_c {w : World} {p : Nat} {q : List Nat} {bs : List UInt8} {bad : Bool} (h : IsV w p q bs bad) (n : Int) :
    Calls Try.prog 75 #[.pointer (some ⟨p, 0, none⟩), .int .i64 n] w (R75 fun r w' => Own 5 1 w' r (bv (rawOut bs bad n)) ∧ IsV w' p q (rawLeft bs bad n) (rawBad bs bad n) ∧ Keeps [p] w w' ∧ ∀ k ∈ r.blk, w.heap.size ≤ k) := by
  have h0 := h
  obtain ⟨s, f, k, h1, h2, h3, h4, h5, h6, rfl⟩ := h
  have hl := h4.len
  have hcap := h4.cap
  rw [bv_length, Nat.mul_one] at hl
  have hlt := h3.lt
  have hsp : bv f ≠ [] → ∀ x ∈ s.blk, x ∉ [p] := by intro hf x hx hxp; simp at hxp; subst hxp; rw [h1 hf] at hx; exact h2 hx
  refine F75_ok (M.join_by (fun J => J (bad || decide (n < 1)) w) ?_ ?_)
  rotate_left
  · intro J hJ
    refine ⟨_, rfl, bad, by rw [add_mk]; exact h3.cell 2, M.ite_by (fun hb => ?_) (fun hb => ?_)⟩
    · subst hb; exact hJ
    · subst hb; exact hJ
  have hdl : (f.drop k).length = f.length - k := List.length_drop
  refine M.ite_by (fun hb => ?_) (fun hb => ?_)
  · refine ⟨?_, ?_, Keeps.refl _ _, by simp [SV.blk]⟩
    · have : rawOut (f.drop k) bad n = [] := by
        rcases Bool.or_eq_true_iff.1 hb with h | h
        · subst h; simp [rawOut, rawBad]
        · have h := of_decide_eq_true h
          unfold rawOut
          split
          · rfl
          · rw [show n.toNat = 0 by omega]; rfl
      rw [this]; exact Own.nil _ _ _
    · have : rawLeft (f.drop k) bad n = f.drop k ∧ rawBad (f.drop k) bad n = bad := by
        rcases Bool.or_eq_true_iff.1 hb with h | h
        · subst h; simp [rawLeft, rawBad]
        · have h := of_decide_eq_true h
          have h7 : decide (((f.drop k).length : Int) < n) = false := decide_eq_false (by omega)
          unfold rawLeft rawBad
          rw [h7, Bool.or_false]
          refine ⟨?_, rfl⟩
          split
          · rfl
          · rw [show n.toNat = 0 by omega]; rfl
      rw [this.1, this.2]; exact h0
  · have ⟨hbad, hn⟩ := Bool.or_eq_false_iff.1 hb
    subst hbad
    have hn := of_decide_eq_false hn
    have kd := Keeps.drew [] w
    have hd := h3.keep kd (by simp)
    refine M.drew_by ⟨_, rfl, _, rfl, s, hd.cell 0, k, by rw [add_mk]; exact hd.cell 1, ?_⟩
    dsimp only
    rw [w64 (by omega) (by omega)]
    refine M.ite_by (fun hlt => ?_) (fun hge => ?_)
    · have hlt := of_decide_eq_true hlt
      have hB : rawBad (f.drop k) false n = true := by unfold rawBad; rw [decide_eq_true (by omega)]; rfl
      have kset : Keeps [p] w.drew (w.drew.setCell ⟨p, 2, none⟩ (.bool true)) := Keeps.set _ (by simp) _
      refine ⟨_, rfl, ⟨_, by rw [add_mk]; exact hd.cell 2⟩, by rw [add_mk]; exact hd.free 2, ?_, ?_, ?_, by simp [SV.blk]⟩
      · simp only [rawOut, hB, if_true]; exact Own.nil _ _ _
      · simp only [rawLeft, hB, if_true]
        rw [add_mk]
        exact ⟨s, f, k, h1, h2, by simpa using hd.set 2 (.bool true), (h4.keep kd (by simp)).keep' kset hsp, h5, h6, rfl⟩
      · rw [add_mk]; exact kd.up.and kset
    · have hge := of_decide_eq_false hge
      have hB : rawBad (f.drop k) false n = false := by unfold rawBad; rw [decide_eq_false (by omega)]; rfl
      have kd2 := Keeps.drew [] w.drew
      have hd2 := hd.keep kd2 (by simp)
      have r2 := (h4.keep kd (by simp)).keep kd2 (by simp)
      have hwrap : IntKind.i64.wrap ((k : Int) + n) = ((k + n.toNat : Nat) : Int) := by rw [w64 (by omega) (by omega)]; omega
      have hsub := r2.sub (l := k) (u := k + n.toNat) (by omega) (by omega)
      simp only [Nat.mul_one, bv_drop, bv_take] at hsub
      rw [show k + n.toNat - k = n.toNat by omega] at hsub
      obtain ⟨r, w3, e1, e2, e3, e4⟩ := copy_b hsub (by rw [List.length_take]; omega)
      have kal := Keeps.alloc [] w.drew.drew (.cells #[] 5)
      have hd3 := hd2.keep e3 (by simp)
      have hd4 := hd2.keep kal (by simp)
      have kset : Keeps [p] w3 (w3.setCell ⟨p, 1, none⟩ (.int .i64 ((k + n.toNat : Nat) : Int))) := Keeps.set _ (by simp) _
      refine M.drew_by ⟨_, rfl, _, rfl, _, rfl, s, hd2.cell 0, k, by rw [add_mk]; exact hd2.cell 1, k, by rw [add_mk]; exact hd2.cell 1, ?_⟩
      dsimp only
      rw [hwrap]
      refine ⟨by omega, by omega, by omega, M.new_by ⟨by rw [add_mk]; exact hd4.cell 1, by rw [add_mk]; exact hd4.cell 1, hd4.cell 0, r, w3, e1, _, rfl, k, by rw [add_mk]; exact hd3.cell 1, _, rfl, ⟨_, by rw [add_mk]; exact hd3.cell 1⟩, by rw [add_mk]; exact hd3.free 1, ?_⟩⟩
      dsimp only
      rw [hwrap, add_mk]
      have hpr : ∀ x ∈ r.blk, x ∉ [p] := by intro x hx hxp; have h9 := e4 x hx; simp at hxp h9; omega
      refine ⟨?_, ⟨s, f, k + n.toNat, h1, h2, ?_, ?_, by omega, h6, ?_⟩, ?_, ?_⟩
      · simp only [rawOut, hB]; exact e2.keep kset hpr
      · rw [hB]; simpa using hd3.set 1 (.int .i64 ((k + n.toNat : Nat) : Int))
      · exact (r2.keep e3 (by simp)).keep' kset hsp
      · simp only [rawLeft, hB]
        show (f.drop k).drop n.toNat = _
        rw [List.drop_drop]
      · exact (((kd.trans kd2 (by simp)).trans e3 (by simp)).up).and kset
      · intro x hx; exact e4 x hx

theorem vnum_c {w : World} {p : Nat} {q : List Nat} {bs : List UInt8} {bad : Bool} (h : IsV w p q bs bad) (n : Int) (hn : n ≤ 4) :
    Calls Try.prog 70 #[.pointer (some ⟨p, 0, none⟩), .int .i64 n] w (R70 fun r w' => r = (be (rawOut bs bad n) : Int) ∧ IsV w' p q (rawLeft bs bad n) (rawBad bs bad n) ∧ Keeps [p] w w') := by
  refine F70_ok ((vraw_c h n).mono fun e w2 h1 => ?_)
  obtain ⟨r, rfl, ho, hr, hk, hf⟩ := h1
  refine ⟨r, rfl, ?_⟩
  generalize hout : rawOut bs bad n = out at *
  have hle : out.length ≤ 4 := by have := rawOut_le bs bad n; rw [hout] at this; omega
  have hrd := ho.rd
  have hl := hrd.len
  rw [bv_length, Nat.mul_one] at hl
  refine M.loop2_by (fun x y w => ∃ k : Nat, k ≤ out.length ∧ x = (be (out.take k) : Int) ∧ y = k ∧ w = w2) (fun _ y _ => out.length - y.toNat) ⟨0, Nat.zero_le _, rfl, rfl, rfl⟩ ?_
  rintro x y w J ⟨k, hkl, rfl, rfl, rfl⟩ hJ
  refine M.ite_by (fun hlt => ?_) (fun hge => ?_)
  · have hlt := of_decide_eq_true hlt
    have hkl' : k < out.length := by omega
    obtain ⟨a, ha⟩ := hrd.some (by omega)
    have hc := hrd.at ha (bv_get (List.getElem?_eq_getElem hkl'))
    refine ⟨a, ha, by omega, hlt, _, by simpa using hc, ?_⟩
    have h1 := be_lt (out.take k)
    have h2 : (out.take k).length ≤ 3 := by simp; omega
    have h3 : be (out.take k) < 256 ^ 3 := Nat.lt_of_lt_of_le h1 (Nat.pow_le_pow_right (by omega) h2)
    show J (bOr .u32 (bShl .u32 _ (8 : Int)) (IntKind.u32.wrap _)) (IntKind.i64.wrap _) w
    rw [or_shl8 .u32 (be (out.take k)) _ (.inl rfl) ?_ (UInt8.toNat_lt _), w64 (by omega) (by omega)]
    · refine hJ _ _ _ ⟨k + 1, by omega, ?_, by omega, rfl⟩ (by omega)
      rw [take_succ_getElem hkl', be_snoc]
    · have e6 : (256 : Nat) ^ 3 = 16777216 := by decide
      rw [e6] at h3
      show _ < (4294967296 : Nat)
      omega
  · have hge := of_decide_eq_false hge
    have : k = out.length := by omega
    subst this
    rw [List.take_length]
    exact ⟨rfl, hr, hk⟩
theorem be_out_lt (bs : List UInt8) (bad : Bool) (k : Nat) : be (rawOut bs bad k) < 256 ^ k :=
  Nat.lt_of_lt_of_le (be_lt _) (Nat.pow_le_pow_right (by omega) (by have := (rawOut_le bs bad k).1; omega))
theorem vu8_c {w : World} {p : Nat} {q : List Nat} {bs : List UInt8} {bad : Bool} (h : IsV w p q bs bad) :
    Calls Try.prog 62 #[.pointer (some ⟨p, 0, none⟩)] w (R62 fun r w' => r = (be (rawOut bs bad 1) : Int) ∧ IsV w' p q (rawLeft bs bad 1) (rawBad bs bad 1) ∧ Keeps [p] w w') := by
  refine F62_ok ((vnum_c h 1 (by omega)).mono fun e w2 h1 => ?_)
  obtain ⟨r, rfl, rfl, h2⟩ := h1
  refine ⟨_, rfl, ?_, h2⟩
  have h3 : be (rawOut bs bad 1) < 256 ^ 1 := be_out_lt bs bad 1
  rw [w64 (by omega) (by omega)]
theorem vu32_c {w : World} {p : Nat} {q : List Nat} {bs : List UInt8} {bad : Bool} (h : IsV w p q bs bad) :
    Calls Try.prog 63 #[.pointer (some ⟨p, 0, none⟩)] w (R63 fun r w' => r = (be (rawOut bs bad 4) : Int) ∧ IsV w' p q (rawLeft bs bad 4) (rawBad bs bad 4) ∧ Keeps [p] w w') := by
  refine F63_ok ((vnum_c h 4 (by omega)).mono fun e w2 h1 => ?_)
  obtain ⟨r, rfl, rfl, h2⟩ := h1
  exact ⟨_, rfl, rfl, h2⟩

/-! Writing: bytes, and these behind them. -/
theorem byte0 (n : Int) : IntKind.u8.wrap n = ((UInt8.ofNat ((n % 18446744073709551616).toNat / 256 ^ 0)).toNat : Int) := by
  rw [IntKind.wrap_u8, Nat.pow_zero, Nat.div_one]
  simp only [UInt8.toNat_ofNat']
  omega
theorem div_wrap (n : Int) (m : Nat) (hm : 0 < m) (hd : m ∣ 72057594037927936) : n / (m : Int) % 256 = (((n % 18446744073709551616).toNat / m % 256 : Nat) : Int) := by
  obtain ⟨c, hc⟩ := hd
  have hr0 : 0 ≤ n % 18446744073709551616 := by omega
  generalize hr : n % 18446744073709551616 = r at *
  have hn : n = r + (m : Int) * (256 * ((c : Int) * (n / 18446744073709551616))) := by
    have h1 : (72057594037927936 : Int) = (m : Int) * (c : Int) := by rw [← Int.natCast_mul, ← hc]; rfl
    have h2 : (m : Int) * (256 * ((c : Int) * (n / 18446744073709551616))) = 18446744073709551616 * (n / 18446744073709551616) := by
      rw [show (m : Int) * (256 * ((c : Int) * (n / 18446744073709551616))) = ((m : Int) * (c : Int)) * (256 * (n / 18446744073709551616)) by
        rw [Int.mul_assoc, Int.mul_left_comm 256 (c : Int)], ← h1]
      omega
    rw [h2]; omega
  rw [hn, Int.add_mul_ediv_left _ _ (by omega : (m : Int) ≠ 0), Int.add_mul_emod_self_left]
  obtain ⟨x, rfl⟩ := Int.eq_ofNat_of_zero_le hr0
  simp
theorem byteN (k : IntKind) (n : Int) (j : Nat) (hj : 8 * j ≤ k.bits) (hj2 : j ≤ 3) : IntKind.u8.wrap (bShr k n ((8 * j : Nat) : Int)) = ((UInt8.ofNat ((n % 18446744073709551616).toNat / 256 ^ j)).toNat : Int) := by
  have h256 : 0 < 256 ^ j := Nat.pow_pos (by omega)
  have e : (2 : Int) ^ (8 * j) = ((256 ^ j : Nat) : Int) := by
    rw [show (256 : Nat) = 2 ^ 8 by rfl, ← Nat.pow_mul]; simp
  unfold bShr
  rw [Int.toNat_natCast, Nat.min_eq_left hj, IntKind.wrap_u8, e, Int.fdiv_eq_ediv_of_nonneg _ (by omega)]
  rw [div_wrap n (256 ^ j) h256 (by
    have : j = 0 ∨ j = 1 ∨ j = 2 ∨ j = 3 := by omega
    rcases this with rfl | rfl | rfl | rfl <;> decide)]
  simp only [UInt8.toNat_ofNat']
theorem new_b (w : World) (l : List UInt8) (hl : l.length ≤ 140737488355328) : Rd 1 (w.alloc (.cells (bv l).toArray 5)) ⟨some ⟨w.heap.size, 0, none⟩, l.length, l.length⟩ (bv l) :=
  (Own.new w 5 1 l.length (bv l) (by rw [bv_length, Nat.mul_one]) (by unfold maxLen; omega)).rd
/-- A copy, and bytes behind it. -/
theorem copy_and {w : World} {x : SV} {bs : List UInt8} (hx : Rd 1 w x (bv bs)) (l : List UInt8) (hb : bs.length + l.length ≤ 140737488355328) :
    ∃ r w1, (Builtin.append_ #[40, 40] 40 #[(SV.mk (some ⟨w.heap.size, 0, none⟩) 0 0).v, x.v]).run Try.prog (w.alloc (.cells #[] 5)) = .ok (SV.v r) w1 ∧
      ∃ r2 w2, (Builtin.append_ #[40, 40] 40 #[r.v, (SV.mk (some ⟨w1.heap.size, 0, none⟩) l.length l.length).v]).run Try.prog (w1.alloc (.cells (bv l).toArray 5)) = .ok (SV.v r2) w2 ∧
        Own 5 1 w2 r2 (bv (bs ++ l)) ∧ Keeps [] w w2 ∧ (∀ k ∈ r2.blk, w.heap.size ≤ k) := by
  obtain ⟨r, w1, h1, h2, h3, h4⟩ := copy_b hx (by omega)
  have kal := Keeps.alloc [] w1 (.cells (bv l).toArray 5)
  obtain ⟨r2, w2, g1, g2, g3, g4⟩ := app_b (h2.keep kal (by simp)) (new_b w1 l (by omega)) hb
  refine ⟨r, w1, h1, r2, w2, g1, g2, (h3.trans kal (by simp)).trans g3 (fun x hx => .inr (h4 x hx)), fun x hx => ?_⟩
  rcases g4 x hx with h | h
  · exact h4 x h
  · have := h3.size; simp at h; omega
theorem lowB1 (n : Int) : bv (lowB n 1) = [Value.int .u8 (IntKind.u8.wrap n)] := by
  rw [byte0]; rfl
theorem lowB2 (n : Int) : bv (lowB n 2) = [Value.int .u8 (IntKind.u8.wrap (bShr .i64 n 8)), Value.int .u8 (IntKind.u8.wrap n)] := by
  have h8 : IntKind.u8.wrap (bShr .i64 n 8) = _ := byteN .i64 n 1 (by decide) (by omega)
  rw [byte0 n, h8]; rfl
theorem lowB4 (n : Int) : bv (lowB n 4) = [Value.int .u8 (IntKind.u8.wrap (bShr .u32 n 24)), Value.int .u8 (IntKind.u8.wrap (bShr .u32 n 16)), Value.int .u8 (IntKind.u8.wrap (bShr .u32 n 8)), Value.int .u8 (IntKind.u8.wrap n)] := by
  have h8 : IntKind.u8.wrap (bShr .u32 n 8) = _ := byteN .u32 n 1 (by decide) (by omega)
  have h16 : IntKind.u8.wrap (bShr .u32 n 16) = _ := byteN .u32 n 2 (by decide) (by omega)
  have h24 : IntKind.u8.wrap (bShr .u32 n 24) = _ := byteN .u32 n 3 (by decide) (by omega)
  rw [byte0 n, h8, h16, h24]; rfl
theorem bu32_c {w : World} {s : SV} {bs : List UInt8} (h : Rd 1 w s (bv bs)) (n : Int) (hb : bs.length + 8 ≤ 140737488355328) :
    Calls Try.prog 47 #[s.v, .int .u32 n] w (R47 fun r w' => Own 5 1 w' r (bv (bs ++ lowB n 4)) ∧ Keeps [] w w' ∧ ∀ k ∈ r.blk, w.heap.size ≤ k) := by
  have hl : (lowB n 4).length = 4 := by simp [lowB, beB_length]
  obtain ⟨r, w1, h1, r2, w2, h2, h3⟩ := copy_and h (lowB n 4) (by omega)
  rw [lowB4, hl] at h2
  exact F47_ok (M.new_by ⟨r, w1, h1, M.new_by ⟨r2, w2, h2, h3⟩⟩)
end Go.Proofs.Ytflffabmfoldeaa
