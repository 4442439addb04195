/-
  What the functions of package open, and of the document's own answer for it, do.
-/
import Derived.Test.YtdlefnpnnpohmaaWireV
import Derived.Test.YtdlefnpnnpohmaaBookC
namespace Go.Proofs.Ytdlefnpnnpohmaa
set_option linter.unusedVariables false
set_option linter.unusedSimpArgs false
open Go.Sp
open Go.RowKit (Below)

def helloB (a h i : Int) : List UInt8 := [4] ++ lowB a 2 ++ lowB h 2 ++ lowB i 4 ++ [0]
theorem lowB_len (n : Int) (k : Nat) : (lowB n k).length = k := by simp [lowB, beB_length]
theorem helloB_len (a h i : Int) : (helloB a h i).length = 10 := by simp [helloB, lowB_len]
def helloOk (a h i : Int) : Bool := decide (1 ≤ a) && (decide (a ≤ 65535) && ((h == 0 || decide (3 ≤ h)) && (decide (h ≤ 65535) && i != 0)))

theorem raw_ok (bs : List UInt8) (n : Int) (k : Nat) (hn : n = k) (h : k ≤ bs.length) : rawOut bs false n = bs.take k ∧ rawLeft bs false n = bs.drop k ∧ rawBad bs false n = false := by
  subst hn
  have hB : rawBad bs false k = false := by simp [rawBad]; omega
  refine ⟨?_, ?_, hB⟩
  · simp only [rawOut, hB]; rfl
  · simp only [rawLeft, hB]; rfl
theorem rawLeft_le (bs : List UInt8) (bad : Bool) (n : Int) : (rawLeft bs bad n).length ≤ bs.length := by
  unfold rawLeft; split
  · exact Nat.le_refl _
  · rw [List.length_drop]; omega

/-- Writing one thing behind the other. -/
theorem Own.fresh {w w1 w2 : World} {r : SV} (k : Keeps [] w w1) (h : ∀ x ∈ r.blk, w1.heap.size ≤ x) : ∀ x ∈ r.blk, w.heap.size ≤ x := fun x hx => Nat.le_trans k.size (h x hx)

theorem enc_c {w : World} (a h i : Int) : Calls Try.prog 16 #[.agg #[.int .i64 a, .int .i64 h, .int .u32 i]] w (R16 fun r e w' => (helloOk a h i = true → e = 0 ∧ Own 5 1 w' r (bv (helloB a h i)) ∧ r.len = 10 ∧ ∀ x ∈ r.blk, w.heap.size ≤ x) ∧ (helloOk a h i = false → e = 12 ∧ r = SV.nil) ∧ Keeps [] w w') := by
  refine F16_ok (M.new_blk fun b w1 hb0 B k1 => ?_)
  refine M.join_by (fun J => J (!helloOk a h i) w1) ?_ fun J hJ => ?_
  · cases hok : helloOk a h i with
    | false => exact M.ite_tt ⟨fun h => by simp at h, fun _ => ⟨rfl, rfl⟩, k1⟩
    | true =>
      refine M.ite_ff (neww_c.mono fun e w2 g => ?_)
      obtain ⟨r, rfl, p, rfl, hw, k2, hp⟩ := g
      have ne : ∀ {q : List Nat} {wx : World}, IsW wx p q [] → True := fun _ => trivial
      have hbB : b < w1.heap.size := B.lt
      refine ⟨_, rfl, (wu8_c hw 4 (by simp)).mono fun e w3 g => ?_⟩
      obtain ⟨rfl, q3, g3, k3, f3⟩ := g
      have fq3 : ∀ x ∈ p :: q3, w1.heap.size ≤ x := by
        intro x hx
        have := k2.size
        rcases List.mem_cons.1 hx with rfl | hx
        · exact hp
        · rcases f3 x hx with h | h
          · simp at h
          · omega
      have k13 : Keeps [] w1 w3 := k2.trans k3 (by intro x hx; right; simp at hx; omega)
      have step : ∀ {wx wy : World} {q q' : List Nat}, Keeps [] w1 wx → (∀ x ∈ p :: q, w1.heap.size ≤ x) → Keeps (p :: q) wx wy → (∀ k ∈ q', k ∈ q ∨ wx.heap.size ≤ k) → Keeps [] w1 wy ∧ (∀ x ∈ p :: q', w1.heap.size ≤ x) := by
        intro wx wy q q' a1 a2 a3 a4
        refine ⟨a1.trans a3 (fun x hx => .inr (a2 x hx)), fun x hx => ?_⟩
        rcases List.mem_cons.1 hx with rfl | hx
        · exact hp
        · rcases a4 x hx with h | h
          · exact a2 x (List.mem_cons_of_mem _ h)
          · have := a1.size; omega
      refine ⟨rfl, _, (B.keep k13 (by simp)).cell 0, (wu16_c g3 a (by simp [lowB_len])).mono fun e w4 g => ?_⟩
      obtain ⟨rfl, q4, g4, k4, f4⟩ := g
      obtain ⟨k14, fq4⟩ := step k13 fq3 k4 f4
      refine ⟨rfl, _, (B.keep k14 (by simp)).cell 1, (wu16_c g4 h (by simp [lowB_len])).mono fun e w5 g => ?_⟩
      obtain ⟨rfl, q5, g5, k5, f5⟩ := g
      obtain ⟨k15, fq5⟩ := step k14 fq4 k5 f5
      refine ⟨rfl, _, (B.keep k15 (by simp)).cell 2, (wu32_c g5 i (by simp [lowB_len])).mono fun e w6 g => ?_⟩
      obtain ⟨rfl, q6, g6, k6, f6⟩ := g
      obtain ⟨k16, fq6⟩ := step k15 fq5 k6 f6
      refine ⟨rfl, (wu8_c g6 0 (by simp [lowB_len])).mono fun e w7 g => ?_⟩
      obtain ⟨rfl, q7, g7, k7, f7⟩ := g
      obtain ⟨k17, fq7⟩ := step k16 fq6 k7 f7
      refine ⟨rfl, (done_c g7 (by simp [lowB_len])).mono fun e w8 g => ?_⟩
      obtain ⟨r8, rfl, o8, l8, k8, f8⟩ := g
      have e8 : ((([] ++ lowB 4 1) ++ lowB a 2) ++ lowB h 2) ++ lowB i 4 ++ lowB 0 1 = helloB a h i := rfl
      rw [e8] at o8
      refine ⟨_, rfl, fun _ => ⟨rfl, o8, by rw [l8]; simp [lowB_len], fun x hx => ?_⟩, fun h => by simp at h, k1.trans (k17.trans k8 (by simp)) (by simp)⟩
      have := f8 x hx
      have := k17.size
      have := k1.size
      omega
  · have hok : helloOk a h i = (decide (1 ≤ a) && (decide (a ≤ 65535) && ((h == 0 || decide (3 ≤ h)) && (decide (h ≤ 65535) && i != 0)))) := rfl
    refine ⟨_, B.cell 0, M.ite_by (fun c => ?_) (fun c => ?_)⟩
    · have c := of_decide_eq_true c
      rw [hok, decide_eq_false (by omega)] at hJ
      exact hJ
    have c := of_decide_eq_false c
    rw [hok, decide_eq_true (by omega), Bool.true_and] at hJ
    refine ⟨_, B.cell 0, M.ite_by (fun c => ?_) (fun c => ?_)⟩
    · have c := of_decide_eq_true c
      rw [decide_eq_false (by omega)] at hJ
      exact hJ
    have c := of_decide_eq_false c
    rw [decide_eq_true (by omega), Bool.true_and] at hJ
    refine ⟨_, B.cell 1, M.ite_by (fun c => ?_) (fun c => ?_)⟩
    · have c1 : (h == 0) = false := by simpa using c
      rw [c1, Bool.false_or] at hJ
      refine ⟨_, B.cell 1, M.ite_by (fun c => ?_) (fun c => ?_)⟩
      · have c := of_decide_eq_true c
        rw [decide_eq_false (by omega)] at hJ
        exact hJ
      have c := of_decide_eq_false c
      rw [decide_eq_true (by omega), Bool.true_and] at hJ
      refine ⟨_, B.cell 1, M.ite_by (fun c => ?_) (fun c => ?_)⟩
      · have c := of_decide_eq_true c
        rw [decide_eq_false (by omega)] at hJ
        exact hJ
      have c := of_decide_eq_false c
      rw [decide_eq_true (by omega), Bool.true_and] at hJ
      refine ⟨_, B.cell 2, ?_⟩
      simpa [bne] using hJ
    · have c1 : (h == 0) = true := by simpa using c
      rw [c1, Bool.true_or, Bool.true_and] at hJ
      refine ⟨_, B.cell 1, M.ite_by (fun c => ?_) (fun c => ?_)⟩
      · have c := of_decide_eq_true c
        rw [decide_eq_false (by omega)] at hJ
        exact hJ
      have c := of_decide_eq_false c
      rw [decide_eq_true (by omega), Bool.true_and] at hJ
      refine ⟨_, B.cell 2, ?_⟩
      simpa [bne] using hJ
theorem right_c {w : World} (a h i : Int) : Calls Try.prog 21 #[.agg #[.int .i64 a, .int .i64 h, .int .u32 i]] w (R21 fun r w' => r = helloOk a h i ∧ Keeps [] w w') := by
  refine F21_ok (M.new_blk fun b w1 hb0 B k1 => ?_)
  refine M.join_by (fun J => J (helloOk a h i) w1) ⟨rfl, k1⟩ fun J hJ => ?_
  have hok : helloOk a h i = (decide (1 ≤ a) && (decide (a ≤ 65535) && ((h == 0 || decide (3 ≤ h)) && (decide (h ≤ 65535) && i != 0)))) := rfl
  rw [hok] at hJ
  refine ⟨_, B.cell 0, M.ite_by (fun c => ?_) (fun c => ?_)⟩
  · rw [c, Bool.true_and] at hJ
    refine ⟨_, B.cell 0, M.ite_by (fun c => ?_) (fun c => ?_)⟩
    · rw [c, Bool.true_and] at hJ
      refine ⟨_, B.cell 1, M.ite_by (fun c => ?_) (fun c => ?_)⟩
      · have c1 : h = 0 := by simpa using c
        subst c1
        refine ⟨_, B.cell 2, ?_⟩
        simpa using hJ
      · rw [c, Bool.false_or] at hJ
        refine ⟨_, B.cell 1, M.ite_by (fun c => ?_) (fun c => ?_)⟩
        · rw [c, Bool.true_and] at hJ
          refine ⟨_, B.cell 1, M.ite_by (fun c => ?_) (fun c => ?_)⟩
          · rw [c, Bool.true_and] at hJ
            exact ⟨_, B.cell 2, hJ⟩
          · rw [c, Bool.false_and] at hJ; exact hJ
        · rw [c, Bool.false_and] at hJ; exact hJ
    · rw [c, Bool.false_and] at hJ; exact hJ
  · rw [c, Bool.false_and] at hJ; exact hJ
theorem renc_c {w : World} (a h i : Int) : Calls Try.prog 9 #[.agg #[.int .i64 a, .int .i64 h, .int .u32 i]] w (R9 fun r w' => Own 5 1 w' r (bv (helloB a h i)) ∧ (∀ x ∈ r.blk, w.heap.size ≤ x) ∧ Keeps [] w w') := by
  refine F9_ok (M.new_blk fun b w1 hb0 B k1 => M.drew_by ?_)
  have kd := Keeps.drew [] w1
  have B2 := B.keep kd (by simp)
  have kal := Keeps.alloc [] w1.drew (.cells (bv [4]).toArray 5)
  have B3 := B2.keep kal (by simp)
  refine ⟨_, B2.cell 0, _, B2.cell 1, M.new_by ⟨B3.cell 1, B3.cell 0, (bu16_c (new_b w1.drew [4] (by simp)) a (by simp)).mono fun e w4 g => ?_⟩⟩
  obtain ⟨r4, rfl, o4, k4, f4⟩ := g
  have k14 := (kd.trans kal (by simp)).trans k4 (by simp)
  refine ⟨_, rfl, (B.keep k14 (by simp)).cell 1, (bu16_c o4.rd h (by simp [lowB_len])).mono fun e w5 g => ?_⟩
  obtain ⟨r5, rfl, o5, k5, f5⟩ := g
  have k15 := k14.trans k5 (by simp)
  refine ⟨_, rfl, _, (B.keep k15 (by simp)).cell 2, (bu32_c o5.rd i (by simp [lowB_len])).mono fun e w6 g => ?_⟩
  obtain ⟨r6, rfl, o6, k6, f6⟩ := g
  have k16 := k15.trans k6 (by simp)
  refine ⟨_, rfl, M.new_by ?_⟩
  have kal7 := Keeps.alloc [] w6 (.cells (bv [0]).toArray 5)
  obtain ⟨r7, w7, h1, h2, h3, h4⟩ := app_b (o6.keep kal7 (by simp)) (new_b w6 [0] (by simp)) (by simp [lowB_len])
  have f6' : ∀ x ∈ r6.blk, w.heap.size ≤ x := fun x hx => by have := f6 x hx; have := k15.size; have := k1.size; omega
  refine ⟨r7, w7, h1, h2, fun x hx => ?_, (k1.trans (k16.trans kal7 (by simp)) (by simp)).trans h3 (fun x hx => .inr (f6' x hx))⟩
  rcases h4 x hx with h | h
  · exact f6' x h
  · have := k16.size; have := k1.size; simp at h; omega

/-- What bytes tell of who speaks. -/
structure Dec where
  a : Int
  h : Int
  i : Int
  code : Int
  sub : Int
  data : List UInt8
def decH (bs : List UInt8) : Dec :=
  if bs.length < 10 then ⟨0, 0, 0, 2, 0, []⟩
  else if be (bs.take 1) ≠ 4 then ⟨0, 0, 0, 2, 1, [0, 4]⟩
  else if be ((bs.drop 9).take 1) ≠ bs.length - 10 then ⟨0, 0, 0, 2, 0, []⟩
  else if 0 < be ((bs.drop 9).take 1) then ⟨0, 0, 0, 2, 4, []⟩
  else if be ((bs.drop 3).take 2) = 1 ∨ be ((bs.drop 3).take 2) = 2 then ⟨0, 0, 0, 2, 6, []⟩
  else if be ((bs.drop 5).take 4) = 0 then ⟨0, 0, 0, 2, 3, []⟩
  else if be ((bs.drop 1).take 2) = 0 then ⟨0, 0, 0, 2, 2, []⟩
  else ⟨be ((bs.drop 1).take 2), be ((bs.drop 3).take 2), be ((bs.drop 5).take 4), 0, 0, []⟩
theorem note_c {w : World} (n : Int) (d : SV) : Calls Try.prog 27 #[.int .i64 n, d.v] w (R27 fun x y z w' => x = 2 ∧ y = n ∧ z = d ∧ Keeps [] w w') := by
  refine F27_ok (M.new_blk fun b w1 hb0 B k1 => M.stA_blk B rfl fun w2 B k2 => ⟨_, B.cell 0, _, B.cell 1, _, B.cell 2, rfl, rfl, rfl, k1.trans k2 (by simp; omega)⟩)
theorem rnote_c {w : World} (n : Int) (d : SV) : Calls Try.prog 36 #[.int .i64 n, d.v] w (R36 fun x0 x1 x2 x y z w' => x0 = 0 ∧ x1 = 0 ∧ x2 = 0 ∧ x = 2 ∧ y = n ∧ z = d ∧ Keeps [] w w') := by
  refine F36_ok (M.new_blk fun b w1 hb0 B k1 => M.new_blk fun b' w2 hb1 B' k2 => ?_)
  have hbb : b < b' := by have := B.lt; omega
  have hw : b' < w2.heap.size := B'.lt
  refine M.stA_blk (B.keep k2 (by simp)) rfl fun w3 B3 k3 => M.stA_blk (B'.keep k3 (by simp; omega)) rfl fun w4 B4 k4 => ?_
  have B5 := B3.keep k4 (by simp; omega)
  exact ⟨_, B5.cell 0, _, B5.cell 1, _, B5.cell 2, _, B4.cell 0, _, B4.cell 1, _, B4.cell 2, rfl, rfl, rfl, rfl, rfl, rfl, ((k1.trans k2 (by simp)).trans k3 (by simp; omega)).trans k4 (by simp; have := k1.size; omega)⟩

theorem ret_h {b c : Nat} {T T' : TypeId} {cs ds : List Value} {w : World} {x0 x1 x2 y0 y1 : Int} {y2 : SV} {K : Int → Int → Int → Int → Int → SV → World → Prop} (B : Blk w b T cs) (hl : cs.length = 3) (C : Blk w c T' ds) (hl' : ds.length = 3) (hne : b ≠ c) (h : ∀ w', Keeps [b, c] w w' → K x0 x1 x2 y0 y1 y2 w') :
    M.stA ⟨b, 0, none⟩ [(Value.int .i64 x0), (Value.int .i64 x1), (Value.int .u32 x2)] w fun w26 =>
    M.stA ⟨c, 0, none⟩ [(Value.int .i64 y0), (Value.int .i64 y1), (SV.v y2)] w26 fun w28 =>
    M.ld (Value.int .i64) ⟨b, 0, none⟩ w28 fun t30 =>
    M.ld (Value.int .i64) ((⟨b, 0, none⟩ : Addr).add 1) w28 fun t32 =>
    M.ld (Value.int .u32) ((⟨b, 0, none⟩ : Addr).add 2) w28 fun t34 =>
    M.ld (Value.int .i64) ⟨c, 0, none⟩ w28 fun t36 =>
    M.ld (Value.int .i64) ((⟨c, 0, none⟩ : Addr).add 1) w28 fun t38 =>
    M.ld SV.v ((⟨c, 0, none⟩ : Addr).add 2) w28 fun t40 =>
    K t30 t32 t34 t36 t38 t40 w28 := by
  refine M.stA_blk B hl fun w1 B1 k1 => M.stA_blk (C.keep k1 (by simpa using fun h => hne h.symm)) hl' fun w2 C2 k2 => ?_
  have B2 := B1.keep k2 (by simpa using hne)
  exact ⟨_, B2.cell 0, _, B2.cell 1, _, B2.cell 2, _, C2.cell 0, _, C2.cell 1, _, C2.cell 2, h _ ((k1.mono (by simp)).and (k2.mono (by simp)))⟩

theorem dec_lt (bs : List UInt8) (j k : Nat) (hk : k ≤ 4) : (be ((bs.drop j).take k) : Int) < 4294967296 := by
  have h1 := be_lt ((bs.drop j).take k)
  have h2 : ((bs.drop j).take k).length ≤ 4 := by rw [List.length_take]; omega
  have h3 : 256 ^ ((bs.drop j).take k).length ≤ 256 ^ 4 := Nat.pow_le_pow_right (by omega) h2
  have h4 : (256 : Nat) ^ 4 = 4294967296 := by decide
  omega

theorem dec_c {w : World} {s : SV} {bs : List UInt8} (hs : Rd 1 w s (bv bs)) (hb : bs.length ≤ 140737488355328) :
    Calls Try.prog 14 #[s.v] w (R14 fun x0 x1 x2 x3 x4 x5 w' => ∃ d, decH bs = ⟨x0, x1, x2, x3, x4, d⟩ ∧ Rd 1 w' x5 (bv d) ∧ Keeps [] w w') := by
  have hl := hs.len
  rw [bv_length, Nat.mul_one] at hl
  refine F14_ok (M.new_blk fun b2 w1 hb2 B2 k1 => M.new_blk fun b4 w3 hb4 B4 k3 => ?_)
  have hlt2' := B2.lt
  have B2 := B2.keep k3 (by simp)
  have hlt2 := B2.lt
  have hlt4 := B4.lt
  have hne : b2 ≠ b4 := by omega
  have k03 := k1.trans k3 (by simp)
  refine (newr_c (hs.keep k03 (by simp)) hb).mono fun e w6 g => ?_
  obtain ⟨r5, rfl, p, q, rfl, hr, k6, hp, hq⟩ := g
  have hb1 := rawLeft_le bs false 1
  refine ⟨_, rfl, (ru8_c hr hb).mono fun e w8 g => ?_⟩
  obtain ⟨r7, rfl, h7, i8, k8⟩ := g
  refine ⟨_, rfl, (ru16_c i8 (by omega)).mono fun e w10 g => ?_⟩
  obtain ⟨r9, rfl, h9, i10, k10⟩ := g
  have hb2' := rawLeft_le (rawLeft bs false 1) (rawBad bs false 1) 2
  refine ⟨_, rfl, (ru16_c i10 (by omega)).mono fun e w12 g => ?_⟩
  obtain ⟨r11, rfl, h11, i12, k12⟩ := g
  have hb3' := rawLeft_le (rawLeft (rawLeft bs false 1) (rawBad bs false 1) 2) (rawBad (rawLeft bs false 1) (rawBad bs false 1) 2) 2
  refine ⟨_, rfl, (ru32_c i12 (by omega)).mono fun e w14 g => ?_⟩
  obtain ⟨r13, rfl, h13, i14, k14⟩ := g
  have kp : Keeps [p] w6 w14 := ((k8.and k10).and k12).and k14
  have hb4' := rawLeft_le (rawLeft (rawLeft (rawLeft bs false 1) (rawBad bs false 1) 2) (rawBad (rawLeft bs false 1) (rawBad bs false 1) 2) 2) (rawBad (rawLeft (rawLeft bs false 1) (rawBad bs false 1) 2) (rawBad (rawLeft bs false 1) (rawBad bs false 1) 2) 2) 4
  refine ⟨_, rfl, M.new_blk fun b16 w15 hb16 B16 k15 => M.stA_blk B16 rfl fun w17 B16 k17 => ?_⟩
  have hlp := i14.lt
  have i17 := (i14.keep k15 (by simp) (by simp)).keep k17 (by simp; omega) (fun x hx => by
    have := hq x hx
    have := kp.size
    simp; omega)
  refine (ru8_c i17 (by omega)).mono fun e w20 g => ?_
  obtain ⟨r19, rfl, h19, i20, k20⟩ := g
  have hw6 := k6.size
  have hw14 := kp.size
  have k320 : Keeps [] w3 w20 := (((k6.trans kp (by simp; omega)).trans k15 (by simp)).trans k17 (by simp; omega)).trans k20 (by simp; omega)
  have C2 := B2.keep k320 (by simp)
  have C4 := B4.keep k320 (by simp)
  have C16 := B16.keep k20 (by simp; omega)
  have k020 := k03.trans k320 (by simp)
  have h03 := k03.size
  have fin : ∀ {wx : World} {x0 x1 x2 x3 x4 : Int} {x5 : SV} {d : List UInt8}, decH bs = ⟨x0, x1, x2, x3, x4, d⟩ → Keeps [] w wx → Rd 1 wx x5 (bv d) → (∀ x ∈ x5.blk, x ≠ b2 ∧ x ≠ b4) → ∀ w', Keeps [b2, b4] wx w' → ∃ d, decH bs = ⟨x0, x1, x2, x3, x4, d⟩ ∧ Rd 1 w' x5 (bv d) ∧ Keeps [] w w' := by
    intro wx x0 x1 x2 x3 x4 x5 d hK a1 a2 a3 w' a4
    have hsz := k1.size
    exact ⟨d, hK, a2.keep a4 (by simpa using a3), a1.trans a4 (by simp; omega)⟩
  have none : ∀ {wx : World} {n : Int}, decH bs = ⟨0, 0, 0, 2, n, []⟩ → Keeps [] w20 wx → Calls Try.prog 27 #[.int .i64 n, SV.nil.v] wx (R27 fun r22 r23 r24 w25 =>
      M.stA ⟨b2, 0, none⟩ [(Value.int .i64 0), (Value.int .i64 0), (Value.int .u32 0)] w25 fun w26 =>
      M.stA ⟨b4, 0, none⟩ [(Value.int .i64 r22), (Value.int .i64 r23), (SV.v r24)] w26 fun w28 =>
      M.ld (Value.int .i64) ⟨b2, 0, none⟩ w28 fun t30 =>
      M.ld (Value.int .i64) ((⟨b2, 0, none⟩ : Addr).add 1) w28 fun t32 =>
      M.ld (Value.int .u32) ((⟨b2, 0, none⟩ : Addr).add 2) w28 fun t34 =>
      M.ld (Value.int .i64) ⟨b4, 0, none⟩ w28 fun t36 =>
      M.ld (Value.int .i64) ((⟨b4, 0, none⟩ : Addr).add 1) w28 fun t38 =>
      M.ld SV.v ((⟨b4, 0, none⟩ : Addr).add 2) w28 fun t40 =>
      ∃ d, decH bs = ⟨t30, t32, t34, t36, t38, d⟩ ∧ Rd 1 w28 t40 (bv d) ∧ Keeps [] w w28) := by
    intro wx n hd kx
    refine (note_c n SV.nil).mono fun e w25 g => ?_
    obtain ⟨x, y, z, rfl, rfl, rfl, rfl, k25⟩ := g
    have kk := kx.trans k25 (by simp)
    exact ⟨_, _, _, rfl, ret_h (C2.keep kk (by simp)) rfl (C4.keep kk (by simp)) rfl hne (fin hd (k020.trans kk (by simp)) (Rd.nil _ _) (by simp [SV.blk]))⟩
  refine ⟨_, rfl, M.ite_by (fun c => ?_) (fun c => ?_)⟩
  · have c := of_decide_eq_true c
    exact none (by simp [decH, show bs.length < 10 by omega]) (Keeps.refl _ _)
  have c := of_decide_eq_false c
  have hten : ¬ bs.length < 10 := by omega
  obtain ⟨e1, e2, e3⟩ := raw_ok (bs) 1 1 rfl (by omega)
  rw [e2, e3] at h9 h11 h13 h19 i20
  obtain ⟨e4, e5, e6⟩ := raw_ok (bs.drop 1) 2 2 rfl (by rw [List.length_drop]; omega)
  rw [List.drop_drop] at e5
  rw [e5, e6] at h11 h13 h19 i20
  obtain ⟨e7, e8, e9⟩ := raw_ok (bs.drop 3) 2 2 rfl (by rw [List.length_drop]; omega)
  rw [List.drop_drop] at e8
  rw [e8, e9] at h13 h19 i20
  obtain ⟨e10, e11, e12⟩ := raw_ok (bs.drop 5) 4 4 rfl (by rw [List.length_drop]; omega)
  rw [List.drop_drop] at e11
  rw [e11, e12] at h19 i20
  obtain ⟨e13, e14, e15⟩ := raw_ok (bs.drop 9) 1 1 rfl (by rw [List.length_drop]; omega)
  rw [List.drop_drop] at e14
  rw [e14, e15] at i20
  rw [e1] at h7
  rw [e4] at h9
  rw [e7] at h11
  rw [e10] at h13
  rw [e13] at h19
  refine M.ite_by (fun c4 => ?_) (fun c4 => ?_)
  · have c4 : r7 ≠ 4 := by simpa using c4
    have hd : decH bs = ⟨0, 0, 0, 2, 1, [0, 4]⟩ := by
      unfold decH
      rw [if_neg hten, if_pos (by omega)]
    refine M.new_by ?_
    have kal := Keeps.alloc [] w20 (.cells (bv [0, 4]).toArray 5)
    have hrd := new_b w20 [0, 4] (by simp)
    refine (note_c 1 _).mono fun e w25 g => ?_
    obtain ⟨x, y, z, rfl, rfl, rfl, rfl, k25⟩ := g
    have kk := kal.trans k25 (by simp)
    refine ⟨_, _, _, rfl, ret_h (C2.keep kk (by simp)) rfl (C4.keep kk (by simp)) rfl hne (fin hd (k020.trans kk (by simp)) (hrd.keep k25 (by simp)) ?_)⟩
    have := C2.lt
    have := C4.lt
    simp [SV.blk]; omega
  have c4 : r7 = 4 := by simpa using c4
  refine (left_c i20).mono fun e w67 g => ?_
  obtain ⟨r66, rfl, h66, rfl⟩ := g
  rw [if_neg (by simp), List.length_drop] at h66
  refine ⟨_, rfl, M.ite_by (fun c5 => ?_) (fun c5 => ?_)⟩
  · have c5 : r19 ≠ r66 := by simpa using c5
    refine none ?_ (Keeps.refl _ _)
    unfold decH
    rw [if_neg hten, if_neg (by omega), if_pos (by omega)]
  have c5 : r19 = r66 := by simpa using c5
  refine M.ite_by (fun c6 => ?_) (fun c6 => ?_)
  · have c6 := of_decide_eq_true c6
    refine none ?_ (Keeps.refl _ _)
    unfold decH
    rw [if_neg hten, if_neg (by omega), if_neg (by omega), if_pos (by omega)]
  have c6 := of_decide_eq_false c6
  have hdec : decH bs = if be ((bs.drop 3).take 2) = 1 ∨ be ((bs.drop 3).take 2) = 2 then ⟨0, 0, 0, 2, 6, []⟩
      else if be ((bs.drop 5).take 4) = 0 then ⟨0, 0, 0, 2, 3, []⟩
      else if be ((bs.drop 1).take 2) = 0 then ⟨0, 0, 0, 2, 2, []⟩
      else ⟨be ((bs.drop 1).take 2), be ((bs.drop 3).take 2), be ((bs.drop 5).take 4), 0, 0, []⟩ := by
    rw [decH, if_neg hten, if_neg (by omega), if_neg (by omega), if_neg (by omega)]
  refine M.join_by (fun J => J (decide (r11 = 1 ∨ r11 = 2)) w67) ?_ fun J hJ => ?_
  rotate_left
  · refine ⟨_, C16.cell 1, M.ite_by (fun c7 => ?_) (fun c7 => ?_)⟩
    · have c7 : r11 ≠ 0 := by simpa using c7
      refine ⟨_, C16.cell 1, ?_⟩
      have : decide (r11 < 3) = decide (r11 = 1 ∨ r11 = 2) := by
        rw [decide_eq_decide]; omega
      dsimp only
      rw [this]; exact hJ
    · have c7 : r11 = 0 := by simpa using c7
      rw [decide_eq_false (by omega)] at hJ
      exact hJ
  refine M.ite_by (fun c7 => ?_) (fun c7 => ?_)
  · have c7 := of_decide_eq_true c7
    refine none ?_ (Keeps.refl _ _)
    rw [hdec, if_pos (by omega)]
  have c7 := of_decide_eq_false c7
  refine ⟨_, C16.cell 2, M.ite_by (fun c8 => ?_) (fun c8 => ?_)⟩
  · have c8 : r13 = 0 := by simpa using c8
    refine none ?_ (Keeps.refl _ _)
    rw [hdec, if_neg (by omega), if_pos (by omega)]
  have c8 : r13 ≠ 0 := by simpa using c8
  refine ⟨_, C16.cell 0, M.ite_by (fun c9 => ?_) (fun c9 => ?_)⟩
  · have c9 : r9 = 0 := by simpa using c9
    refine none ?_ (Keeps.refl _ _)
    rw [hdec, if_neg (by omega), if_neg (by omega), if_pos (by omega)]
  have c9 : r9 ≠ 0 := by simpa using c9
  refine ⟨_, C16.cell 0, _, C16.cell 1, _, C16.cell 2, ret_h C2 rfl C4 rfl hne (fin (d := []) ?_ k020 (Rd.nil _ _) (by simp [SV.blk]))⟩
  rw [hdec, if_neg (by omega), if_neg (by omega), if_neg (by omega), h9, h11, h13]

theorem rdec_c {w : World} {s : SV} {bs : List UInt8} (hs : Rd 1 w s (bv bs)) (hb : bs.length ≤ 140737488355328) :
    Calls Try.prog 22 #[s.v] w (R22 fun x0 x1 x2 x3 x4 x5 w' => ∃ d, decH bs = ⟨x0, x1, x2, x3, x4, d⟩ ∧ Rd 1 w' x5 (bv d) ∧ Keeps [] w w') := by
  have hl := hs.len
  rw [bv_length, Nat.mul_one] at hl
  refine F22_ok (M.new_blk fun b2 w1 hb2 B2 k1 => M.new_blk fun b4 w3 hb4 B4 k3 => ?_)
  have hlt2' := B2.lt
  have B2 := B2.keep k3 (by simp)
  have hlt2 := B2.lt
  have hlt4 := B4.lt
  have hne : b2 ≠ b4 := by omega
  have k03 := k1.trans k3 (by simp)
  have fin : ∀ {wx : World} {x0 x1 x2 x3 x4 : Int} {x5 : SV} {d : List UInt8}, decH bs = ⟨x0, x1, x2, x3, x4, d⟩ → Keeps [] w wx → Rd 1 wx x5 (bv d) → (∀ x ∈ x5.blk, x ≠ b2 ∧ x ≠ b4) → ∀ w', Keeps [b2, b4] wx w' → ∃ d, decH bs = ⟨x0, x1, x2, x3, x4, d⟩ ∧ Rd 1 w' x5 (bv d) ∧ Keeps [] w w' := by
    intro wx x0 x1 x2 x3 x4 x5 d hK a1 a2 a3 w' a4
    have hsz := k1.size
    exact ⟨d, hK, a2.keep a4 (by simpa using a3), a1.trans a4 (by simp; omega)⟩
  have none : ∀ {wx : World} {n : Int}, decH bs = ⟨0, 0, 0, 2, n, []⟩ → Keeps [] w3 wx → Calls Try.prog 36 #[.int .i64 n, SV.nil.v] wx (R36 fun r0 r1 r2 r22 r23 r24 w25 =>
      M.stA ⟨b2, 0, none⟩ [(Value.int .i64 r0), (Value.int .i64 r1), (Value.int .u32 r2)] w25 fun w26 =>
      M.stA ⟨b4, 0, none⟩ [(Value.int .i64 r22), (Value.int .i64 r23), (SV.v r24)] w26 fun w28 =>
      M.ld (Value.int .i64) ⟨b2, 0, none⟩ w28 fun t30 =>
      M.ld (Value.int .i64) ((⟨b2, 0, none⟩ : Addr).add 1) w28 fun t32 =>
      M.ld (Value.int .u32) ((⟨b2, 0, none⟩ : Addr).add 2) w28 fun t34 =>
      M.ld (Value.int .i64) ⟨b4, 0, none⟩ w28 fun t36 =>
      M.ld (Value.int .i64) ((⟨b4, 0, none⟩ : Addr).add 1) w28 fun t38 =>
      M.ld SV.v ((⟨b4, 0, none⟩ : Addr).add 2) w28 fun t40 =>
      ∃ d, decH bs = ⟨t30, t32, t34, t36, t38, d⟩ ∧ Rd 1 w28 t40 (bv d) ∧ Keeps [] w w28) := by
    intro wx n hd kx
    refine (rnote_c n SV.nil).mono fun e w25 g => ?_
    obtain ⟨x0, x1, x2, x, y, z, rfl, rfl, rfl, rfl, rfl, rfl, rfl, k25⟩ := g
    have kk := kx.trans k25 (by simp)
    exact ⟨_, _, _, _, _, _, rfl, ret_h (B2.keep kk (by simp)) rfl (B4.keep kk (by simp)) rfl hne (fin hd (k03.trans kk (by simp)) (Rd.nil _ _) (by simp [SV.blk]))⟩
  refine M.ite_by (fun c => ?_) (fun c => ?_)
  · have c := of_decide_eq_true c
    exact none (by simp [decH, show bs.length < 10 by omega]) (Keeps.refl _ _)
  have c := of_decide_eq_false c
  have hten : ¬ bs.length < 10 := by omega
  have hs3 := hs.keep k03 (by simp)
  have hslt : ∀ x ∈ s.blk, x < w3.heap.size := by
    intro x hx
    obtain ⟨a, ha⟩ := hs3.some (by omega)
    have hc := hs3.at ha (i := 0) (bv_get (List.getElem?_eq_getElem (by omega : 0 < bs.length)))
    have := World.block_lt_of_cell? _ _ hc
    rw [add_block] at this
    simp [SV.blk, ha] at hx
    omega
  refine M.new_blk fun p w6 hp P k6 => ?_
  have hr : IsV w6 p s.blk bs false := ⟨s, bs, 0, fun _ => rfl, fun hx => by have := hslt _ hx; omega, P, hs3.keep k6 (by simp), by omega, hb, rfl⟩
  refine (vu8_c hr).mono fun e w8 g => ?_
  obtain ⟨r7, rfl, h7, i8, k8⟩ := g
  obtain ⟨e1, e2, e3⟩ := raw_ok bs 1 1 rfl (by omega)
  rw [e1] at h7
  rw [e2, e3] at i8
  have k38 : Keeps [] w3 w8 := k6.trans k8 (by simp; omega)
  refine ⟨_, rfl, M.ite_by (fun c4 => ?_) (fun c4 => ?_)⟩
  · have c4 : r7 ≠ 4 := by simpa using c4
    have hd : decH bs = ⟨0, 0, 0, 2, 1, [0, 4]⟩ := by
      unfold decH
      rw [if_neg hten, if_pos (by omega)]
    refine M.new_by ?_
    have kal := Keeps.alloc [] w8 (.cells (bv [0, 4]).toArray 5)
    have hrd := new_b w8 [0, 4] (by simp)
    refine (rnote_c 1 _).mono fun e w25 g => ?_
    obtain ⟨x0, x1, x2, x, y, z, rfl, rfl, rfl, rfl, rfl, rfl, rfl, k25⟩ := g
    have kk := k38.trans (kal.trans k25 (by simp)) (by simp)
    refine ⟨_, _, _, _, _, _, rfl, ret_h (B2.keep kk (by simp)) rfl (B4.keep kk (by simp)) rfl hne (fin hd (k03.trans kk (by simp)) (hrd.keep k25 (by simp)) ?_)⟩
    have := k38.size
    simp [SV.blk]; omega
  have c4 : r7 = 4 := by simpa using c4
  refine (vu16_c i8).mono fun e w10 g => ?_
  obtain ⟨r9, rfl, h9, i10, k10⟩ := g
  obtain ⟨e4, e5, e6⟩ := raw_ok (bs.drop 1) 2 2 rfl (by rw [List.length_drop]; omega)
  rw [List.drop_drop] at e5
  rw [e4] at h9
  rw [e5, e6] at i10
  refine ⟨_, rfl, (vu16_c i10).mono fun e w12 g => ?_⟩
  obtain ⟨r11, rfl, h11, i12, k12⟩ := g
  obtain ⟨e7, e8, e9⟩ := raw_ok (bs.drop 3) 2 2 rfl (by rw [List.length_drop]; omega)
  rw [List.drop_drop] at e8
  rw [e7] at h11
  rw [e8, e9] at i12
  refine ⟨_, rfl, (vu32_c i12).mono fun e w14 g => ?_⟩
  obtain ⟨r13, rfl, h13, i14, k14⟩ := g
  obtain ⟨e10, e11, e12⟩ := raw_ok (bs.drop 5) 4 4 rfl (by rw [List.length_drop]; omega)
  rw [List.drop_drop] at e11
  rw [e10] at h13
  rw [e11, e12] at i14
  have kp : Keeps [p] w8 w14 := (k10.and k12).and k14
  refine ⟨_, rfl, M.new_blk fun b16 w15 hb16 B16 k15 => M.stA_blk B16 rfl fun w17 B16 k17 => ?_⟩
  have hlp := i14.lt
  have hk38 := k38.size
  have hkp := kp.size
  have i17 := (i14.keep k15 (by simp) (by simp)).keep k17 (by simp; omega) (fun x hx => by
    have := hslt x hx
    simp; omega)
  refine (vu8_c i17).mono fun e w20 g => ?_
  obtain ⟨r19, rfl, h19, i20, k20⟩ := g
  obtain ⟨e13, e14, e15⟩ := raw_ok (bs.drop 9) 1 1 rfl (by rw [List.length_drop]; omega)
  rw [e13] at h19
  have k320 : Keeps [] w3 w20 := (((k38.trans kp (by simp; omega)).trans k15 (by simp)).trans k17 (by simp; omega)).trans k20 (by simp; omega)
  have C2 := B2.keep k320 (by simp)
  have C4 := B4.keep k320 (by simp)
  have C16 := B16.keep k20 (by simp; omega)
  have k020 := k03.trans k320 (by simp)
  have hw : IntKind.i64.wrap ((s.len : Int) - 10) = bs.length - 10 := by rw [w64 (by omega) (by omega)]; omega
  refine ⟨_, rfl, ?_⟩
  dsimp only
  rw [hw]
  refine M.ite_by (fun c5 => ?_) (fun c5 => ?_)
  · have c5 : r19 ≠ bs.length - 10 := by simpa using c5
    refine none ?_ k320
    unfold decH
    rw [if_neg hten, if_neg (by omega), if_pos (by omega)]
  have c5 : r19 = bs.length - 10 := by simpa using c5
  refine M.ite_by (fun c6 => ?_) (fun c6 => ?_)
  · have c6 := of_decide_eq_true c6
    refine none ?_ k320
    unfold decH
    rw [if_neg hten, if_neg (by omega), if_neg (by omega), if_pos (by omega)]
  have c6 := of_decide_eq_false c6
  have hdec : decH bs = if be ((bs.drop 3).take 2) = 1 ∨ be ((bs.drop 3).take 2) = 2 then ⟨0, 0, 0, 2, 6, []⟩
      else if be ((bs.drop 5).take 4) = 0 then ⟨0, 0, 0, 2, 3, []⟩
      else if be ((bs.drop 1).take 2) = 0 then ⟨0, 0, 0, 2, 2, []⟩
      else ⟨be ((bs.drop 1).take 2), be ((bs.drop 3).take 2), be ((bs.drop 5).take 4), 0, 0, []⟩ := by
    rw [decH, if_neg hten, if_neg (by omega), if_neg (by omega), if_neg (by omega)]
  refine M.join_by (fun J => J (decide (r11 = 1 ∨ r11 = 2)) w20) ?_ fun J hJ => ?_
  rotate_left
  · refine ⟨_, C16.cell 1, M.ite_by (fun c7 => ?_) (fun c7 => ?_)⟩
    · have c7 : r11 = 1 := by simpa using c7
      rw [decide_eq_true (by omega)] at hJ
      exact hJ
    · have c7 : r11 ≠ 1 := by simpa using c7
      refine ⟨_, C16.cell 1, ?_⟩
      have : (r11 == 2) = decide (r11 = 1 ∨ r11 = 2) := by
        cases h : (r11 == 2) <;> simp at h <;> simp <;> omega
      dsimp only
      rw [this]; exact hJ
  refine M.ite_by (fun c7 => ?_) (fun c7 => ?_)
  · have c7 := of_decide_eq_true c7
    refine none ?_ k320
    rw [hdec, if_pos (by omega)]
  have c7 := of_decide_eq_false c7
  refine ⟨_, C16.cell 2, M.ite_by (fun c8 => ?_) (fun c8 => ?_)⟩
  · have c8 : r13 = 0 := by simpa using c8
    refine none ?_ k320
    rw [hdec, if_neg (by omega), if_pos (by omega)]
  have c8 : r13 ≠ 0 := by simpa using c8
  refine ⟨_, C16.cell 0, M.ite_by (fun c9 => ?_) (fun c9 => ?_)⟩
  · have c9 : r9 = 0 := by simpa using c9
    refine none ?_ k320
    rw [hdec, if_neg (by omega), if_neg (by omega), if_pos (by omega)]
  have c9 : r9 ≠ 0 := by simpa using c9
  refine ⟨_, C16.cell 0, _, C16.cell 1, _, C16.cell 2, ret_h C2 rfl C4 rfl hne (fin (d := []) ?_ k020 (Rd.nil _ _) (by simp [SV.blk]))⟩
  rw [hdec, if_neg (by omega), if_neg (by omega), if_neg (by omega), h9, h11, h13]

theorem known_c {w : World} : Calls Try.prog 13 #[] w (R13 fun r w' => r = true ∧ Keeps [] w w') := by
  refine F13_ok ((enc_c 65001 90 167772161).mono fun e w1 g => ?_)
  obtain ⟨r, x, rfl, h1, _, k1⟩ := g
  obtain ⟨rfl, o1, _, _⟩ := h1 (by decide)
  have hs : (baOf (helloB 65001 90 167772161)).toList == str1.toList := by decide +kernel
  refine ⟨_, _, rfl, M.join_by (fun J => J true w1) ⟨rfl, k1⟩ fun J hJ => ⟨_, b2s_c o1.rd, M.ite_y hs hJ⟩⟩

theorem same_c {w : World} (a h i : Int) : Calls Try.prog 10 #[.agg #[.int .i64 a, .int .i64 h, .int .u32 i]] w (R10 fun r w' => r = true ∧ Keeps [] w w') := by
  refine F10_ok (M.new_blk fun b w1 hb B k1 => ⟨_, B.cell 0, _, B.cell 1, _, B.cell 2, (enc_c a h i).mono fun e w2 g => ?_⟩)
  obtain ⟨r, x, rfl, h1, h2, k2⟩ := g
  have B2 := B.keep k2 (by simp)
  refine ⟨_, _, rfl, _, B2.cell 0, _, B2.cell 1, _, B2.cell 2, M.new_blk fun c w3 hc C k3 => M.stA_blk C rfl fun w4 C4 k4 => ⟨_, C4.cell 0, _, C4.cell 1, _, C4.cell 2, (right_c a h i).mono fun e w5 g => ?_⟩⟩
  obtain ⟨r5, rfl, rfl, k5⟩ := g
  have k25 : Keeps [] w2 w5 := (k3.trans k4 (by simp; omega)).trans k5 (by simp)
  have k05 := (k1.trans k2 (by simp)).trans k25 (by simp)
  refine ⟨_, rfl, ?_⟩
  cases hok : helloOk a h i with
  | false =>
    obtain ⟨rfl, rfl⟩ := h2 hok
    exact M.ite_tt (M.join_by (fun J => J true w5) ⟨rfl, k05⟩ fun J hJ => M.ite_y rfl hJ)
  | true =>
    obtain ⟨rfl, o1, l1, f1⟩ := h1 hok
    have kd := Keeps.drew [] w5
    have k2d := k25.trans kd (by simp)
    have C6 := C4.keep (k5.trans kd (by simp)) (by simp)
    refine M.ite_ff (M.join_by (fun J => ∀ w6, Keeps [] w w6 → J true w6) (fun w6 k6 => ⟨rfl, k6⟩) fun J hJ => M.drew_by ⟨_, b2s_c (o1.keep k2d (by simp)).rd, _, C6.cell 0, _, C6.cell 1, _, C6.cell 2, (renc_c a h i).mono fun e w7 g => ?_⟩)
    obtain ⟨r7, rfl, o7, f7, k7⟩ := g
    exact ⟨_, rfl, b2s_c ((o1.keep k2d (by simp)).keep k7 (by simp)).rd, _, b2s_c o7.rd, M.ite_y (by simp) (hJ _ ((k05.trans kd (by simp)).trans k7 (by simp)))⟩

theorem read_c {w : World} {s : SV} {bs : List UInt8} (hs : Rd 1 w s (bv bs)) (hb : bs.length ≤ 140737488355328) :
    Calls Try.prog 11 #[s.v] w (R11 fun r w' => r = true ∧ Keeps [] w w') := by
  refine F11_ok ((dec_c hs hb).mono fun e w1 g => ?_)
  obtain ⟨x0, x1, x2, x3, x4, x5, rfl, d, hd, rd, k1⟩ := g
  refine ⟨_, _, _, _, _, _, rfl, M.new_blk fun b w2 hb2 B k2 => M.new_blk fun c w3 hc C k3 => ?_⟩
  have hBlt := B.lt
  refine M.stA_blk (B.keep k3 (by simp)) rfl fun w4 B4 k4 => M.stA_blk (C.keep k4 (by simp; omega)) rfl fun w5 C5 k5 => ?_
  have B5 := B4.keep k5 (by simp; omega)
  have hk2 := k2.size
  have k15 : Keeps [] w1 w5 := ((k2.trans k3 (by simp)).trans k4 (by simp; omega)).trans k5 (by simp; omega)
  refine (rdec_c ((hs.keep k1 (by simp)).keep k15 (by simp)) hb).mono fun e w6 g => ?_
  obtain ⟨y0, y1, y2, y3, y4, y5, rfl, d2, hd2, rd2, k6⟩ := g
  have heq := hd.symm.trans hd2
  simp only [Dec.mk.injEq] at heq
  obtain ⟨rfl, rfl, rfl, rfl, rfl, rfl⟩ := heq
  refine ⟨_, _, _, _, _, _, rfl, M.new_blk fun b' w7 hb' B' k7 => M.new_blk fun c' w8 hc' C' k8 => ?_⟩
  have hBlt' := B'.lt
  refine M.stA_blk (B'.keep k8 (by simp)) rfl fun w9 B9 k9 => M.stA_blk (C'.keep k9 (by simp; omega)) rfl fun w10 C10 k10 => ?_
  have B10 := B9.keep k10 (by simp; omega)
  have hk7 := k7.size
  have k610 : Keeps [] w6 w10 := ((k7.trans k8 (by simp)).trans k9 (by simp; omega)).trans k10 (by simp; omega)
  have k510 := k6.trans k610 (by simp)
  have Bf := B5.keep k510 (by simp)
  have Cf := C5.keep k510 (by simp)
  have r1 := (rd.keep k15 (by simp)).keep k510 (by simp)
  have r2 := rd2.keep k610 (by simp)
  have k010 := (k1.trans k15 (by simp)).trans k510 (by simp)
  refine M.join_by (fun J => ∀ w, Keeps [] w10 w → J true w) (fun w k => ⟨rfl, k010.trans k (by simp)⟩) fun J hJ => ?_
  refine ⟨_, Bf.cell 0, _, B10.cell 0, M.ite_y (by simp) ⟨_, Bf.cell 1, _, B10.cell 1, M.ite_y (by simp) ⟨_, Bf.cell 2, _, B10.cell 2, M.ite_y (by simp) ⟨_, Cf.cell 0, _, Cf.cell 1, _, Cf.cell 2, _, C10.cell 0, _, C10.cell 1, _, C10.cell 2, (knote_c r1 r2).mono fun e w11 g => ?_⟩⟩⟩⟩
  obtain ⟨r, rfl, hr, k11⟩ := g
  have : r = true := by rw [hr]; simp
  subst this
  exact ⟨_, rfl, hJ _ k11⟩
end Go.Proofs.Ytdlefnpnnpohmaa
