/-
  What the functions of package nlri, and of the document's own answer for it, do.
-/
import Derived.Test.YtfcgkkgdnagmcaaWireV
import Derived.Test.YtfcgkkgdnagmcaaPfC
namespace Go.Proofs.Ytfcgkkgdnagmcaa
set_option linter.unusedVariables false
set_option linter.unusedSimpArgs false
open Go.Sp

theorem lowB_len (n : Int) (k : Nat) : (lowB n k).length = k := by simp [lowB, beB_length]
def sizeP (x : Nat × Int) : Nat := if rightP x.1 x.2 then 1 + (x.2.toNat + 7) / 8 else 0
theorem tdiv8 (n : Int) (h : 0 ≤ n) : Int.tdiv n 8 = n / 8 := Int.tdiv_eq_ediv_of_nonneg h
theorem size_c {w : World} {x : Nat × Int} (hx : x.1 < 4294967296) : Calls Try.prog 18 #[.agg #[.int .u32 (x.1 : Int), .int .i64 x.2]] w (R18 fun r w' => r = (sizeP x : Int) ∧ Keeps [] w w') := by
  refine F18_ok (M.new_blk fun b w1 hb B k1 => ⟨_, B.cell 0, _, B.cell 1, (right_c hx x.2).mono fun e w2 g => ?_⟩)
  obtain ⟨r, rfl, rfl, k2⟩ := g
  refine ⟨_, rfl, M.ite_by (fun c => ?_) (fun c => ?_)⟩
  · have c : rightP x.1 x.2 = false := by simpa using c
    exact ⟨by simp [sizeP, c], k1.trans k2 (by simp)⟩
  · have c : rightP x.1 x.2 = true := by simpa using c
    obtain ⟨c1, c2, _⟩ := (rightP_iff _ _).1 c
    refine ⟨_, (B.keep k2 (by simp)).cell 1, ?_, k1.trans k2 (by simp)⟩
    rw [w64 (n := x.2 + 8) (by omega) (by omega), w64 (n := x.2 + 8 - 1) (by omega) (by omega), tdiv8 _ (by omega), w64 (n := (x.2 + 8 - 1) / 8) (by omega) (by omega), w64 (by omega) (by omega)]
    simp only [sizeP, c, if_true]
    omega
theorem rsize_c {w : World} {x : Nat × Int} (hx : x.1 < 4294967296) : Calls Try.prog 22 #[.agg #[.int .u32 (x.1 : Int), .int .i64 x.2]] w (R22 fun r w' => r = (sizeP x : Int) ∧ Keeps [] w w') := by
  refine F22_ok (M.new_blk fun b w1 hb B k1 => ⟨_, B.cell 0, _, B.cell 1, (rright_c hx x.2).mono fun e w2 g => ?_⟩)
  obtain ⟨r, rfl, rfl, k2⟩ := g
  refine ⟨_, rfl, M.ite_by (fun c => ?_) (fun c => ?_)⟩
  · have c : rightP x.1 x.2 = false := by simpa using c
    exact ⟨by simp [sizeP, c], k1.trans k2 (by simp)⟩
  · have c : rightP x.1 x.2 = true := by simpa using c
    obtain ⟨c1, c2, _⟩ := (rightP_iff _ _).1 c
    refine ⟨_, (B.keep k2 (by simp)).cell 1, ?_, k1.trans k2 (by simp)⟩
    rw [w64 (n := x.2 + 7) (by omega) (by omega), tdiv8 _ (by omega), w64 (n := (x.2 + 7) / 8) (by omega) (by omega), w64 (by omega) (by omega)]
    simp only [sizeP, c, if_true]
    omega
/-- One prefix's bytes. -/
def encB1 (x : Nat × Int) : List UInt8 := lowB x.2 1 ++ (lowB (x.1 : Int) 4).take ((x.2.toNat + 7) / 8)
def encB (l : List (Nat × Int)) : List UInt8 := l.flatMap encB1
theorem encB_snoc (l : List (Nat × Int)) (x : Nat × Int) : encB (l ++ [x]) = encB l ++ encB1 x := by simp [encB]
theorem encB1_len {x : Nat × Int} (h : rightP x.1 x.2 = true) : (encB1 x).length = sizeP x := by
  obtain ⟨c1, c2, _⟩ := (rightP_iff _ _).1 h
  simp only [encB1, sizeP, h, if_true, List.length_append, lowB_len, List.length_take]
  omega
theorem encB1_le (x : Nat × Int) : (encB1 x).length ≤ 5 := by
  simp only [encB1, List.length_append, lowB_len, List.length_take]; omega
theorem encB_le (l : List (Nat × Int)) : (encB l).length ≤ 5 * l.length := by
  induction l with
  | nil => simp [encB]
  | cons x l ih =>
    have := encB1_le x
    simp only [encB, List.flatMap_cons, List.length_append, List.length_cons] at *
    omega
theorem byte_at {a : Nat} (ha : a < 4294967296) {k : Nat} (hk : k < 4) : (lowB (a : Int) 4).take (k + 1) = (lowB (a : Int) 4).take k ++ lowB (IntKind.i64.wrap (bShr .u32 (a : Int) (IntKind.i64.wrap (32 - IntKind.i64.wrap (8 * IntKind.i64.wrap ((k : Int) + 1)))))) 1 := by
  rw [w64 (n := (k : Int) + 1) (by omega) (by omega), w64 (n := 8 * ((k : Int) + 1)) (by omega) (by omega), w64 (n := 32 - 8 * ((k : Int) + 1)) (by omega) (by omega),
    show (32 : Int) - 8 * ((k : Int) + 1) = ((24 - 8 * k : Nat) : Int) by omega, bShr_nat .u32 a _ (by show 24 - 8 * k ≤ 32; omega)]
  have hd : a / 2 ^ (24 - 8 * k) ≤ a := Nat.div_le_self _ _
  have e1 : ((a : Int) % 18446744073709551616).toNat = a := by omega
  obtain ⟨d, hd0⟩ : ∃ d, d = a / 2 ^ (24 - 8 * k) := ⟨_, rfl⟩
  rw [← hd0] at hd ⊢
  rw [w64 (by omega) (by omega)]
  have e2 : ((d : Int) % 18446744073709551616).toNat = d := by omega
  unfold lowB
  rw [e1, e2, hd0]
  have : k = 0 ∨ k = 1 ∨ k = 2 ∨ k = 3 := by omega
  rcases this with rfl | rfl | rfl | rfl
  · simp [beB]
  · simp [beB]
  · simp [beB]
  · simp [beB]
theorem enc_c {w : World} {s : SV} {l : List (Nat × Int)} (hs : Rd 2 w s (pvs l)) (hl : ∀ x ∈ l, x.1 < 4294967296) (hb : l.length ≤ 1099511627776) :
    Calls Try.prog 16 #[s.v] w (R16 fun r e w' => ((∀ x ∈ l, rightP x.1 x.2 = true) → e = 0 ∧ Own 5 1 w' r (bv (encB l)) ∧ r.len = (encB l).length ∧ ∀ x ∈ r.blk, w.heap.size ≤ x) ∧ ((¬ ∀ x ∈ l, rightP x.1 x.2 = true) → e = 12 ∧ r = SV.nil) ∧ Keeps [] w w') := by
  have hsl := pf_len hs
  refine F16_ok (neww_c.mono fun e w1 g => ?_)
  obtain ⟨r, rfl, p, rfl, hw, k1, hp⟩ := g
  refine ⟨_, rfl, ?_⟩
  refine M.loop1_by (fun y w' => ∃ (i : Nat) (q : List Nat), y = i ∧ i ≤ l.length ∧ (∀ x ∈ l.take i, rightP x.1 x.2 = true) ∧ IsW w' p q (encB (l.take i)) ∧ (∀ x ∈ q, w.heap.size ≤ x) ∧ Keeps [] w w') (fun y _ => l.length - y.toNat)
    ⟨0, [], rfl, by omega, by simp, by simpa [encB] using hw, by simp, k1⟩ ?_
  rintro y w' J ⟨i, q, rfl, hi, hR, hw, hq, hk⟩ hJ
  refine M.ite_by (fun c1 => ?_) (fun c1 => ?_)
  · have c1 := of_decide_eq_true c1
    have hil : i < l.length := by omega
    obtain ⟨a, ha⟩ := hs.some (by omega)
    have e1 := pf_at (hs.keep hk (by simp)) ha (List.getElem?_eq_getElem hil)
    have hx := hl l[i] (List.getElem_mem hil)
    have htk : l.take (i + 1) = l.take i ++ [l[i]] := List.take_succ_eq_append_getElem hil
    have hel := encB_le (l.take i)
    have hll : (l.take i).length = i := by rw [List.length_take]; omega
    generalize hxe : l[i] = x at *
    refine ⟨a, ha, by omega, c1, _, e1.1, _, e1.2, M.new_blk fun b w2 hb2 B k2 => M.stA_blk B rfl fun w3 B3 k3 => ⟨_, B3.cell 0, _, B3.cell 1, (right_c hx x.2).mono fun e w4 g => ?_⟩⟩
    obtain ⟨r4, rfl, rfl, k4⟩ := g
    have k24 : Keeps [] w' w4 := (k2.trans k3 (by simp; omega)).trans k4 (by simp)
    have B4 := B3.keep k4 (by simp)
    have hbw : b < w4.heap.size := B4.lt
    have hw4 := hw.keep k24 (by simp) (by simp)
    have hwlt := hw.lt
    have hk4 := hk.trans k24 (by simp)
    refine ⟨_, rfl, M.ite_by (fun c => ?_) (fun c => ?_)⟩
    · have c : rightP x.1 x.2 = false := by simpa using c
      refine ⟨fun h => ?_, fun _ => ⟨rfl, rfl⟩, hk4⟩
      rw [h x (hxe ▸ List.getElem_mem hil)] at c
      cases c
    · have c : rightP x.1 x.2 = true := by simpa using c
      obtain ⟨c1, c2, _⟩ := (rightP_iff _ _).1 c
      have hpq : ∀ {q : List Nat}, (∀ y ∈ q, w.heap.size ≤ y) → ∀ y ∈ p :: q, w.heap.size ≤ y := by
        intro q hq y hy
        rcases List.mem_cons.1 hy with rfl | hy
        · exact hp
        · exact hq y hy
      refine ⟨_, B4.cell 1, (wu8_c hw4 x.2 (by omega)).mono fun e w5 g => ?_⟩
      obtain ⟨rfl, q5, g5, k5, f5⟩ := g
      have hbn : ∀ {q : List Nat}, (∀ y ∈ q, y ≠ b) → b ∉ p :: q := by
        intro q hq hy
        rcases List.mem_cons.1 hy with h | hy
        · omega
        · exact hq b hy rfl
      have hqb : ∀ y ∈ q, y ≠ b := fun y hy => by have := hwlt.2 y hy; omega
      have hq5 : ∀ y ∈ q5, w.heap.size ≤ y := fun y hy => by
        rcases f5 y hy with h | h
        · exact hq y h
        · have := hk4.size; omega
      have hq5b : ∀ y ∈ q5, y ≠ b := fun y hy => by
        rcases f5 y hy with h | h
        · exact hqb y h
        · omega
      have hk5 := hk4.trans k5 (fun y hy => .inr (hpq hq y hy))
      have B5 := B4.keep k5 (hbn hqb)
      refine ⟨rfl, _, B5.cell 0, _, B5.cell 1, (size_c hx).mono fun e w6 g => ?_⟩
      obtain ⟨r6, rfl, rfl, k6⟩ := g
      have hsz : sizeP x = 1 + (x.2.toNat + 7) / 8 := by simp [sizeP, c]
      refine ⟨_, rfl, ?_⟩
      refine M.loop1_by (fun y w' => ∃ (k : Nat) (q : List Nat), y = k ∧ k ≤ (x.2.toNat + 7) / 8 ∧ IsW w' p q (encB (l.take i) ++ (lowB x.2 1 ++ (lowB (x.1 : Int) 4).take k)) ∧ (∀ x ∈ q, w.heap.size ≤ x ∧ x ≠ b) ∧ Blk w' b 24 [.int .u32 (x.1 : Int), .int .i64 x.2] ∧ Keeps [] w w') (fun y _ => 4 - y.toNat)
        ⟨0, q5, rfl, by omega, by simpa using g5.keep k6 (by simp) (by simp), fun y hy => ⟨hq5 y hy, hq5b y hy⟩, B5.keep k6 (by simp), hk5.trans k6 (by simp)⟩ ?_
      rintro y w7 J2 ⟨k, q7, rfl, hk7, hw7, hq7, B7, kk7⟩ hJ2
      rw [w64 (by omega) (by omega)]
      refine M.ite_by (fun d => ?_) (fun d => ?_)
      · have d := of_decide_eq_true d
        have hk4' : k < 4 := by omega
        have h8 : ((lowB (x.1 : Int) 4).take k).length ≤ 4 := by rw [List.length_take]; omega
        refine ⟨_, B7.cell 0, ?_, (wu8_c hw7 _ (by simp only [List.length_append, lowB_len]; omega)).mono fun e w8 g => ?_⟩
        · rw [w64 (n := (k : Int) + 1) (by omega) (by omega), w64 (n := 8 * ((k : Int) + 1)) (by omega) (by omega), w64 (by omega) (by omega)]; omega
        obtain ⟨rfl, q8, g8, k8, f8⟩ := g
        have hb7 := B7.lt
        refine ⟨rfl, ?_⟩
        rw [w64 (n := (k : Int) + 1) (by omega) (by omega)]
        refine hJ2 _ _ ⟨k + 1, q8, by omega, by omega, ?_, fun y hy => ?_, B7.keep k8 (hbn fun y hy => (hq7 y hy).2), kk7.trans k8 (fun y hy => .inr (hpq (fun z hz => (hq7 z hz).1) y hy))⟩ (by omega)
        · rw [byte_at hx hk4']
          rw [w64 (n := (k : Int) + 1) (by omega) (by omega)] at g8 ⊢
          simpa [List.append_assoc] using g8
        · rcases f8 y hy with h | h
          · exact hq7 y h
          · have := kk7.size; omega
      · have d := of_decide_eq_false d
        rw [w64 (by omega) (by omega)]
        refine hJ _ _ ⟨i + 1, q7, by omega, by omega, ?_, ?_, fun y hy => (hq7 y hy).1, kk7⟩ (by omega)
        · rw [htk]
          intro y hy
          rcases List.mem_append.1 hy with h | h
          · exact hR y h
          · simp at h; subst h; exact c
        · rw [htk, encB_snoc, encB1, show (x.2.toNat + 7) / 8 = k by omega]
          exact hw7
  · have c1 := of_decide_eq_false c1
    have hil : i = l.length := by omega
    subst hil
    rw [List.take_length] at hR hw
    have hel := encB_le l
    refine (done_c hw (by omega)).mono fun e w2 g => ?_
    obtain ⟨r2, rfl, o2, l2, k2, f2⟩ := g
    exact ⟨_, rfl, fun _ => ⟨rfl, o2, l2, fun y hy => Nat.le_trans hk.size (f2 y hy)⟩, fun h => absurd hR h, hk.trans k2 (by simp)⟩

theorem renc_c {w : World} {s : SV} {l : List (Nat × Int)} (hs : Rd 2 w s (pvs l)) (hl : ∀ x ∈ l, x.1 < 4294967296) (hb : l.length ≤ 1099511627776) :
    Calls Try.prog 13 #[s.v] w (R13 fun r ok w' => ((∀ x ∈ l, rightP x.1 x.2 = true) → ok = true ∧ Own 5 1 w' r (bv (encB l)) ∧ ∀ x ∈ r.blk, w.heap.size ≤ x) ∧ ((¬ ∀ x ∈ l, rightP x.1 x.2 = true) → ok = false ∧ r = SV.nil) ∧ Keeps [] w w') := by
  have hsl := pf_len hs
  refine F13_ok ?_
  refine M.loop2_by (fun o y w' => ∃ (i : Nat), y = i ∧ i ≤ l.length ∧ (∀ x ∈ l.take i, rightP x.1 x.2 = true) ∧ Own 5 1 w' o (bv (encB (l.take i))) ∧ (∀ x ∈ o.blk, w.heap.size ≤ x) ∧ Keeps [] w w') (fun _ y _ => l.length - y.toNat)
    ⟨0, rfl, by omega, by simp, (by rw [List.take_zero]; exact Own.nil _ _ _), by simp [SV.blk], Keeps.refl _ _⟩ ?_
  rintro o y w' J ⟨i, rfl, hi, hR, ho, hq, hk⟩ hJ
  refine M.ite_by (fun c1 => ?_) (fun c1 => ?_)
  · have c1 := of_decide_eq_true c1
    have hil : i < l.length := by omega
    obtain ⟨a, ha⟩ := hs.some (by omega)
    have hat : ∀ {wx : World}, Keeps [] w wx → wx.cell? (a.add (i * 2)) = some (.int .u32 (l[i].1 : Int)) ∧ wx.cell? ((a.add (i * 2)).add 1) = some (.int .i64 l[i].2) := fun k => pf_at (hs.keep k (by simp)) ha (List.getElem?_eq_getElem hil)
    have hx := hl l[i] (List.getElem_mem hil)
    have htk : l.take (i + 1) = l.take i ++ [l[i]] := List.take_succ_eq_append_getElem hil
    have hel := encB_le (l.take i)
    have hll : (l.take i).length = i := by rw [List.length_take]; omega
    generalize hxe : l[i] = x at *
    refine ⟨a, ha, by omega, c1, _, (hat hk).1, _, (hat hk).2, (rright_c hx x.2).mono fun e w2 g => ?_⟩
    obtain ⟨r2, rfl, rfl, k2⟩ := g
    have hk2 := hk.trans k2 (by simp)
    refine ⟨_, rfl, M.ite_by (fun c => ?_) (fun c => ?_)⟩
    · have c : rightP x.1 x.2 = false := by simpa using c
      refine ⟨fun h => ?_, fun _ => ⟨rfl, rfl⟩, hk2⟩
      rw [h x (hxe ▸ List.getElem_mem hil)] at c
      cases c
    · have c : rightP x.1 x.2 = true := by simpa using c
      obtain ⟨c2, c3, _⟩ := (rightP_iff _ _).1 c
      have hsz : sizeP x = 1 + (x.2.toNat + 7) / 8 := by simp [sizeP, c]
      have kd := Keeps.drew [] w2
      have hk3 := hk2.trans kd (by simp)
      have kal := Keeps.alloc [] w2.drew (.cells (bv (lowB x.2 1)).toArray 5)
      have hk4 := hk3.trans kal (by simp)
      have hn := new_b w2.drew (lowB x.2 1) (by rw [lowB_len]; omega)
      rw [lowB_len] at hn
      obtain ⟨r5, w5, v1, v2, v3, v4⟩ := app_b ((ho.keep k2 (by simp)).keep (kd.trans kal (by simp)) (by simp)) hn (by rw [lowB_len]; omega)
      rw [lowB1] at v1 hk4
      have hk5 := hk4.trans (by rw [lowB1] at v3; exact v3) (fun y hy => .inr (hq y hy))
      have hq5 : ∀ y ∈ r5.blk, w.heap.size ≤ y := fun y hy => by
        rcases v4 y hy with h | h
        · exact hq y h
        · have := hk3.size; simp at h this; omega
      refine M.drew_by ⟨a, ha, by omega, c1, a, ha, by omega, c1, a, ha, by omega, c1, _, (hat hk3).2, _, (hat hk3).1, _, (hat hk3).1, _, (hat hk3).2, M.new_by ⟨(hat hk4).1, (hat hk4).2, (hat hk4).1, r5, w5, v1, (hat hk5).1, (hat hk5).2, (hat hk5).1, (bu32_c (bs := []) (Rd.nil 1 w5) (x.1 : Int) (by simp)).mono fun e w6 g => ?_⟩⟩
      obtain ⟨r6, rfl, o6, k6, f6⟩ := g
      have hk6 := hk5.trans k6 (by simp)
      refine ⟨_, rfl, (hat hk6).1, (hat hk6).2, (rsize_c hx).mono fun e w7 g => ?_⟩
      obtain ⟨r7, rfl, rfl, k7⟩ := g
      have o7 := o6.keep k7 (by simp)
      have l7 := o7.rd.len
      have cap7 := o7.rd.cap
      rw [bv_length, Nat.mul_one, List.nil_append, lowB_len] at l7
      have hsub := o7.rd.sub (l := 0) (u := (x.2.toNat + 7) / 8) (by omega) (by omega)
      simp only [Nat.mul_one, Nat.sub_zero, List.drop_zero, Nat.zero_mul, bv_take, List.nil_append] at hsub
      have htl : ((lowB (x.1 : Int) 4).take ((x.2.toNat + 7) / 8)).length ≤ 4 := by rw [List.length_take, lowB_len]; omega
      obtain ⟨r8, w8, u1, u2, u3, u4⟩ := app_b ((v2.keep k6 (by simp)).keep k7 (by simp)) hsub (by rw [List.length_append, lowB_len]; omega)
      have hw : IntKind.i64.wrap ((sizeP x : Int) - 1) = (((x.2.toNat + 7) / 8 : Nat) : Int) := by rw [hsz, w64 (by omega) (by omega)]; omega
      have hk8 := (hk6.trans k7 (by simp)).trans u3 (fun y hy => .inr (hq5 y hy))
      refine ⟨_, rfl, ?_⟩
      dsimp only
      rw [hw]
      refine ⟨by omega, by omega, by omega, r8, w8, u1, ?_⟩
      rw [w64 (by omega) (by omega)]
      refine hJ _ _ _ ⟨i + 1, by omega, by omega, ?_, ?_, fun y hy => ?_, hk8⟩ (by omega)
      · rw [htk]
        intro y hy
        rcases List.mem_append.1 hy with h | h
        · exact hR y h
        · simp at h; subst h; exact c
      · rw [htk, encB_snoc, encB1, ← List.append_assoc]
        exact u2
      · rcases u4 y hy with h | h
        · exact hq5 y h
        · have := hk6.size; have := k7.size; omega
  · have c1 := of_decide_eq_false c1
    have hil : i = l.length := by omega
    subst hil
    rw [List.take_length] at hR ho
    exact ⟨fun _ => ⟨rfl, ho, hq⟩, fun h => absurd hR h, hk⟩

/-- The address that some bytes begin. -/
def valB (x : List UInt8) : Nat := be x * 256 ^ (4 - x.length)
/-- The prefixes that bytes tell, if they do. -/
def decB (bs : List UInt8) : Option (List (Nat × Int)) :=
  match bs with
  | [] => some []
  | n :: rest =>
    if 32 < n.toNat then none
    else if rest.length < (n.toNat + 7) / 8 then none
    else (decB (rest.drop ((n.toNat + 7) / 8))).map fun l => (topN (valB (rest.take ((n.toNat + 7) / 8))) n.toNat, (n.toNat : Int)) :: l
termination_by bs.length
decreasing_by simp only [List.length_drop, List.length_cons]; omega
theorem decB_nil : decB [] = some [] := by rw [decB]
theorem decB_cons (n : UInt8) (rest : List UInt8) : decB (n :: rest) = if 32 < n.toNat then none
    else if rest.length < (n.toNat + 7) / 8 then none
    else (decB (rest.drop ((n.toNat + 7) / 8))).map fun l => (topN (valB (rest.take ((n.toNat + 7) / 8))) n.toNat, (n.toNat : Int)) :: l := by rw [decB]
theorem valB_lt {x : List UInt8} (h : x.length ≤ 4) : valB x < 4294967296 := by
  have h1 := be_lt x
  have h2 : 256 ^ x.length * 256 ^ (4 - x.length) = 4294967296 := by rw [← Nat.pow_add, show x.length + (4 - x.length) = 4 by omega]
  have h3 : 0 < 256 ^ (4 - x.length) := Nat.pow_pos (by omega)
  unfold valB
  have := Nat.mul_lt_mul_of_pos_right h1 h3
  omega
theorem valB_step {x : List UInt8} {k : Nat} (hk : k < x.length) (h : x.length ≤ 4) :
    bOr .u32 (valB (x.take k) : Int) (bShl .u32 (IntKind.u32.wrap (x[k].toNat : Int)) (IntKind.i64.wrap (32 - IntKind.i64.wrap (8 * IntKind.i64.wrap ((k : Int) + 1))))) = (valB (x.take (k + 1)) : Int) := by
  have hc := x[k].toNat_lt
  rw [w64 (n := (k : Int) + 1) (by omega) (by omega), w64 (n := 8 * ((k : Int) + 1)) (by omega) (by omega), w64 (n := 32 - 8 * ((k : Int) + 1)) (by omega) (by omega),
    show (32 : Int) - 8 * ((k : Int) + 1) = ((8 * (3 - k) : Nat) : Int) by omega, wu32 (by omega) (by omega)]
  have hl : (x.take k).length = k := by rw [List.length_take]; omega
  have hl1 : (x.take (k + 1)).length = k + 1 := by rw [List.length_take]; omega
  have e0 : 2 ^ (8 * (3 - k)) = 256 ^ (3 - k) := by rw [Nat.pow_mul]
  have hp : 0 < 256 ^ (3 - k) := Nat.pow_pos (by omega)
  have hple : 256 ^ (3 - k) ≤ 256 ^ 3 := Nat.pow_le_pow_right (by omega) (by omega)
  have h3 : (256 : Nat) ^ 3 = 16777216 := by decide
  have hcp : x[k].toNat * 256 ^ (3 - k) < 256 ^ (4 - k) := by
    rw [show 4 - k = (3 - k) + 1 by omega, Nat.pow_succ, Nat.mul_comm (256 ^ (3 - k)) 256]
    exact Nat.mul_lt_mul_of_pos_right hc hp
  have h4le : 256 ^ (4 - k) ≤ 256 ^ 4 := Nat.pow_le_pow_right (by omega) (by omega)
  have h4 : (256 : Nat) ^ 4 = 4294967296 := by decide
  have e1 : bShl .u32 (x[k].toNat : Int) ((8 * (3 - k) : Nat) : Int) = ((x[k].toNat * 256 ^ (3 - k) : Nat) : Int) := by
    unfold bShl
    rw [Int.toNat_natCast, Nat.min_eq_left (by show 8 * (3 - k) ≤ 32; omega)]
    have e : (x[k].toNat : Int) * 2 ^ (8 * (3 - k)) = ((x[k].toNat * 256 ^ (3 - k) : Nat) : Int) := by rw [← e0]; simp
    rw [e]
    exact wu32 (by omega) (by omega)
  have hv := valB_lt (x := x.take k) (by omega)
  rw [e1, bOr_nat .u32 _ _ hv (by show _ < 4294967296; omega) rfl]
  have e2 : valB (x.take k) = be (x.take k) <<< (8 * (4 - k)) := by
    rw [valB, hl, Nat.shiftLeft_eq, Nat.pow_mul]
  have e3 : 256 ^ (4 - k) = 2 ^ (8 * (4 - k)) := by rw [Nat.pow_mul]
  rw [e2, ← Nat.shiftLeft_add_eq_or_of_lt (by rw [← e3]; exact hcp), ← e2, valB, valB, hl, hl1, take_succ_getElem hk, be_snoc]
  rw [show 4 - k = (3 - k) + 1 by omega, show 4 - (k + 1) = 3 - k by omega, Nat.pow_succ, Nat.add_mul, Nat.mul_assoc, Nat.mul_comm 256]
theorem be_one (n : UInt8) : be [n] = n.toNat := by simp [be]

theorem dec_c {w : World} {s : SV} {bs : List UInt8} (hs : Rd 1 w s (bv bs)) (hb : bs.length ≤ 1000000) :
    Calls Try.prog 17 #[s.v] w (R17 fun r ok w' => (match decB bs with
      | some l => ok = true ∧ Own 24 2 w' r (pvs l) ∧ ∀ x ∈ r.blk, w.heap.size ≤ x
      | none => ok = false ∧ r = SV.nil) ∧ Keeps [] w w') := by
  refine F17_ok ((newr_c hs (by omega)).mono fun e w1 g => ?_)
  obtain ⟨r, rfl, p, q, rfl, hr, k1, hp, hq⟩ := g
  have hpw1 := hr.lt
  refine ⟨_, rfl, ?_⟩
  refine M.loop1_ix (fun n o w' => ∃ (out : List (Nat × Int)) (rs : List UInt8) (bad : Bool), IsR w' p q rs bad ∧ Own 24 2 w' o (pvs out) ∧ (∀ x ∈ o.blk, w.heap.size ≤ x ∧ x ≠ p ∧ x ∉ q) ∧ Keeps [] w w' ∧ w1.heap.size ≤ w'.heap.size ∧ rs.length ≤ bs.length ∧
      (if bad then decB bs = none else n = rs.length + 1 ∧ out.length + rs.length ≤ bs.length ∧ decB bs = (decB rs).map (out ++ ·))) (bs.length + 1)
    ⟨[], bs, false, hr, Own.nil _ _ _, by simp [SV.blk], k1, Nat.le_refl _, Nat.le_refl _, by rw [if_neg (by simp)]; exact ⟨rfl, by simp, by cases decB bs <;> simp⟩⟩ ?_
  rintro n o w2 J ⟨out, rs, bad, hr, ho, hob, hk, hw1, hrs, hst⟩ hJ
  refine (left_c hr).mono fun e w3 g => ?_
  obtain ⟨r3, rfl, h3, rfl⟩ := g
  refine ⟨_, rfl, M.ite_by (fun c => ?_) (fun c => ?_)⟩
  · have c := of_decide_eq_true c
    have hbad : bad = false := by cases bad <;> simp at h3 <;> first | rfl | omega
    subst hbad
    simp only [Bool.false_eq_true, if_false] at h3 hst
    obtain ⟨hn, hol, hdec⟩ := hst
    obtain ⟨x, rest, rfl⟩ : ∃ x rest, rs = x :: rest := by
      cases rs with
      | nil => simp at h3; omega
      | cons x rest => exact ⟨x, rest, rfl⟩
    rw [List.length_cons] at hol hn hrs
    refine (ru8_c hr (by rw [List.length_cons]; omega)).mono fun e w4 g => ?_
    obtain ⟨r4, rfl, h4, i4, k4⟩ := g
    obtain ⟨e1, e2, e3⟩ := rawOut_app [x] rest 1 rfl
    simp only [List.singleton_append] at e1 e2 e3
    rw [e1, be_one] at h4
    rw [e2, e3] at i4
    have hx := x.toNat_lt
    have hpw : p < w4.heap.size := i4.lt
    have kk4 : Keeps [] w w4 := hk.trans k4 (by simp; have := k1.size; omega)
    refine ⟨_, rfl, M.ite_by (fun c2 => ?_) (fun c2 => ?_)⟩
    · have c2 := of_decide_eq_true c2
      have : decB bs = none := by rw [hdec, decB_cons, if_pos (by omega)]; rfl
      rw [this]
      exact ⟨⟨rfl, rfl⟩, kk4⟩
    have c2 := of_decide_eq_false c2
    have hm : IntKind.i64.wrap (Int.tdiv (IntKind.i64.wrap (IntKind.i64.wrap (r4 + 8) - 1)) 8) = (((x.toNat + 7) / 8 : Nat) : Int) := by
      rw [w64 (n := r4 + 8) (by omega) (by omega), w64 (n := r4 + 8 - 1) (by omega) (by omega), tdiv8 _ (by omega), w64 (by omega) (by omega)]; omega
    rw [hm]
    refine (raw_c i4 _ (by omega)).mono fun e w5 g => ?_
    obtain ⟨r5, rfl, o5, i5, k5, f5⟩ := g
    have kk5 : Keeps [] w w5 := kk4.trans k5 (by simp; have := k1.size; omega)
    have hrl := rawOut_le rest false (((x.toNat + 7) / 8 : Nat) : Int)
    have hol2 : (rawOut rest false (((x.toNat + 7) / 8 : Nat) : Int)).length ≤ 4 := by omega
    have l5 := o5.rd.len
    rw [bv_length, Nat.mul_one] at l5
    generalize hout : rawOut rest false (((x.toNat + 7) / 8 : Nat) : Int) = ob at *
    refine ⟨_, rfl, ?_⟩
    refine M.loop2_by (fun v y w' => ∃ k : Nat, k ≤ ob.length ∧ v = (valB (ob.take k) : Int) ∧ y = k ∧ w' = w5) (fun _ y _ => ob.length - y.toNat) ⟨0, Nat.zero_le _, by simp [valB, be], rfl, rfl⟩ ?_
    rintro v y w' J2 ⟨k, hkl, rfl, rfl, rfl⟩ hJ2
    refine M.ite_by (fun d => ?_) (fun d => ?_)
    · have d := of_decide_eq_true d
      have hkl' : k < ob.length := by omega
      obtain ⟨a, ha⟩ := o5.rd.some (by omega)
      have hc := o5.rd.at ha (bv_get (List.getElem?_eq_getElem hkl'))
      refine ⟨a, ha, by omega, d, _, by simpa using hc, ?_, ?_⟩
      · rw [w64 (n := (k : Int) + 1) (by omega) (by omega), w64 (n := 8 * ((k : Int) + 1)) (by omega) (by omega), w64 (by omega) (by omega)]; omega
      · rw [valB_step hkl' hol2, w64 (by omega) (by omega)]
        exact hJ2 _ _ _ ⟨k + 1, by omega, rfl, by omega, rfl⟩ (by omega)
    · have d := of_decide_eq_false d
      have hkl' : k = ob.length := by omega
      subst hkl'
      rw [List.take_length]
      have hv := valB_lt hol2
      subst h4
      refine (of_c hv _).mono fun e w6 g => ?_
      obtain ⟨x6, y6, rfl, rfl, rfl, k6⟩ := g
      have kk6 := kk5.trans k6 (by simp)
      have hcl : clampN (x.toNat : Int) = x.toNat := clampN_nat (by omega)
      rw [hcl]
      have ho6 := ((ho.keep k4 (by intro y hy; have := hob y hy; simp; exact this.2.1)).keep k5 (by intro y hy; have := hob y hy; simp; exact this.2.1)).keep k6 (by simp)
      refine ⟨_, _, rfl, M.new_by ?_⟩
      obtain ⟨r7, w7, v1, v2, v3, v4⟩ := app_p (topN (valB ob) x.toNat, (x.toNat : Int)) ho6 (by omega)
      have i6 := (i5.keep k6 (by simp) (by simp)).keep v3 (fun hp => (hob _ hp).2.1 rfl) (fun y hy hyo => (hob y hyo).2.2 hy)
      have hs26 : w1.heap.size ≤ w6.heap.size := by have := k4.size; have := k5.size; have := k6.size; omega
      have kk7 := kk6.trans v3 (fun y hy => .inr (hob y hy).1)
      have hob7 : ∀ y ∈ r7.blk, w.heap.size ≤ y ∧ y ≠ p ∧ y ∉ q := by
        intro y hy
        rcases v4 y hy with h | h
        · exact hob y h
        · refine ⟨by have := kk6.size; omega, by omega, fun hyq => ?_⟩
          have := hq y hyq
          omega
      refine ⟨r7, w7, v1, ?_⟩
      by_cases hlack : rest.length < (x.toNat + 7) / 8
      · have hB : rawBad rest false (((x.toNat + 7) / 8 : Nat) : Int) = true := by
          unfold rawBad; rw [decide_eq_true (by omega)]; rfl
        have hL : rawLeft rest false (((x.toNat + 7) / 8 : Nat) : Int) = rest := by unfold rawLeft; rw [hB]; rfl
        rw [hB, hL] at i6
        refine hJ (n - 1) _ _ (by omega) ⟨_, rest, true, i6, v2, hob7, kk7, by have := v3.size; omega, by omega, ?_⟩
        rw [if_pos rfl, hdec, decB_cons, if_neg (by omega), if_pos hlack]; rfl
      · have hle : (x.toNat + 7) / 8 ≤ rest.length := by omega
        have hB : rawBad rest false (((x.toNat + 7) / 8 : Nat) : Int) = false := by
          unfold rawBad; rw [decide_eq_false (by omega)]; rfl
        have hL : rawLeft rest false (((x.toNat + 7) / 8 : Nat) : Int) = rest.drop ((x.toNat + 7) / 8) := by unfold rawLeft; rw [hB]; rfl
        have hO : ob = rest.take ((x.toNat + 7) / 8) := by rw [← hout]; unfold rawOut; rw [hB]; rfl
        rw [hB, hL] at i6
        have hdl : (rest.drop ((x.toNat + 7) / 8)).length = rest.length - (x.toNat + 7) / 8 := List.length_drop
        refine hJ ((rest.drop ((x.toNat + 7) / 8)).length + 1) _ _ (by omega) ⟨_, _, false, i6, v2, hob7, kk7, by have := v3.size; omega, by omega, ?_⟩
        rw [if_neg (by simp)]
        refine ⟨rfl, by rw [List.length_append]; simp only [List.length_cons, List.length_nil]; omega, ?_⟩
        rw [hdec, decB_cons, if_neg (by omega), if_neg hlack, hO]
        cases decB (rest.drop ((x.toNat + 7) / 8)) <;> simp
  · have c := of_decide_eq_false c
    refine (fine_c hr).mono fun e w4 g => ?_
    obtain ⟨r4, rfl, rfl, rfl⟩ := g
    cases bad with
    | true =>
      rw [if_pos rfl] at hst
      refine ⟨_, rfl, M.ite_tt ?_⟩
      rw [hst]
      exact ⟨⟨rfl, rfl⟩, hk⟩
    | false =>
      simp only [Bool.false_eq_true, if_false] at h3 hst
      have hnil : rs = [] := List.eq_nil_of_length_eq_zero (by omega)
      subst hnil
      refine ⟨_, rfl, M.ite_ff ?_⟩
      rw [hst.2.2, decB_nil]
      exact ⟨⟨rfl, by simpa using ho, fun y hy => (hob y hy).1⟩, hk⟩

theorem be_pad (x : List UInt8) (h : x.length ≤ 4) : be ((x ++ [0, 0, 0, 0]).take 4) = valB x := by
  have e : ∀ k, be (x ++ List.replicate k 0) = be x * 256 ^ k := by
    intro k
    induction k with
    | zero => simp
    | succ k ih => rw [List.replicate_succ', ← List.append_assoc, be_snoc, ih, Nat.pow_succ, Nat.mul_assoc]; rfl
  have e2 : (x ++ [0, 0, 0, 0]).take 4 = x ++ List.replicate (4 - x.length) 0 := by
    rw [List.take_append, List.take_of_length_le h]
    congr 1
    have : x.length = 0 ∨ x.length = 1 ∨ x.length = 2 ∨ x.length = 3 ∨ x.length = 4 := by omega
    rcases this with h | h | h | h | h <;> rw [h] <;> rfl
  rw [e2, e, valB]
theorem rdec_c {w : World} {s : SV} {bs : List UInt8} (hs : Rd 1 w s (bv bs)) (hb : bs.length ≤ 1000000) :
    Calls Try.prog 23 #[s.v] w (R23 fun r ok w' => (match decB bs with
      | some l => ok = true ∧ Own 24 2 w' r (pvs l) ∧ ∀ x ∈ r.blk, w.heap.size ≤ x
      | none => ok = false ∧ r = SV.nil) ∧ Keeps [] w w') := by
  refine F23_ok (M.new_blk fun p w1 hp P k1 => ?_)
  obtain ⟨q, hr, hq⟩ := IsV.start hs (by omega) hp P k1
  have hpw1 := hr.lt
  refine M.loop1_ix (fun n o w' => ∃ (out : List (Nat × Int)) (rs : List UInt8), IsV w' p q rs false ∧ Own 24 2 w' o (pvs out) ∧ (∀ x ∈ o.blk, w.heap.size ≤ x ∧ x ≠ p) ∧ Keeps [] w w' ∧ w1.heap.size ≤ w'.heap.size ∧
      n = rs.length + 1 ∧ out.length + rs.length ≤ bs.length ∧ decB bs = (decB rs).map (out ++ ·)) (bs.length + 1)
    ⟨[], bs, hr, Own.nil _ _ _, by simp [SV.blk], k1, Nat.le_refl _, rfl, by simp, by cases decB bs <;> simp⟩ ?_
  rintro n o w2 J ⟨out, rs, hr, ho, hob, hk, hw1, hn, hol, hdec⟩ hJ
  refine (vleft_c hr).mono fun e w3 g => ?_
  obtain ⟨r3, rfl, h3, k3⟩ := g
  have hr := hr.keep k3 (by simp) (by simp)
  have ho := ho.keep k3 (by simp)
  have hk := hk.trans k3 (by simp)
  have hs3 := k3.size
  simp only [Bool.false_eq_true, if_false] at h3
  refine ⟨_, rfl, M.ite_by (fun c => ?_) (fun c => ?_)⟩
  · have c := of_decide_eq_true c
    obtain ⟨x, rest, rfl⟩ : ∃ x rest, rs = x :: rest := by
      cases rs with
      | nil => simp at h3; omega
      | cons x rest => exact ⟨x, rest, rfl⟩
    rw [List.length_cons] at hol hn
    refine (vu8_c hr).mono fun e w4 g => ?_
    obtain ⟨r4, rfl, h4, i4, k4⟩ := g
    obtain ⟨e1, e2, e3⟩ := rawOut_app [x] rest 1 rfl
    simp only [List.singleton_append] at e1 e2 e3
    rw [e1, be_one] at h4
    rw [e2, e3] at i4
    have hx := x.toNat_lt
    have kk4 : Keeps [] w w4 := hk.trans k4 (by simp; omega)
    refine ⟨_, rfl, M.ite_by (fun c2 => ?_) (fun c2 => ?_)⟩
    · have c2 := of_decide_eq_true c2
      have : decB bs = none := by rw [hdec, decB_cons, if_pos (by omega)]; rfl
      rw [this]
      exact ⟨⟨rfl, rfl⟩, kk4⟩
    have c2 := of_decide_eq_false c2
    have hm : IntKind.i64.wrap (Int.tdiv (IntKind.i64.wrap (r4 + 7)) 8) = (((x.toNat + 7) / 8 : Nat) : Int) := by
      rw [w64 (n := r4 + 7) (by omega) (by omega), tdiv8 _ (by omega), w64 (by omega) (by omega)]; omega
    rw [hm]
    refine (vraw_c i4 _).mono fun e w5 g => ?_
    obtain ⟨r5, rfl, o5, i5, k5, f5⟩ := g
    have kk5 : Keeps [] w w5 := kk4.trans k5 (by simp; omega)
    obtain ⟨sv, fl, kk, z1, z2, z3, z4⟩ := i5
    have i5 : IsV w5 p q (rawLeft rest false (((x.toNat + 7) / 8 : Nat) : Int)) (rawBad rest false (((x.toNat + 7) / 8 : Nat) : Int)) := ⟨sv, fl, kk, z1, z2, z3, z4⟩
    refine ⟨_, rfl, _, z3.cell 2, ?_⟩
    by_cases hlack : rest.length < (x.toNat + 7) / 8
    · have hB : rawBad rest false (((x.toNat + 7) / 8 : Nat) : Int) = true := by
        unfold rawBad; rw [decide_eq_true (by omega)]; rfl
      rw [hB]
      refine M.ite_tt ?_
      have : decB bs = none := by rw [hdec, decB_cons, if_neg (by omega), if_pos hlack]; rfl
      rw [this]
      exact ⟨⟨rfl, rfl⟩, kk5⟩
    · have hle : (x.toNat + 7) / 8 ≤ rest.length := by omega
      have hB : rawBad rest false (((x.toNat + 7) / 8 : Nat) : Int) = false := by
        unfold rawBad; rw [decide_eq_false (by omega)]; rfl
      have hL : rawLeft rest false (((x.toNat + 7) / 8 : Nat) : Int) = rest.drop ((x.toNat + 7) / 8) := by unfold rawLeft; rw [hB]; rfl
      have hO : rawOut rest false (((x.toNat + 7) / 8 : Nat) : Int) = rest.take ((x.toNat + 7) / 8) := by unfold rawOut; rw [hB]; rfl
      rw [hO] at o5
      rw [hB, hL] at i5
      rw [hB]
      have htl : (rest.take ((x.toNat + 7) / 8)).length ≤ 4 := by rw [List.length_take]; omega
      have hdl : (rest.drop ((x.toNat + 7) / 8)).length = rest.length - (x.toNat + 7) / 8 := List.length_drop
      generalize hob5 : rest.take ((x.toNat + 7) / 8) = ob at *
      refine M.ite_ff (M.new_by ?_)
      have kal := Keeps.alloc [] w5 (.cells (bv [0, 0, 0, 0]).toArray 5)
      obtain ⟨r6, w6, v1, v2, v3, v4⟩ := app_b (o5.keep kal (by simp)) (new_b w5 [0, 0, 0, 0] (by simp)) (by simp; omega)
      have hr5p : ∀ y ∈ r5.blk, y ≠ p ∧ w.heap.size ≤ y ∧ y ∉ o.blk := by
        intro y hy
        have h1 := f5 y hy
        have h2 := k4.size
        have h3 := k1.size
        refine ⟨by omega, by omega, fun hyo => ?_⟩
        have := ho.lt y hyo
        omega
      have i6 := (i5.keep kal (by simp) (by simp)).keep v3 (fun h => (hr5p p h).1 rfl) (fun y hy hy5 => by have := hq y hy; have := (hr5p y hy5).2.1; omega)
      have kk6 := (kk5.trans kal (by simp)).trans v3 (fun y hy => .inr (hr5p y hy).2.1)
      refine ⟨r6, w6, v1, M.new_blk fun p2 w7 hp2 P2 k7 => ?_⟩
      obtain ⟨q2, hr7, hq7⟩ := IsV.start v2.rd (by rw [List.length_append]; simp; omega) hp2 P2 k7
      refine (vu32_c hr7).mono fun e w8 g => ?_
      obtain ⟨r8, rfl, h8, i8, k8⟩ := g
      have e8 : rawOut (ob ++ [0, 0, 0, 0]) false 4 = (ob ++ [0, 0, 0, 0]).take 4 := by
        have : rawBad (ob ++ [0, 0, 0, 0]) false 4 = false := by simp [rawBad]; omega
        simp only [rawOut, this]; rfl
      rw [e8, be_pad ob htl] at h8
      subst h8
      subst h4
      have hv := valB_lt htl
      have ho8 : Own 24 2 w8 o (pvs out) := by
        have h1 := (ho.keep k4 (by intro y hy; have := hob y hy; simp; exact this.2)).keep k5 (by intro y hy; have := hob y hy; simp; exact this.2)
        have h2 := (h1.keep kal (by simp)).keep v3 (fun y hy hy5 => (hr5p y hy5).2.2 hy)
        exact (h2.keep k7 (by simp)).keep k8 (fun y hy hp => by have := h2.lt y hy; simp at hp; omega)
      have kk8 := (kk6.trans k7 (by simp)).trans k8 (by have := kk6.size; simp; omega)
      have i8' := (i6.keep k7 (by simp) (by simp)).keep k8 (by have := i6.lt; simp; omega) (fun y hy hp => by have := hq y hy; have := kk6.size; simp at hp; omega)
      refine ⟨_, rfl, (rof_c hv _).mono fun e w9 g => ?_⟩
      obtain ⟨x9, y9, rfl, rfl, rfl, k9⟩ := g
      have hcl : clampN (x.toNat : Int) = x.toNat := clampN_nat (by omega)
      rw [hcl]
      refine ⟨_, _, rfl, M.new_by ?_⟩
      obtain ⟨r10, w10, u1, u2, u3, u4⟩ := app_p (topN (valB ob) x.toNat, (x.toNat : Int)) (ho8.keep k9 (by simp)) (by omega)
      have i10 := (i8'.keep k9 (by simp) (by simp)).keep u3 (fun hp => (hob _ hp).2 rfl) (fun y hy hyo => by have := hq y hy; have := (hob y hyo).1; omega)
      have kk10 := (kk8.trans k9 (by simp)).trans u3 (fun y hy => .inr (hob y hy).1)
      have hsz : w1.heap.size ≤ w9.heap.size := by
        have := k4.size; have := k5.size; have := kal.size; have := v3.size; have := k7.size; have := k8.size; have := k9.size
        omega
      refine ⟨r10, w10, u1, hJ _ _ _ (by omega) ⟨_, _, i10, u2, ?_, kk10, by have := u3.size; omega, rfl, ?_, ?_⟩⟩
      · intro y hy
        rcases u4 y hy with h | h
        · exact hob y h
        · exact ⟨by have := k1.size; omega, by omega⟩
      · rw [List.length_append]; simp only [List.length_cons, List.length_nil]; omega
      · rw [hdec, decB_cons, if_neg (by omega), if_neg hlack, hob5]
        cases decB (rest.drop ((x.toNat + 7) / 8)) <;> simp
  · have c := of_decide_eq_false c
    have hnil : rs = [] := List.eq_nil_of_length_eq_zero (by omega)
    subst hnil
    rw [hdec, decB_nil]
    exact ⟨⟨rfl, by simpa using ho, fun y hy => (hob y hy).1⟩, hk⟩
end Go.Proofs.Ytfcgkkgdnagmcaa
