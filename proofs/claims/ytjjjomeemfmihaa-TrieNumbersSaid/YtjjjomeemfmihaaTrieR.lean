/-
  The document's table of prefixes in memory, and what its functions do to it.
-/
import Derived.Test.YtjjjomeemfmihaaTrieOrder
import Derived.Test.YtjjjomeemfmihaaSpTrieR
namespace Go.Proofs.Ytjjjomeemfmihaa
set_option linter.unusedVariables false
set_option linter.unusedSimpArgs false
open Go.Sp

theorem intEl : elemB Try.prog 3 1 8 = true := by kernel_rfl
theorem intSl : sliceB Try.prog 53 3 1 = true := by kernel_rfl
def iv (l : List Int) : List Value := l.map (Value.int .i64)
theorem iv_one (l : List Int) : ∀ u ∈ iv l, u.oneCell' = true := by
  intro u hu
  obtain ⟨x, _, rfl⟩ := List.mem_map.1 hu
  rfl
theorem iv_app (a b : List Int) : iv (a ++ b) = iv a ++ iv b := by simp [iv]
theorem iv_len {w : World} {s : SV} {l : List Int} (h : Rd 1 w s (iv l)) : s.len = l.length := by
  have := h.len
  simp only [iv, List.length_map] at this; omega
/-- A list is longer by what is put behind it. -/
theorem app_k {e sz bytes t : Nat} (hB : sliceB Try.prog t e sz = true) (hE : elemB Try.prog e sz bytes = true) {w0 w : World} {s x : SV} {vs news : List Value} {K : SV → World → Prop} (k : Keeps [] w0 w) (hf : ∀ y ∈ s.blk, w0.heap.size ≤ y) (ho : Own e sz w s vs) (hx : Rd sz w x news)
    (h1 : ∀ u ∈ news, u.oneCell' = true) (hb : (s.len + x.len) * bytes ≤ 140737488355328) (h : ∀ r w', Own e sz w' r (vs ++ news) → r.len = s.len + x.len → (∀ y ∈ r.blk, w0.heap.size ≤ y) → Keeps s.blk w w' → Keeps [] w0 w' → K r w') : M.app Try.prog t t t s x.v w K := by
  obtain ⟨r, w', v1, v2, v3, v4, v5⟩ := app_own (P := Try.prog) (ty := t) hB hE ho hx h1 hb
  refine ⟨r, w', v1, h r w' v2 v3 (fun y hy => ?_) v4 (k.trans v4 (fun y hy => .inr (hf y hy)))⟩
  rcases v5 y hy with h | h
  · exact hf y h
  · have := k.size; omega
theorem new0_k {e sz : Nat} {w0 w : World} {K : Addr → World → Prop} (k : Keeps [] w0 w) (h : ∀ b w', w.heap.size ≤ b → b < w'.heap.size → (∀ y ∈ (SV.mk (some ⟨b, 0, none⟩) 0 0).blk, w0.heap.size ≤ y) → Own e sz w' ⟨some ⟨b, 0, none⟩, 0, 0⟩ [] → Keeps [] w w' → Keeps [] w0 w' → K ⟨b, 0, none⟩ w') : M.new (.cells #[] e) w K :=
  M.new_by (h w.heap.size _ (Nat.le_refl _) (by simp) (by intro y hy; simp [SV.blk] at hy; subst hy; exact k.size) (Own.new w e sz 0 [] (by simp) (by simp [maxLen])) (Keeps.alloc [] w _) (k.trans (Keeps.alloc [] w _) (by simp)))
theorem new1_k {e sz : Nat} {cs : List Value} (hc : cs.length = sz) {w0 w : World} {K : Addr → World → Prop} (k : Keeps [] w0 w) (h : ∀ b w', w.heap.size ≤ b → b < w'.heap.size → Rd sz w' ⟨some ⟨b, 0, none⟩, 1, 1⟩ cs → Keeps [] w w' → Keeps [] w0 w' → K ⟨b, 0, none⟩ w') : M.new (.cells cs.toArray e) w K :=
  M.new_by (h w.heap.size _ (Nat.le_refl _) (by simp) (Own.new w e sz 1 cs (by omega) (by simp [maxLen])).rd (Keeps.alloc [] w _) (k.trans (Keeps.alloc [] w _) (by simp)))

/-- The document's table: prefixes and numbers, each in a row of its own. -/
def RefAt (w : World) (E : List Nat) (p : Nat) (L : Tbl) : Prop := (∀ x ∈ E, x < w.heap.size) ∧ p ∈ E ∧ Tab L ∧ ∃ s t : SV, Blk w p 55 [s.v, t.v] ∧ Own 27 2 w s (pvs (L.map (·.1))) ∧ Own 3 1 w t (iv (L.map (·.2))) ∧ (∀ x ∈ s.blk, x ∈ E ∧ x ≠ p) ∧ (∀ x ∈ t.blk, x ∈ E ∧ x ≠ p ∧ x ∉ s.blk)
theorem RefAt.keep {w w' : World} {E D : List Nat} {p : Nat} {L : Tbl} (h : RefAt w E p L) (k : Keeps D w w') (hd : ∀ x ∈ E, x ∉ D) : RefAt w' E p L := by
  obtain ⟨h1, h2, h3, s, t, h4, h5, h6, h7, h8⟩ := h
  exact ⟨fun x hx => Nat.lt_of_lt_of_le (h1 x hx) k.size, h2, h3, s, t, h4.keep k (hd _ h2), h5.keep k (fun x hx => hd _ (h7 x hx).1), h6.keep k (fun x hx => hd _ (h8 x hx).1), h7, h8⟩
theorem rnew_k {w : World} {K : Addr → World → Prop} (h : ∀ p w', w.heap.size ≤ p → RefAt w' [p] p [] → Keeps [] w w' → K ⟨p, 0, none⟩ w') : M.new (.cells #[SV.nil.v, SV.nil.v] 55) w K := by
  refine M.new_blk fun b w1 hb B k1 => h b w1 (by omega) ⟨?_, by simp, Tab.nil, SV.nil, SV.nil, B, Own.nil _ _ _, Own.nil _ _ _, by simp [SV.blk], by simp [SV.blk]⟩ k1
  intro x hx
  simp at hx; subst hx; exact B.lt
theorem nat_tbl {L : Tbl} {i : Nat} {x : Key × Int} (h : L[i]? = some x) : (L.map (·.1))[i]? = some x.1 ∧ (L.map (·.2))[i]? = some x.2 := by simp [h]
theorem at_c {w : World} {E : List Nat} {p : Nat} {L : Tbl} (h : RefAt w E p L) (a : Nat) (n : Int) (hlen : L.length ≤ 1000000) :
    Calls Try.prog 47 #[.pointer (some ⟨p, 0, none⟩), .agg #[.int .u32 (a : Int), .int .i64 n]] w (R47 fun r w' => ((r = -1 ∧ tget L (a, n) = none) ∨ ∃ (i : Nat) (v : Int), r = (i : Int) ∧ i < L.length ∧ L[i]? = some ((a, n), v) ∧ tget L (a, n) = some v) ∧ Keeps [] w w') := by
  refine F47_ok (M.new_blk fun b w1 hb B k1 => ?_)
  refine M.loop1_by (fun x w' => ∃ i : Nat, x = i ∧ i ≤ L.length ∧ Keeps [] w1 w' ∧ ∀ (m : Nat) (x : Key × Int), m < i → L[m]? = some x → x.1 ≠ (a, n)) (fun x _ => L.length - x.toNat)
    ⟨0, rfl, by omega, Keeps.refl _ _, fun m x hm => by omega⟩ ?_
  rintro x w2 J ⟨i, rfl, hi, k2, hno⟩ hJ
  have kd := Keeps.drew [] w2
  have k02 := k1.trans k2 (by simp)
  have k03 := k02.trans kd (by simp)
  have h2 := h.keep k02 (by simp)
  have h3 := h.keep k03 (by simp)
  have B3 := (B.keep k2 (by simp)).keep kd (by simp)
  obtain ⟨_, _, _, s, t, P, o, ov, _, _⟩ := h2
  have P3 := P.keep kd (by simp)
  have o3 := o.keep kd (by simp)
  have hl := pf_len o.rd
  rw [List.length_map] at hl
  refine ⟨_, rfl, _, P.cell 0, M.ite_by (fun c => ?_) (fun c => ?_)⟩
  · have c := of_decide_eq_true c
    have il : i < L.length := by omega
    have ei := List.getElem?_eq_getElem il
    obtain ⟨ax, hax⟩ := o3.rd.some (by omega)
    have e := pf_at o3.rd hax (nat_tbl ei).1
    refine M.drew_by ⟨_, rfl, _, P3.cell 0, ax, hax, by omega, c, _, e.1, _, e.2, _, B3.cell 0, _, B3.cell 1, M.ite_by (fun c2 => ?_) (fun c2 => ?_)⟩
    · simp only [Bool.and_eq_true, beq_iff_eq] at c2
      have ek : L[i].1 = (a, n) := Prod.ext (by have := c2.1; exact_mod_cast this) c2.2
      have ei2 : L[i]? = some ((a, n), L[i].2) := by rw [ei, ← ek]
      exact ⟨.inr ⟨i, _, rfl, il, ei2, tget_at hno ei2⟩, k03⟩
    · rw [w64 (by omega) (by omega)]
      refine hJ _ _ ⟨i + 1, by omega, by omega, k2.trans kd (by simp), fun m x hm hx => ?_⟩ (by omega)
      by_cases hmi : m < i
      · exact hno m x hmi hx
      · obtain rfl : m = i := by omega
        rw [ei] at hx; cases hx
        intro hk
        rw [hk] at c2
        simp at c2
  · have c := of_decide_eq_false c
    exact ⟨.inl ⟨rfl, tget_no (fun m x hm hx => hno m x (by omega) hx)⟩, k02⟩
theorem rget_c {w : World} {E : List Nat} {p : Nat} {L : Tbl} (h : RefAt w E p L) (a : Nat) (n : Int) (hlen : L.length ≤ 1000000) :
    Calls Try.prog 40 #[.pointer (some ⟨p, 0, none⟩), .agg #[.int .u32 (a : Int), .int .i64 n]] w (R40 fun r ok w' => r = (tget L (a, n)).getD 0 ∧ ok = (tget L (a, n)).isSome ∧ Keeps [] w w') := by
  refine F40_ok (M.new_blk fun b w1 hb B k1 => ⟨_, B.cell 0, _, B.cell 1, (at_c (h.keep k1 (by simp)) a n hlen).mono fun e w2 g => ?_⟩)
  obtain ⟨r, rfl, hr, k2⟩ := g
  have k02 := k1.trans k2 (by simp)
  rcases hr with ⟨rfl, hn⟩ | ⟨i, v, rfl, il, hi, hv⟩
  · exact ⟨_, rfl, M.ite_tt ⟨by rw [hn]; rfl, by rw [hn]; rfl, k02⟩⟩
  · obtain ⟨_, _, _, s, t, P, o, ov, _, _⟩ := h.keep k02 (by simp)
    have hl := iv_len ov.rd
    rw [List.length_map] at hl
    obtain ⟨ax, hax⟩ := ov.rd.some (by omega)
    have e := ov.rd.at hax (i := i) (v := .int .i64 v) (by simp [iv, hi])
    refine ⟨_, rfl, M.ite_n (by simp) ⟨_, rfl, _, P.cell 1, ax, hax, by omega, by omega, _, by simpa using e, by rw [hv]; rfl, by rw [hv]; rfl, k02⟩⟩
theorem ins_p {w0 : World} {p b2 j : Nat} {s : SV} {cs : List Value} {ks : List Key} {q : Key} {K : SV → World → Prop} (P : Blk w0 p 55 (s.v :: cs)) (B : Blk w0 b2 27 [.int .u32 (q.1 : Int), .int .i64 q.2]) (o : Rd 2 w0 s (pvs ks)) (hj : j ≤ ks.length) (hb : ks.length ≤ 1000000)
    (hK : ∀ r w, Own 27 2 w r (pvs (ks.take j ++ q :: ks.drop j)) → (∀ y ∈ r.blk, w0.heap.size ≤ y) → Keeps [] w0 w → K r w) :
    M.both (
M.new (.cells #[] 27) w0 fun b99 w97 =>
M.keep (w97.cell? (⟨p, 0, none⟩ : Addr) = some (SV.v s)) <|
M.keep (w97.cell? (⟨b2, 0, none⟩ : Addr) = some (Value.int .u32 (q.1 : Int))) <|
M.keep (w97.cell? ((⟨b2, 0, none⟩ : Addr).add 1) = some (Value.int .i64 q.2)) <|
M.keep (w97.cell? (⟨p, 0, none⟩ : Addr) = some (SV.v s)) <|
M.both (
M.app Try.prog 33 33 33 (SV.mk (some b99) 0 0) (SV.v (SV.sub s (Int.toNat (0 : Int)) (Int.toNat (j : Int)) 2)) w97 fun s104 w105 =>
M.keep (w105.cell? (⟨p, 0, none⟩ : Addr) = some (SV.v s)) <|
M.keep (w105.cell? (⟨b2, 0, none⟩ : Addr) = some (Value.int .u32 (q.1 : Int))) <|
M.keep (w105.cell? ((⟨b2, 0, none⟩ : Addr).add 1) = some (Value.int .i64 q.2)) <|
M.new (.cells #[(Value.int .u32 (q.1 : Int)), (Value.int .i64 q.2)] 27) w105 fun b112 w110 =>
M.keep (w110.cell? (⟨p, 0, none⟩ : Addr) = some (SV.v s)) <|
M.keep (w110.cell? (⟨p, 0, none⟩ : Addr) = some (SV.v s)) <|
M.app Try.prog 33 33 33 s104 (SV.v (SV.mk (some b112) 1 1)) w110 fun s115 w116 =>
M.keep (w116.cell? (⟨p, 0, none⟩ : Addr) = some (SV.v s)) <|
M.app Try.prog 33 33 33 s115 (SV.v (SV.sub s (Int.toNat (j : Int)) (Int.toNat (s.len : Int)) 2)) w116 fun s119 w120 =>
K s119 w120) (
M.new (.cells #[(Value.int .u32 (q.1 : Int)), (Value.int .i64 q.2)] 27) w97 fun b129 w127 =>
M.keep (w127.cell? (⟨p, 0, none⟩ : Addr) = some (SV.v s)) <|
M.keep (w127.cell? (⟨p, 0, none⟩ : Addr) = some (SV.v s)) <|
M.app Try.prog 33 33 33 (SV.mk (some b99) 0 0) (SV.v (SV.sub s (Int.toNat (0 : Int)) (Int.toNat (j : Int)) 2)) w127 fun s132 w133 =>
M.keep (w133.cell? (⟨p, 0, none⟩ : Addr) = some (SV.v s)) <|
M.keep (w133.cell? (⟨b2, 0, none⟩ : Addr) = some (Value.int .u32 (q.1 : Int))) <|
M.keep (w133.cell? ((⟨b2, 0, none⟩ : Addr).add 1) = some (Value.int .i64 q.2)) <|
M.app Try.prog 33 33 33 s132 (SV.v (SV.mk (some b129) 1 1)) w133 fun s138 w139 =>
M.keep (w139.cell? (⟨p, 0, none⟩ : Addr) = some (SV.v s)) <|
M.app Try.prog 33 33 33 s138 (SV.v (SV.sub s (Int.toNat (j : Int)) (Int.toNat (s.len : Int)) 2)) w139 fun s142 w143 =>
K s142 w143)) (
M.new (.cells #[(Value.int .u32 (q.1 : Int)), (Value.int .i64 q.2)] 27) w0 fun b152 w150 =>
M.keep (w150.cell? (⟨p, 0, none⟩ : Addr) = some (SV.v s)) <|
M.keep (w150.cell? (⟨p, 0, none⟩ : Addr) = some (SV.v s)) <|
M.new (.cells #[] 27) w150 fun b157 w155 =>
M.keep (w155.cell? (⟨p, 0, none⟩ : Addr) = some (SV.v s)) <|
M.keep (w155.cell? (⟨b2, 0, none⟩ : Addr) = some (Value.int .u32 (q.1 : Int))) <|
M.keep (w155.cell? ((⟨b2, 0, none⟩ : Addr).add 1) = some (Value.int .i64 q.2)) <|
M.keep (w155.cell? (⟨p, 0, none⟩ : Addr) = some (SV.v s)) <|
M.app Try.prog 33 33 33 (SV.mk (some b157) 0 0) (SV.v (SV.sub s (Int.toNat (0 : Int)) (Int.toNat (j : Int)) 2)) w155 fun s162 w163 =>
M.keep (w163.cell? (⟨p, 0, none⟩ : Addr) = some (SV.v s)) <|
M.keep (w163.cell? (⟨b2, 0, none⟩ : Addr) = some (Value.int .u32 (q.1 : Int))) <|
M.keep (w163.cell? ((⟨b2, 0, none⟩ : Addr).add 1) = some (Value.int .i64 q.2)) <|
M.app Try.prog 33 33 33 s162 (SV.v (SV.mk (some b152) 1 1)) w163 fun s168 w169 =>
M.keep (w169.cell? (⟨p, 0, none⟩ : Addr) = some (SV.v s)) <|
M.app Try.prog 33 33 33 s168 (SV.v (SV.sub s (Int.toNat (j : Int)) (Int.toNat (s.len : Int)) 2)) w169 fun s172 w173 =>
K s172 w173) := by
  have hl := pf_len o
  have r1 : Rd 2 w0 (SV.sub s 0 j 2) (pvs (ks.take j)) := by
    have := o.sub (l := 0) (u := j) (by omega) (by omega)
    rw [Nat.zero_mul, List.drop_zero, Nat.sub_zero, pvs_take] at this
    exact this
  have r2 : Rd 2 w0 (SV.sub s j s.len 2) (pvs (ks.drop j)) := by
    have := o.sub (l := j) (u := s.len) (by omega) (by omega)
    rw [pvs_drop, pvs_take, List.take_of_length_le (by simp; omega)] at this
    exact this
  have cP : ∀ {w : World}, Keeps [] w0 w → w.cell? ⟨p, 0, none⟩ = some s.v := fun k => (P.keep k (by simp)).cell 0
  have cA : ∀ {w : World}, Keeps [] w0 w → w.cell? ⟨b2, 0, none⟩ = some (.int .u32 (q.1 : Int)) := fun k => (B.keep k (by simp)).cell 0
  have cB : ∀ {w : World}, Keeps [] w0 w → w.cell? ((⟨b2, 0, none⟩ : Addr).add 1) = some (.int .i64 q.2) := fun k => (B.keep k (by simp)).cell 1
  have l1 : (SV.sub s 0 j 2).len = j := by show j - 0 = j; omega
  have l2 : (SV.sub s j s.len 2).len = ks.length - j := by show s.len - j = _; omega
  have fin : ∀ r w, Own 27 2 w r ((([] ++ pvs (ks.take j)) ++ pvs [q]) ++ pvs (ks.drop j)) → (∀ y ∈ r.blk, w0.heap.size ≤ y) → Keeps [] w0 w → K r w := fun r w h => hK r w (by rw [List.nil_append, ← pvs_app, ← pvs_app] at h; simpa using h)
  have one := pvs_one
  refine ⟨new0_k (sz := 2) (Keeps.refl _ _) fun b w1 g1 g2 hb o1 k1 k01 => ⟨cP k01, cA k01, cB k01, cP k01, ?_, ?_⟩, ?_⟩
  · refine app_k pfSl pfEl k01 hb o1 (r1.keep k01 (by simp)) (one _) (by simp only [SV.sub, Int.toNat_natCast, Int.toNat_zero]; omega) fun r2' w2 o2 n2 f2 k12 k02 => ⟨cP k02, cA k02, cB k02, new1_k (sz := 2) rfl k02 fun b3 w3 g3 g4 x3 k23 k03 => ⟨cP k03, cP k03, ?_⟩⟩
    refine app_k pfSl pfEl k03 f2 (o2.keep k23 (by simp)) x3 (one [q]) (by simp only [n2, SV.sub, Int.toNat_natCast, Int.toNat_zero]; omega) fun r4 w4 o4 n4 f4 k34 k04 => ⟨cP k04, ?_⟩
    exact app_k pfSl pfEl k04 f4 o4 (r2.keep k04 (by simp)) (one _) (by simp only [n4, n2, SV.sub, Int.toNat_natCast, Int.toNat_zero]; omega) fun r5 w5 o5 n5 f5 k45 k05 => fin _ _ o5 f5 k05
  · refine new1_k (sz := 2) rfl k01 fun b3 w3 g3 g4 x3 k23 k03 => ⟨cP k03, cP k03, ?_⟩
    refine app_k pfSl pfEl k03 hb (o1.keep k23 (by simp)) (r1.keep k03 (by simp)) (one _) (by simp only [SV.sub, Int.toNat_natCast, Int.toNat_zero]; omega) fun r2' w2 o2 n2 f2 k12 k02 => ⟨cP k02, cA k02, cB k02, ?_⟩
    refine app_k pfSl pfEl k02 f2 o2 (x3.keep k12 (by intro y hy hz; simp [SV.blk] at hy hz; omega)) (one [q]) (by simp only [n2, SV.sub, Int.toNat_natCast, Int.toNat_zero]; omega) fun r4 w4 o4 n4 f4 k34 k04 => ⟨cP k04, ?_⟩
    exact app_k pfSl pfEl k04 f4 o4 (r2.keep k04 (by simp)) (one _) (by simp only [n4, n2, SV.sub, Int.toNat_natCast, Int.toNat_zero]; omega) fun r5 w5 o5 n5 f5 k45 k05 => fin _ _ o5 f5 k05
  · refine new1_k (sz := 2) rfl (Keeps.refl _ _) fun b3 w3 g3 g4 x3 k23 k03 => ⟨cP k03, cP k03, ?_⟩
    refine new0_k (sz := 2) k03 fun b w1 g1 g2 hb o1 k1 k01 => ⟨cP k01, cA k01, cB k01, cP k01, ?_⟩
    refine app_k pfSl pfEl k01 hb o1 (r1.keep k01 (by simp)) (one _) (by simp only [SV.sub, Int.toNat_natCast, Int.toNat_zero]; omega) fun r2' w2 o2 n2 f2 k12 k02 => ⟨cP k02, cA k02, cB k02, ?_⟩
    refine app_k pfSl pfEl k02 f2 o2 ((x3.keep k1 (by simp)).keep k12 (by intro y hy hz; simp [SV.blk] at hy hz; omega)) (one [q]) (by simp only [n2, SV.sub, Int.toNat_natCast, Int.toNat_zero]; omega) fun r4 w4 o4 n4 f4 k34 k04 => ⟨cP k04, ?_⟩
    exact app_k pfSl pfEl k04 f4 o4 (r2.keep k04 (by simp)) (one _) (by simp only [n4, n2, SV.sub, Int.toNat_natCast, Int.toNat_zero]; omega) fun r5 w5 o5 n5 f5 k45 k05 => fin _ _ o5 f5 k05
theorem ins_v {w0 : World} {p j : Nat} {c : Value} {t : SV} {ns : List Int} {v : Int} {K : SV → World → Prop} (P : Blk w0 p 55 [c, t.v]) (o : Rd 1 w0 t (iv ns)) (hj : j ≤ ns.length) (hb : ns.length ≤ 1000000)
    (hK : ∀ r w, Own 3 1 w r (iv (ns.take j ++ v :: ns.drop j)) → (∀ y ∈ r.blk, w0.heap.size ≤ y) → Keeps [] w0 w → K r w) :
    M.both (
M.new (.cells #[] 3) w0 fun b205 w203 =>
M.keep (w203.cell? ((⟨p, 0, none⟩ : Addr).add 1) = some (SV.v t)) <|
M.keep (w203.cell? ((⟨p, 0, none⟩ : Addr).add 1) = some (SV.v t)) <|
M.both (
M.app Try.prog 53 53 53 (SV.mk (some b205) 0 0) (SV.v (SV.sub t (Int.toNat (0 : Int)) (Int.toNat (j : Int)) 1)) w203 fun s208 w209 =>
M.keep (w209.cell? ((⟨p, 0, none⟩ : Addr).add 1) = some (SV.v t)) <|
M.new (.cells #[(Value.int .i64 v)] 3) w209 fun b214 w212 =>
M.keep (w212.cell? ((⟨p, 0, none⟩ : Addr).add 1) = some (SV.v t)) <|
M.keep (w212.cell? ((⟨p, 0, none⟩ : Addr).add 1) = some (SV.v t)) <|
M.app Try.prog 53 53 53 s208 (SV.v (SV.mk (some b214) 1 1)) w212 fun s217 w218 =>
M.keep (w218.cell? ((⟨p, 0, none⟩ : Addr).add 1) = some (SV.v t)) <|
M.app Try.prog 53 53 53 s217 (SV.v (SV.sub t (Int.toNat (j : Int)) (Int.toNat (t.len : Int)) 1)) w218 fun s221 w222 =>
K s221 w222) (
M.new (.cells #[(Value.int .i64 v)] 3) w203 fun b231 w229 =>
M.keep (w229.cell? ((⟨p, 0, none⟩ : Addr).add 1) = some (SV.v t)) <|
M.keep (w229.cell? ((⟨p, 0, none⟩ : Addr).add 1) = some (SV.v t)) <|
M.app Try.prog 53 53 53 (SV.mk (some b205) 0 0) (SV.v (SV.sub t (Int.toNat (0 : Int)) (Int.toNat (j : Int)) 1)) w229 fun s234 w235 =>
M.keep (w235.cell? ((⟨p, 0, none⟩ : Addr).add 1) = some (SV.v t)) <|
M.app Try.prog 53 53 53 s234 (SV.v (SV.mk (some b231) 1 1)) w235 fun s238 w239 =>
M.keep (w239.cell? ((⟨p, 0, none⟩ : Addr).add 1) = some (SV.v t)) <|
M.app Try.prog 53 53 53 s238 (SV.v (SV.sub t (Int.toNat (j : Int)) (Int.toNat (t.len : Int)) 1)) w239 fun s242 w243 =>
K s242 w243)) (
M.new (.cells #[(Value.int .i64 v)] 3) w0 fun b252 w250 =>
M.keep (w250.cell? ((⟨p, 0, none⟩ : Addr).add 1) = some (SV.v t)) <|
M.keep (w250.cell? ((⟨p, 0, none⟩ : Addr).add 1) = some (SV.v t)) <|
M.new (.cells #[] 3) w250 fun b257 w255 =>
M.keep (w255.cell? ((⟨p, 0, none⟩ : Addr).add 1) = some (SV.v t)) <|
M.keep (w255.cell? ((⟨p, 0, none⟩ : Addr).add 1) = some (SV.v t)) <|
M.app Try.prog 53 53 53 (SV.mk (some b257) 0 0) (SV.v (SV.sub t (Int.toNat (0 : Int)) (Int.toNat (j : Int)) 1)) w255 fun s260 w261 =>
M.keep (w261.cell? ((⟨p, 0, none⟩ : Addr).add 1) = some (SV.v t)) <|
M.app Try.prog 53 53 53 s260 (SV.v (SV.mk (some b252) 1 1)) w261 fun s264 w265 =>
M.keep (w265.cell? ((⟨p, 0, none⟩ : Addr).add 1) = some (SV.v t)) <|
M.app Try.prog 53 53 53 s264 (SV.v (SV.sub t (Int.toNat (j : Int)) (Int.toNat (t.len : Int)) 1)) w265 fun s268 w269 =>
K s268 w269) := by
  have hl := iv_len o
  have r1 : Rd 1 w0 (SV.sub t 0 j 1) (iv (ns.take j)) := by
    have := o.sub (l := 0) (u := j) (by omega) (by omega)
    simp only [Nat.zero_mul, List.drop_zero, Nat.sub_zero, Nat.mul_one, iv, ← List.map_take] at this
    exact this
  have r2 : Rd 1 w0 (SV.sub t j t.len 1) (iv (ns.drop j)) := by
    have := o.sub (l := j) (u := t.len) (by omega) (by omega)
    rw [List.take_of_length_le (by simp [iv]; omega)] at this
    simpa [iv] using this
  have cP : ∀ {w : World}, Keeps [] w0 w → w.cell? ((⟨p, 0, none⟩ : Addr).add 1) = some t.v := fun k => (P.keep k (by simp)).cell 1
  have l1 : (SV.sub t 0 j 1).len = j := by show j - 0 = j; omega
  have l2 : (SV.sub t j t.len 1).len = ns.length - j := by show t.len - j = _; omega
  have fin : ∀ r w, Own 3 1 w r ((([] ++ iv (ns.take j)) ++ iv [v]) ++ iv (ns.drop j)) → (∀ y ∈ r.blk, w0.heap.size ≤ y) → Keeps [] w0 w → K r w := fun r w h => hK r w (by rw [List.nil_append, ← iv_app, ← iv_app] at h; simpa using h)
  have one := iv_one
  refine ⟨new0_k (sz := 1) (Keeps.refl _ _) fun b w1 g1 g2 hb o1 k1 k01 => ⟨cP k01, cP k01, ?_, ?_⟩, ?_⟩
  · refine app_k intSl intEl k01 hb o1 (r1.keep k01 (by simp)) (one _) (by simp only [SV.sub, Int.toNat_natCast, Int.toNat_zero]; omega) fun r2' w2 o2 n2 f2 k12 k02 => ⟨cP k02, new1_k (sz := 1) rfl k02 fun b3 w3 g3 g4 x3 k23 k03 => ⟨cP k03, cP k03, ?_⟩⟩
    refine app_k intSl intEl k03 f2 (o2.keep k23 (by simp)) x3 (one [v]) (by simp only [n2, SV.sub, Int.toNat_natCast, Int.toNat_zero]; omega) fun r4 w4 o4 n4 f4 k34 k04 => ⟨cP k04, ?_⟩
    exact app_k intSl intEl k04 f4 o4 (r2.keep k04 (by simp)) (one _) (by simp only [n4, n2, SV.sub, Int.toNat_natCast, Int.toNat_zero]; omega) fun r5 w5 o5 n5 f5 k45 k05 => fin _ _ o5 f5 k05
  · refine new1_k (sz := 1) rfl k01 fun b3 w3 g3 g4 x3 k23 k03 => ⟨cP k03, cP k03, ?_⟩
    refine app_k intSl intEl k03 hb (o1.keep k23 (by simp)) (r1.keep k03 (by simp)) (one _) (by simp only [SV.sub, Int.toNat_natCast, Int.toNat_zero]; omega) fun r2' w2 o2 n2 f2 k12 k02 => ⟨cP k02, ?_⟩
    refine app_k intSl intEl k02 f2 o2 (x3.keep k12 (by intro y hy hz; simp [SV.blk] at hy hz; omega)) (one [v]) (by simp only [n2, SV.sub, Int.toNat_natCast, Int.toNat_zero]; omega) fun r4 w4 o4 n4 f4 k34 k04 => ⟨cP k04, ?_⟩
    exact app_k intSl intEl k04 f4 o4 (r2.keep k04 (by simp)) (one _) (by simp only [n4, n2, SV.sub, Int.toNat_natCast, Int.toNat_zero]; omega) fun r5 w5 o5 n5 f5 k45 k05 => fin _ _ o5 f5 k05
  · refine new1_k (sz := 1) rfl (Keeps.refl _ _) fun b3 w3 g3 g4 x3 k23 k03 => ⟨cP k03, cP k03, ?_⟩
    refine new0_k (sz := 1) k03 fun b w1 g1 g2 hb o1 k1 k01 => ⟨cP k01, cP k01, ?_⟩
    refine app_k intSl intEl k01 hb o1 (r1.keep k01 (by simp)) (one _) (by simp only [SV.sub, Int.toNat_natCast, Int.toNat_zero]; omega) fun r2' w2 o2 n2 f2 k12 k02 => ⟨cP k02, ?_⟩
    refine app_k intSl intEl k02 f2 o2 ((x3.keep k1 (by simp)).keep k12 (by intro y hy hz; simp [SV.blk] at hy hz; omega)) (one [v]) (by simp only [n2, SV.sub, Int.toNat_natCast, Int.toNat_zero]; omega) fun r4 w4 o4 n4 f4 k34 k04 => ⟨cP k04, ?_⟩
    exact app_k intSl intEl k04 f4 o4 (r2.keep k04 (by simp)) (one _) (by simp only [n4, n2, SV.sub, Int.toNat_natCast, Int.toNat_zero]; omega) fun r5 w5 o5 n5 f5 k45 k05 => fin _ _ o5 f5 k05
theorem rput_c {w : World} {E : List Nat} {p : Nat} {L : Tbl} (h : RefAt w E p L) {a : Nat} (ha : a < 4294967296) (n v : Int) (hlen : L.length ≤ 999999) :
    Calls Try.prog 38 #[.pointer (some ⟨p, 0, none⟩), .agg #[.int .u32 (a : Int), .int .i64 n], .int .i64 v] w (R38 fun r w' => r = (rightP a n && (tget L (a, n)).isNone) ∧ ∃ E', RefAt w' E' p (if rightP a n then tput L (a, n) v else L) ∧ Keeps E w w' ∧ From E w E') := by
  refine F38_ok (M.new_blk fun b w1 hb B k1 => ⟨_, B.cell 0, _, B.cell 1, (rright_c ha n).mono fun e w2 g => ?_⟩)
  obtain ⟨r2, rfl, rfl, k2⟩ := g
  have k02 := k1.trans k2 (by simp)
  have h2 := h.keep k02 (by simp)
  have B2 := B.keep k2 (by simp)
  refine ⟨_, rfl, M.ite_by (fun c => ?_) (fun c => ?_)⟩
  · have c : rightP a n = false := by simpa using c
    rw [c]
    exact ⟨rfl, E, h2, k02.up, From.refl _ _⟩
  have c : rightP a n = true := by simpa using c
  rw [c, if_pos rfl]
  refine ⟨_, B2.cell 0, _, B2.cell 1, (at_c h2 a n (by omega)).mono fun e w3 g => ?_⟩
  obtain ⟨r3, rfl, hr, k3⟩ := g
  have k03 := k02.trans k3 (by simp)
  have h3 := h.keep k03 (by simp)
  have B3 := B2.keep k3 (by simp)
  have hT := h.2.2.1
  rcases hr with ⟨rfl, hn⟩ | ⟨i, v0, rfl, il, hi, hv⟩
  · refine ⟨_, rfl, M.ite_ff ?_⟩
    obtain ⟨hEl, hpE, _, s, t, P, o, ov, hs, ht⟩ := h3
    have hl := pf_len o.rd
    have hlv := iv_len ov.rd
    have hkl : (L.map (·.1)).length = L.length := by simp
    have hvl : (L.map (·.2)).length = L.length := by simp
    refine M.loop1_by (fun x w' => ∃ j : Nat, x = j ∧ j ≤ L.length ∧ Keeps [] w3 w' ∧ ∀ (m : Nat) (x : Key × Int), m < j → L[m]? = some x → kLt x.1 (a, n)) (fun x _ => L.length - x.toNat)
      ⟨0, rfl, by omega, Keeps.refl _ _, fun m x hm => by omega⟩ ?_
    rintro x w4 J ⟨j, rfl, hj, k4, hlt⟩ hJ
    have kd := Keeps.drew [] w4
    have k45 := k4.trans kd (by simp)
    have P5 := P.keep k45 (by simp)
    have o5 := o.keep k45 (by simp)
    have B5 := B3.keep k45 (by simp)
    refine M.join_by (fun (J : Bool → World → Prop) => (∀ w', Keeps [] w3 w' → j < L.length → (∀ x, L[j]? = some x → kLt x.1 (a, n)) → J true w') ∧ (∀ w', Keeps [] w3 w' → (∀ x, L[j]? = some x → ¬ kLt x.1 (a, n)) → J false w')) ⟨fun w6 k6 jl h6 => ?_, fun w6 k6 h6 => ?_⟩ ?_
    · refine M.ite_tt ?_
      rw [w64 (by omega) (by omega)]
      refine hJ _ _ ⟨j + 1, by omega, by omega, k6, fun m x hm hx => ?_⟩ (by omega)
      by_cases hmj : m < j
      · exact hlt m x hmj hx
      · obtain rfl : m = j := by omega
        exact h6 x hx
    · refine M.ite_ff ?_
      have etab := tput_ins v hn hlt h6 hj
      have P6 := P.keep k6 (by simp)
      have B6 := B3.keep k6 (by simp)
      have o6 := o.keep k6 (by simp)
      have ov6 := ov.keep k6 (by simp)
      have hlt3 : ∀ y ∈ E, y < w6.heap.size := fun y hy => Nat.lt_of_lt_of_le (hEl y hy) k6.size
      have k06 := k03.trans k6 (by simp)
      refine M.join_by (fun (J : World → Prop) => ∀ r w', Own 27 2 w' r (pvs ((L.map (·.1)).take j ++ (a, n) :: (L.map (·.1)).drop j)) → Blk w' p 55 [r.v, t.v] → (∀ y ∈ r.blk, w6.heap.size ≤ y) → Keeps [p] w6 w' → J w') (fun r w7 o7 P7 f7 k7 => ?_) fun J hJ => ?_
      · have ov7 := ov6.keep k7 (by intro y hy hz; simp at hz; exact (ht y hy).2.1 hz)
        have kd := Keeps.drew [] w7
        have P8 := P7.keep kd (by simp)
        have ov8 := ov7.keep kd (by simp)
        have hcap := ov7.rd.cap
        refine M.join_by (fun (J : World → Prop) => ∀ r2 w', Own 3 1 w' r2 (iv ((L.map (·.2)).take j ++ v :: (L.map (·.2)).drop j)) → Blk w' p 55 [r.v, r2.v] → (∀ y ∈ r2.blk, w7.heap.size ≤ y) → Keeps [p] w7 w' → J w') (fun r2 w8 o8 P8 f8 k8 => ?_) fun J hJ => M.drew_by ⟨_, rfl, _, rfl, _, P8.cell 1, by omega, by omega, by omega, _, P8.cell 1, by omega, by omega, by omega, ins_v P8 ov8.rd (by omega) (by omega) ?_⟩
        · have k78 : Keeps [p] w6 w8 := k7.and k8
          have hpw7 := P7.lt
          have o78 := o7.keep k8 (by intro y hy hz; simp at hz; subst hz; have := f7 _ hy; have := hlt3 _ hpE; omega)
          refine ⟨by rw [hn]; rfl, p :: (r.blk ++ r2.blk), ⟨?_, by simp, hT.put ⟨ha, c⟩ v, r, r2, P8, ?_, ?_, ?_, ?_⟩, k06.up.trans (k78.mono (D' := E) (by intro x hx; simp at hx; subst hx; exact .inl hpE)) (fun x hx => .inl hx), ?_⟩
          · intro y hy
            rcases List.mem_cons.1 hy with rfl | hy
            · exact P8.lt
            · rcases List.mem_append.1 hy with hy | hy
              · exact o78.lt y hy
              · exact o8.lt y hy
          · rw [etab]; simpa using o78
          · rw [etab]; simpa using o8
          · intro y hy
            refine ⟨by simp [hy], ?_⟩
            rintro rfl
            have := f7 _ hy; have := hlt3 _ hpE; omega
          · intro y hy
            have h8 := f8 _ hy
            refine ⟨by simp [hy], ?_, fun hz => ?_⟩
            · rintro rfl; omega
            · have := o7.lt y hz; omega
          · intro y hy
            have := k06.size
            have := k7.size
            rcases List.mem_cons.1 hy with rfl | hy
            · exact .inl hpE
            · right
              rcases List.mem_append.1 hy with hy | hy
              · have := f7 y hy; omega
              · have := f8 y hy; omega
        · intro r2 w9 o9 f9 k9
          have P9 := P8.keep k9 (by simp)
          refine ⟨_, rfl, M.st_blk P9 (by simp) fun w10 P10 k10 => hJ r2 w10 (o9.keep k10 ?_) P10 f9 ((kd.trans k9 (by simp)).up.and k10)⟩
          intro y hy hz
          simp at hz; subst hz
          have := f9 _ hy; have : w7.drew.heap.size = w7.heap.size := rfl; have := P7.lt; omega
      · have kd := Keeps.drew [] w6
        have P8 := P6.keep kd (by simp)
        have B8 := B6.keep kd (by simp)
        have o8 := o6.keep kd (by simp)
        have hcap := o6.rd.cap
        refine M.drew_by ⟨_, rfl, _, rfl, _, P8.cell 0, by omega, by omega, by omega, _, B8.cell 0, _, B8.cell 1, _, P8.cell 0, by omega, by omega, by omega, ins_p (q := (a, n)) P8 B8 o8.rd (by omega) (by omega) ?_⟩
        intro r2 w9 o9 f9 k9
        have P9 := P8.keep k9 (by simp)
        refine ⟨_, rfl, M.st_blk0 P9 fun w10 P10 k10 => hJ r2 w10 (o9.keep k10 ?_) P10 f9 ((kd.trans k9 (by simp)).up.and k10)⟩
        intro y hy hz
        simp at hz; subst hz
        have := f9 _ hy; have : w6.drew.heap.size = w6.heap.size := rfl; have := P6.lt; omega
    · intro J2 hJ2
      refine M.drew_by ⟨_, rfl, _, P5.cell 0, M.ite_by (fun c5 => ?_) (fun c5 => ?_)⟩
      · have c5 := of_decide_eq_true c5
        have jl : j < L.length := by omega
        have ej := List.getElem?_eq_getElem jl
        obtain ⟨ax, hax⟩ := o5.rd.some (by omega)
        have e := pf_at o5.rd hax (nat_tbl ej).1
        refine ⟨_, rfl, _, P5.cell 0, ax, hax, by omega, c5, _, e.1, _, e.2, _, B5.cell 0, _, B5.cell 1, (less_c (hT.right _ (List.getElem_mem jl)) (q := (a, n)) ⟨ha, c⟩).mono fun e w6 g => ?_⟩
        obtain ⟨r6, rfl, hr6, k6⟩ := g
        cases hb6 : r6 with
        | true =>
          subst hb6
          exact ⟨_, rfl, hJ2.1 _ (k45.trans k6 (by simp)) jl (fun x hx => by rw [ej] at hx; cases hx; exact of_decide_eq_true hr6.symm)⟩
        | false =>
          subst hb6
          exact ⟨_, rfl, hJ2.2 _ (k45.trans k6 (by simp)) (fun x hx => by rw [ej] at hx; cases hx; exact of_decide_eq_false hr6.symm)⟩
      · have c5 := of_decide_eq_false c5
        exact hJ2.2 _ k45 (fun x hx => by rw [List.getElem?_eq_none (by omega)] at hx; cases hx)
  · refine ⟨_, rfl, M.ite_y (by simp) ?_⟩
    obtain ⟨hEl, hpE, _, s, t, P, o, ov, hs, ht⟩ := h3
    have hlv := iv_len ov.rd
    rw [List.length_map] at hlv
    obtain ⟨ax, hax⟩ := ov.rd.some (by omega)
    obtain ⟨hu, hf, o4, k4⟩ := ov.put hax (j := i) (by simp [iv]; omega) (.int .i64 v)
    have htE : ∀ y ∈ t.blk, y ∈ E := fun y hy => (ht y hy).1
    have e1 : (((i : Nat) : Int).toNat * 1) = i := by omega
    refine ⟨_, rfl, _, P.cell 1, ax, hax, by omega, by omega, ?_⟩
    rw [e1]
    refine ⟨hu, hf, by rw [hv]; rfl, E, ⟨fun y hy => Nat.lt_of_lt_of_le (hEl y hy) k4.size, hpE, hT.put ⟨ha, c⟩ v, s, t, P.keep k4 (fun hp => (ht _ hp).2.1 rfl), ?_, ?_, hs, ht⟩, k03.up.trans (k4.mono (D' := E) (fun x hx => .inl (htE x hx))) (fun x hx => .inl hx), From.refl _ _⟩
    · rw [tput_set hT.sorted v hi]
      have : (L.set i ((a, n), v)).map (·.1) = L.map (·.1) := by
        rw [List.map_set]
        apply List.ext_getElem?
        intro m
        rw [List.getElem?_set]
        split
        · rename_i hm
          subst hm
          have hx : L[i] = ((a, n), v0) := by
            have := List.getElem?_eq_getElem il
            rw [hi] at this; exact (Option.some.inj this).symm
          simp [il, hx]
        · rfl
      rw [this]
      exact o.keep k4 (fun y hy hz => (ht y hz).2.2 hy)
    · rw [tput_set hT.sorted v hi]
      simpa [iv, List.map_set] using o4
theorem map_del {α β : Type} (f : α → β) (L : List α) (i : Nat) : (L.map f).take i ++ (L.map f).drop (i + 1) = (L.take i ++ L.drop (i + 1)).map f := by simp
theorem rcut_c {w : World} {E : List Nat} {p : Nat} {L : Tbl} (h : RefAt w E p L) (a : Nat) (n : Int) (hlen : L.length ≤ 999999) :
    Calls Try.prog 39 #[.pointer (some ⟨p, 0, none⟩), .agg #[.int .u32 (a : Int), .int .i64 n]] w (R39 fun r w' => r = (tget L (a, n)).isSome ∧ ∃ E', RefAt w' E' p (tcut L (a, n)) ∧ Keeps E w w' ∧ From E w E') := by
  refine F39_ok (M.new_blk fun b w1 hb B k1 => ⟨_, B.cell 0, _, B.cell 1, (at_c (h.keep k1 (by simp)) a n (by omega)).mono fun e w3 g => ?_⟩)
  obtain ⟨r3, rfl, hr, k3⟩ := g
  have k03 := k1.trans k3 (by simp)
  have h3 := h.keep k03 (by simp)
  have hT := h.2.2.1
  rcases hr with ⟨rfl, hn⟩ | ⟨i, v0, rfl, il, hi, hv⟩
  · refine ⟨_, rfl, M.ite_tt ⟨by rw [hn]; rfl, E, by rw [tcut_none hn]; exact h3, k03.up, From.refl _ _⟩⟩
  · obtain ⟨hEl, hpE, _, s, t, P, o, ov, hs, ht⟩ := h3
    have hl := pf_len o.rd
    have hlv := iv_len ov.rd
    have hkl : (L.map (·.1)).length = L.length := by simp
    have hvl : (L.map (·.2)).length = L.length := by simp
    have kd := Keeps.drew [] w3
    have P4 := P.keep kd (by simp)
    have o4 := o.keep kd (by simp)
    have hcap := o.rd.cap
    have hcapv := ov.rd.cap
    have e1 : IntKind.i64.wrap ((i : Int) + 1) = ((i + 1 : Nat) : Int) := by rw [w64 (by omega) (by omega)]; omega
    have etab := tcut_del hT.sorted hi
    refine ⟨_, rfl, M.ite_n (by simp) (M.drew_by ?_)⟩
    rw [e1]
    have r1 : Rd 2 w3.drew (SV.sub s 0 i 2) (pvs ((L.map (·.1)).take i)) := by
      have := o4.rd.sub (l := 0) (u := i) (by omega) (by omega)
      rw [Nat.zero_mul, List.drop_zero, Nat.sub_zero, pvs_take] at this
      exact this
    have r2 : Rd 2 w3.drew (SV.sub s (i + 1) s.len 2) (pvs ((L.map (·.1)).drop (i + 1))) := by
      have := o4.rd.sub (l := i + 1) (u := s.len) (by omega) (by omega)
      rw [pvs_drop, pvs_take, List.take_of_length_le (by simp; omega)] at this
      exact this
    have l1 : (SV.sub s 0 i 2).len = i := by show i - 0 = i; omega
    have l2 : (SV.sub s (i + 1) s.len 2).len = L.length - (i + 1) := by show s.len - (i + 1) = _; omega
    have cP : ∀ {w : World}, Keeps [] w3.drew w → w.cell? ⟨p, 0, none⟩ = some s.v := fun k => (P4.keep k (by simp)).cell 0
    refine ⟨_, rfl, _, rfl, _, P4.cell 0, by omega, by omega, by omega, _, P4.cell 0, by omega, by omega, by omega, ?_⟩
    refine new0_k (sz := 2) (Keeps.refl _ _) fun b5 w5 g1 g2 hb5 o5 k5 k05 => ⟨cP k05, cP k05, ?_⟩
    refine app_k pfSl pfEl k05 hb5 o5 (r1.keep k05 (by simp)) (pvs_one _) (by simp only [SV.sub, Int.toNat_natCast, Int.toNat_zero]; omega) fun s6 w6 o6 n6 f6 k56 k06 => ⟨cP k06, ?_⟩
    refine app_k pfSl pfEl k06 f6 o6 (r2.keep k06 (by simp)) (pvs_one _) (by simp only [n6, SV.sub, Int.toNat_natCast, Int.toNat_zero]; omega) fun s7 w7 o7 n7 f7 k67 k07 => ?_
    rw [List.nil_append, ← pvs_app, map_del, ← etab] at o7
    have hlt3 : ∀ y ∈ E, y < w3.drew.heap.size := hEl
    refine ⟨_, rfl, M.st_blk0 (P4.keep k07 (by simp)) fun w8 P8 k8 => M.drew_by ?_⟩
    have kd8 := Keeps.drew [] w8
    have P9 := P8.keep kd8 (by simp)
    have k39 : Keeps [p] w3 w8.drew := (kd.trans k07 (by simp)).up.and (k8.and kd8.up)
    have ov9 := ov.keep k39 (by intro y hy hz; simp at hz; exact (ht y hy).2.1 hz)
    have q1 : Rd 1 w8.drew (SV.sub t 0 i 1) (iv ((L.map (·.2)).take i)) := by
      have := ov9.rd.sub (l := 0) (u := i) (by omega) (by omega)
      rw [Nat.zero_mul, List.drop_zero, Nat.sub_zero, Nat.mul_one] at this
      simpa [iv] using this
    have q2 : Rd 1 w8.drew (SV.sub t (i + 1) t.len 1) (iv ((L.map (·.2)).drop (i + 1))) := by
      have := ov9.rd.sub (l := i + 1) (u := t.len) (by omega) (by omega)
      rw [List.take_of_length_le (by simp [iv]; omega)] at this
      simpa [iv] using this
    have m1 : (SV.sub t 0 i 1).len = i := by show i - 0 = i; omega
    have m2 : (SV.sub t (i + 1) t.len 1).len = L.length - (i + 1) := by show t.len - (i + 1) = _; omega
    have cQ : ∀ {w : World}, Keeps [] w8.drew w → w.cell? ((⟨p, 0, none⟩ : Addr).add 1) = some t.v := fun k => (P9.keep k (by simp)).cell 1
    have hpw := P9.lt
    have o9 : Own 27 2 w8.drew s7 _ := (o7.keep k8 (by intro y hy hz; simp at hz; subst hz; have := f7 _ hy; have := hlt3 _ hpE; omega)).keep kd8 (by simp)
    refine ⟨_, rfl, _, rfl, _, P9.cell 1, by omega, by omega, by omega, _, P9.cell 1, by omega, by omega, by omega, ?_⟩
    refine new0_k (sz := 1) (Keeps.refl _ _) fun b10 w10 g1 g2 hb10 o10 k10 k010 => ⟨cQ k010, cQ k010, ?_⟩
    refine app_k intSl intEl k010 hb10 o10 (q1.keep k010 (by simp)) (iv_one _) (by simp only [SV.sub, Int.toNat_natCast, Int.toNat_zero]; omega) fun s11 w11 o11 n11 f11 k1011 k011 => ⟨cQ k011, ?_⟩
    refine app_k intSl intEl k011 f11 o11 (q2.keep k011 (by simp)) (iv_one _) (by simp only [n11, SV.sub, Int.toNat_natCast, Int.toNat_zero]; omega) fun s12 w12 o12 n12 f12 k1112 k012 => ?_
    rw [List.nil_append, ← iv_app, map_del, ← etab] at o12
    refine ⟨_, rfl, M.st_blk (P9.keep k012 (by simp)) (by simp) fun w13 P13 k13 => ?_⟩
    have k313 : Keeps [p] w3 w13 := (k39.and k012.up).and k13
    have hs8 : w3.drew.heap.size ≤ w8.drew.heap.size := by have := k07.size; have := k8.size; have : w8.drew.heap.size = w8.heap.size := rfl; omega
    have nP : ∀ {r : SV} {z : Nat}, z ≤ p → False ∨ True := fun _ => .inr trivial
    have o13 := (o9.keep k012 (by simp)).keep k13 (by intro y hy hz; simp at hz; subst hz; have := f7 _ hy; have := hlt3 _ hpE; omega)
    have ov13 := o12.keep k13 (by intro y hy hz; simp at hz; subst hz; have := f12 _ hy; omega)
    refine ⟨by rw [hv]; rfl, p :: (s7.blk ++ s12.blk), ⟨?_, by simp, hT.cut _, s7, s12, P13, o13, ov13, ?_, ?_⟩, k03.up.trans (k313.mono (D' := E) (by intro x hx; simp at hx; subst hx; exact .inl hpE)) (fun x hx => .inl hx), ?_⟩
    · intro y hy
      rcases List.mem_cons.1 hy with rfl | hy
      · exact P13.lt
      · rcases List.mem_append.1 hy with hy | hy
        · exact o13.lt y hy
        · exact ov13.lt y hy
    · intro y hy
      refine ⟨by simp [hy], ?_⟩
      rintro rfl
      have := f7 _ hy; have := hlt3 _ hpE; omega
    · intro y hy
      have h8 := f12 _ hy
      refine ⟨by simp [hy], ?_, fun hz => ?_⟩
      · rintro rfl; omega
      · have := o9.lt y hz; omega
    · intro y hy
      have := k03.size
      have : w3.drew.heap.size = w3.heap.size := rfl
      rcases List.mem_cons.1 hy with rfl | hy
      · exact .inl hpE
      · right
        rcases List.mem_append.1 hy with hy | hy
        · have := f7 y hy; omega
        · have := f12 y hy; omega
theorem covers_c {w : World} {p q : Key} (hp : p.1 < 4294967296) (hq : q.1 < 4294967296) :
    Calls Try.prog 48 #[.agg #[.int .u32 (p.1 : Int), .int .i64 p.2], .agg #[.int .u32 (q.1 : Int), .int .i64 q.2]] w (R48 fun r w' => r = covR p q ∧ Keeps [] w w') := by
  refine F48_ok (M.new_blk fun b w1 hb B k1 => M.new_blk fun c w2 hc C k2 => ?_)
  have B2 := B.keep k2 (by simp)
  have k02 := k1.trans k2 (by simp)
  refine M.join_by (fun (J : Bool → World → Prop) => ∀ w', Keeps [] w w' → J (covR p q) w') (fun w' h => ⟨rfl, h⟩) fun J hJ => ⟨_, C.cell 0, _, C.cell 1, (rright_c hq q.2).mono fun e w3 g => ?_⟩
  obtain ⟨r, rfl, rfl, k3⟩ := g
  have k03 := k02.trans k3 (by simp)
  have B3 := B2.keep k3 (by simp)
  have C3 := C.keep k3 (by simp)
  unfold covR at hJ
  refine ⟨_, rfl, M.ite_by (fun c => ?_) (fun c => ?_)⟩
  · rw [c, Bool.true_and] at hJ
    refine ⟨_, B3.cell 1, _, C3.cell 1, M.ite_by (fun c2 => ?_) (fun c2 => ?_)⟩
    · rw [c2, Bool.true_and] at hJ
      refine ⟨_, B3.cell 0, _, B3.cell 1, _, C3.cell 0, (has_c hp hq).mono fun e w4 g => ?_⟩
      obtain ⟨r4, rfl, rfl, k4⟩ := g
      exact ⟨_, rfl, hJ _ (k03.trans k4 (by simp))⟩
    · rw [c2, Bool.false_and] at hJ
      exact hJ _ k03
  · rw [c, Bool.false_and] at hJ
    exact hJ _ k03
theorem rbelow_c {w : World} {E : List Nat} {p : Nat} {L : Tbl} (h : RefAt w E p L) {a : Nat} (ha : a < 4294967296) (n : Int) (hlen : L.length ≤ 1000000) :
    Calls Try.prog 43 #[.pointer (some ⟨p, 0, none⟩), .agg #[.int .u32 (a : Int), .int .i64 n]] w (R43 fun r w' => Own 27 2 w' r (pvs (if rightP a n then keysCov L (a, n) else [])) ∧ (∀ x ∈ r.blk, w.heap.size ≤ x) ∧ Keeps [] w w') := by
  have hT := h.2.2.1
  refine F43_ok (M.new_blk fun b w1 hb B k1 => ?_)
  rw [show (if rightP a n = true then keysCov L (a, n) else []) = (L.map (·.1)).filter (covR (a, n)) from (below_ref hT (a, n)).symm]
  have hkl : (L.map (·.1)).length = L.length := by simp
  generalize hks : L.map (·.1) = ks at *
  refine M.loop2_by (fun o x w' => ∃ i : Nat, x = i ∧ i ≤ ks.length ∧ Keeps [] w1 w' ∧ Own 27 2 w' o (pvs ((ks.take i).filter (covR (a, n)))) ∧ (∀ y ∈ o.blk, w1.heap.size ≤ y)) (fun _ x _ => ks.length - x.toNat)
    ⟨0, rfl, by omega, Keeps.refl _ _, Own.nil _ _ _, by simp [SV.blk]⟩ ?_
  rintro o x w2 J ⟨i, rfl, hi, k2, ho, hob⟩ hJ
  have k02 := k1.trans k2 (by simp)
  have kd := Keeps.drew [] w2
  have h2 := h.keep k02 (by simp)
  obtain ⟨_, _, _, s, t, P, so, ov, hs, ht⟩ := h2
  rw [hks] at so
  have hl := pf_len so.rd
  refine ⟨_, rfl, _, P.cell 0, M.ite_by (fun c => ?_) (fun c => ?_)⟩
  · have c := of_decide_eq_true c
    have il : i < ks.length := by omega
    have ei := List.getElem?_eq_getElem il
    have hki : ks[i].1 < 4294967296 := by
      have hm := List.getElem_mem il
      have : ks[i] ∈ L.map (·.1) := by rw [hks]; exact hm
      obtain ⟨z, hz, he⟩ := List.mem_map.1 this
      rw [← he]; exact (hT.right z hz).1
    have htk : ks.take (i + 1) = ks.take i ++ [ks[i]] := by rw [List.take_add_one, ei]; rfl
    generalize ks[i] = k at *
    have k3 := k2.trans kd (by simp)
    have P3 := P.keep kd (by simp)
    have so3 := so.keep kd (by simp)
    have B3 := (B.keep k2 (by simp)).keep kd (by simp)
    obtain ⟨ax, hax⟩ := so3.rd.some (by omega)
    have e := pf_at so3.rd hax ei
    refine M.join_by (fun (J : SV → World → Prop) => ∀ r w', Keeps [] w1 w' → Own 27 2 w' r (pvs ((ks.take (i + 1)).filter (covR (a, n)))) → (∀ y ∈ r.blk, w1.heap.size ≤ y) → J r w') (fun r w' k4 o4 f4 => ?_) fun J2 hJ2 => M.drew_by ⟨_, rfl, _, B3.cell 0, _, B3.cell 1, _, P3.cell 0, ax, hax, by omega, c, _, e.1, _, e.2, (covers_c (p := (a, n)) ha hki).mono fun e w4 g => ?_⟩
    · rw [w64 (by omega) (by omega)]
      exact hJ _ _ _ ⟨i + 1, by omega, by omega, k4, o4, f4⟩ (by omega)
    · obtain ⟨r4, rfl, hr4, k4⟩ := g
      have k14 := k3.trans k4 (by simp)
      have ho4 := (ho.keep kd (by simp)).keep k4 (by simp)
      rw [htk, List.filter_append] at hJ2
      have hlf := List.length_filter_le (covR (a, n)) (ks.take i)
      have htl := List.length_take_le i ks
      refine ⟨_, rfl, M.ite_by (fun c2 => ?_) (fun c2 => ?_)⟩
      · rw [c2] at hr4
        rw [List.filter_cons, if_pos hr4.symm, List.filter_nil] at hJ2
        have P4 := P3.keep k4 (by simp)
        have so4 := so3.keep k4 (by simp)
        have e4 := pf_at so4.rd hax ei
        obtain ⟨r5, w5, v1, v2, v3, v4⟩ := app_p k ho4 (by omega)
        refine ⟨_, rfl, _, P4.cell 0, ax, hax, by omega, c, _, e4.1, _, e4.2, M.new_by ⟨r5, w5, v1, hJ2 _ _ (k14.trans v3 (fun y hy => .inr (hob y hy))) v2 (fun y hy => ?_)⟩⟩
        rcases v4 y hy with h | h
        · exact hob y h
        · have := k14.size; omega
      · rw [c2] at hr4
        rw [List.filter_cons, if_neg (by rw [← hr4]; simp), List.filter_nil, List.append_nil] at hJ2
        exact hJ2 _ _ k14 ho4 hob
  · have c := of_decide_eq_false c
    rw [List.take_of_length_le (by omega)] at ho
    exact ⟨ho, fun y hy => Nat.le_trans k1.size (hob y hy), k02⟩
theorem rabove_c {w : World} {E : List Nat} {p : Nat} {L : Tbl} (h : RefAt w E p L) {a : Nat} (ha : a < 4294967296) (n : Int) (hlen : L.length ≤ 1000000) :
    Calls Try.prog 42 #[.pointer (some ⟨p, 0, none⟩), .agg #[.int .u32 (a : Int), .int .i64 n]] w (R42 fun r w' => Own 27 2 w' r (pvs (if rightP a n then onWay L a (n.toNat + 1) else [])) ∧ (∀ x ∈ r.blk, w.heap.size ≤ x) ∧ Keeps [] w w') := by
  have hT := h.2.2.1
  refine F42_ok (M.new_blk fun b w1 hb B k1 => ?_)
  rw [show (if rightP a n = true then onWay L a (n.toNat + 1) else []) = aboveN L (a, n) 33 from (above_all (a, n)).symm]
  have hlenA : ∀ m, (aboveN L (a, n) m).length ≤ 40000 + m := by
    intro m
    unfold aboveN
    dsimp only
    split
    · have := onWay_len L a (min m (n.toNat + 1)); omega
    · simp
  have hsucc := fun m => above_succ hT (a, n) (n := m)
  have hkl : (L.map (·.1)).length = L.length := by simp
  generalize hks : L.map (·.1) = ks at *
  refine M.loop2_by (fun o x w' => ∃ m : Nat, x = m ∧ m ≤ 33 ∧ Keeps [] w1 w' ∧ Own 27 2 w' o (pvs (aboveN L (a, n) m)) ∧ (∀ y ∈ o.blk, w1.heap.size ≤ y)) (fun _ x _ => 33 - x.toNat)
    ⟨0, rfl, by omega, Keeps.refl _ _, by rw [above_zero]; exact Own.nil _ _ _, by simp [SV.blk]⟩ ?_
  rintro o0 x w20 J ⟨m, rfl, hm, k20, ho0, hob0⟩ hJ
  refine M.ite_by (fun c0 => ?_) (fun c0 => ?_)
  · have c0 := of_decide_eq_true c0
    refine M.loop2_by (fun o x w' => ∃ i : Nat, x = i ∧ i ≤ ks.length ∧ Keeps [] w1 w' ∧ Own 27 2 w' o (pvs (aboveN L (a, n) m ++ (ks.take i).filter (fun k => k.2 == (m : Int) && covR k (a, n)))) ∧ (∀ y ∈ o.blk, w1.heap.size ≤ y)) (fun _ x _ => ks.length - x.toNat)
      ⟨0, rfl, by omega, k20, by simpa using ho0, hob0⟩ ?_
    rintro o x w2 J1 ⟨i, rfl, hi, k2, ho, hob⟩ hJ1
    have k02 := k1.trans k2 (by simp)
    have kd := Keeps.drew [] w2
    have h2 := h.keep k02 (by simp)
    obtain ⟨_, _, _, s, t, P, so, ov, hs, ht⟩ := h2
    rw [hks] at so
    have hl := pf_len so.rd
    refine ⟨_, rfl, _, P.cell 0, M.ite_by (fun c => ?_) (fun c => ?_)⟩
    · have c := of_decide_eq_true c
      have il : i < ks.length := by omega
      have ei := List.getElem?_eq_getElem il
      have hki : ks[i].1 < 4294967296 := by
        have hm := List.getElem_mem il
        have : ks[i] ∈ L.map (·.1) := by rw [hks]; exact hm
        obtain ⟨z, hz, he⟩ := List.mem_map.1 this
        rw [← he]; exact (hT.right z hz).1
      have htk : ks.take (i + 1) = ks.take i ++ [ks[i]] := by rw [List.take_add_one, ei]; rfl
      generalize ks[i] = k at *
      have k3 := k2.trans kd (by simp)
      have P3 := P.keep kd (by simp)
      have so3 := so.keep kd (by simp)
      have B3 := (B.keep k2 (by simp)).keep kd (by simp)
      obtain ⟨ax, hax⟩ := so3.rd.some (by omega)
      have e := pf_at so3.rd hax ei
      have hlf := List.length_filter_le (fun k : Key => k.2 == (m : Int) && covR k (a, n)) (ks.take i)
      have htl := List.length_take_le i ks
      have hlm := hlenA m
      refine M.join_by (fun (J : SV → World → Prop) => ∀ r w', Keeps [] w1 w' → Own 27 2 w' r (pvs (aboveN L (a, n) m ++ (ks.take (i + 1)).filter (fun k => k.2 == (m : Int) && covR k (a, n)))) → (∀ y ∈ r.blk, w1.heap.size ≤ y) → J r w') (fun r w' k4 o4 f4 => ?_) fun J2 hJ2 => ?_
      · rw [w64 (by omega) (by omega)]
        exact hJ1 _ _ _ ⟨i + 1, by omega, by omega, k4, o4, f4⟩ (by omega)
      · rw [htk, List.filter_append] at hJ2
        refine M.join_by (fun (J : Bool → World → Prop) => ∀ r w', r = (k.2 == (m : Int) && covR k (a, n)) → Keeps [] w2 w' → J r w') (fun r w4 hr4 k24 => ?_) fun J3 hJ3 => M.drew_by ⟨_, rfl, _, P3.cell 0, ax, hax, by omega, c, _, e.2, M.ite_by (fun c3 => ?_) (fun c3 => ?_)⟩
        · have k14 := k2.trans k24 (by simp)
          have ho4 := ho.keep k24 (by simp)
          refine M.ite_by (fun c2 => ?_) (fun c2 => ?_)
          · rw [c2] at hr4
            rw [List.filter_cons, if_pos hr4.symm, List.filter_nil, ← List.append_assoc] at hJ2
            have P4 := P.keep k24 (by simp)
            have so4 := so.keep k24 (by simp)
            have e4 := pf_at so4.rd hax ei
            obtain ⟨r5, w5, v1, v2, v3, v4⟩ := app_p k ho4 (by rw [List.length_append]; omega)
            refine ⟨_, rfl, _, P4.cell 0, ax, hax, by omega, c, _, e4.1, _, e4.2, M.new_by ⟨r5, w5, v1, hJ2 _ _ (k14.trans v3 (fun y hy => .inr (hob y hy))) v2 (fun y hy => ?_)⟩⟩
            rcases v4 y hy with h | h
            · exact hob y h
            · have := k14.size; omega
          · rw [c2] at hr4
            rw [List.filter_cons, if_neg (by rw [← hr4]; simp), List.filter_nil, List.append_nil] at hJ2
            exact hJ2 _ _ k14 ho4 hob
        · refine ⟨_, rfl, _, P3.cell 0, ax, hax, by omega, c, _, e.1, _, e.2, _, B3.cell 0, _, B3.cell 1, (covers_c (q := (a, n)) hki ha).mono fun e w4 g => ?_⟩
          obtain ⟨r4, rfl, hr4, k4⟩ := g
          exact ⟨_, rfl, hJ3 _ _ (by rw [c3, hr4]; rfl) (kd.trans k4 (by simp))⟩
        · exact hJ3 _ _ (by rw [c3]; rfl) kd
    · have c := of_decide_eq_false c
      rw [List.take_of_length_le (by omega), ← hsucc m] at ho
      rw [w64 (by omega) (by omega)]
      exact hJ _ _ _ ⟨m + 1, by omega, by omega, k2, ho, hob⟩ (by omega)
  · have c0 := of_decide_eq_false c0
    obtain rfl : m = 33 := by omega
    exact ⟨ho0, fun y hy => Nat.le_trans k1.size (hob0 y hy), k1.trans k20 (by simp)⟩
end Go.Proofs.Ytjjjomeemfmihaa
