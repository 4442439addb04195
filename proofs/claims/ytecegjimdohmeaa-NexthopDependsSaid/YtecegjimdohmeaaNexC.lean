/-
  Next hops: where an address leads.
-/
import Derived.Test.YtecegjimdohmeaaIgpS
import Derived.Test.YtecegjimdohmeaaSpRnd
namespace Go.Proofs.Ytecegjimdohmeaa
set_option linter.unusedVariables false
set_option linter.unusedSimpArgs false
open Go.Sp

theorem madd_c {w : World} {a b : Nat} (ha : a ≤ fInf) (hb : b ≤ fInf) : Calls Try.prog 44 #[.float .f64 a, .float .f64 b] w (R44 fun r w' => r = addB a b ∧ w' = w) := by
  refine F44_ok ((clean_c a).mono fun e w1 g => ?_)
  obtain ⟨r, rfl, rfl, rfl⟩ := g
  refine ⟨_, rfl, (clean_c b).mono fun e w1 g => ?_⟩
  obtain ⟨r, rfl, rfl, rfl⟩ := g
  rw [cleanN_id ha, cleanN_id hb]
  exact ⟨_, rfl, _, fl_add ha hb, rfl, rfl⟩
theorem index_c {w : World} {s : SV} {l : List Key} (hs : Rd 2 w s (pvs l)) (hb : l.length ≤ 1000000) (k : Key) : Calls Try.prog 52 #[s.v, .agg #[.int .u32 (k.1 : Int), .int .i64 k.2]] w (R52 fun r w' => decide (0 ≤ r) = decide (k ∈ l) ∧ Keeps [] w w') := by
  have hl := pf_len hs
  refine F52_ok (M.new_blk fun b w1 hb1 B k1 => ?_)
  refine M.loop1_by (fun x w' => ∃ i : Nat, x = i ∧ i ≤ l.length ∧ Keeps [] w1 w' ∧ ∀ j (y : Key), j < i → l[j]? = some y → y ≠ k) (fun x _ => l.length - x.toNat) ⟨0, rfl, by omega, Keeps.refl _ _, fun j y h => by omega⟩ ?_
  rintro x w2 J ⟨i, rfl, hi, k2, hno⟩ hJ
  have k02 := k1.trans k2 (by simp)
  refine M.ite_by (fun c => ?_) (fun c => ?_)
  · have c := of_decide_eq_true c
    have il : i < l.length := by omega
    have ei := List.getElem?_eq_getElem il
    have hmem := List.getElem_mem il
    generalize l[i] = y at *
    have kd := Keeps.drew [] w2
    have k3 := k02.trans kd (by simp)
    have B3 := (B.keep k2 (by simp)).keep kd (by simp)
    have rd3 := hs.keep k3 (by simp)
    obtain ⟨a, ha⟩ := rd3.some (by omega)
    have e := pf_at rd3 ha ei
    refine M.drew_by ⟨a, ha, by omega, by omega, _, B3.cell 0, _, B3.cell 1, _, e.1, _, e.2, ?_⟩
    have hkb := key_beq k y
    try dsimp only
    rw [hkb]
    refine M.ite_by (fun c1 => ?_) (fun c1 => ?_)
    · have c1 : k = y := by simpa using c1
      subst c1
      exact ⟨by rw [decide_eq_true (by omega), decide_eq_true hmem], k3⟩
    · have c1 : k ≠ y := by simpa using c1
      rw [w64 (by omega) (by omega)]
      refine hJ _ _ ⟨i + 1, by omega, by omega, k2.trans kd (by simp), fun j z hj hz => ?_⟩ (by omega)
      by_cases hji : j = i
      · subst hji; rw [ei] at hz; cases hz; exact Ne.symm c1
      · exact hno j z (by omega) hz
  · have c := of_decide_eq_false c
    obtain rfl : i = l.length := by omega
    refine ⟨?_, k02⟩
    rw [decide_eq_false (show ¬ (0 : Int) ≤ -1 by omega), decide_eq_false]
    intro h
    obtain ⟨j, hj, he⟩ := List.getElem_of_mem h
    exact hno j k hj (by rw [List.getElem?_eq_getElem hj, he]) rfl
theorem contains_c {w : World} {s : SV} {l : List Key} (hs : Rd 2 w s (pvs l)) (hb : l.length ≤ 1000000) (k : Key) : Calls Try.prog 31 #[s.v, .agg #[.int .u32 (k.1 : Int), .int .i64 k.2]] w (R31 fun r w' => r = decide (k ∈ l) ∧ Keeps [] w w') := by
  refine F31_ok (M.new_blk fun b w1 hb1 B k1 => ⟨_, B.cell 0, _, B.cell 1, (index_c (hs.keep k1 (by simp)) hb k).mono fun e w2 g => ?_⟩)
  obtain ⟨r, rfl, h, k2⟩ := g
  exact ⟨_, rfl, h, k1.trans k2 (by simp)⟩
open Classical in
/-- What a table tells of an address. -/
noncomputable def IS.tell (S : IS) (A : Nat) : Option Wy := if h : ∃ k, S.best A k then some (S.h h.choose) else none
theorem tell_best {S : IS} {A : Nat} {k : Key} (h : S.best A k) : S.tell A = some (S.h k) := by
  unfold IS.tell
  have he : ∃ k, S.best A k := ⟨k, h⟩
  rw [dif_pos he]
  have := told_best h (.inl ⟨he.choose, he.choose_spec, rfl, rfl⟩ : S.told A (S.h he.choose) true)
  rw [this.1]
theorem tell_none {S : IS} {A : Nat} (h : S.nobest A) : S.tell A = none := by
  unfold IS.tell
  rw [dif_neg]
  rintro ⟨k, hk⟩
  exact absurd hk.2.1 (by rw [h k hk.1]; simp)
theorem told_tell {S : IS} {A : Nat} {x : Wy} {ok : Bool} (h : S.told A x ok) : (ok = true ∧ S.tell A = some x) ∨ (ok = false ∧ S.tell A = none) := by
  rcases h with ⟨k, hk, rfl, rfl⟩ | ⟨hn, rfl, rfl⟩
  · exact .inl ⟨rfl, tell_best hk⟩
  · exact .inr ⟨rfl, tell_none hn⟩
theorem tell_ok {S : IS} (g : S.good) {A : Nat} {x : Wy} (h : S.tell A = some x) : okW x := by
  unfold IS.tell at h
  split at h
  · rename_i he
    cases h
    exact (g.ok _ (by
      have := he.choose_spec.1
      unfold IS.opn at this
      simp only [Bool.and_eq_true] at this
      exact this.1)).2
  · cases h
/-- Where an address leads: its link, cost, the ways that were taken, and why not. -/
def folA (tell : Nat → Option Wy) (depth : Nat) : Nat → List Key → Nat → Nat → Int × Nat × List Key × Int
  | 0, T, c, _ => (0, c, T, 27)
  | f + 1, T, c, a =>
    match tell a with
    | none => (0, c, T, 22)
    | some w =>
      if w.pf ∈ T then (0, c, T, 26)
      else if T.length = depth then (0, c, T, 27)
      else if w.direct then (w.link, addB c w.cost, T ++ [w.pf], if infB (addB c w.cost) then 22 else 0)
      else folA tell depth f (T ++ [w.pf]) (addB c w.cost) w.next
/-- What was asked on the way. -/
def folQ (tell : Nat → Option Wy) (depth : Nat) : Nat → List Key → Nat → List Nat
  | 0, _, _ => []
  | f + 1, T, a => a :: (match tell a with
    | none => []
    | some w =>
      if w.pf ∈ T then []
      else if T.length = depth then []
      else if w.direct then []
      else folQ tell depth f (T ++ [w.pf]) w.next)
def nv (l : List Nat) : List Value := l.map fun n : Nat => Value.int .u32 (n : Int)
theorem nv_one (l : List Nat) : ∀ u ∈ nv l, u.oneCell' = true := by
  intro u hu
  obtain ⟨x, _, rfl⟩ := List.mem_map.1 hu
  rfl
theorem u32El : elemB Try.prog 26 1 4 = true := by kernel_rfl
theorem u32Sl : sliceB Try.prog 68 26 1 = true := by kernel_rfl
theorem follow_c {w : World} {X : List Nat} {p : Nat} {S : IS} (F : IgpAt w X p S) {A : Nat} (hA : A < 4294967296) {d : Nat} (hd : 1 ≤ d ∧ d ≤ 8) :
    Calls Try.prog 28 #[.pointer (some ⟨p, 0, none⟩), .int .u32 (A : Int), .int .i64 (d : Int)] w (R28 fun ln c t a e w' => (ln = (folA S.tell d (d + 1) [] 0 A).1 ∧ c = (folA S.tell d (d + 1) [] 0 A).2.1 ∧ Rd 2 w' t (pvs (folA S.tell d (d + 1) [] 0 A).2.2.1) ∧ e = (folA S.tell d (d + 1) [] 0 A).2.2.2) ∧ (∀ y ∈ t.blk, w.heap.size ≤ y) ∧ Keeps [] w w' ∧ Rd 1 w' a (nv (folQ S.tell d (d + 1) [] A))) := by
  have hg := F.good
  refine F28_ok (M.new_blk fun b2 w1 hb2 B2 k1 => M.new_blk fun b4 w2 hb4 B4 k2 => ?_)
  have hb2l := B2.lt
  have hb4l := B4.lt
  have B2 := B2.keep k2 (by simp)
  have k02 := k1.trans k2 (by simp)
  have hs1 := k1.size
  refine M.join_by (fun (J : Bool → World → Prop) => J false w2) (M.ite_ff ?_) fun J hJ => M.ite_ff (M.ite_n (decide_eq_false (by omega)) (by rw [decide_eq_false (by omega)]; exact hJ))
  have hXl := F.lt
  generalize hres : folA S.tell d (d + 1) [] 0 A = res
  generalize hQ : folQ S.tell d (d + 1) [] A = Q
  -- what is told at the end
  have hend : ∀ (w' : World) (ln : Int) (c : Nat) (t s : SV) (err : Int), Blk w' b2 70 [.int .i64 0, .float .f64 0, SV.nil.v, SV.nil.v] → Blk w' b4 70 [.int .i64 ln, .float .f64 c, t.v, s.v] → Keeps [] w w' → Rd 2 w' t (pvs res.2.2.1) → (∀ y ∈ t.blk, w2.heap.size ≤ y) → Rd 1 w' s (nv Q) → (∀ y ∈ s.blk, w2.heap.size ≤ y) → ln = res.1 → c = res.2.1 → err = res.2.2.2 →
      ∃ (t18 : Int) (t19 : Nat) (t20 : SV) (t21 : SV), Cs w' ⟨b4, 0, none⟩ 0 [(Value.int .i64 t18), (Value.float .f64 t19), (SV.v t20), (SV.v t21)] ∧ M.stA ⟨b2, 0, none⟩ [(Value.int .i64 t18), (Value.float .f64 t19), (SV.v t20), (SV.v t21)] w' fun w23 => ∃ (t25 : Int) (t26 : Nat) (t27 : SV) (t28 : SV), Cs w23 ⟨b2, 0, none⟩ 0 [(Value.int .i64 t25), (Value.float .f64 t26), (SV.v t27), (SV.v t28)] ∧ (t25 = res.1 ∧ t26 = res.2.1 ∧ Rd 2 w23 t27 (pvs res.2.2.1) ∧ err = res.2.2.2) ∧ (∀ y ∈ t27.blk, w.heap.size ≤ y) ∧ Keeps [] w w23 ∧ Rd 1 w23 t28 (nv Q) := by
    intro w' ln c t s err C2 C4 k' rd f rq fq e1 e2 e3
    exact ⟨_, _, _, _, C4.cs 0 _ rfl, M.stA_blk C2 rfl fun w3 C3 k3 => ⟨_, _, _, _, C3.cs 0 _ rfl, ⟨e1, e2, rd.keep k3 (fun y hy h => by have := f y hy; simp at h; omega), e3⟩, fun y hy => by have := f y hy; have := k02.size; omega, k'.trans k3 (by simp; omega), rq.keep k3 (fun y hy h => by have := fq y hy; simp at h; omega)⟩⟩
  refine ⟨fun f x w' => ∃ (a : Nat) (T : List Key) (c : Nat) (t s : SV) (l : List Nat), x = (a : Int) ∧ a < 4294967296 ∧ f + T.length = d + 1 ∧ T.length ≤ d ∧ folA S.tell d f T c a = res ∧ c ≤ fInf ∧ Blk w' b2 70 [.int .i64 0, .float .f64 0, SV.nil.v, SV.nil.v] ∧ Blk w' b4 70 [.int .i64 0, .float .f64 c, t.v, s.v] ∧ Own 28 2 w' t (pvs T) ∧ Own 26 1 w' s (nv l) ∧ l ++ folQ S.tell d f T a = Q ∧ l.length ≤ T.length ∧ (∀ y ∈ t.blk, w2.heap.size ≤ y) ∧ (∀ y ∈ s.blk, w2.heap.size ≤ y) ∧ (∀ y ∈ t.blk, y ∉ s.blk) ∧ Keeps [] w w' ∧ w2.heap.size ≤ w'.heap.size,
    ⟨d + 1, A, [], 0, SV.nil, SV.nil, [], rfl, hA, rfl, by simp, hres, by unfold fInf; omega, B2, B4, Own.nil _ _ _, Own.nil _ _ _, by simpa using hQ, by simp, by simp [SV.blk], by simp [SV.blk], by simp [SV.blk], k02, Nat.le_refl _⟩, ?_⟩
  rintro f x w3 ⟨a, T, c, t, s, l, rfl, ha, hf, hT, hres, hc, C2, C4, ot, os, hq, hl, ft, fs, dis, k3, hs3⟩
  obtain ⟨f, rfl⟩ : ∃ f', f = f' + 1 := ⟨f - 1, by omega⟩
  -- what is asked
  have hosl := os.rd.len
  simp only [nv, List.length_map, Nat.mul_one] at hosl
  have kal := Keeps.alloc [] w3 (.cells #[Value.int .u32 (a : Int)] 26)
  have hnew := (Own.new w3 26 1 1 (nv [a]) rfl (by decide)).rd
  obtain ⟨r4, w4, v1, v2, v3, v4, v5⟩ := app_own (P := Try.prog) (ty := 68) u32Sl u32El (os.keep kal (by simp)) (x := ⟨some ⟨w3.heap.size, 0, none⟩, 1, 1⟩) (news := nv [a]) hnew (nv_one _) (by simp; omega)
  have hal : (w3.alloc (.cells #[Value.int .u32 (a : Int)] 26)).heap.size = w3.heap.size + 1 := by simp
  have k34 : Keeps s.blk w3 w4 := kal.up.and v4
  have hn2 : b2 ∉ s.blk := fun h => by have := fs _ h; omega
  have hn4 : b4 ∉ s.blk := fun h => by have := fs _ h; omega
  have C24 := C2.keep k34 hn2
  have C44 := C4.keep k34 hn4
  have ot4 := ot.keep k34 dis
  have hsz4 := v4.size
  have k04 : Keeps [] w w4 := k3.trans k34 (fun y hy => by have := fs y hy; right; omega)
  refine ⟨_, C4.cell 3, M.new_by ⟨r4, w4, v1, M.st_blk C44 (by simp) fun w5 C45 k5 => ?_⟩⟩
  have C45 : Blk w5 b4 70 [.int .i64 0, .float .f64 c, t.v, r4.v] := C45
  have C25 := C24.keep k5 (by simp; omega)
  have hr4 : ∀ y ∈ r4.blk, w2.heap.size ≤ y := fun y hy => by
    rcases v5 y hy with h | h
    · exact fs y h
    · omega
  have hb4t : ∀ {t : SV}, (∀ y ∈ t.blk, w2.heap.size ≤ y) → ∀ y ∈ t.blk, y ∉ [b4] := fun h y hy hb => by have := h y hy; simp at hb; omega
  have ot5 := ot4.keep k5 (hb4t ft)
  have os5 : Own 26 1 w5 r4 (nv (l ++ [a])) := by
    have := v2.keep k5 (hb4t hr4)
    simpa [nv] using this
  have dis5 : ∀ y ∈ t.blk, y ∉ r4.blk := fun y hy h => by
    rcases v5 y h with h | h
    · exact dis y hy h
    · have := ot.lt y hy; omega
  have k05 : Keeps [] w w5 := k04.trans k5 (by have := k02.size; simp; omega)
  have hsz5 := k5.size
  refine (imatch_c (F.keep k05 (by simp)) ha).mono fun e w6 g => ?_
  obtain ⟨x1, x2, x3, x4, x5, x6, ok, rfl, ⟨x, hx, rfl, rfl, rfl, rfl, rfl, rfl⟩, k6⟩ := g
  refine ⟨_, _, _, _, _, _, _, rfl, M.new_blk fun b7 w7 hb7 B7 k7 => M.stA_blk B7 rfl fun w8 B8 k8 => ?_⟩
  have B8 : Blk w8 b7 32 x.cells := B8
  have k58 : Keeps [] w5 w8 := (k6.trans k7 (by simp)).trans k8 (by have := k6.size; simp; omega)
  have k08 := k05.trans k58 (by simp)
  have C28 := C25.keep k58 (by simp)
  have C48 := C45.keep k58 (by simp)
  have ot8 := ot5.keep k58 (by simp)
  have os8 := os5.keep k58 (by simp)
  have hsz8 := k58.size
  have hb7l : w5.heap.size ≤ b7 := by have := k6.size; omega
  rcases told_tell hx with ⟨rfl, htell⟩ | ⟨rfl, htell⟩
  rotate_left
  · simp only [folA, htell] at hres
    simp only [folQ, htell] at hq
    subst hres
    rw [hq] at os8
    exact M.ite_tt (hend w8 0 c t r4 22 C28 C48 k08 ot8.rd ft os8.rd hr4 rfl rfl rfl)
  have hxo := tell_ok hg htell
  have htl := pf_len ot8.rd
  refine M.ite_ff ⟨_, C48.cell 2, _, B8.cell 0, _, B8.cell 1, (contains_c ot8.rd (by omega) x.pf).mono fun e w9 g => ?_⟩
  obtain ⟨r9, rfl, rfl, k9⟩ := g
  have k59 := k58.trans k9 (by simp)
  have k09 := k08.trans k9 (by simp)
  have C29 := C28.keep k9 (by simp)
  have C49 := C48.keep k9 (by simp)
  have B9 := B8.keep k9 (by simp)
  have ot9 := ot8.keep k9 (by simp)
  have os9 := os8.keep k9 (by simp)
  have hsz9 := k9.size
  simp only [folA, htell] at hres
  simp only [folQ, htell] at hq
  refine ⟨_, rfl, M.ite_by (fun c1 => ?_) (fun c1 => ?_)⟩
  · have c1 : x.pf ∈ T := of_decide_eq_true c1
    rw [if_pos c1] at hres hq
    subst hres
    rw [hq] at os9
    exact hend w9 0 c t r4 26 C29 C49 k09 ot9.rd ft os9.rd hr4 rfl rfl rfl
  have c1 : x.pf ∉ T := of_decide_eq_false c1
  rw [if_neg c1] at hres hq
  refine ⟨_, C49.cell 2, M.ite_by (fun c2 => ?_) (fun c2 => ?_)⟩
  · have c2 : T.length = d := by rw [htl] at c2; simp at c2; omega
    rw [if_pos c2] at hres hq
    subst hres
    rw [hq] at os9
    exact hend w9 0 c t r4 27 C29 C49 k09 ot9.rd ft os9.rd hr4 rfl rfl rfl
  have c2 : T.length ≠ d := by rw [htl] at c2; simp at c2; omega
  rw [if_neg c2] at hres hq
  obtain ⟨r10, w10, u1, u2, u3, u4⟩ := app_p x.pf ot9 (by omega)
  have hb2t : b2 ∉ t.blk := fun h => by have := ft _ h; omega
  have hb4t' : b4 ∉ t.blk := fun h => by have := ft _ h; omega
  have hb7t : b7 ∉ t.blk := fun h => by have := ot5.lt _ h; omega
  have C210 := C29.keep u3 hb2t
  have C410 := C49.keep u3 hb4t'
  have B10 := B9.keep u3 hb7t
  have os10 := os9.keep u3 (fun y hy h => dis5 y h hy)
  have hr10 : ∀ y ∈ r10.blk, w2.heap.size ≤ y := fun y hy => by
    rcases u4 y hy with h | h
    · exact ft y h
    · omega
  have dis10 : ∀ y ∈ r10.blk, y ∉ r4.blk := fun y hy h => by
    rcases u4 y hy with h1 | h1
    · exact dis5 y h1 h
    · have := os9.lt y h; omega
  have k010 : Keeps [] w w10 := k09.trans u3 (fun y hy => by have := ft y hy; have := k02.size; right; omega)
  have hsz10 := u3.size
  refine ⟨_, C49.cell 2, _, B9.cell 0, _, B9.cell 1, M.new_by ⟨r10, w10, u1, M.st_blk C410 (by simp) fun w11 C411 k11 => ?_⟩⟩
  have C411 : Blk w11 b4 70 [.int .i64 0, .float .f64 c, r10.v, r4.v] := C411
  have C211 := C210.keep k11 (by simp; omega)
  have B11 := B10.keep k11 (by simp; omega)
  have ot11 := u2.keep k11 (hb4t hr10)
  have os11 := os10.keep k11 (hb4t hr4)
  have k011 : Keeps [] w w11 := k010.trans k11 (by have := k02.size; simp; omega)
  refine ⟨_, C411.cell 1, _, B11.cell 5, (madd_c hc hxo.le).mono fun e w12 g => ?_⟩
  obtain ⟨r12, rfl, rfl, hw⟩ := g
  obtain rfl := hw.symm
  have hle := addB_le c x.cost
  refine ⟨_, rfl, M.st_blk C411 (by simp) fun w13 C413 k13 => ?_⟩
  have C413 : Blk w13 b4 70 [.int .i64 0, .float .f64 (addB c x.cost), r10.v, r4.v] := C413
  have C213 := C211.keep k13 (by simp; omega)
  have B13 := B11.keep k13 (by simp; omega)
  have ot13 := ot11.keep k13 (hb4t hr10)
  have os13 := os11.keep k13 (hb4t hr4)
  have k013 : Keeps [] w w13 := k011.trans k13 (by have := k02.size; simp; omega)
  have hsz11 := k11.size
  have hsz13 := k13.size
  refine ⟨_, B13.cell 2, M.ite_by (fun c3 => ?_) (fun c3 => ?_)⟩
  · rw [if_pos c3] at hres hq
    refine ⟨_, B13.cell 3, M.st_blk0 C413 fun w14 C414 k14 => ?_⟩
    have C414 : Blk w14 b4 70 [.int .i64 x.link, .float .f64 (addB c x.cost), r10.v, r4.v] := C414
    have C214 := C213.keep k14 (by simp; omega)
    have ot14 := ot13.keep k14 (hb4t hr10)
    have os14 := os13.keep k14 (hb4t hr4)
    rw [hq] at os14
    have k014 : Keeps [] w w14 := k013.trans k14 (by have := k02.size; simp; omega)
    refine ⟨_, C414.cell 1, (isinf_c _).mono fun e w15 g => ?_⟩
    obtain ⟨r15, rfl, rfl, hw⟩ := g
    obtain rfl := hw.symm
    refine ⟨_, rfl, M.ite_by (fun c4 => ?_) (fun c4 => ?_)⟩
    · rw [if_pos c4] at hres
      subst hres
      exact hend w14 x.link (addB c x.cost) r10 r4 22 C214 C414 k014 ot14.rd hr10 os14.rd hr4 rfl rfl rfl
    · have c4 : infB (addB c x.cost) = false := c4
      rw [if_neg (by rw [c4]; simp)] at hres
      subst hres
      exact hend w14 x.link (addB c x.cost) r10 r4 0 C214 C414 k014 ot14.rd hr10 os14.rd hr4 rfl rfl rfl
  · have c3 : x.direct = false := c3
    rw [if_neg (by rw [c3]; simp)] at hres hq
    refine ⟨_, B13.cell 4, f, by omega, x.next, T ++ [x.pf], addB c x.cost, r10, r4, l ++ [a], rfl, hxo.ty.2.1, by simp; omega, by simp; omega, hres, hle, C213, C413, ot13, os13, by simpa using hq, by simp; omega, hr10, hr4, dis10, k013, by omega⟩
theorem resolve_c {w : World} {X : List Nat} {p : Nat} {S : IS} (F : IgpAt w X p S) {A : Nat} (hA : A < 4294967296) {d : Nat} (hd : 1 ≤ d ∧ d ≤ 8) :
    Calls Try.prog 10 #[.pointer (some ⟨p, 0, none⟩), .int .u32 (A : Int), .int .i64 (d : Int)] w (R10 fun ln c e w' => e = (folA S.tell d (d + 1) [] 0 A).2.2.2 ∧ (if e = 0 then ln = (folA S.tell d (d + 1) [] 0 A).1 ∧ c = (folA S.tell d (d + 1) [] 0 A).2.1 else ln = 0 ∧ c = 0) ∧ Keeps [] w w') := by
  refine F10_ok (M.new_blk fun b2 w1 hb2 B2 k1 => (follow_c (F.keep k1 (by simp)) hA hd).mono fun e w2 g => ?_)
  obtain ⟨ln, c, t, s, er, rfl, ⟨e1, e2, e3, e4⟩, f, k2, _⟩ := g
  refine ⟨_, _, _, _, _, rfl, M.new_blk fun b3 w3 hb3 B3 k3 => M.stA_blk B3 rfl fun w4 B4 k4 => ?_⟩
  have k24 : Keeps [] w2 w4 := k3.trans k4 (by simp; omega)
  have k14 := k2.trans k24 (by simp)
  have k04 := k1.trans k14 (by simp)
  have B24 := B2.keep k14 (by simp)
  refine M.ite_by (fun c1 => ?_) (fun c1 => ?_)
  · have c1 : er ≠ 0 := by simpa using c1
    refine M.stA_blk B24 rfl fun w5 B5 k5 => ⟨_, B5.cell 0, _, B5.cell 1, e4, ?_, k04.trans k5 (by simp; omega)⟩
    rw [if_neg c1]; exact ⟨rfl, rfl⟩
  · have c1 : er = 0 := by simpa using c1
    refine ⟨_, B4.cell 0, _, B4.cell 1, M.stA_blk B24 rfl fun w5 B5 k5 => ⟨_, B5.cell 0, _, B5.cell 1, by rw [← e4]; exact c1.symm, ?_, k04.trans k5 (by simp; omega)⟩⟩
    rw [if_pos rfl]; exact ⟨e1, e2⟩
theorem trail_c {w : World} {X : List Nat} {p : Nat} {S : IS} (F : IgpAt w X p S) {A : Nat} (hA : A < 4294967296) {d : Nat} (hd : 1 ≤ d ∧ d ≤ 8) :
    Calls Try.prog 11 #[.pointer (some ⟨p, 0, none⟩), .int .u32 (A : Int), .int .i64 (d : Int)] w (R11 fun t w' => Rd 2 w' t (pvs (folA S.tell d (d + 1) [] 0 A).2.2.1) ∧ Keeps [] w w') := by
  refine F11_ok ((follow_c F hA hd).mono fun e w2 g => ?_)
  obtain ⟨ln, c, t, s, er, rfl, ⟨e1, e2, e3, e4⟩, f, k2, _⟩ := g
  refine ⟨_, _, _, _, _, rfl, M.new_blk fun b3 w3 hb3 B3 k3 => M.stA_blk B3 rfl fun w4 B4 k4 => ?_⟩
  have k24 : Keeps [] w2 w4 := k3.trans k4 (by simp; omega)
  exact ⟨_, B4.cell 2, e3.keep k24 (by simp), k2.trans k24 (by simp)⟩
end Go.Proofs.Ytecegjimdohmeaa
