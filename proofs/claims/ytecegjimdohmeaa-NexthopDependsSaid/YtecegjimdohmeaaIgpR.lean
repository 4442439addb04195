/-
  The document's table of ways.
-/
import Derived.Test.YtecegjimdohmeaaIgpM
import Derived.Test.YtecegjimdohmeaaSpTrieR
namespace Go.Proofs.Ytecegjimdohmeaa
set_option linter.unusedVariables false
set_option linter.unusedSimpArgs false
open Go.Sp

theorem fGtr_pos {x y : Nat} (hx : x ≤ fInf) (hy : y ≤ fInf) : fGtr x y = decide (y < x) := by
  unfold fGtr
  rw [order_pos hx hy]
  rcases Nat.lt_trichotomy x y with h | h | h
  · rw [cmp_lt (by omega), decide_eq_false (by omega)]; rfl
  · subst h; rw [cmp_eq, decide_eq_false (by omega)]; rfl
  · rw [cmp_gt (by omega), decide_eq_true h]; rfl
theorem infB_pos {x : Nat} (hx : x ≤ fInf) : infB x = !fLss x fInf := by
  unfold infB
  rw [fGtr_pos hx (by unfold fInf; omega), fLss_pos hx (Nat.le_refl _)]
  unfold fInf at *
  by_cases h : x < 9218868437227405312
  · rw [decide_eq_true h, decide_eq_false (by omega)]; rfl
  · rw [decide_eq_false h, decide_eq_true (by omega)]; rfl
/-- What each table is. -/
structure IS.good (S : IS) : Prop where
  tab : Tab S.L
  few : S.L.length ≤ 64
  ok : ∀ k, (tget S.L k).isSome = true → (S.h k).pf = k ∧ okW (S.h k)
theorem IgpAt.good {w : World} {X : List Nat} {p : Nat} {S : IS} (F : IgpAt w X p S) : S.good := ⟨F.tab, F.few, fun _ h => F.ok h⟩
theorem IS.all_at {S : IS} {i : Nat} {y : Wy} (g : S.good) (h : S.all[i]? = some y) : ∃ v, S.L[i]? = some (y.pf, v) ∧ (tget S.L y.pf).isSome = true ∧ S.h y.pf = y ∧ okW y := by
  unfold IS.all at h
  rw [List.getElem?_map] at h
  obtain ⟨z, hz, rfl⟩ := Option.map_eq_some_iff.1 h
  have h1 : (tget S.L z.1).isSome = true := tget_isSome.2 ⟨z, List.mem_of_getElem? hz, rfl⟩
  obtain ⟨h2, h3⟩ := g.ok _ h1
  refine ⟨z.2, by rw [h2]; exact hz, by rw [h2]; exact h1, by rw [h2], h3⟩
theorem IS.all_len (S : IS) : S.all.length = S.L.length := by simp [IS.all]
/-- The document's table lies in memory. -/
def RAt (w : World) (E : List Nat) (q : Nat) (S : IS) : Prop := (∀ x ∈ E, x < w.heap.size) ∧ q ∈ E ∧ ∃ s : SV, Blk w q 74 [s.v] ∧ Rd 6 w s (S.all.flatMap Wy.cells) ∧ ∀ x ∈ s.blk, x ∈ E ∧ x ≠ q
theorem RAt.keep {w w' : World} {E D : List Nat} {q : Nat} {S : IS} (R : RAt w E q S) (k : Keeps D w w') (hd : ∀ x ∈ E, x ∉ D) : RAt w' E q S := by
  obtain ⟨h1, h2, s, h3, h4, h5⟩ := R
  exact ⟨fun x hx => Nat.lt_of_lt_of_le (h1 x hx) k.size, h2, s, h3.keep k (hd _ h2), h4.keep k (fun x hx => hd _ (h5 x hx).1), h5⟩
theorem rnew_k {w : World} {K : Addr → World → Prop} (h : ∀ q w', w.heap.size ≤ q → RAt w' [q] q IS.zero → Keeps [] w w' → K ⟨q, 0, none⟩ w') : M.new (.cells #[SV.nil.v] 74) w K :=
  M.new_blk fun b w1 hb B k1 => h b w1 (by omega) ⟨by intro x hx; simp at hx; subst hx; exact B.lt, by simp, SV.nil, B, Rd.nil _ _, by simp [SV.blk]⟩ k1
theorem rget_c {w : World} {E : List Nat} {q : Nat} {S : IS} (R : RAt w E q S) (g : S.good) (a : Nat) (n : Int) :
    Calls Try.prog 47 #[.pointer (some ⟨q, 0, none⟩), .agg #[.int .u32 (a : Int), .int .i64 n]] w (R47 fun x1 x2 x3 x4 x5 x6 ok w' => (x1 = ((S.get (a, n)).pf.1 : Int) ∧ x2 = (S.get (a, n)).pf.2 ∧ x3 = (S.get (a, n)).direct ∧ x4 = (S.get (a, n)).link ∧ x5 = ((S.get (a, n)).next : Int) ∧ x6 = (S.get (a, n)).cost) ∧ ok = (tget S.L (a, n)).isSome ∧ Keeps [] w w') := by
  obtain ⟨hE, hqE, s, Q, rd, hs⟩ := R
  have hsl := rows_len wy6 (by omega) rd
  have hal := S.all_len
  have hfew := g.few
  refine F47_ok (M.new_blk fun b2 w1 hb2 B k1 => M.new_blk fun b4 w2 hb4 C k2 => ?_)
  have hb2l := B.lt
  have k02 := k1.trans k2 (by simp)
  refine M.loop1_by (fun x w' => ∃ i : Nat, x = i ∧ i ≤ S.all.length ∧ Keeps [] w2 w' ∧ ∀ (m : Nat) (y : Wy), m < i → S.all[m]? = some y → y.pf ≠ (a, n)) (fun x _ => S.all.length - x.toNat) ⟨0, rfl, by omega, Keeps.refl _ _, fun m y h => by omega⟩ ?_
  rintro x w3 J ⟨i, rfl, hi, k3, hno⟩ hJ
  have k03 := k02.trans k3 (by simp)
  have Q3 := Q.keep k03 (by simp)
  have hs1 := k1.size
  refine ⟨_, rfl, _, Q3.cell 0, M.ite_by (fun c => ?_) (fun c => ?_)⟩
  · have c := of_decide_eq_true c
    have il : i < S.all.length := by omega
    have ei := List.getElem?_eq_getElem il
    generalize S.all[i] = y at *
    have kd := Keeps.drew [] w3
    have k24 := k3.trans kd (by simp)
    have k04 := k03.trans kd (by simp)
    have Q4 := Q3.keep kd (by simp)
    have B4 := (B.keep k2 (by simp)).keep k24 (by simp)
    have C4 := C.keep k24 (by simp)
    have rd4 := rd.keep k04 (by simp)
    obtain ⟨ax, hax⟩ := rd4.some (by omega)
    have e0 := rows_at0 wy6 rd4 hax ei (v := .int .u32 (y.pf.1 : Int)) rfl
    have e1 := rows_at wy6 rd4 hax ei (j := 1) (v := .int .i64 y.pf.2) rfl
    refine M.drew_by ⟨_, rfl, _, Q4.cell 0, ax, hax, by omega, by omega, _, e0, _, e1, _, B4.cell 0, _, B4.cell 1, ?_⟩
    have hkb := key_beq y.pf (a, n)
    try dsimp only
    rw [hkb]
    refine M.ite_by (fun c1 => ?_) (fun c1 => ?_)
    · have c1 : y.pf = (a, n) := by simpa using c1
      obtain ⟨v, h1, h2, h3, h4⟩ := IS.all_at g ei
      rw [c1] at h2 h3
      have hget : S.get (a, n) = y := by unfold IS.get; rw [if_pos h2, h3]
      refine ⟨_, rfl, _, Q4.cell 0, ax, hax, by omega, by omega, _, _, _, _, _, _, rows_cs wy6 rd4 hax ei, M.stA_blk C4 rfl fun w5 C5 k5 => ⟨_, _, _, _, _, _, C5.cs 0 _ rfl, ?_, h2.symm, k04.trans k5 (by simp; omega)⟩⟩
      rw [hget]
      exact ⟨rfl, rfl, rfl, rfl, rfl, rfl⟩
    · have c1 : y.pf ≠ (a, n) := by simpa using c1
      rw [w64 (by omega) (by omega)]
      refine hJ _ _ ⟨i + 1, by omega, by omega, k24, fun m z hm hz => ?_⟩ (by omega)
      by_cases hmi : m = i
      · subst hmi; rw [ei] at hz; cases hz; exact c1
      · exact hno m z (by omega) hz
  · have c := of_decide_eq_false c
    have hil : i = S.all.length := by omega
    subst hil
    have hn : (tget S.L (a, n)).isSome = false := by
      cases hh : (tget S.L (a, n)).isSome with
      | false => rfl
      | true =>
        obtain ⟨z, hz, he⟩ := tget_isSome.1 hh
        obtain ⟨m, hm, hme⟩ := List.getElem_of_mem hz
        have h1 : S.all[m]? = some (S.h z.1) := by simp [IS.all, hm, hme]
        have := hno m _ (by omega) h1
        rw [he] at this
        exact absurd (g.ok _ hh).1 this
    have hget : S.get (a, n) = Wy.zero := by unfold IS.get; rw [hn]; rfl
    refine M.stA_blk (C.keep k3 (by simp)) rfl fun w5 C5 k5 => ⟨_, _, _, _, _, _, C5.cs 0 _ rfl, ?_, hn.symm, k03.trans k5 (by simp; omega)⟩
    rw [hget]
    exact ⟨rfl, rfl, rfl, rfl, rfl, rfl⟩
theorem IS.cut_none {S : IS} {k : Key} (h : (tget S.L k).isSome = false) : S.cut k = S := by
  unfold IS.cut
  rw [Go.Sp.tcut_none (by cases hh : tget S.L k <;> simp [hh] at h ⊢)]
theorem IS.cut_all {S : IS} (g : S.good) {i : Nat} {y : Wy} (h : S.all[i]? = some y) : (S.cut y.pf).all = S.all.take i ++ S.all.drop (i + 1) := by
  obtain ⟨v, h1, _⟩ := IS.all_at g h
  unfold IS.cut IS.all
  rw [tcut_del g.tab.sorted h1, List.map_append, List.map_take, List.map_drop]
theorem rcut_c {w : World} {E : List Nat} {q : Nat} {S : IS} (R : RAt w E q S) (g : S.good) (a : Nat) (n : Int) :
    Calls Try.prog 48 #[.pointer (some ⟨q, 0, none⟩), .agg #[.int .u32 (a : Int), .int .i64 n]] w (R48 fun r w' => r = (tget S.L (a, n)).isSome ∧ ∃ E', RAt w' E' q (S.cut (a, n)) ∧ Keeps E w w' ∧ From E w E') := by
  have R0 := R
  obtain ⟨hE, hqE, s, Q, rd, hs⟩ := R
  have hsl := rows_len wy6 (by omega) rd
  have hal := S.all_len
  have hfew := g.few
  refine F48_ok (M.new_blk fun b2 w2 hb2 B k02 => ?_)
  refine M.loop1_by (fun x w' => ∃ i : Nat, x = i ∧ i ≤ S.all.length ∧ Keeps [] w2 w' ∧ ∀ (m : Nat) (y : Wy), m < i → S.all[m]? = some y → y.pf ≠ (a, n)) (fun x _ => S.all.length - x.toNat) ⟨0, rfl, by omega, Keeps.refl _ _, fun m y h => by omega⟩ ?_
  rintro x w3 J ⟨i, rfl, hi, k3, hno⟩ hJ
  have k03 := k02.trans k3 (by simp)
  have Q3 := Q.keep k03 (by simp)
  refine ⟨_, rfl, _, Q3.cell 0, M.ite_by (fun c => ?_) (fun c => ?_)⟩
  · have c := of_decide_eq_true c
    have il : i < S.all.length := by omega
    have ei := List.getElem?_eq_getElem il
    have hcut : ∀ y, S.all[i]? = some y → (S.cut y.pf).all = S.all.take i ++ S.all.drop (i + 1) := fun y h => IS.cut_all g h
    generalize S.all[i] = y at *
    have kd := Keeps.drew [] w3
    have k24 := k3.trans kd (by simp)
    have k04 := k03.trans kd (by simp)
    have Q4 := Q3.keep kd (by simp)
    have B4 := B.keep k24 (by simp)
    have rd4 := rd.keep k04 (by simp)
    obtain ⟨ax, hax⟩ := rd4.some (by omega)
    have e0 := rows_at0 wy6 rd4 hax ei (v := .int .u32 (y.pf.1 : Int)) rfl
    have e1 := rows_at wy6 rd4 hax ei (j := 1) (v := .int .i64 y.pf.2) rfl
    refine M.drew_by ⟨_, rfl, _, Q4.cell 0, ax, hax, by omega, by omega, _, e0, _, e1, _, B4.cell 0, _, B4.cell 1, ?_⟩
    have hkb := key_beq y.pf (a, n)
    try dsimp only
    rw [hkb]
    refine M.ite_by (fun c1 => ?_) (fun c1 => ?_)
    · have c1 : y.pf = (a, n) := by simpa using c1
      obtain ⟨v, h1, h2, h3, h4⟩ := IS.all_at g ei
      have hcut := hcut y ei
      rw [c1] at h2 h3 hcut
      have hcap := rd4.cap
      have kd5 := Keeps.drew [] w3.drew
      have k05 := k04.trans kd5 (by simp)
      have Q5 := Q4.keep kd5 (by simp)
      have rd5 := rd4.keep kd5 (by simp)
      refine M.drew_by ?_
      generalize w3.drew.drew = w5 at *
      have ew : IntKind.i64.wrap ((i : Int) + 1) = ((i + 1 : Nat) : Int) := by rw [w64 (by omega) (by omega)]; omega
      rw [ew]
      refine ⟨_, rfl, _, rfl, _, Q5.cell 0, by omega, by omega, by omega, _, Q5.cell 0, by omega, by omega, by omega, ?_⟩
      rw [show Int.toNat 0 = 0 from rfl, Int.toNat_natCast, Int.toNat_natCast, Int.toNat_natCast]
      have x1 : Rd 6 w5 (s.sub 0 i 6) ((S.all.take i).flatMap Wy.cells) := rows_sub wy6 (by omega) rd5 (by omega)
      have x2 : Rd 6 w5 (s.sub (i + 1) s.len 6) ((S.all.drop (i + 1)).flatMap Wy.cells) := by
        have := rd5.sub (l := i + 1) (u := s.len) (by omega) (Nat.le_refl _)
        rw [fm_drop wy6, List.take_of_length_le (by rw [fm_len wy6, List.length_drop, hsl]; exact Nat.le_refl _)] at this
        exact this
      have hxl1 : (s.sub 0 i 6).len = i := by have := rows_len wy6 (by omega) x1; rw [List.length_take] at this; omega
      have hxl2 : (s.sub (i + 1) s.len 6).len = S.all.length - (i + 1) := by have := rows_len wy6 (by omega) x2; rw [List.length_drop] at this; omega
      refine new0_k (sz := 6) k05 fun b6 w6 g1 g2 fb o6 k6 k06 => ?_
      have Q6 := Q5.keep k6 (by simp)
      refine ⟨Q6.cell 0, Q6.cell 0, app_k waySl wayEl k06 fb o6 (x1.keep k6 (by simp)) (wy_one _) (by simp; omega) fun r7 w7 o7 n7 f7 k67 k07 => ?_⟩
      have Q7 := Q.keep k07 (by simp)
      have rd7 := rd.keep k07 (by simp)
      have x2' : Rd 6 w7 (s.sub (i + 1) s.len 6) ((S.all.drop (i + 1)).flatMap Wy.cells) := by
        have := rd7.sub (l := i + 1) (u := s.len) (by omega) (Nat.le_refl _)
        rw [fm_drop wy6, List.take_of_length_le (by rw [fm_len wy6, List.length_drop, hsl]; exact Nat.le_refl _)] at this
        exact this
      have n7' : r7.len = i := by rw [n7, hxl1]; simp
      refine ⟨Q7.cell 0, app_k waySl wayEl k07 f7 o7 x2' (wy_one _) (by omega) fun r8 w8 o8 n8 f8 k78 k08 => ⟨_, rfl, M.st_blk0 (Q.keep k08 (by simp)) fun w9 Q9 k9 => ?_⟩⟩
      have hs08 := k08.size
      have o8' : Own 32 6 w8 r8 ((S.cut (a, n)).all.flatMap Wy.cells) := by
        rw [hcut, List.flatMap_append]; simpa using o8
      have hql := Q.lt
      refine ⟨h2.symm, q :: r8.blk ++ E, ⟨?_, by simp, r8, Q9, (o8'.keep k9 ?_).rd, ?_⟩, ?_, ?_⟩
      · intro x hx
        simp only [List.mem_append, List.mem_cons] at hx
        rcases hx with (rfl | hx) | hx
        · exact Q9.lt
        · have := o8'.lt x hx; have := k9.size; omega
        · have := hE x hx; have := k9.size; omega
      · intro x hx h
        simp at h; subst h
        have := f8 _ hx; omega
      · intro x hx
        refine ⟨by simp [hx], fun h => ?_⟩
        subst h
        have := f8 _ hx; omega
      · exact k08.up.trans k9 (fun x hx => by simp at hx; subst hx; exact .inl hqE)
      · intro x hx
        simp only [List.mem_append, List.mem_cons] at hx
        rcases hx with (rfl | hx) | hx
        · exact .inl hqE
        · exact .inr (f8 x hx)
        · exact .inl hx
    · have c1 : y.pf ≠ (a, n) := by simpa using c1
      rw [w64 (by omega) (by omega)]
      refine hJ _ _ ⟨i + 1, by omega, by omega, k24, fun m z hm hz => ?_⟩ (by omega)
      by_cases hmi : m = i
      · subst hmi; rw [ei] at hz; cases hz; exact c1
      · exact hno m z (by omega) hz
  · have c := of_decide_eq_false c
    have hil : i = S.all.length := by omega
    subst hil
    have hn : (tget S.L (a, n)).isSome = false := by
      cases hh : (tget S.L (a, n)).isSome with
      | false => rfl
      | true =>
        obtain ⟨z, hz, he⟩ := tget_isSome.1 hh
        obtain ⟨m, hm, hme⟩ := List.getElem_of_mem hz
        have h1 : S.all[m]? = some (S.h z.1) := by simp [IS.all, hm, hme]
        have := hno m _ (by omega) h1
        rw [he] at this
        exact absurd (g.ok _ hh).1 this
    rw [IS.cut_none hn]
    exact ⟨hn.symm, E, R0.keep k03 (by simp), k03.up, From.refl _ _⟩
end Go.Proofs.Ytecegjimdohmeaa
