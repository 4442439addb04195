/-
  The document's table of ways: Put and Match.
-/
import Derived.Test.YtecegjimdohmeaaIgpR
namespace Go.Proofs.Ytecegjimdohmeaa
set_option linter.unusedVariables false
set_option linter.unusedSimpArgs false
open Go.Sp

theorem IS.good.cut {S : IS} (g : S.good) (k : Key) : (S.cut k).good where
  tab := g.tab.cut k
  few := Nat.le_trans (List.length_filter_le _ _) g.few
  ok := fun k' h => by
    have h : (tget (tcut S.L k) k').isSome = true := h
    rw [tget_tcut] at h
    split at h
    · cases h
    · exact g.ok k' h
theorem right_pf {x : Wy} (h : rightW x = true) : rightP x.pf.1 x.pf.2 = true := by
  unfold rightW at h
  simp only [Bool.and_eq_true] at h
  exact h.1.1
theorem IS.good.set {S : IS} (g : S.good) {x : Wy} (hr : rightW x = true) (ht : x.ty) (hl : (S.set x).L.length ≤ 64) : (S.set x).good where
  tab := g.tab.put ⟨ht.1, right_pf hr⟩ 0
  few := hl
  ok := fun k h => by
    have h : (tget (tput S.L x.pf 0) k).isSome = true := h
    rw [tget_tput] at h
    show (if k = x.pf then x.fix else S.h k).pf = k ∧ okW (if k = x.pf then x.fix else S.h k)
    by_cases hk : k = x.pf
    · rw [if_pos hk, hk]; exact ⟨rfl, Wy.fix_ok hr ht⟩
    · rw [if_neg hk]
      rw [if_neg (fun e => hk e.symm)] at h
      exact g.ok k h
theorem IS.set_all {S : IS} (g : S.good) {x : Wy} (hr : rightW x = true) (ht : x.ty) {j : Nat} (h1 : ∀ (m : Nat) (y : Wy), m < j → (S.cut x.pf).all[m]? = some y → kLt y.pf x.pf) (h2 : ∀ y, (S.cut x.pf).all[j]? = some y → ¬ kLt y.pf x.pf) (hj : j ≤ (S.cut x.pf).all.length) :
    (S.set x).all = (S.cut x.pf).all.take j ++ x.fix :: (S.cut x.pf).all.drop j := by
  have g1 := g.cut x.pf
  have hn : tget (tcut S.L x.pf) x.pf = none := by rw [tget_tcut, if_pos rfl]
  have hx := ht.1
  have e1 : tput S.L x.pf 0 = tput (tcut S.L x.pf) x.pf 0 := tab_ext (g.tab.put ⟨hx, right_pf hr⟩ 0) (g1.tab.put ⟨hx, right_pf hr⟩ 0) (fun k => by
    rw [tget_tput, tget_tput, tget_tcut]
    split <;> rfl)
  have hat : ∀ (m : Nat) (z : Key × Int), (tcut S.L x.pf)[m]? = some z → (S.cut x.pf).all[m]? = some (S.h z.1) ∧ (S.h z.1).pf = z.1 := fun m z hz => by
    refine ⟨by show ((tcut S.L x.pf).map fun z => S.h z.1)[m]? = _; rw [List.getElem?_map, hz]; rfl, ?_⟩
    exact (g1.ok z.1 (tget_isSome.2 ⟨z, List.mem_of_getElem? hz, rfl⟩)).1
  have e2 := tput_ins (L := tcut S.L x.pf) (k := x.pf) 0 hn (j := j) (fun m z hm hz => by
    obtain ⟨a1, a2⟩ := hat m z hz
    have := h1 m _ hm a1
    rw [a2] at this; exact this) (fun z hz => by
    obtain ⟨a1, a2⟩ := hat j z hz
    have := h2 _ a1
    rw [a2] at this; exact this) (by rw [IS.all_len] at hj; exact hj)
  show (tput S.L x.pf 0).map (fun z => if z.1 = x.pf then x.fix else S.h z.1) = _
  rw [e1, e2, List.map_append, List.map_cons, if_pos rfl]
  have hm : ∀ l : Tbl, (∀ z ∈ l, z ∈ tcut S.L x.pf) → l.map (fun z => if z.1 = x.pf then x.fix else S.h z.1) = l.map fun z => S.h z.1 := by
    intro l hl
    apply List.map_congr_left
    intro z hz
    have := tget_none.1 hn z (hl z hz)
    rw [if_neg this]
  rw [hm _ (fun z hz => List.mem_of_mem_take hz), hm _ (fun z hz => List.mem_of_mem_drop hz), List.map_take, List.map_drop]
  rfl
theorem rput_c {w : World} {E : List Nat} {q : Nat} {S : IS} (R : RAt w E q S) (g : S.good) {x : Wy} (hx : x.ty) :
    Calls Try.prog 29 #[.pointer (some ⟨q, 0, none⟩), x.agg] w (R29 fun a e w' => a = (S.put x).1 ∧ e = (S.put x).2.1 ∧ ∃ E', RAt w' E' q (S.put x).2.2 ∧ Keeps E w w' ∧ From E w E') := by
  have R0 := R
  have hE := R.1
  refine F29_ok (M.new_blk fun b2 w1 hb2 B k1 => ⟨_, _, _, _, _, _, B.cs 0 _ rfl, (rright15_c hx.1).mono fun e w2 h => ?_⟩)
  obtain ⟨r2, rfl, rfl, k2⟩ := h
  have k02 := k1.trans k2 (by simp)
  have B2 := B.keep k2 (by simp)
  have hb2l := B.lt
  unfold IS.put
  refine ⟨_, rfl, M.ite_by (fun c => ?_) (fun c => ?_)⟩
  · have c : rightW x = false := by simpa using c
    rw [c]
    exact ⟨rfl, rfl, E, R0.keep k02 (by simp), k02.up, From.refl _ _⟩
  have cR : rightW x = true := by simpa using c
  rw [cR, if_pos rfl]
  refine ⟨_, B2.cell 5, (rclean_c x.cost).mono fun e w3 h => ?_⟩
  obtain ⟨r3, rfl, rfl, rfl⟩ := h
  refine ⟨_, rfl, M.st_blk B2 (by simp) fun w4 B4 k4 => ?_⟩
  have B4 : Blk w4 b2 32 x.fix.cells := B4
  have k04 : Keeps [] w w4 := k02.trans k4 (by simp; omega)
  refine ⟨_, B4.cell 0, _, B4.cell 1, (rget_c (R.keep k04 (by simp)) g x.pf.1 x.pf.2).mono fun e w5 h => ?_⟩
  obtain ⟨x1, x2, x3, x4, x5, x6, ok, rfl, ⟨rfl, rfl, rfl, rfl, rfl, rfl⟩, rfl, k5⟩ := h
  rw [show ((x.pf.1, x.pf.2) : Key) = x.pf from rfl]
  refine ⟨_, _, _, _, _, _, _, rfl, M.new_blk fun b6 w6 hb6 C k6 => M.stA_blk C rfl fun w7 C7 k7 => ?_⟩
  have C7 : Blk w7 b6 32 (S.get x.pf).cells := C7
  have k57 : Keeps [] w5 w7 := k6.trans k7 (by simp; omega)
  have k07 := (k04.trans k5 (by simp)).trans k57 (by simp)
  have B7 := (B4.keep k5 (by simp)).keep k57 (by simp)
  have R7 := R.keep k07 (by simp)
  have hs4 := k04.size
  have hs5 := k5.size
  have hb6l := C.lt
  have hb4l := B4.lt
  refine M.join_by (fun J => J ((tget S.L x.pf).isNone && decide (64 ≤ S.L.length)) w7) ?_ fun J hJ => ?_
  rotate_left
  · refine M.ite_by (fun c1 => ?_) (fun c1 => ?_)
    · have c1 : (tget S.L x.pf).isNone = true := by cases h : tget S.L x.pf <;> simp [h] at c1 ⊢
      rw [c1, Bool.true_and] at hJ
      obtain ⟨_, _, s, Q, rd, _⟩ := R7
      have hsl := rows_len wy6 (by omega) rd
      refine ⟨_, rfl, _, Q.cell 0, ?_⟩
      dsimp only
      rw [show decide ((64 : Int) ≤ (s.len : Int)) = decide (64 ≤ S.L.length) by apply decide_eq_decide.2; rw [hsl, IS.all_len]; omega]
      exact hJ
    · have c1 : (tget S.L x.pf).isNone = false := by cases h : tget S.L x.pf <;> simp [h] at c1 ⊢
      rw [c1, Bool.false_and] at hJ
      exact hJ
  refine M.ite_by (fun c1 => ?_) (fun c1 => ?_)
  · rw [if_pos c1]
    exact ⟨rfl, rfl, E, R7, k07.up, From.refl _ _⟩
  have c1' : ((tget S.L x.pf).isNone && decide (64 ≤ S.L.length)) = false := c1
  rw [c1', if_neg (by simp)]
  refine ⟨_, B7.cell 0, _, B7.cell 1, (rcut_c R7 g x.pf.1 x.pf.2).mono fun e w8 h => ?_⟩
  obtain ⟨r8, rfl, -, E1, R8, k8, f8⟩ := h
  rw [show ((x.pf.1, x.pf.2) : Key) = x.pf from rfl] at R8
  have g1 := g.cut x.pf
  have hs7 := k07.size
  have hs8 := k8.size
  have hb2E : b2 ∉ E := fun h => by have := hE _ h; omega
  have hb6E : b6 ∉ E := fun h => by have := hE _ h; omega
  have hE1 : ∀ y ∈ E1, y ∈ E ∨ w7.heap.size ≤ y := f8
  have hb27 : b2 < w7.heap.size := B7.lt
  have hb67 : b6 < w7.heap.size := C7.lt
  have hb2E1 : b2 ∉ E1 := fun h => by
    rcases hE1 _ h with h | h
    · exact hb2E h
    · omega
  have hb6E1 : b6 ∉ E1 := fun h => by
    rcases hE1 _ h with h | h
    · exact hb6E h
    · omega
  have B8 := B7.keep k8 hb2E
  have C8 := C7.keep k8 hb6E
  have k08 : Keeps E w w8 := k07.up.trans k8 (fun y hy => .inl hy)
  have hal1 := (S.cut x.pf).all_len
  have hfew1 := g1.few
  refine ⟨_, rfl, M.loop1_by (fun z w' => ∃ j : Nat, z = j ∧ j ≤ (S.cut x.pf).all.length ∧ Keeps [] w8 w' ∧ ∀ (m : Nat) (y : Wy), m < j → (S.cut x.pf).all[m]? = some y → kLt y.pf x.pf) (fun z _ => (S.cut x.pf).all.length - z.toNat) ⟨0, rfl, by omega, Keeps.refl _ _, fun m y h => by omega⟩ ?_⟩
  rintro z w9 J ⟨j, rfl, hj, k9, hlt⟩ hJ
  have R9 := R8.keep k9 (by simp)
  have kd9 := Keeps.drew [] w9
  have k8d := k9.trans kd9 (by simp)
  have R9d := R9.keep kd9 (by simp)
  refine M.join_by (fun (J2 : Bool → World → Prop) => ∀ w', Keeps [] w8 w' → (∀ b : Bool, (b = true → j < (S.cut x.pf).all.length ∧ ∀ y, (S.cut x.pf).all[j]? = some y → kLt y.pf x.pf) → (b = false → ∀ y, (S.cut x.pf).all[j]? = some y → ¬ kLt y.pf x.pf) → J2 b w')) (fun w10 k10 b hbt hbf => ?_) fun J2 hJ2 => M.drew_by ?_
  rotate_left
  · obtain ⟨_, _, s, Q, rd, _⟩ := R9d
    have hsl := rows_len wy6 (by omega) rd
    refine ⟨_, rfl, _, Q.cell 0, M.ite_by (fun c2 => ?_) (fun c2 => ?_)⟩
    · have c2 := of_decide_eq_true c2
      have jl : j < (S.cut x.pf).all.length := by omega
      have ej := List.getElem?_eq_getElem jl
      obtain ⟨_, _, _, _, hoj⟩ := IS.all_at g1 ej
      generalize (S.cut x.pf).all[j] = y at *
      obtain ⟨a, ha⟩ := rd.some (by omega)
      have e0 := rows_at0 wy6 rd ha ej (v := .int .u32 (y.pf.1 : Int)) rfl
      have e1 := rows_at wy6 rd ha ej (j := 1) (v := .int .i64 y.pf.2) rfl
      have B9 := (B8.keep k8d (by simp))
      refine ⟨_, rfl, _, Q.cell 0, a, ha, by omega, by omega, _, e0, _, e1, _, B9.cell 0, _, B9.cell 1, (less_c (p := y.pf) (q := x.pf) ⟨hoj.ty.1, right_pf hoj.right⟩ ⟨hx.1, right_pf cR⟩).mono fun e w10 h => ?_⟩
      obtain ⟨r10, rfl, rfl, k10⟩ := h
      refine ⟨_, rfl, hJ2 _ (k8d.trans k10 (by simp)) _ (fun h => ⟨jl, fun z hz => ?_⟩) (fun h z hz => ?_)⟩
      · rw [ej] at hz; cases hz; exact of_decide_eq_true h
      · rw [ej] at hz; cases hz; exact of_decide_eq_false h
    · have c2 := of_decide_eq_false c2
      refine hJ2 _ k8d _ (fun h => by cases h) (fun _ z hz => ?_)
      rw [List.getElem?_eq_none (by omega)] at hz; cases hz
  cases b with
  | true =>
    obtain ⟨jl, hj2⟩ := hbt rfl
    refine M.ite_tt ?_
    rw [w64 (by omega) (by omega)]
    refine hJ _ _ ⟨j + 1, by omega, by omega, k10, fun m y hm hy => ?_⟩ (by omega)
    by_cases hmj : m = j
    · subst hmj; exact hj2 y hy
    · exact hlt m y (by omega) hy
  | false =>
    have hset := IS.set_all g cR hx hlt (hbf rfl) hj
    refine M.ite_ff ?_
    have R10 := R8.keep k10 (by simp)
    have B10 := B8.keep k10 (by simp)
    have C10 := C8.keep k10 (by simp)
    refine M.join_by (fun (J3 : World → Prop) => ∀ w' E', RAt w' E' q (S.set x) → Keeps E1 w10 w' → From E1 w10 E' → J3 w') (fun w11 E' R11 k11 f11 => ?_) fun J3 hJ3 => M.drew_by ?_
    · have B11 := B10.keep k11 hb2E1
      have C11 := C10.keep k11 hb6E1
      have k011 : Keeps E w w11 := (k08.trans k10 (by simp)).trans k11 (fun y hy => by
        rcases hE1 y hy with h | h
        · exact .inl h
        · right; omega)
      have hfr : From E w E' := fun y hy => by
        rcases f11 y hy with h | h
        · rcases hE1 y h with h | h
          · exact .inl h
          · right; omega
        · right; have := k10.size; omega
      refine M.join_by (fun (J : Bool → Int → World → Prop) => ∀ w', Keeps [] w11 w' → J (!((tget S.L x.pf).isSome && sameW (S.h x.pf) x.fix)) 0 w') (fun w13 k13 => ⟨rfl, rfl, E', R11.keep k13 (by simp), k011.trans k13 (by simp), hfr⟩) fun J hJ => ?_
      cases hsm : (tget S.L x.pf).isSome with
      | false =>
        rw [hsm] at hJ
        exact M.ite_tt (hJ _ (Keeps.refl _ _))
      | true =>
        rw [hsm] at hJ
        have hgt : S.get x.pf = S.h x.pf := by unfold IS.get; rw [if_pos hsm]
        rw [hgt] at C11
        refine M.ite_ff ⟨_, _, _, _, _, _, C11.cs 0 _ rfl, _, _, _, _, _, _, B11.cs 0 _ rfl, (rsame15_c (S.h x.pf) x.fix).mono fun e w13 h => ?_⟩
        obtain ⟨r13, rfl, rfl, k13⟩ := h
        exact ⟨_, rfl, hJ _ k13⟩
    · have kd := Keeps.drew [] w10
      have R10d := R10.keep kd (by simp)
      have B10d := B10.keep kd (by simp)
      have hkd := kd
      generalize w10.drew = w11 at *
      obtain ⟨hE1l, hqE1, s, Q, rd, hsb⟩ := R10d
      have hsl := rows_len wy6 (by omega) rd
      have hcap := rd.cap
      have hb2w : b2 < w11.heap.size := B10d.lt
      have x1 : ∀ w', Keeps [] w11 w' → Rd 6 w' (s.sub 0 j 6) (((S.cut x.pf).all.take j).flatMap Wy.cells) := fun w' k' => rows_sub wy6 (by omega) (rd.keep k' (by simp)) (by omega)
      have x2 : ∀ w', Keeps [] w11 w' → Rd 6 w' (s.sub j s.len 6) (((S.cut x.pf).all.drop j).flatMap Wy.cells) := fun w' k' => by
        have := (rd.keep k' (by simp)).sub (l := j) (u := s.len) (by omega) (Nat.le_refl _)
        rw [fm_drop wy6, List.take_of_length_le (by rw [fm_len wy6, List.length_drop, hsl]; exact Nat.le_refl _)] at this
        exact this
      have hxl1 : (s.sub 0 j 6).len = j := by have := rows_len wy6 (by omega) (x1 _ (Keeps.refl _ _)); rw [List.length_take] at this; omega
      have hxl2 : (s.sub j s.len 6).len = (S.cut x.pf).all.length - j := by have := rows_len wy6 (by omega) (x2 _ (Keeps.refl _ _)); rw [List.length_drop] at this; omega
      have hfin : ∀ (r : SV) (w' : World), Own 32 6 w' r (((S.cut x.pf).all.take j).flatMap Wy.cells ++ x.fix.cells ++ ((S.cut x.pf).all.drop j).flatMap Wy.cells) → (∀ y ∈ r.blk, w11.heap.size ≤ y) → Keeps [] w11 w' → M.nil (some ⟨q, 0, none⟩) fun a => M.st a r.v w' fun w'' => J3 w'' := by
        intro r w' o f k
        have Q' := Q.keep k (by simp)
        have hql := Q.lt
        refine ⟨_, rfl, M.st_blk0 Q' fun w12 Q12 k12 => hJ3 w12 (q :: r.blk ++ E1) ⟨?_, by simp, r, Q12, ?_, ?_⟩ ?_ ?_⟩
        · intro y hy
          simp only [List.mem_append, List.mem_cons] at hy
          rcases hy with (rfl | hy) | hy
          · exact Q12.lt
          · have := o.lt y hy; have := k12.size; omega
          · have := hE1l y hy; have := k12.size; have := k.size; omega
        · have o2 := o.rd.keep k12 (fun y hy h => by simp at h; subst h; have := f _ hy; omega)
          rw [hset, List.flatMap_append, List.flatMap_cons]
          simpa using o2
        · intro y hy
          refine ⟨by simp [hy], fun h => ?_⟩
          subst h
          have := f _ hy; omega
        · exact (hkd.trans k (by simp)).up.trans k12 (fun y hy => by simp at hy; subst hy; exact .inl hqE1)
        · intro y hy
          simp only [List.mem_append, List.mem_cons] at hy
          have hh := hkd.size
          rcases hy with (rfl | hy) | hy
          · exact .inl hqE1
          · right; have := f y hy; omega
          · exact .inl hy
      have hone := wy_one [x.fix]
      have hone : ∀ u ∈ x.fix.cells, u.oneCell' = true := by simpa using hone
      refine ⟨_, rfl, _, rfl, _, Q.cell 0, by omega, by omega, by omega, _, _, _, _, _, _, B10d.cs 0 _ rfl, _, Q.cell 0, by omega, by omega, by omega, ?_⟩
      rw [show Int.toNat 0 = 0 from rfl, Int.toNat_natCast, Int.toNat_natCast]
      refine ⟨?_, ?_⟩
      · refine new0_k (sz := 6) (Keeps.refl _ _) fun b12 w12 g1 g2 f12 o12 k12 k012 => ?_
        have Q12 := Q.keep k12 (by simp)
        have B12 := B10d.keep k12 (by simp)
        refine ⟨Q12.cell 0, B12.cs 0 _ rfl, Q12.cell 0, ?_, ?_⟩
        · refine app_k waySl wayEl k012 f12 o12 (x1 _ k012) (wy_one _) (by simp; omega) fun r13 w13 o13 n13 f13 k1213 k013 => ?_
          have Q13 := Q.keep k013 (by simp)
          have B13 := B10d.keep k013 (by simp)
          have n13' : r13.len = j := by rw [n13, hxl1]; simp
          refine ⟨Q13.cell 0, B13.cs 0 _ rfl, new1_k (cs := x.fix.cells) (sz := 6) rfl k013 fun b14 w14 g1 g2 x14 k14 k014 => ?_⟩
          have Q14 := Q.keep k014 (by simp)
          refine ⟨Q14.cell 0, Q14.cell 0, app_k waySl wayEl k014 f13 (o13.keep k14 (by simp)) x14 hone (by simp; omega) fun r15 w15 o15 n15 f15 _ k015 => ?_⟩
          have Q15 := Q.keep k015 (by simp)
          refine ⟨Q15.cell 0, app_k waySl wayEl k015 f15 o15 (x2 _ k015) (wy_one _) (by simp only [] at n15; omega) fun r16 w16 o16 n16 f16 _ k016 => hfin r16 w16 (by simpa using o16) f16 k016⟩
        · refine new1_k (cs := x.fix.cells) (sz := 6) rfl k012 fun b14 w14 g1 g2 x14 k14 k014 => ?_
          have Q14 := Q.keep k014 (by simp)
          refine ⟨Q14.cell 0, Q14.cell 0, app_k waySl wayEl k014 f12 (o12.keep k14 (by simp)) (x1 _ k014) (wy_one _) (by simp; omega) fun r13 w13 o13 n13 f13 k1213 k013 => ?_⟩
          have Q13 := Q.keep k013 (by simp)
          have B13 := B10d.keep k013 (by simp)
          have n13' : r13.len = j := by rw [n13, hxl1]; simp
          have x14' := x14.keep k1213 (by simp [SV.blk]; omega)
          refine ⟨Q13.cell 0, B13.cs 0 _ rfl, app_k waySl wayEl k013 f13 o13 x14' hone (by simp; omega) fun r15 w15 o15 n15 f15 _ k015 => ?_⟩
          have Q15 := Q.keep k015 (by simp)
          refine ⟨Q15.cell 0, app_k waySl wayEl k015 f15 o15 (x2 _ k015) (wy_one _) (by simp only [] at n15; omega) fun r16 w16 o16 n16 f16 _ k016 => hfin r16 w16 (by simpa using o16) f16 k016⟩
      · refine new1_k (cs := x.fix.cells) (sz := 6) rfl (Keeps.refl _ _) fun b14 w14 g1 g2 x14 k14 k014 => ?_
        have Q14 := Q.keep k014 (by simp)
        refine ⟨Q14.cell 0, Q14.cell 0, new0_k (sz := 6) k014 fun b12 w12 g3 g4 f12 o12 k12 k012 => ?_⟩
        have Q12 := Q.keep k012 (by simp)
        have B12 := B10d.keep k012 (by simp)
        refine ⟨Q12.cell 0, B12.cs 0 _ rfl, Q12.cell 0, app_k waySl wayEl k012 f12 o12 (x1 _ k012) (wy_one _) (by simp; omega) fun r13 w13 o13 n13 f13 k1213 k013 => ?_⟩
        have Q13 := Q.keep k013 (by simp)
        have B13 := B10d.keep k013 (by simp)
        have n13' : r13.len = j := by rw [n13, hxl1]; simp
        have x14' := (x14.keep k12 (by simp)).keep k1213 (by simp [SV.blk]; omega)
        refine ⟨Q13.cell 0, B13.cs 0 _ rfl, app_k waySl wayEl k013 f13 o13 x14' hone (by simp; omega) fun r15 w15 o15 n15 f15 _ k015 => ?_⟩
        have Q15 := Q.keep k015 (by simp)
        refine ⟨Q15.cell 0, app_k waySl wayEl k015 f15 o15 (x2 _ k015) (wy_one _) (by simp only [] at n15; omega) fun r16 w16 o16 n16 f16 _ k016 => hfin r16 w16 (by simpa using o16) f16 k016⟩
end Go.Proofs.Ytecegjimdohmeaa
