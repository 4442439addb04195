/-
  AspathSets: a Set counts as one however many it has; a path of Sets alone has no first AS.
-/
import Derived.Test.YtflffabmfoldeaaAspL
import Derived.Test.YtflffabmfoldeaaSpArg
namespace Go.Proofs.Ytflffabmfoldeaa
set_option linter.unusedVariables false
set_option linter.unusedSimpArgs false
open Go.Sp
open Go.RowKit (Below)

/-- One number more. -/
theorem app_u {n : Nat} {w0 w : World} {s : SV} {l : List Int} (x : Int) {K : SV → World → Prop} (k : Keeps [] w0 w) (hn : n ≤ w.heap.size) (hn0 : w0.heap.size ≤ n) (hf : ∀ y ∈ s.blk, n ≤ y) (ho : Own 23 1 w s (uval l)) (hb : l.length ≤ 1000000) (h : ∀ r w', Own 23 1 w' r (uval (l ++ [x])) → (∀ y ∈ r.blk, n ≤ y) → (∀ y ∈ r.blk, y ∈ s.blk ∨ w.heap.size ≤ y) → Keeps s.blk w w' → Keeps [] w0 w' → K r w') :
    M.new (.cells #[Value.int .u32 x] 23) w fun b w' => M.app Try.prog 25 25 25 s (SV.v (SV.mk (some b) 1 1)) w' K := by
  have hl := uval_len ho.rd
  refine M.new_by ?_
  have ka := Keeps.alloc [] w (.cells #[Value.int .u32 x] 23)
  have hr := (Own.new w 23 1 1 (uval [x]) rfl (by decide)).rd
  obtain ⟨r, w', v1, v2, v3, v4, v5⟩ := app_own (P := Try.prog) (ty := 25) insuSl insuEl (ho.keep ka (by simp)) (x := ⟨some ⟨w.heap.size, 0, none⟩, 1, 1⟩) (news := uval [x]) hr (uval_one _) (by simp; omega)
  have h1 : (w.alloc (.cells #[Value.int .u32 x] 23)).heap.size = w.heap.size + 1 := by simp
  refine ⟨r, w', v1, h r w' (by rw [show uval (l ++ [x]) = uval l ++ uval [x] by simp [uval]]; exact v2) (fun y hy => ?_) (fun y hy => ?_) (ka.up.and v4) ((k.trans ka (by simp)).trans v4 (fun y hy => .inr (Nat.le_trans hn0 (hf y hy))))⟩
  · rcases v5 y hy with h | h
    · exact hf y h
    · omega
  · rcases v5 y hy with h | h
    · exact .inl h
    · right; omega
/-- A path of Sets alone. -/
def setsP (l : List (Int × List Int)) : Prop := ∀ x ∈ l, x.1 = 1 ∧ 1 ≤ x.2.length ∧ x.2.length ≤ 31
theorem sets_first {l : List (Int × List Int)} (h : setsP l) : firstPt l = (0, false) := by
  match l, h with
  | [], _ => rfl
  | (k, []) :: m, _ => rfl
  | (k, a :: r) :: m, h =>
    have := (h (k, a :: r) (by simp)).1
    have hk : k = 1 := this
    subst hk; rfl
theorem sets_count {l : List (Int × List Int)} (h : setsP l) : countPt l = l.length := by
  induction l with
  | nil => rfl
  | cons x l ih =>
    have h1 := (h x (by simp)).1
    have h2 := ih (fun y hy => h y (by simp [hy]))
    unfold countPt at h2 ⊢
    rw [List.map_cons, List.sum_cons, h2, h1, List.length_cons]
    simp; omega
theorem sets_all {l : List (Int × List Int)} (h : setsP l) : l.all (fun x => okS x.1 x.2.length) = true := by
  rw [List.all_eq_true]
  intro x hx
  obtain ⟨h1, h2, h3⟩ := h x hx
  unfold okS
  rw [h1]
  simp; omega
theorem sets_pre {l : List (Int × List Int)} (h : setsP l) (av : Int) : preN av 1 l = (2, [av]) :: l := by
  show pre1 l av = _
  apply pre1_new
  match l, h with
  | [], _ => rfl
  | (k, a) :: m, h =>
    have hk : k = 1 := (h (k, a) (by simp)).1
    subst hk; rfl
theorem apsets_c {W : World} {s : SV} {l : List Int} {av : Int} (hs : Rd 1 W s (l.map (Value.int .i64))) (hl : l.length = s.len) (hm : s.cap ≤ maxLen) :
    Calls Try.prog 3 #[s.v, .int .u32 av] W (R3 fun r w' => r = true ∧ Below W.heap.size W w') := by
  refine F3_ok (M.loop2_by (fun o x w' => ∃ (i : Nat) (L : List Sg), x = i ∧ i ≤ 16 ∧ i ≤ l.length ∧ L.length = i ∧ OwnP W.heap.size w' o L ∧ setsP (L.map pt) ∧ Keeps [] W w') (fun _ x _ => 16 - x.toNat) ⟨0, [], rfl, by omega, by omega, rfl, OwnP.nil _ _, by simp [setsP], Keeps.refl _ _⟩ ?_)
  rintro o x w1 J ⟨i, L, rfl, hi, hil, hL, hP, hsP, k1⟩ hJ
  have hol := hP.len
  have hol' := hL
  refine M.join_lt (fun hx1 hx2 => ?_) (fun hend => ?_)
  · have il : i < l.length := by omega
    have ei := List.getElem?_eq_getElem il
    generalize l[i] = z at *
    refine M.new_blk fun b w2 hb2 B2 k2 => M.stA_blk B2 rfl fun w3 B3 k3 => ?_
    have k13 : Keeps [] w1 w3 := k2.trans k3 (by simp; omega)
    have k03 := k1.trans k13 (by simp)
    refine M.idx_ld (hs.keep k03 (by simp)) (by rw [List.getElem?_map, ei]; rfl) ((within_c z 0 30 (by omega) (by omega) (by omega)).mono fun e w4 g => ?_)
    obtain ⟨r4, rfl, _, hr0, hr1, hw⟩ := g
    obtain rfl := hw.symm
    have hs1 := k1.size
    have hbl := B3.lt
    refine ⟨_, rfl, M.loop1_by (fun k w' => ∃ (t : SV) (m : List Int), -1 ≤ k ∧ k ≤ r4 ∧ (m.length : Int) = r4 - k ∧ Blk w' b 27 [.int .i64 1, t.v] ∧ Own 23 1 w' t (uval m) ∧ (∀ y ∈ t.blk, b < y) ∧ Keeps [] w1 w') (fun k _ => (k + 1).toNat) ⟨SV.nil, [], by omega, by omega, by simp, B3, Own.nil _ _ _, by simp [SV.blk], k13⟩ ?_⟩
    rintro k w5 J2 ⟨t, m, hk0, hk1, hml, B5, o5, f5, k5⟩ hJ2
    have hs5 := B5.lt
    refine M.ite_by (fun c => ?_) (fun c => ?_)
    · have c := of_decide_eq_true c
      refine ⟨t, B5.cell 1, app_u (n := b + 1) (w0 := w1) _ k5 (by omega) (by omega) f5 o5 (by omega) fun r w6 o6 f6 g6 k56 k6 => ?_⟩
      have B6 := B5.keep k56 (fun h => by have := f5 b h; omega)
      refine M.st_blk B6 (by simp) fun w7 B7 k7 => ?_
      rw [w64 (by omega) (by omega)]
      refine hJ2 _ w7 ⟨r, _, by omega, by omega, ?_, B7, o6.keep k7 (fun y hy h => ?_), f6, k6.trans k7 (by simp; omega)⟩ (by omega)
      · rw [List.length_append, List.length_singleton]; omega
      · have := f6 y hy; simp at h; omega
    · have c := of_decide_eq_false c
      have hml : m.length = r4 + 1 := by omega
      refine ⟨_, B5.cell 0, t, B5.cell 1, ?_⟩
      dsimp only
      refine (hP.new k5).snoc (k1.trans k5 (by simp)) rfl (x := (1, t, m)) o5 (fun y hy => by have := f5 y hy; omega) (fun y hy h => by have := f5 y hy; have := hP.out.lt y h; omega) (fun z hz y hy h => by have := f5 y h; have := hP.mem hz y hy; omega) (by omega) fun r w6 hP6 k06 => ?_
      rw [w64 (by omega) (by omega)]
      refine hJ _ _ _ ⟨i + 1, _, by omega, by omega, by omega, by rw [List.length_append, hol']; rfl, hP6, ?_, k06⟩ (by omega)
      intro z hz
      rw [List.map_append] at hz
      rcases List.mem_append.1 hz with hz | hz
      · exact hsP z hz
      · obtain rfl := List.mem_singleton.1 hz
        exact ⟨rfl, by show 1 ≤ m.length; omega, by show m.length ≤ 31; omega⟩
  · have hS := hP.segs
    have hpl : (L.map pt).length = i := by rw [List.length_map]; exact hL
    have hin : ∀ x ∈ L, x.2.2.length ≤ 1000000 := fun x hx => by
      have : x.2.2.length ≤ 31 := (hsP (pt x) (List.mem_map_of_mem hx)).2.2
      omega
    refine (first_c hS).mono fun e w2 g => ?_
    obtain ⟨f2, ok2, rfl, he2, k2⟩ := g
    rw [first_pt, sets_first hsP] at he2
    obtain ⟨rfl, rfl⟩ := Prod.mk.inj he2
    have hS2 := hS.new k2
    refine ⟨_, _, rfl, (prepend_c hS2 (by omega) hin av 1).mono fun e w3 g => ?_⟩
    obtain ⟨r3, rfl, L3, hP3, hL3, k3⟩ := g
    have hL3 : L3.map pt = preN av 1 (L.map pt) := hL3
    rw [sets_pre hsP] at hL3
    have hl3 := congrArg List.length hL3
    rw [List.length_map, List.length_cons, hpl] at hl3
    have hr3 := hP3.len
    refine ⟨_, rfl, (first_c hP3.segs).mono fun e w4 g => ?_⟩
    obtain ⟨f4, ok4, rfl, he4, k4⟩ := g
    rw [first_pt, hL3] at he4
    have he4 : (f4, ok4) = (av, true) := he4
    obtain ⟨rfl, rfl⟩ := Prod.mk.inj he4
    have k04 := ((k1.trans k2 (by simp)).trans k3 (by simp)).trans k4 (by simp)
    refine ⟨_, _, rfl, M.join_by (fun (J : Bool → World → Prop) => ∀ w', Keeps [] W w' → J true w') (fun w' k' => ⟨rfl, ((Aft.refl W).new k').1⟩) fun J hJ => ?_⟩
    have hS4 := (hS2.new k3).new k4
    refine M.ite_y rfl ((apright_c hS4 (by omega)).mono fun e w5 g => ?_)
    obtain ⟨r5, rfl, rfl, k5⟩ := g
    refine ⟨_, rfl, M.ite_y (by rw [right_pt]; unfold rightPt; rw [sets_all hsP, hpl]; simpa using hi) ((count_c (hS4.new k5) (by rw [count_pt, sets_count hsP, hpl]; omega) (by omega)).mono fun e w6 g => ?_)⟩
    obtain ⟨r6, rfl, rfl, k6⟩ := g
    refine ⟨_, rfl, M.ite_y (by rw [count_pt, sets_count hsP, hpl]; simp; omega) (M.ite_y rfl (M.ite_y (by simp) (M.ite_y (by rw [w64 (by omega) (by omega)]; simp; omega) ((apright_c (((hP3.segs.new k4).new k5).new k6) (by omega)).mono fun e w7 g => ?_))))⟩
    obtain ⟨r7, rfl, rfl, k7⟩ := g
    have k07 := ((k04.trans k5 (by simp)).trans k6 (by simp)).trans k7 (by simp)
    refine ⟨_, rfl, M.ite_y ?_ (apknown_c.mono fun e w8 g => ?_)⟩
    · rw [right_pt, hL3]
      unfold rightPt
      have el : ((((2 : Int), [f4]) :: L.map pt).length) = i + 1 := by rw [List.length_cons, hpl]
      rw [el, List.all_cons, sets_all hsP, Bool.and_true, beq_iff_eq]
      show (true && decide (i + 1 ≤ 16)) = _
      rw [Bool.true_and]
      apply decide_eq_decide.2; omega
    · obtain ⟨r8, rfl, rfl, k8⟩ := g
      exact ⟨_, rfl, hJ _ (k07.trans k8 (by simp))⟩
theorem apsets_law (W : World) (args : List Value) (h : GdArgs W [(false, .cons (.slice (.cons (.int .i64) .nil)) .nil), (false, .cons (.int .u32) .nil)] args) : Calls Try.prog 3 args.toArray W fun e W' => e = .returned (.bool true) ∧ Below W.heap.size W W' := by
  obtain ⟨v0, r, rfl, h0, h⟩ := h.one
  obtain ⟨v1, r, rfl, h1, h⟩ := h.one
  cases h
  obtain ⟨s, l, rfl, hs, hl, hm, _⟩ := good_ints h0
  obtain ⟨n, rfl, _⟩ := good_int h1
  exact (apsets_c hs hl hm).mono fun e w' ⟨b, he, hb, hw⟩ => by subst hb; exact ⟨he, hw⟩
end Go.Proofs.Ytflffabmfoldeaa
