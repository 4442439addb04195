/-
  Cut of a table of prefixes.
-/
import Derived.Test.YtecegjimdohmeaaTrieC
namespace Go.Proofs.Ytecegjimdohmeaa
set_option linter.unusedVariables false
set_option linter.unusedSimpArgs false
open Go.Sp

theorem pnEl : elemB Try.prog 81 1 8 = true := by kernel_rfl
theorem pnSl : sliceB Try.prog 93 81 1 = true := by kernel_rfl
def wv (l : List Nat) : List Value := l.map fun b => Value.pointer (some ⟨b, 0, none⟩)
theorem wv_len (l : List Nat) : (wv l).length = l.length := by simp [wv]
theorem app_w {w : World} {s : SV} {l : List Nat} (ho : Own 81 1 w s (wv l)) (b : Nat) (hb : l.length ≤ 1000) :
    ∃ r w', (Builtin.append_ #[93, 93] 93 #[s.v, (SV.mk (some ⟨w.heap.size, 0, none⟩) 1 1).v]).run Try.prog (w.alloc (.cells #[Value.pointer (some ⟨b, 0, none⟩)] 81)) = .ok (SV.v r) w' ∧ Own 81 1 w' r (wv (l ++ [b])) ∧ Keeps s.blk w w' ∧ (∀ k ∈ r.blk, k ∈ s.blk ∨ w.heap.size ≤ k) := by
  have kal := Keeps.alloc [] w (.cells (wv [b]).toArray 81)
  have hl := ho.rd.len
  rw [wv_len, Nat.mul_one] at hl
  obtain ⟨r, w', h1, h2, h3, h4, h5⟩ := app_own (P := Try.prog) (ty := 93) pnSl pnEl (ho.keep kal (by simp)) (Own.new w 81 1 1 (wv [b]) rfl (by decide)).rd (by simp [wv]; rfl) (by simp; omega)
  refine ⟨r, w', h1, by unfold wv at *; rw [List.map_append]; exact h2, kal.up.and h4, fun k hk => ?_⟩
  rcases h5 k hk with h | h
  · exact .inl h
  · right; simp at h; omega
theorem TrN.path {w : World} {D : List Nat} {p : Nat} {ad : Nat → Nat → Option Nat} {hs : Nat → Nat → Bool} {vs : Nat → Nat → Int} {c : Int} (h : TrN w D p ad hs vs c) {a n b : Nat} (hb : ad a n = some b) : ∀ i, i ≤ n → ∃ b', ad (topN a i) i = some b' := by
  have hR := h.right hb
  have key : ∀ d, d ≤ n → ∃ b', ad (topN a (n - d)) (n - d) = some b' := by
    intro d
    induction d with
    | zero => intro _; exact ⟨b, by rw [Nat.sub_zero, topN_of_low hR.2.2]; exact hb⟩
    | succ d ih =>
      intro hd
      obtain ⟨b1, h1⟩ := ih (by omega)
      rw [show n - d = n - (d + 1) + 1 by omega] at h1
      obtain ⟨_, _, _, b2, h2⟩ := h.up _ _ _ h1
      rw [topN_topN a (by omega) (by omega)] at h2
      exact ⟨b2, h2⟩
  intro i hi
  have := key (n - i) (by omega)
  rw [show n - (n - i) = i by omega] at this
  exact this
theorem tcut_none {L : Tbl} {k : Key} (h : tget L k = none) : tcut L k = L := by
  unfold tcut
  rw [List.filter_eq_self]
  intro x hx
  have := tget_none.1 h x hx
  simpa using this
theorem cut_t {w : World} {D : List Nat} {p : Nat} {L : Tbl} (h : TrieAt w D p L) {a : Nat} (ha : a < 4294967296) (n : Int) (hlen : L.length ≤ 1000000) :
    Calls Try.prog 26 #[.pointer (some ⟨p, 0, none⟩), .agg #[.int .u32 (a : Int), .int .i64 n]] w (R26 fun r w' => r = (tget L (a, n)).isSome ∧ TrieAt w' D p (tcut L (a, n)) ∧ Keeps D w w') := by
  refine F26_ok (M.new_blk fun b2 w1 hb2 B k1 => ⟨_, B.cell 0, _, B.cell 1, (get_c (h.keep k1 (by simp)) ha n).mono fun e w2 g => ?_⟩)
  obtain ⟨r2, ok2, rfl, _, rfl, k2⟩ := g
  have k02 := k1.trans k2 (by simp)
  have hT2 := h.keep k02 (by simp)
  refine ⟨_, _, rfl, ?_⟩
  cases hg : tget L (a, n) with
  | none =>
    refine M.ite_tt ⟨rfl, ?_, k02.up⟩
    rw [tcut_none hg]; exact hT2
  | some v =>
    refine M.ite_ff ?_
    obtain ⟨hD, ad, hs, vs, hT, hA, hL⟩ := h
    have hmem := tget_mem hg
    have c := (hL.right _ hmem).2
    simp only [] at c
    obtain ⟨c0, c1, c2⟩ := (rightP_iff _ _).1 c
    obtain ⟨n, rfl⟩ := Int.eq_ofNat_of_zero_le c0
    rw [Int.toNat_natCast] at c2
    have hn32 : n ≤ 32 := by omega
    have hget := hA a n hn32 ha c2
    rw [hg] at hget
    obtain ⟨bn, hbn⟩ : ∃ b, ad a n = some b := by
      cases hx : ad a n with
      | none => rw [hx] at hget; simp at hget
      | some b => exact ⟨b, rfl⟩
    have hpath := hT.path hbn
    have hT2 := hT.keep k02 (by simp)
    have B2 := B.keep k2 (by simp)
    have hb2D : b2 ∉ D := fun hx => by have := hD _ hx; omega
    have hs02 := k02.size
    refine ⟨_, rfl, _, B2.cell 1, ?_⟩
    refine M.loop3_by (fun x y z w' => ∃ (i b : Nat) (l : List Nat), z = i ∧ i ≤ n ∧ y = some ⟨b, 0, none⟩ ∧ ad (topN a i) i = some b ∧ l.length = i ∧ (∀ j, j < i → l[j]? = ad (topN a j) j) ∧ Own 81 1 w' x (wv l) ∧ (∀ k ∈ x.blk, w2.heap.size ≤ k) ∧ Keeps [] w2 w') (fun _ _ z _ => n - z.toNat)
      ⟨0, p, [], rfl, by omega, rfl, by rw [topN_zero ha]; exact hT.root, rfl, by intro j hj; omega, Own.nil _ _ _, by simp [SV.blk], Keeps.refl _ _⟩ ?_
    rintro x y z w3 J ⟨i, b, l, rfl, hi, rfl, hb, hl, hlj, ho, hob, hk⟩ hJ
    refine M.ite_by (fun c3 => ?_) (fun c3 => ?_)
    · have c3 := of_decide_eq_true c3
      have hi32 : i < 32 := by omega
      have hbit := bitN_lt a i
      obtain ⟨r4, w4, v1, v2, v3, v4⟩ := app_w ho b (by omega)
      have kd := Keeps.drew [] w4
      have k24 : Keeps [] w2 w4.drew := (hk.trans v3 (fun y hy => .inr (hob y hy))).trans kd (by simp)
      refine M.new_by ⟨r4, w4, v1, M.drew_by ⟨_, rfl, _, (B2.keep k24 (by simp)).cell 0, (bit_c ha hi32).mono fun e w5 g => ?_⟩⟩
      obtain ⟨r5, rfl, rfl, rfl⟩ := g
      obtain ⟨b', hb'⟩ := hpath (i + 1) (by omega)
      have hkid := (hT2.keep k24 (by simp)).kid hi32 hb
      rw [hb'] at hkid
      refine ⟨_, rfl, by omega, by omega, some ⟨b', 0, none⟩, by rw [show ((bitN a i : Nat) : Int).toNat * 1 = bitN a i by omega]; exact hkid, ?_⟩
      rw [w64 (by omega) (by omega)]
      refine hJ _ _ _ _ ⟨i + 1, b', l ++ [b], by omega, by omega, rfl, hb', by simp [hl], ?_, v2.keep kd (by simp), fun k hk4 => ?_, k24⟩ (by omega)
      · intro j hj
        by_cases h1 : j < i
        · rw [List.getElem?_append_left (by omega)]; exact hlj j h1
        · have : j = i := by omega
          subst this
          rw [List.getElem?_append_right (by omega), hl, Nat.sub_self, hb]; rfl
      · rcases v4 k hk4 with h | h
        · exact hob k h
        · have := hk.size; omega
    · have c3 := of_decide_eq_false c3
      have hin : i = n := by omega
      subst hin
      rw [topN_of_low c2, hbn] at hb
      cases hb
      have hT3 := hT2.keep hk (by simp)
      have P := hT3.node _ _ _ hbn
      have hbD := hT3.foot _ _ _ hbn
      refine ⟨_, rfl, M.st_blk P (by simp only [ncells, List.length_append, List.length_cons, List.length_nil]; omega) fun w4 P4 k4 => ⟨_, rfl, M.st_blk P4 (by simp only [ncells, List.length_set, List.length_append, List.length_cons, List.length_nil]; omega) fun w5 P5 k5 => ?_⟩⟩
      have k35 := k4.and k5
      have hcells : ((ncells ad hs vs (L.length : Int) a i).set 2 (Value.bool false)).set 3 (Value.int .i64 0) = ncells ad (upd hs a i false) (upd vs a i 0) (L.length : Int) a i := by
        unfold ncells
        rw [upd_at, upd_at]; rfl
      rw [hcells] at P5
      have hT5 := hT3.setv hbn k35 P5
      have hA5 := hA.unset a i 0
      have hL5 := hL.cut (a, (i : Int))
      have hlen5 := tcut_len hL.sorted (a, (i : Int))
      rw [hg] at hlen5
      simp only [Option.isSome_some, if_true] at hlen5
      have R5 := hT5.node _ _ _ hT5.root
      refine ⟨_, rfl, (L.length : Int), R5.cell 4, _, rfl, M.st_blk R5 (by simp [ncells]) fun w6 P6 k6 => ?_⟩
      have hcells6 : (ncells ad (upd hs a i false) (upd vs a i 0) (L.length : Int) 0 0).set 4 (Value.int .i64 (IntKind.i64.wrap ((L.length : Int) - 1))) = ncells ad (upd hs a i false) (upd vs a i 0) ((tcut L (a, (i : Int))).length : Int) 0 0 := by
        rw [w64 (by omega) (by omega), show (L.length : Int) - 1 = ((tcut L (a, (i : Int))).length : Int) by omega]
        simp [ncells]
      rw [hcells6] at P6
      have hpD := hT5.foot _ _ _ hT5.root
      have hT6 := hT5.setc k6 P6
      have k36 : Keeps D w3 w6 := (k35.mono (by intro x hx; simp at hx; subst hx; exact .inl hbD)).and (k6.mono (by intro x hx; simp at hx; subst hx; exact .inl hpD))
      have k06 : Keeps D w w6 := (k02.up.and hk.up).and k36
      have hxD : ∀ k ∈ x.blk, k ∉ D := fun k hk2 hkD => by have := hob k hk2; have := hD k hkD; omega
      have ho6 := ho.keep k36 hxD
      have B6 := (B2.keep hk (by simp)).keep k36 hb2D
      refine ⟨_, B6.cell 1, M.join_by (fun J => ∀ w', TrieAt w' D p (tcut L (a, (i : Int))) → Keeps D w w' → J w') (fun w' h1 h2 => ⟨rfl, h1, h2⟩) fun J2 hJ2 => ?_⟩
      have hD6 : ∀ {w' : World}, Keeps D w w' → ∀ x ∈ D, x < w'.heap.size := fun k x hx => Nat.lt_of_lt_of_le (hD x hx) k.size
      refine M.loop1_by (fun y w' => ∃ (j : Nat) (ad' : Nat → Nat → Option Nat), y = (j : Int) - 1 ∧ j ≤ i ∧ TrN w' D p ad' (upd hs a i false) (upd vs a i 0) ((tcut L (a, (i : Int))).length : Int) ∧ Abs (tcut L (a, (i : Int))) ad' (upd hs a i false) (upd vs a i 0) ∧ (∀ m, m ≤ j → ad' (topN a m) m = ad (topN a m) m) ∧ Keeps D w6 w') (fun y _ => (y + 1).toNat)
        ⟨i, ad, by rw [w64 (by omega) (by omega)], by omega, hT6, hA5, fun _ _ => rfl, Keeps.refl _ _⟩ ?_
      rintro y w7 J3 ⟨j, ad', rfl, hj, hT7, hA7, hadj, k7⟩ hJ3
      have k07 := k06.and k7
      refine M.ite_by (fun d => ?_) (fun d => ?_)
      · have d := of_decide_eq_true d
        obtain ⟨m, rfl⟩ : ∃ m, j = m + 1 := ⟨j - 1, by omega⟩
        have hm32 : m < 32 := by omega
        rw [show (((m + 1 : Nat) : Int) - 1) = (m : Int) by omega]
        refine ⟨_, (B6.keep k7 hb2D).cell 0, (bit_c ha hm32).mono fun e w8 g => ?_⟩
        obtain ⟨r8, rfl, rfl, rfl⟩ := g
        have hbit := bitN_lt a m
        have ebit : ((bitN a m : Nat) : Int).toNat * 1 = bitN a m := by omega
        obtain ⟨bm, hbm⟩ := hpath m (by omega)
        obtain ⟨bk, hbk⟩ := hpath (m + 1) (by omega)
        have ho8 := ho6.keep k7 hxD
        have hlx := ho8.rd.len
        rw [wv_len, Nat.mul_one, hl] at hlx
        obtain ⟨ax, hax⟩ := ho8.rd.some (by omega)
        have hcw := ho8.rd.at hax (i := m) (v := .pointer (some ⟨bm, 0, none⟩)) (by
          unfold wv
          rw [List.getElem?_map, hlj m (by omega), hbm]; rfl)
        have hbm' : ad' (topN a m) m = some bm := by rw [hadj m (by omega)]; exact hbm
        have hbk' : ad' (topN a (m + 1)) (m + 1) = some bk := by rw [hadj (m + 1) (by omega)]; exact hbk
        have hcw' : w8.cell? (ax.add ((m : Int).toNat * 1)) = some (.pointer (some ⟨bm, 0, none⟩)) := by rw [show ((m : Nat) : Int).toNat * 1 = m by omega]; exact hcw
        have hkid := hT7.kid hm32 hbm'
        rw [hbk'] at hkid
        refine ⟨_, rfl, ax, hax, by omega, by omega, _, hcw', _, rfl, by omega, by omega, some ⟨bk, 0, none⟩, by rw [ebit]; exact hkid, (empty_c hT7 hbk').mono fun e w9 g => ?_⟩
        obtain ⟨r9, rfl, hr9, rfl⟩ := g
        refine ⟨_, rfl, M.ite_by (fun c9 => ?_) (fun c9 => ?_)⟩
        · exact hJ2 _ ⟨hD6 k07, ad', _, _, hT7, hA7, hL5⟩ k07
        · have c9 : r9 = true := by simpa using c9
          rw [c9] at hr9
          have hr9 := hr9.symm
          simp only [Bool.and_eq_true, Bool.not_eq_true', Option.isNone_iff_eq_none] at hr9
          obtain ⟨q1, q2, q3⟩ := hr9
          have P9 := hT7.node _ _ _ hbm'
          have hbmD := hT7.foot _ _ _ hbm'
          refine ⟨ax, hax, by omega, by omega, _, hcw', _, rfl, by omega, by omega, ?_⟩
          rw [ebit]
          refine M.st_blk P9 (by simp only [ncells, List.length_append, List.length_cons, List.length_nil]; omega) fun w10 P10 k10 => ?_
          rw [w64 (by omega) (by omega)]
          refine hJ3 _ _ ⟨m, upd ad' (topN a (m + 1)) (m + 1) none, rfl, by omega, hT7.prune hm32 hbm' hbk' q2 q3 k10 P10, hA7.prune q1 none, fun j hj => ?_, k7.and (k10.mono (by intro x hx; simp at hx; subst hx; exact .inl hbmD))⟩ (by omega)
          rw [upd_ne _ _ (by omega)]
          exact hadj j (by omega)
      · exact hJ2 _ ⟨hD6 k07, ad', _, _, hT7, hA7, hL5⟩ k07
end Go.Proofs.Ytecegjimdohmeaa
