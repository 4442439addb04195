/-
  A path made right.
-/
import Derived.Test.YtflffabmfoldeaaAspM
import Derived.Test.YtflffabmfoldeaaSpDecA
import Derived.Test.YtflffabmfoldeaaSpArg
namespace Go.Proofs.Ytflffabmfoldeaa
set_option linter.unusedVariables false
set_option linter.unusedSimpArgs false
open Go.Sp
open Go.RowKit (Below)

/-- Paths among the arguments. -/
theorem segs_of {w : World} {v : Value} (h : Gd w (.slice segSh) v) : ∃ (s : SV) (l : List Sg), v = s.v ∧ Segs w s l ∧ s.len ≤ maxLen ∧ ∀ x ∈ l, ∀ n ∈ x.2.2, 0 ≤ n ∧ n < 4294967296 := by
  simp only [Gd] at h
  obtain ⟨s, vs, rfl, hr, hc, hg⟩ := h
  have hl := hr.len
  have hcap := hr.cap
  have e2 : segSh.len = 2 := rfl
  rw [e2] at hl hg hr
  obtain ⟨bs, hbl, hbp⟩ := list_choose (n := s.len) (p := fun i (x : Sg) => (vs.drop (i * 2)).take 2 = sgv x ∧ Rd 1 w x.2.1 (uv x.2.2) ∧ ∀ n ∈ x.2.2, 0 ≤ n ∧ n < 4294967296) (fun i hi => by
    have h1 := hg i hi
    simp only [segSh, GdL] at h1
    obtain ⟨v1, r1, h2, ⟨k, rfl, _⟩, v2, r2, rfl, h3, rfl⟩ := h1
    obtain ⟨t, l, rfl, h4, _, _, h5⟩ := good_ints h3
    exact ⟨(k, t, l), h2, h4, fun n hn => by
      have h6 := h5 n hn
      have e1 : IntKind.u32.min = 0 := rfl
      have e2 : IntKind.u32.max = 4294967295 := rfl
      omega⟩)
  refine ⟨s, bs, rfl, ⟨?_, fun x hx => ?_⟩, by omega, fun x hx => ?_⟩
  · have : vs = sgvs bs := by
      apply List.ext_getElem?
      intro j
      by_cases hj : j < vs.length
      · have hi : j / 2 < bs.length := by omega
        have h1 := (hbp (j / 2) bs[j / 2] (List.getElem?_eq_getElem hi)).1
        have h2 : ((sgvs bs).drop (j / 2 * 2)).take 2 = sgv bs[j / 2] := by
          rw [sgvs_drop, List.drop_eq_getElem_cons hi]; rfl
        have h3 : ((vs.drop (j / 2 * 2)).take 2)[j % 2]? = (((sgvs bs).drop (j / 2 * 2)).take 2)[j % 2]? := by rw [h1, h2]
        rw [List.getElem?_take, List.getElem?_take, if_pos (by omega), if_pos (by omega), List.getElem?_drop, List.getElem?_drop, show j / 2 * 2 + j % 2 = j by omega] at h3
        exact h3
      · rw [List.getElem?_eq_none (by omega), List.getElem?_eq_none (by rw [sgvs_len]; omega)]
    rw [← this]; exact hr
  · obtain ⟨i, hi, he⟩ := List.getElem_of_mem hx
    exact (hbp i x (by rw [List.getElem?_eq_getElem hi, he])).2.1
  · obtain ⟨i, hi, he⟩ := List.getElem_of_mem hx
    exact (hbp i x (by rw [List.getElem?_eq_getElem hi, he])).2.2
/-- One part more, its numbers anywhere. -/
theorem app_g {n : Nat} {w0 w : World} {s : SV} {L : List Sg} (x : Sg) {K : SV → World → Prop} (k : Keeps [] w0 w) (hn : n ≤ w.heap.size) (hn0 : w0.heap.size ≤ n) (hf : ∀ y ∈ s.blk, n ≤ y) (ho : Own 27 2 w s (sgvs L)) (hb : L.length ≤ 1000000) (h : ∀ r w', Own 27 2 w' r (sgvs (L ++ [x])) → (∀ y ∈ r.blk, n ≤ y) → Keeps [] w0 w' → K r w') :
    M.new (.cells #[Value.int .i64 x.1, x.2.1.v] 27) w fun b w' => M.app Try.prog 24 24 24 s (SV.v (SV.mk (some b) 1 1)) w' K := by
  have hl := ho.rd.len
  rw [sgvs_len] at hl
  refine M.new_by ?_
  have ka := Keeps.alloc [] w (.cells #[Value.int .i64 x.1, x.2.1.v] 27)
  have hr := (Own.new w 27 2 1 (sgvs [x]) rfl (by decide)).rd
  obtain ⟨r, w', v1, v2, v3, v4, v5⟩ := app_own (P := Try.prog) (ty := 24) insgSl insgEl (ho.keep ka (by simp)) (x := ⟨some ⟨w.heap.size, 0, none⟩, 1, 1⟩) (news := sgvs [x]) hr (sgvs_one _) (by simp only []; omega)
  have h1 : (w.alloc (.cells #[Value.int .i64 x.1, x.2.1.v] 27)).heap.size = w.heap.size + 1 := by simp
  refine ⟨r, w', v1, h r w' (by rw [sgvs_app]; exact v2) (fun y hy => ?_) ((k.trans ka (by simp)).trans v4 (fun y hy => .inr (Nat.le_trans hn0 (hf y hy))))⟩
  rcases v5 y hy with h | h
  · exact hf y h
  · omega
theorem join_lt2 {x n y m : Int} {T E : World → Prop} {w : World} (ht : x < n → y < m → T w) (hf : ¬ (x < n ∧ y < m) → E w) :
    M.join (fun (c : Bool) w' => M.ite c (T w') (E w')) fun J => M.ite (decide (x < n)) (J (decide (y < m)) w) (J false w) := by
  refine M.join_by (fun (J : Bool → World → Prop) => (x < n → y < m → J true w) ∧ (¬ (x < n ∧ y < m) → J false w)) ⟨fun h1 h2 => M.ite_tt (ht h1 h2), fun h => M.ite_ff (hf h)⟩ fun J hJ => ?_
  refine M.ite_by (fun c => ?_) (fun c => ?_)
  · have c := of_decide_eq_true c
    by_cases c2 : y < m
    · rw [decide_eq_true c2]; exact hJ.1 c c2
    · rw [decide_eq_false c2]; exact hJ.2 (by omega)
  · have c := of_decide_eq_false c
    exact hJ.2 (by omega)
/-- A path made right. -/
def Six (A L : List Sg) : Prop := L.length ≤ 6 ∧ ∀ x ∈ L, (x.1 = 1 ∨ x.1 = 2) ∧ 1 ≤ x.2.2.length ∧ x.2.2.length ≤ 6 ∧ ∃ y ∈ A, ∀ n ∈ x.2.2, n ∈ y.2.2
theorem six_all {A L : List Sg} (h : Six A L) : (L.map pt).all (fun x => okS x.1 x.2.length) = true := by
  rw [List.all_map, List.all_eq_true]
  intro x hx
  obtain ⟨h1, h2, h3, _⟩ := h.2 x hx
  show okS x.1 x.2.2.length = true
  unfold okS
  rcases h1 with h1 | h1 <;> rw [h1] <;> simp <;> omega
theorem six_in {A L : List Sg} (h : Six A L) : ∀ x ∈ L, x.2.2.length ≤ 1000000 := fun x hx => by
  have := (h.2 x hx).2.2.1; omega
theorem apr15_c {W : World} {s : SV} {A : List Sg} (hs : Segs W s A) (hlen : s.len ≤ maxLen) : Calls Try.prog 15 #[s.v] W (R15 fun r w' => ∃ L : List Sg, Six A L ∧ Segs w' r L ∧ Keeps [] W w') := by
  have hl := hs.len
  have hml : maxLen = 9223372036854775807 ∨ maxLen < 9223372036854775807 := by unfold maxLen; omega
  refine F15_ok (M.loop2_by (fun o x w' => ∃ (i : Nat) (L : List Sg), x = i ∧ i ≤ A.length ∧ Own 27 2 w' o (sgvs L) ∧ (∀ y ∈ o.blk, W.heap.size ≤ y) ∧ Six A L ∧ (∀ x ∈ L, Rd 1 W x.2.1 (uval x.2.2)) ∧ Keeps [] W w') (fun _ x _ => A.length - x.toNat) ⟨0, [], rfl, by omega, Own.nil _ _ _, by simp [SV.blk], ⟨by simp, by simp⟩, by simp, Keeps.refl _ _⟩ ?_)
  rintro o x w1 J ⟨i, L, rfl, hi, ho, hof, h6, hin, k1⟩ hJ
  have hol : o.len = L.length := by
    have := ho.rd.len
    rw [sgvs_len] at this; omega
  have hs1 := k1.size
  refine join_lt2 (fun hx1 hx2 => ?_) (fun hend => ?_)
  · have il : i < A.length := by omega
    have ei := List.getElem?_eq_getElem il
    have hm := List.getElem_mem il
    generalize A[i] = x at *
    have h1 := hs.new k1
    obtain ⟨a, ha⟩ := h1.1.some (by omega)
    have e := sg_at h1.1 ha ei
    have hxl := uval_len (segs_inn h1 ei)
    refine M.join_by (fun (J : SV → World → Prop) => ∀ (r : SV) (w' : World) (L' : List Sg), Own 27 2 w' r (sgvs L') → (∀ y ∈ r.blk, W.heap.size ≤ y) → Six A L' → (∀ x ∈ L', Rd 1 W x.2.1 (uval x.2.2)) → Keeps [] W w' → J r w') (fun r w' L' o' f' h6' hin' k' => ?_) fun J2 hJ2 => ?_
    · rw [w64 (by omega) (by omega)]
      exact hJ _ _ _ ⟨i + 1, L', by omega, by omega, o', f', h6', hin', k'⟩ (by omega)
    · refine ⟨a, ha, by omega, by omega, _, e.1, x.2.1, e.2, M.new_blk fun b w2 hb B2 k2 => M.stA_blk B2 rfl fun w3 B3 k3 => ?_⟩
      have k13 : Keeps [] w1 w3 := k2.trans k3 (by simp; omega)
      have k03 := k1.trans k13 (by simp)
      have o3 := ho.keep k13 (by simp)
      refine ⟨x.2.1, B3.cell 1, M.ite_by (fun c => ?_) (fun c => hJ2 _ _ _ o3 hof h6 hin k03)⟩
      have c := of_decide_eq_true c
      refine M.join_by (fun (J : World → Prop) => ∀ w' (t : SV) (m : List Int), Blk w' b 27 [.int .i64 x.1, t.v] → Rd 1 W t (uval m) → 1 ≤ m.length → m.length ≤ 6 → (∀ n ∈ m, n ∈ x.2.2) → Keeps [] w1 w' → J w') (fun w4 t m B4 hr hm1 hm2 hmm k4 => ?_) fun J3 hJ3 => ?_
      · refine ⟨_, B4.cell 0, (within_c x.1 0 1 (by omega) (by omega) (by omega)).mono fun e w' g => ?_⟩
        obtain ⟨r5, rfl, _, hr0, hr1, hw⟩ := g
        obtain rfl := hw.symm
        refine ⟨_, rfl, M.st_blk0 B4 fun w5 B5 k5 => ?_⟩
        rw [w64 (by omega) (by omega)] at B5
        have k15 : Keeps [] w1 w5 := k4.trans k5 (by simp; omega)
        refine ⟨_, B5.cell 0, t, B5.cell 1, ?_⟩
        dsimp only
        refine app_g (n := W.heap.size) (w0 := W) (1 + r5, t, m) (k1.trans k15 (by simp)) (by have := k15.size; omega) (by omega) hof (ho.keep k15 (by simp)) (by have := h6.1; omega) fun r w6 o6 f6 k6 => hJ2 r w6 _ o6 f6 ⟨by rw [List.length_append, List.length_singleton]; omega, fun z hz => ?_⟩ (fun z hz => ?_) k6
        · rcases List.mem_append.1 hz with hz | hz
          · exact h6.2 z hz
          · obtain rfl := List.mem_singleton.1 hz
            exact ⟨by show (1 + r5 = 1 ∨ 1 + r5 = 2); omega, hm1, hm2, x, hm, hmm⟩
        · rcases List.mem_append.1 hz with hz | hz
          · exact hin z hz
          · obtain rfl := List.mem_singleton.1 hz
            exact hr
      · have hxr := segs_inn hs ei
        refine ⟨x.2.1, B3.cell 1, M.ite_by (fun c2 => ?_) (fun c2 => ?_)⟩
        · have c2 := of_decide_eq_true c2
          have hcap := hxr.cap
          refine ⟨x.2.1, B3.cell 1, by omega, by omega, by omega, M.st_blk B3 (by simp) fun w4 B4 k4 => ?_⟩
          have hsub := hxr.sub (l := 0) (u := 6) (Nat.zero_le _) (by omega)
          refine hJ3 w4 (x.2.1.sub 0 6 1) (x.2.2.take 6) B4 (by simpa [uval, List.map_take] using hsub) (by rw [List.length_take]; omega) (by rw [List.length_take]; omega) (fun n hn => List.mem_of_mem_take hn) (k13.trans k4 (by simp; omega))
        · have c2 := of_decide_eq_false c2
          exact hJ3 w3 x.2.1 x.2.2 B3 hxr (by omega) (by omega) (fun n hn => hn) k13
  · exact ⟨L, h6, ⟨ho.rd, fun x hx => (hin x hx).keep k1 (by simp)⟩, k1⟩
end Go.Proofs.Ytflffabmfoldeaa
