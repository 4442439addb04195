/-
  One more at the head of a list.
-/
import Derived.Test.YtflffabmfoldeaaSegC
import Derived.Test.YtflffabmfoldeaaSpIns
namespace Go.Proofs.Ytflffabmfoldeaa
set_option linter.unusedVariables false
set_option linter.unusedSimpArgs false
open Go.Sp

theorem insuEl : elemB Try.prog 23 1 4 = true := by kernel_rfl
theorem insuSl : sliceB Try.prog 25 23 1 = true := by kernel_rfl
theorem insgEl : elemB Try.prog 27 2 32 = true := by kernel_rfl
theorem insgSl : sliceB Try.prog 24 27 2 = true := by kernel_rfl
set_option maxHeartbeats 1000000 in
theorem insu_c {w : World} {s : SV} {vs v : List Value} {xb : Nat} (ho : Own 23 1 w s vs) (B : Blk w xb 23 v) (hv : v.length = 1) (hx : xb ∉ s.blk) (h1 : ∀ u ∈ v, u.oneCell' = true) (h2 : ∀ u ∈ vs, u.oneCell' = true) (hn : s.len ≤ 1000000) :
    Calls Try.prog 28 #[s.v, .int .i64 0, (SV.mk (some ⟨xb, 0, none⟩) 1 1).v] w (R28 fun r w' => Own 23 1 w' r (v ++ vs) ∧ r.len = s.len + 1 ∧ (∀ y ∈ r.blk, y ∈ s.blk ∨ w.heap.size ≤ y) ∧ Keeps s.blk w w') := by
  have hxr : Rd 1 w ⟨some ⟨xb, 0, none⟩, 1, 1⟩ v := ⟨by simp [hv], Nat.le_refl _, (fun h => nomatch h), fun a ha i u hu => by
    cases ha
    rw [add_mk, Nat.zero_add, B.cell, hu]⟩
  have hvl := ho.rd.len
  have hcap := ho.rd.cap
  refine F28_ok ?_
  unfold F28
  have e1 : IntKind.i64.wrap ((s.len : Int) + ((1 : Nat) : Int)) = ((s.len + 1 : Nat) : Int) := by rw [w64 (by omega) (by omega)]; omega
  have e2 : IntKind.i64.wrap ((0 : Int) + ((1 : Nat) : Int)) = ((1 : Nat) : Int) := w64 (by omega) (by omega)
  have e3 : IntKind.i64.wrap (((s.len + 1 : Nat) : Int) - (0 : Int)) = ((s.len + 1 : Nat) : Int) := by rw [Int.sub_zero, w64 (by omega) (by omega)]
  dsimp only
  rw [e1, e2, e3]
  simp only [Int.toNat_natCast, Int.toNat_zero]
  refine ⟨by omega, by omega, by omega, M.ite_n rfl (M.ite_by (fun c => ?_) (fun c => M.ite_by (fun c2 => ?_) (fun c2 => ?_)))⟩
  · have c : s.len = 0 := by simp at c; omega
    have hvs : vs = [] := List.eq_nil_of_length_eq_zero (by rw [hvl, c, Nat.zero_mul])
    obtain ⟨r, w', v1, v2, v3, v4, v5⟩ := app_own (P := Try.prog) (ty := 25) insuSl insuEl ho hxr h1 (by simp only []; omega)
    refine ⟨r, w', v1, ?_, by rw [v3], v5, v4⟩
    subst hvs
    simpa using v2
  · have c2 := of_decide_eq_true c2
    refine ⟨by omega, by omega, by omega, ?_⟩
    obtain ⟨cp, w1, zs, z1, z2, z3, z4, z5⟩ := app_zeros_new (P := Try.prog) (t := 25) (tn := 3) (ty := 25) (w := w) (s := s.sub 0 0 1) insuSl insuEl (kn := .i64) rfl (by rw [sub_zero]) .i64 (n := s.len + 1) (by rw [sub_zero]; simp only []; omega) (by omega)
    refine ⟨_, w1, z1, ?_⟩
    dsimp only
    generalize hr : (⟨some ⟨w.heap.size, 0, none⟩, s.len + 1, cp⟩ : SV) = r at *
    have hrl : r.len = s.len + 1 := by subst hr; rfl
    have hrb : ∀ y ∈ r.blk, y = w.heap.size := by subst hr; simp [SV.blk]
    have hrc := z2.rd.cap
    have hsl := ho.lt
    have hxl := B.lt
    have hnr : ∀ y ∈ s.blk, y ∉ r.blk := fun y hy h => by have := hsl y hy; have := hrb y h; omega
    refine ⟨by omega, by omega, by omega, ?_⟩
    obtain ⟨w2, q1, q2, q3⟩ := cp_sub (P := Try.prog) (ty := 3) insuSl insuEl z2 (hxr.keep z4 (by simp)) h1 (i := 0) (Nat.zero_le _)
    refine ⟨_, w2, by rw [hrl] at q1; exact q1, M.drew_by ?_⟩
    have kd := Keeps.drew [] w2
    have hm1 : min 1 (r.len - 0) * 1 = 1 := by rw [hrl]; omega
    dsimp only at q2
    rw [Nat.zero_mul, hm1, splice_zero, List.take_of_length_le (by omega), hv] at q2
    have k12 : Keeps r.blk w1 w2.drew := q3.and kd.up
    have q2 := q2.keep kd (by simp)
    refine ⟨by omega, by omega, by omega, by omega, by omega, by omega, ?_⟩
    have hvr : Rd 1 w2.drew (s.sub 0 s.len 1) vs := by
      rw [sub_zero]
      exact (ho.rd.keep z4 (by simp)).keep k12 hnr
    obtain ⟨w3, p1, p2, p3⟩ := cp_sub (P := Try.prog) (ty := 3) insuSl insuEl q2 hvr h2 (i := 1) (by omega)
    refine ⟨_, w3, by rw [hrl] at p1; exact p1, ?_, rfl, fun y hy => .inr (by rw [hrb y hy]; omega), ?_⟩
    · have hlz : (v ++ List.drop 1 zs).length = (s.len + 1) * 1 := by
        rw [List.length_append, List.length_drop, z3, hv, ← hrl]; omega
      have hm2 : min (s.sub 0 s.len 1).len (r.len - 1) * 1 = vs.length := by
        rw [sub_zero, hvl, hrl]; simp
      rw [hm2, List.take_length] at p2
      have : splice (v ++ List.drop 1 zs) (1 * 1) vs = v ++ vs := by
        unfold splice
        rw [Nat.one_mul, List.take_left' hv, List.drop_eq_nil_of_le (by rw [hlz, hvl]; omega), List.append_nil]
      rw [this] at p2
      exact p2
    · exact z4.up.trans (k12.and p3) (fun y hy => .inr (by rw [hrb y hy]; exact Nat.le_refl _))
  · have c2 := of_decide_eq_false c2
    have c : s.len ≠ 0 := by simp at c; omega
    have hroom : s.len + 1 ≤ s.cap := by omega
    obtain ⟨g, cur, vs', ga, gh, gs, go, gt⟩ := ho.more hroom
    have hgl := go.rd.len
    rw [sub_zero]
    generalize hs' : (⟨s.a, s.len + 1, s.cap⟩ : SV) = s' at *
    have hsl' : s'.len = s.len + 1 := by subst hs'; rfl
    have hsc' : s'.cap = s.cap := by subst hs'; rfl
    have hsb' : s'.blk = s.blk := by subst hs'; rfl
    have hsa' : s'.a = s.a := by subst hs'; rfl
    refine ⟨by omega, by omega, by omega, by omega, by omega, by omega, false, ?_, M.ite_tt (M.drew_by ?_)⟩
    · have hgx : xb ≠ g := fun h => hx (by simp [SV.blk, ga, h])
      have hsub : (s'.sub 1 s'.len 1).v = .slice (some ⟨g, 1 * 1, none⟩) (s'.len - 1) (s'.cap - 1) := by
        have hne : s'.cap ≠ 1 := by omega
        show Value.slice (s'.sub 1 s'.len 1).a _ _ = _
        simp only [SV.sub, if_neg hne, hsa', ga, Option.map_some, add_mk, Nat.zero_add]
      have hsz : ∀ w, (Go.sizeOf 23).run Try.prog w = .ok 1 w := fun w => sizeB_run (by kernel_rfl) w
      rw [hsub, run_callFunc_extern Try.func50 (by kernel_rfl) (by kernel_rfl) (by kernel_rfl) (e := Extern.SlicesOverlaps.overlaps #[25, 25] #[4]) (by kernel_rfl)]
      have := Lib.run_overlaps_apart (P := Try.prog) w 25 4 23 rfl 1 hsz ⟨xb, 0, none⟩ ⟨g, 1 * 1, none⟩ 1 1 (s'.len - 1) (s'.cap - 1) hgx 23 23 v.length cur.size B.shape (Blk.shape (cs := cur.toList) (by unfold Blk; simpa using gh)) (by rw [gs]; omega) (B.free 0) (B.free v.length)
      simp only [this, Result.andThen_ok]
    · have kd := Keeps.drew [] w
      have goD := go.keep kd (by simp)
      refine ⟨by omega, by omega, by omega, by omega, by omega, by omega, ?_⟩
      have hs1 : ∀ u ∈ vs'.take (s.len * 1), u.oneCell' = true := fun u hu => h2 u (by rw [gt] at hu; exact hu)
      have hm1 : min s'.len (s'.len - 1) * 1 = s.len * 1 := by rw [hsl']; simp
      have hrd : Rd 1 w.drew (s'.sub 0 s'.len 1) vs' := by rw [sub_zero]; exact goD.rd
      obtain ⟨w1, q1, q2, q3⟩ := cp_subT (P := Try.prog) (ty := 3) insuSl insuEl goD hrd (i := 1) (by omega) (by
        rw [sub_zero]
        dsimp only
        rw [hm1]; exact hs1)
      rw [sub_zero] at q1 q2
      dsimp only at q2
      rw [hm1, gt] at q2
      rw [sub_zero]
      refine ⟨_, w1, q1, by omega, by omega, by omega, ?_⟩
      have k01 : Keeps s'.blk w w1 := kd.up.and q3
      have hsp : splice vs' (1 * 1) vs = vs'.take 1 ++ vs := by
        unfold splice
        rw [Nat.one_mul, List.drop_eq_nil_of_le (by rw [hgl, hvl, hsl']; omega), List.append_nil]
      rw [hsp] at q2
      obtain ⟨w2, p1, p2, p3⟩ := cp_sub (P := Try.prog) (ty := 3) insuSl insuEl q2 (hxr.keep k01 (by
        intro y hy h
        simp [SV.blk] at hy
        rw [hsb'] at h
        exact hx (hy ▸ h))) h1 (i := 0) (Nat.zero_le _)
      rw [sub_zero] at p1
      refine ⟨_, w2, p1, ?_, hsl', fun y hy => .inl (by rw [← hsb']; exact hy), by rw [← hsb']; exact k01.and p3⟩
      have hm2 : min 1 (s'.len - 0) * 1 = 1 := by rw [hsl']; omega
      dsimp only at p2
      rw [Nat.zero_mul, hm2, splice_zero, List.take_of_length_le (by omega), hv] at p2
      have hl1 : (vs'.take 1).length = 1 := by rw [List.length_take, hgl, hsl']; omega
      rw [List.drop_left' hl1] at p2
      exact p2
set_option maxHeartbeats 1000000 in
theorem insg_c {w : World} {s : SV} {vs v : List Value} {xb : Nat} (ho : Own 27 2 w s vs) (B : Blk w xb 27 v) (hv : v.length = 2) (hx : xb ∉ s.blk) (h1 : ∀ u ∈ v, u.oneCell' = true) (h2 : ∀ u ∈ vs, u.oneCell' = true) (hn : s.len ≤ 1000000) :
    Calls Try.prog 29 #[s.v, .int .i64 0, (SV.mk (some ⟨xb, 0, none⟩) 1 1).v] w (R29 fun r w' => Own 27 2 w' r (v ++ vs) ∧ r.len = s.len + 1 ∧ (∀ y ∈ r.blk, y ∈ s.blk ∨ w.heap.size ≤ y) ∧ Keeps s.blk w w') := by
  have hxr : Rd 2 w ⟨some ⟨xb, 0, none⟩, 1, 1⟩ v := ⟨by simp [hv], Nat.le_refl _, (fun h => nomatch h), fun a ha i u hu => by
    cases ha
    rw [add_mk, Nat.zero_add, B.cell, hu]⟩
  have hvl := ho.rd.len
  have hcap := ho.rd.cap
  refine F29_ok ?_
  unfold F29
  have e1 : IntKind.i64.wrap ((s.len : Int) + ((1 : Nat) : Int)) = ((s.len + 1 : Nat) : Int) := by rw [w64 (by omega) (by omega)]; omega
  have e2 : IntKind.i64.wrap ((0 : Int) + ((1 : Nat) : Int)) = ((1 : Nat) : Int) := w64 (by omega) (by omega)
  have e3 : IntKind.i64.wrap (((s.len + 1 : Nat) : Int) - (0 : Int)) = ((s.len + 1 : Nat) : Int) := by rw [Int.sub_zero, w64 (by omega) (by omega)]
  dsimp only
  rw [e1, e2, e3]
  simp only [Int.toNat_natCast, Int.toNat_zero]
  refine ⟨by omega, by omega, by omega, M.ite_n rfl (M.ite_by (fun c => ?_) (fun c => M.ite_by (fun c2 => ?_) (fun c2 => ?_)))⟩
  · have c : s.len = 0 := by simp at c; omega
    have hvs : vs = [] := List.eq_nil_of_length_eq_zero (by rw [hvl, c, Nat.zero_mul])
    obtain ⟨r, w', v1, v2, v3, v4, v5⟩ := app_own (P := Try.prog) (ty := 24) insgSl insgEl ho hxr h1 (by simp only []; omega)
    refine ⟨r, w', v1, ?_, by rw [v3], v5, v4⟩
    subst hvs
    simpa using v2
  · have c2 := of_decide_eq_true c2
    refine ⟨by omega, by omega, by omega, ?_⟩
    obtain ⟨cp, w1, zs, z1, z2, z3, z4, z5⟩ := app_zeros_new (P := Try.prog) (t := 24) (tn := 3) (ty := 24) (w := w) (s := s.sub 0 0 2) insgSl insgEl (kn := .i64) rfl (by rw [sub_zero]) .i64 (n := s.len + 1) (by rw [sub_zero]; simp only []; omega) (by omega)
    refine ⟨_, w1, z1, ?_⟩
    dsimp only
    generalize hr : (⟨some ⟨w.heap.size, 0, none⟩, s.len + 1, cp⟩ : SV) = r at *
    have hrl : r.len = s.len + 1 := by subst hr; rfl
    have hrb : ∀ y ∈ r.blk, y = w.heap.size := by subst hr; simp [SV.blk]
    have hrc := z2.rd.cap
    have hsl := ho.lt
    have hxl := B.lt
    have hnr : ∀ y ∈ s.blk, y ∉ r.blk := fun y hy h => by have := hsl y hy; have := hrb y h; omega
    refine ⟨by omega, by omega, by omega, ?_⟩
    obtain ⟨w2, q1, q2, q3⟩ := cp_sub (P := Try.prog) (ty := 3) insgSl insgEl z2 (hxr.keep z4 (by simp)) h1 (i := 0) (Nat.zero_le _)
    refine ⟨_, w2, by rw [hrl] at q1; exact q1, M.drew_by ?_⟩
    have kd := Keeps.drew [] w2
    have hm1 : min 1 (r.len - 0) * 2 = 2 := by rw [hrl]; omega
    dsimp only at q2
    rw [Nat.zero_mul, hm1, splice_zero, List.take_of_length_le (by omega), hv] at q2
    have k12 : Keeps r.blk w1 w2.drew := q3.and kd.up
    have q2 := q2.keep kd (by simp)
    refine ⟨by omega, by omega, by omega, by omega, by omega, by omega, ?_⟩
    have hvr : Rd 2 w2.drew (s.sub 0 s.len 2) vs := by
      rw [sub_zero]
      exact (ho.rd.keep z4 (by simp)).keep k12 hnr
    obtain ⟨w3, p1, p2, p3⟩ := cp_sub (P := Try.prog) (ty := 3) insgSl insgEl q2 hvr h2 (i := 1) (by omega)
    refine ⟨_, w3, by rw [hrl] at p1; exact p1, ?_, rfl, fun y hy => .inr (by rw [hrb y hy]; omega), ?_⟩
    · have hlz : (v ++ List.drop 2 zs).length = (s.len + 1) * 2 := by
        rw [List.length_append, List.length_drop, z3, hv, ← hrl]; omega
      have hm2 : min (s.sub 0 s.len 2).len (r.len - 1) * 2 = vs.length := by
        rw [sub_zero, hvl, hrl]; simp
      rw [hm2, List.take_length] at p2
      have : splice (v ++ List.drop 2 zs) (1 * 2) vs = v ++ vs := by
        unfold splice
        rw [Nat.one_mul, List.take_left' hv, List.drop_eq_nil_of_le (by rw [hlz, hvl]; omega), List.append_nil]
      rw [this] at p2
      exact p2
    · exact z4.up.trans (k12.and p3) (fun y hy => .inr (by rw [hrb y hy]; exact Nat.le_refl _))
  · have c2 := of_decide_eq_false c2
    have c : s.len ≠ 0 := by simp at c; omega
    have hroom : s.len + 1 ≤ s.cap := by omega
    obtain ⟨g, cur, vs', ga, gh, gs, go, gt⟩ := ho.more hroom
    have hgl := go.rd.len
    rw [sub_zero]
    generalize hs' : (⟨s.a, s.len + 1, s.cap⟩ : SV) = s' at *
    have hsl' : s'.len = s.len + 1 := by subst hs'; rfl
    have hsc' : s'.cap = s.cap := by subst hs'; rfl
    have hsb' : s'.blk = s.blk := by subst hs'; rfl
    have hsa' : s'.a = s.a := by subst hs'; rfl
    refine ⟨by omega, by omega, by omega, by omega, by omega, by omega, false, ?_, M.ite_tt (M.drew_by ?_)⟩
    · have hgx : xb ≠ g := fun h => hx (by simp [SV.blk, ga, h])
      have hsub : (s'.sub 1 s'.len 2).v = .slice (some ⟨g, 1 * 2, none⟩) (s'.len - 1) (s'.cap - 1) := by
        have hne : s'.cap ≠ 1 := by omega
        show Value.slice (s'.sub 1 s'.len 2).a _ _ = _
        simp only [SV.sub, if_neg hne, hsa', ga, Option.map_some, add_mk, Nat.zero_add]
      have hsz : ∀ w, (Go.sizeOf 27).run Try.prog w = .ok 2 w := fun w => sizeB_run (by kernel_rfl) w
      rw [hsub, run_callFunc_extern Try.func52 (by kernel_rfl) (by kernel_rfl) (by kernel_rfl) (e := Extern.SlicesOverlaps.overlaps #[24, 24] #[4]) (by kernel_rfl)]
      have := Lib.run_overlaps_apart (P := Try.prog) w 24 4 27 rfl 2 hsz ⟨xb, 0, none⟩ ⟨g, 1 * 2, none⟩ 1 1 (s'.len - 1) (s'.cap - 1) hgx 27 27 v.length cur.size B.shape (Blk.shape (cs := cur.toList) (by unfold Blk; simpa using gh)) (by rw [gs]; omega) (B.free 0) (B.free v.length)
      simp only [this, Result.andThen_ok]
    · have kd := Keeps.drew [] w
      have goD := go.keep kd (by simp)
      refine ⟨by omega, by omega, by omega, by omega, by omega, by omega, ?_⟩
      have hs1 : ∀ u ∈ vs'.take (s.len * 2), u.oneCell' = true := fun u hu => h2 u (by rw [gt] at hu; exact hu)
      have hm1 : min s'.len (s'.len - 1) * 2 = s.len * 2 := by rw [hsl']; simp
      have hrd : Rd 2 w.drew (s'.sub 0 s'.len 2) vs' := by rw [sub_zero]; exact goD.rd
      obtain ⟨w1, q1, q2, q3⟩ := cp_subT (P := Try.prog) (ty := 3) insgSl insgEl goD hrd (i := 1) (by omega) (by
        rw [sub_zero]
        dsimp only
        rw [hm1]; exact hs1)
      rw [sub_zero] at q1 q2
      dsimp only at q2
      rw [hm1, gt] at q2
      rw [sub_zero]
      refine ⟨_, w1, q1, by omega, by omega, by omega, ?_⟩
      have k01 : Keeps s'.blk w w1 := kd.up.and q3
      have hsp : splice vs' (1 * 2) vs = vs'.take 2 ++ vs := by
        unfold splice
        rw [Nat.one_mul, List.drop_eq_nil_of_le (by rw [hgl, hvl, hsl']; omega), List.append_nil]
      rw [hsp] at q2
      obtain ⟨w2, p1, p2, p3⟩ := cp_sub (P := Try.prog) (ty := 3) insgSl insgEl q2 (hxr.keep k01 (by
        intro y hy h
        simp [SV.blk] at hy
        rw [hsb'] at h
        exact hx (hy ▸ h))) h1 (i := 0) (Nat.zero_le _)
      rw [sub_zero] at p1
      refine ⟨_, w2, p1, ?_, hsl', fun y hy => .inl (by rw [← hsb']; exact hy), by rw [← hsb']; exact k01.and p3⟩
      have hm2 : min 1 (s'.len - 0) * 2 = 2 := by rw [hsl']; omega
      dsimp only at p2
      rw [Nat.zero_mul, hm2, splice_zero, List.take_of_length_le (by omega), hv] at p2
      have hl1 : (vs'.take 2).length = 2 := by rw [List.length_take, hgl, hsl']; omega
      rw [List.drop_left' hl1] at p2
      exact p2
end Go.Proofs.Ytflffabmfoldeaa
