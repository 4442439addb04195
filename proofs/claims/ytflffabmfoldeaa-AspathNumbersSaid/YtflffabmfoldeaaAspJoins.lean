/-
  AspathJoins: the bytes of two paths, one behind the other, are those of the two paths one behind the other.
-/
import Derived.Test.YtflffabmfoldeaaAspO
import Derived.Test.YtflffabmfoldeaaAspBack
namespace Go.Proofs.Ytflffabmfoldeaa
set_option linter.unusedVariables false
set_option linter.unusedSimpArgs false
open Go.Sp
open Go.RowKit (Below)

theorem app_gs {w : World} {s x : SV} {L M3 : List Sg} (ho : Own 27 2 w s (sgvs L)) (hx : Rd 2 w x (sgvs M3)) (hb : L.length + M3.length ≤ 1000000) :
    ∃ r w', (Builtin.append_ #[24, 24] 24 #[s.v, x.v]).run Try.prog w = .ok (SV.v r) w' ∧ Own 27 2 w' r (sgvs (L ++ M3)) ∧ Keeps s.blk w w' ∧ (∀ k ∈ r.blk, k ∈ s.blk ∨ w.heap.size ≤ k) := by
  have hl := ho.rd.len
  have hl2 := hx.len
  rw [sgvs_len] at hl hl2
  obtain ⟨r, w', v1, v2, v3, v4, v5⟩ := app_own (P := Try.prog) (ty := 24) insgSl insgEl ho hx (sgvs_one _) (by omega)
  exact ⟨r, w', v1, by rw [sgvs_app]; exact v2, v4, v5⟩
theorem count_app (a b : List (Int × List Int)) : countPt (a ++ b) = countPt a + countPt b := by
  unfold countPt
  rw [List.map_append, List.sum_append]
theorem has_app (a b : List (Int × List Int)) (n : Int) : hasPt (a ++ b) n = (hasPt a n || hasPt b n) := by
  unfold hasPt
  rw [List.any_append]
theorem apjoins_c {W : World} {s t : SV} {A B : List Sg} (hs : Segs W s A) (hsl : s.len ≤ maxLen) (hA : ∀ x ∈ A, ∀ n ∈ x.2.2, 0 ≤ n ∧ n < 4294967296) (ht : Segs W t B) (htl : t.len ≤ maxLen) (hB : ∀ x ∈ B, ∀ n ∈ x.2.2, 0 ≤ n ∧ n < 4294967296) (av : Int) :
    Calls Try.prog 5 #[s.v, t.v, .int .u32 av] W (R5 fun r w' => r = true ∧ Below W.heap.size W w') := by
  refine F5_ok ((apr15_c hs hsl).mono fun e w1 g => ?_)
  obtain ⟨r1, rfl, L, h6, hL1, k1⟩ := g
  refine ⟨_, rfl, (apr15_c (ht.new k1) htl).mono fun e w2 g => ?_⟩
  obtain ⟨r3, rfl, M3, m6, hM2, k2⟩ := g
  have hL2 := hL1.new k2
  have hLl := h6.1
  have hMl := m6.1
  have hrL := six_right h6
  have hrM := six_right m6
  have hwL := six_wf h6 hA
  have hwM := six_wf m6 hB
  have heL := six_enc h6
  have heM := six_enc m6
  refine ⟨_, rfl, (apenc_c hL2 (by omega)).mono fun e w3 g => ?_⟩
  obtain ⟨r5, r6, rfl, g1, _, k3⟩ := g
  obtain ⟨rfl, o3, f3⟩ := g1 (by rw [right_pt]; exact hrL)
  have hM3 := hM2.new k3
  refine ⟨_, _, rfl, (apenc_c hM3 (by omega)).mono fun e w4 g => ?_⟩
  obtain ⟨r8, r9, rfl, g1, _, k4⟩ := g
  obtain ⟨rfl, o4, f4⟩ := g1 (by rw [right_pt]; exact hrM)
  have k04 := ((k1.trans k2 (by simp)).trans k3 (by simp)).trans k4 (by simp)
  refine ⟨_, _, rfl, M.new_by ?_⟩
  obtain ⟨s14, w5, e5, o5, k5, f5⟩ := copy_b (o3.keep k4 (by simp)).rd (by omega)
  refine ⟨s14, w5, e5, ?_⟩
  obtain ⟨s17, w6, e6, o6, k6, f6⟩ := app_b o5 (o4.keep k5 (by simp)).rd (by omega)
  refine ⟨s17, w6, e6, ?_⟩
  have k46 : Keeps [] w4 w6 := k5.trans k6 (fun y hy => .inr (f5 y hy))
  rw [← encP_app] at o6
  have hdec : decP (encP (L.map pt ++ M3.map pt)) = (L.map pt ++ M3.map pt, true) := by
    refine dec_enc ?_ ?_
    · intro x hx
      rcases List.mem_append.1 hx with hx | hx
      · exact hwL x hx
      · exact hwM x hx
    · unfold rightPt
      rw [List.all_append, six_all h6, six_all m6, List.length_append, List.length_map, List.length_map]
      simp; omega
  refine (apdec_c o6.rd (by rw [encP_app, List.length_append]; omega)).mono fun e w7 g => ?_
  obtain ⟨r20, r21, rfl, P, hP, hd, k7⟩ := g
  rw [hdec] at hd
  obtain ⟨hPe, rfl⟩ := Prod.mk.inj hd
  have k07 := (k04.trans k46 (by simp)).trans k7 (by simp)
  have k27 := ((k3.trans k4 (by simp)).trans k46 (by simp)).trans k7 (by simp)
  have hL7 := hL2.new k27
  have hM7 := hM2.new k27
  refine ⟨_, _, rfl, M.new_by ?_⟩
  have ka := Keeps.alloc [] w7 (.cells #[] 27)
  have oa : Own 27 2 (w7.alloc (.cells #[] 27)) ⟨some ⟨w7.heap.size, 0, none⟩, 0, 0⟩ (sgvs []) := Own.new w7 27 2 0 [] rfl (by decide)
  obtain ⟨s26, w8, e8, o8, k8, f8⟩ := app_gs oa (hL7.new ka).1 (by simp; omega)
  refine ⟨s26, w8, e8, ?_⟩
  have hb26 : ∀ y ∈ s26.blk, w7.heap.size ≤ y := fun y hy => by
    rcases f8 y hy with h | h
    · simp [SV.blk] at h; omega
    · have := ka.size; omega
  have k78 : Keeps [] w7 w8 := ka.trans k8 (fun y hy => by simp [SV.blk] at hy; right; omega)
  obtain ⟨s29, w9, e9, o9, k9, f9⟩ := app_gs o8 (hM7.new k78).1 (by simp; omega)
  refine ⟨s29, w9, e9, ?_⟩
  have k79 : Keeps [] w7 w9 := k78.trans k9 (fun y hy => .inr (hb26 y hy))
  have hL9 := hL7.new k79
  have hM9 := hM7.new k79
  have hP9 := hP.segs.new k79
  have hS9 : Segs w9 s29 (L ++ M3) := ⟨o9.rd, fun x hx => by
    rcases List.mem_append.1 hx with hx | hx
    · exact hL9.2 x hx
    · exact hM9.2 x hx⟩
  have k09 := k07.trans k79 (by simp)
  have hPl : P.length = L.length + M3.length := by
    have := congrArg List.length hPe
    rwa [List.length_append, List.length_map, List.length_map, List.length_map] at this
  have hPin : ∀ x ∈ P, x.2.2.length ≤ 1000000 := inn_of hPe (fun x hx => by
    rcases List.mem_append.1 hx with hx | hx
    · exact six_300 h6 x hx
    · exact six_300 m6 x hx)
  have hcL := count_six h6
  have hcM := count_six m6
  have hcP : countPt (P.map pt) = countPt (L.map pt) + countPt (M3.map pt) := by rw [hPe, count_app]
  refine M.join_by (fun (J : Bool → World → Prop) => ∀ w', Keeps [] W w' → J true w') (fun w' k' => ⟨rfl, ((Aft.refl W).new k').1⟩) fun J hJ => ?_
  refine M.ite_y rfl (M.ite_y rfl (M.ite_y rfl ((segseq_c hP9 hS9 (by omega) hPin).mono fun e w10 g => ?_)))
  obtain ⟨r37, rfl, rfl, k10⟩ := g
  refine ⟨_, rfl, M.ite_y (by rw [hPe, List.map_append, (cmpL_zero _ _).2 rfl]; rfl) ((count_c (hP9.new k10) (by rw [count_pt, hcP]; omega) (by omega)).mono fun e w11 g => ?_)⟩
  obtain ⟨r40, rfl, rfl, k11⟩ := g
  have k911 := k10.trans k11 (by simp)
  refine ⟨_, rfl, (count_c (hL9.new k911) (by rw [count_pt]; omega) (by omega)).mono fun e w12 g => ?_⟩
  obtain ⟨r42, rfl, rfl, k12⟩ := g
  have k912 := k911.trans k12 (by simp)
  refine ⟨_, rfl, (count_c (hM9.new k912) (by rw [count_pt]; omega) (by omega)).mono fun e w13 g => ?_⟩
  obtain ⟨r44, rfl, rfl, k13⟩ := g
  have k913 := k912.trans k13 (by simp)
  refine ⟨_, rfl, M.ite_y (by rw [count_pt, count_pt, count_pt, hcP, w64 (by omega) (by omega)]; simp) ((aphas_c (hP9.new k913) (by omega) hPin av).mono fun e w14 g => ?_)⟩
  obtain ⟨r47, rfl, rfl, k14⟩ := g
  have k914 := k913.trans k14 (by simp)
  refine ⟨_, rfl, (aphas_c (hL9.new k914) (by omega) (six_in h6) av).mono fun e w15 g => ?_⟩
  obtain ⟨r49, rfl, rfl, k15⟩ := g
  have k915 := k914.trans k15 (by simp)
  rw [has_pt P, hPe, has_app, has_pt L]
  refine ⟨_, rfl, M.ite_by (fun c => ?_) (fun c => ?_)⟩
  · refine M.ite_y (by rw [c]; rfl) (apknown_c.mono fun e w16 g => ?_)
    obtain ⟨r53, rfl, rfl, k16⟩ := g
    exact ⟨_, rfl, hJ _ ((k09.trans k915 (by simp)).trans k16 (by simp))⟩
  · refine (aphas_c (hM9.new k915) (by omega) (six_in m6) av).mono fun e w16 g => ?_
    obtain ⟨r55, rfl, rfl, k16⟩ := g
    refine ⟨_, rfl, M.ite_y (by rw [c, has_pt M3]; simp) (apknown_c.mono fun e w17 g => ?_)⟩
    obtain ⟨r58, rfl, rfl, k17⟩ := g
    exact ⟨_, rfl, hJ _ (((k09.trans k915 (by simp)).trans k16 (by simp)).trans k17 (by simp))⟩
theorem apjoins_law (W : World) (args : List Value) (h : GdArgs W [(false, .cons (.slice (.cons (.int .i64) (.cons (.slice (.cons (.int .u32) .nil)) .nil))) .nil), (false, .cons (.slice (.cons (.int .i64) (.cons (.slice (.cons (.int .u32) .nil)) .nil))) .nil), (false, .cons (.int .u32) .nil)] args) : Calls Try.prog 5 args.toArray W fun e W' => e = .returned (.bool true) ∧ Below W.heap.size W W' := by
  obtain ⟨v0, r, rfl, h0, h⟩ := h.one
  obtain ⟨v1, r, rfl, h1, h⟩ := h.one
  obtain ⟨v2, r, rfl, h2, h⟩ := h.one
  cases h
  obtain ⟨s, A, rfl, hs, hsl, hA⟩ := segs_of h0
  obtain ⟨t, B, rfl, ht, htl, hB⟩ := segs_of h1
  obtain ⟨n, rfl, _⟩ := good_int h2
  exact (apjoins_c hs hsl hA ht htl hB n).mono fun e w' ⟨b, he, hb, hw⟩ => by subst hb; exact ⟨he, hw⟩
end Go.Proofs.Ytflffabmfoldeaa
