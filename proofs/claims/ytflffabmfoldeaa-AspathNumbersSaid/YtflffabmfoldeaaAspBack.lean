/-
  AspathBack: a path's bytes give the path back; bytes that a path comes out of are its bytes.
-/
import Derived.Test.YtflffabmfoldeaaAspB
namespace Go.Proofs.Ytflffabmfoldeaa
set_option linter.unusedVariables false
set_option linter.unusedSimpArgs false
open Go.Sp
open Go.RowKit (Below)

theorem six_wf {A L : List Sg} (h : Six A L) (hA : ∀ x ∈ A, ∀ n ∈ x.2.2, 0 ≤ n ∧ n < 4294967296) : wfP (L.map pt) := fun x hx => by
  obtain ⟨y, hy, rfl⟩ := List.mem_map.1 hx
  obtain ⟨h1, h2, h3, z, hz, h4⟩ := h.2 y hy
  have h3' : y.2.2.length ≤ 255 := by omega
  exact ⟨h1, h2, h3', fun n hn => hA z hz n (h4 n hn)⟩
theorem six_right {A L : List Sg} (h : Six A L) : rightPt (L.map pt) = true := by
  unfold rightPt
  rw [six_all h, List.length_map]
  have := h.1
  simp; omega
theorem dec_enc {l : List (Int × List Int)} (h : wfP l) (hr : rightPt l = true) : decP (encP l) = (l, true) := by
  unfold decP
  rw [decS_enc l h]
  simp [hr]
theorem six_enc {A L : List Sg} (h : Six A L) : (encP (L.map pt)).length ≤ 6600 := by
  have h1 := encP_len (L.map pt) (fun x hx => by
    obtain ⟨y, hy, rfl⟩ := List.mem_map.1 hx
    have : y.2.2.length ≤ 6 := (h.2 y hy).2.2.1
    show y.2.2.length ≤ 255; omega)
  rw [List.length_map] at h1
  have := h.1
  omega
theorem apback_c {W : World} {s t v : SV} {A B : List Sg} {bs : List UInt8} (hs : Segs W s A) (hsl : s.len ≤ maxLen) (hA : ∀ x ∈ A, ∀ n ∈ x.2.2, 0 ≤ n ∧ n < 4294967296) (ht : Segs W t B) (htl : t.len ≤ maxLen) (hB : ∀ x ∈ B, ∀ n ∈ x.2.2, 0 ≤ n ∧ n < 4294967296) (hv : Rd 1 W v (bv bs)) :
    Calls Try.prog 6 #[s.v, t.v, v.v] W (R6 fun r w' => r = true ∧ Below W.heap.size W w') := by
  refine F6_ok ((apr15_c hs hsl).mono fun e w1 g => ?_)
  obtain ⟨r1, rfl, L, h6, hL1, k1⟩ := g
  refine ⟨_, rfl, (apr15_c (ht.new k1) htl).mono fun e w2 g => ?_⟩
  obtain ⟨r3, rfl, M3, m6, hM2, k2⟩ := g
  have hL2 := hL1.new k2
  have hLl := h6.1
  have hMl := m6.1
  have hrL := six_right h6
  have hrM := six_right m6
  have hwL := six_wf h6 hA
  have hwM := six_wf m6 hB
  have heL := six_enc h6
  refine ⟨_, rfl, (apenc_c hL2 (by omega)).mono fun e w3 g => ?_⟩
  obtain ⟨r5, r6, rfl, g1, _, k3⟩ := g
  obtain ⟨rfl, o3, f3⟩ := g1 (by rw [right_pt]; exact hrL)
  have hM3 := hM2.new k3
  refine ⟨_, _, rfl, (apenc_c hM3 (by omega)).mono fun e w4 g => ?_⟩
  obtain ⟨r8, r9, rfl, g1, _, k4⟩ := g
  obtain ⟨rfl, o4, f4⟩ := g1 (by rw [right_pt]; exact hrM)
  refine ⟨_, _, rfl, (apdec_c (o3.keep k4 (by simp)).rd (by omega)).mono fun e w5 g => ?_⟩
  obtain ⟨r11, r12, rfl, P, hP, hd, k5⟩ := g
  rw [dec_enc hwL hrL] at hd
  obtain ⟨hPe, rfl⟩ := Prod.mk.inj hd
  have k05 := (((k1.trans k2 (by simp)).trans k3 (by simp)).trans k4 (by simp)).trans k5 (by simp)
  have hPl : P.length = L.length := by
    have := congrArg List.length hPe
    rwa [List.length_map, List.length_map] at this
  have hPin : ∀ x ∈ P, x.2.2.length ≤ 1000000 := inn_of hPe (six_300 h6)
  refine ⟨_, _, rfl, M.join_by (fun (J : Bool → World → Prop) => ∀ w', Keeps [] W w' → J false w') (fun w6 k6 => M.ite_ff ?_) fun J hJ => ?_⟩
  · have hv6 := hv.keep k6 (by simp)
    refine (cut_c hv6 300).mono fun e w' g => ?_
    obtain ⟨r36, rfl, hw, hcut⟩ := g
    obtain rfl := hw.symm
    have h36 := hcut _ hv6
    refine ⟨_, rfl, (apdec_c h36 (by rw [List.length_take]; omega)).mono fun e w7 g => ?_⟩
    obtain ⟨r38, r39, rfl, Q, hQ, hdq, k7⟩ := g
    have hQl := hQ.len
    have h36' := h36.keep k7 (by simp)
    generalize bs.take 300 = cs at *
    have k07 := k6.trans k7 (by simp)
    refine ⟨_, _, rfl, M.ite_by (fun c => ?_) (fun c => ?_)⟩
    · subst c
      have hdec : decS cs = some (Q.map pt) ∧ rightPt (Q.map pt) = true := by
        unfold decP at hdq
        cases hds : decS cs with
        | none => rw [hds] at hdq; exact absurd (Prod.mk.inj hdq).2 (by simp)
        | some l =>
          rw [hds] at hdq
          dsimp only at hdq
          split at hdq
          · rename_i hr
            obtain ⟨rfl, _⟩ := Prod.mk.inj hdq
            exact ⟨rfl, hr⟩
          · exact absurd (Prod.mk.inj hdq).2 (by simp)
      have hrq := right_of hdec.2
      have hQ16 : Q.length ≤ 16 := by have := hrq.1; rwa [List.length_map] at this
      refine (apenc_c hQ.segs (by omega)).mono fun e w8 g => ?_
      obtain ⟨r42, r43, rfl, g1, _, k8⟩ := g
      obtain ⟨rfl, o8, f8⟩ := g1 (by rw [right_pt]; exact hdec.2)
      rw [enc_decS _ cs (Nat.le_refl _) _ hdec.1] at o8
      refine ⟨_, _, rfl, M.join_by (fun (J : Bool → World → Prop) => ∀ w', Keeps [] W w' → J true w') (fun w' k' => ⟨rfl, ((Aft.refl W).new k').1⟩) fun J hJ => ?_⟩
      refine M.ite_y rfl ⟨_, b2s_c o8.rd, _, b2s_c (h36'.keep k8 (by simp)), M.ite_y (by simp) ((apright_c (hQ.segs.new k8) (by omega)).mono fun e w9 g => ?_)⟩
      obtain ⟨r53, rfl, rfl, k9⟩ := g
      refine ⟨_, rfl, M.ite_y (by rw [right_pt]; exact hdec.2) (apknown_c.mono fun e w10 g => ?_)⟩
      obtain ⟨r56, rfl, rfl, k10⟩ := g
      exact ⟨_, rfl, hJ _ (((k07.trans k8 (by simp)).trans k9 (by simp)).trans k10 (by simp))⟩
    · subst c
      have hq0 : Q.length = 0 := by
        unfold decP at hdq
        cases hds : decS cs with
        | none =>
          rw [hds] at hdq
          have := congrArg List.length (Prod.mk.inj hdq).1
          rwa [List.length_map] at this
        | some l =>
          rw [hds] at hdq
          dsimp only at hdq
          split at hdq
          · cases hdq
          · have := congrArg List.length (Prod.mk.inj hdq).1
            rwa [List.length_map] at this
      refine M.join_by (fun (J : Bool → World → Prop) => ∀ w', Keeps [] W w' → J true w') (fun w' k' => ⟨rfl, ((Aft.refl W).new k').1⟩) fun J hJ => ?_
      refine M.ite_y (by rw [hQl, hq0]; rfl) (apknown_c.mono fun e w10 g => ?_)
      obtain ⟨r56, rfl, rfl, k10⟩ := g
      exact ⟨_, rfl, hJ _ (k07.trans k10 (by simp))⟩
  · refine M.drew_by ?_
    have kd := Keeps.drew [] w5
    have o3d := ((o3.keep k4 (by simp)).keep k5 (by simp)).keep kd (by simp)
    have o4d := (o4.keep k5 (by simp)).keep kd (by simp)
    have hPd := hP.segs.new kd
    have hLd := (((hL2.new k3).new k4).new k5).new kd
    have hMd := ((hM3.new k4).new k5).new kd
    have k06 := k05.trans kd (by simp)
    generalize w5.drew = w6 at *
    refine M.ite_n rfl (M.ite_n rfl (M.ite_n rfl ((apsame_c hPd hLd (by omega) hPin).mono fun e w7 g => ?_)))
    obtain ⟨r20, rfl, rfl, k7⟩ := g
    refine ⟨_, rfl, M.ite_n (by rw [hPe, (cmpL_zero _ _).2 rfl]; rfl) ⟨_, b2s_c (o3d.keep k7 (by simp)).rd, _, b2s_c (o4d.keep k7 (by simp)).rd, (apsame_c (hLd.new k7) (hMd.new k7) (by omega) (six_in h6)).mono fun e w8 g => ?_⟩⟩
    obtain ⟨r27, rfl, rfl, k8⟩ := g
    refine ⟨_, rfl, b2s_c ((o4d.keep k7 (by simp)).keep k8 (by simp)).rd, b2s_c ((o3d.keep k7 (by simp)).keep k8 (by simp)).rd, ?_⟩
    have e1 : (((baOf (encP (L.map pt))).toList == (baOf (encP (M3.map pt))).toList) == (cmpL (L.map pt) (M3.map pt) == 0)) = true := by
      rw [baOf_toList, baOf_toList]
      by_cases h : L.map pt = M3.map pt
      · rw [h, (cmpL_zero _ _).2 rfl]; simp
      · rw [beq_false_of_ne (fun h' => h (encP_inj hwL hwM h')), beq_false_of_ne (fun h' => h ((cmpL_zero _ _).1 h'))]; rfl
    rw [e1]
    exact hJ _ ((k06.trans k7 (by simp)).trans k8 (by simp))
theorem apback_law (W : World) (args : List Value) (h : GdArgs W [(false, .cons (.slice (.cons (.int .i64) (.cons (.slice (.cons (.int .u32) .nil)) .nil))) .nil), (false, .cons (.slice (.cons (.int .i64) (.cons (.slice (.cons (.int .u32) .nil)) .nil))) .nil), (false, .cons (.slice (.cons (.int .u8) .nil)) .nil)] args) : Calls Try.prog 6 args.toArray W fun e W' => e = .returned (.bool true) ∧ Below W.heap.size W W' := by
  obtain ⟨v0, r, rfl, h0, h⟩ := h.one
  obtain ⟨v1, r, rfl, h1, h⟩ := h.one
  obtain ⟨v2, r, rfl, h2, h⟩ := h.one
  cases h
  obtain ⟨s, A, rfl, hs, hsl, hA⟩ := segs_of h0
  obtain ⟨t, B, rfl, ht, htl, hB⟩ := segs_of h1
  obtain ⟨v, bs, rfl, hv, _⟩ := good_bytes h2
  exact (apback_c hs hsl hA ht htl hB hv).mono fun e w' ⟨b, he, hb, hw⟩ => by subst hb; exact ⟨he, hw⟩
end Go.Proofs.Ytflffabmfoldeaa
