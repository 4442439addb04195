/-
  AspathTells: the package and the reference answer alike.
-/
import Derived.Test.YtflffabmfoldeaaAspV
namespace Go.Proofs.Ytflffabmfoldeaa
set_option linter.unusedVariables false
set_option linter.unusedSimpArgs false
open Go.Sp
open Go.RowKit (Below)

/-- A path cut short. -/
def Shrt (A L : List Sg) : Prop := L.length ≤ 18 ∧ ∀ x ∈ L, x.2.2.length ≤ 257 ∧ ∃ y ∈ A, ∀ n ∈ x.2.2, n ∈ y.2.2
theorem apshort_c {W : World} {s : SV} {A0 : List Sg} (hs0 : Segs W s A0) : Calls Try.prog 26 #[s.v] W (R26 fun r w' => ∃ L : List Sg, Shrt A0 L ∧ Segs w' r L ∧ Keeps [] W w') := by
  have hl0 := hs0.len
  refine F26_ok (M.join_by (fun (J : SV → World → Prop) => ∀ (s : SV) (A : List Sg), Segs W s A → A.length ≤ 18 → (∀ x ∈ A, x ∈ A0) → J s W) (fun s A hs hl18 hsub => ?_) fun J0 hJ0 => ?_)
  · have hl := hs.len
    refine M.loop2_by (fun o x w' => ∃ (i : Nat) (L : List Sg), x = i ∧ i ≤ A.length ∧ L.length = i ∧ Own 27 2 w' o (sgvs L) ∧ (∀ y ∈ o.blk, W.heap.size ≤ y) ∧ Shrt A0 L ∧ (∀ x ∈ L, Rd 1 W x.2.1 (uval x.2.2)) ∧ Keeps [] W w') (fun _ x _ => A.length - x.toNat) ⟨0, [], rfl, by omega, rfl, Own.nil _ _ _, by simp [SV.blk], ⟨by simp, by simp⟩, by simp, Keeps.refl _ _⟩ ?_
    rintro o x w1 J ⟨i, L, rfl, hi, hLi, ho, hof, h6, hin, k1⟩ hJ
    have hs1 := k1.size
    refine M.ite_by (fun c => ?_) (fun c => ?_)
    · have c := of_decide_eq_true c
      have il : i < A.length := by omega
      have ei := List.getElem?_eq_getElem il
      have hm := hsub _ (List.getElem_mem il)
      generalize A[i] = x at *
      have h1 := hs.new k1
      obtain ⟨a, ha⟩ := h1.1.some (by omega)
      have e := sg_at h1.1 ha ei
      have hxl := uval_len (segs_inn h1 ei)
      have hxr := segs_inn hs ei
      refine ⟨a, ha, by omega, by omega, _, e.1, x.2.1, e.2, M.new_blk fun b w2 hb B2 k2 => M.stA_blk B2 rfl fun w3 B3 k3 => ?_⟩
      have k13 : Keeps [] w1 w3 := k2.trans k3 (by simp; omega)
      refine M.join_by (fun (J : World → Prop) => ∀ w' (t : SV) (m : List Int), Blk w' b 27 [.int .i64 x.1, t.v] → Rd 1 W t (uval m) → m.length ≤ 257 → (∀ n ∈ m, n ∈ x.2.2) → Keeps [] w1 w' → J w') (fun w4 t m B4 hr hm2 hmm k4 => ?_) fun J3 hJ3 => ?_
      · refine ⟨_, B4.cell 0, t, B4.cell 1, ?_⟩
        dsimp only
        refine app_g (n := W.heap.size) (w0 := W) (x.1, t, m) (k1.trans k4 (by simp)) (by have := k4.size; omega) (by omega) hof (ho.keep k4 (by simp)) (by omega) fun r w6 o6 f6 k6 => ?_
        rw [w64 (by omega) (by omega)]
        refine hJ _ _ _ ⟨i + 1, _, by omega, by omega, by rw [List.length_append, hLi]; rfl, o6, f6, ⟨by rw [List.length_append, List.length_singleton]; omega, fun z hz => ?_⟩, fun z hz => ?_, k6⟩ (by omega)
        · rcases List.mem_append.1 hz with hz | hz
          · exact h6.2 z hz
          · obtain rfl := List.mem_singleton.1 hz
            exact ⟨hm2, x, hm, hmm⟩
        · rcases List.mem_append.1 hz with hz | hz
          · exact hin z hz
          · obtain rfl := List.mem_singleton.1 hz
            exact hr
      · refine ⟨x.2.1, B3.cell 1, M.ite_by (fun c2 => ?_) (fun c2 => ?_)⟩
        · have c2 := of_decide_eq_true c2
          have hcap := hxr.cap
          refine ⟨x.2.1, B3.cell 1, by omega, by omega, by omega, M.st_blk B3 (by simp) fun w4 B4 k4 => ?_⟩
          have hsb := hxr.sub (l := 0) (u := 257) (Nat.zero_le _) (by omega)
          refine hJ3 w4 (x.2.1.sub 0 257 1) (x.2.2.take 257) B4 (by simpa [uval, List.map_take] using hsb) (by rw [List.length_take]; omega) (fun n hn => List.mem_of_mem_take hn) (k13.trans k4 (by simp; omega))
        · have c2 := of_decide_eq_false c2
          exact hJ3 w3 x.2.1 x.2.2 B3 hxr (by omega) (fun n hn => hn) k13
    · exact ⟨L, h6, ⟨ho.rd, fun x hx => (hin x hx).keep k1 (by simp)⟩, k1⟩
  · refine M.ite_by (fun c => ?_) (fun c => ?_)
    · have c := of_decide_eq_true c
      have hcap := hs0.1.cap
      exact ⟨by omega, by omega, by omega, hJ0 _ _ (hs0.sub (n := 18) (by omega)) (by rw [List.length_take]; omega) (fun x hx => List.mem_of_mem_take hx)⟩
    · have c := of_decide_eq_false c
      exact hJ0 _ _ hs0 (by omega) (fun x hx => hx)
theorem decP_ok {bs : List UInt8} {l : List (Int × List Int)} {ok : Bool} (h : (l, ok) = decP bs) : l.length ≤ 16 ∧ ∀ x ∈ l, x.2.length ≤ 255 := by
  unfold decP at h
  cases hd : decS bs with
  | none =>
    rw [hd] at h
    obtain ⟨rfl, _⟩ := Prod.mk.inj h
    simp
  | some m =>
    rw [hd] at h
    dsimp only at h
    split at h
    · rename_i hr
      obtain ⟨rfl, _⟩ := Prod.mk.inj h
      have := right_of hr
      exact ⟨this.1, fun x hx => (this.2 x hx).2.2⟩
    · obtain ⟨rfl, _⟩ := Prod.mk.inj h
      simp
theorem apread_c {w : World} {s : SV} {bs : List UInt8} (h : Rd 1 w s (bv bs)) (hb : bs.length ≤ 100000) : Calls Try.prog 25 #[s.v] w (R25 fun r w' => r = true ∧ Keeps [] w w') := by
  refine F25_ok ((apdec_c h hb).mono fun e w1 g => ?_)
  obtain ⟨r1, r2, rfl, L, hL, hd, k1⟩ := g
  refine ⟨_, _, rfl, (rdec_c (h.keep k1 (by simp)) hb).mono fun e w2 g => ?_⟩
  obtain ⟨r4, r5, rfl, M3, hM, hd2, k2⟩ := g
  have hok := decP_ok hd
  rw [List.length_map] at hok
  obtain ⟨e1, rfl⟩ := Prod.mk.inj (hd.trans hd2.symm)
  refine ⟨_, _, rfl, M.join_by (fun (J : Bool → World → Prop) => ∀ w', Keeps [] w w' → J true w') (fun w' k' => ⟨rfl, k'⟩) fun J hJ => (segseq_c (hL.new k2).segs hM.segs (by omega) (fun x hx => by
    have : x.2.2.length ≤ 255 := hok.2 (pt x) (List.mem_map_of_mem hx)
    omega)).mono fun e w3 g => ?_⟩
  obtain ⟨r9, rfl, rfl, k3⟩ := g
  rw [e1, (cmpL_zero _ _).2 rfl]
  refine ⟨_, rfl, M.ite_y rfl ?_⟩
  have := hJ _ ((k1.trans k2 (by simp)).trans k3 (by simp))
  rw [show (r2 == r2) = true by simp]
  exact this
theorem count_le (l : List (Int × List Int)) (h : ∀ x ∈ l, x.2.length ≤ 257) : countPt l ≤ 257 * l.length := by
  induction l with
  | nil => simp [countPt]
  | cons x l ih =>
    have h2 := ih (fun y hy => h y (List.mem_cons_of_mem _ hy))
    have h3 := h x List.mem_cons_self
    rw [count_cons, List.length_cons]
    split
    · omega
    · split <;> omega
theorem apsamer_c {w : World} {s t : SV} {A B : List Sg} (hs : Segs w s A) (ht : Segs w t B) (hA : A.length ≤ 18) (hAi : ∀ x ∈ A, x.2.2.length ≤ 257) (av n : Int) :
    Calls Try.prog 23 #[s.v, t.v, .int .u32 av, .int .i64 n] w (R23 fun r w' => r = true ∧ Keeps [] w w') := by
  have hin : ∀ x ∈ A, x.2.2.length ≤ 1000000 := fun x hx => by have := hAi x hx; omega
  have hin5 : ∀ x ∈ A, x.2.2.length ≤ 100000 := fun x hx => by have := hAi x hx; omega
  have h300 : ∀ x ∈ A.map pt, x.2.length ≤ 300 := fun x hx => by
    obtain ⟨y, hy, rfl⟩ := List.mem_map.1 hx
    have : y.2.2.length ≤ 257 := hAi y hy
    show y.2.2.length ≤ 300; omega
  have hcnt := count_le (A.map pt) (fun x hx => by
    obtain ⟨y, hy, rfl⟩ := List.mem_map.1 hx
    exact hAi y hy)
  rw [List.length_map] at hcnt
  refine F23_ok ((first_c hs).mono fun e w1 g => ?_)
  obtain ⟨r1, r2, rfl, he1, k1⟩ := g
  refine ⟨_, _, rfl, (rfirst_c (hs.new k1)).mono fun e w2 g => ?_⟩
  obtain ⟨r4, r5, rfl, he2, k2⟩ := g
  obtain ⟨rfl, rfl⟩ := Prod.mk.inj (he1.trans he2.symm)
  have k02 := k1.trans k2 (by simp)
  refine ⟨_, _, rfl, (apenc_c (hs.new k02) (by omega)).mono fun e w3 g => ?_⟩
  obtain ⟨r7, r8, rfl, g1, g2, k3⟩ := g
  have k03 := k02.trans k3 (by simp)
  refine ⟨_, _, rfl, M.join_by (fun (J : Int → SV → World → Prop) => ∀ x w' cs, Rd 1 w' r7 (bv cs) → Rd 1 w' x (bv cs) → Keeps [] w w' → J r8 x w') (fun x w4 cs hc1 hc2 k4 => ?_) fun J hJ => ?_⟩
  · refine M.join_by (fun (J : Bool → World → Prop) => ∀ w', Keeps [] w w' → J true w') (fun w' k' => ⟨rfl, k'⟩) fun J hJ => ?_
    refine (apright_c (hs.new k4) (by omega)).mono fun e w5 g => ?_
    obtain ⟨q1, rfl, rfl, k5⟩ := g
    have k45 := k5
    refine ⟨_, rfl, (rright_c ((hs.new k4).new k45) (by omega)).mono fun e w6 g => ?_⟩
    obtain ⟨q2, rfl, rfl, k6⟩ := g
    have k46 := k45.trans k6 (by simp)
    refine ⟨_, rfl, M.ite_y (by simp) ((count_c ((hs.new k4).new k46) (by rw [count_pt]; omega) (by omega)).mono fun e w7 g => ?_)⟩
    obtain ⟨q3, rfl, rfl, k7⟩ := g
    have k47 := k46.trans k7 (by simp)
    refine ⟨_, rfl, (rcount_c ((hs.new k4).new k47) (by rw [count_pt]; omega) (by omega)).mono fun e w8 g => ?_⟩
    obtain ⟨q4, rfl, rfl, k8⟩ := g
    have k48 := k47.trans k8 (by simp)
    refine ⟨_, rfl, M.ite_y (by simp) ((aphas_c ((hs.new k4).new k48) (by omega) hin av).mono fun e w9 g => ?_)⟩
    obtain ⟨q5, rfl, rfl, k9⟩ := g
    have k49 := k48.trans k9 (by simp)
    refine ⟨_, rfl, (rhas_c ((hs.new k4).new k49) (by omega) hin av).mono fun e w10 g => ?_⟩
    obtain ⟨q6, rfl, rfl, k10⟩ := g
    have k410 := k49.trans k10 (by simp)
    refine ⟨_, rfl, M.ite_y (by simp) (M.ite_y (by simp) (M.ite_y (by simp) ((prepend_c ((hs.new k4).new k410) (by omega) hin av n).mono fun e w11 g => ?_)))⟩
    obtain ⟨q7, rfl, P, hP, hPe, k11⟩ := g
    have k411 := k410.trans k11 (by simp)
    refine ⟨_, rfl, (rprep_c ((hs.new k4).new k411) (by omega) hin5 av n).mono fun e w12 g => ?_⟩
    obtain ⟨q8, rfl, Q, hQ, hQe, k12⟩ := g
    have k412 := k411.trans k12 (by simp)
    have hPl : P.length ≤ 28 := by
      have h1 := preN_len av (A.map pt) (min (max n 0) 10).toNat
      rw [← hPe, List.length_map, List.length_map] at h1
      omega
    refine ⟨_, rfl, (segseq_c (hP.new k12).segs hQ.segs (by omega) (inn_of hPe (inn_preN av _ h300 _))).mono fun e w13 g => ?_⟩
    obtain ⟨q9, rfl, rfl, k13⟩ := g
    have k413 := k412.trans k13 (by simp)
    refine ⟨_, rfl, M.ite_y (by rw [hPe, hQe, (cmpL_zero _ _).2 rfl]; rfl) ((apsame_c ((hs.new k4).new k413) ((ht.new k4).new k413) (by omega) hin).mono fun e w14 g => ?_)⟩
    obtain ⟨q10, rfl, rfl, k14⟩ := g
    have k414 := k413.trans k14 (by simp)
    refine ⟨_, rfl, (order_c ((hs.new k4).new k414) ((ht.new k4).new k414) (by omega) hin).mono fun e w15 g => ?_⟩
    obtain ⟨q11, rfl, rfl, k15⟩ := g
    have k415 := k414.trans k15 (by simp)
    refine ⟨_, rfl, M.ite_y (by simp) ((apless_c ((hs.new k4).new k415) ((ht.new k4).new k415) (by omega) hin).mono fun e w16 g => ?_)⟩
    obtain ⟨q12, rfl, rfl, k16⟩ := g
    have k416 := k415.trans k16 (by simp)
    refine ⟨_, rfl, (order_c ((hs.new k4).new k416) ((ht.new k4).new k416) (by omega) hin).mono fun e w17 g => ?_⟩
    obtain ⟨q13, rfl, rfl, k17⟩ := g
    have k417 := k416.trans k17 (by simp)
    have := hJ _ (k4.trans k417 (by simp))
    refine ⟨_, rfl, M.ite_y (by simp) ⟨_, b2s_c (hc1.keep k417 (by simp)), _, b2s_c (hc2.keep k417 (by simp)), M.ite_y (by simp) ?_⟩⟩
    rw [show (r8 == r8) = true by simp]
    exact this
  · refine (rright_c (hs.new k03) (by omega)).mono fun e w4 g => ?_
    obtain ⟨q1, rfl, rfl, k4⟩ := g
    have k04 := k03.trans k4 (by simp)
    refine ⟨_, rfl, M.ite_by (fun c => ?_) (fun c => ?_)⟩
    · obtain ⟨rfl, o3, f3⟩ := g1 c
      refine (renc_c (hs.new k04) (by rw [← right_pt]; exact c)).mono fun e w5 g => ?_
      obtain ⟨q2, rfl, o5, _, k5⟩ := g
      exact ⟨_, rfl, hJ _ _ _ ((o3.keep k4 (by simp)).keep k5 (by simp)).rd o5.rd (k04.trans k5 (by simp))⟩
    · obtain ⟨rfl, rfl⟩ := g2 c
      exact hJ _ _ [] (Rd.nil _ _) (Rd.nil _ _) k04
theorem aptells_c {W : World} {s t v : SV} {A B : List Sg} {bs : List UInt8} (hs : Segs W s A) (ht : Segs W t B) (hv : Rd 1 W v (bv bs)) (av n i : Int) (y : Int) :
    Calls Try.prog 8 #[s.v, t.v, .int .u32 av, .int .i64 n, v.v, .int .i64 i, .int .u8 y] W (R8 fun r w' => r = true ∧ Below W.heap.size W w') := by
  refine F8_ok ((apshort_c hs).mono fun e w1 g => ?_)
  obtain ⟨r1, rfl, L, hsL, hL1, k1⟩ := g
  refine ⟨_, rfl, (apshort_c (ht.new k1)).mono fun e w2 g => ?_⟩
  obtain ⟨r3, rfl, M3, hsM, hM2, k2⟩ := g
  have hL2 := hL1.new k2
  have hLl := hsL.1
  have hMl := hsM.1
  have hr1 := hL2.len
  have hr3 := hM2.len
  have hmax : 18 ≤ maxLen := by unfold maxLen; omega
  refine ⟨_, rfl, (apr15_c hL2 (by omega)).mono fun e w3 g => ?_⟩
  obtain ⟨r5, rfl, L5, h6, hL5, k3⟩ := g
  have h5l := h6.1
  refine ⟨_, rfl, (renc_c hL5 (six_right h6)).mono fun e w4 g => ?_⟩
  obtain ⟨r7, rfl, o7, f7, k4⟩ := g
  have hel := six_enc h6
  have k04 := ((k1.trans k2 (by simp)).trans k3 (by simp)).trans k4 (by simp)
  have hs03 := ((k1.trans k2 (by simp)).trans k3 (by simp)).size
  have f7' : ∀ k ∈ r7.blk, W.heap.size ≤ k := fun k hk => by have := f7 k hk; omega
  generalize encP (L5.map pt) = es at *
  have hrl := o7.rd.len
  rw [bv_length, Nat.mul_one] at hrl
  refine ⟨_, rfl, M.join_by (fun (J : Bool → World → Prop) => ∀ w', Keeps [] w4 w' → J false w') (fun w5 k5 => M.ite_ff ?_) fun J hJ => ?_⟩
  · have o7' := o7.keep k5 (by simp)
    have a5 : Aft W w5 := (Aft.refl W).new (k04.trans k5 (by simp))
    refine M.join_by (fun (J : World → Prop) => ∀ w' (es : List UInt8), Own 5 1 w' r7 (bv es) → es.length ≤ 6600 → Aft W w' → J w') (fun w6 es o6 hel6 a6 => ?_) fun J hJ => ?_
    · refine M.join_by (fun (J : Bool → World → Prop) => ∀ w', Aft W w' → J true w') (fun w' a' => ⟨rfl, a'.1⟩) fun J hJ => ?_
      refine (apread_c o6.rd (by omega)).mono fun e w7 g => ?_
      obtain ⟨q1, rfl, rfl, k7⟩ := g
      refine ⟨_, rfl, M.ite_tt ((apknown_a (a6.new k7)).mono fun e w8 g => ?_)⟩
      obtain ⟨q2, rfl, rfl, a8⟩ := g
      exact ⟨_, rfl, hJ _ a8⟩
    · refine M.ite_by (fun c => ?_) (fun c => hJ _ _ o7' hel a5)
      have c := of_decide_eq_true c
      rw [w64 (n := (r7.len : Int) - 1) (by omega) (by omega)]
      refine (within_c i 0 ((r7.len : Int) - 1) (by omega) (by omega) (by omega)).mono fun e w' g => ?_
      obtain ⟨q, rfl, _, hq0, hq1, hw⟩ := g
      obtain rfl := hw.symm
      obtain ⟨j, rfl⟩ : ∃ j : Nat, q = j := ⟨q.toNat, by omega⟩
      have jl : j < es.length := by omega
      have ej := List.getElem?_eq_getElem jl
      generalize es[j] = z at *
      obtain ⟨a, ha⟩ := o7'.rd.some (by omega)
      obtain ⟨cb, hcb⟩ := bXor_u8 (z.toNat : Int) y
      obtain ⟨p1, p2, p3, p4⟩ := o7'.put ha (j := j) (by rw [bv_length]; omega) (Value.int .u8 (bXor .u8 (z.toNat : Int) y))
      refine ⟨_, rfl, M.idx_ld o7'.rd (bv_get ej) ⟨a, ha, by omega, by omega, ?_⟩⟩
      rw [show ((j : Int).toNat * 1) = j by omega]
      refine ⟨p1, p2, hJ _ (es.set j cb) ?_ (by rw [List.length_set]; exact hel) (a5.step p4 f7')⟩
      rw [← bv_set, ← hcb]
      exact p3
  · have hL4 := (hL2.new k3).new k4
    have hM4 := (hM2.new k3).new k4
    have h54 := hL5.new k4
    refine (apsamer_c hL4 hM4 hLl (fun x hx => (hsL.2 x hx).1) av n).mono fun e w5 g => ?_
    obtain ⟨q1, rfl, rfl, k5⟩ := g
    refine ⟨_, rfl, M.ite_n rfl ((apr15_c (hM4.new k5) (by omega)).mono fun e w6 g => ?_)⟩
    obtain ⟨r14, rfl, L14, m6, hL14, k6⟩ := g
    have k46 := k5.trans k6 (by simp)
    refine ⟨_, rfl, (apsamer_c (h54.new k46) hL14 (by omega) (fun x hx => by have := (h6.2 x hx).2.2.1; omega) av n).mono fun e w7 g => ?_⟩
    obtain ⟨q2, rfl, rfl, k7⟩ := g
    have k47 := k46.trans k7 (by simp)
    have hv7 := hv.keep (k04.trans k47 (by simp)) (by simp)
    refine ⟨_, rfl, M.ite_n rfl ((cut_c hv7 200).mono fun e w' g => ?_)⟩
    obtain ⟨r19, rfl, hw, hcut⟩ := g
    obtain rfl := hw.symm
    refine ⟨_, rfl, (apread_c (hcut _ hv7) (by rw [List.length_take]; omega)).mono fun e w8 g => ?_⟩
    obtain ⟨q3, rfl, rfl, k8⟩ := g
    have k48 := k47.trans k8 (by simp)
    refine ⟨_, rfl, M.ite_n rfl ((apread_c (o7.keep k48 (by simp)).rd (by omega)).mono fun e w9 g => ?_)⟩
    obtain ⟨q4, rfl, rfl, k9⟩ := g
    exact ⟨_, rfl, hJ _ (k48.trans k9 (by simp))⟩
theorem aptells_law (W : World) (args : List Value) (h : GdArgs W [(false, .cons (.slice (.cons (.int .i64) (.cons (.slice (.cons (.int .u32) .nil)) .nil))) .nil), (false, .cons (.slice (.cons (.int .i64) (.cons (.slice (.cons (.int .u32) .nil)) .nil))) .nil), (false, .cons (.int .u32) .nil), (false, .cons (.int .i64) .nil), (false, .cons (.slice (.cons (.int .u8) .nil)) .nil), (false, .cons (.int .i64) .nil), (false, .cons (.int .u8) .nil)] args) : Calls Try.prog 8 args.toArray W fun e W' => e = .returned (.bool true) ∧ Below W.heap.size W W' := by
  obtain ⟨v0, r, rfl, h0, h⟩ := h.one
  obtain ⟨v1, r, rfl, h1, h⟩ := h.one
  obtain ⟨v2, r, rfl, h2, h⟩ := h.one
  obtain ⟨v3, r, rfl, h3, h⟩ := h.one
  obtain ⟨v4, r, rfl, h4, h⟩ := h.one
  obtain ⟨v5, r, rfl, h5, h⟩ := h.one
  obtain ⟨v6, r, rfl, h6, h⟩ := h.one
  cases h
  obtain ⟨s, A, rfl, hs, _⟩ := segs_of h0
  obtain ⟨t, B, rfl, ht, _⟩ := segs_of h1
  obtain ⟨av, rfl, _⟩ := good_int h2
  obtain ⟨n, rfl, _⟩ := good_int h3
  obtain ⟨v, bs, rfl, hv, _⟩ := good_bytes h4
  obtain ⟨i, rfl, _⟩ := good_int h5
  obtain ⟨y, rfl, _⟩ := good_int h6
  exact (aptells_c hs ht hv av n i y).mono fun e w' ⟨b, he, hb, hw⟩ => by subst hb; exact ⟨he, hw⟩
end Go.Proofs.Ytflffabmfoldeaa
