/-
  What the reference puts ahead of a path; the bytes it makes.
-/
import Derived.Test.YtflffabmfoldeaaAspQ
namespace Go.Proofs.Ytflffabmfoldeaa
set_option linter.unusedVariables false
set_option linter.unusedSimpArgs false
open Go.Sp

theorem encH_cells (k : Int) (n : Nat) (l : List Int) (hl : l.length = n) : bv (encH (k, l)) = [Value.int .u8 (IntKind.u8.wrap k), Value.int .u8 (IntKind.u8.wrap (n : Int))] := by
  unfold encH
  rw [bv_append, lowB1, lowB1, hl]
  rfl
theorem renc_c {w : World} {s : SV} {L : List Sg} (h : Segs w s L) (hr : rightPt (L.map pt) = true) :
    Calls Try.prog 24 #[s.v] w (R24 fun r w' => Own 5 1 w' r (bv (encP (L.map pt))) ∧ (∀ k ∈ r.blk, w.heap.size ≤ k) ∧ Keeps [] w w') := by
  have hl := h.len
  have hr := right_of hr
  have hlen16 : L.length ≤ 16 := by have := hr.1; rwa [List.length_map] at this
  refine F24_ok (M.loop2_by (fun o x w' => ∃ i : Nat, x = i ∧ i ≤ L.length ∧ Own 5 1 w' o (bv (encP ((L.take i).map pt))) ∧ (∀ k ∈ o.blk, w.heap.size ≤ k) ∧ Keeps [] w w') (fun _ x _ => L.length - x.toNat) ⟨0, rfl, by omega, Own.nil _ _ _, by simp [SV.blk], Keeps.refl _ _⟩ ?_)
  rintro o x w1 J ⟨i, rfl, hi, ho, hof, k1⟩ hJ
  refine M.ite_by (fun c1 => ?_) (fun c1 => ?_)
  · have c1 := of_decide_eq_true c1
    have il : i < L.length := by omega
    have ei := List.getElem?_eq_getElem il
    have hm := List.getElem_mem il
    have htk : L.take (i + 1) = L.take i ++ [L[i]] := by rw [List.take_add_one, ei]; rfl
    have hxn := hr.2 _ (List.mem_map_of_mem (f := pt) hm)
    generalize L[i] = x at *
    have hxn : (x.1 = 1 ∨ x.1 = 2) ∧ 1 ≤ x.2.2.length ∧ x.2.2.length ≤ 255 := hxn
    have hen := encP_len ((L.take i).map pt) (fun y hy => (hr.2 y (by
      obtain ⟨z, hz, rfl⟩ := List.mem_map.1 hy
      exact List.mem_map_of_mem (List.mem_of_mem_take hz))).2.2)
    rw [List.length_map, List.length_take] at hen
    refine M.drew_by ?_
    have kd := Keeps.drew [] w1
    have k2 := k1.trans kd (by simp)
    have o2 := ho.keep kd (by simp)
    generalize w1.drew = w2 at *
    have h2 := h.new k2
    obtain ⟨a, ha⟩ := h2.1.some (by omega)
    have e := sg_at h2.1 ha ei
    have hxl := uval_len (segs_inn h2 ei)
    refine ⟨a, ha, by omega, by omega, a, ha, by omega, by omega, _, e.1, x.2.1, e.2, M.new_by ?_⟩
    have hcells := encH_cells x.1 x.2.1.len x.2.2 (by omega)
    have ka := Keeps.alloc [] w2 (.cells #[Value.int .u8 (IntKind.u8.wrap x.1), Value.int .u8 (IntKind.u8.wrap (x.2.1.len : Int))] 5)
    have hn := (Own.new w2 5 1 2 (bv (encH (pt x))) (by rw [bv_length, encH_len]) (by decide)).rd
    rw [show bv (encH (pt x)) = [Value.int .u8 (IntKind.u8.wrap x.1), Value.int .u8 (IntKind.u8.wrap (x.2.1.len : Int))] from hcells] at hn
    obtain ⟨r5, w5, e5, o5, k5, f5⟩ := app_b (news := encH (pt x)) (o2.keep ka (by simp)) (by rw [show bv (encH (pt x)) = [Value.int .u8 (IntKind.u8.wrap x.1), Value.int .u8 (IntKind.u8.wrap (x.2.1.len : Int))] from hcells]; exact hn) (by rw [encH_len]; omega)
    have hs2 := k2.size
    have f5' : ∀ k ∈ r5.blk, w.heap.size ≤ k := fun k hk => by
      rcases f5 k hk with h | h
      · exact hof k h
      · have := ka.size; omega
    have k05 : Keeps [] w w5 := (k2.trans ka (by simp)).trans k5 (fun y hy => .inr (hof y hy))
    refine ⟨r5, w5, e5, M.loop2_by (fun o y w' => ∃ j : Nat, y = j ∧ j ≤ x.2.2.length ∧ Own 5 1 w' o (bv (encP ((L.take i).map pt) ++ encH (pt x) ++ encN (x.2.2.take j))) ∧ (∀ k ∈ o.blk, w.heap.size ≤ k) ∧ Keeps [] w w') (fun _ y _ => x.2.2.length - y.toNat) ⟨0, rfl, by omega, by rw [List.take_zero, show encN [] = [] from rfl, List.append_nil]; exact o5, f5', k05⟩ ?_⟩
    clear o5 f5' k05 f5 e5 k5
    rintro o3 y w8 J2 ⟨j, rfl, hj, o8, f8, k8⟩ hJ2
    have h8 := h.new k8
    have e8 := sg_at h8.1 ha ei
    refine ⟨a, ha, by omega, by omega, x.2.1, e8.2, M.ite_by (fun c2 => ?_) (fun c2 => ?_)⟩
    · have c2 := of_decide_eq_true c2
      have jl : j < x.2.2.length := by omega
      have ej := List.getElem?_eq_getElem jl
      have htj : x.2.2.take (j + 1) = x.2.2.take j ++ [x.2.2[j]] := by rw [List.take_add_one, ej]; rfl
      generalize x.2.2[j] = z at *
      refine ⟨a, ha, by omega, by omega, x.2.1, e8.2, M.idx_ld (segs_inn h8 ei) (uval_get ej) ((bu32_c o8.rd z (by rw [List.length_append, List.length_append, encH_len, encN_len, List.length_take]; omega)).mono fun e w9 g => ?_)⟩
      obtain ⟨r9, rfl, o9, k9, f9⟩ := g
      refine ⟨_, rfl, ?_⟩
      rw [w64 (by omega) (by omega)]
      refine hJ2 _ _ _ ⟨j + 1, by omega, by omega, ?_, fun k hk => by have := f9 k hk; have := k8.size; omega, k8.trans k9 (by simp)⟩ (by omega)
      rw [htj, encN_app, show encN [z] = lowB z 4 by simp [encN], ← List.append_assoc]
      exact o9
    · have c2 := of_decide_eq_false c2
      obtain rfl : j = x.2.2.length := by omega
      rw [w64 (by omega) (by omega)]
      refine hJ _ _ _ ⟨i + 1, by omega, by omega, ?_, f8, k8⟩ (by omega)
      rw [List.take_length] at o8
      rw [htk, List.map_append, encP_app, List.map_singleton, encP_one, ← List.append_assoc]
      exact o8
  · have c1 := of_decide_eq_false c1
    obtain rfl : i = L.length := by omega
    rw [List.take_length] at ho
    exact ⟨ho, hof, k1⟩
/-- The reference: a new part at the head. -/
theorem rprep_new {n : Nat} {w0 w : World} {s : SV} {L : List Sg} (h : OwnP n w s L) (k0 : Keeps [] w0 w) (hn : n = w0.heap.size) (hb : L.length ≤ 900000) (av : Int) {K : SV → World → Prop} (hK : ∀ r w' (x : Sg), pt x = (2, [av]) → OwnP n w' r (x :: L) → Keeps [] w0 w' → K r w') :
    M.new (.cells #[Value.int .u32 av] 23) w fun b1 w1 => M.new (.cells #[Value.int .i64 2, (SV.mk (some b1) 1 1).v] 27) w1 fun b2 w2 => M.app Try.prog 24 24 24 (SV.mk (some b2) 1 1) s.v w2 K := by
  have hsl := h.len
  have hs0 := k0.size
  refine M.new_by ?_
  have k1 := Keeps.alloc [] w (.cells #[Value.int .u32 av] 23)
  have o1 := Own.new w 23 1 1 (uval [av]) rfl (by decide)
  have hs1 : (w.alloc (.cells #[Value.int .u32 av] 23)).heap.size = w.heap.size + 1 := by simp
  generalize hw1 : w.alloc (.cells #[Value.int .u32 av] 23) = w1 at *
  have o1 : Own 23 1 w1 ⟨some ⟨w.heap.size, 0, none⟩, 1, 1⟩ (uval [av]) := by rw [← hw1]; exact o1
  refine M.new_by ?_
  generalize hx : ((2, ⟨some ⟨w.heap.size, 0, none⟩, 1, 1⟩, [av]) : Sg) = x
  have k2 := Keeps.alloc [] w1 (.cells #[Value.int .i64 2, (SV.mk (some ⟨w.heap.size, 0, none⟩) 1 1).v] 27)
  have o2 := Own.new w1 27 2 1 (sgvs [x]) rfl (by decide)
  have hcs : (sgvs [x]).toArray = #[Value.int .i64 2, (SV.mk (some ⟨w.heap.size, 0, none⟩) 1 1).v] := by subst hx; rfl
  rw [hcs] at o2
  have k02 := k1.trans k2 (by simp)
  have h2 := h.new k02
  have hs2 : (w1.alloc (.cells #[Value.int .i64 2, (SV.mk (some ⟨w.heap.size, 0, none⟩) 1 1).v] 27)).heap.size = w1.heap.size + 1 := by simp
  generalize w1.alloc (.cells #[Value.int .i64 2, (SV.mk (some ⟨w.heap.size, 0, none⟩) 1 1).v] 27) = w2 at *
  obtain ⟨r, w', v1, v2, v4, v5⟩ := app_gs o2 h2.out.rd (by simp; omega)
  have hrf : ∀ y ∈ r.blk, w1.heap.size ≤ y := fun y hy => by
    rcases v5 y hy with h4 | h4
    · simp [SV.blk] at h4; omega
    · omega
  have kk : Keeps [] w w' := k02.trans v4 (fun y hy => by simp [SV.blk] at hy; right; omega)
  have hnb : ∀ y, y < w1.heap.size → y ∉ (SV.mk (some ⟨w1.heap.size, 0, none⟩) 1 1).blk := fun y hy hm => by simp [SV.blk] at hm; omega
  refine ⟨r, w', v1, hK r w' x (by subst hx; rfl) ⟨v2, ?_, ?_, ?_, ?_, ?_⟩ (k0.trans kk (by simp))⟩
  · intro z hz
    rcases List.mem_cons.1 hz with rfl | hz
    · subst hx
      exact (o1.keep k2 (by simp)).keep v4 (fun y hy => hnb y (by simp [SV.blk] at hy; omega))
    · exact (h.inn z hz).keep kk (by simp)
  · intro y hy
    have := hrf y hy; omega
  · intro z hz y hy
    rcases List.mem_cons.1 hz with rfl | hz
    · subst hx
      simp [SV.blk] at hy; omega
    · exact h.lowi z hz y hy
  · intro z hz y hy hm
    have h3 := hrf y hm
    rcases List.mem_cons.1 hz with rfl | hz
    · subst hx
      simp [SV.blk] at hy; omega
    · have := h.mem hz y hy; omega
  · rw [List.pairwise_cons]
    refine ⟨fun z hz y hy hm => ?_, h.pair⟩
    subst hx
    simp [SV.blk] at hy
    have := h.mem hz y hm; omega
/-- The reference: one number more in the part at the head. -/
theorem rprep_in {n : Nat} {w0 w : World} {s : SV} {x : Sg} {m : List Sg} (h : OwnP n w s (x :: m)) (k0 : Keeps [] w0 w) (hn : n = w0.heap.size) (hb : x.2.2.length ≤ 1000) (av : Int) {K : World → Prop} (hK : ∀ w' (r : SV), OwnP n w' s ((x.1, r, av :: x.2.2) :: m) → Keeps [] w0 w' → K w') :
    M.new (.cells #[Value.int .u32 av] 23) w fun b1 w1 => M.idx s (0 : Int) 2 fun a => M.ld SV.v ((a.add ((0 : Int).toNat * 2)).add 1) w1 fun t => M.app Try.prog 25 25 25 (SV.mk (some b1) 1 1) t.v w1 fun r w2 => M.idx s (0 : Int) 2 fun a => M.st ((a.add ((0 : Int).toNat * 2)).add 1) r.v w2 K := by
  have hsl := h.len
  have hs0 := k0.size
  simp only [List.length_cons] at hsl
  obtain ⟨a, ha⟩ := h.out.rd.some (by omega)
  have hx : x ∈ x :: m := List.mem_cons_self
  have hxo := h.inn x hx
  refine M.new_by ?_
  have k1 := Keeps.alloc [] w (.cells #[Value.int .u32 av] 23)
  have e := sg_at (h.out.keep k1 (by simp)).rd ha (i := 0) rfl
  obtain ⟨r4, w4, e4, o4, k4, f4⟩ := copy_u [av] hxo.rd (by simp; omega)
  refine ⟨a, ha, by omega, by omega, x.2.1, e.2, r4, w4, e4, ?_⟩
  have h4 := h.new k4
  have hpw := List.pairwise_cons.1 h.pair
  have hr4s : ∀ y ∈ r4.blk, y ∉ s.blk := fun y hy hm => by
    have := f4 y hy
    have := h.out.lt y hm; omega
  have hvl : 1 < (sgvs (x :: m)).length := by simp [sgvs, sgv]
  obtain ⟨p1, p2, p3, p4⟩ := h4.out.put ha (j := 1) hvl r4.v
  rw [sgvs_set2 x m r4 (av :: x.2.2)] at p3
  have ez : a.add ((0 : Int).toNat * 2) = a := add_zero a
  have k04 : Keeps [] w0 w4 := k0.trans k4 (by simp)
  refine ⟨a, ha, by omega, by omega, ?_⟩
  dsimp only
  rw [ez]
  refine ⟨p1, p2, hK _ r4 ⟨p3, ?_, h.low, ?_, ?_, ?_⟩ (k04.trans p4 (fun y hy => .inr (by have := h.low y hy; omega)))⟩
  · intro z hz
    rcases List.mem_cons.1 hz with rfl | hz
    · exact o4.keep p4 hr4s
    · exact (h4.inn z (List.mem_cons_of_mem _ hz)).keep p4 (h.apart z (List.mem_cons_of_mem _ hz))
  · intro z hz y hy
    rcases List.mem_cons.1 hz with rfl | hz
    · have := f4 y hy; omega
    · exact h.lowi z (List.mem_cons_of_mem _ hz) y hy
  · intro z hz y hy
    rcases List.mem_cons.1 hz with rfl | hz
    · exact hr4s y hy
    · exact h.apart z (List.mem_cons_of_mem _ hz) y hy
  · rw [List.pairwise_cons]
    refine ⟨fun z hz y hy hm => ?_, hpw.2⟩
    have := f4 y hy
    have := h.mem (List.mem_cons_of_mem _ hz) y hm; omega
theorem rprep_c {w : World} {s : SV} {L : List Sg} (h : Segs w s L) (hn : L.length ≤ 100000) (hin : ∀ x ∈ L, x.2.2.length ≤ 100000) (av n : Int) :
    Calls Try.prog 46 #[s.v, .int .u32 av, .int .i64 n] w (R46 fun r w' => ∃ L' : List Sg, OwnP w.heap.size w' r L' ∧ L'.map pt = preN av (min (max n 0) 10).toNat (L.map pt) ∧ Keeps [] w w') := by
  refine F46_ok ((rcopy_c h hn hin).mono fun e w1 g => ?_)
  obtain ⟨r1, rfl, L1, hP1, hL1, k1⟩ := g
  refine ⟨_, rfl, M.loop2_by (fun o x w' => ∃ (i : Nat) (L' : List Sg), x = i ∧ (i : Int) ≤ min (max n 0) 10 ∧ OwnP w.heap.size w' o L' ∧ L'.map pt = preN av i (L.map pt) ∧ Keeps [] w w') (fun _ x _ => 10 - x.toNat) ⟨0, L1, rfl, by omega, hP1, hL1, k1⟩ ?_⟩
  clear hP1 hL1 k1
  rintro o x w2 J ⟨i, L', rfl, hi, hP, hL', k2⟩ hJ
  refine M.join_lt (fun hx1 hx2 => ?_) (fun hend => ?_)
  · have hlen : L'.length ≤ 100000 + 10 := by
      have h1 := congrArg List.length hL'
      have h2 := preN_len av (L.map pt) i
      rw [List.length_map] at h1 h2
      omega
    have hol := hP.len
    refine M.join_by (fun (J : SV → World → Prop) => ∀ r w' (L2 : List Sg), OwnP w.heap.size w' r L2 → L2.map pt = pre1 (L'.map pt) av → Keeps [] w w' → J r w') (fun r w' L2 hP2 hL2 k' => ?_) fun J2 hJ2 => ?_
    · rw [w64 (by omega) (by omega)]
      exact hJ _ _ _ ⟨i + 1, L2, by omega, by omega, hP2, by rw [hL2, hL']; rfl, k'⟩ (by omega)
    · refine M.join_by (fun (J : Bool → World → Prop) => J (headOk (L'.map pt)) w2) (M.ite_by (fun c1 => ?_) (fun c1 => ?_)) fun J3 hJ3 => ?_
      · cases L' with
        | nil => cases c1
        | cons x m' =>
          obtain ⟨q1, q2, q3⟩ := pre1_in c1 av
          exact rprep_in hP k2 rfl (by show x.2.2.length ≤ 1000; have : x.2.2.length < 255 := q2; omega) av fun w' r hP' k' => hJ2 o w' _ hP' (by
            show (x.1, av :: x.2.2) :: m'.map pt = _
            have : x.1 = 2 := q1
            rw [this]
            exact q3.symm) k'
      · have c1 : headOk (L'.map pt) = false := c1
        exact rprep_new hP k2 rfl (by omega) av fun r w' x hx hP' k' => hJ2 r w' _ hP' (by rw [pre1_new c1, List.map_cons, hx]) k'
      · cases L' with
        | nil => exact M.ite_n (by simp at hol; rw [hol]; rfl) hJ3
        | cons x m' =>
          simp only [List.length_cons] at hol
          obtain ⟨a, ha⟩ := hP.out.rd.some (by omega)
          have e := sg_at hP.out.rd ha (i := 0) rfl
          have hxl := uval_len (hP.inn x List.mem_cons_self).rd
          have hJ3 : J3 (x.1 == 2 && decide (x.2.2.length < 255)) w2 := hJ3
          refine M.ite_y (decide_eq_true (by omega)) ⟨a, ha, by omega, by omega, _, e.1, M.ite_by (fun c1 => ?_) (fun c1 => ?_)⟩
          · rw [c1, Bool.true_and] at hJ3
            refine ⟨a, ha, by omega, by omega, x.2.1, e.2, ?_⟩
            dsimp only
            rw [show decide ((x.2.1.len : Int) < 255) = decide (x.2.2.length < 255) by apply decide_eq_decide.2; omega]
            exact hJ3
          · rw [c1, Bool.false_and] at hJ3; exact hJ3
  · have : i = (min (max n 0) 10).toNat := by omega
    rw [← this]
    exact ⟨L', hP, hL', k2⟩
end Go.Proofs.Ytflffabmfoldeaa
