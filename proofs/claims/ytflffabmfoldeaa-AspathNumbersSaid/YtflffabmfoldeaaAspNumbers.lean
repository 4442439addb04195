/-
  AspathNumbers: chapter 6's runs, and paths at each bound.
-/
import Derived.Test.YtflffabmfoldeaaAspTells
namespace Go.Proofs.Ytflffabmfoldeaa
set_option linter.unusedVariables false
set_option linter.unusedSimpArgs false
open Go.Sp
open Go.RowKit (Below)

theorem encP_len2 (l : List (Int × List Int)) (h : ∀ x ∈ l, x.2.length ≤ 257) : (encP l).length ≤ 1100 * l.length := by
  induction l with
  | nil => simp [encP]
  | cons x l ih =>
    have h1 := ih (fun y hy => h y (List.mem_cons_of_mem _ hy))
    have h2 := h x List.mem_cons_self
    rw [show x :: l = [x] ++ l from rfl, encP_app, encP_one, List.length_append, List.length_append, encN_len, encH_len, List.length_append, List.length_singleton]
    omega
/-- The reference's bytes of a path that may not be right. -/
theorem renc_w {w : World} {s : SV} {L : List Sg} (h : Segs w s L) (h18 : L.length ≤ 18) (hin : ∀ x ∈ L, x.2.2.length ≤ 257) :
    Calls Try.prog 24 #[s.v] w (R24 fun r w' => Own 5 1 w' r (bv (encP (L.map pt))) ∧ (∀ k ∈ r.blk, w.heap.size ≤ k) ∧ Keeps [] w w') := by
  have hl := h.len
  refine F24_ok (M.loop2_by (fun o x w' => ∃ i : Nat, x = i ∧ i ≤ L.length ∧ Own 5 1 w' o (bv (encP ((L.take i).map pt))) ∧ (∀ k ∈ o.blk, w.heap.size ≤ k) ∧ Keeps [] w w') (fun _ x _ => L.length - x.toNat) ⟨0, rfl, by omega, Own.nil _ _ _, by simp [SV.blk], Keeps.refl _ _⟩ ?_)
  rintro o x w1 J ⟨i, rfl, hi, ho, hof, k1⟩ hJ
  refine M.ite_by (fun c1 => ?_) (fun c1 => ?_)
  · have c1 := of_decide_eq_true c1
    have il : i < L.length := by omega
    have ei := List.getElem?_eq_getElem il
    have hm := List.getElem_mem il
    have htk : L.take (i + 1) = L.take i ++ [L[i]] := by rw [List.take_add_one, ei]; rfl
    have hxn := hin _ hm
    generalize L[i] = x at *
    have hen := encP_len2 ((L.take i).map pt) (fun y hy => by
      obtain ⟨z, hz, rfl⟩ := List.mem_map.1 hy
      exact hin z (List.mem_of_mem_take hz))
    rw [List.length_map, List.length_take] at hen
    refine M.drew_by ?_
    have kd := Keeps.drew [] w1
    have k2 := k1.trans kd (by simp)
    have o2 := ho.keep kd (by simp)
    generalize w1.drew = w2 at *
    have h2 := h.new k2
    obtain ⟨a, ha⟩ := h2.1.some (by omega)
    have e := sg_at h2.1 ha ei
    have hxl := uval_len (segs_inn h2 ei)
    refine ⟨a, ha, by omega, by omega, a, ha, by omega, by omega, _, e.1, x.2.1, e.2, M.new_by ?_⟩
    have hcells := encH_cells x.1 x.2.1.len x.2.2 (by omega)
    have ka := Keeps.alloc [] w2 (.cells #[Value.int .u8 (IntKind.u8.wrap x.1), Value.int .u8 (IntKind.u8.wrap (x.2.1.len : Int))] 5)
    have hn := (Own.new w2 5 1 2 (bv (encH (pt x))) (by rw [bv_length, encH_len]) (by decide)).rd
    rw [show bv (encH (pt x)) = [Value.int .u8 (IntKind.u8.wrap x.1), Value.int .u8 (IntKind.u8.wrap (x.2.1.len : Int))] from hcells] at hn
    obtain ⟨r5, w5, e5, o5, k5, f5⟩ := app_b (news := encH (pt x)) (o2.keep ka (by simp)) (by rw [show bv (encH (pt x)) = [Value.int .u8 (IntKind.u8.wrap x.1), Value.int .u8 (IntKind.u8.wrap (x.2.1.len : Int))] from hcells]; exact hn) (by rw [encH_len]; omega)
    have hs2 := k2.size
    have f5' : ∀ k ∈ r5.blk, w.heap.size ≤ k := fun k hk => by
      rcases f5 k hk with h | h
      · exact hof k h
      · have := ka.size; omega
    have k05 : Keeps [] w w5 := (k2.trans ka (by simp)).trans k5 (fun y hy => .inr (hof y hy))
    refine ⟨r5, w5, e5, M.loop2_by (fun o y w' => ∃ j : Nat, y = j ∧ j ≤ x.2.2.length ∧ Own 5 1 w' o (bv (encP ((L.take i).map pt) ++ encH (pt x) ++ encN (x.2.2.take j))) ∧ (∀ k ∈ o.blk, w.heap.size ≤ k) ∧ Keeps [] w w') (fun _ y _ => x.2.2.length - y.toNat) ⟨0, rfl, by omega, by rw [List.take_zero, show encN [] = [] from rfl, List.append_nil]; exact o5, f5', k05⟩ ?_⟩
    clear o5 f5' k05 f5 e5 k5
    rintro o3 y w8 J2 ⟨j, rfl, hj, o8, f8, k8⟩ hJ2
    have h8 := h.new k8
    have e8 := sg_at h8.1 ha ei
    refine ⟨a, ha, by omega, by omega, x.2.1, e8.2, M.ite_by (fun c2 => ?_) (fun c2 => ?_)⟩
    · have c2 := of_decide_eq_true c2
      have jl : j < x.2.2.length := by omega
      have ej := List.getElem?_eq_getElem jl
      have htj : x.2.2.take (j + 1) = x.2.2.take j ++ [x.2.2[j]] := by rw [List.take_add_one, ej]; rfl
      generalize x.2.2[j] = z at *
      refine ⟨a, ha, by omega, by omega, x.2.1, e8.2, M.idx_ld (segs_inn h8 ei) (uval_get ej) ((bu32_c o8.rd z (by rw [List.length_append, List.length_append, encH_len, encN_len, List.length_take]; omega)).mono fun e w9 g => ?_)⟩
      obtain ⟨r9, rfl, o9, k9, f9⟩ := g
      refine ⟨_, rfl, ?_⟩
      rw [w64 (by omega) (by omega)]
      refine hJ2 _ _ _ ⟨j + 1, by omega, by omega, ?_, fun k hk => by have := f9 k hk; have := k8.size; omega, k8.trans k9 (by simp)⟩ (by omega)
      rw [htj, encN_app, show encN [z] = lowB z 4 by simp [encN], ← List.append_assoc]
      exact o9
    · have c2 := of_decide_eq_false c2
      obtain rfl : j = x.2.2.length := by omega
      rw [w64 (by omega) (by omega)]
      refine hJ _ _ _ ⟨i + 1, by omega, by omega, ?_, f8, k8⟩ (by omega)
      rw [List.take_length] at o8
      rw [htk, List.map_append, encP_app, List.map_singleton, encP_one, ← List.append_assoc]
      exact o8
  · have c1 := of_decide_eq_false c1
    obtain rfl : i = L.length := by omega
    rw [List.take_length] at ho
    exact ⟨ho, hof, k1⟩
/-- A path that is not too long. -/
def Pth (w : World) (s : SV) : Prop := ∃ A : List Sg, Segs w s A ∧ A.length ≤ 18 ∧ ∀ x ∈ A, x.2.2.length ≤ 257
theorem Pth.new {w w' : World} {s : SV} (h : Pth w s) (k : Keeps [] w w') : Pth w' s := by
  obtain ⟨A, h1, h2⟩ := h
  exact ⟨A, h1.new k, h2⟩
theorem rd_of_blk {w : World} {b sz n : Nat} {T : TypeId} {cs : List Value} (h : Blk w b T cs) (hl : cs.length = n * sz) : Rd sz w (SV.mk (some ⟨b, 0, none⟩) n n) cs :=
  ⟨hl, Nat.le_refl _, fun h => (by cases h), fun a ha i v hv => by
    obtain rfl := Option.some.inj ha
    rw [add_mk, Nat.zero_add, h.cell]; exact hv⟩
theorem Pth.nil (w : World) : Pth w SV.nil := ⟨[], ⟨Rd.nil _ _, by simp⟩, by simp, by simp⟩
theorem Pth.of {w : World} {b n : Nat} {cs : List Value} (A : List Sg) (h : Blk w b 27 cs) (hc : cs = sgvs A) (hn : A.length = n) (h18 : n ≤ 18) (hA : ∀ x ∈ A, x.2.2.length ≤ 257 ∧ Rd 1 w x.2.1 (uval x.2.2)) : Pth w (SV.mk (some ⟨b, 0, none⟩) n n) := by
  subst hc
  exact ⟨A, ⟨rd_of_blk h (by rw [sgvs_len, hn]), fun x hx => (hA x hx).2⟩, by omega, fun x hx => (hA x hx).1⟩
theorem Pth.one {w : World} {b : Nat} {k : Int} {t : SV} {l : List Int} (h : Blk w b 27 [.int .i64 k, t.v]) (ht : Rd 1 w t (uval l)) (hl : l.length ≤ 257) : Pth w (SV.mk (some ⟨b, 0, none⟩) 1 1) :=
  Pth.of [(k, t, l)] h rfl rfl (by omega) (fun x hx => by obtain rfl := List.mem_singleton.1 hx; exact ⟨hl, ht⟩)
theorem uval_zeros (n : Nat) : (List.replicate n (Value.int .u32 0).cells.toList).flatten = uval (List.replicate n 0) := by
  unfold uval
  induction n with
  | zero => rfl
  | succ n ih => rw [List.replicate_succ, List.flatten_cons, ih, List.replicate_succ]; rfl
/-- Sixteen parts and one, each of a number or of none. -/
theorem seg_zeros (n : Nat) : (List.replicate n (Value.agg #[.int .i64 0, .slice none 0 0]).cells.toList).flatten = sgvs (List.replicate n ((0, SV.nil, []) : Sg)) := by
  unfold sgvs
  induction n with
  | zero => rfl
  | succ n ih => rw [List.replicate_succ, List.flatten_cons, ih, List.replicate_succ]; rfl
theorem sgvs_put (L : List Sg) (i : Nat) (x : Sg) (h : i < L.length) : ((sgvs L).set (i * 2) (Value.int .i64 x.1)).set (i * 2 + 1) x.2.1.v = sgvs (L.set i x) := by
  induction L generalizing i with
  | nil => simp at h
  | cons y L ih =>
    cases i with
    | zero => rfl
    | succ i =>
      have := ih i (by simpa using h)
      rw [show (i + 1) * 2 = i * 2 + 1 + 1 by omega]
      show sgv y ++ ((sgvs L).set (i * 2) _).set (i * 2 + 1) _ = sgv y ++ sgvs (L.set i x)
      rw [this]
theorem apnum_c {W : World} : Calls Try.prog 7 #[] W (R7 fun r w' => r = true ∧ Below W.heap.size W w') := by
  obtain ⟨w2, e2, o2, k2, z2⟩ := mk_own (P := Try.prog) (t := 25) (e := 23) (z := .int .u32 0) insuSl insuEl (by kernel_rfl) (w := W) (n := 255) (by decide)
  obtain ⟨w5, e5, o5, k5, z5⟩ := mk_own (P := Try.prog) (t := 25) (e := 23) (z := .int .u32 0) insuSl insuEl (by kernel_rfl) (w := w2) (n := 256) (by decide)
  obtain ⟨w8, e8, o8, k8, z8⟩ := mk_own (P := Try.prog) (t := 24) (e := 27) (z := .agg #[.int .i64 0, .slice none 0 0]) insgSl insgEl (by kernel_rfl) (w := w5) (n := 17) (by decide)
  rw [uval_zeros] at o2 o5
  rw [seg_zeros] at o8
  generalize hs1 : (SV.mk (some ⟨W.heap.size, 0, none⟩) 255 255) = s1 at *
  generalize hs4 : (SV.mk (some ⟨w2.heap.size, 0, none⟩) 256 256) = s4 at *
  generalize hs7 : (SV.mk (some ⟨w5.heap.size, 0, none⟩) 17 17) = s7 at *
  have hl1 : s1.len = 255 := by subst hs1; rfl
  have hc1 : s1.cap = 255 := by subst hs1; rfl
  have hl7 : s7.len = 17 := by subst hs7; rfl
  have hc7 : s7.cap = 17 := by subst hs7; rfl
  have f7 : ∀ k ∈ s7.blk, k = w5.heap.size := fun k hk => by
    rw [← hs7] at hk
    exact List.mem_singleton.1 hk
  have r1 : Rd 1 w8 s1 (uval (List.replicate 255 0)) := (o2.rd.keep k5 (by simp)).keep k8 (by simp)
  have r4 : Rd 1 w8 s4 (uval (List.replicate 256 0)) := o5.rd.keep k8 (by simp)
  have k08 := (k2.trans k5 (by simp)).trans k8 (by simp)
  have hq1 := k2.size
  have hq2 := k5.size
  refine F7_ok ⟨s1, w2, e2, s4, w5, e5, s7, w8, e8, ?_⟩
  refine M.loop1_by (fun x w' => ∃ (i : Nat) (L : List Sg), x = i ∧ i ≤ 17 ∧ L.length = 17 ∧ Own 27 2 w' s7 (sgvs L) ∧ (∀ x ∈ L, x.2.2.length ≤ 1 ∧ Rd 1 w' x.2.1 (uval x.2.2) ∧ ∀ k ∈ x.2.1.blk, k ∉ s7.blk) ∧ Rd 1 w' s1 (uval (List.replicate 255 0)) ∧ Rd 1 w' s4 (uval (List.replicate 256 0)) ∧ Keeps [] W w') (fun x _ => 17 - x.toNat) ⟨0, _, rfl, by omega, List.length_replicate, o8, fun x hx => ?_, r1, r4, k08⟩ ?_
  · obtain rfl := List.eq_of_mem_replicate hx
    exact ⟨Nat.zero_le _, Rd.nil _ _, fun k hk => by cases hk⟩
  clear o8 r1 r4 k08
  have b1 : ∀ k ∈ s1.blk, k ∉ s7.blk := fun k hk h => by
    have := f7 k h
    rw [← hs1] at hk
    have : k = W.heap.size := List.mem_singleton.1 hk
    omega
  have b4 : ∀ k ∈ s4.blk, k ∉ s7.blk := fun k hk h => by
    have := f7 k h
    rw [← hs4] at hk
    have : k = w2.heap.size := List.mem_singleton.1 hk
    omega
  rintro x w12 J ⟨i, L, rfl, hi, hL, o12, hin, r1, r4, k12⟩ hJ
  refine M.ite_by (fun c => ?_) (fun c => ?_)
  · have c := of_decide_eq_true c
    refine newn_k (n := 1) (sz := 1) (cs := uval [IntKind.u32.wrap (i : Int)]) rfl (by omega) k12 fun b w24 g1 g2 o24 k24 k024 => ?_
    obtain ⟨a, ha⟩ := o12.rd.some (by omega)
    have o12' := o12.keep k24 (by simp)
    obtain ⟨p1, p2, p3, p4⟩ := o12'.put ha (j := i * 2) (by rw [sgvs_len, hL]; omega) (Value.int .i64 1)
    obtain ⟨q1, q2, q3, q4⟩ := p3.put ha (j := i * 2 + 1) (by rw [List.length_set, sgvs_len, hL]; omega) (SV.v (SV.mk (some ⟨b, 0, none⟩) 1 1))
    rw [sgvs_put L i (1, SV.mk (some ⟨b, 0, none⟩) 1 1, [IntKind.u32.wrap (i : Int)]) (by omega)] at q3
    have k31 := p4.and q4
    have hs7b : ∀ k ∈ s7.blk, k < w12.heap.size := o12.lt
    have hd : ∀ {s : SV} {vs : List Value}, Rd 1 w12 s vs → (∀ k ∈ s.blk, k ∉ s7.blk) → Rd 1 _ s vs := fun h hn => (h.keep k24 (by simp)).keep k31 hn
    have ea : (a.add (i * 2)).add 0 = a.add (i * 2) := add_zero _
    have ea1 : (a.add (i * 2)).add (0 + 1) = a.add (i * 2 + 1) := by rw [add_add]
    refine ⟨a, ha, by omega, by omega, ⟨?_, ?_⟩⟩
    · rw [Int.toNat_natCast]
      refine ⟨by rw [ea]; exact p1, by rw [ea]; exact p2, ?_⟩
      rw [ea]
      exact ⟨by rw [ea1]; exact q1, by rw [ea1]; exact q2, trivial⟩
    · rw [Int.toNat_natCast]
      simp only [stCs]
      rw [ea, ea1, w64 (by omega) (by omega)]
      have hbn : ∀ k ∈ (SV.mk (some ⟨b, 0, none⟩) 1 1).blk, k ∉ s7.blk := fun k hk h => by
        have := hs7b k h
        simp [SV.blk] at hk
        have := k24.size
        omega
      refine hJ _ _ ⟨i + 1, _, by omega, by omega, by rw [List.length_set]; exact hL, q3, fun y hy => ?_, hd r1 b1, hd r4 b4, k024.trans k31 (fun y hy => .inr (by have := f7 y hy; omega))⟩ (by omega)
      rcases List.mem_or_eq_of_mem_set hy with hy | rfl
      · obtain ⟨h1, h2, h3⟩ := hin y hy
        exact ⟨h1, hd h2 h3, h3⟩
      · exact ⟨by simp, o24.rd.keep k31 hbn, hbn⟩
  · clear hJ
    refine M.drew_by ⟨by omega, by omega, by omega, by omega, by omega, by omega, ?_⟩
    intro b45 b49 b53 b57 b61 b65 b69 b73 b77 b81 b85 b89 b93 b97 b101 b105 b109 b113 w115 k115 B45 B49 B53 B57 B61 B65 B69 B73 B77 B81 B85 B89 B93 B97 B101 B105 B109 B113
    have kk : Keeps [] w12 w115 := (Keeps.drew [] w12).trans k115 (by simp)
    have r1 := r1.keep kk (by simp)
    have r4 := r4.keep kk (by simp)
    have S7 : Segs w115 s7 L := ⟨o12.rd.keep kk (by simp), fun x hx => (hin x hx).2.1.keep kk (by simp)⟩
    have K115 := k12.trans kk (by simp)
    have P7 : Pth w115 s7 := ⟨L, S7, by omega, fun x hx => by have := (hin x hx).1; omega⟩
    have P7' : Pth w115 (SV.sub s7 0 16 2) := ⟨L.take 16, S7.sub (n := 16) (by omega), by rw [List.length_take]; omega, fun x hx => by have := (hin x (List.mem_of_mem_take hx)).1; omega⟩
    have r1' : Rd 1 w115 (SV.sub s1 0 254 1) (uval (List.replicate 254 0)) := by
      have := r1.sub (l := 0) (u := 254) (by omega) (by omega)
      unfold uval at this ⊢
      rw [Nat.zero_mul, List.drop_zero, ← List.map_take, List.take_replicate] at this
      exact this
    clear hin o12 k12 kk k115 S7
    have T : ∀ i : Nat, i < 14 → ∃ s : SV, w115.cell? ⟨b113, i, none⟩ = some s.v ∧ Pth w115 s := by
      intro i hi
      have hp : ∀ j s, [SV.nil, _, _, _, _, _, _, _, s7, _, _, _, _, _][j]? = some s → w115.cell? ⟨b113, j, none⟩ = some (SV.v s) := fun j s h => by
        rw [B113.cell]
        have := congrArg (Option.map SV.v) h
        rw [← List.getElem?_map] at this
        exact this
      match i, hi with
      | 0, _ => exact ⟨_, hp 0 _ rfl, Pth.nil _⟩
      | 1, _ => exact ⟨_, hp 1 _ rfl, Pth.one (l := []) B45 (Rd.nil _ _) (by simp)⟩
      | 2, _ => exact ⟨_, hp 2 _ rfl, Pth.one (l := []) B49 (Rd.nil _ _) (by simp)⟩
      | 3, _ => exact ⟨_, hp 3 _ rfl, Pth.one (l := []) B53 (Rd.nil _ _) (by simp)⟩
      | 4, _ => exact ⟨_, hp 4 _ rfl, Pth.one (l := [1]) B61 (rd_of_blk B57 rfl) (by simp)⟩
      | 5, _ => exact ⟨_, hp 5 _ rfl, Pth.one B65 r1 (by rw [List.length_replicate]; omega)⟩
      | 6, _ => exact ⟨_, hp 6 _ rfl, Pth.one B69 r4 (by rw [List.length_replicate]; omega)⟩
      | 7, _ => exact ⟨_, hp 7 _ rfl, Pth.one B73 r1' (by rw [List.length_replicate]; omega)⟩
      | 8, _ => exact ⟨_, hp 8 _ rfl, P7⟩
      | 9, _ => exact ⟨_, hp 9 _ rfl, P7'⟩
      | 10, _ => exact ⟨_, hp 10 _ rfl, Pth.of [(1, SV.mk (some ⟨b77, 0, none⟩) 2 2, [5, 5]), (2, SV.mk (some ⟨b81, 0, none⟩) 1 1, [5])] B85 rfl rfl (by omega) (fun x hx => by
          simp only [List.mem_cons, List.not_mem_nil, or_false] at hx
          rcases hx with rfl | rfl
          · exact ⟨by simp, rd_of_blk B77 rfl⟩
          · exact ⟨by simp, rd_of_blk B81 rfl⟩)⟩
      | 11, _ => exact ⟨_, hp 11 _ rfl, Pth.one (l := [5]) B93 (rd_of_blk B89 rfl) (by simp)⟩
      | 12, _ => exact ⟨_, hp 12 _ rfl, Pth.one (l := [5, 6]) B101 (rd_of_blk B97 rfl) (by simp)⟩
      | 13, _ => exact ⟨_, hp 13 _ rfl, Pth.one (l := [6]) B109 (rd_of_blk B105 rfl) (by simp)⟩
      | n + 14, h => omega
    clear P7 P7' r1 r1' r4 B45 B49 B53 B57 B61 B65 B69 B73 B77 B81 B85 B89 B93 B97 B101 B105 B109 B113
    refine M.loop1_by (fun x w' => ∃ i : Nat, x = i ∧ i ≤ 14 ∧ Keeps [] w115 w') (fun x _ => 14 - x.toNat) ⟨0, rfl, by omega, Keeps.refl _ _⟩ ?_
    rintro x w122 J ⟨i, rfl, hi, k122⟩ hJ
    have hidx : ∀ {j : Nat} {w : World} {K : SV → Prop}, j < 14 → Keeps [] w115 w → (∀ s, Pth w s → K s) → M.idx (SV.mk (some ⟨b113, 0, none⟩) 14 14) (j : Int) 1 fun a => M.ld SV.v (a.add ((j : Int).toNat * 1)) w K := fun {j w K} hj k hK => by
      obtain ⟨s, hs1, hs2⟩ := T j hj
      refine ⟨_, rfl, by omega, by show (j : Int) < ((14 : Nat) : Int); omega, s, ?_, hK s (hs2.new k)⟩
      rw [Int.toNat_natCast, Nat.mul_one, add_mk, Nat.zero_add]
      exact k.cell hs1 (by simp)
    refine M.ite_by (fun c => ?_) (fun c => ?_)
    · have c : (i : Int) < ((14 : Nat) : Int) := of_decide_eq_true c
      refine M.loop1_by (fun x w' => ∃ j : Nat, x = j ∧ j ≤ 14 ∧ Keeps [] w115 w') (fun x _ => 14 - x.toNat) ⟨0, rfl, by omega, k122⟩ ?_
      rintro x w134 J1 ⟨j, rfl, hj, k134⟩ hJ1
      refine M.ite_by (fun c1 => ?_) (fun c1 => ?_)
      · have c1 : (j : Int) < ((14 : Nat) : Int) := of_decide_eq_true c1
        refine newn_k (n := 6) (sz := 1) (cs := [(-1 : Int), 0, 1, 2, 10, 11].map (Value.int .i64)) rfl (by omega) k134 fun b w145 g1 g2 o145 k145 k0145 => ?_
        generalize hns : [(-1 : Int), 0, 1, 2, 10, 11] = ns at o145
        refine M.loop1_by (fun x w' => ∃ n : Nat, x = n ∧ n ≤ 6 ∧ Keeps [] w145 w') (fun x _ => 6 - x.toNat) ⟨0, rfl, by omega, Keeps.refl _ _⟩ ?_
        rintro x w150 J2 ⟨n, rfl, hn, k150⟩ hJ2
        have k0150 := k0145.trans k150 (by simp)
        refine M.ite_by (fun c2 => ?_) (fun c2 => ?_)
        · have c2 : (n : Int) < ((6 : Nat) : Int) := of_decide_eq_true c2
          have hnl : n < ns.length := by subst hns; show n < 6; omega
          refine M.idx_ld (o145.rd.keep k150 (by simp)) (j := n) (x := ns[n]) (by simp [hnl]) (M.drew_by ?_)
          have k170 := k0150.trans (Keeps.drew [] w150) (by simp)
          obtain ⟨s, hs1, hs2⟩ := T i (by omega)
          obtain ⟨t, ht1, ht2⟩ := T j (by omega)
          refine ⟨_, rfl, by omega, c, _, rfl, by omega, c1, s, ?_, t, ?_, ?_⟩
          · rw [Int.toNat_natCast, Nat.mul_one, add_mk, Nat.zero_add]
            exact k170.cell hs1 (by simp)
          · rw [Int.toNat_natCast, Nat.mul_one, add_mk, Nat.zero_add]
            exact k170.cell ht1 (by simp)
          · obtain ⟨A, hA, hA1, hA2⟩ := hs2.new k170
            obtain ⟨B, hB, _, _⟩ := ht2.new k170
            refine (apsamer_c hA hB hA1 hA2 5 _).mono fun e w184 g => ?_
            obtain ⟨r, rfl, rfl, k184⟩ := g
            refine ⟨_, rfl, M.ite_n rfl ?_⟩
            rw [w64 (by omega) (by omega)]
            exact hJ2 _ _ ⟨n + 1, by omega, by omega, (k150.trans (Keeps.drew [] w150) (by simp)).trans k184 (by simp)⟩ (by omega)
        · rw [w64 (by omega) (by omega)]
          exact hJ1 _ _ ⟨j + 1, by omega, by omega, k0150⟩ (by omega)
      · refine hidx (by omega) k134 fun s hs => ?_
        obtain ⟨A, hA, hA1, hA2⟩ := hs
        refine (renc_w hA hA1 hA2).mono fun e w193 g => ?_
        obtain ⟨r, rfl, or, fr, k193⟩ := g
        have hlen := encP_len2 (A.map pt) (fun y hy => by
          obtain ⟨z, hz, rfl⟩ := List.mem_map.1 hy
          exact hA2 z hz)
        rw [List.length_map] at hlen
        generalize encP (A.map pt) = bs at *
        have hrl := or.rd.len
        rw [bv_length, Nat.mul_one] at hrl
        have k0193 := k134.trans k193 (by simp)
        refine ⟨_, rfl, M.join_by (fun (J : Bool → World → Prop) => ∀ w', Keeps [] w115 w' → J false w') (fun w' k' => M.ite_ff ?_) fun J3 hJ3 => ?_⟩
        · rw [w64 (by omega) (by omega)]
          exact hJ _ _ ⟨i + 1, by omega, by omega, k'⟩ (by omega)
        · refine (apread_c or.rd (by omega)).mono fun e w197 g => ?_
          obtain ⟨q, rfl, rfl, k197⟩ := g
          have k0197 := k0193.trans k197 (by simp)
          refine ⟨_, rfl, M.ite_n rfl (M.ite_by (fun c3 => ?_) (fun c3 => hJ3 _ k0197))⟩
          have c3 := of_decide_eq_true c3
          have hcap := or.rd.cap
          have r197 := or.rd.keep k197 (by simp)
          rw [w64 (n := (r.len : Int) - 1) (by omega) (by omega)]
          have hsub := r197.sub (l := 0) (u := r.len - 1) (by omega) (by omega)
          rw [Nat.zero_mul, List.drop_zero, bv_take] at hsub
          rw [show ((r.len : Int) - 1).toNat = r.len - 1 by omega, show (Int.toNat 0) = 0 from rfl]
          refine ⟨by omega, by omega, by omega, (apread_c hsub (by rw [List.length_take]; omega)).mono fun e w205 g => ?_⟩
          obtain ⟨q, rfl, rfl, k205⟩ := g
          have k0205 := k0197.trans k205 (by simp)
          refine ⟨_, rfl, M.ite_n rfl ?_⟩
          refine newn_k (n := 0) (sz := 1) (cs := bv []) rfl (by omega) k0205 fun b9 w207 g3 g4 o207 k207 k0207 => ?_
          obtain ⟨s210, w211, e211, o211, k211, f211⟩ := app_b o207 ((r197.keep k205 (by simp)).keep k207 (by simp)) (by simp; omega)
          rw [List.nil_append] at o211
          have hb9 : ∀ y ∈ (SV.mk (some ⟨b9, 0, none⟩) 0 0).blk, w115.heap.size ≤ y := fun y hy => by
            simp [SV.blk] at hy
            have := k0205.size; omega
          have k0211 : Keeps [] w115 w211 := k0207.trans k211 (fun y hy => .inr (hb9 y hy))
          have hf211 : ∀ y ∈ s210.blk, w115.heap.size ≤ y := fun y hy => by
            rcases f211 y hy with h | h
            · exact hb9 y h
            · have := k0207.size; omega
          refine ⟨s210, w211, e211, newn_k (n := 1) (sz := 1) (cs := bv [2]) rfl (by omega) k0211 fun b10 w213 g5 g6 o213 k213 k0213 => ?_⟩
          obtain ⟨s216, w217, e217, o217, k217, f217⟩ := app_b (o211.keep k213 (by simp)) o213.rd (by simp; omega)
          have k0217 : Keeps [] w115 w217 := k0213.trans k217 (fun y hy => .inr (hf211 y hy))
          refine ⟨s216, w217, e217, (apread_c o217.rd (by simp; omega)).mono fun e w220 g => ?_⟩
          obtain ⟨q, rfl, rfl, k220⟩ := g
          exact ⟨_, rfl, hJ3 _ (k0217.trans k220 (by simp))⟩
    · refine (apknown_a ((Aft.refl W).new (K115.trans k122 (by simp)))).mono fun e w228 g => ?_
      obtain ⟨r, rfl, rfl, a⟩ := g
      exact ⟨_, rfl, rfl, a.1⟩
theorem apnum_law (W : World) (args : List Value) (h : GdArgs W [] args) : Calls Try.prog 7 args.toArray W fun e W' => e = .returned (.bool true) ∧ Below W.heap.size W W' := by
  cases h
  exact apnum_c.mono fun e w' ⟨b, he, hb, hw⟩ => by subst hb; exact ⟨he, hw⟩
end Go.Proofs.Ytflffabmfoldeaa
