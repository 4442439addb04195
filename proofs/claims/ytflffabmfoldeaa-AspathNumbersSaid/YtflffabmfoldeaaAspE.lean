/-
  A path as bytes.
-/
import Derived.Test.YtflffabmfoldeaaAspRules
import Derived.Test.YtflffabmfoldeaaWireV
namespace Go.Proofs.Ytflffabmfoldeaa
set_option linter.unusedVariables false
set_option linter.unusedSimpArgs false
open Go.Sp

def encN (l : List Int) : List UInt8 := l.flatMap fun n => lowB n 4
def encH (x : Int × List Int) : List UInt8 := lowB x.1 1 ++ lowB x.2.length 1
def encP (l : List (Int × List Int)) : List UInt8 := l.flatMap fun x => encH x ++ encN x.2
theorem lowB_len (n : Int) (k : Nat) : (lowB n k).length = k := by simp [lowB, beB_length]
theorem encN_len (l : List Int) : (encN l).length = 4 * l.length := by
  induction l with
  | nil => rfl
  | cons n l ih => unfold encN at *; rw [List.flatMap_cons, List.length_append, ih, lowB_len, List.length_cons]; omega
theorem encN_app (a b : List Int) : encN (a ++ b) = encN a ++ encN b := by simp [encN]
theorem encP_app (a b : List (Int × List Int)) : encP (a ++ b) = encP a ++ encP b := by simp [encP]
theorem encP_one (x : Int × List Int) : encP [x] = encH x ++ encN x.2 := by simp [encP]
theorem encH_len (x : Int × List Int) : (encH x).length = 2 := by unfold encH; rw [List.length_append, lowB_len, lowB_len]
theorem encP_len (l : List (Int × List Int)) (h : ∀ x ∈ l, x.2.length ≤ 255) : (encP l).length ≤ 1100 * l.length := by
  induction l with
  | nil => simp [encP]
  | cons x l ih =>
    have h1 := ih (fun y hy => h y (List.mem_cons_of_mem _ hy))
    have h2 := h x List.mem_cons_self
    rw [show x :: l = [x] ++ l from rfl, encP_app, encP_one, List.length_append, List.length_append, encN_len, encH_len, List.length_append, List.length_singleton]
    omega
theorem right_of {l : List (Int × List Int)} (h : rightPt l = true) : l.length ≤ 16 ∧ ∀ x ∈ l, (x.1 = 1 ∨ x.1 = 2) ∧ 1 ≤ x.2.length ∧ x.2.length ≤ 255 := by
  unfold rightPt at h
  rw [Bool.and_eq_true, List.all_eq_true, decide_eq_true_eq] at h
  refine ⟨h.2, fun x hx => ?_⟩
  have := h.1 x hx
  unfold okS at this
  simpa using this
theorem apenc_c {w : World} {s : SV} {L : List Sg} (h : Segs w s L) (hn : L.length ≤ 1000000) :
    Calls Try.prog 19 #[s.v] w (R19 fun r e w' => (rightL L = true → e = 0 ∧ Own 5 1 w' r (bv (encP (L.map pt))) ∧ ∀ k ∈ r.blk, w.heap.size ≤ k) ∧ (rightL L = false → e = 12 ∧ r = SV.nil) ∧ Keeps [] w w') := by
  have hl := h.len
  refine F19_ok ((apright_c h hn).mono fun e w1 g => ?_)
  obtain ⟨r1, rfl, rfl, k1⟩ := g
  refine ⟨_, rfl, M.ite_by (fun c => ?_) (fun c => ?_)⟩
  · have c : rightL L = false := by simpa using c
    exact ⟨fun h => (by rw [c] at h; cases h), fun _ => ⟨rfl, rfl⟩, k1⟩
  · have c : rightL L = true := by simpa using c
    have hr := right_of (by rw [← right_pt]; exact c)
    have hlen16 : L.length ≤ 16 := by have := hr.1; rwa [List.length_map] at this
    refine neww_c.mono fun e w2 g => ?_
    obtain ⟨r4, rfl, p, rfl, hW, k2, hp⟩ := g
    have k02 := k1.trans k2 (by simp)
    have hs1 := k1.size
    refine ⟨_, rfl, M.loop1_by (fun x w' => ∃ (i : Nat) (q : List Nat), x = i ∧ i ≤ L.length ∧ IsW w' p q (encP ((L.take i).map pt)) ∧ (∀ k ∈ q, w.heap.size ≤ k) ∧ Keeps [] w w') (fun x _ => L.length - x.toNat) ⟨0, [], rfl, by omega, hW, by simp, k02⟩ ?_⟩
    clear hW
    rintro x w3 J ⟨i, q, rfl, hi, hW, hq, k3⟩ hJ
    refine M.ite_by (fun c1 => ?_) (fun c1 => ?_)
    · have c1 := of_decide_eq_true c1
      have il : i < L.length := by omega
      have ei := List.getElem?_eq_getElem il
      have hm := List.getElem_mem il
      have htk : L.take (i + 1) = L.take i ++ [L[i]] := by rw [List.take_add_one, ei]; rfl
      have hxn := hr.2 _ (List.mem_map_of_mem (f := pt) hm)
      generalize L[i] = x at *
      have hxn : (x.1 = 1 ∨ x.1 = 2) ∧ 1 ≤ x.2.2.length ∧ x.2.2.length ≤ 255 := hxn
      have hen := encP_len ((L.take i).map pt) (fun y hy => (hr.2 y (by
        obtain ⟨z, hz, rfl⟩ := List.mem_map.1 hy
        exact List.mem_map_of_mem (List.mem_of_mem_take hz))).2.2)
      rw [List.length_map, List.length_take] at hen
      have h1 := h.new k3
      obtain ⟨a, ha⟩ := h1.1.some (by omega)
      have e := sg_at h1.1 ha ei
      have hxl := uval_len (segs_inn h1 ei)
      have hlt := hW.lt
      refine ⟨a, ha, by omega, by omega, _, e.1, x.2.1, e.2, M.new_blk fun b w4 hb B4 k4 => M.stA_blk B4 rfl fun w5 B5 k5 => ⟨_, B5.cell 0, ?_⟩⟩
      have k35 : Keeps [] w3 w5 := k4.trans k5 (by simp; omega)
      have k05 := k3.trans k35 (by simp)
      have hW5 := hW.keep k35 (by simp) (by simp)
      have hbp : b ∉ p :: q := fun hm => by
        rcases List.mem_cons.1 hm with rfl | hm
        · omega
        · have := hlt.2 b hm; omega
      have hpq : ∀ {w' : World} {q' : List Nat}, (∀ k ∈ q', w.heap.size ≤ k) → ∀ y ∈ p :: q', y ∈ ([] : List Nat) ∨ w.heap.size ≤ y := fun hq' y hy => by
        rcases List.mem_cons.1 hy with rfl | hy
        · right; omega
        · exact .inr (hq' y hy)
      refine (wu8_c hW5 x.1 (by omega)).mono fun e w6 g => ?_
      obtain ⟨rfl, q6, hW6, k6, hq6⟩ := g
      have hq6' : ∀ k ∈ q6, w.heap.size ≤ k := fun k hk => by
        rcases hq6 k hk with h | h
        · exact hq k h
        · have := k05.size; omega
      have k06 := k05.trans k6 (hpq (w' := w) hq)
      have B6 := B5.keep k6 hbp
      have hbp6 : b ∉ p :: q6 := fun hm => by
        rcases List.mem_cons.1 hm with rfl | hm
        · omega
        · rcases hq6 b hm with h | h
          · exact hbp (List.mem_cons_of_mem _ h)
          · have := B5.lt; omega
      refine ⟨rfl, x.2.1, B6.cell 1, (wu8_c hW6 (x.2.1.len : Int) (by rw [List.length_append, lowB_len]; omega)).mono fun e w7 g => ?_⟩
      obtain ⟨rfl, q7, hW7, k7, hq7⟩ := g
      have hq7' : ∀ k ∈ q7, w.heap.size ≤ k := fun k hk => by
        rcases hq7 k hk with h | h
        · exact hq6' k h
        · have := k06.size; omega
      have k07 := k06.trans k7 (hpq (w' := w) hq6')
      have B7 := B6.keep k7 hbp6
      refine ⟨rfl, x.2.1, B7.cell 1, M.loop1_by (fun y w' => ∃ (j : Nat) (q : List Nat), y = j ∧ j ≤ x.2.2.length ∧ IsW w' p q (encP ((L.take i).map pt) ++ encH (pt x) ++ encN (x.2.2.take j)) ∧ (∀ k ∈ q, w.heap.size ≤ k) ∧ Keeps [] w w') (fun y _ => x.2.2.length - y.toNat) ⟨0, q7, rfl, by omega, ?_, hq7', k07⟩ ?_⟩
      · rw [hxl] at hW7
        rw [List.take_zero]
        unfold encH
        rw [show encN [] = [] from rfl, List.append_nil, ← List.append_assoc]
        exact hW7
      · clear hW7 hW6 hW5 hW
        rintro y w8 J2 ⟨j, q8, rfl, hj, hW8, hq8, k8⟩ hJ2
        refine M.ite_by (fun c2 => ?_) (fun c2 => ?_)
        · have c2 := of_decide_eq_true c2
          have jl : j < x.2.2.length := by omega
          have ej := List.getElem?_eq_getElem jl
          have htj : x.2.2.take (j + 1) = x.2.2.take j ++ [x.2.2[j]] := by rw [List.take_add_one, ej]; rfl
          generalize x.2.2[j] = z at *
          refine M.idx_ld (segs_inn (h.new k8) ei) (uval_get ej) ((wu32_c hW8 z (by rw [List.length_append, List.length_append, encH_len, encN_len, List.length_take]; omega)).mono fun e w9 g => ?_)
          obtain ⟨rfl, q9, hW9, k9, hq9⟩ := g
          refine ⟨rfl, ?_⟩
          rw [w64 (by omega) (by omega)]
          refine hJ2 _ _ ⟨j + 1, q9, by omega, by omega, ?_, fun k hk => ?_, k8.trans k9 (hpq (w' := w) hq8)⟩ (by omega)
          · rw [htj, encN_app, show encN [z] = lowB z 4 by simp [encN], ← List.append_assoc]
            exact hW9
          · rcases hq9 k hk with h | h
            · exact hq8 k h
            · have := k8.size; omega
        · have c2 := of_decide_eq_false c2
          obtain rfl : j = x.2.2.length := by omega
          rw [w64 (by omega) (by omega)]
          refine hJ _ _ ⟨i + 1, q8, by omega, by omega, ?_, hq8, k8⟩ (by omega)
          rw [List.take_length] at hW8
          rw [htk, List.map_append, encP_app, List.map_singleton, encP_one, ← List.append_assoc]
          exact hW8
    · have c1 := of_decide_eq_false c1
      obtain rfl : i = L.length := by omega
      rw [List.take_length] at hW
      have hen := encP_len (L.map pt) (fun y hy => (hr.2 y hy).2.2)
      rw [List.length_map] at hen
      refine (done_c hW (by omega)).mono fun e w4 g => ?_
      obtain ⟨r, rfl, o4, _, k4, f4⟩ := g
      exact ⟨_, rfl, fun _ => ⟨rfl, o4, fun k hk => by have := f4 k hk; have := k3.size; omega⟩, fun h => (by rw [c] at h; cases h), k3.trans k4 (by simp)⟩
end Go.Proofs.Ytflffabmfoldeaa
