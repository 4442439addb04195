/-
  Shares by weights: what both ways of reckoning them give.
-/
import Derived.Test.YtkbfpjkikjmmeaaMetC
import Derived.Test.YtkbfpjkikjmmeaaIntC
import Derived.Test.YtkbfpjkikjmmeaaBookC
import Derived.Test.YtkbfpjkikjmmeaaSpShareC
namespace Go.Proofs.Ytkbfpjkikjmmeaa
set_option linter.unusedVariables false
set_option linter.unusedSimpArgs false
open Go.Sp

theorem floEl : elemB Try.prog 26 1 8 = true := by kernel_rfl
theorem floSl : sliceB Try.prog 22 26 1 = true := by kernel_rfl
theorem boolEl : elemB Try.prog 4 1 1 = true := by kernel_rfl
theorem boolSl : sliceB Try.prog 51 4 1 = true := by kernel_rfl
theorem floZe : (Try.prog.info? 26).map (·.zero) = some (some (.float .f64 0)) := by kernel_rfl
theorem boolZe : (Try.prog.info? 4).map (·.zero) = some (some (.bool false)) := by kernel_rfl
theorem intZe : (Try.prog.info? 3).map (·.zero) = some (some (.int .i64 0)) := by kernel_rfl
def fv (l : List Nat) : List Value := l.map (Value.float .f64)
def bl (l : List Bool) : List Value := l.map Value.bool
theorem fv_len {w : World} {s : SV} {l : List Nat} (h : Rd 1 w s (fv l)) : s.len = l.length := by
  have := h.len
  simp only [fv, List.length_map] at this; omega
theorem bl_len {w : World} {s : SV} {l : List Bool} (h : Rd 1 w s (bl l)) : s.len = l.length := by
  have := h.len
  simp only [bl, List.length_map] at this; omega
theorem fv_get {l : List Nat} {i x : Nat} (h : l[i]? = some x) : (fv l)[i]? = some (Value.float .f64 x) := by simp [fv, h]
theorem bl_get {l : List Bool} {i : Nat} {x : Bool} (h : l[i]? = some x) : (bl l)[i]? = some (Value.bool x) := by simp [bl, h]
theorem iv_get {l : List Int} {i : Nat} {x : Int} (h : l[i]? = some x) : (iv l)[i]? = some (Value.int .i64 x) := by simp [iv, h]
theorem fv_set (l : List Nat) (i x : Nat) : (fv l).set i (Value.float .f64 x) = fv (l.set i x) := by simp [fv, List.map_set]
theorem bl_set (l : List Bool) (i : Nat) (x : Bool) : (bl l).set i (Value.bool x) = bl (l.set i x) := by simp [bl, List.map_set]
theorem iv_set (l : List Int) (i : Nat) (x : Int) : (iv l).set i (Value.int .i64 x) = iv (l.set i x) := by simp [iv, List.map_set]
theorem fv_zero (n : Nat) : List.replicate n (Value.float .f64 0) = fv (List.replicate n 0) := by simp [fv]
theorem bl_zero (n : Nat) : List.replicate n (Value.bool false) = bl (List.replicate n false) := by simp [bl]
theorem iv_zero (n : Nat) : List.replicate n (Value.int .i64 0) = iv (List.replicate n 0) := by simp [iv]
theorem rep_get {α : Type} {n i : Nat} (x : α) (h : i < n) : (List.replicate n x)[i]? = some x := by simp [h]
theorem samei_c {w : World} {s t : SV} {l m : List Int} (hs : Rd 1 w s (iv l)) (ht : Rd 1 w t (iv m)) (hb : l.length ≤ 1099511627776) :
    Calls Try.prog 14 #[s.v, t.v] w (R14 fun r w' => r = (l == m) ∧ Keeps [] w w') := by
  have hl := iv_len hs
  have hm := iv_len ht
  refine F14_ok (M.ite_by (fun c => ?_) (fun c => ?_))
  · have c : l.length ≠ m.length := by simp at c; omega
    have : (l == m) = false := by simp; intro h; subst h; exact c rfl
    rw [this]
    exact ⟨rfl, Keeps.refl _ _⟩
  · have c : l.length = m.length := by simp at c; omega
    refine M.loop1_by (fun x w' => ∃ i : Nat, x = i ∧ i ≤ l.length ∧ l.take i = m.take i ∧ Keeps [] w w') (fun x _ => l.length - x.toNat) ⟨0, rfl, by omega, by simp, Keeps.refl _ _⟩ ?_
    rintro x w' J ⟨i, rfl, hi, he, hk⟩ hJ
    refine M.ite_by (fun c1 => ?_) (fun c1 => ?_)
    · have c1 := of_decide_eq_true c1
      have hil : i < l.length := by omega
      have him : i < m.length := by omega
      have kd := Keeps.drew [] w'
      have k2 := hk.trans kd (by simp)
      obtain ⟨a, ha⟩ := hs.some (by omega)
      obtain ⟨b, hb2⟩ := ht.some (by omega)
      have e1 := iv_at (hs.keep k2 (by simp)) ha (List.getElem?_eq_getElem hil)
      have e2 := iv_at (ht.keep k2 (by simp)) hb2 (List.getElem?_eq_getElem him)
      refine M.drew_by ⟨a, ha, by omega, c1, b, hb2, by omega, by omega, _, e1, _, e2, M.ite_by (fun c2 => ?_) (fun c2 => ?_)⟩
      · have : (l == m) = false := by
          simp
          intro h
          subst h
          simp at c2
        rw [this]
        exact ⟨rfl, k2⟩
      · have c2' : l[i] = m[i] := by simpa using c2
        rw [w64 (by omega) (by omega)]
        refine hJ _ _ ⟨i + 1, by omega, by omega, ?_, k2⟩ (by omega)
        rw [List.take_succ_eq_append_getElem hil, List.take_succ_eq_append_getElem him, he, c2']
    · have c1 := of_decide_eq_false c1
      have hil : i = l.length := by omega
      subst hil
      rw [List.take_length, c, List.take_length] at he
      subst he
      exact ⟨by simp, hk⟩
theorem msum_c {w : World} {s : SV} {l : List Nat} (hs : Rd 1 w s (fv l)) (hl : ∀ x ∈ l, x ≤ fInf) (hn : l.length ≤ 1000000) : Calls Try.prog 32 #[s.v] w (R32 fun r w' => r = sumB 0 l ∧ w' = w) := by
  have hlen := fv_len hs
  refine F32_ok (M.loop2_by (fun x y w' => ∃ i : Nat, y = i ∧ i ≤ l.length ∧ x = sumB 0 (l.take i) ∧ w' = w) (fun _ y _ => l.length - y.toNat) ⟨0, rfl, by omega, rfl, rfl⟩ ?_)
  rintro x y w' J ⟨i, rfl, hi, rfl, rfl⟩ hJ
  refine M.ite_by (fun c => ?_) (fun c => ?_)
  · have c := of_decide_eq_true c
    have il : i < l.length := by omega
    have ei := List.getElem?_eq_getElem il
    have htk : l.take (i + 1) = l.take i ++ [l[i]] := by rw [List.take_add_one, ei]; rfl
    have hx := hl _ (List.getElem_mem il)
    generalize l[i] = x at *
    refine M.idx_ld hs (fv_get ei) ⟨_, fl_add (sumB_cap _ (Nat.zero_le _)) hx, ?_⟩
    rw [w64 (by omega) (by omega)]
    exact hJ _ _ _ ⟨i + 1, by omega, by omega, by rw [htk, sumB_snoc], rfl⟩ (by omega)
  · have c := of_decide_eq_false c
    obtain rfl : i = l.length := by omega
    rw [List.take_length]
    exact ⟨rfl, rfl⟩
theorem rtotal_c {w : World} {s : SV} {l : List Nat} (hs : Rd 1 w s (fv l)) (hl : ∀ x ∈ l, x ≤ fInf) (hn : l.length ≤ 1000000) : Calls Try.prog 41 #[s.v] w (R41 fun r w' => r = sumB 0 l ∧ w' = w) := by
  have hlen := fv_len hs
  refine F41_ok (M.loop2_by (fun x y w' => ∃ i : Nat, y = i ∧ i ≤ l.length ∧ x = sumB 0 (l.take i) ∧ w' = w) (fun _ y _ => l.length - y.toNat) ⟨0, rfl, by omega, rfl, rfl⟩ ?_)
  rintro x y w' J ⟨i, rfl, hi, rfl, rfl⟩ hJ
  refine M.ite_by (fun c => ?_) (fun c => ?_)
  · have c := of_decide_eq_true c
    have il : i < l.length := by omega
    have ei := List.getElem?_eq_getElem il
    have htk : l.take (i + 1) = l.take i ++ [l[i]] := by rw [List.take_add_one, ei]; rfl
    have hx := hl _ (List.getElem_mem il)
    generalize l[i] = x at *
    refine M.idx_ld hs (fv_get ei) ⟨_, fl_add (sumB_cap _ (Nat.zero_le _)) hx, ?_⟩
    rw [w64 (by omega) (by omega)]
    exact hJ _ _ _ ⟨i + 1, by omega, by omega, by rw [htk, sumB_snoc], rfl⟩ (by omega)
  · have c := of_decide_eq_false c
    obtain rfl : i = l.length := by omega
    rw [List.take_length]
    exact ⟨rfl, rfl⟩
theorem infB_isInf (x : Nat) : infB x = isInf x := rfl
theorem counts_c {w : World} {s : SV} {l : List Nat} (hs : Rd 1 w s (fv l)) (hn : l.length ≤ 60) :
    Calls Try.prog 31 #[s.v] w (R31 fun r w' => (∃ b, w.heap.size ≤ b ∧ r = ⟨some ⟨b, 0, none⟩, l.length, l.length⟩) ∧ Own 26 1 w' r (fv (weights l)) ∧ Keeps [] w w') := by
  have hlen := fv_len hs
  refine F31_ok ?_
  unfold F31
  rw [hlen]
  refine M.mk_by floSl floEl floZe rfl (by omega) fun b w2 hb _ o2 k2 => ?_
  rw [fv_zero] at o2
  generalize hr : (⟨some ⟨b, 0, none⟩, l.length, l.length⟩ : SV) = r at *
  have hrb : ∀ y ∈ r.blk, y = b := by subst hr; simp [SV.blk]
  refine M.loop2_by (fun x y w' => ∃ i : Nat, y = i ∧ i ≤ l.length ∧ x = (l.take i).any isInf ∧ w' = w2) (fun _ y _ => l.length - y.toNat) ⟨0, rfl, by omega, rfl, rfl⟩ ?_
  rintro x y w' J ⟨i, rfl, hi, rfl, rfl⟩ hJ
  have hs2 := hs.keep k2 (by simp)
  refine M.ite_by (fun c => ?_) (fun c => ?_)
  · have c := of_decide_eq_true c
    have il : i < l.length := by omega
    have ei := List.getElem?_eq_getElem il
    have htk : l.take (i + 1) = l.take i ++ [l[i]] := by rw [List.take_add_one, ei]; rfl
    generalize l[i] = x at *
    refine M.idx_ld hs2 (fv_get ei) (M.join_by (fun (J : Bool → World → Prop) => J ((l.take i).any isInf || isInf x) w') ?_ fun J hJ => M.ite_by (fun c => ?_) (fun c => ?_))
    · rw [w64 (by omega) (by omega)]
      exact hJ _ _ _ ⟨i + 1, by omega, by omega, by rw [htk, List.any_append]; simp, rfl⟩ (by omega)
    · rw [c, Bool.true_or] at hJ; exact hJ
    · have c : (l.take i).any isInf = false := c
      rw [c, Bool.false_or] at hJ
      refine (isinf_c x).mono fun e w3 g => ?_
      obtain ⟨r3, rfl, rfl, hw⟩ := g
      obtain rfl := hw.symm
      exact ⟨_, rfl, hJ⟩
  · have c := of_decide_eq_false c
    obtain rfl : i = l.length := by omega
    rw [List.take_length]
    have hAB : (weights l).length = (List.replicate l.length 0).length := by rw [weights_len, List.length_replicate]
    have hg : l.any isInf = great l := rfl
    rw [hg]
    refine M.loop1_by (fun x w3 => ∃ i : Nat, x = i ∧ i ≤ l.length ∧ Own 26 1 w3 r (fv (blend (weights l) (List.replicate l.length 0) i)) ∧ Keeps [] w w3) (fun x _ => l.length - x.toNat) ⟨0, rfl, by omega, by rw [blend_zero]; exact o2, k2⟩ ?_
    rintro x w3 J2 ⟨i, rfl, hi, o3, k3⟩ hJ2
    refine M.ite_by (fun c => ?_) (fun c => ?_)
    · have c := of_decide_eq_true c
      have il : i < l.length := by omega
      have ei := List.getElem?_eq_getElem il
      have hA : (weights l)[i]? = some (wOf (great l) l[i]) := by unfold weights; rw [List.getElem?_map, ei]; rfl
      generalize l[i] = x at *
      refine M.idx_ld (hs.keep k3 (by simp)) (fv_get ei) (M.join_by (fun (J : World → Prop) => ∀ w', Own 26 1 w' r (fv (blend (weights l) (List.replicate l.length 0) (i + 1))) → Keeps [] w w' → J w') (fun w' o' k' => ?_) fun J3 hJ3 => ?_)
      · rw [w64 (by omega) (by omega)]
        exact hJ2 _ _ ⟨i + 1, by omega, by omega, o', k'⟩ (by omega)
      · have hput : ∀ v, wOf (great l) x = v → M.idx r (i : Int) 1 fun a => M.st (a.add ((i : Int).toNat * 1)) (Value.float .f64 v) w3 fun w' => J3 w' := fun v hv => by
          refine M.idx_st o3 (by rw [fv, List.length_map, blend_len hAB (by rw [weights_len]; omega), List.length_replicate]; omega) fun w' o' k' => hJ3 w' ?_ (k3.trans k' (fun y hy => .inr (by rw [hrb y hy]; omega)))
          rw [fv_set, blend_set hAB (by rw [hA, hv])] at o'
          exact o'
        refine M.join_by (fun (J : Bool → World → Prop) => J (great l && isInf x) w3) (M.ite_by (fun c => ?_) (fun c => ?_)) fun J4 hJ4 => M.ite_by (fun c => ?_) (fun c => ?_)
        · exact hput one (by unfold wOf; rw [if_pos c])
        · have c : (great l && isInf x) = false := c
          refine M.join_by (fun (J : Bool → World → Prop) => J (!great l && isPos x) w3) (M.ite_by (fun c2 => ?_) (fun c2 => ?_)) fun J5 hJ5 => M.ite_by (fun c3 => ?_) (fun c3 => ?_)
          · exact hput x (by unfold wOf; rw [c, c2]; rfl)
          · have c2 : (!great l && isPos x) = false := c2
            refine hJ3 w3 ?_ k3
            rw [← blend_skip hAB (by rw [hA, rep_get _ il]; unfold wOf; rw [c, c2]; rfl) (by rw [weights_len]; omega)]
            exact o3
          · rw [c3, Bool.true_and] at hJ5; exact hJ5
          · rw [c3, Bool.false_and] at hJ5; exact hJ5
        · rw [c, Bool.true_and] at hJ4
          refine (isinf_c x).mono fun e w4 g => ?_
          obtain ⟨r4, rfl, rfl, hw⟩ := g
          obtain rfl := hw.symm
          exact ⟨_, rfl, hJ4⟩
        · have c : great l = false := c
          rw [c, Bool.false_and] at hJ4; exact hJ4
    · have c := of_decide_eq_false c
      have hil : i = (weights l).length := by rw [weights_len]; omega
      rw [hil, blend_end hAB] at o3
      exact ⟨⟨b, by omega, hr.symm⟩, o3, k3⟩
end Go.Proofs.Ytkbfpjkikjmmeaa
