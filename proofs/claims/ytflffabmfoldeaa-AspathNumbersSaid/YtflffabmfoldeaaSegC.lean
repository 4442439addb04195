/-
  How long a path is, and its first number.
-/
import Derived.Test.YtflffabmfoldeaaIntC
import Derived.Test.YtflffabmfoldeaaSpDec
namespace Go.Proofs.Ytflffabmfoldeaa
set_option linter.unusedVariables false
set_option linter.unusedSimpArgs false
open Go.Sp

theorem first_c {w : World} {s : SV} {l : List Sg} (h : Segs w s l) : Calls Try.prog 10 #[s.v] w (R10 fun x ok w' => (x, ok) = firstA l ∧ Keeps [] w w') := by
  have hl := h.len
  refine F10_ok (M.join_by (fun (J : Bool → World → Prop) => (∀ k t a r m, l = (k, t, a :: r) :: m → k = 2 → J false w) ∧ (firstA l = (0, false) → J true w)) ⟨?_, ?_⟩ ?_)
  · rintro k t a r m rfl rfl
    obtain ⟨ax, hax⟩ := h.1.some (by simp at hl; omega)
    have e := sg_at h.1 hax (i := 0) rfl
    have ht : Rd 1 w t ((a :: r).map (Value.int .u32)) := h.2 _ List.mem_cons_self
    have htl := ht.len
    simp only [List.length_map, List.length_cons, Nat.mul_one] at htl
    obtain ⟨ay, hay⟩ := ht.some (by omega)
    have e2 := ht.at hay (i := 0) (v := .int .u32 a) rfl
    exact M.ite_ff ⟨ax, hax, by omega, by simp at hl; omega, t, e.2, ay, hay, by omega, by omega, _, e2, rfl, Keeps.refl _ _⟩
  · intro h0
    exact M.ite_tt ⟨h0.symm, Keeps.refl _ _⟩
  · intro J hJ
    match l, h, hl, hJ with
    | [], h, hl, hJ => exact M.ite_y (by simp at hl; simp [hl]) (hJ.2 rfl)
    | (k, t, ns) :: m, h, hl, hJ =>
      obtain ⟨ax, hax⟩ := h.1.some (by simp at hl; omega)
      have e := sg_at h.1 hax (i := 0) rfl
      have ht : Rd 1 w t (ns.map (Value.int .u32)) := h.2 _ List.mem_cons_self
      have htl := ht.len
      simp only [List.length_map, Nat.mul_one] at htl
      refine M.ite_n (by simp at hl ⊢; omega) ⟨ax, hax, by omega, by simp at hl; omega, _, e.1, M.ite_by (fun c => ?_) (fun c => ?_)⟩
      · refine hJ.2 ?_
        have c5 : k ≠ 2 := by simpa using c
        cases ns <;> simp [firstA, c5]
      · have c : k = 2 := by simpa using c
        subst c
        refine ⟨ax, hax, by omega, by simp at hl; omega, _, e.2, ?_⟩
        cases ns with
        | nil =>
          simp at htl
          have := hJ.2 rfl
          rw [show ((t.len : Int) == 0) = true by simp; omega]
          exact this
        | cons a r =>
          simp at htl
          have := hJ.1 _ _ _ _ _ rfl rfl
          rw [show ((t.len : Int) == 0) = false by simp; omega]
          exact this
theorem rfirst_c {w : World} {s : SV} {l : List Sg} (h : Segs w s l) : Calls Try.prog 42 #[s.v] w (R42 fun x ok w' => (x, ok) = firstA l ∧ Keeps [] w w') := by
  have hl := h.len
  refine F42_ok (M.join_by (fun (J : Bool → World → Prop) => (∀ k t a r m, l = (k, t, a :: r) :: m → k = 2 → J false w) ∧ (firstA l = (0, false) → J true w)) ⟨?_, ?_⟩ ?_)
  · rintro k t a r m rfl rfl
    obtain ⟨ax, hax⟩ := h.1.some (by simp at hl; omega)
    have e := sg_at h.1 hax (i := 0) rfl
    have ht : Rd 1 w t ((a :: r).map (Value.int .u32)) := h.2 _ List.mem_cons_self
    have htl := ht.len
    simp only [List.length_map, List.length_cons, Nat.mul_one] at htl
    obtain ⟨ay, hay⟩ := ht.some (by omega)
    have e2 := ht.at hay (i := 0) (v := .int .u32 a) rfl
    exact M.ite_ff ⟨ax, hax, by omega, by simp at hl; omega, t, e.2, ay, hay, by omega, by omega, _, e2, rfl, Keeps.refl _ _⟩
  · intro h0
    exact M.ite_tt ⟨h0.symm, Keeps.refl _ _⟩
  · intro J hJ
    match l, h, hl, hJ with
    | [], h, hl, hJ => exact M.ite_y (by simp at hl; simp [hl]) (hJ.2 rfl)
    | (k, t, ns) :: m, h, hl, hJ =>
      obtain ⟨ax, hax⟩ := h.1.some (by simp at hl; omega)
      have e := sg_at h.1 hax (i := 0) rfl
      have ht : Rd 1 w t (ns.map (Value.int .u32)) := h.2 _ List.mem_cons_self
      have htl := ht.len
      simp only [List.length_map, Nat.mul_one] at htl
      refine M.ite_n (by simp at hl ⊢; omega) ⟨ax, hax, by omega, by simp at hl; omega, _, e.1, M.ite_by (fun c => ?_) (fun c => ?_)⟩
      · refine hJ.2 ?_
        have c5 : k ≠ 2 := by simpa using c
        cases ns <;> simp [firstA, c5]
      · have c : k = 2 := by simpa using c
        subst c
        refine ⟨ax, hax, by omega, by simp at hl; omega, _, e.2, ?_⟩
        cases ns with
        | nil =>
          simp at htl
          have := hJ.2 rfl
          rw [show ((t.len : Int) == 0) = true by simp; omega]
          exact this
        | cons a r =>
          simp at htl
          have := hJ.1 _ _ _ _ _ rfl rfl
          rw [show ((t.len : Int) == 0) = false by simp; omega]
          exact this
theorem countA_take {l : List Sg} {i : Nat} {x : Sg} (h : l[i]? = some x) : countA (l.take (i + 1)) = countA (l.take i) + sgCount x := by
  rw [List.take_add_one, h]
  simp [countA]
theorem countA_le (l : List Sg) (i : Nat) : countA (l.take i) ≤ countA l := by
  have h := List.take_append_drop i l
  have : countA (l.take i ++ l.drop i) = countA (l.take i) + countA (l.drop i) := by
    unfold countA
    rw [List.map_append, List.sum_append]
  rw [h] at this
  omega
theorem rcount_c {w : World} {s : SV} {l : List Sg} (h : Segs w s l) (hb : countA l ≤ 1099511627776) (hlen : l.length ≤ 1099511627776) : Calls Try.prog 44 #[s.v] w (R44 fun r w' => r = (countA l : Int) ∧ Keeps [] w w') := by
  have hl := h.len
  have hcap := h.1.cap
  refine F44_ok ?_
  refine M.loop2_by (fun n x w' => ∃ i : Nat, x = i ∧ i ≤ l.length ∧ n = (countA (l.take i) : Int) ∧ Keeps [] w w') (fun _ x _ => l.length - x.toNat) ⟨0, rfl, by omega, rfl, Keeps.refl _ _⟩ ?_
  rintro n x w1 J ⟨i, rfl, hi, rfl, k1⟩ hJ
  have h1 := h.new k1
  refine M.ite_by (fun c => ?_) (fun c => ?_)
  · have c := of_decide_eq_true c
    have il : i < l.length := by omega
    have ei := List.getElem?_eq_getElem il
    obtain ⟨ax, hax⟩ := h1.1.some (by omega)
    have e := sg_at h1.1 hax ei
    have hs := countA_take ei
    have hle := countA_le l (i + 1)
    have hmem := List.getElem_mem il
    generalize l[i] = y at *
    obtain ⟨k, t, ns⟩ := y
    have ht := (h1.2 _ hmem).len
    dsimp only at ht
    simp only [List.length_map, Nat.mul_one] at ht
    refine ⟨ax, hax, by omega, c, _, e.1, M.join_by (fun (J : Int → World → Prop) => J (countA (l.take (i + 1)) : Int) w1) ?_ fun J2 hJ2 => M.ite_by (fun c2 => ?_) (fun c2 => ?_)⟩
    · rw [w64 (by omega) (by omega)]
      exact hJ _ _ _ ⟨i + 1, by omega, by omega, rfl, k1⟩ (by omega)
    · have c2 : k = 1 := by simpa using c2
      subst c2
      have hs : countA (l.take (i + 1)) = countA (l.take i) + 1 := hs
      rw [w64 (by omega) (by omega)]
      rw [hs] at hJ2; exact hJ2
    · have c2 : k ≠ 1 := by simpa using c2
      refine M.ite_by (fun c3 => ?_) (fun c3 => ?_)
      · have c3 : k = 2 := by simpa using c3
        subst c3
        have hs : countA (l.take (i + 1)) = countA (l.take i) + ns.length := hs
        refine ⟨ax, hax, by omega, c, _, e.2, ?_⟩
        dsimp only
        rw [w64 (by omega) (by omega)]
        rw [hs, ht] at hJ2; exact hJ2
      · have c3 : k ≠ 2 := by simpa using c3
        have hs : countA (l.take (i + 1)) = countA (l.take i) + 0 := by rw [hs]; simp [sgCount, c2, c3]
        rw [hs] at hJ2; exact hJ2
  · have c := of_decide_eq_false c
    rw [List.take_of_length_le (by omega)]
    exact ⟨rfl, k1⟩
theorem count_c {w : World} {s : SV} {l : List Sg} (h : Segs w s l) (hb : countA l ≤ 1099511627776) (hlen : l.length ≤ 1099511627776) : Calls Try.prog 13 #[s.v] w (R13 fun r w' => r = (countA l : Int) ∧ Keeps [] w w') := by
  have hl := h.len
  have hcap := h.1.cap
  refine F13_ok ?_
  refine M.loop2_by (fun n x w' => ∃ i : Nat, x = i ∧ i ≤ l.length ∧ n = (countA (l.take i) : Int) ∧ Keeps [] w w') (fun _ x _ => l.length - x.toNat) ⟨0, rfl, by omega, rfl, Keeps.refl _ _⟩ ?_
  rintro n x w1 J ⟨i, rfl, hi, rfl, k1⟩ hJ
  have h1 := h.new k1
  refine M.ite_by (fun c => ?_) (fun c => ?_)
  · have c := of_decide_eq_true c
    have il : i < l.length := by omega
    have ei := List.getElem?_eq_getElem il
    obtain ⟨ax, hax⟩ := h1.1.some (by omega)
    have e := sg_at h1.1 hax ei
    have hs := countA_take ei
    have hle := countA_le l (i + 1)
    have hmem := List.getElem_mem il
    generalize l[i] = y at *
    obtain ⟨k, t, ns⟩ := y
    have ht := (h1.2 _ hmem).len
    dsimp only at ht
    simp only [List.length_map, Nat.mul_one] at ht
    refine ⟨ax, hax, by omega, c, _, e.1, _, e.2, M.new_blk fun b w2 hb2 B2 k2 => M.stA_blk B2 rfl fun w3 B3 k3 => ?_⟩
    have k13 : Keeps [] w1 w3 := k2.trans k3 (by simp; omega)
    have k1 := k1.trans k13 (by simp)
    refine ⟨_, B3.cell 0, M.join_by (fun (J : Int → World → Prop) => J (countA (l.take (i + 1)) : Int) w3) ?_ fun J2 hJ2 => M.ite_by (fun c2 => ?_) (fun c2 => ?_)⟩
    · rw [w64 (by omega) (by omega)]
      exact hJ _ _ _ ⟨i + 1, by omega, by omega, rfl, k1⟩ (by omega)
    · have c2 : k = 2 := by simpa using c2
      subst c2
      have hs : countA (l.take (i + 1)) = countA (l.take i) + ns.length := hs
      refine ⟨_, B3.cell 1, ?_⟩
      dsimp only
      rw [w64 (by omega) (by omega)]
      rw [hs, ht] at hJ2; exact hJ2
    · have c2 : k ≠ 2 := by simpa using c2
      refine M.ite_by (fun c3 => ?_) (fun c3 => ?_)
      · have c3 : k = 1 := by simpa using c3
        subst c3
        have hs : countA (l.take (i + 1)) = countA (l.take i) + 1 := hs
        rw [w64 (by omega) (by omega)]
        rw [hs] at hJ2; exact hJ2
      · have c3 : k ≠ 1 := by simpa using c3
        have hs : countA (l.take (i + 1)) = countA (l.take i) + 0 := by rw [hs]; simp [sgCount, c2, c3]
        rw [hs] at hJ2; exact hJ2
  · have c := of_decide_eq_false c
    rw [List.take_of_length_le (by omega)]
    exact ⟨rfl, k1⟩
end Go.Proofs.Ytflffabmfoldeaa
