/-
  MetricPath: whole costs that are added, one behind the other, are their sum in any order; one without an end makes it endless.
-/
import Derived.Test.YtkbfpjkikjmmeaaMetL
namespace Go.Proofs.Ytkbfpjkikjmmeaa
set_option linter.unusedVariables false
set_option linter.unusedSimpArgs false
open Go.Sp
open Go.RowKit (Below)

def hv16 (l : List Nat) : List Value := l.map fun n : Nat => Value.int .u16 (n : Int)
theorem hv16_get {l : List Nat} {i x : Nat} (h : l[i]? = some x) : (hv16 l)[i]? = some (Value.int .u16 (x : Int)) := by simp [hv16, h]
theorem hv16_len {w : World} {s : SV} {l : List Nat} (h : Rd 1 w s (hv16 l)) : s.len = l.length := by
  have := h.len
  simp only [hv16, List.length_map] at this; omega
theorem whole_lt {n : Nat} (h : n < 9007199254740992) : fOfInt (n : Int) < 9218868437227405312 := (val_fOfInt h).2
theorem whole_le {n : Nat} (h : n < 9007199254740992) : fOfInt (n : Int) ≤ fInf := by have := whole_lt h; unfold fInf; omega
theorem whole_add {m n : Nat} (h : m + n < 9007199254740992) : addB (fOfInt (m : Int)) (fOfInt (n : Int)) = fOfInt ((m + n : Nat) : Int) := by
  unfold addB
  rw [if_pos ⟨whole_lt (by omega), whole_lt (by omega)⟩, (val_fOfInt (n := m) (by omega)).1, (val_fOfInt (n := n) (by omega)).1, fOfInt_nat, Nat.add_mul]
theorem sum_le16 : ∀ (l : List Nat), (∀ x ∈ l, x < 65536) → l.sum ≤ 65536 * l.length
  | [], _ => by simp
  | x :: l, h => by
    have h1 := h x (by simp)
    have h2 := sum_le16 l (fun y hy => h y (by simp [hy]))
    rw [List.sum_cons, List.length_cons]; omega
theorem mpl_c {W : World} {s : SV} {l : List Nat} {n : Int} (hs : Rd 1 W s (hv16 l)) (hl : ∀ x ∈ l, x < 65536) :
    Calls Try.prog 5 #[s.v, .int .i64 n] W (R5 fun r w' => r = true ∧ Below W.heap.size W w') := by
  have hlen := hv16_len hs
  refine F5_ok (M.join_by (fun (J : SV → World → Prop) => ∀ (s' : SV) (l' : List Nat), Rd 1 W s' (hv16 l') → (∀ x ∈ l', x < 65536) → l'.length ≤ 50 → J s' W) (fun s l hs hl hn => ?_) fun J hJ => M.ite_by (fun c => ?_) (fun c => ?_))
  rotate_left
  · have c := of_decide_eq_true c
    have hcap := hs.cap
    refine ⟨by omega, by omega, by omega, hJ _ (l.take 50) ?_ (fun x hx => hl x (List.mem_of_mem_take hx)) (by rw [List.length_take]; omega)⟩
    have := hs.sub (l := 0) (u := 50) (Nat.zero_le _) (by omega)
    simpa [hv16, List.map_take] using this
  · have c := of_decide_eq_false c
    exact hJ _ _ hs hl (by omega)
  have hlen := hv16_len hs
  have hz : fOfInt ((0 : Nat) : Int) = 0 := by decide +kernel
  have hclean : ∀ {m : Nat}, m < 9007199254740992 → cleanN (fOfInt (m : Int)) = fOfInt (m : Int) := fun h => cleanN_id (whole_le h)
  have hbig : ∀ {m : Nat}, m < 9007199254740992 → fOfInt (m : Int) < 18446744073709551616 := fun h => by have := whole_lt h; omega
  have htake : ∀ i, (l.take i).sum ≤ 65536 * 50 := fun i => by
    have := sum_le16 (l.take i) (fun x hx => hl x (List.mem_of_mem_take hx))
    rw [List.length_take] at this; omega
  have hdrop : ∀ i, (l.drop i).sum ≤ 65536 * 50 := fun i => by
    have := sum_le16 (l.drop i) (fun x hx => hl x (List.mem_of_mem_drop hx))
    rw [List.length_drop] at this; omega
  refine M.loop4_by (fun x y z u w' => ∃ i : Nat, u = i ∧ i ≤ l.length ∧ x = fOfInt (((l.take i).sum : Nat) : Int) ∧ y = fOfInt (((l.drop (l.length - i)).sum : Nat) : Int) ∧ z = ((l.take i).sum : Nat) ∧ w' = W) (fun _ _ _ u _ => l.length - u.toNat) ⟨0, rfl, by omega, by simpa using hz.symm, by simpa using hz.symm, by simp, rfl⟩ ?_
  rintro x y z u w' J ⟨i, rfl, hi, rfl, rfl, rfl, hw⟩ hJ
  obtain rfl := hw.symm
  refine M.ite_by (fun c => ?_) (fun c => ?_)
  · have c := of_decide_eq_true c
    have il : i < l.length := by omega
    have ei := List.getElem?_eq_getElem il
    have htk : l.take (i + 1) = l.take i ++ [l[i]] := by rw [List.take_add_one, ei]; rfl
    have hx := hl _ (List.getElem_mem il)
    have jl : l.length - 1 - i < l.length := by omega
    have ej := List.getElem?_eq_getElem jl
    have hdr : l.drop (l.length - (i + 1)) = l[l.length - 1 - i] :: l.drop (l.length - i) := by
      rw [show l.length - (i + 1) = l.length - 1 - i by omega, List.drop_eq_getElem_cons jl, show l.length - 1 - i + 1 = l.length - i by omega]
    have hy := hl _ (List.getElem_mem jl)
    generalize l[i] = x at *
    generalize l[l.length - 1 - i] = y at *
    have ht := htake i
    have hd := hdrop (l.length - i)
    refine M.idx_ld hs (hv16_get ei) ((madd_c (hbig (by omega)) (hbig (by omega))).mono fun e w1 g => ?_)
    obtain ⟨r1, rfl, rfl, hw⟩ := g
    obtain rfl := hw.symm
    rw [hclean (by omega), hclean (by omega), whole_add (by omega)]
    have ew : IntKind.i64.wrap (IntKind.i64.wrap ((s.len : Int) - 1) - (i : Int)) = ((l.length - 1 - i : Nat) : Int) := by
      rw [w64 (n := (s.len : Int) - 1) (by omega) (by omega), w64 (by omega) (by omega)]; omega
    refine ⟨_, rfl, ?_⟩
    rw [ew]
    refine M.idx_ld hs (hv16_get ej) ((madd_c (hbig (by omega)) (hbig (by omega))).mono fun e w1 g => ?_)
    obtain ⟨r2, rfl, rfl, hw⟩ := g
    obtain rfl := hw.symm
    rw [hclean (by omega), hclean (by omega), whole_add (by omega)]
    refine ⟨_, rfl, M.idx_ld hs (hv16_get ei) ?_⟩
    rw [w64 (n := (x : Int)) (by omega) (by omega), w64 (by omega) (by omega), w64 (by omega) (by omega)]
    refine hJ _ _ _ _ _ ⟨i + 1, by omega, by omega, ?_, ?_, ?_, rfl⟩ (by omega)
    · rw [htk, List.sum_append]; simp
    · rw [hdr, List.sum_cons]
    · rw [htk, List.sum_append]; simp
  have c := of_decide_eq_false c
  obtain rfl : i = l.length := by omega
  rw [List.take_length, Nat.sub_self, List.drop_zero]
  have hS := htake l.length
  rw [List.take_length] at hS
  have hne : ∀ {x : Nat}, x ≤ fInf → fNeq x x = false := fun h => by
    unfold fNeq
    rw [order_pos h h, cmp_eq]; rfl
  refine M.join_by (fun (J : Bool → World → Prop) => J false W) (M.ite_ff ?_) fun J hJ => M.ite_n (hne (whole_le (by omega))) (by rw [hne (whole_le (by omega))]; exact hJ)
  refine (within_c n 0 s.len (by omega) (by omega) (by omega)).mono fun e w1 g => ?_
  obtain ⟨r1, rfl, _, hk0, hk1, hw⟩ := g
  obtain rfl := hw.symm
  obtain ⟨k, rfl⟩ : ∃ k : Nat, r1 = (k : Int) := ⟨r1.toNat, by omega⟩
  refine ⟨_, rfl, M.loop2_by (fun x y w' => ∃ i : Nat, y = i ∧ i ≤ l.length + 1 ∧ x ≤ fInf ∧ (k < i → x = fInf) ∧ w' = W) (fun _ y _ => l.length + 1 - y.toNat) ⟨0, rfl, by omega, by omega, fun h => by omega, rfl⟩ ?_⟩
  rintro x y w' J ⟨i, rfl, hi, hx, hki, hw⟩ hJ
  obtain rfl := hw.symm
  have hxb : x < 18446744073709551616 := by unfold fInf at hx; omega
  refine M.ite_by (fun c => ?_) (fun c => ?_)
  · have c := of_decide_eq_true c
    refine M.join_by (fun (J : Nat → World → Prop) => ∀ x', x' ≤ fInf → (k < i + 1 → x' = fInf) → J x' W) (fun x' h1 h2 => ?_) fun J2 hJ2 => ?_
    · rw [w64 (by omega) (by omega)]
      exact hJ _ _ _ ⟨i + 1, by omega, by omega, h1, h2, rfl⟩ (by omega)
    · refine M.join_by (fun (J : Nat → World → Prop) => ∀ x', x' ≤ fInf → (k < i + 1 → x' = fInf) → J x' W) (fun x' h1 h2 => ?_) fun J3 hJ3 => M.ite_by (fun c1 => ?_) (fun c1 => ?_)
      · refine M.ite_by (fun c2 => ?_) (fun c2 => hJ2 _ h1 h2)
        have c2 := of_decide_eq_true c2
        have il : i < l.length := by omega
        have ei := List.getElem?_eq_getElem il
        have hy := hl _ (List.getElem_mem il)
        generalize l[i] = y at *
        refine M.idx_ld hs (hv16_get ei) ((madd_c (by unfold fInf at h1; omega) (hbig (by omega))).mono fun e w1 g => ?_)
        obtain ⟨r1, rfl, rfl, hw⟩ := g
        obtain rfl := hw.symm
        refine ⟨_, rfl, hJ2 _ (addB_le _ _) (fun h => ?_)⟩
        rw [cleanN_id h1, h2 h]
        exact Nat.le_antisymm (addB_le _ _) (addB_ge (Nat.le_refl _))
      · refine nan_c.mono fun e w1 g => ?_
        obtain ⟨r1, rfl, rfl, hw⟩ := g
        obtain rfl := hw.symm
        refine ⟨_, rfl, (madd_c hxb (by omega)).mono fun e w1 g => ?_⟩
        obtain ⟨r2, rfl, rfl, hw⟩ := g
        obtain rfl := hw.symm
        have hcn : cleanN 9221120237041090561 = fInf := by decide +kernel
        rw [hcn]
        exact ⟨_, rfl, hJ3 _ (addB_le _ _) (fun _ => Nat.le_antisymm (addB_le _ _) (addB_ge2 (Nat.le_refl _)))⟩
      · have c1 : (i : Int) ≠ k := by simpa using c1
        exact hJ3 _ hx (fun h => hki (by omega))
  · have c := of_decide_eq_false c
    have hx2 := hki (by omega)
    subst hx2
    refine M.join_by (fun (J : Bool → World → Prop) => ∀ w', Aft W w' → J true w') (fun w' h => ⟨rfl, h.1⟩) fun J hJ => (isinf_c _).mono fun e w1 g => ?_
    obtain ⟨r1, rfl, rfl, hw⟩ := g
    obtain rfl := hw.symm
    refine ⟨_, rfl, M.ite_y (by rw [infB_isInf, isInf_nn (Nat.le_refl _)]; simp) ((mknown_a (Aft.refl W)).mono fun e w' g => ?_)⟩
    obtain ⟨r, rfl, rfl, a⟩ := g
    exact ⟨_, rfl, hJ _ a⟩
theorem halfs_of {W : World} {v : Value} (h : Gd W (.slice (.cons (.int .u16) .nil)) v) : ∃ (s : SV) (l : List Nat), v = s.v ∧ Rd 1 W s (hv16 l) ∧ ∀ x ∈ l, x < 65536 := by
  simp only [Gd] at h
  obtain ⟨s, vs, rfl, hr, hc, hg⟩ := h
  simp only [ShL.len, Nat.zero_add] at hr hg
  have hl := hr.len
  rw [Nat.mul_one] at hl
  obtain ⟨l, hll, hlp⟩ := list_choose (n := s.len) (p := fun i (x : Nat) => vs[i]? = some (Value.int .u16 (x : Int)) ∧ x < 65536) (fun i hi => by
    have h1 := hg i hi
    simp only [GdL, Gd] at h1
    obtain ⟨v, r, h2, ⟨n, rfl, h3, h4⟩, rfl⟩ := h1
    have h5 : ((vs.drop (i * 1)).take 1)[0]? = some (Value.int .u16 n) := by rw [h2]; rfl
    rw [List.getElem?_take, if_pos (by omega), List.getElem?_drop] at h5
    have e1 : IntKind.u16.min = 0 := rfl
    have e2 : IntKind.u16.max = 65535 := rfl
    obtain ⟨n, rfl⟩ := Int.eq_ofNat_of_zero_le (show 0 ≤ n by omega)
    exact ⟨n, by simpa using h5, by omega⟩)
  refine ⟨s, l, rfl, ?_, fun x hx => ?_⟩
  · have : vs = hv16 l := by
      apply List.ext_getElem?
      intro i
      by_cases hi : i < l.length
      · rw [(hlp i l[i] (List.getElem?_eq_getElem hi)).1, hv16_get (List.getElem?_eq_getElem hi)]
      · rw [List.getElem?_eq_none (by omega), List.getElem?_eq_none (by simp [hv16]; omega)]
    rw [← this]; exact hr
  · obtain ⟨i, hi, he⟩ := List.getElem_of_mem hx
    exact (hlp i x (by rw [List.getElem?_eq_getElem hi, he])).2
theorem mpl_law (W : World) (args : List Value) (h : GdArgs W [(false, .cons (.slice (.cons (.int .u16) .nil)) .nil), (false, .cons (.int .i64) .nil)] args) : Calls Try.prog 5 args.toArray W fun e W' => e = .returned (.bool true) ∧ Below W.heap.size W W' := by
  obtain ⟨v0, r, rfl, h0, h⟩ := h.one
  obtain ⟨v1, r, rfl, h1, h⟩ := h.one
  cases h
  obtain ⟨s, l, rfl, hs, hl⟩ := halfs_of h0
  obtain ⟨n, rfl, _⟩ := good_int h1
  exact (mpl_c hs hl).mono fun e w' ⟨b, he, hb, hw⟩ => by subst hb; exact ⟨he, hw⟩
end Go.Proofs.Ytkbfpjkikjmmeaa
