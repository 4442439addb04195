/-
  MetricShares: shares are together all, or none; nobody without a weight has one; equal weights have as much, but for one.
-/
import Derived.Test.YtkbfpjkikjmmeaaMetL
import Derived.Test.YtkbfpjkikjmmeaaSpShareD
namespace Go.Proofs.Ytkbfpjkikjmmeaa
set_option linter.unusedVariables false
set_option linter.unusedSimpArgs false
open Go.Sp
open Go.RowKit (Below)

theorem msl_c {W : World} {s : SV} {l : List Nat} {p : Int} (hs : Rd 1 W s (fv l)) (hl : ∀ x ∈ l, x < 18446744073709551616) :
    Calls Try.prog 3 #[s.v, .int .i64 p] W (R3 fun r w' => r = true ∧ Below W.heap.size W w') := by
  have hlen := fv_len hs
  refine F3_ok (M.join_by (fun (J : SV → World → Prop) => ∀ (s' : SV) (l' : List Nat), Rd 1 W s' (fv l') → (∀ x ∈ l', x < 18446744073709551616) → l'.length ≤ 30 → J s' W) (fun s l hs hl hn => ?_) fun J hJ => M.ite_by (fun c => ?_) (fun c => ?_))
  rotate_left
  · have c := of_decide_eq_true c
    have hcap := hs.cap
    exact ⟨by omega, by omega, by omega, hJ _ _ (fv_sub hs (n := 30) (by omega)) (fun x hx => hl x (List.mem_of_mem_take hx)) (by rw [List.length_take]; omega)⟩
  · have c := of_decide_eq_false c
    exact hJ _ _ hs hl (by omega)
  have hlen := fv_len hs
  refine (within_c p 1 1000 (by omega) (by omega) (by omega)).mono fun e w1 g => ?_
  obtain ⟨r1, rfl, _, hk0, hk1, hw⟩ := g
  obtain rfl := hw.symm
  obtain ⟨n, rfl⟩ : ∃ n : Nat, r1 = (n : Int) := ⟨r1.toNat, by omega⟩
  have h1 : 1 ≤ n := by omega
  have h2 : n ≤ 1000 := by omega
  refine ⟨_, rfl, (shares_c hs hl (by omega) (n : Int)).mono fun e w2 g => ?_⟩
  obtain ⟨r2, rfl, rd2, f2, k2⟩ := g
  have hsl := sharesB_len l (n : Int)
  have hrl := iv_len rd2
  have hsum := shares_sum hl (by omega) h1 h2
  have hget := fun (i x : Nat) (hx : l[i]? = some x) => share_range (l := l) hl h1 h2 hx
  have halike := fun {i j x y : Nat} (hx : l[i]? = some x) (hy : l[j]? = some y) (hji : j ≤ i) (h : fEql x y = true) {s t : Int} (hs : (sharesB l (n : Int))[i]? = some s) (ht : (sharesB l (n : Int))[j]? = some t) => share_alike hl h1 h2 hx hy hji h hs ht
  generalize sharesB l (n : Int) = S at *
  refine ⟨_, rfl, M.ite_n (by simp; omega) ?_⟩
  have a2 : Aft W w2 := (Aft.refl W).new k2
  refine M.loop3_by (fun x y z w' => ∃ i : Nat, z = i ∧ i ≤ l.length ∧ x = (S.take i).sum ∧ y = (l.take i).any isPos ∧ Keeps [] w2 w') (fun _ _ z _ => l.length - z.toNat) ⟨0, rfl, by omega, by simp, by simp, Keeps.refl _ _⟩ ?_
  rintro x y z w3 J ⟨i, rfl, hi, rfl, rfl, k3⟩ hJ
  have hsumi : 0 ≤ (S.take i).sum ∧ (S.take i).sum ≤ 1001 * ((S.take i).length : Nat) := sum_range _ (fun v hv => by
    obtain ⟨q, hq, he⟩ := List.getElem_of_mem (List.mem_of_mem_take hv)
    obtain ⟨s', e1, e2, e3, _⟩ := hget q l[q] (List.getElem?_eq_getElem (by omega))
    rw [List.getElem?_eq_getElem hq, he] at e1
    cases e1
    omega)
  rw [List.length_take] at hsumi
  refine M.ite_by (fun c => ?_) (fun c => ?_)
  · have c := of_decide_eq_true c
    have il : i < l.length := by omega
    have ei := List.getElem?_eq_getElem il
    have htk : l.take (i + 1) = l.take i ++ [l[i]] := by rw [List.take_add_one, ei]; rfl
    obtain ⟨v, ev, hv0, hv1, hvp⟩ := hget i _ ei
    have htS : S.take (i + 1) = S.take i ++ [v] := by rw [List.take_add_one, ev]; rfl
    generalize l[i] = x at *
    have k03 := k2.trans k3 (by simp)
    have hs3 := hs.keep k03 (by simp)
    have rd3 := rd2.keep k3 (by simp)
    refine M.idx_ld rd3 (iv_get ev) (M.join_by (fun (J : Bool → World → Prop) => J ((l.take i).any isPos || isPos x) w3) ?_ fun J hJ => M.ite_by (fun c => ?_) (fun c => ?_))
    rotate_left
    · rw [c, Bool.true_or] at hJ; exact hJ
    · have c : (l.take i).any isPos = false := c
      rw [c, Bool.false_or] at hJ
      exact M.idx_ld hs3 (fv_get ei) hJ
    refine M.join_by (fun (J : Bool → World → Prop) => J false w3) (M.ite_ff ?_) fun J hJ => M.idx_ld rd3 (iv_get ev) (M.ite_n (decide_eq_false (by omega)) (M.idx_ld hs3 (fv_get ei) (M.ite_by (fun c => ?_) (fun c => hJ))))
    rotate_left
    · have c : isPos x = false := by
        have : (!isPos x) = true := c
        simpa using this
      refine M.idx_ld rd3 (iv_get ev) ?_
      rw [hvp c]
      exact hJ
    refine M.loop1_by (fun y w' => ∃ j : Nat, y = j ∧ j ≤ i ∧ Keeps [] w3 w') (fun y _ => i - y.toNat) ⟨0, rfl, by omega, Keeps.refl _ _⟩ ?_
    rintro y w4 J2 ⟨j, rfl, hj, k4⟩ hJ2
    have k24 := k3.trans k4 (by simp)
    refine M.ite_by (fun c1 => ?_) (fun c1 => ?_)
    · have c1 := of_decide_eq_true c1
      have jl : j < l.length := by omega
      have ej := List.getElem?_eq_getElem jl
      obtain ⟨u, eu, hu0, hu1, hup⟩ := hget j _ ej
      generalize l[j] = z at *
      have kd := Keeps.drew [] w4
      have k25 := k24.trans kd (by simp)
      have hs5 := hs.keep (k2.trans k25 (by simp)) (by simp)
      have rd5 := rd2.keep k25 (by simp)
      obtain ⟨a, ha⟩ := hs5.some (by omega)
      obtain ⟨b, hb⟩ := rd5.some (by omega)
      have gi : w4.drew.cell? (a.add ((i : Int).toNat * 1)) = some (Value.float .f64 x) := by rw [Int.toNat_natCast, Nat.mul_one]; exact hs5.at ha (fv_get ei)
      have gj : w4.drew.cell? (a.add ((j : Int).toNat * 1)) = some (Value.float .f64 z) := by rw [Int.toNat_natCast, Nat.mul_one]; exact hs5.at ha (fv_get ej)
      have hi' : w4.drew.cell? (b.add ((i : Int).toNat * 1)) = some (Value.int .i64 v) := by rw [Int.toNat_natCast, Nat.mul_one]; exact rd5.at hb (iv_get ev)
      have hj' : w4.drew.cell? (b.add ((j : Int).toNat * 1)) = some (Value.int .i64 u) := by rw [Int.toNat_natCast, Nat.mul_one]; exact rd5.at hb (iv_get eu)
      refine M.join_by (fun (J : Bool → World → Prop) => J false w4.drew) (M.ite_ff ?_) fun J3 hJ3 => M.drew_by ⟨a, ha, by omega, by omega, a, ha, by omega, by omega, _, gi, _, gj, M.ite_by (fun c2 => ?_) (fun c2 => hJ3)⟩
      · rw [w64 (by omega) (by omega)]
        exact hJ2 _ _ ⟨j + 1, by omega, by omega, k4.trans kd (by simp)⟩ (by omega)
      · obtain ⟨q1, q2⟩ := halike ei ej (by omega) c2 ev eu
        refine ⟨b, hb, by omega, by omega, b, hb, by omega, by omega, _, hj', _, hi', M.ite_n (decide_eq_false (by omega)) ⟨b, hb, by omega, by omega, b, hb, by omega, by omega, _, hj', _, hi', ?_⟩⟩
        dsimp only
        rw [w64 (by omega) (by omega), decide_eq_false (by omega)]
        exact hJ3
    · rw [w64 (n := (S.take i).sum + v) (by omega) (by omega), w64 (by omega) (by omega)]
      refine hJ _ _ _ _ ⟨i + 1, by omega, by omega, ?_, ?_, k24⟩ (by omega)
      · rw [htS, List.sum_append, List.sum_cons, List.sum_nil, Int.add_zero]
      · rw [htk, List.any_append]; simp
  · have c := of_decide_eq_false c
    obtain rfl : i = l.length := by omega
    rw [List.take_length, show S.take l.length = S by rw [← hsl, List.take_length], hsum]
    have a3 := a2.new k3
    refine M.join_by (fun (J : Bool → World → Prop) => ∀ w', Aft W w' → J true w') (fun w' h => ⟨rfl, h.1⟩) fun J hJ => ?_
    have hkn : ∀ (K : Bool → World → Prop), (∀ w', Aft W w' → K true w') → ∀ f, f = 12 → Calls Try.prog f #[] w3 (R12 K) := fun K hK f hf => by
      subst hf
      refine (mknown_a a3).mono fun e w' g => ?_
      obtain ⟨r, rfl, rfl, a⟩ := g
      exact ⟨_, rfl, hK _ a⟩
    cases hp : l.any isPos with
    | true => exact M.ite_y (by simp) (M.ite_tt (hkn _ hJ _ rfl))
    | false =>
      have hn0 : ((0 : Int) == (n : Int)) = false := by simp; omega
      exact M.ite_y (by rw [if_neg (by simp), hn0]; rfl) (M.ite_ff (M.ite_y rfl (hkn _ hJ _ rfl)))
theorem msl_law (W : World) (args : List Value) (h : GdArgs W [(false, .cons (.slice (.cons .flo .nil)) .nil), (false, .cons (.int .i64) .nil)] args) : Calls Try.prog 3 args.toArray W fun e W' => e = .returned (.bool true) ∧ Below W.heap.size W W' := by
  obtain ⟨v0, r, rfl, h0, h⟩ := h.one
  obtain ⟨v1, r, rfl, h1, h⟩ := h.one
  cases h
  obtain ⟨s, l, rfl, hs, _, hm, _, hl⟩ := flos_of h0
  obtain ⟨n, rfl, _⟩ := good_int h1
  exact (msl_c hs hl).mono fun e w' ⟨b, he, hb, hw⟩ => by subst hb; exact ⟨he, hw⟩
end Go.Proofs.Ytkbfpjkikjmmeaa
