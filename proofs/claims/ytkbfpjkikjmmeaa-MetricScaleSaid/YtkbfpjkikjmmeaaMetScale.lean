/-
  MetricScale: weights that are all twice as great, or half, share the same; one weight alone has all.
-/
import Derived.Test.YtkbfpjkikjmmeaaMetL
import Derived.Test.YtkbfpjkikjmmeaaSpShareE
namespace Go.Proofs.Ytkbfpjkikjmmeaa
set_option linter.unusedVariables false
set_option linter.unusedSimpArgs false
open Go.Sp
open Go.RowKit (Below)

theorem flo_one (l : List Nat) : ∀ u ∈ fv l, u.oneCell' = true := by
  intro u hu
  obtain ⟨x, _, rfl⟩ := List.mem_map.1 hu
  rfl
/-- One float more. -/
theorem app_f {w0 w : World} {s : SV} {l : List Nat} (x : Nat) {K : SV → World → Prop} (k : Keeps [] w0 w) (hf : ∀ y ∈ s.blk, w0.heap.size ≤ y) (ho : Own 26 1 w s (fv l)) (hb : l.length ≤ 1000) (h : ∀ r w', Own 26 1 w' r (fv (l ++ [x])) → (∀ y ∈ r.blk, w0.heap.size ≤ y) → (∀ y ∈ r.blk, y ∈ s.blk ∨ w.heap.size ≤ y) → Keeps s.blk w w' → Keeps [] w0 w' → K r w') :
    M.new (.cells #[Value.float .f64 x] 26) w fun b w' => M.app Try.prog 22 22 22 s (SV.v (SV.mk (some b) 1 1)) w' K := by
  have hl := fv_len ho.rd
  refine M.new_by ?_
  have ka := Keeps.alloc [] w (.cells #[Value.float .f64 x] 26)
  have hr := (Own.new w 26 1 1 (fv [x]) rfl (by decide)).rd
  obtain ⟨r, w', v1, v2, v3, v4, v5⟩ := app_own (P := Try.prog) (ty := 22) floSl floEl (ho.keep ka (by simp)) (x := ⟨some ⟨w.heap.size, 0, none⟩, 1, 1⟩) (news := fv [x]) hr (flo_one _) (by simp; omega)
  have h1 : (w.alloc (.cells #[Value.float .f64 x] 26)).heap.size = w.heap.size + 1 := by simp
  refine ⟨r, w', v1, h r w' (by rw [show fv (l ++ [x]) = fv l ++ fv [x] by simp [fv]]; exact v2) (fun y hy => ?_) (fun y hy => ?_) (ka.up.and v4) ((k.trans ka (by simp)).trans v4 (fun y hy => .inr (hf y hy)))⟩
  · rcases v5 y hy with h | h
    · exact hf y h
    · have := k.size; omega
  · rcases v5 y hy with h | h
    · exact .inl h
    · right; omega
set_option maxHeartbeats 1000000 in
theorem mcl_c {W : World} {s : SV} {l : List Nat} {p q : Int} (hs : Rd 1 W s (fv l)) (hl : ∀ x ∈ l, x < 18446744073709551616) :
    Calls Try.prog 4 #[s.v, .int .i64 p, .int .i64 q] W (R4 fun r w' => r = true ∧ Below W.heap.size W w') := by
  have hlen := fv_len hs
  refine F4_ok (M.join_by (fun (J : SV → World → Prop) => ∀ (s' : SV) (l' : List Nat), Rd 1 W s' (fv l') → (∀ x ∈ l', x < 18446744073709551616) → l'.length ≤ 20 → J s' W) (fun s l hs hl hn => ?_) fun J hJ => M.ite_by (fun c => ?_) (fun c => ?_))
  rotate_left
  · have c := of_decide_eq_true c
    have hcap := hs.cap
    exact ⟨by omega, by omega, by omega, hJ _ _ (fv_sub hs (n := 20) (by omega)) (fun x hx => hl x (List.mem_of_mem_take hx)) (by rw [List.length_take]; omega)⟩
  · have c := of_decide_eq_false c
    exact hJ _ _ hs hl (by omega)
  have hlen := fv_len hs
  refine (within_c p 1 1000 (by omega) (by omega) (by omega)).mono fun e w1 g => ?_
  obtain ⟨r1, rfl, _, hk0, hk1, hw⟩ := g
  obtain rfl := hw.symm
  obtain ⟨n, rfl⟩ : ∃ n : Nat, r1 = (n : Int) := ⟨r1.toNat, by omega⟩
  have h1 : 1 ≤ n := by omega
  have h2 : n ≤ 1000 := by omega
  have hb0 : bin = 4503599627370496 := rfl
  refine ⟨_, rfl, M.loop4_by (fun a b c i w' => ∃ (j : Nat) (T : List (Nat × Nat × Nat)), i = j ∧ j ≤ l.length ∧ T.length = j ∧ (∀ t ∈ T, Dbl t) ∧ Own 26 1 w' a (fv (T.map (·.1))) ∧ Own 26 1 w' b (fv (T.map (·.2.1))) ∧ Own 26 1 w' c (fv (T.map (·.2.2))) ∧ (∀ y ∈ a.blk, W.heap.size ≤ y) ∧ (∀ y ∈ b.blk, W.heap.size ≤ y) ∧ (∀ y ∈ c.blk, W.heap.size ≤ y) ∧ (∀ y ∈ a.blk, y ∉ b.blk ∧ y ∉ c.blk) ∧ (∀ y ∈ b.blk, y ∉ c.blk) ∧ Keeps [] W w') (fun _ _ _ i _ => l.length - i.toNat)
    ⟨0, [], rfl, by omega, rfl, by simp, Own.nil _ _ _, Own.nil _ _ _, Own.nil _ _ _, by simp [SV.blk], by simp [SV.blk], by simp [SV.blk], by simp [SV.blk], by simp [SV.blk], Keeps.refl _ _⟩ ?_⟩
  rintro a b c i w2 J ⟨j, T, rfl, hj, hT, hD, oa, ob, oc, fa, fb, fc, dab, dbc, k2⟩ hJ
  refine M.ite_by (fun c1 => ?_) (fun c1 => ?_)
  · have c1 := of_decide_eq_true c1
    have jl : j < l.length := by omega
    have ej := List.getElem?_eq_getElem jl
    have hx := hl _ (List.getElem_mem jl)
    generalize l[j] = x at *
    refine M.idx_ld (hs.keep k2 (by simp)) (fv_get ej) (M.join_by (fun (J : Nat → World → Prop) => ∀ x', Dok x' → J x' w2) (fun x' hx' => ?_) fun J2 hJ2 => ?_)
    · refine app_f x' k2 fa oa (by rw [List.length_map]; omega) fun ra w3 oa3 fa3 ga3 k3 k03 => ?_
      have ob3 := ob.keep k3 (fun y hy h => (dab y h).1 hy)
      have oc3 := oc.keep k3 (fun y hy h => (dab y h).2 hy)
      have hsz3 := k3.size
      refine fw_mul hx' fun ry w4 hry hw4 => ?_
      have k34 : Keeps [] w3 w4 := by
        rcases hw4 with rfl | rfl
        · exact Keeps.refl _ _
        · exact Keeps.drew _ _
      have k04 := k03.trans k34 (by simp)
      have oa4 := oa3.keep k34 (by simp)
      have ob4 := ob3.keep k34 (by simp)
      have oc4 := oc3.keep k34 (by simp)
      have hsz4 := k34.size
      refine app_f ry k04 fb ob4 (by rw [List.length_map]; omega) fun rb w5 ob5 fb5 gb5 k5 k05 => ?_
      have dab5 : ∀ y ∈ ra.blk, y ∉ rb.blk := fun y hy h => by
        rcases ga3 y hy with h3 | h3
        · rcases gb5 y h with h4 | h4
          · exact (dab y h3).1 h4
          · have := oa.lt y h3; omega
        · rcases gb5 y h with h4 | h4
          · have := ob.lt y h4; omega
          · have := oa3.lt y hy; omega
      have oa5 := oa4.keep k5 (fun y hy h => by
        rcases ga3 y hy with h3 | h3
        · exact (dab y h3).1 h
        · have := ob.lt y h; omega)
      have oc5 := oc4.keep k5 (fun y hy h => dbc y h hy)
      have hsz5 := k5.size
      refine fw_div hx' fun rz w6 hrz hw6 => ?_
      have k56 : Keeps [] w5 w6 := by
        rcases hw6 with rfl | rfl
        · exact Keeps.refl _ _
        · exact Keeps.drew _ _
      have k06 := k05.trans k56 (by simp)
      have oa6 := oa5.keep k56 (by simp)
      have ob6 := ob5.keep k56 (by simp)
      have oc6 := oc5.keep k56 (by simp)
      have hsz6 := k56.size
      refine app_f rz k06 fc oc6 (by rw [List.length_map]; omega) fun rc w7 oc7 fc7 gc7 k7 k07 => ?_
      have oa7 := oa6.keep k7 (fun y hy h => by
        rcases ga3 y hy with h3 | h3
        · exact (dab y h3).2 h
        · have := oc.lt y h; omega)
      have ob7 := ob6.keep k7 (fun y hy h => by
        rcases gb5 y hy with h3 | h3
        · exact dbc y h3 h
        · have := oc.lt y h; omega)
      rw [w64 (by omega) (by omega)]
      refine hJ _ _ _ _ _ ⟨j + 1, T ++ [(x', ry, rz)], by omega, by omega, by simp [hT], ?_, by simpa using oa7, by simpa using ob7, by simpa using oc7, fa3, fb5, fc7, ?_, ?_, k07⟩ (by omega)
      · intro t ht
        rcases List.mem_append.1 ht with ht | ht
        · exact hD t ht
        · obtain rfl := List.mem_singleton.1 ht
          exact ⟨⟨hry.inf, hrz.inf⟩, ⟨hry.pos, hrz.pos⟩, fun hp hi => ⟨hx'.fin hp hi, hry.fin hp hi, hrz.fin hp hi⟩, hx'.lt, hry.lt, hrz.lt⟩
      · intro y hy
        refine ⟨dab5 y hy, fun h => ?_⟩
        rcases gc7 y h with h4 | h4
        · rcases ga3 y hy with h3 | h3
          · exact (dab y h3).2 h4
          · have := oc.lt y h4; omega
        · have := oa3.lt y hy; omega
      · intro y hy h
        rcases gc7 y h with h4 | h4
        · rcases gb5 y hy with h3 | h3
          · exact dbc y h3 h4
          · have := oc.lt y h4; omega
        · have := ob5.lt y hy; omega
    · -- which floats are taken
      have h3 : Dok 4613937818241073152 := ⟨by omega, fun _ _ => by rw [hb0]; omega⟩
      refine M.join_by (fun (J : Bool → World → Prop) => J ((fGtr x 5055640609639927018 && !isInf x) || (isPos x && fLss x 4158027847206421152)) w2) ?_ fun J3 hJ3 => ?_
      · refine M.ite_by (fun c => hJ2 _ h3) (fun c => hJ2 _ ⟨hx, fun hp hi => ?_⟩)
        rw [hp, hi, Bool.not_false, Bool.and_true, Bool.true_and, Bool.or_eq_false_iff] at c
        obtain ⟨h4, _⟩ := isPos_le hx hp
        have c1 := c.1
        have c2 := c.2
        rw [fGtr_nn h4 (by unfold fInf; omega)] at c1
        rw [fLss_pos h4 (by unfold fInf; omega)] at c2
        have c1 := of_decide_eq_false c1
        have c2 := of_decide_eq_false c2
        rw [hb0]; omega
      · refine M.ite_by (fun c => ?_) (fun c => ?_)
        · rw [c, Bool.true_and] at hJ3
          refine (isinf_c x).mono fun e w3 g => ?_
          obtain ⟨r3, rfl, rfl, hw⟩ := g
          obtain rfl := hw.symm
          rw [infB_isInf]
          refine ⟨_, rfl, M.ite_by (fun c2 => ?_) (fun c2 => ?_)⟩
          · rw [c2, Bool.true_or] at hJ3; exact hJ3
          · have c2 : (!isInf x) = false := c2
            rw [c2, Bool.false_or] at hJ3
            refine M.ite_by (fun c3 => ?_) (fun c3 => ?_)
            · have c3 : isPos x = true := c3
              rw [c3, Bool.true_and] at hJ3; exact hJ3
            · have c3 : isPos x = false := c3
              rw [c3, Bool.false_and] at hJ3; exact hJ3
        · rw [c, Bool.false_and, Bool.false_or] at hJ3
          refine M.ite_by (fun c3 => ?_) (fun c3 => ?_)
          · have c3 : isPos x = true := c3
            rw [c3, Bool.true_and] at hJ3; exact hJ3
          · have c3 : isPos x = false := c3
            rw [c3, Bool.false_and] at hJ3; exact hJ3
  · have c1 := of_decide_eq_false c1
    obtain rfl : j = l.length := by omega
    obtain ⟨q1, q2⟩ := scale hD (by omega) (n : Int)
    have lt1 : ∀ x ∈ T.map (·.1), x < 18446744073709551616 := fun x hx => by
      obtain ⟨t, ht, rfl⟩ := List.mem_map.1 hx; exact (hD t ht).lt.1
    have lt2 : ∀ x ∈ T.map (·.2.1), x < 18446744073709551616 := fun x hx => by
      obtain ⟨t, ht, rfl⟩ := List.mem_map.1 hx; exact (hD t ht).lt.2.1
    have lt3 : ∀ x ∈ T.map (·.2.2), x < 18446744073709551616 := fun x hx => by
      obtain ⟨t, ht, rfl⟩ := List.mem_map.1 hx; exact (hD t ht).lt.2.2
    have hsl := sharesB_len (T.map (·.1)) (n : Int)
    rw [List.length_map, hT] at hsl
    refine M.join_by (fun (J : Bool → World → Prop) => ∀ w', Keeps [] W w' → J false w') (fun w3 k3 => M.ite_ff ?_) fun J3 hJ3 => ?_
    rotate_left
    · refine (shares_c oa.rd lt1 (by rw [List.length_map]; omega) (n : Int)).mono fun e w3 g => ?_
      obtain ⟨r3, rfl, rd3, f3, k3⟩ := g
      refine ⟨_, rfl, (shares_c (ob.rd.keep k3 (by simp)) lt2 (by rw [List.length_map]; omega) (n : Int)).mono fun e w4 g => ?_⟩
      obtain ⟨r4, rfl, rd4, f4, k4⟩ := g
      refine ⟨_, rfl, ?_⟩
      rw [q1] at rd4
      generalize hS : sharesB (T.map (·.1)) (n : Int) = S at *
      refine (samei_c (rd3.keep k4 (by simp)) rd4 (by omega)).mono fun e w5 g => ?_
      obtain ⟨r5, rfl, rfl, k5⟩ := g
      have k25 := (k3.trans k4 (by simp)).trans k5 (by simp)
      refine ⟨_, rfl, M.ite_n (by simp) ((shares_c (oa.rd.keep k25 (by simp)) lt1 (by rw [List.length_map]; omega) (n : Int)).mono fun e w6 g => ?_)⟩
      obtain ⟨r6, rfl, rd6, f6, k6⟩ := g
      refine ⟨_, rfl, (shares_c ((oc.rd.keep k25 (by simp)).keep k6 (by simp)) lt3 (by rw [List.length_map]; omega) (n : Int)).mono fun e w7 g => ?_⟩
      obtain ⟨r7, rfl, rd7, f7, k7⟩ := g
      rw [q2] at rd7
      rw [hS] at rd6
      refine ⟨_, rfl, (samei_c (rd6.keep k7 (by simp)) rd7 (by omega)).mono fun e w8 g => ?_⟩
      obtain ⟨r8, rfl, rfl, k8⟩ := g
      refine ⟨_, rfl, ?_⟩
      dsimp only
      rw [show (!(S == S)) = false by simp]
      exact hJ3 _ ((k2.trans k25 (by simp)).trans ((k6.trans k7 (by simp)).trans k8 (by simp)) (by simp))
    · have ew : IntKind.i64.wrap ((1 : Int) + (s.len : Int)) = ((l.length + 1 : Nat) : Int) := by rw [w64 (by omega) (by omega)]; omega
      rw [ew]
      refine M.mk_by floSl floEl floZe rfl (by omega) fun b4 w4 hb4 _ o4 k4 => ?_
      rw [fv_zero] at o4
      refine (within_c q 0 s.len (by omega) (by omega) (by omega)).mono fun e w5 g => ?_
      obtain ⟨r5, rfl, _, hk0, hk1, hw⟩ := g
      obtain rfl := hw.symm
      obtain ⟨m, rfl⟩ : ∃ m : Nat, r5 = (m : Int) := ⟨r5.toNat, by omega⟩
      refine ⟨_, rfl, M.idx_st o4 (by simp [fv]; omega) fun w6 o6 k6 => ?_⟩
      rw [fv_set] at o6
      have k06 : Keeps [] W w6 := (k3.trans k4 (by simp)).trans k6 (fun y hy => by simp [SV.blk] at hy; have := k3.size; right; omega)
      generalize hL : (List.replicate (l.length + 1) 0).set m 4617315517961601024 = L at *
      have hLl : L.length = l.length + 1 := by rw [← hL]; simp
      have hLm : L[m]? = some 4617315517961601024 := by rw [← hL, List.getElem?_set]; simp; omega
      have hLz : ∀ (i : Nat), i ≠ m → ∀ u, L[i]? = some u → u = 0 := fun i hi u hu => by
        rw [← hL, List.getElem?_set, if_neg (Ne.symm hi), List.getElem?_replicate] at hu
        split at hu
        · exact (Option.some.inj hu).symm
        · cases hu
      have hLt : ∀ x ∈ L, x < 18446744073709551616 := fun x hx => by
        obtain ⟨i, hi, he⟩ := List.getElem_of_mem hx
        by_cases him : i = m
        · subst him
          rw [List.getElem?_eq_getElem hi, he] at hLm
          cases hLm; omega
        · have := hLz i him x (by rw [List.getElem?_eq_getElem hi, he])
          omega
      refine (shares_c o6.rd hLt (by omega) (n : Int)).mono fun e w7 g => ?_
      obtain ⟨r7, rfl, rd7, f7, k7⟩ := g
      have hsl2 := sharesB_len L (n : Int)
      have hp5 : isPos 4617315517961601024 = true := by rw [isPos_nn (by unfold fInf; omega)]; exact decide_eq_true (by omega)
      have hsum := shares_sum hLt (by omega) h1 h2
      have hany : L.any isPos = true := List.any_eq_true.2 ⟨_, List.mem_of_getElem? hLm, hp5⟩
      rw [hany, if_pos rfl] at hsum
      obtain ⟨v, hv, _⟩ := share_range hLt h1 h2 hLm
      have hone := sum_one _ m v hv (fun i hi u hu => by
        by_cases hil : i < L.length
        · have h0 := hLz i hi _ (List.getElem?_eq_getElem hil)
          have hei : L[i]? = some 0 := by rw [List.getElem?_eq_getElem hil, h0]
          have := share_none hLt h1 h2 hei (by rw [isPos_nn (Nat.zero_le _)]; rfl)
          rw [this] at hu
          exact (Option.some.inj hu).symm
        · rw [List.getElem?_eq_none (by omega)] at hu; cases hu)
      rw [hsum] at hone
      subst hone
      have hrl := iv_len rd7
      generalize sharesB L (n : Int) = S at *
      refine ⟨_, rfl, M.join_by (fun (J : Bool → World → Prop) => ∀ w', Aft W w' → J true w') (fun w' h => ⟨rfl, h.1⟩) fun J hJ => M.ite_y ?_ (M.idx_ld rd7 (iv_get hv) (M.ite_y (by simp) ((mknown_a (((Aft.refl W).new k06).new k7)).mono fun e w8 g => ?_)))⟩
      · simp only [beq_iff_eq]; omega
      · obtain ⟨r8, rfl, rfl, a8⟩ := g
        exact ⟨_, rfl, hJ _ a8⟩
theorem mcl_law (W : World) (args : List Value) (h : GdArgs W [(false, .cons (.slice (.cons .flo .nil)) .nil), (false, .cons (.int .i64) .nil), (false, .cons (.int .i64) .nil)] args) : Calls Try.prog 4 args.toArray W fun e W' => e = .returned (.bool true) ∧ Below W.heap.size W W' := by
  obtain ⟨v0, r, rfl, h0, h⟩ := h.one
  obtain ⟨v1, r, rfl, h1, h⟩ := h.one
  obtain ⟨v2, r, rfl, h2, h⟩ := h.one
  cases h
  obtain ⟨s, l, rfl, hs, _, hm, _, hl⟩ := flos_of h0
  obtain ⟨n, rfl, _⟩ := good_int h1
  obtain ⟨m, rfl, _⟩ := good_int h2
  exact (mcl_c hs hl).mono fun e w' ⟨b, he, hb, hw⟩ => by subst hb; exact ⟨he, hw⟩
end Go.Proofs.Ytkbfpjkikjmmeaa
