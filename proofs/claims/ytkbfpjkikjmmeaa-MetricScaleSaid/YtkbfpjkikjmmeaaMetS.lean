/-
  Shares, as the program reckons them.
-/
import Derived.Test.YtkbfpjkikjmmeaaMetW
namespace Go.Proofs.Ytkbfpjkikjmmeaa
set_option linter.unusedVariables false
set_option linter.unusedSimpArgs false
open Go.Sp

theorem weights_le {l : List Nat} (hl : ∀ x ∈ l, x < 18446744073709551616) : ∀ x ∈ weights l, x ≤ fInf := fun x hx => by
  have := weights_lt hl x hx
  unfold fInf; omega
theorem isPos_zero : isPos 0 = false := by rw [isPos_nn (Nat.zero_le _)]; rfl
set_option maxHeartbeats 1000000 in
theorem shares_c {w : World} {s : SV} {l : List Nat} (hs : Rd 1 w s (fv l)) (hl : ∀ x ∈ l, x < 18446744073709551616) (hn : l.length ≤ 60) (n : Int) :
    Calls Try.prog 11 #[s.v, .int .i64 n] w (R11 fun r w' => Rd 1 w' r (iv (sharesB l n)) ∧ (∀ y ∈ r.blk, w.heap.size ≤ y) ∧ Keeps [] w w') := by
  have hlen := fv_len hs
  refine F11_ok ?_
  unfold F11
  rw [hlen]
  refine M.mk_by intSl intEl intZe rfl (by omega) fun b1 w2 hb1 hs2 o2 k2 => ?_
  rw [iv_zero] at o2
  generalize hr1 : (⟨some ⟨b1, 0, none⟩, l.length, l.length⟩ : SV) = r1 at *
  have hrb1 : ∀ y ∈ r1.blk, y = b1 := by subst hr1; simp [SV.blk]
  have hrl1 : r1.len = l.length := by subst hr1; rfl
  refine (counts_c (hs.keep k2 (by simp)) hn).mono fun e w5 g => ?_
  obtain ⟨r4, rfl, ⟨b4, hb4, hr4⟩, o5, k5⟩ := g
  have hrb4 : ∀ y ∈ r4.blk, y = b4 := by subst hr4; simp [SV.blk]
  have hrl4 : r4.len = l.length := by subst hr4; rfl
  clear hr4
  have hwl := weights_le hl
  refine ⟨_, rfl, (msum_c o5.rd hwl (by rw [weights_len]; omega)).mono fun e w7 g => ?_⟩
  obtain ⟨r6, rfl, rfl, hw⟩ := g
  obtain rfl := hw.symm
  have hwlen := weights_len l
  have o5' := o2.keep k5 (by simp)
  have k05 := k2.trans k5 (by simp)
  have h2w := k5.size
  have hsh := sharesB_len l n
  have hcap := sumB_cap (weights l) (s := 0) (Nat.zero_le _)
  refine ⟨_, rfl, M.join_by (fun (J : Bool → World → Prop) => J (decide (min n 1000 < 1) || decide (sumB 0 (weights l) = 0)) w5) ?_ fun J hJ => ?_⟩
  rotate_left
  · refine M.ite_by (fun c => ?_) (fun c => ?_)
    · rw [c, Bool.true_or] at hJ; exact hJ
    · have c : decide (min n 1000 < 1) = false := c
      rw [c, Bool.false_or] at hJ
      rw [fEql_pos hcap (Nat.zero_le _)]; exact hJ
  refine M.ite_by (fun c => ?_) (fun c => ?_)
  · have hz : sharesB l n = List.replicate l.length 0 := by
      unfold sharesB
      rw [if_pos (by simpa using c)]
    rw [hz]
    exact ⟨o5'.rd, fun y hy => by rw [hrb1 y hy]; omega, k05⟩
  have hc : ¬ (min n 1000 < 1 ∨ sumB 0 (weights l) = 0) := by
    intro h
    simp only [Bool.or_eq_false_iff, decide_eq_false_iff_not] at c
    rcases h with h | h
    · exact c.1 h
    · exact c.2 h
  have hres : sharesB l n = spread ((weights l).map isPos) (parts l (min n 1000).toNat) (min n 1000 - (parts l (min n 1000).toNat).sum) := by
    unfold sharesB
    rw [if_neg hc]
  clear c
  obtain ⟨m, hm⟩ : ∃ m : Nat, min n 1000 = (m : Int) := ⟨(min n 1000).toNat, by omega⟩
  have hm1 : 1 ≤ m ∧ m ≤ 1000 := by omega
  have hS0 : sumB 0 (weights l) ≠ 0 := fun h => hc (.inr h)
  rw [hres, hm, Int.toNat_natCast]
  clear hres hc hm
  obtain ⟨t1, t2, t3⟩ := taken_ok (weights_lt hl) (by omega) hS0
  have htl := taken_len (weights l)
  have hpl := parts_len l m
  rw [hrl4]
  refine M.mk_by boolSl boolEl boolZe rfl (by omega) fun b3 w20 hb3 hs3 o20 k20 => ?_
  rw [bl_zero] at o20
  generalize hr3 : (⟨some ⟨b3, 0, none⟩, l.length, l.length⟩ : SV) = r3 at *
  have hrb3 : ∀ y ∈ r3.blk, y = b3 := by subst hr3; simp [SV.blk]
  clear hr3
  have hblt := o5.lt
  have ho1lt := o5'.lt
  -- which of them count
  generalize hts : (weights l).map isPos = ts at *
  have htsl : ts.length = l.length := by rw [← hts, List.length_map, hwlen]
  have htsb : ts.length = (List.replicate l.length false).length := by rw [htsl, List.length_replicate]
  refine M.loop1_by (fun x w' => ∃ i : Nat, x = i ∧ i ≤ l.length ∧ Own 4 1 w' r3 (bl (blend ts (List.replicate l.length false) i)) ∧ Keeps [b3] w5 w' ∧ w5.heap.size ≤ b3) (fun x _ => l.length - x.toNat) ⟨0, rfl, by omega, by rw [blend_zero]; exact o20, k20.up, by omega⟩ ?_
  rintro x w24 J1 ⟨i, rfl, hi, o24, k24, hb3'⟩ hJ1
  have hn4 : ∀ y ∈ r4.blk, y ∉ [b3] := fun y hy h => by have := hblt y hy; simp at h; omega
  have hn1 : ∀ y ∈ r1.blk, y ∉ [b3] := fun y hy h => by have := ho1lt y hy; simp at h; omega
  refine M.ite_by (fun c => ?_) (fun c => ?_)
  · have c := of_decide_eq_true c
    have il : i < l.length := by omega
    have ei : (weights l)[i]? = some (weights l)[i] := List.getElem?_eq_getElem (by omega)
    generalize (weights l)[i] = x at *
    refine M.idx_ld (o5.keep k24 hn4).rd (fv_get ei) (M.idx_st o24 (by rw [bl, List.length_map, blend_len htsb (by omega), List.length_replicate]; omega) fun w' o' k' => ?_)
    rw [bl_set, blend_set htsb (by rw [← hts, List.getElem?_map, ei]; rfl)] at o'
    rw [w64 (by omega) (by omega)]
    exact hJ1 _ _ ⟨i + 1, by omega, by omega, o', k24.and (k'.mono (fun y hy => .inl (by rw [hrb3 y hy]; simp))), hb3'⟩ (by omega)
  have c := of_decide_eq_false c
  obtain rfl : i = l.length := by omega
  rw [blend_all htsb htsl.symm] at o24
  clear hJ1 c o20 k20
  -- what is taken
  have hb41 : ∀ y ∈ r4.blk, y ∉ r1.blk := fun y hy h => by have := hrb4 y hy; have := hrb1 y h; omega
  have hb31 : ∀ y ∈ r3.blk, y ∉ r1.blk := fun y hy h => by have := hrb3 y hy; have := ho1lt y h; omega
  have hb34 : ∀ y ∈ r3.blk, y ∉ r4.blk := fun y hy h => by have := hrb3 y hy; have := hblt y h; omega
  have hb14 : ∀ y ∈ r1.blk, y ∉ r4.blk := fun y hy h => by have := hrb4 y h; have := hrb1 y hy; omega
  have o24r := o5.keep k24 hn4
  have o24s := o5'.keep k24 hn1
  have k024 : Keeps [] w w24 := k05.trans k24 (by have := k05.size; simp; omega)
  have hw24 : w.heap.size ≤ b1 ∧ w.heap.size ≤ b4 ∧ w.heap.size ≤ b3 := by have := k05.size; have := k2.size; omega
  refine M.join_by (fun (J : Nat → World → Prop) => ∀ w', Own 26 1 w' r4 (fv (taken (weights l))) → Own 4 1 w' r3 (bl ts) → Own 3 1 w' r1 (iv (List.replicate l.length 0)) → Keeps [] w w' → J (sumB 0 (taken (weights l))) w') (fun w110 oT oB oI k110 => ?_) fun J53 hJ53 => ?_
  · have hmem := sumB_mem (taken (weights l)) (s := 0) (fun x hx => by have := t1 x hx; unfold fInf; omega)
    have hprt : parts l m = (taken (weights l)).map (prt (sumB 0 (taken (weights l))) m) := rfl
    have hpr := parts_range (l := l) (n := m)
    generalize hps : parts l m = ps at *
    generalize hS : sumB 0 (taken (weights l)) = S at *
    generalize hT : taken (weights l) = T at *
    have hpb : ps.length = (List.replicate l.length (0 : Int)).length := by rw [hpl, List.length_replicate]
    have hTl : T.length = l.length := by rw [htl, hwlen]
    refine M.loop2_by (fun x y w' => ∃ i : Nat, y = i ∧ i ≤ l.length ∧ x = (m : Int) - (ps.take i).sum ∧ Own 3 1 w' r1 (iv (blend ps (List.replicate l.length 0) i)) ∧ Keeps r1.blk w110 w') (fun _ y _ => l.length - y.toNat) ⟨0, rfl, by omega, by simp, by rw [blend_zero]; exact oI, Keeps.refl _ _⟩ ?_
    rintro x y w119 J1 ⟨i, rfl, hi, rfl, o1, k1⟩ hJ1
    have hsr := sum_range (n := (m : Int)) (ps.take i) (fun x hx => hpr x (List.mem_of_mem_take hx))
    have hsl : (ps.take i).length = i := by rw [List.length_take, hpl]; omega
    rw [hsl] at hsr
    have hmi : (m : Int) * i ≤ 1000 * 60 := by
      have h1 : (m : Int) * i ≤ 1000 * i := Int.mul_le_mul_of_nonneg_right (by omega) (by omega)
      omega
    refine M.ite_by (fun c => ?_) (fun c => ?_)
    · have c := of_decide_eq_true c
      have il : i < l.length := by omega
      have ei : T[i]? = some T[i] := List.getElem?_eq_getElem (by omega)
      have hx := hmem _ (List.getElem_mem (show i < T.length by omega))
      generalize T[i] = x at *
      obtain ⟨f1, f2, f3, f4, f5⟩ := part_fl (n := m) t2 hx t3 hm1.2
      have hpi : ps[i]? = some (prt S m x) := by rw [hprt, List.getElem?_map, ei]; rfl
      have htk : ps.take (i + 1) = ps.take i ++ [prt S m x] := by rw [List.take_add_one, hpi]; rfl
      refine M.idx_ld (oT.keep k1 hb41).rd (fv_get ei) ⟨_, f1, _, f2, _, f3, ?_⟩
      dsimp only
      rw [← prt_eq S m x]
      have hp := hpr _ (List.mem_of_getElem? hpi)
      clear f1 f2 f3 f4 f5
      generalize prt S m x = P at *
      refine M.idx_st o1 (by rw [iv, List.length_map, blend_len hpb (by omega), List.length_replicate]; omega) fun w' o' k' => ?_
      rw [iv_set, blend_set hpb hpi] at o'
      refine M.idx_ld o'.rd (iv_get (x := P) (by rw [blend_done hpb (by omega) (by omega)]; exact hpi)) ?_
      rw [w64 (n := (i : Int) + 1) (by omega) (by omega), w64 (by omega) (by omega)]
      refine hJ1 _ _ _ ⟨i + 1, by omega, by omega, ?_, o', k1.and k'⟩ (by omega)
      rw [htk, List.sum_append, List.sum_cons, List.sum_nil, Int.add_zero]
      exact Int.sub_sub _ _ _
    · have c := of_decide_eq_false c
      obtain rfl : i = l.length := by omega
      rw [blend_all hpb hpl.symm] at o1
      have hsum : 0 ≤ ps.sum ∧ ps.sum ≤ 60000 := by
        have h := hsr
        rw [List.take_of_length_le (by omega)] at h
        omega
      rw [← hpl, List.take_length]
      clear hJ1 c
      generalize hleft : (m : Int) - ps.sum = left at *
      have hsp := spread_len ts ps left
      refine M.loop2_by (fun x y w' => ∃ i : Nat, y = i ∧ i ≤ ps.length ∧ x = leftAt ts left i ∧ Own 3 1 w' r1 (iv (blend (spread ts ps left) ps i)) ∧ Keeps r1.blk w110 w') (fun _ y _ => ps.length - y.toNat) ⟨0, rfl, by omega, rfl, by rw [blend_zero]; exact o1, k1⟩ ?_
      rintro x y w163 J1 ⟨i, rfl, hi, rfl, o2, k2⟩ hJ1
      have hlr := leftAt_range ts left i
      rw [hrl1, ← hpl]
      refine M.ite_by (fun c => ?_) (fun c => ?_)
      · have c := of_decide_eq_true c
        have il : i < ps.length := by omega
        have hti : ts[i]? = some ts[i] := List.getElem?_eq_getElem (by omega)
        have hpi : ps[i]? = some ps[i] := List.getElem?_eq_getElem il
        have htd : ts.getD i false = ts[i] := by rw [List.getD_eq_getElem?_getD, hti]; rfl
        have hpd : ps.getD i 0 = ps[i] := by rw [List.getD_eq_getElem?_getD, hpi]; rfl
        have hpr2 := hpr _ (List.getElem_mem il)
        generalize ts[i] = t at *
        generalize ps[i] = p at *
        have hsg := spread_get (ts := ts) (left := left) il
        unfold outAt at hsg
        rw [htd, hpd] at hsg
        have hnx := leftAt_succ ts left i
        rw [htd] at hnx
        refine M.join_by (fun (J : Int → World → Prop) => ∀ w', Own 3 1 w' r1 (iv (blend (spread ts ps left) ps (i + 1))) → Keeps r1.blk w110 w' → J (leftAt ts left (i + 1)) w') (fun w' o' k' => ?_) fun J2 hJ2 => M.join_by (fun (J : Bool → World → Prop) => J (t && decide (0 < leftAt ts left i)) w163) (M.ite_by (fun c1 => ?_) (fun c1 => ?_)) fun J3 hJ3 => M.idx_ld (oB.keep k2 hb31).rd (bl_get hti) (M.ite_by (fun c1 => ?_) (fun c1 => ?_))
        · rw [w64 (by omega) (by omega)]
          exact hJ1 _ _ _ ⟨i + 1, by omega, by omega, rfl, o', k'⟩ (by omega)
        · rw [if_pos c1] at hsg hnx
          refine M.idx_ld o2.rd (iv_get (x := p) (by rw [blend_get hsp (by omega)]; exact hpi)) (M.idx_st o2 (by rw [iv, List.length_map, blend_len hsp (by omega)]; exact il) fun w' o' k' => ?_)
          rw [w64 (n := p + 1) (by omega) (by omega), iv_set, blend_set hsp hsg] at o'
          rw [w64 (by omega) (by omega), ← hnx]
          exact hJ2 w' o' (k2.and k')
        · have c1 : (t && decide (0 < leftAt ts left i)) = false := c1
          rw [c1] at hsg hnx
          rw [if_neg (by simp)] at hsg hnx
          rw [← hnx]
          refine hJ2 w163 ?_ k2
          rw [← blend_skip hsp (by rw [hsg, hpi]; simp) (by omega)]
          exact o2
        · rw [c1, Bool.true_and] at hJ3; exact hJ3
        · have c1 : t = false := c1
          rw [c1, Bool.false_and] at hJ3; exact hJ3
      · have c := of_decide_eq_false c
        have hil : i = (spread ts ps left).length := by omega
        rw [hil, blend_end hsp] at o2
        exact ⟨o2.rd, fun y hy => by rw [hrb1 y hy]; omega, k110.trans k2 (fun y hy => .inr (by rw [hrb1 y hy]; omega))⟩
  · refine (isinf_c _).mono fun e w56 g => ?_
    obtain ⟨r55, rfl, rfl, hw⟩ := g
    obtain rfl := hw.symm
    refine ⟨_, rfl, M.ite_by (fun c => ?_) (fun c => ?_)⟩
    · have c : isInf (sumB 0 (weights l)) = true := c
      rw [isInf_nn hcap] at c
      have c := of_decide_eq_true c
      have htk : taken (weights l) = (weights l).map (halvesB 64) := by unfold taken; rw [if_pos c]
      generalize hW : weights l = W at *
      have hHb : (W.map (halvesB 64)).length = W.length := List.length_map _
      refine M.loop1_by (fun x w' => ∃ i : Nat, x = i ∧ i ≤ l.length ∧ Own 26 1 w' r4 (fv (blend (W.map (halvesB 64)) W i)) ∧ Keeps r4.blk w24 w') (fun x _ => l.length - x.toNat) ⟨0, rfl, by omega, by rw [blend_zero]; exact o24r, Keeps.refl _ _⟩ ?_
      rintro x w60 J1 ⟨i, rfl, hi, o6, k6⟩ hJ1
      refine M.ite_by (fun c1 => ?_) (fun c1 => ?_)
      · have c1 := of_decide_eq_true c1
        have il : i < W.length := by omega
        have ei : W[i]? = some W[i] := List.getElem?_eq_getElem il
        have hxlt := weights_lt hl W[i] (by rw [hW]; exact List.getElem_mem il)
        generalize W[i] = x at *
        have hbl : (blend (W.map (halvesB 64)) W i).length = W.length := blend_len hHb (by omega)
        have hbg : (blend (W.map (halvesB 64)) W i)[i]? = some x := by rw [blend_get hHb (by omega)]; exact ei
        refine M.loop1_by (fun y w' => ∃ j : Nat, y = j ∧ j ≤ 64 ∧ Own 26 1 w' r4 (fv ((blend (W.map (halvesB 64)) W i).set i (halvesB j x))) ∧ Keeps r4.blk w24 w') (fun y _ => 64 - y.toNat) ⟨0, rfl, by omega, ?_, k6⟩ ?_
        · rw [halvesB_zero]
          have : (blend (W.map (halvesB 64)) W i).set i x = blend (W.map (halvesB 64)) W i := by
            apply List.ext_getElem?
            intro q
            rw [List.getElem?_set]
            by_cases hq : i = q
            · subst hq; rw [if_pos rfl, if_pos (by omega), hbg]
            · rw [if_neg hq]
          rw [this]; exact o6
        · rintro y w76 J2 ⟨j, rfl, hj, o7, k7⟩ hJ2
          refine M.ite_by (fun c2 => ?_) (fun c2 => ?_)
          · have c2 := of_decide_eq_true c2
            have hjx := halvesB_le j hxlt
            have hget : ((blend (W.map (halvesB 64)) W i).set i (halvesB j x))[i]? = some (halvesB j x) := by rw [List.getElem?_set, if_pos rfl, if_pos (by omega)]
            have hdiv : floatBits .quo .f64 (halvesB j x) 4611686018427387904 = some (halvesB (j + 1) x) := by
              rw [halvesB_snoc]
              exact fl_div (b := two) (by omega) (by decide) (by decide)
            refine M.idx_ld o7.rd (fv_get hget) ⟨_, hdiv, M.idx_st o7 (by rw [fv, List.length_map, List.length_set, hbl]; exact il) fun w' o' k' => ?_⟩
            rw [fv_set, List.set_set] at o'
            rw [w64 (by omega) (by omega)]
            exact hJ2 _ _ ⟨j + 1, by omega, by omega, o', k7.and k'⟩ (by omega)
          · have c2 := of_decide_eq_false c2
            obtain rfl : j = 64 := by omega
            rw [blend_set hHb (by rw [List.getElem?_map, ei]; rfl)] at o7
            rw [w64 (by omega) (by omega)]
            exact hJ1 _ _ ⟨i + 1, by omega, by omega, o7, k7⟩ (by omega)
      · have c1 := of_decide_eq_false c1
        have hil : i = (W.map (halvesB 64)).length := by rw [List.length_map]; omega
        rw [hil, blend_end hHb, ← htk] at o6
        refine (msum_c o6.rd (fun x hx => by have := t1 x hx; unfold fInf; omega) (by omega)).mono fun e w108 g => ?_
        obtain ⟨r107, rfl, rfl, hw⟩ := g
        obtain rfl := hw.symm
        exact ⟨_, rfl, hJ53 w60 o6 (o24.keep k6 hb34) (o24s.keep k6 hb14) (k024.trans k6 (fun y hy => .inr (by rw [hrb4 y hy]; omega)))⟩
    · have c : isInf (sumB 0 (weights l)) = false := c
      rw [isInf_nn hcap] at c
      have c := of_decide_eq_false c
      have htk : taken (weights l) = weights l := by unfold taken; rw [if_neg c]
      have := hJ53 w24 (by rw [htk]; exact o24r) o24 o24s k024
      rw [htk] at this
      exact this
end Go.Proofs.Ytkbfpjkikjmmeaa
