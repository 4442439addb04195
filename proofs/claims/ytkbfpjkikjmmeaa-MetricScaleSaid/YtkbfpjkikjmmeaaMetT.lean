/-
  Shares, as the document reckons them.
-/
import Derived.Test.YtkbfpjkikjmmeaaMetS
namespace Go.Proofs.Ytkbfpjkikjmmeaa
set_option linter.unusedVariables false
set_option linter.unusedSimpArgs false
open Go.Sp

theorem any_snoc {l : List Bool} {i : Nat} {x : Bool} (h : l[i]? = some x) : (l.take (i + 1)).any id = ((l.take i).any id || x) := by
  rw [List.take_add_one, h]; simp
set_option maxHeartbeats 1000000 in
theorem rshares_c {w : World} {s : SV} {l : List Nat} (hs : Rd 1 w s (fv l)) (hl : ∀ x ∈ l, x < 18446744073709551616) (hn : l.length ≤ 60) (n : Int) :
    Calls Try.prog 22 #[s.v, .int .i64 n] w (R22 fun r w' => Rd 1 w' r (iv (sharesB l n)) ∧ (∀ y ∈ r.blk, w.heap.size ≤ y) ∧ Keeps [] w w') := by
  have hlen := fv_len hs
  refine F22_ok ?_
  unfold F22
  rw [hlen]
  refine M.mk_by intSl intEl intZe rfl (by omega) fun b1 w2 hb1 hs2 o2 k2 => ?_
  rw [iv_zero] at o2
  generalize hr1 : (⟨some ⟨b1, 0, none⟩, l.length, l.length⟩ : SV) = r1 at *
  have hrb1 : ∀ y ∈ r1.blk, y = b1 := by subst hr1; simp [SV.blk]
  clear hr1
  have hwl := weights_le hl
  have hwlen := weights_len l
  have hcap := sumB_cap (weights l) (s := 0) (Nat.zero_le _)
  have hz : ∀ w', Own 3 1 w' r1 (iv (List.replicate l.length 0)) → Keeps [] w w' → (min n 1000 < 1 ∨ sumB 0 (weights l) = 0) → Rd 1 w' r1 (iv (sharesB l n)) ∧ (∀ y ∈ r1.blk, w.heap.size ≤ y) ∧ Keeps [] w w' := by
    intro w' o' k' hc
    have hz : sharesB l n = List.replicate l.length 0 := by
      unfold sharesB
      rw [if_pos hc]
    rw [hz]
    exact ⟨o'.rd, fun y hy => by rw [hrb1 y hy]; omega, k'⟩
  refine M.ite_by (fun c => ?_) (fun c => ?_)
  · have c := of_decide_eq_true c
    exact hz w2 o2 k2 (.inl (by omega))
  have c := of_decide_eq_false c
  obtain ⟨m, hm⟩ : ∃ m : Nat, min n 1000 = (m : Int) := ⟨(min n 1000).toNat, by omega⟩
  have hm1 : 1 ≤ m ∧ m ≤ 1000 := by omega
  refine M.join_by (fun (J : Int → World → Prop) => J (m : Int) w2) ?_ fun J hJ => M.ite_by (fun c1 => ?_) (fun c1 => ?_)
  rotate_left
  · have c1 := of_decide_eq_true c1
    rw [show (1000 : Int) = m by omega]; exact hJ
  · have c1 := of_decide_eq_false c1
    rw [show n = (m : Int) by omega]; exact hJ
  clear c
  refine M.mk_by floSl floEl floZe rfl (by omega) fun b4 w14 hb4 hs4 o14 k14 => ?_
  rw [fv_zero] at o14
  generalize hr4 : (⟨some ⟨b4, 0, none⟩, l.length, l.length⟩ : SV) = r4 at *
  have hrb4 : ∀ y ∈ r4.blk, y = b4 := by subst hr4; simp [SV.blk]
  have hrl4 : r4.len = l.length := by subst hr4; rfl
  clear hr4
  have o214 := o2.keep k14 (by simp)
  have k014 := k2.trans k14 (by simp)
  have h2l := o2.lt
  have h1w : w.heap.size ≤ b1 ∧ b1 < w2.heap.size := by omega
  have hb14 : ∀ y ∈ r1.blk, y ∉ r4.blk := fun y hy h => by have := hrb4 y h; have := hrb1 y hy; omega
  have hb41 : ∀ y ∈ r4.blk, y ∉ r1.blk := fun y hy h => hb14 y h hy
  have h4w : w.heap.size ≤ b4 := by have := k2.size; omega
  have hf4 : ∀ y ∈ r4.blk, w.heap.size ≤ y := fun y hy => by rw [hrb4 y hy]; omega
  -- which weights are above nought; is there one without an end
  have hPb : (l.map posOr).length = (List.replicate l.length 0).length := by rw [List.length_map, List.length_replicate]
  refine M.loop2_by (fun x y w' => ∃ i : Nat, y = i ∧ i ≤ l.length ∧ x = (l.take i).any isInf ∧ Own 26 1 w' r4 (fv (blend (l.map posOr) (List.replicate l.length 0) i)) ∧ Keeps r4.blk w14 w') (fun _ y _ => l.length - y.toNat) ⟨0, rfl, by omega, rfl, by rw [blend_zero]; exact o14, Keeps.refl _ _⟩ ?_
  rintro x y w19 J1 ⟨i, rfl, hi, rfl, o19, k19⟩ hJ1
  have k019 : Keeps [] w w19 := k014.trans k19 (fun y hy => .inr (hf4 y hy))
  refine M.ite_by (fun c => ?_) (fun c => ?_)
  · have c := of_decide_eq_true c
    have il : i < l.length := by omega
    have ei := List.getElem?_eq_getElem il
    have htk : l.take (i + 1) = l.take i ++ [l[i]] := by rw [List.take_add_one, ei]; rfl
    have hA : (l.map posOr)[i]? = some (posOr l[i]) := by rw [List.getElem?_map, ei]; rfl
    generalize l[i] = x at *
    refine M.join_by (fun (J : World → Prop) => ∀ w', Own 26 1 w' r4 (fv (blend (l.map posOr) (List.replicate l.length 0) (i + 1))) → Keeps r4.blk w14 w' → J w') (fun w' o' k' => ?_) fun J2 hJ2 => M.idx_ld (hs.keep k019 (by simp)) (fv_get ei) (M.ite_by (fun c1 => ?_) (fun c1 => ?_))
    · refine M.join_by (fun (J : Bool → World → Prop) => J ((l.take i).any isInf || isInf x) w') ?_ fun J hJ => M.ite_by (fun c => ?_) (fun c => ?_)
      · rw [w64 (by omega) (by omega)]
        exact hJ1 _ _ _ ⟨i + 1, by omega, by omega, by rw [htk, List.any_append]; simp, o', k'⟩ (by omega)
      · rw [c, Bool.true_or] at hJ; exact hJ
      · have c : (l.take i).any isInf = false := c
        rw [c, Bool.false_or] at hJ
        refine M.idx_ld (hs.keep (k014.trans k' (fun y hy => .inr (hf4 y hy))) (by simp)) (fv_get ei) ((isinf_c x).mono fun e w3 g => ?_)
        obtain ⟨r3, rfl, rfl, hw⟩ := g
        obtain rfl := hw.symm
        exact ⟨_, rfl, hJ⟩
    · refine M.idx_ld (hs.keep k019 (by simp)) (fv_get ei) (M.idx_st o19 (by rw [fv, List.length_map, blend_len hPb (by rw [List.length_map]; omega), List.length_replicate]; omega) fun w' o' k' => ?_)
      have hpo : posOr x = x := by unfold posOr; exact if_pos c1
      rw [hpo] at hA
      rw [fv_set, blend_set hPb hA] at o'
      exact hJ2 w' o' (k19.and k')
    · have c1 : isPos x = false := c1
      refine hJ2 w19 ?_ k19
      rw [← blend_skip hPb (by rw [hA, rep_get _ il]; unfold posOr; rw [c1]; rfl) (by rw [List.length_map]; omega)]
      exact o19
  have c := of_decide_eq_false c
  obtain rfl : i = l.length := by omega
  rw [blend_all hPb (List.length_map _).symm] at o19
  rw [List.take_length, show l.any isInf = great l from rfl]
  clear hJ1 c o14
  -- those without an end alone
  have hWb : (weights l).length = (l.map posOr).length := by rw [hwlen, List.length_map]
  refine M.loop1_by (fun x w' => ∃ i : Nat, x = i ∧ i ≤ l.length ∧ (great l = false → i = 0) ∧ Own 26 1 w' r4 (fv (blend (weights l) (l.map posOr) i)) ∧ Keeps r4.blk w14 w') (fun x _ => l.length - x.toNat) ⟨0, rfl, by omega, fun _ => rfl, by rw [blend_zero]; exact o19, k19⟩ ?_
  clear o19 k19 k019
  rintro x w83 J1 ⟨i, rfl, hi, hgi, o83, k83⟩ hJ1
  have k083 : Keeps [] w w83 := k014.trans k83 (fun y hy => .inr (hf4 y hy))
  refine M.join_by (fun (J : Bool → World → Prop) => J (decide (i < l.length) && great l) w83) ?_ fun J hJ => ?_
  rotate_left
  · rw [hrl4]
    refine M.ite_by (fun c => ?_) (fun c => ?_)
    · have c := of_decide_eq_true c
      rw [decide_eq_true (show i < l.length by omega), Bool.true_and] at hJ; exact hJ
    · have c := of_decide_eq_false c
      rw [decide_eq_false (show ¬ i < l.length by omega), Bool.false_and] at hJ; exact hJ
  refine M.ite_by (fun c => ?_) (fun c => ?_)
  · simp only [Bool.and_eq_true, decide_eq_true_eq] at c
    obtain ⟨il, hg⟩ := c
    have ei := List.getElem?_eq_getElem il
    have hxl := hl _ (List.getElem_mem il)
    have hA : (weights l)[i]? = some (wOf (great l) l[i]) := by unfold weights; rw [List.getElem?_map, ei]; rfl
    have hB : (l.map posOr)[i]? = some (posOr l[i]) := by rw [List.getElem?_map, ei]; rfl
    generalize l[i] = x at *
    have hput : ∀ v, wOf (great l) x = v → ∀ (J : World → Prop), (∀ w', Own 26 1 w' r4 (fv (blend (weights l) (l.map posOr) (i + 1))) → Keeps r4.blk w14 w' → J w') → M.idx r4 (i : Int) 1 fun a => M.st (a.add ((i : Int).toNat * 1)) (Value.float .f64 v) w83 J := fun v hv J hJ => by
      refine M.idx_st o83 (by rw [fv, List.length_map, blend_len hWb (by omega), List.length_map]; exact il) fun w' o' k' => hJ w' ?_ (k83.and k')
      rw [fv_set, blend_set hWb (by rw [hA, hv])] at o'
      exact o'
    refine M.join_by (fun (J : World → Prop) => ∀ w', Own 26 1 w' r4 (fv (blend (weights l) (l.map posOr) (i + 1))) → Keeps r4.blk w14 w' → J w') (fun w' o' k' => ?_) fun J2 hJ2 => M.idx_ld o83.rd (fv_get (x := posOr x) (by rw [blend_get hWb (by omega)]; exact hB)) ((isinf_c _).mono fun e w3 g => ?_)
    · rw [w64 (by omega) (by omega)]
      exact hJ1 _ _ ⟨i + 1, by omega, by omega, (fun h => by rw [hg] at h; cases h), o', k'⟩ (by omega)
    · obtain ⟨r3, rfl, rfl, hw⟩ := g
      obtain rfl := hw.symm
      rw [infB_isInf, posOr_inf hxl]
      refine ⟨_, rfl, M.ite_by (fun c1 => hput one (by unfold wOf; rw [hg, c1]; rfl) _ hJ2) (fun c1 => hput 0 ?_ _ hJ2)⟩
      have c1 : isInf x = false := c1
      unfold wOf; rw [hg, c1]; rfl
  have oW : Own 26 1 w83 r4 (fv (weights l)) := by
    rw [Bool.and_eq_false_iff] at c
    rcases c with c | c
    · have c := of_decide_eq_false c
      rw [blend_all hWb (by omega)] at o83
      exact o83
    · rw [hgi c, blend_zero, posOr_weights c] at o83
      exact o83
  have o183 := o214.keep k83 hb14
  clear hJ1 c o83 hgi hi o214
  refine (rtotal_c oW.rd hwl (by omega)).mono fun e w139 g => ?_
  obtain ⟨r138, rfl, rfl, hw⟩ := g
  obtain rfl := hw.symm
  refine ⟨_, rfl, ?_⟩
  rw [hrl4]
  refine M.mk_by boolSl boolEl boolZe rfl (by omega) fun b3 w141 hb3 hs3 o141 k141 => ?_
  rw [bl_zero] at o141
  generalize hr3 : (⟨some ⟨b3, 0, none⟩, l.length, l.length⟩ : SV) = r3 at *
  have hrb3 : ∀ y ∈ r3.blk, y = b3 := by subst hr3; simp [SV.blk]
  clear hr3
  have hblt := oW.lt
  have ho1lt := o183.lt
  generalize hts : (weights l).map isPos = ts at *
  have htsl : ts.length = l.length := by rw [← hts, List.length_map, hwlen]
  have htsb : ts.length = (List.replicate l.length false).length := by rw [htsl, List.length_replicate]
  have hf3 : ∀ y ∈ r3.blk, w83.heap.size ≤ y := fun y hy => by rw [hrb3 y hy]; omega
  refine M.loop2_by (fun x y w' => ∃ i : Nat, y = i ∧ i ≤ l.length ∧ x = (ts.take i).any id ∧ Own 4 1 w' r3 (bl (blend ts (List.replicate l.length false) i)) ∧ Keeps r3.blk w83 w') (fun _ y _ => l.length - y.toNat) ⟨0, rfl, by omega, rfl, by rw [blend_zero]; exact o141, k141.up⟩ ?_
  rintro x y w146 J1 ⟨i, rfl, hi, rfl, o146, k146⟩ hJ1
  have hn4 : ∀ y ∈ r4.blk, y ∉ r3.blk := fun y hy h => by have := hblt y hy; have := hf3 y h; omega
  have hn1 : ∀ y ∈ r1.blk, y ∉ r3.blk := fun y hy h => by have := ho1lt y hy; have := hf3 y h; omega
  refine M.ite_by (fun c => ?_) (fun c => ?_)
  · have c := of_decide_eq_true c
    have il : i < l.length := by omega
    have ei : (weights l)[i]? = some (weights l)[i] := List.getElem?_eq_getElem (by omega)
    generalize (weights l)[i] = x at *
    have hti : ts[i]? = some (isPos x) := by rw [← hts, List.getElem?_map, ei]; rfl
    refine M.idx_ld (oW.keep k146 hn4).rd (fv_get ei) (M.idx_st o146 (by rw [bl, List.length_map, blend_len htsb (by omega), List.length_replicate]; omega) fun w' o' k' => ?_)
    rw [bl_set, show fGtr x 0 = isPos x from rfl, blend_set htsb hti] at o'
    refine M.join_by (fun (J : Bool → World → Prop) => J ((ts.take i).any id || isPos x) w') ?_ fun J hJ => M.ite_by (fun c => ?_) (fun c => ?_)
    · rw [w64 (by omega) (by omega)]
      exact hJ1 _ _ _ ⟨i + 1, by omega, by omega, (any_snoc hti).symm, o', k146.and k'⟩ (by omega)
    · rw [c, Bool.true_or] at hJ; exact hJ
    · have c : (ts.take i).any id = false := c
      rw [c, Bool.false_or] at hJ
      exact M.idx_ld o'.rd (bl_get (x := isPos x) (by rw [blend_done htsb (by omega) (by omega)]; exact hti)) hJ
  have c := of_decide_eq_false c
  obtain rfl : i = l.length := by omega
  rw [blend_all htsb htsl.symm] at o146
  rw [← htsl, List.take_length]
  have hany : ts.any id = decide (sumB 0 (weights l) ≠ 0) := by
    rw [← any_pos hwl, ← hts, List.any_map]; rfl
  rw [hany]
  clear hJ1 c o141
  have o24r := oW.keep k146 hn4
  have o24s := o183.keep k146 hn1
  have k024 : Keeps [] w w146 := k083.trans k146 (fun y hy => .inr (by have := hf3 y hy; have := k083.size; omega))
  refine M.ite_by (fun c => ?_) (fun c => ?_)
  · refine hz w146 o24s k024 (.inr ?_)
    simp at c
    exact c
  have hS0 : sumB 0 (weights l) ≠ 0 := by simpa using c
  have hres : sharesB l n = spread ts (parts l m) ((m : Int) - (parts l m).sum) := by
    unfold sharesB
    rw [if_neg (by omega), hm, Int.toNat_natCast, hts]
  rw [hres]
  clear hres hm hz c hany
  obtain ⟨t1, t2, t3⟩ := taken_ok (weights_lt hl) (by omega) hS0
  have htl := taken_len (weights l)
  have hpl := parts_len l m
  have hb31 : ∀ y ∈ r3.blk, y ∉ r1.blk := fun y hy h => hn1 y h hy
  have hb34 : ∀ y ∈ r3.blk, y ∉ r4.blk := fun y hy h => hn4 y h hy
  refine M.join_by (fun (J : Nat → World → Prop) => ∀ w', Own 26 1 w' r4 (fv (taken (weights l))) → Own 4 1 w' r3 (bl ts) → Own 3 1 w' r1 (iv (List.replicate l.length 0)) → Keeps [] w w' → J (sumB 0 (taken (weights l))) w') (fun w110 oT oB oI k110 => ?_) fun J53 hJ53 => ?_
  · have hmem := sumB_mem (taken (weights l)) (s := 0) (fun x hx => by have := t1 x hx; unfold fInf; omega)
    have hprt : parts l m = (taken (weights l)).map (prt (sumB 0 (taken (weights l))) m) := rfl
    have hpr := parts_range (l := l) (n := m)
    generalize hps : parts l m = ps at *
    generalize hS : sumB 0 (taken (weights l)) = S at *
    generalize hT : taken (weights l) = T at *
    have hpb : ps.length = (List.replicate l.length (0 : Int)).length := by rw [hpl, List.length_replicate]
    have hTl : T.length = l.length := by rw [htl, hwlen]
    refine M.loop2_by (fun x y w' => ∃ i : Nat, y = i ∧ i ≤ l.length ∧ x = (m : Int) - (ps.take i).sum ∧ Own 3 1 w' r1 (iv (blend ps (List.replicate l.length 0) i)) ∧ Keeps r1.blk w110 w') (fun _ y _ => l.length - y.toNat) ⟨0, rfl, by omega, by simp, by rw [blend_zero]; exact oI, Keeps.refl _ _⟩ ?_
    rintro x y w119 J1 ⟨i, rfl, hi, rfl, o1, k1⟩ hJ1
    have hsr := sum_range (n := (m : Int)) (ps.take i) (fun x hx => hpr x (List.mem_of_mem_take hx))
    have hsl : (ps.take i).length = i := by rw [List.length_take, hpl]; omega
    rw [hsl] at hsr
    have hmi : (m : Int) * i ≤ 1000 * 60 := by
      have h1 : (m : Int) * i ≤ 1000 * i := Int.mul_le_mul_of_nonneg_right (by omega) (by omega)
      omega
    refine M.ite_by (fun c => ?_) (fun c => ?_)
    · have c := of_decide_eq_true c
      have il : i < l.length := by omega
      have ei : T[i]? = some T[i] := List.getElem?_eq_getElem (by omega)
      have hx := hmem _ (List.getElem_mem (show i < T.length by omega))
      generalize T[i] = x at *
      obtain ⟨f1, f2, f3, f4, f5⟩ := part_fl (n := m) t2 hx t3 hm1.2
      have hpi : ps[i]? = some (prt S m x) := by rw [hprt, List.getElem?_map, ei]; rfl
      have htk : ps.take (i + 1) = ps.take i ++ [prt S m x] := by rw [List.take_add_one, hpi]; rfl
      have hpe := prt_eq S m x
      refine M.idx_ld (oT.keep k1 hb41).rd (fv_get ei) ⟨_, f1, _, f2, _, f3, ?_⟩
      dsimp only
      have hp := hpr _ (List.mem_of_getElem? hpi)
      have hqn : 0 ≤ ((val (rnd (val (divB x S) * m)) / unit : Nat) : Int) := Int.natCast_nonneg _
      clear f1 f2 f3 f4 f5
      generalize prt S m x = P at *
      generalize ((val (rnd (val (divB x S) * m)) / unit : Nat) : Int) = q at *
      have hbl1 : i < (iv (blend ps (List.replicate l.length 0) i)).length := by rw [iv, List.length_map, blend_len hpb (by omega), List.length_replicate]; omega
      refine M.idx_st o1 hbl1 fun w' o' k' => ?_
      rw [iv_set] at o'
      have hbl2 : i < (blend ps (List.replicate l.length 0) i).length := by rw [blend_len hpb (by omega), List.length_replicate]; omega
      have hq : ((blend ps (List.replicate l.length 0) i).set i q)[i]? = some q := by rw [List.getElem?_set, if_pos rfl, if_pos hbl2]
      refine M.join_by (fun (J : World → Prop) => ∀ w', Own 3 1 w' r1 (iv (blend ps (List.replicate l.length 0) (i + 1))) → Keeps r1.blk w110 w' → J w') (fun w'' o'' k'' => ?_) fun J2 hJ2 => M.idx_ld o'.rd (iv_get hq) (M.ite_by (fun c1 => ?_) (fun c1 => ?_))
      · refine M.idx_ld o''.rd (iv_get (x := P) (by rw [blend_done hpb (by omega) (by omega)]; exact hpi)) ?_
        rw [w64 (n := (i : Int) + 1) (by omega) (by omega), w64 (by omega) (by omega)]
        refine hJ1 _ _ _ ⟨i + 1, by omega, by omega, ?_, o'', k''⟩ (by omega)
        rw [htk, List.sum_append, List.sum_cons, List.sum_nil, Int.add_zero]
        exact Int.sub_sub _ _ _
      · have c1 := of_decide_eq_true c1
        refine M.idx_st o' (by rw [iv, List.length_map, List.length_set]; exact hbl2) fun w'' o'' k'' => hJ2 w'' ?_ ((k1.and k').and k'')
        rw [iv_set, List.set_set, show (m : Int) = P by omega, blend_set hpb hpi] at o''
        exact o''
      · have c1 := of_decide_eq_false c1
        refine hJ2 w' ?_ (k1.and k')
        rw [show q = P by omega, blend_set hpb hpi] at o'
        exact o'
    · have c := of_decide_eq_false c
      obtain rfl : i = l.length := by omega
      rw [blend_all hpb hpl.symm] at o1
      have hsum : 0 ≤ ps.sum ∧ ps.sum ≤ 60000 := by
        have h := hsr
        rw [List.take_of_length_le (by omega)] at h
        omega
      rw [← hpl, List.take_length]
      clear hJ1 c
      generalize hleft : (m : Int) - ps.sum = left at *
      have hsp := spread_len ts ps left
      refine M.loop2_by (fun x y w' => ∃ i : Nat, y = i ∧ i ≤ ps.length ∧ x = leftAt ts left i ∧ Own 3 1 w' r1 (iv (blend (spread ts ps left) ps i)) ∧ Keeps r1.blk w110 w') (fun _ y _ => ps.length - y.toNat) ⟨0, rfl, by omega, rfl, by rw [blend_zero]; exact o1, k1⟩ ?_
      rintro x y w163 J1 ⟨i, rfl, hi, rfl, o2, k2⟩ hJ1
      have hlr := leftAt_range ts left i
      have k0end : Keeps [] w w163 := k110.trans k2 (fun y hy => .inr (by rw [hrb1 y hy]; omega))
      refine M.join_by (fun (J : Bool → World → Prop) => J (decide (i < ps.length) && decide (0 < leftAt ts left i)) w163) ?_ fun J hJ => ?_
      rotate_left
      · refine M.ite_by (fun c => ?_) (fun c => ?_)
        · have c := of_decide_eq_true c
          rw [decide_eq_true (show i < ps.length by omega), Bool.true_and] at hJ; exact hJ
        · have c := of_decide_eq_false c
          rw [decide_eq_false (show ¬ i < ps.length by omega), Bool.false_and] at hJ; exact hJ
      refine M.ite_by (fun c => ?_) (fun c => ?_)
      · simp only [Bool.and_eq_true, decide_eq_true_eq] at c
        obtain ⟨il, hpos⟩ := c
        have hti : ts[i]? = some ts[i] := List.getElem?_eq_getElem (by omega)
        have hpi : ps[i]? = some ps[i] := List.getElem?_eq_getElem il
        have htd : ts.getD i false = ts[i] := by rw [List.getD_eq_getElem?_getD, hti]; rfl
        have hpd : ps.getD i 0 = ps[i] := by rw [List.getD_eq_getElem?_getD, hpi]; rfl
        have hpr2 := hpr _ (List.getElem_mem il)
        generalize ts[i] = t at *
        generalize ps[i] = p at *
        have hsg := spread_get (ts := ts) (left := left) il
        unfold outAt at hsg
        rw [htd, hpd, decide_eq_true hpos, Bool.and_true] at hsg
        have hnx := leftAt_succ ts left i
        rw [htd, decide_eq_true hpos, Bool.and_true] at hnx
        refine M.join_by (fun (J : Int → World → Prop) => ∀ w', Own 3 1 w' r1 (iv (blend (spread ts ps left) ps (i + 1))) → Keeps r1.blk w110 w' → J (leftAt ts left (i + 1)) w') (fun w' o' k' => ?_) fun J2 hJ2 => M.idx_ld (oB.keep k2 hb31).rd (bl_get hti) (M.ite_by (fun c1 => ?_) (fun c1 => ?_))
        · rw [w64 (by omega) (by omega)]
          exact hJ1 _ _ _ ⟨i + 1, by omega, by omega, rfl, o', k'⟩ (by omega)
        · rw [if_pos c1] at hsg hnx
          refine M.idx_ld o2.rd (iv_get (x := p) (by rw [blend_get hsp (by omega)]; exact hpi)) (M.idx_st o2 (by rw [iv, List.length_map, blend_len hsp (by omega)]; exact il) fun w' o' k' => ?_)
          rw [w64 (n := p + 1) (by omega) (by omega), iv_set, blend_set hsp hsg] at o'
          rw [w64 (by omega) (by omega), ← hnx]
          exact hJ2 w' o' (k2.and k')
        · have c1 : t = false := c1
          rw [if_neg (by rw [c1]; simp)] at hsg hnx
          rw [← hnx]
          refine hJ2 w163 ?_ k2
          rw [← blend_skip hsp (by rw [hsg, hpi]; simp) (by omega)]
          exact o2
      · rw [Bool.and_eq_false_iff] at c
        have oE : Own 3 1 w163 r1 (iv (spread ts ps left)) := by
          rcases c with c | c
          · have c := of_decide_eq_false c
            rw [blend_all hsp (by omega)] at o2
            exact o2
          · have c := of_decide_eq_false c
            rw [spread_done hi (by omega)] at o2
            exact o2
        exact ⟨oE.rd, fun y hy => by rw [hrb1 y hy]; omega, k0end⟩
  · refine (isinf_c _).mono fun e w56 g => ?_
    obtain ⟨r55, rfl, rfl, hw⟩ := g
    obtain rfl := hw.symm
    refine ⟨_, rfl, M.ite_by (fun c => ?_) (fun c => ?_)⟩
    · have c : isInf (sumB 0 (weights l)) = true := c
      rw [isInf_nn hcap] at c
      have c := of_decide_eq_true c
      have htk : taken (weights l) = (weights l).map (halvesB 64) := by unfold taken; rw [if_pos c]
      generalize hW : weights l = W at *
      have hHb : (W.map (halvesB 64)).length = W.length := List.length_map _
      rw [htsl]
      refine M.loop1_by (fun x w' => ∃ i : Nat, x = i ∧ i ≤ l.length ∧ Own 26 1 w' r4 (fv (blend (W.map (halvesB 64)) W i)) ∧ Keeps r4.blk w146 w') (fun x _ => l.length - x.toNat) ⟨0, rfl, by omega, by rw [blend_zero]; exact o24r, Keeps.refl _ _⟩ ?_
      rintro x w60 J1 ⟨i, rfl, hi, o6, k6⟩ hJ1
      refine M.ite_by (fun c1 => ?_) (fun c1 => ?_)
      · have c1 := of_decide_eq_true c1
        have il : i < W.length := by omega
        have ei : W[i]? = some W[i] := List.getElem?_eq_getElem il
        have hxlt := weights_lt hl W[i] (by rw [hW]; exact List.getElem_mem il)
        generalize W[i] = x at *
        have hbl : (blend (W.map (halvesB 64)) W i).length = W.length := blend_len hHb (by omega)
        have hbg : (blend (W.map (halvesB 64)) W i)[i]? = some x := by rw [blend_get hHb (by omega)]; exact ei
        refine M.loop1_by (fun y w' => ∃ j : Nat, y = j ∧ j ≤ 64 ∧ Own 26 1 w' r4 (fv ((blend (W.map (halvesB 64)) W i).set i (halvesB j x))) ∧ Keeps r4.blk w146 w') (fun y _ => 64 - y.toNat) ⟨0, rfl, by omega, ?_, k6⟩ ?_
        · rw [halvesB_zero]
          have : (blend (W.map (halvesB 64)) W i).set i x = blend (W.map (halvesB 64)) W i := by
            apply List.ext_getElem?
            intro q
            rw [List.getElem?_set]
            by_cases hq : i = q
            · subst hq; rw [if_pos rfl, if_pos (by omega), hbg]
            · rw [if_neg hq]
          rw [this]; exact o6
        · rintro y w76 J2 ⟨j, rfl, hj, o7, k7⟩ hJ2
          refine M.ite_by (fun c2 => ?_) (fun c2 => ?_)
          · have c2 := of_decide_eq_true c2
            have hjx := halvesB_le j hxlt
            have hget : ((blend (W.map (halvesB 64)) W i).set i (halvesB j x))[i]? = some (halvesB j x) := by rw [List.getElem?_set, if_pos rfl, if_pos (by omega)]
            have hdiv : floatBits .quo .f64 (halvesB j x) 4611686018427387904 = some (halvesB (j + 1) x) := by
              rw [halvesB_snoc]
              exact fl_div (b := two) (by omega) (by decide) (by decide)
            refine M.idx_ld o7.rd (fv_get hget) ⟨_, hdiv, M.idx_st o7 (by rw [fv, List.length_map, List.length_set, hbl]; exact il) fun w' o' k' => ?_⟩
            rw [fv_set, List.set_set] at o'
            rw [w64 (by omega) (by omega)]
            exact hJ2 _ _ ⟨j + 1, by omega, by omega, o', k7.and k'⟩ (by omega)
          · have c2 := of_decide_eq_false c2
            obtain rfl : j = 64 := by omega
            rw [blend_set hHb (by rw [List.getElem?_map, ei]; rfl)] at o7
            rw [w64 (by omega) (by omega)]
            exact hJ1 _ _ ⟨i + 1, by omega, by omega, o7, k7⟩ (by omega)
      · have c1 := of_decide_eq_false c1
        have hil : i = (W.map (halvesB 64)).length := by rw [List.length_map]; omega
        rw [blend_all hHb hil, ← htk] at o6
        refine (rtotal_c o6.rd (fun x hx => by have := t1 x hx; unfold fInf; omega) (by omega)).mono fun e w108 g => ?_
        obtain ⟨r107, rfl, rfl, hw⟩ := g
        obtain rfl := hw.symm
        exact ⟨_, rfl, hJ53 w60 o6 (o146.keep k6 hb34) (o24s.keep k6 hb14) (k024.trans k6 (fun y hy => .inr (hf4 y hy)))⟩
    · have c : isInf (sumB 0 (weights l)) = false := c
      rw [isInf_nn hcap] at c
      have c := of_decide_eq_false c
      have htk : taken (weights l) = weights l := by unfold taken; rw [if_neg c]
      have := hJ53 w146 (by rw [htk]; exact o24r) o146 o24s k024
      rw [htk] at this
      exact this
end Go.Proofs.Ytkbfpjkikjmmeaa
