/-
  Which candidates so many steps leave.
-/
import Derived.Test.YtmgigplbclkpaaaDecC
namespace Go.Proofs.Ytmgigplbclkpaaa
set_option linter.unusedVariables false
set_option linter.unusedSimpArgs false
open Go.Sp

theorem vws_at {cs : List Cn} {i : Nat} {c : Cn} (h : cs[i]? = some c) : (Cn.vws cs)[i]? = some c.vw := by simp [Cn.vws, h]
theorem vws_len (cs : List Cn) : (Cn.vws cs).length = cs.length := by simp [Cn.vws]
theorem take_filter_add {α : Type} (p : α → Bool) {l : List α} {i : Nat} {x : α} (h : l[i]? = some x) : (l.take (i + 1)).filter p = (l.take i).filter p ++ (if p x then [x] else []) := by
  rw [List.take_add_one, h, List.filter_append]
  cases hp : p x <;> simp [hp]
theorem sift_c {w : World} {s q : SV} {cs : List Cn} {l : List Nat} (hs : Cns w s cs) (hq : Rd 1 w q (iv (pl l))) (hl : ∀ n ∈ l, n < cs.length) (ho : ∀ c ∈ cs, OkC c) (hb : l.length ≤ 1000000) (step : Int) :
    Calls Try.prog 28 #[s.v, q.v, .int .i64 step] w (R28 fun r w' => Rd 1 w' r (iv (pl (siftA (Cn.vws cs) l step))) ∧ Keeps [] w w') := by
  have hql := iv_len hq
  rw [pl_len] at hql
  have hsl := hs.len
  refine F28_ok ?_
  refine M.loop2_by (fun o x w' => ∃ i : Nat, x = i ∧ i ≤ l.length ∧ Own 3 1 w' o (iv (pl ((l.take i).filter fun n => !gone (Cn.vws cs) l n step))) ∧ (∀ y ∈ o.blk, w.heap.size ≤ y) ∧ Keeps [] w w') (fun _ x _ => l.length - x.toNat)
    ⟨0, rfl, by omega, Own.nil _ _ _, by simp [SV.blk], Keeps.refl _ _⟩ ?_
  rintro o x w1 J ⟨i, rfl, hi, o1, f1, k1⟩ hJ
  have hfl := List.length_filter_le (fun n => !gone (Cn.vws cs) l n step) (l.take i)
  have htl := List.length_take_le i l
  refine M.ite_by (fun c => ?_) (fun c => ?_)
  · have c := of_decide_eq_true c
    have il : i < l.length := by omega
    have ei := List.getElem?_eq_getElem il
    have hn := hl _ (List.getElem_mem il)
    have htf := take_filter_add (fun n => !gone (Cn.vws cs) l n step) ei
    generalize l[i] = n at *
    obtain ⟨ax, hax⟩ := (hq.keep k1 (by simp)).some (by omega)
    have e1 := iv_at (hq.keep k1 (by simp)) hax (pl_at ei)
    have en := List.getElem?_eq_getElem hn
    have hcm := List.getElem_mem hn
    generalize cs[n] = cn at *
    refine M.join_by (fun (J : SV → World → Prop) => ∀ r w', Own 3 1 w' r (iv (pl ((l.take (i + 1)).filter fun n => !gone (Cn.vws cs) l n step))) → (∀ y ∈ r.blk, w.heap.size ≤ y) → Keeps [] w w' → J r w') (fun r w' h1 h2 h3 => ?_) fun J2 hJ2 => ⟨ax, hax, by omega, c, _, e1, ?_⟩
    · rw [w64 (by omega) (by omega)]
      exact hJ _ _ _ ⟨i + 1, by omega, by omega, h1, h2, h3⟩ (by omega)
    · refine M.loop1_by (fun x w' => ∃ j : Nat, x = j ∧ j ≤ l.length ∧ Keeps [] w1 w' ∧ ((l.take j).any fun k => match (Cn.vws cs)[n]?, (Cn.vws cs)[k]? with | some a, some b => bts a b step | _, _ => false) = false) (fun x _ => l.length - x.toNat)
        ⟨0, rfl, by omega, Keeps.refl _ _, rfl⟩ ?_
      rintro x w2 J3 ⟨j, rfl, hj, k2, hno⟩ hJ3
      have k02 := k1.trans k2 (by simp)
      refine M.ite_by (fun c2 => ?_) (fun c2 => ?_)
      · have c2 := of_decide_eq_true c2
        have jl : j < l.length := by omega
        have ej := List.getElem?_eq_getElem jl
        have hm := hl _ (List.getElem_mem jl)
        have hjm := List.getElem_mem jl
        have htk : l.take (j + 1) = l.take j ++ [l[j]] := by rw [List.take_add_one, ej]; rfl
        generalize l[j] = m at *
        have em := List.getElem?_eq_getElem hm
        have hmm := List.getElem_mem hm
        generalize cs[m] = cm at *
        have e2 := iv_at (hq.keep k02 (by simp)) hax (pl_at ej)
        have kd := Keeps.drew [] w2
        have k03 := k02.trans kd (by simp)
        have hs3 := hs.new k03
        obtain ⟨ay, hay⟩ := hs3.1.some (by omega)
        have a1 := hs3.at hay en
        have a2 := hs3.at hay em
        refine ⟨ax, hax, by omega, c2, _, e2, M.drew_by ⟨ay, hay, by omega, by omega, ay, hay, by omega, by omega, _, _, _, _, _, _, _, _, _, _, _, _, _, _, a1, _, _, _, _, _, _, _, _, _, _, _, _, _, _, a2, (beats_c (hs3.2 _ hcm) (hs3.2 _ hmm) (ho _ hcm) (ho _ hmm) step).mono fun e w4 g => ?_⟩⟩
        obtain ⟨r, rfl, hr, k4⟩ := g
        have k24 := kd.trans k4 (by simp)
        refine ⟨_, rfl, M.ite_by (fun c3 => ?_) (fun c3 => ?_)⟩
        · refine hJ2 _ _ ?_ f1 ((k1.trans k2 (by simp)).trans k24 (by simp))
          have hg : gone (Cn.vws cs) l n step = true := by
            unfold gone
            rw [List.any_eq_true]
            exact ⟨m, hjm, by simp only [vws_at en, vws_at em]; rw [← hr]; exact c3⟩
          rw [htf, hg]
          simpa using (o1.keep k2 (by simp)).keep k24 (by simp)
        · rw [w64 (by omega) (by omega)]
          refine hJ3 _ _ ⟨j + 1, by omega, by omega, k2.trans k24 (by simp), ?_⟩ (by omega)
          rw [htk, List.any_append, hno]
          simp only [List.any_cons, List.any_nil, vws_at en, vws_at em, Bool.false_or, Bool.or_false]
          rw [← hr]; exact c3
      · have c2 := of_decide_eq_false c2
        rw [List.take_of_length_le (by omega)] at hno
        have hg : gone (Cn.vws cs) l n step = false := hno
        rw [htf, hg] at hJ2
        refine app_i (n : Int) k02 f1 (o1.keep k2 (by simp)) (by rw [pl_len]; omega) fun r w4 o4 f4 k4 => hJ2 r w4 ?_ f4 k4
        rw [pl_app]; exact o4
  · have c := of_decide_eq_false c
    rw [List.take_of_length_le (by omega)] at o1
    change Own 3 1 w1 o (iv (pl (keepA (Cn.vws cs) l step))) at o1
    have hol := iv_len o1.rd
    rw [pl_len] at hol
    refine M.join_by (fun (J : SV → World → Prop) => ∀ r, Rd 1 w1 r (iv (pl (siftA (Cn.vws cs) l step))) → J r w1) (fun r h => ⟨h, k1⟩) fun J2 hJ2 => M.join_by (fun (J : Bool → World → Prop) => (step = 7 → 1 < (keepA (Cn.vws cs) l step).length → J true w1) ∧ (step ≠ 7 ∨ (keepA (Cn.vws cs) l step).length ≤ 1 → J false w1)) ⟨fun h7 hgt => ?_, fun hle => ?_⟩ fun J3 hJ3 => M.ite_by (fun c7 => ?_) (fun c7 => ?_)
    · have hcap := o1.rd.cap
      refine M.ite_tt ⟨by omega, by omega, by omega, hJ2 _ ?_⟩
      have := o1.rd.sub (l := 0) (u := 1) (by omega) (by omega)
      rw [Nat.zero_mul, List.drop_zero, Nat.sub_zero, Nat.one_mul] at this
      rw [siftA, if_pos h7]
      simpa [iv, pl] using this
    · refine M.ite_ff (hJ2 _ ?_)
      unfold siftA
      split
      · rename_i h7
        rw [List.take_of_length_le (by omega)]; exact o1.rd
      · exact o1.rd
    · have c7 : step = 7 := by simpa using c7
      by_cases h : 1 < (keepA (Cn.vws cs) l step).length
      · rw [decide_eq_true (by omega)]; exact hJ3.1 c7 h
      · rw [decide_eq_false (by omega)]; exact hJ3.2 (.inr (by omega))
    · have c7 : step ≠ 7 := by simpa using c7
      exact hJ3.2 (.inl c7)
theorem pl_range (n : Nat) : pl (List.range (n + 1)) = pl (List.range n) ++ [(n : Int)] := by rw [List.range_succ, pl_app]; rfl
theorem left_c {w : World} {s : SV} {cs : List Cn} (hs : Cns w s cs) (ho : ∀ c ∈ cs, OkC c) (hb : cs.length ≤ 1000000) (step : Int) :
    Calls Try.prog 12 #[s.v, .int .i64 step] w (R12 fun r w' => Rd 1 w' r (iv (pl (leftA (Cn.vws cs) (stepsN step)))) ∧ Keeps [] w w') := by
  have hsl := hs.len
  refine F12_ok ?_
  refine M.loop2_by (fun o x w' => ∃ i : Nat, x = i ∧ i ≤ cs.length ∧ Own 3 1 w' o (iv (pl (List.range i))) ∧ (∀ y ∈ o.blk, w.heap.size ≤ y) ∧ Keeps [] w w') (fun _ x _ => cs.length - x.toNat)
    ⟨0, rfl, by omega, Own.nil _ _ _, by simp [SV.blk], Keeps.refl _ _⟩ ?_
  rintro o x w1 J ⟨i, rfl, hi, o1, f1, k1⟩ hJ
  refine M.ite_by (fun c => ?_) (fun c => ?_)
  · have c := of_decide_eq_true c
    rw [w64 (by omega) (by omega)]
    refine app_i (i : Int) k1 f1 o1 (by rw [pl_len, List.length_range]; omega) fun r w4 o4 f4 k4 => hJ _ _ _ ⟨i + 1, by omega, by omega, ?_, f4, k4⟩ (by omega)
    rw [pl_range]; exact o4
  · have c := of_decide_eq_false c
    obtain rfl : i = cs.length := by omega
    have hst : stepsN step = (min step 7).toNat := rfl
    refine M.loop2_by (fun o x w' => ∃ k : Nat, x = (k : Int) + 1 ∧ k ≤ stepsN step ∧ Rd 1 w' o (iv (pl (leftA (Cn.vws cs) k))) ∧ Keeps [] w w') (fun _ x _ => (8 - x).toNat)
      ⟨0, rfl, by omega, by rw [leftA, vws_len]; exact o1.rd, k1⟩ ?_
    rintro o x w2 J2 ⟨k, rfl, hk, o2, k2⟩ hJ2
    refine M.ite_by (fun c2 => ?_) (fun c2 => ?_)
    · have c2 := of_decide_eq_true c2
      have hlt : ∀ n ∈ leftA (Cn.vws cs) k, n < cs.length := fun n h => by have := leftA_lt _ _ n h; rwa [vws_len] at this
      have hll := leftA_len (Cn.vws cs) k
      rw [vws_len] at hll
      refine (sift_c (hs.new k2) o2 hlt ho (by omega) _).mono fun e w3 g => ?_
      obtain ⟨r, rfl, hr, k3⟩ := g
      refine ⟨_, rfl, ?_⟩
      rw [w64 (by omega) (by omega)]
      exact hJ2 _ _ _ ⟨k + 1, by omega, by omega, hr, k2.trans k3 (by simp)⟩ (by omega)
    · have c2 := of_decide_eq_false c2
      obtain rfl : k = stepsN step := by omega
      exact ⟨o2, k2⟩
theorem rleft_c {w : World} {s : SV} {cs : List Cn} (hs : Cns w s cs) (ho : ∀ c ∈ cs, OkC c) (hb : cs.length ≤ 1000000) (step : Int) :
    Calls Try.prog 23 #[s.v, .int .i64 step] w (R23 fun r w' => Rd 1 w' r (iv (pl (leftA (Cn.vws cs) (stepsN step)))) ∧ Keeps [] w w') := by
  have hsl := hs.len
  refine F23_ok ?_
  refine M.loop2_by (fun o x w' => ∃ i : Nat, x = i ∧ i ≤ cs.length ∧ Own 3 1 w' o (iv (pl (List.range i))) ∧ (∀ y ∈ o.blk, w.heap.size ≤ y) ∧ Keeps [] w w') (fun _ x _ => cs.length - x.toNat)
    ⟨0, rfl, by omega, Own.nil _ _ _, by simp [SV.blk], Keeps.refl _ _⟩ ?_
  rintro o x w1 J ⟨i, rfl, hi, o1, f1, k1⟩ hJ
  refine M.ite_by (fun c => ?_) (fun c => ?_)
  · have c := of_decide_eq_true c
    rw [w64 (by omega) (by omega)]
    refine app_i (i : Int) k1 f1 o1 (by rw [pl_len, List.length_range]; omega) fun r w4 o4 f4 k4 => hJ _ _ _ ⟨i + 1, by omega, by omega, ?_, f4, k4⟩ (by omega)
    rw [pl_range]; exact o4
  · have c := of_decide_eq_false c
    obtain rfl : i = cs.length := by omega
    have hst : stepsN step = (min step 7).toNat := rfl
    refine M.loop2_by (fun o x w' => ∃ k : Nat, x = (k : Int) + 1 ∧ k ≤ stepsN step ∧ Own 3 1 w' o (iv (pl (leftR (Cn.vws cs) k))) ∧ Keeps [] w w') (fun _ x _ => (8 - x).toNat)
      ⟨0, rfl, by omega, by rw [leftR, vws_len]; exact o1, k1⟩ ?_
    rintro o x w2 J2 ⟨k, rfl, hk, o2, k2⟩ hJ2
    have hlt : ∀ n ∈ leftR (Cn.vws cs) k, n < cs.length := fun n h => by have := leftR_lt _ _ n h; rwa [vws_len] at this
    have hll := leftR_len (Cn.vws cs) k
    rw [vws_len] at hll
    have hol := iv_len o2.rd
    rw [pl_len] at hol
    refine M.join_le (fun c1 c2 => ?_) (fun hend => ?_)
    · have hs2 := hs.new k2
      have hkeep : leftR (Cn.vws cs) (k + 1) = keepA (Cn.vws cs) (leftR (Cn.vws cs) k) ((k : Int) + 1) := rfl
      generalize leftR (Cn.vws cs) k = l at *
      refine M.loop2_by (fun u x w' => ∃ i : Nat, x = i ∧ i ≤ l.length ∧ Own 3 1 w' u (iv (pl ((l.take i).filter fun n => !gone (Cn.vws cs) l n ((k : Int) + 1)))) ∧ (∀ y ∈ u.blk, w2.heap.size ≤ y) ∧ Keeps [] w2 w') (fun _ x _ => l.length - x.toNat)
        ⟨0, rfl, by omega, Own.nil _ _ _, by simp [SV.blk], Keeps.refl _ _⟩ ?_
      rintro u x w3 J3 ⟨i, rfl, hi, u3, f3, k3⟩ hJ3
      have hfl := List.length_filter_le (fun n => !gone (Cn.vws cs) l n ((k : Int) + 1)) (l.take i)
      have htl := List.length_take_le i l
      refine M.ite_by (fun c => ?_) (fun c => ?_)
      · have c := of_decide_eq_true c
        have il : i < l.length := by omega
        have ei := List.getElem?_eq_getElem il
        have hn := hlt _ (List.getElem_mem il)
        have htf := take_filter_add (fun n => !gone (Cn.vws cs) l n ((k : Int) + 1)) ei
        generalize l[i] = n at *
        have en := List.getElem?_eq_getElem hn
        have hcm := List.getElem_mem hn
        generalize cs[n] = cn at *
        obtain ⟨ax, hax⟩ := o2.rd.some (by omega)
        refine M.join_by (fun (J : SV → World → Prop) => ∀ r w', Own 3 1 w' r (iv (pl ((l.take (i + 1)).filter fun n => !gone (Cn.vws cs) l n ((k : Int) + 1)))) → (∀ y ∈ r.blk, w2.heap.size ≤ y) → Keeps [] w2 w' → J r w') (fun r w' h1 h2 h3 => ?_) fun J4 hJ4 => ?_
        · rw [w64 (by omega) (by omega)]
          exact hJ3 _ _ _ ⟨i + 1, by omega, by omega, h1, h2, h3⟩ (by omega)
        · refine M.loop2_by (fun (b : Bool) x w' => ∃ j : Nat, x = j ∧ j ≤ l.length ∧ Keeps [] w3 w' ∧ b = ((l.take j).any fun k' => match (Cn.vws cs)[n]?, (Cn.vws cs)[k']? with | some a, some b => bts a b ((k : Int) + 1) | _, _ => false)) (fun _ x _ => l.length - x.toNat)
            ⟨0, rfl, by omega, Keeps.refl _ _, rfl⟩ ?_
          rintro b x w4 J5 ⟨j, rfl, hj, k4, hb4⟩ hJ5
          have k24 := k3.trans k4 (by simp)
          refine M.ite_by (fun c3 => ?_) (fun c3 => ?_)
          · have c3 := of_decide_eq_true c3
            have jl : j < l.length := by omega
            have ej := List.getElem?_eq_getElem jl
            have hm := hlt _ (List.getElem_mem jl)
            have htk : l.take (j + 1) = l.take j ++ [l[j]] := by rw [List.take_add_one, ej]; rfl
            generalize l[j] = m at *
            have em := List.getElem?_eq_getElem hm
            have hmm := List.getElem_mem hm
            generalize cs[m] = cm at *
            have kd := Keeps.drew [] w4
            have k25 := k24.trans kd (by simp)
            refine M.join_by (fun (J : Bool → World → Prop) => ∀ r w', Keeps [] w3 w' → r = (b || bts cn.vw cm.vw ((k : Int) + 1)) → J r w') (fun r w' h1 h2 => ?_) fun J6 hJ6 => M.drew_by (M.ite_by (fun c5 => ?_) (fun c5 => ?_))
            · rw [w64 (by omega) (by omega)]
              refine hJ5 _ _ _ ⟨j + 1, by omega, by omega, h1, ?_⟩ (by omega)
              rw [h2, htk, List.any_append, hb4]
              simp only [List.any_cons, List.any_nil, vws_at en, vws_at em, Bool.or_false]
            · exact hJ6 _ _ (k4.trans kd (by simp)) (by rw [c5, Bool.true_or])
            · have e1 := iv_at (o2.keep k25 (by simp)).rd hax (pl_at ei)
              have e2 := iv_at (o2.keep k25 (by simp)).rd hax (pl_at ej)
              have hs5 := hs2.new k25
              obtain ⟨ay, hay⟩ := hs5.1.some (by omega)
              have a1 := hs5.at hay en
              have a2 := hs5.at hay em
              refine ⟨ax, hax, by omega, c, ax, hax, by omega, c3, _, e1, ay, hay, by omega, by omega, _, _, _, _, _, _, _, _, _, _, _, _, _, _, a1, _, e2, ay, hay, by omega, by omega, _, _, _, _, _, _, _, _, _, _, _, _, _, _, a2, (worse_c (hs5.2 _ hcm) (hs5.2 _ hmm) (ho _ hcm) (ho _ hmm) _).mono fun e w6 g => ?_⟩
              obtain ⟨r, rfl, hr, k6⟩ := g
              exact ⟨_, rfl, hJ6 _ _ ((k4.trans kd (by simp)).trans k6 (by simp)) (by rw [c5, Bool.false_or]; exact hr)⟩
          · have c3 := of_decide_eq_false c3
            rw [List.take_of_length_le (by omega)] at hb4
            change b = gone (Cn.vws cs) l n ((k : Int) + 1) at hb4
            rw [htf, ← hb4] at hJ4
            refine M.ite_by (fun c5 => ?_) (fun c5 => ?_)
            · have c5 : b = false := by simpa using c5
              rw [c5] at hJ4
              have e1 := iv_at (o2.keep k24 (by simp)).rd hax (pl_at ei)
              refine ⟨ax, hax, by omega, c, _, e1, app_i (n : Int) k24 f3 (u3.keep k4 (by simp)) (by rw [pl_len]; omega) fun r w6 o6 f6 k6 => hJ4 r w6 ?_ f6 k6⟩
              rw [pl_app]; exact o6
            · have c5 : b = true := by simpa using c5
              rw [c5] at hJ4
              exact hJ4 _ _ (by simpa using u3.keep k4 (by simp)) f3 k24
      · have c := of_decide_eq_false c
        rw [List.take_of_length_le (by omega)] at u3
        rw [w64 (by omega) (by omega)]
        exact hJ2 _ _ _ ⟨k + 1, by omega, by omega, by rw [hkeep]; exact u3, k2.trans k3 (by simp)⟩ (by omega)
    · obtain rfl : k = stepsN step := by omega
      have hfin : leftA (Cn.vws cs) (stepsN step) = if 7 ≤ step then (leftR (Cn.vws cs) (stepsN step)).take 1 else leftR (Cn.vws cs) (stepsN step) := by
        split
        · have : stepsN step = 7 := by omega
          rw [this]; exact leftR_7 _
        · exact (leftR_eq _ _ (by omega)).symm
      generalize leftR (Cn.vws cs) (stepsN step) = l at *
      rw [hfin]
      refine M.join_by (fun (J : SV → World → Prop) => ∀ r, Rd 1 w2 r (iv (pl (if 7 ≤ step then l.take 1 else l))) → J r w2) (fun r h => ⟨h, k2⟩) fun J3 hJ3 => M.join_by (fun (J : Bool → World → Prop) => (7 ≤ step → 1 < l.length → J true w2) ∧ (¬ 7 ≤ step ∨ l.length ≤ 1 → J false w2)) ⟨fun h7 hgt => ?_, fun hle => ?_⟩ fun J4 hJ4 => M.ite_by (fun c7 => ?_) (fun c7 => ?_)
      · have hcap := o2.rd.cap
        refine M.ite_tt ⟨by omega, by omega, by omega, hJ3 _ ?_⟩
        have := o2.rd.sub (l := 0) (u := 1) (by omega) (by omega)
        rw [Nat.zero_mul, List.drop_zero, Nat.sub_zero, Nat.one_mul] at this
        rw [if_pos h7]
        simpa [iv, pl] using this
      · refine M.ite_ff (hJ3 _ ?_)
        split
        · rw [List.take_of_length_le (by omega)]; exact o2.rd
        · exact o2.rd
      · have c7 := of_decide_eq_true c7
        by_cases h : 1 < l.length
        · rw [decide_eq_true (by omega)]; exact hJ4.1 c7 h
        · rw [decide_eq_false (by omega)]; exact hJ4.2 (.inr (by omega))
      · have c7 := of_decide_eq_false c7
        exact hJ4.2 (.inl c7)
end Go.Proofs.Ytmgigplbclkpaaa
