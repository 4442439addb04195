/-
  What the reference takes out of bytes.
-/
import Derived.Test.YtflffabmfoldeaaAspU
namespace Go.Proofs.Ytflffabmfoldeaa
set_option linter.unusedVariables false
set_option linter.unusedSimpArgs false
open Go.Sp

theorem isv_flag {w : World} {p : Nat} {q : List Nat} {bs : List UInt8} {bad : Bool} (h : IsV w p q bs bad) : w.cell? ((⟨p, 0, none⟩ : Addr).add 2) = some (Value.bool bad) := by
  obtain ⟨s, f, n, h1, h2, h3, h4, h5⟩ := h
  exact h3.cell 2
theorem rdec_c {w : World} {s : SV} {bs : List UInt8} (h : Rd 1 w s (bv bs)) (hb : bs.length ≤ 100000) :
    Calls Try.prog 48 #[s.v] w (R48 fun r ok w' => ∃ L : List Sg, OwnP w.heap.size w' r L ∧ (L.map pt, ok) = decP bs ∧ Keeps [] w w') := by
  refine F48_ok (M.new_blk fun p w1 hp B1 k1 => ?_)
  obtain ⟨q, hR, hq⟩ := IsV.start h (by omega) hp B1 k1
  have hs1 := k1.size
  have hpl := B1.lt
  refine M.loop1_by (fun o w' => ∃ (L : List Sg) (rem : List UInt8) (bad : Bool), OwnP w1.heap.size w' o L ∧ IsV w' p q rem bad ∧ L.length + rem.length ≤ bs.length ∧ (bad = false → decS bs = (decS rem).map (L.map pt ++ ·)) ∧ (bad = true → decS bs = none) ∧ Keeps [p] w1 w') (fun o _ => bs.length + 1 - o.len) ⟨[], bs, false, OwnP.nil _ _, hR, by simp, fun _ => by simp, fun h => (by cases h), Keeps.refl _ _⟩ ?_
  clear hR
  rintro o w2 J ⟨L, rem, bad, hP, hR, hlen, hd0, hd1, k2⟩ hJ
  have hol := hP.len
  have kW : ∀ {w' : World}, Keeps [p] w1 w' → Keeps [] w w' := fun k => k1.trans k (fun y hy => .inr (by simp at hy; omega))
  refine (vleft_c hR).mono fun e w2' g => ?_
  obtain ⟨r14, rfl, rfl, kl⟩ := g
  have hR := hR.keep kl (by simp) (by simp)
  have hP := hP.new kl
  have k2 := k2.trans kl (by simp)
  refine ⟨_, rfl, M.ite_by (fun c => ?_) (fun c => ?_)⟩
  · have c := of_decide_eq_true c
    cases bad with
    | true => simp at c
    | false =>
      have c : 0 < (rem.length : Int) := c
      have hd0 := hd0 rfl
      clear hd1
      cases rem with
      | nil => simp at c
      | cons k rem1 =>
        obtain ⟨e1, e2, e3⟩ := read1 (rem := k :: rem1) rfl
        refine (vu8_c hR).mono fun e w3 g => ?_
        obtain ⟨r17, rfl, rfl, hR3, k3⟩ := g
        rw [e1]
        rw [e2, e3] at hR3
        clear e1 e2 e3 hR
        refine ⟨_, rfl, M.new_blk fun b w4 hb4 B4 k4 => M.stA_blk B4 rfl fun w5 B5 k5 => ?_⟩
        have k35 : Keeps [] w3 w5 := k4.trans k5 (by simp; omega)
        have k15 : Keeps [p] w1 w5 := (k2.trans k3 (by simp)).trans k35 (by simp)
        have hR5 := hR3.keep k35 (by simp) (by simp)
        have hs3 := (k2.trans k3 (by simp)).size
        have hPs5 : OwnP w1.heap.size w5 o L := (hP.old k3 (by simp; omega)).new k35
        have hlt5 : ∀ y ∈ o.blk, y < w3.heap.size := (hP.old k3 (by simp; omega)).out.lt
        have hlti5 : ∀ z ∈ L, ∀ y ∈ z.2.1.blk, y < w3.heap.size := fun z hz => (hP.old k3 (by simp; omega)).mem hz
        simp only [List.length_cons] at hlen
        refine (vu8_c hR5).mono fun e w6 g => ?_
        obtain ⟨r23, rfl, he, hR6, k6⟩ := g
        have hmain : ∃ (n : Nat) (rest : List UInt8) (bad : Bool), r23 = n ∧ n ≤ 255 ∧ IsV w6 p q rest bad ∧ rest.length ≤ rem1.length ∧ (bad = false → decS (k :: rem1) = if rest.length < 4 * n then none else (decS (rest.drop (4 * n))).map (((k.toNat : Int), numsB n rest) :: ·)) ∧ (bad = true → decS (k :: rem1) = none) := by
          cases rem1 with
          | nil =>
            refine ⟨0, _, _, ?_, by omega, hR6, by simp [rawLeft], fun h => (by simp [rawBad] at h), fun _ => by simp [decS]⟩
            rw [he]; simp [rawOut, rawBad, be]
          | cons n rest =>
            obtain ⟨e1, e2, e3⟩ := read1 (rem := n :: rest) rfl
            rw [e2, e3] at hR6
            rw [e1] at he
            exact ⟨n.toNat, rest, false, he, by have := n.toNat_lt; omega, hR6, by simp, fun _ => (by rw [decS]), fun h => (by cases h)⟩
        clear he hR6
        obtain ⟨n, rest, bad, rfl, hn, hR6, hrl, hn0, hn1⟩ := hmain
        have hbp : b ∉ [p] := by simp; omega
        have B6 := B5.keep k6 hbp
        have k16 := k15.trans k6 (by simp)
        have hP6 : OwnP w1.heap.size w6 o L := hPs5.old k6 (by simp; omega)
        have hs5 := k35.size
        refine ⟨_, rfl, M.loop1_by (fun x w' => ∃ (j : Nat) (t : SV) (m : List Int) (rem' : List UInt8) (bad' : Bool), x = (n : Int) - j ∧ j ≤ n ∧ m.length = j ∧ IsV w' p q rem' bad' ∧ rem'.length ≤ rest.length ∧ Blk w' b 27 [.int .i64 (k.toNat : Int), t.v] ∧ Own 23 1 w' t (uval m) ∧ (∀ y ∈ t.blk, b + 1 ≤ y) ∧ OwnP w1.heap.size w' o L ∧ Keeps [p] w1 w' ∧ (bad' = false → bad = false ∧ m = numsB j rest ∧ rem' = rest.drop (4 * j) ∧ 4 * j ≤ rest.length) ∧ (bad' = true → decS bs = none)) (fun x _ => x.toNat) ⟨0, SV.nil, [], rest, bad, by omega, by omega, rfl, hR6, Nat.le_refl _, B6, Own.nil _ _ _, by simp [SV.blk], hP6, k16, fun h => ⟨h, rfl, by simp, by omega⟩, fun h => by rw [hd0, hn1 h]; rfl⟩ ?_⟩
        clear hR6 B6 hP6 k16
        rintro x w7 J2 ⟨j, t, m, rem', bad', rfl, hj, hmj, hR7, hrl7, B7, o7, f7, hP7, k7, hb0, hb1⟩ hJ2
        have hs17 := k7.size
        have hs7 := B7.lt
        refine M.join_by (fun (J : Bool → World → Prop) => (bad' = false → j < n → J true w7) ∧ ((bad' = true ∨ j = n) → J false w7)) ⟨fun hbad c3 => M.ite_tt ?_, fun hend => M.ite_ff ?_⟩ fun J3 hJ3 => ?_
        · subst hbad
          obtain ⟨hbad, hm, hrem, h4j⟩ := hb0 rfl
          subst hbad
          refine M.drew_by ?_
          have kd := Keeps.drew [] w7
          have hRd := hR7.keep kd (by simp) (by simp)
          have Bd := B7.keep kd (by simp)
          have od := o7.keep kd (by simp)
          have hPd := hP7.new kd
          have k8 := k7.trans kd (by simp)
          generalize w7.drew = w8 at *
          refine ⟨t, Bd.cell 1, (vu32_c hRd).mono fun e w9 g => ?_⟩
          obtain ⟨r46, rfl, he, hR9, k9⟩ := g
          have B9 := Bd.keep k9 hbp
          have htp : ∀ y ∈ t.blk, y ∉ [p] := fun y hy hm => by have := f7 y hy; simp at hm; omega
          have o9 := od.keep k9 htp
          have hP9 : OwnP w1.heap.size w9 o L := hPd.old k9 (by simp; omega)
          have k19 := k8.trans k9 (by simp)
          have hs9 := B9.lt
          refine ⟨_, rfl, B9.cell 1, app_uD (n := b + 1) _ (by omega) f7 o9 (by omega) (fun w' k' => (B9.keep k' (by simp)).cell 1) fun r w10 o10 f10 k10 => ?_⟩
          have hbt : b ∉ t.blk := fun hm => by have := f7 b hm; omega
          have B10 := B9.keep k10 hbt
          have hpt : p ∉ t.blk := fun hm => by have := f7 p hm; omega
          have hqt : ∀ y ∈ q, y ∉ t.blk := fun y hy hm => by have := f7 y hm; have := hq y hy; omega
          have hR10 := hR9.keep k10 hpt hqt
          have hd10 : ∀ {u : SV}, (∀ y ∈ u.blk, y < w3.heap.size) → ∀ y ∈ u.blk, y ∉ t.blk := fun hu y hy hm => by have := hu y hy; have := f7 y hm; omega
          have hP10 : OwnP w1.heap.size w10 o L := ⟨hP9.out.keep k10 (hd10 hlt5), fun z hz => (hP9.inn z hz).keep k10 (hd10 (hlti5 z hz)), hP9.low, hP9.lowi, hP9.apart, hP9.pair⟩
          refine M.st_blk B10 (by simp) fun w11 B11 k11 => ?_
          have hd11 : ∀ {u : SV}, (∀ y ∈ u.blk, y < w3.heap.size) → ∀ y ∈ u.blk, y ∉ [b] := fun hu y hy hm => by have := hu y hy; simp at hm; omega
          have hP11 : OwnP w1.heap.size w11 o L := ⟨hP10.out.keep k11 (hd11 hlt5), fun z hz => (hP10.inn z hz).keep k11 (hd11 (hlti5 z hz)), hP10.low, hP10.lowi, hP10.apart, hP10.pair⟩
          rw [w64 (by omega) (by omega)]
          have hR11 := hR10.keep k11 (by simp; omega) (fun y hy hm => by have := hq y hy; simp at hm; omega)
          have k111 : Keeps [p] w1 w11 := (k19.trans k10 (fun y hy => .inr (by have := f7 y hy; omega))).trans k11 (fun y hy => .inr (by simp at hy; omega))
          have o11 := o10.keep k11 (fun y hy hm => by have := f10 y hy; simp at hm; omega)
          by_cases h4 : 4 * (j + 1) ≤ rest.length
          · have hsp : rem' = (rest.drop (4 * j)).take 4 ++ rest.drop (4 * (j + 1)) := by
              rw [hrem, show 4 * (j + 1) = 4 * j + 4 by omega, ← List.drop_drop, List.take_append_drop]
            obtain ⟨e1, e2, e3⟩ := rawOut_app ((rest.drop (4 * j)).take 4) (rest.drop (4 * (j + 1))) 4 (by rw [List.length_take, List.length_drop]; omega)
            rw [← hsp] at e1 e2 e3
            rw [e1] at he
            rw [e2, e3] at hR11
            exact hJ2 _ w11 ⟨j + 1, r, _, _, _, by omega, by omega, by rw [List.length_append, List.length_singleton]; omega, hR11, by rw [List.length_drop]; omega, B11, o11, f10, hP11, k111, fun _ => ⟨rfl, by rw [numsB_succ, ← he, hm], rfl, h4⟩, fun h => (by cases h)⟩ (by omega)
          · have hrl' : rem'.length = rest.length - 4 * j := by rw [hrem, List.length_drop]
            have e3 : rawBad rem' false 4 = true := by simp [rawBad]; omega
            have e2 : rawLeft rem' false 4 = rem' := by unfold rawLeft; rw [if_pos e3]
            rw [e2, e3] at hR11
            exact hJ2 _ w11 ⟨j + 1, r, _, _, _, by omega, by omega, by rw [List.length_append, List.length_singleton]; omega, hR11, hrl7, B11, o11, f10, hP11, k111, fun h => (by cases h), fun _ => by rw [hd0, hn0 rfl, if_pos (by omega)]; rfl⟩ (by omega)
        · refine ⟨_, B7.cell 0, t, B7.cell 1, ?_⟩
          dsimp only
          refine hP7.snocD k7 rfl (x := ((k.toNat : Int), t, m)) o7 (fun y hy => by have := f7 y hy; omega) (fun y hy hm => by have := f7 y hy; have := hlt5 y hm; omega) (fun z hz y hy hm => by have := f7 y hm; have := hlti5 z hz y hy; omega) (by omega) fun r w8 hP8 k8 k78 => ?_
          have hpo : p ∉ o.blk := fun hm => by have := hP.low p hm; omega
          have hqo : ∀ y ∈ q, y ∉ o.blk := fun y hy hm => by have := hP.low y hm; have := hq y hy; omega
          refine hJ _ _ ⟨_, _, bad', hP8, hR7.keep k78 hpo hqo, ?_, fun h => ?_, hb1, k8⟩ ?_
          · rw [List.length_append, List.length_singleton]; omega
          · obtain ⟨hbad, hm, hrem, h4j⟩ := hb0 h
            have hjn : j = n := by
              rcases hend with h' | h'
              · rw [h] at h'; cases h'
              · exact h'
            subst hjn
            rw [hd0, hn0 hbad, if_neg (by omega), hrem, hm]
            cases decS (rest.drop (4 * j)) with
            | none => rfl
            | some l => simp [pt]
          · have := hP8.len
            rw [List.length_append, List.length_singleton] at this
            omega
        · refine M.ite_by (fun c4 => ?_) (fun c4 => hJ3.2 (.inr (by have := of_decide_eq_false c4; omega)))
          have c4 := of_decide_eq_true c4
          refine ⟨bad', isv_flag hR7, ?_⟩
          cases bad' with
          | true => exact hJ3.2 (.inl rfl)
          | false => exact hJ3.1 rfl (by omega)
  · have c := of_decide_eq_false c
    refine M.join_by (fun (J : Bool → World → Prop) => (∀ w', decP bs = ([], false) → Keeps [p] w1 w' → J true w') ∧ (∀ w', OwnP w1.heap.size w' o L → decP bs = (L.map pt, true) → Keeps [p] w1 w' → J false w')) ⟨fun w' hd k' => M.ite_tt ⟨[], OwnP.nil _ _, hd.symm, kW k'⟩, fun w' hP' hd k' => M.ite_ff ⟨L, hP'.lower hs1, hd.symm, kW k'⟩⟩ fun J2 hJ2 => ⟨bad, isv_flag hR, ?_⟩
    cases bad with
    | true =>
      refine M.ite_y rfl (hJ2.1 _ ?_ k2)
      unfold decP
      rw [hd1 rfl]
    | false =>
      have c : ¬ 0 < (rem.length : Int) := c
      obtain rfl : rem = [] := List.eq_nil_of_length_eq_zero (by omega)
      have hdec : decS bs = some (L.map pt) := by rw [hd0 rfl, decS]; simp
      refine M.ite_n rfl ((rright_c hP.segs (by simp at hlen; omega)).mono fun e w3 g => ?_)
      obtain ⟨r74, rfl, rfl, k3⟩ := g
      rw [right_pt]
      refine ⟨_, rfl, ?_⟩
      cases hr : rightPt (L.map pt) with
      | true =>
        refine hJ2.2 _ (hP.new k3) ?_ (k2.trans k3 (by simp))
        unfold decP
        rw [hdec]
        simp [hr]
      | false =>
        refine hJ2.1 _ ?_ (k2.trans k3 (by simp))
        unfold decP
        rw [hdec]
        simp [hr]
end Go.Proofs.Ytflffabmfoldeaa
