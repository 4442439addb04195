/-
  A path out of bytes.
-/
import Derived.Test.YtflffabmfoldeaaAspE
namespace Go.Proofs.Ytflffabmfoldeaa
set_option linter.unusedVariables false
set_option linter.unusedSimpArgs false
open Go.Sp

def numsB : Nat → List UInt8 → List Int
  | 0, _ => []
  | n + 1, bs => (be (bs.take 4) : Int) :: numsB n (bs.drop 4)
def decS : List UInt8 → Option (List (Int × List Int))
  | [] => some []
  | [_] => none
  | k :: n :: rest => if rest.length < 4 * n.toNat then none else (decS (rest.drop (4 * n.toNat))).map (((k.toNat : Int), numsB n.toNat rest) :: ·)
termination_by bs => bs.length
decreasing_by simp; omega
def decP (bs : List UInt8) : List (Int × List Int) × Bool := match decS bs with
  | some l => if rightPt l then (l, true) else ([], false)
  | none => ([], false)
theorem numsB_len (n : Nat) : ∀ bs, (numsB n bs).length = n := by
  induction n with
  | zero => intro _; rfl
  | succ n ih => intro bs; unfold numsB; rw [List.length_cons, ih]
theorem numsB_succ (n : Nat) : ∀ bs, numsB (n + 1) bs = numsB n bs ++ [(be ((bs.drop (4 * n)).take 4) : Int)] := by
  induction n with
  | zero => intro _; rfl
  | succ n ih =>
    intro bs
    show (be (bs.take 4) : Int) :: numsB (n + 1) (bs.drop 4) = _
    rw [ih, List.drop_drop, show 4 + 4 * n = 4 * (n + 1) by omega]; rfl
theorem OwnP.old {n : Nat} {w w' : World} {s : SV} {L : List Sg} {D : List Nat} (h : OwnP n w s L) (k : Keeps D w w') (hD : ∀ x ∈ D, x < n) : OwnP n w' s L :=
  ⟨h.out.keep k (fun y hy hm => by have := h.low y hy; have := hD y hm; omega), fun x hx => (h.inn x hx).keep k (fun y hy hm => by have := h.lowi x hx y hy; have := hD y hm; omega), h.low, h.lowi, h.apart, h.pair⟩
/-- One part more. -/
theorem OwnP.snocD {n : Nat} {w0 w : World} {s : SV} {L : List Sg} {D : List Nat} (h : OwnP n w s L) (k0 : Keeps D w0 w) (hn : n = w0.heap.size) {x : Sg} (ho : Own 23 1 w x.2.1 (uval x.2.2)) (hl : ∀ y ∈ x.2.1.blk, n ≤ y) (h1 : ∀ y ∈ x.2.1.blk, y ∉ s.blk) (h2 : ∀ z ∈ L, ∀ y ∈ z.2.1.blk, y ∉ x.2.1.blk) (hb : L.length ≤ 1000000)
    {K : SV → World → Prop} (hK : ∀ r w', OwnP n w' r (L ++ [x]) → Keeps D w0 w' → Keeps s.blk w w' → K r w') :
    M.new (.cells #[Value.int .i64 x.1, x.2.1.v] 27) w fun b w' => M.app Try.prog 24 24 24 s (SV.v (SV.mk (some b) 1 1)) w' K := by
  have hsl := h.len
  refine M.new_by ?_
  have ka := Keeps.alloc [] w (.cells #[Value.int .i64 x.1, x.2.1.v] 27)
  have hr := (Own.new w 27 2 1 (sgvs [x]) rfl (by decide)).rd
  obtain ⟨r, w', v1, v2, v3, v4, v5⟩ := app_own (P := Try.prog) (ty := 24) insgSl insgEl (h.out.keep ka (by simp)) (x := ⟨some ⟨w.heap.size, 0, none⟩, 1, 1⟩) (news := sgvs [x]) hr (sgvs_one _) (by simp only []; omega)
  have hsz : (w.alloc (.cells #[Value.int .i64 x.1, x.2.1.v] 27)).heap.size = w.heap.size + 1 := by simp
  have k1 : Keeps s.blk w w' := ka.up.and v4
  have hkeep : ∀ {t : SV} {l : List Int}, Own 23 1 w t (uval l) → (∀ y ∈ t.blk, y ∉ s.blk) → Own 23 1 w' t (uval l) := fun ho hd => ho.keep k1 hd
  have hrb : ∀ {t : SV} {l : List Int}, Own 23 1 w t (uval l) → (∀ y ∈ t.blk, y ∉ s.blk) → ∀ y ∈ t.blk, y ∉ r.blk := fun ho hd y hy hr => by
    rcases v5 y hr with h3 | h3
    · exact hd y hy h3
    · have := ho.lt y hy; omega
  refine ⟨r, w', v1, hK r w' ⟨by rw [sgvs_app]; exact v2, ?_, ?_, ?_, ?_, ?_⟩ (k0.trans k1 (fun y hy => .inr (by have := h.low y hy; omega))) k1⟩
  · intro z hz
    rcases List.mem_append.1 hz with hz | hz
    · exact hkeep (h.inn z hz) (h.apart z hz)
    · obtain rfl := List.mem_singleton.1 hz
      exact hkeep ho h1
  · intro y hy
    rcases v5 y hy with h3 | h3
    · exact h.low y h3
    · have := k0.size; omega
  · intro z hz
    rcases List.mem_append.1 hz with hz | hz
    · exact h.lowi z hz
    · obtain rfl := List.mem_singleton.1 hz
      exact hl
  · intro z hz
    rcases List.mem_append.1 hz with hz | hz
    · exact hrb (h.inn z hz) (h.apart z hz)
    · obtain rfl := List.mem_singleton.1 hz
      exact hrb ho h1
  · rw [List.pairwise_append]
    refine ⟨h.pair, List.pairwise_singleton _ _, fun a ha b hb => ?_⟩
    obtain rfl := List.mem_singleton.1 hb
    exact h2 a ha
/-- One number more, a reading between. -/
theorem app_uD {n : Nat} {w : World} {s : SV} {l : List Int} (x : Int) {Q : World → Prop} {K : SV → World → Prop} (hn : n ≤ w.heap.size) (hf : ∀ y ∈ s.blk, n ≤ y) (ho : Own 23 1 w s (uval l)) (hb : l.length ≤ 1000000) (hQ : ∀ w', Keeps [] w w' → Q w') (h : ∀ r w', Own 23 1 w' r (uval (l ++ [x])) → (∀ y ∈ r.blk, n ≤ y) → Keeps s.blk w w' → K r w') :
    M.new (.cells #[Value.int .u32 x] 23) w fun b w' => M.keep (Q w') <| M.app Try.prog 25 25 25 s (SV.v (SV.mk (some b) 1 1)) w' K := by
  have hl := uval_len ho.rd
  refine M.new_by ?_
  have ka := Keeps.alloc [] w (.cells #[Value.int .u32 x] 23)
  have hr := (Own.new w 23 1 1 (uval [x]) rfl (by decide)).rd
  obtain ⟨r, w', v1, v2, v3, v4, v5⟩ := app_own (P := Try.prog) (ty := 25) insuSl insuEl (ho.keep ka (by simp)) (x := ⟨some ⟨w.heap.size, 0, none⟩, 1, 1⟩) (news := uval [x]) hr (uval_one _) (by simp; omega)
  have h1 : (w.alloc (.cells #[Value.int .u32 x] 23)).heap.size = w.heap.size + 1 := by simp
  refine ⟨hQ _ ka, r, w', v1, h r w' (by rw [show uval (l ++ [x]) = uval l ++ uval [x] by simp [uval]]; exact v2) (fun y hy => ?_) (ka.up.and v4)⟩
  rcases v5 y hy with h | h
  · exact hf y h
  · omega
theorem read1 {rem : List UInt8} {k : UInt8} {m : List UInt8} (h : rem = k :: m) : be (rawOut rem false 1) = k.toNat ∧ rawLeft rem false 1 = m ∧ rawBad rem false 1 = false := by
  subst h
  obtain ⟨h1, h2, h3⟩ := rawOut_app [k] m 1 rfl
  have e : [k] ++ m = k :: m := rfl
  rw [e] at h1 h2 h3
  refine ⟨?_, h2, h3⟩
  rw [h1]; simp [be]
theorem apdec_c {w : World} {s : SV} {bs : List UInt8} (h : Rd 1 w s (bv bs)) (hb : bs.length ≤ 100000) :
    Calls Try.prog 20 #[s.v] w (R20 fun r ok w' => ∃ L : List Sg, OwnP w.heap.size w' r L ∧ (L.map pt, ok) = decP bs ∧ Keeps [] w w') := by
  refine F20_ok ((newr_c h (by omega)).mono fun e w1 g => ?_)
  obtain ⟨r1, rfl, p, q, rfl, hR, k1, hp, hq⟩ := g
  have hs1 := k1.size
  have hpl := hR.lt
  refine ⟨_, rfl, M.loop1_by (fun o w' => ∃ (L : List Sg) (rem : List UInt8) (bad : Bool), OwnP w1.heap.size w' o L ∧ IsR w' p q rem bad ∧ L.length + rem.length ≤ bs.length ∧ (bad = false → decS bs = (decS rem).map (L.map pt ++ ·)) ∧ (bad = true → decS bs = none) ∧ Keeps [p] w1 w') (fun o _ => bs.length + 1 - o.len) ⟨[], bs, false, OwnP.nil _ _, hR, by simp, fun _ => by simp, fun h => (by cases h), Keeps.refl _ _⟩ ?_⟩
  clear hR
  rintro o w2 J ⟨L, rem, bad, hP, hR, hlen, hd0, hd1, k2⟩ hJ
  have hol := hP.len
  have kW : ∀ {w' : World}, Keeps [p] w1 w' → Keeps [] w w' := fun k => k1.trans k (fun y hy => .inr (by simp at hy; omega))
  refine (left_c hR).mono fun e w' g => ?_
  obtain ⟨r14, rfl, rfl, hw⟩ := g
  obtain rfl := hw.symm
  refine ⟨_, rfl, M.ite_by (fun c => ?_) (fun c => ?_)⟩
  · have c := of_decide_eq_true c
    cases bad with
    | true => simp at c
    | false =>
      have c : 0 < (rem.length : Int) := c
      have hd0 := hd0 rfl
      clear hd1
      cases rem with
      | nil => simp at c
      | cons k rem1 =>
        obtain ⟨e1, e2, e3⟩ := read1 (rem := k :: rem1) rfl
        refine (ru8_c hR (by omega)).mono fun e w3 g => ?_
        obtain ⟨r17, rfl, rfl, hR3, k3⟩ := g
        rw [e1]
        rw [e2, e3] at hR3
        clear e1 e2 e3 hR
        refine ⟨_, rfl, M.new_blk fun b w4 hb4 B4 k4 => M.stA_blk B4 rfl fun w5 B5 k5 => ?_⟩
        have k35 : Keeps [] w3 w5 := k4.trans k5 (by simp; omega)
        have k15 : Keeps [p] w1 w5 := (k2.trans k3 (by simp)).trans k35 (by simp)
        have hR5 := hR3.keep k35 (by simp) (by simp)
        have hs3 := (k2.trans k3 (by simp)).size
        have hPs5 : OwnP w1.heap.size w5 o L := (hP.old k3 (by simp; omega)).new k35
        have hlt5 : ∀ y ∈ o.blk, y < w3.heap.size := (hP.old k3 (by simp; omega)).out.lt
        have hlti5 : ∀ z ∈ L, ∀ y ∈ z.2.1.blk, y < w3.heap.size := fun z hz => (hP.old k3 (by simp; omega)).mem hz
        simp only [List.length_cons] at hlen
        refine (ru8_c hR5 (by omega)).mono fun e w6 g => ?_
        obtain ⟨r23, rfl, he, hR6, k6⟩ := g
        have hmain : ∃ (n : Nat) (rest : List UInt8) (bad : Bool), r23 = n ∧ n ≤ 255 ∧ IsR w6 p q rest bad ∧ rest.length ≤ rem1.length ∧ (bad = false → decS (k :: rem1) = if rest.length < 4 * n then none else (decS (rest.drop (4 * n))).map (((k.toNat : Int), numsB n rest) :: ·)) ∧ (bad = true → n = 0 ∧ decS (k :: rem1) = none) := by
          cases rem1 with
          | nil =>
            refine ⟨0, _, _, ?_, by omega, hR6, by simp [rawLeft], fun h => (by simp [rawBad] at h), fun _ => ⟨rfl, by simp [decS]⟩⟩
            rw [he]; simp [rawOut, rawBad, be]
          | cons n rest =>
            obtain ⟨e1, e2, e3⟩ := read1 (rem := n :: rest) rfl
            rw [e2, e3] at hR6
            rw [e1] at he
            exact ⟨n.toNat, rest, false, he, by have := n.toNat_lt; omega, hR6, by simp, fun _ => (by rw [decS]), fun h => (by cases h)⟩
        clear he hR6
        obtain ⟨n, rest, bad, rfl, hn, hR6, hrl, hn0, hn1⟩ := hmain
        have hbp : b ∉ [p] := by simp; omega
        have B6 := B5.keep k6 hbp
        have k16 := k15.trans k6 (by simp)
        have hP6 : OwnP w1.heap.size w6 o L := hPs5.old k6 (by simp; omega)
        refine ⟨_, rfl, (left_c hR6).mono fun e w' g => ?_⟩
        obtain ⟨r25, rfl, rfl, hw⟩ := g
        obtain rfl := hw.symm
        refine ⟨_, rfl, ?_⟩
        rw [w64 (n := (n : Int) * 4) (by omega) (by omega)]
        refine M.ite_by (fun c2 => ?_) (fun c2 => ?_)
        · have c2 := of_decide_eq_true c2
          refine ⟨[], OwnP.nil _ _, ?_, kW k16⟩
          have : decS bs = none := by
            cases bad with
            | true => rw [hd0, (hn1 rfl).2]; rfl
            | false =>
              have c2 : (rest.length : Int) < (n : Int) * 4 := c2
              rw [hd0, hn0 rfl, if_pos (by omega)]; rfl
          unfold decP
          rw [this]; rfl
        · have c2 := of_decide_eq_false c2
          have hrn : 4 * n ≤ rest.length := by
            cases bad with
            | true => rw [(hn1 rfl).1]; omega
            | false =>
              have c2 : ¬ (rest.length : Int) < (n : Int) * 4 := c2
              omega
          clear c2
          have hs6 := k16.size
          have hs5 := k35.size
          refine M.loop1_by (fun x w' => ∃ (j : Nat) (t : SV), x = j ∧ j ≤ n ∧ IsR w' p q (rest.drop (4 * j)) bad ∧ Blk w' b 27 [.int .i64 (k.toNat : Int), t.v] ∧ Own 23 1 w' t (uval (numsB j rest)) ∧ (∀ y ∈ t.blk, b + 1 ≤ y) ∧ OwnP w1.heap.size w' o L ∧ Keeps [p] w1 w' ∧ b < w'.heap.size) (fun x _ => n - x.toNat) ⟨0, SV.nil, rfl, by omega, hR6, B6, Own.nil _ _ _, by simp [SV.blk], hP6, k16, B6.lt⟩ ?_
          clear hR6 B6 hP6 k16 hs6
          rintro x w7 J2 ⟨j, t, rfl, hj, hR7, B7, o7, f7, hP7, k7, hs7⟩ hJ2
          have hs17 := k7.size
          refine M.ite_by (fun c3 => ?_) (fun c3 => ?_)
          · have c3 := of_decide_eq_true c3
            have hbad : bad = false := by
              cases bad with
              | false => rfl
              | true => have := (hn1 rfl).1; omega
            subst hbad
            refine M.drew_by ?_
            have kd := Keeps.drew [] w7
            have hRd := hR7.keep kd (by simp) (by simp)
            have Bd := B7.keep kd (by simp)
            have od := o7.keep kd (by simp)
            have hPd := hP7.new kd
            have k8 := k7.trans kd (by simp)
            generalize w7.drew = w8 at *
            refine ⟨t, Bd.cell 1, (ru32_c hRd (by rw [List.length_drop]; omega)).mono fun e w9 g => ?_⟩
            obtain ⟨r46, rfl, he, hR9, k9⟩ := g
            have hsp : rest.drop (4 * j) = (rest.drop (4 * j)).take 4 ++ rest.drop (4 * (j + 1)) := by
              rw [show 4 * (j + 1) = 4 * j + 4 by omega, ← List.drop_drop, List.take_append_drop]
            obtain ⟨e1, e2, e3⟩ := rawOut_app ((rest.drop (4 * j)).take 4) (rest.drop (4 * (j + 1))) 4 (by rw [List.length_take, List.length_drop]; omega)
            rw [← hsp] at e1 e2 e3
            rw [e1] at he
            rw [e2, e3] at hR9
            have B9 := Bd.keep k9 hbp
            have htp : ∀ y ∈ t.blk, y ∉ [p] := fun y hy hm => by have := f7 y hy; simp at hm; omega
            have o9 := od.keep k9 htp
            have hP9 : OwnP w1.heap.size w9 o L := hPd.old k9 (by simp; omega)
            have k19 := k8.trans k9 (by simp)
            have hs9 := B9.lt
            refine ⟨_, rfl, B9.cell 1, app_uD (n := b + 1) _ (by omega) f7 o9 (by rw [numsB_len]; omega) (fun w' k' => (B9.keep k' (by simp)).cell 1) fun r w10 o10 f10 k10 => ?_⟩
            have hbt : b ∉ t.blk := fun hm => by have := f7 b hm; omega
            have B10 := B9.keep k10 hbt
            have hpt : p ∉ t.blk := fun hm => by have := f7 p hm; omega
            have hqt : ∀ y ∈ q, y ∉ t.blk := fun y hy hm => by have := f7 y hm; have := (hq y hy).2; omega
            have hR10 := hR9.keep k10 hpt hqt
            have hd10 : ∀ {u : SV}, (∀ y ∈ u.blk, y < w3.heap.size) → ∀ y ∈ u.blk, y ∉ t.blk := fun hu y hy hm => by have := hu y hy; have := f7 y hm; omega
            have hP10 : OwnP w1.heap.size w10 o L := ⟨hP9.out.keep k10 (hd10 hlt5), fun z hz => (hP9.inn z hz).keep k10 (hd10 (hlti5 z hz)), hP9.low, hP9.lowi, hP9.apart, hP9.pair⟩
            refine M.st_blk B10 (by simp) fun w11 B11 k11 => ?_
            have hd11 : ∀ {u : SV}, (∀ y ∈ u.blk, y < w3.heap.size) → ∀ y ∈ u.blk, y ∉ [b] := fun hu y hy hm => by have := hu y hy; simp at hm; omega
            have hP11 : OwnP w1.heap.size w11 o L := ⟨hP10.out.keep k11 (hd11 hlt5), fun z hz => (hP10.inn z hz).keep k11 (hd11 (hlti5 z hz)), hP10.low, hP10.lowi, hP10.apart, hP10.pair⟩
            rw [w64 (by omega) (by omega)]
            refine hJ2 _ w11 ⟨j + 1, r, by omega, by omega, hR10.keep k11 (by simp; omega) (fun y hy hm => by have := (hq y hy).2; simp at hm; omega), B11, ?_, f10, hP11, (k19.trans k10 (fun y hy => .inr (by have := f7 y hy; omega))).trans k11 (fun y hy => .inr (by simp at hy; omega)), B11.lt⟩ (by omega)
            rw [numsB_succ, ← he]
            exact o10.keep k11 (fun y hy hm => by have := f10 y hy; simp at hm; omega)
          · have c3 := of_decide_eq_false c3
            obtain rfl : j = n := by omega
            refine ⟨_, B7.cell 0, t, B7.cell 1, ?_⟩
            dsimp only
            refine hP7.snocD k7 rfl (x := ((k.toNat : Int), t, numsB j rest)) o7 (fun y hy => by have := f7 y hy; omega) (fun y hy hm => by have := f7 y hy; have := hlt5 y hm; omega) (fun z hz y hy hm => by have := f7 y hm; have := hlti5 z hz y hy; omega) (by omega) fun r w8 hP8 k8 k78 => ?_
            have hpo : p ∉ o.blk := fun hm => by have := hP.low p hm; omega
            have hqo : ∀ y ∈ q, y ∉ o.blk := fun y hy hm => by have := hP.low y hm; have := (hq y hy).2; omega
            refine hJ _ _ ⟨_, _, bad, hP8, hR7.keep k78 hpo hqo, ?_, fun h => ?_, fun h => ?_, k8⟩ ?_
            · rw [List.length_append, List.length_singleton, List.length_drop]; omega
            · rw [hd0, hn0 h, if_neg (by omega)]
              cases decS (rest.drop (4 * j)) with
              | none => rfl
              | some l => simp [pt]
            · rw [hd0, (hn1 h).2]; rfl
            · have := hP8.len
              rw [List.length_append, List.length_singleton] at this
              omega
  · have c := of_decide_eq_false c
    refine M.join_by (fun (J : Bool → World → Prop) => (∀ w', decP bs = ([], false) → Keeps [p] w1 w' → J true w') ∧ (∀ w', OwnP w1.heap.size w' o L → decP bs = (L.map pt, true) → Keeps [p] w1 w' → J false w')) ⟨fun w' hd k' => M.ite_tt ⟨[], OwnP.nil _ _, hd.symm, kW k'⟩, fun w' hP' hd k' => M.ite_ff ⟨L, hP'.lower hs1, hd.symm, kW k'⟩⟩ fun J2 hJ2 => (fine_c hR).mono fun e w' g => ?_
    obtain ⟨r71, rfl, rfl, hw⟩ := g
    obtain rfl := hw.symm
    refine ⟨_, rfl, ?_⟩
    cases bad with
    | true =>
      refine M.ite_y rfl (hJ2.1 _ ?_ k2)
      unfold decP
      rw [hd1 rfl]
    | false =>
      have c : ¬ 0 < (rem.length : Int) := c
      obtain rfl : rem = [] := List.eq_nil_of_length_eq_zero (by omega)
      have hdec : decS bs = some (L.map pt) := by rw [hd0 rfl, decS]; simp
      refine M.ite_n rfl ((apright_c hP.segs (by simp at hlen; omega)).mono fun e w3 g => ?_)
      obtain ⟨r74, rfl, rfl, k3⟩ := g
      rw [right_pt]
      refine ⟨_, rfl, ?_⟩
      cases hr : rightPt (L.map pt) with
      | true =>
        refine hJ2.2 _ (hP.new k3) ?_ (k2.trans k3 (by simp))
        unfold decP
        rw [hdec]
        simp [hr]
      | false =>
        refine hJ2.1 _ ?_ (k2.trans k3 (by simp))
        unfold decP
        rw [hdec]
        simp [hr]
end Go.Proofs.Ytflffabmfoldeaa
