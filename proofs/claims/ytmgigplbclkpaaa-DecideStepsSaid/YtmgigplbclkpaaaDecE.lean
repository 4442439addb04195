/-
  The best candidate; candidates told the same by both.
-/
import Derived.Test.YtmgigplbclkpaaaDecD
import Derived.Test.YtmgigplbclkpaaaSpDecO
namespace Go.Proofs.Ytmgigplbclkpaaa
set_option linter.unusedVariables false
set_option linter.unusedSimpArgs false
open Go.Sp

theorem get_take {α : Type} {l : List α} {n j : Nat} {v : α} (h : (l.take n)[j]? = some v) : l[j]? = some v := by
  rw [List.getElem?_take] at h
  split at h
  · exact h
  · cases h
/-- What counts of a candidate is in bounds, its cost has sixty-four bits. -/
def OkD (c : Cn) : Prop := OkC c ∧ c.cost < 18446744073709551616
theorem okV {cs : List Cn} (h : ∀ c ∈ cs, OkD c) : OkV (Cn.vws cs) := by
  intro v hv
  obtain ⟨c, hc, rfl⟩ := List.mem_map.1 hv
  exact cleanN_le (h c hc).2
theorem best_c {w : World} {s : SV} {cs : List Cn} (hs : Cns w s cs) (ho : ∀ c ∈ cs, OkD c) (hb : cs.length ≤ 1000000) :
    Calls Try.prog 13 #[s.v] w (R13 fun x ok w' => (x, ok) = bestA (Cn.vws cs) ∧ Keeps [] w w') := by
  have hsl := hs.len
  refine F13_ok (M.ite_by (fun c => ?_) (fun c => ?_))
  · have c : s.len = 0 := by simpa using c
    obtain rfl : cs = [] := List.eq_nil_of_length_eq_zero (by omega)
    exact ⟨by show _ = bestA []; unfold bestA; rw [leftA_nil], Keeps.refl _ _⟩
  · have c : s.len ≠ 0 := by simpa using c
    obtain ⟨n, r, h7, hA⟩ := bestA_some (okV ho) (vs := Cn.vws cs) (by intro h; have := congrArg List.length h; rw [vws_len] at this; simp only [List.length_nil] at this; omega)
    refine (left_c hs (fun c h => (ho c h).1) hb 7).mono fun e w1 g => ?_
    obtain ⟨q, rfl, hq, k1⟩ := g
    rw [show stepsN 7 = 7 from rfl, h7] at hq
    have hql := iv_len hq
    simp [pl] at hql
    obtain ⟨ax, hax⟩ := hq.some (by omega)
    refine ⟨_, rfl, ax, hax, by omega, by omega, _, iv_at hq hax (i := 0) (x := (n : Int)) rfl, ?_, k1⟩
    rw [hA]
theorem rbest_c {w : World} {s : SV} {cs : List Cn} (hs : Cns w s cs) (ho : ∀ c ∈ cs, OkD c) (hb : cs.length ≤ 1000000) :
    Calls Try.prog 25 #[s.v] w (R25 fun x ok w' => (x, ok) = bestA (Cn.vws cs) ∧ Keeps [] w w') := by
  refine F25_ok ((rleft_c hs (fun c h => (ho c h).1) hb 7).mono fun e w1 g => ?_)
  obtain ⟨q, rfl, hq, k1⟩ := g
  rw [show stepsN 7 = 7 from rfl] at hq
  have hql := iv_len hq
  rw [pl_len] at hql
  unfold bestA
  cases h7 : leftA (Cn.vws cs) 7 with
  | nil =>
    rw [h7] at hql
    exact ⟨_, rfl, M.ite_y (by simp at hql; simp [hql]) ⟨rfl, k1⟩⟩
  | cons n r =>
    rw [h7] at hql hq
    simp at hql
    obtain ⟨ax, hax⟩ := hq.some (by omega)
    exact ⟨_, rfl, M.ite_n (by simp; omega) ⟨ax, hax, by omega, by omega, _, iv_at hq hax (i := 0) (x := (n : Int)) rfl, rfl, k1⟩⟩
theorem one_zero {w : World} {r : SV} {l : List Nat} (h : Rd 1 w r (iv (pl l))) {K : Bool → World → Prop} (hK : K (l == [0]) w) :
    M.join (fun (x : Bool) (w' : World) => K x w') fun J => M.ite ((r.len : Int) == (1 : Int)) (M.idx r (0 : Int) 1 fun a => M.ld (Value.int .i64) (a.add ((0 : Int).toNat * 1)) w fun t => J (t == (0 : Int)) w) (J false w) := by
  have hl := iv_len h
  rw [pl_len] at hl
  refine M.join_by (fun (J : Bool → World → Prop) => J (l == [0]) w) hK fun J hJ => M.ite_by (fun c => ?_) (fun c => ?_)
  · have c : r.len = 1 := by simp at c; omega
    match l, hl, h, hJ with
    | [n], hl, h, hJ =>
      obtain ⟨ax, hax⟩ := h.some (by omega)
      refine ⟨ax, hax, by omega, by omega, _, iv_at h hax (i := 0) (x := (n : Int)) rfl, ?_⟩
      have : ((n : Int) == 0) = ([n] == [0]) := by
        rw [Bool.eq_iff_iff]; simp
      dsimp only
      rw [this]; exact hJ
    | [], hl, h, hJ => simp at hl; omega
    | a :: b :: m, hl, h, hJ => simp at hl; omega
  · have c : r.len ≠ 1 := by simp at c; omega
    have : (l == [0]) = false := by
      rw [Bool.eq_false_iff]
      intro h2
      have h2 : l = [0] := by simpa using h2
      rw [h2] at hl; simp at hl; omega
    rw [this] at hJ; exact hJ
theorem two_cns {w : World} {b : Nat} {T : TypeId} {c d : Cn} (h : Blk w b T (c.cells ++ d.cells)) (hc : Segs w c.path c.segs) (hd : Segs w d.path d.segs) : Cns w ⟨some ⟨b, 0, none⟩, 2, 2⟩ [c, d] := by
  refine ⟨⟨rfl, Nat.le_refl _, (fun h => nomatch h), fun a ha i v hv => ?_⟩, fun x hx => ?_⟩
  · cases ha
    rw [add_mk, Nat.zero_add, h.cell]
    exact hv
  · simp at hx
    rcases hx with rfl | rfl
    · exact hc
    · exact hd
theorem better_c {w : World} {c d : Cn} (hc : Segs w c.path c.segs) (hd : Segs w d.path d.segs) (oc : OkC c) (od : OkC d) (step : Int) :
    Calls Try.prog 17 #[c.agg, d.agg, .int .i64 step] w (R17 fun r w' => r = betterA c.vw d.vw step ∧ Keeps [] w w') := by
  refine F17_ok (M.new_blk fun b w1 hb B k1 => M.new_blk fun b2 w2 hb2 D k2 => ?_)
  have B := B.keep k2 (by simp)
  have k02 := k1.trans k2 (by simp)
  refine ⟨_, _, _, _, _, _, _, _, _, _, _, _, _, _, B.cs 0 c.cells rfl, _, _, _, _, _, _, _, _, _, _, _, _, _, _, D.cs 0 d.cells rfl, M.new_blk (cs := c.cells ++ d.cells) fun b3 w3 hb3 E k3 => ?_⟩
  have k03 := k02.trans k3 (by simp)
  refine (left_c (two_cns E (hc.new k03) (hd.new k03)) (by intro x hx; simp at hx; rcases hx with rfl | rfl <;> assumption) (by simp) step).mono fun e w4 g => ?_
  obtain ⟨r, rfl, hr, k4⟩ := g
  exact ⟨_, rfl, one_zero hr ⟨rfl, k03.trans k4 (by simp)⟩⟩
theorem rbetter_c {w : World} {c d : Cn} (hc : Segs w c.path c.segs) (hd : Segs w d.path d.segs) (oc : OkC c) (od : OkC d) (step : Int) :
    Calls Try.prog 24 #[c.agg, d.agg, .int .i64 step] w (R24 fun r w' => r = betterA c.vw d.vw step ∧ Keeps [] w w') := by
  refine F24_ok (M.new_blk fun b w1 hb B k1 => M.new_blk fun b2 w2 hb2 D k2 => ?_)
  have B := B.keep k2 (by simp)
  have k02 := k1.trans k2 (by simp)
  refine ⟨_, _, _, _, _, _, _, _, _, _, _, _, _, _, B.cs 0 c.cells rfl, _, _, _, _, _, _, _, _, _, _, _, _, _, _, D.cs 0 d.cells rfl, M.new_blk (cs := c.cells ++ d.cells) fun b3 w3 hb3 E k3 => ?_⟩
  have k03 := k02.trans k3 (by simp)
  refine (rleft_c (two_cns E (hc.new k03) (hd.new k03)) (by intro x hx; simp at hx; rcases hx with rfl | rfl <;> assumption) (by simp) step).mono fun e w4 g => ?_
  obtain ⟨r, rfl, hr, k4⟩ := g
  exact ⟨_, rfl, one_zero hr ⟨rfl, k03.trans k4 (by simp)⟩⟩
theorem samei_c {w : World} {s t : SV} {l m : List Int} (hs : Rd 1 w s (iv l)) (ht : Rd 1 w t (iv m)) (hb : l.length ≤ 1099511627776) :
    Calls Try.prog 22 #[s.v, t.v] w (R22 fun r w' => r = (l == m) ∧ Keeps [] w w') := by
  have hl := iv_len hs
  have hm := iv_len ht
  refine F22_ok (M.ite_by (fun c => ?_) (fun c => ?_))
  · have c : l.length ≠ m.length := by simp at c; omega
    have : (l == m) = false := by simp; intro h; subst h; exact c rfl
    rw [this]
    exact ⟨rfl, Keeps.refl _ _⟩
  · have c : l.length = m.length := by simp at c; omega
    refine M.loop1_by (fun x w' => ∃ i : Nat, x = i ∧ i ≤ l.length ∧ Keeps [] w w' ∧ l.take i = m.take i) (fun x _ => l.length - x.toNat) ⟨0, rfl, by omega, Keeps.refl _ _, rfl⟩ ?_
    rintro x w1 J ⟨i, rfl, hi, k1, he⟩ hJ
    refine M.ite_by (fun c1 => ?_) (fun c1 => ?_)
    · have c1 := of_decide_eq_true c1
      have il : i < l.length := by omega
      have im : i < m.length := by omega
      have ei := List.getElem?_eq_getElem il
      have em := List.getElem?_eq_getElem im
      have h1 : l.take (i + 1) = l.take i ++ [l[i]] := by rw [List.take_add_one, ei]; rfl
      have h2 : m.take (i + 1) = m.take i ++ [m[i]] := by rw [List.take_add_one, em]; rfl
      generalize l[i] = u at *
      generalize m[i] = v at *
      have kd := Keeps.drew [] w1
      have k2 := k1.trans kd (by simp)
      obtain ⟨ax, hax⟩ := (hs.keep k2 (by simp)).some (by omega)
      obtain ⟨ay, hay⟩ := (ht.keep k2 (by simp)).some (by omega)
      refine M.drew_by ⟨ax, hax, by omega, c1, ay, hay, by omega, by omega, _, iv_at (hs.keep k2 (by simp)) hax ei, _, iv_at (ht.keep k2 (by simp)) hay em, M.ite_by (fun c2 => ?_) (fun c2 => ?_)⟩
      · have c2 : u ≠ v := by simpa using c2
        have : (l == m) = false := by
          simp
          intro h; subst h
          rw [ei] at em; cases em; exact c2 rfl
        rw [this]; exact ⟨rfl, k2⟩
      · have c2 : u = v := by simpa using c2
        rw [w64 (by omega) (by omega)]
        exact hJ _ _ ⟨i + 1, by omega, by omega, k2, by rw [h1, h2, he, c2]⟩ (by omega)
    · have c1 := of_decide_eq_false c1
      rw [List.take_of_length_le (by omega), List.take_of_length_le (by omega)] at he
      subst he
      exact ⟨by simp, k1⟩
theorem rcEl : elemB Try.prog 59 14 112 = true := by kernel_rfl
theorem rcSl : sliceB Try.prog 54 59 14 = true := by kernel_rfl
theorem cEl : elemB Try.prog 37 14 112 = true := by kernel_rfl
theorem cSl : sliceB Try.prog 24 37 14 = true := by kernel_rfl
theorem in_c {w : World} {s : SV} {cs : List Cn} (hs : Cns w s cs) (hb : cs.length ≤ 1000000) :
    Calls Try.prog 21 #[s.v] w (R21 fun r w' => Cns w' r cs ∧ Keeps [] w w') := by
  have hsl := hs.len
  refine F21_ok ?_
  refine M.loop2_by (fun o x w' => ∃ i : Nat, x = i ∧ i ≤ cs.length ∧ Own 59 14 w' o (cnv (cs.take i)) ∧ (∀ y ∈ o.blk, w.heap.size ≤ y) ∧ Keeps [] w w') (fun _ x _ => cs.length - x.toNat)
    ⟨0, rfl, by omega, Own.nil _ _ _, by simp [SV.blk], Keeps.refl _ _⟩ ?_
  rintro o x w1 J ⟨i, rfl, hi, o1, f1, k1⟩ hJ
  have hol := o1.rd.len
  rw [cnv_len] at hol
  have htl := List.length_take_le i cs
  refine M.ite_by (fun c => ?_) (fun c => ?_)
  · have c := of_decide_eq_true c
    have il : i < cs.length := by omega
    have ei := List.getElem?_eq_getElem il
    have htk : cs.take (i + 1) = cs.take i ++ [cs[i]] := by rw [List.take_add_one, ei]; rfl
    generalize cs[i] = cn at *
    have kd := Keeps.drew [] w1
    have k2 := k1.trans kd (by simp)
    have hs2 := hs.new k2
    obtain ⟨ax, hax⟩ := hs2.1.some (by omega)
    have a1 := hs2.at hax ei
    have a13 : w1.drew.cell? ((ax.add (i * 14)).add 13) = some (.float .f64 cn.cost) := by have := a1.get 13 (v := .float .f64 cn.cost) rfl; rwa [Nat.zero_add] at this
    have a12 : Cs w1.drew (ax.add (i * 14)) 0 (cn.cells.take 13) := cs_of _ _ fun j v hj => by
      rw [Nat.zero_add]
      have := a1.get j (v := v) (get_take hj)
      rwa [Nat.zero_add] at this
    refine M.drew_by ⟨ax, hax, by omega, c, ax, hax, by omega, c, _, _, _, _, _, _, _, _, _, _, _, _, _, a12, _, a13, new1_k (cs := cn.cells) (sz := 14) rfl k2 fun b w3 g1 g2 x3 k3 k03 => app_k rcSl rcEl k03 f1 ((o1.keep kd (by simp)).keep k3 (by simp)) (news := cnv [cn]) (by simpa [cnv] using x3) (cnv_one _) (by simp only []; omega) fun r w4 o4 n4 f4 _ k4 => ?_⟩
    rw [w64 (by omega) (by omega)]
    exact hJ _ _ _ ⟨i + 1, by omega, by omega, by rw [htk, cnv_app]; exact o4, f4, k4⟩ (by omega)
  · have c := of_decide_eq_false c
    rw [List.take_of_length_le (by omega)] at o1
    exact ⟨⟨o1.rd, fun c hc => (hs.2 c hc).new k1⟩, k1⟩
theorem same_c {w : World} {s : SV} {cs : List Cn} (hs : Cns w s cs) (ho : ∀ c ∈ cs, OkD c) (hb : cs.length ≤ 1000000) :
    Calls Try.prog 9 #[s.v] w (R9 fun r w' => r = true ∧ Keeps [] w w') := by
  have hsl := hs.len
  have ho1 : ∀ c ∈ cs, OkC c := fun c h => (ho c h).1
  refine F9_ok ((in_c hs hb).mono fun e w1 g => ?_)
  obtain ⟨t, rfl, ht, k1⟩ := g
  have htl := ht.len
  refine ⟨_, rfl, ?_⟩
  refine M.loop1_by (fun x w' => ∃ k : Nat, x = (k : Int) - 1 ∧ k ≤ 11 ∧ Keeps [] w1 w') (fun x _ => (10 - x).toNat) ⟨0, rfl, by omega, Keeps.refl _ _⟩ ?_
  rintro x w2 J ⟨k, rfl, hk, k2⟩ hJ
  have k02 := k1.trans k2 (by simp)
  refine M.ite_by (fun c => ?_) (fun c => ?_)
  · have c := of_decide_eq_true c
    refine (left_c (hs.new k02) ho1 hb _).mono fun e w3 g => ?_
    obtain ⟨r3, rfl, h3, k3⟩ := g
    refine ⟨_, rfl, (rleft_c (ht.new (k2.trans k3 (by simp))) ho1 hb _).mono fun e w4 g => ?_⟩
    obtain ⟨r4, rfl, h4, k4⟩ := g
    have hll := leftA_len (Cn.vws cs) (stepsN ((k : Int) - 1))
    rw [vws_len] at hll
    refine ⟨_, rfl, (samei_c (h3.keep k4 (by simp)) h4 (by rw [pl_len]; omega)).mono fun e w5 g => ?_⟩
    obtain ⟨r5, rfl, h5, k5⟩ := g
    refine ⟨_, rfl, M.ite_n (by rw [h5]; simp) ?_⟩
    have k25 := (k3.trans k4 (by simp)).trans k5 (by simp)
    have k15 := k2.trans k25 (by simp)
    refine M.loop1_by (fun x w' => ∃ i : Nat, x = i ∧ i ≤ cs.length ∧ Keeps [] w1 w') (fun x _ => cs.length - x.toNat) ⟨0, rfl, by omega, k15⟩ ?_
    rintro x w6 J6 ⟨i, rfl, hi, k6⟩ hJ6
    rw [w64 (show (-9223372036854775808 : Int) ≤ (i : Int) + 1 by omega) (by omega)]
    refine M.ite_by (fun c1 => ?_) (fun c1 => ?_)
    · have c1 := of_decide_eq_true c1
      have il : i < cs.length := by omega
      have il1 : i + 1 < cs.length := by omega
      have ei := List.getElem?_eq_getElem il
      have ei1 := List.getElem?_eq_getElem il1
      have hm := List.getElem_mem il
      have hm1 := List.getElem_mem il1
      generalize cs[i] = a at *
      generalize cs[i + 1] = b at *
      have kd := Keeps.drew [] w6
      have k7 := k6.trans kd (by simp)
      have hs7 := hs.new (k1.trans k7 (by simp))
      have ht7 := ht.new k7
      obtain ⟨ax, hax⟩ := hs7.1.some (by omega)
      obtain ⟨ay, hay⟩ := ht7.1.some (by omega)
      have e1 : ((i : Int) + 1).toNat * 14 = (i + 1) * 14 := by omega
      refine M.drew_by ⟨ax, hax, by omega, by omega, ax, hax, by omega, by omega, ay, hay, by omega, by omega, ay, hay, by omega, by omega, ?_⟩
      rw [e1]
      refine ⟨_, _, _, _, _, _, _, _, _, _, _, _, _, _, hs7.at hax ei, _, _, _, _, _, _, _, _, _, _, _, _, _, _, hs7.at hax ei1, _, _, _, _, _, _, _, _, _, _, _, _, _, _, ht7.at hay ei, _, _, _, _, _, _, _, _, _, _, _, _, _, _, ht7.at hay ei1, (better_c (hs7.2 _ hm) (hs7.2 _ hm1) (ho1 _ hm) (ho1 _ hm1) _).mono fun e w8 g => ?_⟩
      obtain ⟨r8, rfl, h8, k8⟩ := g
      have ht8 := ht7.new k8
      refine ⟨_, rfl, ht8.at hay ei1, ht8.at hay ei, (rbetter_c (ht8.2 _ hm) (ht8.2 _ hm1) (ho1 _ hm) (ho1 _ hm1) _).mono fun e w9 g => ?_⟩
      obtain ⟨r9, rfl, h9, k9⟩ := g
      refine ⟨_, rfl, M.ite_n (by rw [h8, h9]; simp) ?_⟩
      exact hJ6 _ _ ⟨i + 1, by omega, by omega, (k7.trans k8 (by simp)).trans k9 (by simp)⟩ (by omega)
    · rw [w64 (by omega) (by omega)]
      exact hJ _ _ ⟨k + 1, by omega, by omega, k6⟩ (by omega)
  · refine (best_c (hs.new k02) ho hb).mono fun e w3 g => ?_
    obtain ⟨x3, y3, rfl, h3, k3⟩ := g
    refine ⟨_, _, rfl, (rbest_c (ht.new (k2.trans k3 (by simp))) ho hb).mono fun e w4 g => ?_⟩
    obtain ⟨x4, y4, rfl, h4, k4⟩ := g
    rw [← h3] at h4
    cases h4
    exact ⟨_, _, rfl, M.join_by (fun (J : Bool → World → Prop) => J true w4) ⟨rfl, (k02.trans k3 (by simp)).trans k4 (by simp)⟩ fun J hJ => M.ite_y (by simp) (by simpa using hJ)⟩
end Go.Proofs.Ytmgigplbclkpaaa
