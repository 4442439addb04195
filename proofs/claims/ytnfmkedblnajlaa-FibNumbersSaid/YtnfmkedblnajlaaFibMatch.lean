/-
  FibMatch: an address is led by the longest entry that has it.
-/
import Derived.Test.YtnfmkedblnajlaaFibL
namespace Go.Proofs.Ytnfmkedblnajlaa
set_option linter.unusedVariables false
set_option linter.unusedSimpArgs false
open Go.Sp
open Go.RowKit (Below)

theorem tput_len_le (L : Tbl) (k : Key) (v : Int) : (tput L k v).length ≤ L.length + 1 := by
  induction L with
  | nil => simp [tput]
  | cons x l ih =>
    simp only [tput]
    split
    · simp
    · split
      · simp
      · simp; omega
theorem From.old {D D' : List Nat} {w : World} {n : Nat} (h : From D w D') (hD : ∀ y ∈ D, n ≤ y) (hw : n ≤ w.heap.size) : ∀ y ∈ D', n ≤ y := fun y hy => by
  rcases h y hy with h | h
  · exact hD y h
  · omega
theorem fknown_a {W w : World} (a : Aft W w) : Calls Try.prog 14 #[] w (R14 fun r w' => r = true ∧ Aft W w') := fknown_c.mono fun e w' g => by
  obtain ⟨r, rfl, rfl, k⟩ := g
  exact ⟨_, rfl, rfl, a.new k⟩
theorem fmlaw_c {W : World} {s : SV} {l : List As} {p1 : Int} (hs : Rd 6 W s (l.flatMap asv)) (hok : ∀ x ∈ l, x.ok W) (hm : s.len ≤ maxLen) :
    Calls Try.prog 3 #[s.v, .int .u32 p1] W (R3 fun r w' => r = true ∧ Below W.heap.size W w') := by
  unfold maxLen at hm
  have hl := rows_len as6 (by omega) hs
  refine F3_ok ((fnew_c 100).mono fun e w1 g => ?_)
  obtain ⟨r, e', rfl, g, k1⟩ := g
  rw [if_pos (by omega)] at g
  obtain ⟨p, X, rfl, rfl, F1, hX⟩ := g
  refine ⟨_, _, rfl, M.join_by (fun (J : Bool → World → Prop) => J false w1) (M.ite_ff ?_) fun J hJ => M.ite_ff hJ⟩
  refine M.loop1_by (fun x w => ∃ (i : Nat) (X : List Nat) (S : FS), x = i ∧ i ≤ 40 ∧ Aft W w ∧ FibAt w X p 100 S ∧ (∀ y ∈ X, W.heap.size ≤ y) ∧ S.L.length ≤ i ∧ S.n ≤ i) (fun x _ => (40 - x).toNat)
    ⟨0, X, FS.zero, rfl, by omega, (Aft.refl W).new k1, F1, hX, by simp [FS.zero], by simp [FS.zero]⟩ ?_
  rintro x w J ⟨i, X, S, rfl, hi, ha, F, hX, hSl, hSn⟩ hJ
  refine M.join_lt (fun hx1 hx2 => ?_) (fun hend => ?_)
  · have il : i < l.length := by omega
    have ei := List.getElem?_eq_getElem il
    obtain ⟨hA, hr, _⟩ := hok _ (List.getElem_mem il)
    generalize l[i] = x at *
    have hs' := hs.arg ha.1
    obtain ⟨ax, hax⟩ := hs'.some (by omega)
    refine ⟨ax, hax, by omega, by omega, _, _, _, _, _, _, rows_cs as6 hs' hax ei, M.new_blk fun b2 w2 hb2 B2 k2 => M.stA_blk B2 rfl fun w3 B3 k3 => M.st_blk B3 (by simp) fun w4 B4 k4 => ⟨_, _, _, _, _, _, B4.cs 0 _ rfl, ?_⟩⟩
    have k04 : Keeps [] w w4 := (k2.trans k3 (by simp; omega)).trans k4 (by simp; omega)
    have a4 := ha.new k04
    refine (fentry_c x.kind x.N x.Ln x.A true (hr.arg a4.1)).mono fun e w5 g => ?_
    obtain ⟨x5, y5, t5, rfl, rfl, rfl, rd5, f5, k5⟩ := g
    have k05 := k04.trans k5 (by simp)
    obtain ⟨q1, q2, q3, q4⟩ := few_right x.N x.Ln x.A x.l
    have hset : S.set 100 (askEn true x.N x.Ln x.A x.l).1 (askEn true x.N x.Ln x.A x.l).2 = _ := FS.set_ok S q2 q3 (.inr (by omega))
    generalize askEn true x.N x.Ln x.A x.l = en at *
    have hXl := F.lt
    refine ⟨_, _, _, rfl, (fset_c (F.keep k05 (by simp)) (by omega) (by omega) q1 en.1.2 rd5 ?_ (by omega)).mono fun e w6 g => ?_⟩
    · intro _ y hy h
      rcases f5 y hy with h5 | h5
      · cases h5.1
      · have := hXl y h; have := k04.size; omega
    · obtain ⟨r6, rfl, rfl, X6, F6, k6, f6⟩ := g
      rw [show ((en.1.1, en.1.2) : Key) = en.1 from rfl, hset] at F6 ⊢
      refine ⟨_, rfl, M.ite_ff ?_⟩
      rw [w64 (by omega) (by omega)]
      have a5 := ha.new k05
      exact hJ _ _ ⟨i + 1, X6, _, by omega, by omega, a5.step k6 hX, F6, f6.old hX a5.2, Nat.le_trans (tput_len_le _ _ _) (by omega), by show S.n + 1 ≤ _; omega⟩ (by omega)
  · obtain ⟨A, hAe, hA32⟩ := bOr_u32 (167772160 : Int) (Int.tmod p1 (33554432 : Int))
    rw [hAe]
    refine (fmatch_c F hA32).mono fun e w2 g => ?_
    obtain ⟨r2, ok2, rfl, rd2, rfl, f2, k2⟩ := g
    refine ⟨_, _, rfl, M.loop1_by (fun x w' => ∃ j : Nat, x = (j : Int) - 1 ∧ j ≤ 33 ∧ Keeps [] w2 w' ∧ ∀ m : Nat, j ≤ m → m < 33 → tget S.L (topN A m, (m : Int)) = none) (fun x _ => (x + 1).toNat) ⟨33, rfl, by omega, Keeps.refl _ _, fun m h1 h2 => by omega⟩ ?_⟩
    rintro x w3 J2 ⟨j, rfl, hj, k3, hno⟩ hJ2
    have k03 := k2.trans k3 (by simp)
    refine M.ite_by (fun c => ?_) (fun c => ?_)
    · have c := of_decide_eq_true c
      obtain ⟨n, rfl⟩ : ∃ n, j = n + 1 := ⟨j - 1, by omega⟩
      have e1 : ((n + 1 : Nat) : Int) - 1 = (n : Int) := by omega
      rw [e1]
      refine (rof_c hA32 (n : Int)).mono fun e w4 g => ?_
      obtain ⟨x4, y4, rfl, rfl, rfl, k4⟩ := g
      rw [clampN_nat (by omega)]
      have k04 := k03.trans k4 (by simp)
      refine ⟨_, _, rfl, (fget_c (F.keep k04 (by simp)) (topN A n) (n : Int)).mono fun e w5 g => ?_⟩
      obtain ⟨r5, ok5, rfl, rd5, rfl, f5, k5⟩ := g
      have k05 := k04.trans k5 (by simp)
      have a5 := ha.new k05
      refine ⟨_, _, rfl, ?_⟩
      have hway : onWay S.L A 33 = onWay S.L A (n + 1) := onWay_none (by omega) hno
      rw [onWay_succ S.L A n] at hway
      cases hg : (tget S.L (topN A n, (n : Int))).isSome with
      | true =>
        rw [hg, if_pos rfl] at hway
        have hmt : S.match A = some (topN A n, (n : Int)) := by unfold FS.match; rw [hway]; simp
        rw [hmt] at rd2 ⊢
        unfold FS.get at rd5
        rw [hg, if_pos rfl] at rd5
        refine M.ite_tt (M.join_by (fun (J : Bool → World → Prop) => ∀ w, Aft W w → J true w) (fun w h => ⟨rfl, h.1⟩) fun J hJ => M.ite_tt ((hsame_c rd5 (rd2.keep ((k3.trans k4 (by simp)).trans k5 (by simp)) (by simp)) ?_).mono fun e w6 g => ?_))
        · obtain ⟨t, r, D, es, F⟩ := F
          obtain ⟨_, _, _, h3, _⟩ := F.hop _ hg
          have := hopsB_len h3; omega
        · obtain ⟨r6, rfl, rfl, k6⟩ := g
          refine ⟨_, rfl, M.ite_y (by simp) ((fknown_a (a5.new k6)).mono fun e w7 g => ?_)⟩
          obtain ⟨r7, rfl, rfl, a7⟩ := g
          exact ⟨_, rfl, hJ _ a7⟩
      | false =>
        refine M.ite_ff ?_
        rw [w64 (by omega) (by omega)]
        refine hJ2 _ _ ⟨n, by omega, by omega, (k3.trans k4 (by simp)).trans k5 (by simp), fun m h1 h2 => ?_⟩ (by omega)
        by_cases hmn : m = n
        · subst hmn
          cases hh : tget S.L (topN A m, (m : Int)) <;> simp [hh] at hg ⊢
        · exact hno m (by omega) h2
    · have c := of_decide_eq_false c
      obtain rfl : j = 0 := by omega
      have hway : onWay S.L A 33 = onWay S.L A 0 := onWay_none (by omega) hno
      have hmt : S.match A = none := by unfold FS.match; rw [hway]; rfl
      rw [hmt] at rd2 ⊢
      have hl2 := h_len rd2
      refine M.join_by (fun (J : Bool → World → Prop) => ∀ w, Aft W w → J true w) (fun w h => ⟨rfl, h.1⟩) fun J hJ => M.ite_tt (M.ite_y (by rw [hl2]; rfl) ((fknown_a (ha.new k03)).mono fun e w7 g => ?_))
      obtain ⟨r7, rfl, rfl, a7⟩ := g
      exact ⟨_, rfl, hJ _ a7⟩
theorem fmlaw_law (W : World) (args : List Value) (h : GdArgs W [(false, .cons (.slice askSh) .nil), (false, .cons (.int .u32) .nil)] args) : Calls Try.prog 3 args.toArray W fun e W' => e = .returned (.bool true) ∧ Below W.heap.size W W' := by
  obtain ⟨v0, r, rfl, h0, h⟩ := h.one
  obtain ⟨v1, r, rfl, h1, h⟩ := h.one
  cases h
  obtain ⟨s, l, rfl, hs, _, hm, hok⟩ := asks_of h0
  obtain ⟨n1, rfl, _⟩ := good_int h1
  exact (fmlaw_c hs hok hm).mono fun e w' ⟨b, he, hb, hw⟩ => by subst hb; exact ⟨he, hw⟩
end Go.Proofs.Ytnfmkedblnajlaa
