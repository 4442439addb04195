/-
  DecidePairs: of two no more than one betters the other; whom a step parts, later ones leave parted; who is best of two is left of two.
-/
import Derived.Test.YtmgigplbclkpaaaDecRules
import Derived.Test.YtmgigplbclkpaaaSpDecP
namespace Go.Proofs.Ytmgigplbclkpaaa
set_option linter.unusedVariables false
set_option linter.unusedSimpArgs false
open Go.Sp
open Go.RowKit (Below)

theorem pairs_c {W : World} {s : SV} {l : List Cn} (hl : l.length = s.len) (hp : ∀ i x, l[i]? = some x → RawAt W s i x) :
    Calls Try.prog 6 #[s.v] W (R6 fun r w' => r = true ∧ Below W.heap.size W w') := by
  refine F6_ok ((cands_c (Aft.refl W) hl hp true).mono fun e w1 g => ?_)
  obtain ⟨r1, rfl, cs, o1, n1, s1, f1, k1⟩ := g
  have a1 := (Aft.refl W).new k1
  have hc1 : Cns w1 r1 cs := cns_of o1 s1
  have hrl := hc1.len
  have hok : ∀ c ∈ cs, OkD c := fun c h => (s1 c h).1
  refine ⟨_, rfl, M.loop1_by (fun x w' => ∃ i : Nat, x = i ∧ i ≤ cs.length ∧ Keeps [] w1 w') (fun x _ => cs.length - x.toNat) ⟨0, rfl, by omega, Keeps.refl _ _⟩ ?_⟩
  rintro x w5 J ⟨i, rfl, hi, k5⟩ hJ
  have a5 := a1.new k5
  have hc5 := hc1.new k5
  rw [w64 (show (-9223372036854775808 : Int) ≤ (i : Int) + 1 by omega) (by omega)]
  have e1 : ((i : Int) + 1).toNat * 14 = (i + 1) * 14 := by omega
  rw [e1]
  refine M.ite_by (fun c => ?_) (fun c => ?_)
  · have c := of_decide_eq_true c
    have il : i < cs.length := by omega
    have il1 : i + 1 < cs.length := by omega
    have ei := List.getElem?_eq_getElem il
    have ei1 := List.getElem?_eq_getElem il1
    have hma := List.getElem_mem il
    have hmb := List.getElem_mem il1
    have ilr : i < l.length := by omega
    obtain ⟨ar, har, _, hat⟩ := hp i l[i] (List.getElem?_eq_getElem ilr)
    generalize l[i] = z at *
    generalize cs[i] = ca at *
    generalize cs[i + 1] = cb at *
    have oka := hok _ hma
    have okb := hok _ hmb
    refine M.join_by (fun (J : Addr → Addr → World → Prop) => ∀ x y w', x ≠ y → w5.heap.size ≤ x → w5.heap.size ≤ y → Blk w' x 37 ca.cells → Blk w' y 37 cb.cells → Keeps [] w5 w' → J ⟨x, 0, none⟩ ⟨y, 0, none⟩ w') (fun x y w6 hxy hx5 hy5 X6 Y6 k6 => ?_) fun J2 hJ2 => ?_
    rotate_left
    · have kd := Keeps.drew [] w5
      have hc6 := hc5.new kd
      obtain ⟨ac, hac⟩ := hc6.1.some (by omega)
      have hdr : w5.drew.heap.size = w5.heap.size := rfl
      refine M.drew_by ⟨ac, hac, by omega, by omega, ac, hac, by omega, by omega, _, _, _, _, _, _, _, _, _, _, _, _, _, _, hc6.at hac ei, _, _, _, _, _, _, _, _, _, _, _, _, _, _, hc6.at hac ei1, M.new_blk fun x w7 hx X7 k7 => ?_, M.new_blk fun x w7 hx X7 k7 => ?_⟩
      · have hc7 := hc6.new k7
        refine ⟨hc7.at hac ei1, hc7.at hac ei, M.new_blk fun y w8 hy Y8 k8 => ?_⟩
        have hc8 := hc7.new k8
        have hxlt := X7.lt
        have hs7 := k7.size
        refine ⟨hc8.at hac ei1, hc8.at hac ei, M.stA_blk (X7.keep k8 (by simp)) rfl fun w9 X9 k9 => ?_⟩
        have k59 : Keeps [] w5 w9 := ((kd.trans k7 (by simp)).trans k8 (by simp)).trans k9 (by simp; omega)
        have hc9 := hc5.new k59
        exact ⟨hc9.at hac ei1, M.stA_blk (Y8.keep k9 (by simp; omega)) rfl fun w10 Y10 k10 => hJ2 x y w10 (by omega) (by omega) (by omega) (X9.keep k10 (by simp; omega)) Y10 (k59.trans k10 (by simp; omega))⟩
      · have hc7 := hc6.new k7
        refine ⟨hc7.at hac ei1, hc7.at hac ei, M.new_blk fun y w8 hy Y8 k8 => ?_⟩
        have hc8 := hc7.new k8
        have hxlt := X7.lt
        have hs7 := k7.size
        refine ⟨hc8.at hac ei1, hc8.at hac ei, M.stA_blk Y8 rfl fun w9 Y9 k9 => ?_⟩
        have k59 : Keeps [] w5 w9 := ((kd.trans k7 (by simp)).trans k8 (by simp)).trans k9 (by simp; omega)
        have hc9 := hc5.new k59
        exact ⟨hc9.at hac ei1, M.stA_blk ((X7.keep k8 (by simp)).keep k9 (by simp; omega)) rfl fun w10 X10 k10 => hJ2 y x w10 (by omega) (by omega) (by omega) (Y9.keep k10 (by simp; omega)) X10 (k59.trans k10 (by simp; omega))⟩
    · refine M.st_blk X6 (by simp) fun w7 X7 k7 => M.st_blk (Y6.keep k7 (by simpa using hxy.symm)) (by simp) fun w8 Y8 k8 => ?_
      have X8 := X7.keep k8 (by simpa using hxy)
      have k58 : Keeps [] w5 w8 := (k6.trans k7 (by simp; omega)).trans k8 (by simp; omega)
      refine M.join_by (fun (J : World → Prop) => ∀ (ia ib : Int) w', ia ≠ ib → Blk w' x 37 ({ ca with id := ia } : Cn).cells → Blk w' y 37 ({ cb with id := ib } : Cn).cells → Keeps [] w5 w' → J w') (fun ia ib w9 hab X9 Y9 k59 => ?_) fun J3 hJ3 => ?_
      rotate_left
      · have hz := (hat _ (a5.new k58).1).1.get 2 (v := .bool z.inner) rfl
        rw [Nat.zero_add] at hz
        refine ⟨ar, har, by omega, by omega, z.inner, hz, M.ite_by (fun c3 => ?_) (fun c3 => ?_)⟩
        · refine M.st_blk X8 (by simp) fun w9 X9 k9 => M.st_blk (Y8.keep k9 (by simpa using hxy.symm)) (by simp) fun w10 Y10 k10 => ?_
          exact hJ3 2 1 w10 (by omega) (X9.keep k10 (by simpa using hxy)) Y10 ((k58.trans k9 (by simp; omega)).trans k10 (by simp; omega))
        · exact hJ3 1 2 w8 (by omega) X8 Y8 k58
      · have hda : OkD ({ ca with id := ia } : Cn) := oka
        have hdb : OkD ({ cb with id := ib } : Cn) := okb
        have hsa : ∀ w, Keeps [] w5 w → Segs w ({ ca with id := ia } : Cn).path ({ ca with id := ia } : Cn).segs := fun w k => (hc5.2 _ hma).new k
        have hsb : ∀ w, Keeps [] w5 w → Segs w ({ cb with id := ib } : Cn).path ({ cb with id := ib } : Cn).segs := fun w k => (hc5.2 _ hmb).new k
        have hid : (({ ca with id := ia } : Cn).vw).id ≠ (({ cb with id := ib } : Cn).vw).id := hab
        generalize ({ ca with id := ia } : Cn) = a at *
        generalize ({ cb with id := ib } : Cn) = b at *
        have hva : a.vw.cost ≤ fInf := cleanN_le hda.2
        have hvb : b.vw.cost ≤ fInf := cleanN_le hdb.2
        refine M.loop2_by (fun v x w' => ∃ k : Nat, x = k ∧ k ≤ 8 ∧ v = was2 a.vw b.vw k ∧ Keeps [] w9 w') (fun _ x _ => (8 - x).toNat) ⟨0, rfl, by omega, rfl, Keeps.refl _ _⟩ ?_
        rintro v q w10 J4 ⟨k, rfl, hk, rfl, k10⟩ hJ4
        have X10 := X9.keep k10 (by simp)
        have Y10 := Y9.keep k10 (by simp)
        have k510 := k59.trans k10 (by simp)
        refine M.ite_by (fun c4 => ?_) (fun c4 => ?_)
        · have c4 := of_decide_eq_true c4
          have hk7 : k ≤ 7 := by omega
          have kd := Keeps.drew [] w10
          have X11 := X10.keep kd (by simp)
          have Y11 := Y10.keep kd (by simp)
          have k511 := k510.trans kd (by simp)
          refine M.drew_by ⟨_, _, _, _, _, _, _, _, _, _, _, _, _, _, X11.cs 0 a.cells rfl, _, _, _, _, _, _, _, _, _, _, _, _, _, _, Y11.cs 0 b.cells rfl, _, _, _, _, _, _, _, _, _, _, _, _, _, _, Y11.cs 0 b.cells rfl, _, _, _, _, _, _, _, _, _, _, _, _, _, _, X11.cs 0 a.cells rfl, (better_c (hsa _ k511) (hsb _ k511) hda.1 hdb.1 _).mono fun e w12 g => ?_⟩
          obtain ⟨r12, rfl, h12, k12⟩ := g
          have X12 := X11.keep k12 (by simp)
          have Y12 := Y11.keep k12 (by simp)
          have k512 := k511.trans k12 (by simp)
          refine ⟨_, rfl, X12.cs 0 a.cells rfl, Y12.cs 0 b.cells rfl, (better_c (hsb _ k512) (hsa _ k512) hdb.1 hda.1 _).mono fun e w13 g => ?_⟩
          obtain ⟨r13, rfl, h13, k13⟩ := g
          have ek : stepsN (k : Int) = k := by unfold stepsN; omega
          unfold betterA at h12 h13
          rw [ek] at h12 h13
          change r12 = fst2 a.vw b.vw k at h12
          change r13 = fst2 b.vw a.vw k at h13
          have hnot := pair_not hva hvb hid hk7
          have hwc := fun h => was_code hva hvb hid hk7 h
          have hstep := hJ4 (code2 a.vw b.vw k) ((k : Int) + 1) w13 ⟨k + 1, by omega, by omega, rfl, ((k10.trans kd (by simp)).trans k12 (by simp)).trans k13 (by simp)⟩ (by omega)
          have fin : ∀ {J : Bool → World → Prop}, J false w13 → M.ite (was2 a.vw b.vw k != (0 : Int)) (J (code2 a.vw b.vw k != was2 a.vw b.vw k) w13) (J false w13) := fun h => M.ite_by (fun c5 => by
            rw [hwc (by simpa using c5)]; simpa using h) (fun _ => h)
          rw [← h12, ← h13] at hnot
          unfold code2 at hstep fin
          rw [← h12, ← h13] at hstep fin
          refine ⟨_, rfl, M.join_by (fun (J : Int → World → Prop) => J (if r12 then 1 else 0) w13) ?_ fun J5 hJ5 => M.ite_by (fun c5 => by rw [c5] at hJ5; exact hJ5) (fun c5 => by rw [c5] at hJ5; exact hJ5)⟩
          refine M.join_by (fun (J : Int → World → Prop) => J (if r13 then 2 else if r12 then 1 else 0) w13) ?_ fun J5 hJ5 => M.ite_by (fun c5 => by rw [c5] at hJ5; exact hJ5) (fun c5 => by rw [c5] at hJ5; exact hJ5)
          refine M.join_by (fun (J : Bool → World → Prop) => J false w13) ?_ fun J5 hJ5 => M.ite_by (fun c5 => M.ite_by (fun c6 => absurd ⟨c5, c6⟩ hnot) (fun c6 => fin hJ5)) (fun c5 => fin hJ5)
          rw [w64 (by omega) (by omega)]
          exact M.ite_ff hstep
        · have c4 := of_decide_eq_false c4
          obtain rfl : k = 8 := by omega
          refine ⟨_, _, _, _, _, _, _, _, _, _, _, _, _, _, X10.cs 0 a.cells rfl, _, _, _, _, _, _, _, _, _, _, _, _, _, _, Y10.cs 0 b.cells rfl, M.new_blk (cs := a.cells ++ b.cells) fun b3 w11 hb3 E k11 => ?_⟩
          have k511 := k510.trans k11 (by simp)
          refine (best_c (two_cns E (hsa _ k511) (hsb _ k511)) (by intro x hx; simp at hx; rcases hx with rfl | rfl <;> assumption) (by simp)).mono fun e w12 g => ?_
          obtain ⟨x12, y12, rfl, h12, k12⟩ := g
          change (x12, y12) = bestA [a.vw, b.vw] at h12
          have hstep := hJ ((i : Int) + 1) w12 ⟨i + 1, by omega, by omega, (k5.trans k511 (by simp)).trans k12 (by simp)⟩ (by omega)
          show ∃ _ _, _ ∧ _
          refine ⟨_, _, rfl, M.join_by (fun (J : Bool → World → Prop) => J false w12) (M.ite_ff hstep) fun J5 hJ5 => ?_⟩
          have hw : was2 a.vw b.vw 8 = code2 a.vw b.vw 7 := rfl
          rw [hw]
          rcases pair_end hva hvb hid with ⟨hB, h1, h2⟩ | ⟨hB, h2⟩
          · have hcode : code2 a.vw b.vw 7 = 1 := by unfold code2; rw [h1, h2]; rfl
            rw [hcode]
            rw [hB] at h12
            cases h12
            exact M.ite_ff (M.ite_n rfl hJ5)
          · have hcode : code2 a.vw b.vw 7 = 2 := by unfold code2; rw [h2]; rfl
            rw [hcode]
            rw [hB] at h12
            cases h12
            exact M.ite_ff (M.ite_n rfl hJ5)
  · exact known_aft a5 (fun w' h => ⟨rfl, h.1⟩)
theorem pairs_law (W : World) (args : List Value) (h : GdArgs W [(false, .cons (.slice rawSh) .nil)] args) : Calls Try.prog 6 args.toArray W fun e W' => e = .returned (.bool true) ∧ Below W.heap.size W W' := by
  obtain ⟨v0, r, rfl, h0, h⟩ := h.one
  cases h
  obtain ⟨s, l, rfl, hl, hm, hp⟩ := good_raws h0
  exact (pairs_c hl hp).mono fun e w' ⟨b, he, hb, hw⟩ => by subst hb; exact ⟨he, hw⟩
end Go.Proofs.Ytmgigplbclkpaaa
