/-
  DecideSteps: those that are left behind a step are as good as one another by it.
-/
import Derived.Test.YtmgigplbclkpaaaDecLosers
import Derived.Test.YtmgigplbclkpaaaSpDecT
namespace Go.Proofs.Ytmgigplbclkpaaa
set_option linter.unusedVariables false
set_option linter.unusedSimpArgs false
open Go.Sp
open Go.RowKit (Below)

theorem steps_c {W : World} {s : SV} {l : List Cn} (hl : l.length = s.len) (hp : ∀ i x, l[i]? = some x → RawAt W s i x) :
    Calls Try.prog 7 #[s.v] W (R7 fun r w' => r = true ∧ Below W.heap.size W w') := by
  refine F7_ok ((cands_c (Aft.refl W) hl hp true).mono fun e w1 g => ?_)
  obtain ⟨r1, rfl, cs, o1, n1, s1, f1, hg, k1⟩ := g
  have a1 := (Aft.refl W).new k1
  have hc1 : Cns w1 r1 cs := cns_of o1 s1
  have hrl := hc1.len
  have hok : ∀ c ∈ cs, OkD c := fun c h => (s1 c h).1
  have hok1 : ∀ c ∈ cs, OkC c := fun c h => (hok c h).1
  have hv := okV hok
  have hg := hg rfl
  refine ⟨_, rfl, M.loop1_by (fun x w' => ∃ k : Nat, x = k ∧ 1 ≤ k ∧ k ≤ 7 ∧ Keeps [] w1 w') (fun x _ => (7 - x).toNat) ⟨1, rfl, by omega, by omega, Keeps.refl _ _⟩ ?_⟩
  rintro x w5 J ⟨k, rfl, hk1, hk7, k5⟩ hJ
  have hc5 := hc1.new k5
  refine M.ite_by (fun c => ?_) (fun c => ?_)
  · have c := of_decide_eq_true c
    refine (left_c hc5 hok1 (by omega) _).mono fun e w6 g => ?_
    obtain ⟨r6, rfl, h6, k6⟩ := g
    have ek : stepsN (k : Int) = k := by unfold stepsN; omega
    rw [ek] at h6
    have hlt : ∀ n ∈ leftA (Cn.vws cs) k, ∃ c, cs[n]? = some c ∧ Sv (Cn.vws cs) k c.vw := fun n hn => by
      rw [← leftR_eq _ _ (by omega), mem_leftR] at hn
      obtain ⟨v, h1, h2⟩ := hn
      obtain ⟨c, h3, rfl⟩ := vws_some h1
      exact ⟨c, h3, h2⟩
    have h6l := iv_len h6
    rw [pl_len] at h6l
    have hll := leftA_len (Cn.vws cs) k
    rw [vws_len] at hll
    generalize leftA (Cn.vws cs) k = L at *
    have k16 := k5.trans k6 (by simp)
    refine ⟨_, rfl, M.loop1_by (fun x w' => ∃ i : Nat, x = i ∧ i ≤ L.length ∧ Keeps [] w6 w') (fun x _ => L.length - x.toNat) ⟨0, rfl, by omega, Keeps.refl _ _⟩ ?_⟩
    rintro x w7 J7 ⟨i, rfl, hi, k7⟩ hJ7
    refine M.ite_by (fun c1 => ?_) (fun c1 => ?_)
    · have c1 := of_decide_eq_true c1
      have il : i < L.length := by omega
      refine M.loop1_by (fun x w' => ∃ j : Nat, x = j ∧ j ≤ i ∧ Keeps [] w6 w') (fun x _ => i - x.toNat) ⟨0, rfl, by omega, k7⟩ ?_
      rintro x w8 J8 ⟨j, rfl, hj, k8⟩ hJ8
      refine M.ite_by (fun c2 => ?_) (fun c2 => ?_)
      · have c2 := of_decide_eq_true c2
        have jl : j < L.length := by omega
        have ei := List.getElem?_eq_getElem il
        have ej := List.getElem?_eq_getElem jl
        obtain ⟨a, han, hsa⟩ := hlt _ (List.getElem_mem il)
        obtain ⟨b, hbn, hsb⟩ := hlt _ (List.getElem_mem jl)
        generalize L[i] = n at *
        generalize L[j] = m at *
        have hnl := (List.getElem?_eq_some_iff.1 han).1
        have hml := (List.getElem?_eq_some_iff.1 hbn).1
        have hma := List.mem_of_getElem? han
        have hmb := List.mem_of_getElem? hbn
        obtain ⟨al1, al2, al3, al5, al6⟩ := Sv_alike hv hsa hsb
        have al1 : a.prefA = b.prefA := al1 hk1
        have al2 : 2 ≤ k → (countA a.segs : Int) = countA b.segs := al2
        have al3 : 3 ≤ k → a.origin = b.origin := al3
        have al5 : 5 ≤ k → a.inner = b.inner := al5
        have al6 : 6 ≤ k → fNeq a.cost b.cost = false := fun h => cost_eq (hok _ hma).2 (hok _ hmb).2 (hg _ hma) (hg _ hmb) (al6 h)
        have k18 := k16.trans k8 (by simp)
        refine M.join_by (fun (J : Addr → Addr → World → Prop) => ∀ x y w', Blk w' x 37 a.cells → Blk w' y 37 b.cells → Keeps [] w8 w' → J ⟨x, 0, none⟩ ⟨y, 0, none⟩ w') (fun x y w9 X9 Y9 k9 => ?_) fun J2 hJ2 => ?_
        · refine M.join_by (fun (J : Bool → World → Prop) => ∀ w', Keeps [] w6 w' → J false w') (fun w' k' => M.ite_ff ?_) fun J3 hJ3 => ?_
          · rw [w64 (by omega) (by omega)]
            exact hJ8 _ _ ⟨j + 1, by omega, by omega, k'⟩ (by omega)
          · have kd := Keeps.drew [] w9
            have X10 := X9.keep kd (by simp)
            have Y10 := Y9.keep kd (by simp)
            have k610 := (k8.trans k9 (by simp)).trans kd (by simp)
            refine M.drew_by ⟨_, _, _, _, _, _, _, _, _, X10.cs 4 a.ac rfl, _, _, _, _, _, _, _, _, _, Y10.cs 4 b.ac rfl, (pref_c a).mono fun e w11 g => ?_⟩
            obtain ⟨r11, rfl, rfl, k11⟩ := g
            have Y11 := Y10.keep k11 (by simp)
            refine ⟨_, rfl, Y11.cs 4 b.ac rfl, (pref_c b).mono fun e w12 g => ?_⟩
            obtain ⟨r12, rfl, rfl, k12⟩ := g
            have X12 := (X10.keep k11 (by simp)).keep k12 (by simp)
            have Y12 := Y11.keep k12 (by simp)
            have k612 := (k610.trans k11 (by simp)).trans k12 (by simp)
            refine ⟨_, rfl, M.ite_n (by rw [al1]; simp) ?_⟩
            -- the last two tests
            have t6 : ∀ {w : World}, Blk w x 37 a.cells → Blk w y 37 b.cells → Keeps [] w6 w → M.ite (decide ((6 : Int) ≤ (k : Int))) (M.ld (Value.float .f64) ((⟨x, 0, none⟩ : Addr).add 13) w fun t => M.ld (Value.float .f64) ((⟨y, 0, none⟩ : Addr).add 13) w fun u => J3 (fNeq t u) w) (J3 false w) := fun {w} X Y k' => M.ite_by (fun c6 => ⟨_, X.cell 13, _, Y.cell 13, by dsimp only; rw [al6 (by have := of_decide_eq_true c6; omega)]; exact hJ3 w k'⟩) (fun _ => hJ3 w k')
            have t5 : ∀ {w : World}, Blk w x 37 a.cells → Blk w y 37 b.cells → Keeps [] w6 w → M.ite (decide ((5 : Int) ≤ (k : Int))) (M.ld Value.bool ((⟨x, 0, none⟩ : Addr).add 3) w fun t => M.ld Value.bool ((⟨y, 0, none⟩ : Addr).add 3) w fun u => M.ite (!(t == u)) (J3 true w) (M.ite (decide ((6 : Int) ≤ (k : Int))) (M.ld (Value.float .f64) ((⟨x, 0, none⟩ : Addr).add 13) w fun t => M.ld (Value.float .f64) ((⟨y, 0, none⟩ : Addr).add 13) w fun u => J3 (fNeq t u) w) (J3 false w))) (M.ite (decide ((6 : Int) ≤ (k : Int))) (M.ld (Value.float .f64) ((⟨x, 0, none⟩ : Addr).add 13) w fun t => M.ld (Value.float .f64) ((⟨y, 0, none⟩ : Addr).add 13) w fun u => J3 (fNeq t u) w) (J3 false w)) := fun {w} X Y k' => M.ite_by (fun c5 => ⟨_, X.cell 3, _, Y.cell 3, M.ite_n (by rw [al5 (by have := of_decide_eq_true c5; omega)]; simp) (t6 X Y k')⟩) (fun _ => t6 X Y k')
            have t3 : ∀ {w : World}, Blk w x 37 a.cells → Blk w y 37 b.cells → Keeps [] w6 w → M.ite (decide ((3 : Int) ≤ (k : Int))) (M.ld (Value.int .i64) ((⟨x, 0, none⟩ : Addr).add 4) w fun t => M.ld (Value.int .i64) ((⟨y, 0, none⟩ : Addr).add 4) w fun u => M.ite (t != u) (J3 true w) (M.ite (decide ((5 : Int) ≤ (k : Int))) (M.ld Value.bool ((⟨x, 0, none⟩ : Addr).add 3) w fun t => M.ld Value.bool ((⟨y, 0, none⟩ : Addr).add 3) w fun u => M.ite (!(t == u)) (J3 true w) (M.ite (decide ((6 : Int) ≤ (k : Int))) (M.ld (Value.float .f64) ((⟨x, 0, none⟩ : Addr).add 13) w fun t => M.ld (Value.float .f64) ((⟨y, 0, none⟩ : Addr).add 13) w fun u => J3 (fNeq t u) w) (J3 false w))) (M.ite (decide ((6 : Int) ≤ (k : Int))) (M.ld (Value.float .f64) ((⟨x, 0, none⟩ : Addr).add 13) w fun t => M.ld (Value.float .f64) ((⟨y, 0, none⟩ : Addr).add 13) w fun u => J3 (fNeq t u) w) (J3 false w)))) (M.ite (decide ((5 : Int) ≤ (k : Int))) (M.ld Value.bool ((⟨x, 0, none⟩ : Addr).add 3) w fun t => M.ld Value.bool ((⟨y, 0, none⟩ : Addr).add 3) w fun u => M.ite (!(t == u)) (J3 true w) (M.ite (decide ((6 : Int) ≤ (k : Int))) (M.ld (Value.float .f64) ((⟨x, 0, none⟩ : Addr).add 13) w fun t => M.ld (Value.float .f64) ((⟨y, 0, none⟩ : Addr).add 13) w fun u => J3 (fNeq t u) w) (J3 false w))) (M.ite (decide ((6 : Int) ≤ (k : Int))) (M.ld (Value.float .f64) ((⟨x, 0, none⟩ : Addr).add 13) w fun t => M.ld (Value.float .f64) ((⟨y, 0, none⟩ : Addr).add 13) w fun u => J3 (fNeq t u) w) (J3 false w))) := fun {w} X Y k' => M.ite_by (fun c3 => ⟨_, X.cell 4, _, Y.cell 4, M.ite_n (by rw [al3 (by have := of_decide_eq_true c3; omega)]; simp) (t5 X Y k')⟩) (fun _ => t5 X Y k')
            refine M.ite_by (fun c2' => ?_) (fun _ => t3 X12 Y12 k612)
            have hc12 := hc1.new (k16.trans k612 (by simp))
            refine ⟨_, X12.cell 5, _, Y12.cell 5, (rcount_c (hc12.2 _ hma) (hok1 _ hma).1 (hok1 _ hma).2).mono fun e w13 g => ?_⟩
            obtain ⟨r13, rfl, rfl, k13⟩ := g
            have hc13 := hc12.new k13
            have Y13 := Y12.keep k13 (by simp)
            refine ⟨_, rfl, Y13.cell 5, (rcount_c (hc13.2 _ hmb) (hok1 _ hmb).1 (hok1 _ hmb).2).mono fun e w14 g => ?_⟩
            obtain ⟨r14, rfl, rfl, k14⟩ := g
            refine ⟨_, rfl, M.ite_n (by rw [al2 (by have := of_decide_eq_true c2'; omega)]; simp) (t3 ((X12.keep k13 (by simp)).keep k14 (by simp)) (Y13.keep k14 (by simp)) ((k612.trans k13 (by simp)).trans k14 (by simp)))⟩
        · have kd := Keeps.drew [] w8
          have h9 := (h6.keep k8 (by simp)).keep kd (by simp)
          have hc9 := (hc1.new k18).new kd
          obtain ⟨ax, hax⟩ := h9.some (by omega)
          obtain ⟨ac, hac⟩ := hc9.1.some (by omega)
          have hdr : w8.drew.heap.size = w8.heap.size := rfl
          refine M.drew_by ⟨ax, hax, by omega, by omega, ax, hax, by omega, by omega, _, iv_at h9 hax (pl_at ei), ac, hac, by omega, by omega, _, _, _, _, _, _, _, _, _, _, _, _, _, _, hc9.at hac han, _, iv_at h9 hax (pl_at ej), ac, hac, by omega, by omega, _, _, _, _, _, _, _, _, _, _, _, _, _, _, hc9.at hac hbn, M.new_blk fun x w10 hx X10 k10 => ?_, M.new_blk fun x w10 hx X10 k10 => ?_⟩
          · have hc10 := hc9.new k10
            have h10 := h9.keep k10 (by simp)
            refine ⟨hc10.at hac hbn, iv_at h10 hax (pl_at ej), hc10.at hac han, iv_at h10 hax (pl_at ei), M.new_blk fun y w11 hy Y11 k11 => ?_⟩
            have hc11 := hc10.new k11
            have h11 := h10.keep k11 (by simp)
            have hxlt := X10.lt
            have hs10 := k10.size
            refine ⟨hc11.at hac hbn, iv_at h11 hax (pl_at ej), hc11.at hac han, iv_at h11 hax (pl_at ei), M.stA_blk (X10.keep k11 (by simp)) rfl fun w12 X12 k12 => ?_⟩
            have k912 : Keeps [] w8.drew w12 := (k10.trans k11 (by simp)).trans k12 (by simp; omega)
            have hc12 := hc9.new k912
            have h12 := h9.keep k912 (by simp)
            exact ⟨hc12.at hac hbn, iv_at h12 hax (pl_at ej), M.stA_blk (Y11.keep k12 (by simp; omega)) rfl fun w13 Y13 k13 => hJ2 x y w13 (X12.keep k13 (by simp; omega)) Y13 ((kd.trans k912 (by simp)).trans k13 (by simp; omega))⟩
          · have hc10 := hc9.new k10
            have h10 := h9.keep k10 (by simp)
            refine ⟨hc10.at hac hbn, iv_at h10 hax (pl_at ej), hc10.at hac han, iv_at h10 hax (pl_at ei), M.new_blk fun y w11 hy Y11 k11 => ?_⟩
            have hc11 := hc10.new k11
            have h11 := h10.keep k11 (by simp)
            have hxlt := X10.lt
            have hs10 := k10.size
            refine ⟨hc11.at hac hbn, iv_at h11 hax (pl_at ej), hc11.at hac han, iv_at h11 hax (pl_at ei), M.stA_blk Y11 rfl fun w12 Y12 k12 => ?_⟩
            have k912 : Keeps [] w8.drew w12 := (k10.trans k11 (by simp)).trans k12 (by simp; omega)
            have hc12 := hc9.new k912
            have h12 := h9.keep k912 (by simp)
            exact ⟨hc12.at hac hbn, iv_at h12 hax (pl_at ej), M.stA_blk ((X10.keep k11 (by simp)).keep k12 (by simp; omega)) rfl fun w13 X13 k13 => hJ2 y x w13 (Y12.keep k13 (by simp; omega)) X13 ((kd.trans k912 (by simp)).trans k13 (by simp; omega))⟩
      · rw [w64 (by omega) (by omega)]
        exact hJ7 _ _ ⟨i + 1, by omega, by omega, k8⟩ (by omega)
    · rw [w64 (by omega) (by omega)]
      exact hJ _ _ ⟨k + 1, by omega, by omega, by omega, k16.trans k7 (by simp)⟩ (by omega)
  · exact known_aft (a1.new k5) (fun w' h => ⟨rfl, h.1⟩)
theorem steps_law (W : World) (args : List Value) (h : GdArgs W [(false, .cons (.slice rawSh) .nil)] args) : Calls Try.prog 7 args.toArray W fun e W' => e = .returned (.bool true) ∧ Below W.heap.size W W' := by
  obtain ⟨v0, r, rfl, h0, h⟩ := h.one
  cases h
  obtain ⟨s, l, rfl, hl, hm, hp⟩ := good_raws h0
  exact (steps_c hl hp).mono fun e w' ⟨b, he, hb, hw⟩ => by subst hb; exact ⟨he, hw⟩
end Go.Proofs.Ytmgigplbclkpaaa
