/-
  What a step holds against a candidate.
-/
import Derived.Test.YtmgigplbclkpaaaSegC
namespace Go.Proofs.Ytmgigplbclkpaaa
set_option linter.unusedVariables false
set_option linter.unusedSimpArgs false
open Go.Sp

theorem inf_c {w : World} : Calls Try.prog 19 #[.int .i64 1] w (R19 fun r w' => r = 9218868437227405312 ∧ w' = w) :=
  F19_ok (M.join_by (fun (J : Int → World → Prop) => J 9218868437227405312 w) ⟨rfl, rfl⟩ fun J hJ => M.ite_tt hJ)
theorem clean_c {w : World} (b : Nat) : Calls Try.prog 47 #[.float .f64 b] w (R47 fun r w' => r = cleanN b ∧ w' = w) := by
  refine F47_ok ((show Calls Try.prog 49 #[.float .f64 b] w (R49 fun r w' => r = fGeq b 0 ∧ w' = w) from F49_ok ⟨rfl, rfl⟩).mono fun e w1 g => ?_)
  obtain ⟨r, rfl, rfl, rfl⟩ := g
  refine ⟨_, rfl, M.ite_by (fun c => ?_) (fun c => ?_)⟩
  · have c : fGeq b 0 = false := by simpa using c
    refine inf_c.mono fun e w2 g => ?_
    obtain ⟨r, rfl, rfl, rfl⟩ := g
    exact ⟨_, rfl, by simp [cleanN, c], rfl⟩
  · have c : fGeq b 0 = true := by simpa using c
    exact M.ite_by (fun c2 => ⟨by simp [cleanN, c, c2], rfl⟩) (fun c2 => ⟨by simp [cleanN, c, c2], rfl⟩)
theorem rclean_c {w : World} (b : Nat) : Calls Try.prog 45 #[.float .f64 b] w (R45 fun r w' => r = cleanN b ∧ w' = w) := by
  refine F45_ok ((show Calls Try.prog 48 #[.float .f64 b] w (R48 fun r w' => r = fGeq b 0 ∧ w' = w) from F48_ok ⟨rfl, rfl⟩).mono fun e w1 g => ?_)
  obtain ⟨r, rfl, rfl, rfl⟩ := g
  refine ⟨_, rfl, M.ite_by (fun c => ?_) (fun c => ?_)⟩
  · have c : fGeq b 0 = false := by simpa using c
    refine inf_c.mono fun e w2 g => ?_
    obtain ⟨r, rfl, rfl, rfl⟩ := g
    exact ⟨_, rfl, by simp [cleanN, c], rfl⟩
  · have c : fGeq b 0 = true := by simpa using c
    exact M.ite_by (fun c2 => ⟨by simp [cleanN, c, c2], rfl⟩) (fun c2 => ⟨by simp [cleanN, c, c2], rfl⟩)
theorem mless_c {w : World} (a b : Nat) : Calls Try.prog 42 #[.float .f64 a, .float .f64 b] w (R42 fun r w' => r = fLss (cleanN a) (cleanN b) ∧ w' = w) := by
  refine F42_ok ((clean_c a).mono fun e w1 g => ?_)
  obtain ⟨r, rfl, rfl, rfl⟩ := g
  refine ⟨_, rfl, (clean_c b).mono fun e w1 g => ?_⟩
  obtain ⟨r, rfl, rfl, rfl⟩ := g
  exact ⟨_, rfl, rfl, rfl⟩
theorem rmless_c {w : World} (a b : Nat) : Calls Try.prog 38 #[.float .f64 a, .float .f64 b] w (R38 fun r w' => r = fLss (cleanN a) (cleanN b) ∧ w' = w) := by
  refine F38_ok ((rclean_c a).mono fun e w1 g => ?_)
  obtain ⟨r, rfl, rfl, rfl⟩ := g
  refine ⟨_, rfl, (rclean_c b).mono fun e w1 g => ?_⟩
  obtain ⟨r, rfl, rfl, rfl⟩ := g
  exact ⟨_, rfl, rfl, rfl⟩
theorem pref_c {w : World} (c : Cn) : Calls Try.prog 15 #[c.aagg] w (R15 fun r w' => r = c.prefA ∧ Keeps [] w w') := by
  refine F15_ok (M.new_blk fun b w1 hb B k1 => ⟨_, B.cell 5, M.ite_by (fun c1 => ?_) (fun c1 => ?_)⟩)
  · have c1 : c.hasPref = false := by simpa using c1
    exact ⟨by simp [Cn.prefA, c1], k1⟩
  · have c1 : c.hasPref = true := by simpa using c1
    exact ⟨_, B.cell 6, by simp [Cn.prefA, c1], k1⟩
theorem rpref_c {w : World} (c : Cn) : Calls Try.prog 35 #[c.aagg] w (R35 fun r w' => r = c.prefA ∧ Keeps [] w w') := by
  refine F35_ok (M.new_blk fun b w1 hb B k1 => ⟨_, B.cell 5, M.ite_by (fun c1 => ?_) (fun c1 => ?_)⟩)
  · have c1 : c.hasPref = true := c1
    exact ⟨_, B.cell 6, by simp [Cn.prefA, c1], k1⟩
  · have c1 : c.hasPref = false := c1
    exact ⟨by simp [Cn.prefA, c1], k1⟩
theorem med_c {w : World} (c : Cn) : Calls Try.prog 41 #[c.aagg] w (R41 fun r w' => r = c.medA ∧ Keeps [] w w') := by
  refine F41_ok (M.new_blk fun b w1 hb B k1 => ⟨_, B.cell 3, M.ite_by (fun c1 => ?_) (fun c1 => ?_)⟩)
  · have c1 : c.hasMed = false := by simpa using c1
    exact ⟨by simp [Cn.medA, c1], k1⟩
  · have c1 : c.hasMed = true := by simpa using c1
    exact ⟨_, B.cell 4, by simp [Cn.medA, c1], k1⟩
theorem rmed_c {w : World} (c : Cn) : Calls Try.prog 37 #[c.aagg] w (R37 fun r w' => r = c.medA ∧ Keeps [] w w') := by
  refine F37_ok (M.new_blk fun b w1 hb B k1 => ⟨_, B.cell 3, M.ite_by (fun c1 => ?_) (fun c1 => ?_)⟩)
  · have c1 : c.hasMed = true := c1
    exact ⟨_, B.cell 4, by simp [Cn.medA, c1], k1⟩
  · have c1 : c.hasMed = false := c1
    exact ⟨by simp [Cn.medA, c1], k1⟩
theorem fellows_c {w : World} {c d : Cn} (hc : Segs w c.path c.segs) (hd : Segs w d.path d.segs) : Calls Try.prog 40 #[c.aagg, d.aagg] w (R40 fun r w' => r = ((firstA c.segs).2 == (firstA d.segs).2 && (firstA c.segs).1 == (firstA d.segs).1) ∧ Keeps [] w w') := by
  refine F40_ok (M.new_blk fun b w1 hb B k1 => M.new_blk fun b2 w2 hb2 B2 k2 => ⟨_, (B.keep k2 (by simp)).cell 1, (first_c (hc.new (k1.trans k2 (by simp)))).mono fun e w3 g => ?_⟩)
  obtain ⟨x, ok, rfl, hx, k3⟩ := g
  have k03 := (k1.trans k2 (by simp)).trans k3 (by simp)
  refine ⟨_, _, rfl, _, (B2.keep k3 (by simp)).cell 1, (first_c (hd.new k03)).mono fun e w4 g => ?_⟩
  obtain ⟨y, ok2, rfl, hy, k4⟩ := g
  have k04 := k03.trans k4 (by simp)
  rw [← hx, ← hy]
  refine ⟨_, _, rfl, M.join_by (fun (J : Bool → World → Prop) => J (ok == ok2 && x == y) w4) ⟨rfl, k04⟩ fun J hJ => M.ite_by (fun c => ?_) (fun c => ?_)⟩
  · rw [c, Bool.true_and] at hJ; exact hJ
  · rw [c, Bool.false_and] at hJ; exact hJ
theorem neighbour_c {w : World} {c d : Cn} (hc : Segs w c.path c.segs) (hd : Segs w d.path d.segs) : Calls Try.prog 36 #[c.aagg, d.aagg] w (R36 fun r w' => r = ((firstA c.segs).2 == (firstA d.segs).2 && (firstA c.segs).1 == (firstA d.segs).1) ∧ Keeps [] w w') := by
  refine F36_ok (M.new_blk fun b w1 hb B k1 => M.new_blk fun b2 w2 hb2 B2 k2 => ⟨_, (B.keep k2 (by simp)).cell 1, (rfirst_c (hc.new (k1.trans k2 (by simp)))).mono fun e w3 g => ?_⟩)
  obtain ⟨x, ok, rfl, hx, k3⟩ := g
  have k03 := (k1.trans k2 (by simp)).trans k3 (by simp)
  refine ⟨_, _, rfl, _, (B2.keep k3 (by simp)).cell 1, (rfirst_c (hd.new k03)).mono fun e w4 g => ?_⟩
  obtain ⟨y, ok2, rfl, hy, k4⟩ := g
  have k04 := k03.trans k4 (by simp)
  rw [← hx, ← hy]
  refine ⟨_, _, rfl, M.join_by (fun (J : Bool → World → Prop) => J (ok == ok2 && x == y) w4) ⟨rfl, k04⟩ fun J hJ => M.ite_by (fun c => ?_) (fun c => ?_)⟩
  · rw [c, Bool.true_and] at hJ; exact hJ
  · rw [c, Bool.false_and] at hJ; exact hJ
theorem ahead_c {w : World} (c d : Cn) : Calls Try.prog 43 #[c.agg, d.agg] w (R43 fun r w' => r = (decide (c.id < d.id) || (c.id == d.id && decide (c.addr < d.addr))) ∧ Keeps [] w w') := by
  refine F43_ok (M.new_blk fun b w1 hb B k1 => M.new_blk fun b2 w2 hb2 B2 k2 => ?_)
  have B := B.keep k2 (by simp)
  have k02 := k1.trans k2 (by simp)
  refine M.join_by (fun (J : Bool → World → Prop) => J (decide (c.id < d.id) || (c.id == d.id && decide (c.addr < d.addr))) w2) ⟨rfl, k02⟩ fun J hJ => ⟨_, B.cell 1, _, B2.cell 1, M.ite_by (fun c1 => ?_) (fun c1 => ?_)⟩
  · rw [c1, Bool.true_or] at hJ; exact hJ
  · rw [c1, Bool.false_or] at hJ
    refine ⟨_, B.cell 1, _, B2.cell 1, M.ite_by (fun c2 => ?_) (fun c2 => ?_)⟩
    · rw [c2, Bool.true_and] at hJ; exact ⟨_, B.cell 2, _, B2.cell 2, hJ⟩
    · rw [c2, Bool.false_and] at hJ; exact hJ
/-- What counts of a candidate is in bounds. -/
def OkC (c : Cn) : Prop := countA c.segs ≤ 1099511627776 ∧ c.segs.length ≤ 1099511627776
theorem worse_c {w : World} {c d : Cn} (hc : Segs w c.path c.segs) (hd : Segs w d.path d.segs) (oc : OkC c) (od : OkC d) (step : Int) :
    Calls Try.prog 31 #[c.agg, d.agg, .int .i64 step] w (R31 fun r w' => r = bts c.vw d.vw step ∧ Keeps [] w w') := by
  refine F31_ok (M.new_blk fun b w1 hb B k1 => M.new_blk fun b2 w2 hb2 D k2 => ?_)
  have B := B.keep k2 (by simp)
  have k02 := k1.trans k2 (by simp)
  have kd := Keeps.drew [] w2
  have k03 := k02.trans kd (by simp)
  have B3 := B.keep kd (by simp)
  have D3 := D.keep kd (by simp)
  refine M.ite_by (fun c1 => ?_) (fun c1 => ?_)
  · obtain rfl : step = 1 := by simpa using c1
    refine M.drew_by ⟨_, _, _, _, _, _, _, _, _, B3.cs 4 c.ac rfl, _, _, _, _, _, _, _, _, _, D3.cs 4 d.ac rfl, (rpref_c c).mono fun e w4 g => ?_⟩
    obtain ⟨r, rfl, rfl, k4⟩ := g
    refine ⟨_, rfl, (D3.keep k4 (by simp)).cs 4 d.ac rfl, (rpref_c d).mono fun e w5 g => ?_⟩
    obtain ⟨r, rfl, rfl, k5⟩ := g
    exact ⟨_, rfl, rfl, (k03.trans k4 (by simp)).trans k5 (by simp)⟩
  have n1 : step ≠ 1 := by simpa using c1
  refine M.ite_by (fun c2 => ?_) (fun c2 => ?_)
  · obtain rfl : step = 2 := by simpa using c2
    refine M.drew_by ⟨_, B3.cell 5, _, D3.cell 5, (rcount_c (hc.new k03) oc.1 oc.2).mono fun e w4 g => ?_⟩
    obtain ⟨r, rfl, rfl, k4⟩ := g
    have k04 := k03.trans k4 (by simp)
    refine ⟨_, rfl, (D3.keep k4 (by simp)).cell 5, (rcount_c (hd.new k04) od.1 od.2).mono fun e w5 g => ?_⟩
    obtain ⟨r, rfl, rfl, k5⟩ := g
    exact ⟨_, rfl, rfl, k04.trans k5 (by simp)⟩
  have n2 : step ≠ 2 := by simpa using c2
  refine M.ite_by (fun c3 => ?_) (fun c3 => ?_)
  · obtain rfl : step = 3 := by simpa using c3
    exact ⟨_, B.cell 4, _, D.cell 4, rfl, k02⟩
  have n3 : step ≠ 3 := by simpa using c3
  refine M.ite_by (fun c4 => ?_) (fun c4 => ?_)
  · obtain rfl : step = 4 := by simpa using c4
    refine M.join_by (fun (J : Bool → World → Prop) => ∀ r w', r = bts c.vw d.vw 4 → Keeps [] w w' → J r w') (fun r w' h1 h2 => ⟨h1, h2⟩) fun J hJ => M.drew_by ⟨_, _, _, _, _, _, _, _, _, B3.cs 4 c.ac rfl, _, _, _, _, _, _, _, _, _, D3.cs 4 d.ac rfl, (neighbour_c (hc.new k03) (hd.new k03)).mono fun e w4 g => ?_⟩
    obtain ⟨r, rfl, hr, k4⟩ := g
    have k04 := k03.trans k4 (by simp)
    have e4 : bts c.vw d.vw 4 = (((firstA c.segs).2 == (firstA d.segs).2 && (firstA c.segs).1 == (firstA d.segs).1) && decide (d.medA < c.medA)) := rfl
    rw [← hr] at e4
    refine ⟨_, rfl, M.ite_by (fun c5 => ?_) (fun c5 => ?_)⟩
    · have B4 := B3.keep k4 (by simp)
      have D4 := D3.keep k4 (by simp)
      refine ⟨_, _, _, _, _, _, _, _, _, B4.cs 4 c.ac rfl, _, _, _, _, _, _, _, _, _, D4.cs 4 d.ac rfl, (rmed_c c).mono fun e w5 g => ?_⟩
      obtain ⟨r5, rfl, rfl, k5⟩ := g
      refine ⟨_, rfl, (D4.keep k5 (by simp)).cs 4 d.ac rfl, (rmed_c d).mono fun e w6 g => ?_⟩
      obtain ⟨r6, rfl, rfl, k6⟩ := g
      exact ⟨_, rfl, hJ _ _ (by rw [e4, c5, Bool.true_and]) ((k04.trans k5 (by simp)).trans k6 (by simp))⟩
    · exact hJ _ _ (by rw [e4, c5, Bool.false_and]) k04
  have n4 : step ≠ 4 := by simpa using c4
  refine M.ite_by (fun c5 => ?_) (fun c5 => ?_)
  · obtain rfl : step = 5 := by simpa using c5
    refine M.join_by (fun (J : Bool → World → Prop) => J (c.inner && !d.inner) w2) ⟨rfl, k02⟩ fun J hJ => ⟨_, B.cell 3, M.ite_by (fun c6 => ?_) (fun c6 => ?_)⟩
    · have c6 : c.inner = true := c6
      rw [c6, Bool.true_and] at hJ
      exact ⟨_, D.cell 3, hJ⟩
    · have c6 : c.inner = false := c6
      rw [c6, Bool.false_and] at hJ
      exact hJ
  have n5 : step ≠ 5 := by simpa using c5
  refine M.ite_by (fun c6 => ?_) (fun c6 => ?_)
  · obtain rfl : step = 6 := by simpa using c6
    refine ⟨_, D.cell 13, _, B.cell 13, (rmless_c d.cost c.cost).mono fun e w4 g => ?_⟩
    obtain ⟨r, rfl, rfl, rfl⟩ := g
    exact ⟨_, rfl, rfl, k02⟩
  have n6 : step ≠ 6 := by simpa using c6
  have e7 : bts c.vw d.vw step = (decide (d.id < c.id) || (d.id == c.id && decide (d.addr < c.addr))) := by
    unfold bts
    rw [if_neg n1, if_neg n2, if_neg n3, if_neg n4, if_neg n5, if_neg n6]; rfl
  refine M.join_by (fun (J : Bool → World → Prop) => J (bts c.vw d.vw step) w2) ⟨rfl, k02⟩ fun J hJ => ⟨_, B.cell 1, _, D.cell 1, M.ite_by (fun c7 => ?_) (fun c7 => ?_)⟩
  · rw [e7, c7, Bool.true_or] at hJ; exact hJ
  · rw [e7, c7, Bool.false_or] at hJ
    refine ⟨_, B.cell 1, _, D.cell 1, M.ite_by (fun c8 => ?_) (fun c8 => ?_)⟩
    · have e8 : (d.id == c.id) = true := by have : c.id = d.id := by simpa using c8
                                            simp [this]
      rw [e8, Bool.true_and] at hJ; exact ⟨_, B.cell 2, _, D.cell 2, hJ⟩
    · have e8 : (d.id == c.id) = false := by have : ¬ c.id = d.id := by simpa using c8
                                             simp; exact fun h => this h.symm
      rw [e8, Bool.false_and] at hJ; exact hJ
theorem beats_c {w : World} {c d : Cn} (hc : Segs w c.path c.segs) (hd : Segs w d.path d.segs) (oc : OkC c) (od : OkC d) (step : Int) :
    Calls Try.prog 34 #[c.agg, d.agg, .int .i64 step] w (R34 fun r w' => r = bts c.vw d.vw step ∧ Keeps [] w w') := by
  refine F34_ok (M.new_blk fun b w1 hb B k1 => M.new_blk fun b2 w2 hb2 D k2 => ?_)
  have B := B.keep k2 (by simp)
  have k02 := k1.trans k2 (by simp)
  have kd := Keeps.drew [] w2
  refine M.join_by (fun (J : Addr → Addr → World → Prop) => ∀ x y w', Blk w' x 32 c.ac → Blk w' y 32 d.ac → Keeps [] w2 w' → J ⟨x, 0, none⟩ ⟨y, 0, none⟩ w') ?_ ?_
  rotate_left
  · intro J hJ
    have B3 := B.keep kd (by simp)
    have D3 := D.keep kd (by simp)
    have hdr : w2.drew.heap.size = w2.heap.size := rfl
    refine M.drew_by ⟨_, _, _, _, _, _, _, _, _, B3.cs 4 c.ac rfl, _, _, _, _, _, _, _, _, _, D3.cs 4 d.ac rfl, ?_, ?_⟩
    · refine M.new_blk fun b5 w5 hb5 B5 k5 => ⟨(D3.keep k5 (by simp)).cs 4 d.ac rfl, (B3.keep k5 (by simp)).cs 4 c.ac rfl, M.new_blk fun b6 w6 hb6 B6 k6 => ?_⟩
      have k56 := k5.trans k6 (by simp)
      have hb5lt := B5.lt
      have hb2lt := D3.lt
      refine ⟨(D3.keep k56 (by simp)).cs 4 d.ac rfl, (B3.keep k56 (by simp)).cs 4 c.ac rfl, M.stA_blk (vs := c.ac) (B5.keep k6 (by simp)) rfl fun w7 B7 k7 => ?_⟩
      have k57 := k56.trans k7 (by simp; omega)
      exact ⟨(D3.keep k57 (by simp)).cs 4 d.ac rfl, M.stA_blk (vs := d.ac) (B6.keep k7 (by simp; omega)) rfl fun w8 B8 k8 => hJ b5 b6 w8 (B7.keep k8 (by simp; omega)) B8 (kd.trans (k57.trans k8 (by have := k5.size; simp; omega)) (by simp))⟩
    · refine M.new_blk fun b5 w5 hb5 B5 k5 => ⟨(D3.keep k5 (by simp)).cs 4 d.ac rfl, (B3.keep k5 (by simp)).cs 4 c.ac rfl, M.new_blk fun b6 w6 hb6 B6 k6 => ?_⟩
      have k56 := k5.trans k6 (by simp)
      have hb5lt := B5.lt
      refine ⟨(D3.keep k56 (by simp)).cs 4 d.ac rfl, (B3.keep k56 (by simp)).cs 4 c.ac rfl, M.stA_blk (vs := c.ac) B6 rfl fun w7 B7 k7 => ?_⟩
      have k57 := k56.trans k7 (by have := k5.size; simp; omega)
      exact ⟨(D3.keep k57 (by simp)).cs 4 d.ac rfl, M.stA_blk (vs := d.ac) ((B5.keep k6 (by simp)).keep k7 (by simp; omega)) rfl fun w8 B8 k8 => hJ b6 b5 w8 (B7.keep k8 (by simp; omega)) B8 (kd.trans (k57.trans k8 (by simp; omega)) (by simp))⟩
  · intro x y w3 X Y k3
    have B := B.keep k3 (by simp)
    have D := D.keep k3 (by simp)
    have k02 := k02.trans k3 (by simp)
    have kd := Keeps.drew [] w3
    have k03 := k02.trans kd (by simp)
    have X3 := X.keep kd (by simp)
    have Y3 := Y.keep kd (by simp)
    refine M.ite_by (fun c1 => ?_) (fun c1 => ?_)
    · obtain rfl : step = 1 := by simpa using c1
      refine M.drew_by ⟨_, _, _, _, _, _, _, _, _, X3.cs 0 c.ac rfl, _, _, _, _, _, _, _, _, _, Y3.cs 0 d.ac rfl, (pref_c c).mono fun e w4 g => ?_⟩
      obtain ⟨r, rfl, rfl, k4⟩ := g
      refine ⟨_, rfl, (Y3.keep k4 (by simp)).cs 0 d.ac rfl, (pref_c d).mono fun e w5 g => ?_⟩
      obtain ⟨r, rfl, rfl, k5⟩ := g
      exact ⟨_, rfl, rfl, (k03.trans k4 (by simp)).trans k5 (by simp)⟩
    have n1 : step ≠ 1 := by simpa using c1
    refine M.ite_by (fun c2 => ?_) (fun c2 => ?_)
    · obtain rfl : step = 2 := by simpa using c2
      refine M.drew_by ⟨_, X3.cell 1, _, Y3.cell 1, (count_c (hc.new k03) oc.1 oc.2).mono fun e w4 g => ?_⟩
      obtain ⟨r, rfl, rfl, k4⟩ := g
      have k04 := k03.trans k4 (by simp)
      refine ⟨_, rfl, (Y3.keep k4 (by simp)).cell 1, (count_c (hd.new k04) od.1 od.2).mono fun e w5 g => ?_⟩
      obtain ⟨r, rfl, rfl, k5⟩ := g
      exact ⟨_, rfl, rfl, k04.trans k5 (by simp)⟩
    have n2 : step ≠ 2 := by simpa using c2
    refine M.ite_by (fun c3 => ?_) (fun c3 => ?_)
    · obtain rfl : step = 3 := by simpa using c3
      exact ⟨_, X.cell 0, _, Y.cell 0, rfl, k02⟩
    have n3 : step ≠ 3 := by simpa using c3
    refine M.ite_by (fun c4 => ?_) (fun c4 => ?_)
    · obtain rfl : step = 4 := by simpa using c4
      refine M.join_by (fun (J : Bool → World → Prop) => ∀ r w', r = bts c.vw d.vw 4 → Keeps [] w w' → J r w') (fun r w' h1 h2 => ⟨h1, h2⟩) fun J hJ => M.drew_by ⟨_, _, _, _, _, _, _, _, _, X3.cs 0 c.ac rfl, _, _, _, _, _, _, _, _, _, Y3.cs 0 d.ac rfl, (fellows_c (hc.new k03) (hd.new k03)).mono fun e w4 g => ?_⟩
      obtain ⟨r, rfl, hr, k4⟩ := g
      have k04 := k03.trans k4 (by simp)
      have e4 : bts c.vw d.vw 4 = (((firstA c.segs).2 == (firstA d.segs).2 && (firstA c.segs).1 == (firstA d.segs).1) && decide (d.medA < c.medA)) := rfl
      rw [← hr] at e4
      refine ⟨_, rfl, M.ite_by (fun c5 => ?_) (fun c5 => ?_)⟩
      · have X4 := X3.keep k4 (by simp)
        have Y4 := Y3.keep k4 (by simp)
        refine ⟨_, _, _, _, _, _, _, _, _, X4.cs 0 c.ac rfl, _, _, _, _, _, _, _, _, _, Y4.cs 0 d.ac rfl, (med_c c).mono fun e w5 g => ?_⟩
        obtain ⟨r5, rfl, rfl, k5⟩ := g
        refine ⟨_, rfl, (Y4.keep k5 (by simp)).cs 0 d.ac rfl, (med_c d).mono fun e w6 g => ?_⟩
        obtain ⟨r6, rfl, rfl, k6⟩ := g
        exact ⟨_, rfl, hJ _ _ (by rw [e4, c5, Bool.true_and]) ((k04.trans k5 (by simp)).trans k6 (by simp))⟩
      · exact hJ _ _ (by rw [e4, c5, Bool.false_and]) k04
    have n4 : step ≠ 4 := by simpa using c4
    refine M.ite_by (fun c5 => ?_) (fun c5 => ?_)
    · obtain rfl : step = 5 := by simpa using c5
      refine M.join_by (fun (J : Bool → World → Prop) => J (c.inner && !d.inner) w3) ⟨rfl, k02⟩ fun J hJ => ⟨_, B.cell 3, M.ite_by (fun c6 => ?_) (fun c6 => ?_)⟩
      · have c6 : c.inner = true := c6
        rw [c6, Bool.true_and] at hJ
        exact ⟨_, D.cell 3, hJ⟩
      · have c6 : c.inner = false := c6
        rw [c6, Bool.false_and] at hJ
        exact hJ
    have n5 : step ≠ 5 := by simpa using c5
    refine M.ite_by (fun c6 => ?_) (fun c6 => ?_)
    · obtain rfl : step = 6 := by simpa using c6
      refine ⟨_, D.cell 13, _, B.cell 13, (mless_c d.cost c.cost).mono fun e w4 g => ?_⟩
      obtain ⟨r, rfl, rfl, rfl⟩ := g
      exact ⟨_, rfl, rfl, k02⟩
    have n6 : step ≠ 6 := by simpa using c6
    have e7 : bts c.vw d.vw step = (decide (d.id < c.id) || (d.id == c.id && decide (d.addr < c.addr))) := by
      unfold bts
      rw [if_neg n1, if_neg n2, if_neg n3, if_neg n4, if_neg n5, if_neg n6]; rfl
    refine ⟨_, _, _, _, _, _, _, _, _, _, _, _, _, _, D.cs 0 d.cells rfl, _, _, _, _, _, _, _, _, _, _, _, _, _, _, B.cs 0 c.cells rfl, (ahead_c d c).mono fun e w4 g => ?_⟩
    obtain ⟨r, rfl, rfl, k4⟩ := g
    exact ⟨_, rfl, e7.symm, k02.trans k4 (by simp)⟩
end Go.Proofs.Ytmgigplbclkpaaa
