/-
  Costs, as both ways reckon them; some runs.
-/
import Derived.Test.YtkbfpjkikjmmeaaMetT
namespace Go.Proofs.Ytkbfpjkikjmmeaa
set_option linter.unusedVariables false
set_option linter.unusedSimpArgs false
open Go.Sp
open Go.RowKit (Below)

theorem madd_c {w : World} {a b : Nat} (ha : a < 18446744073709551616) (hb : b < 18446744073709551616) : Calls Try.prog 15 #[.float .f64 a, .float .f64 b] w (R15 fun r w' => r = addB (cleanN a) (cleanN b) ∧ w' = w) := by
  refine F15_ok ((clean_c a).mono fun e w1 g => ?_)
  obtain ⟨r, rfl, rfl, rfl⟩ := g
  refine ⟨_, rfl, (clean_c b).mono fun e w1 g => ?_⟩
  obtain ⟨r, rfl, rfl, rfl⟩ := g
  exact ⟨_, rfl, _, fl_add (cleanN_le ha) (cleanN_le hb), rfl, rfl⟩
theorem rmadd_c {w : World} {a b : Nat} (ha : a < 18446744073709551616) (hb : b < 18446744073709551616) : Calls Try.prog 38 #[.float .f64 a, .float .f64 b] w (R38 fun r w' => r = addB (cleanN a) (cleanN b) ∧ w' = w) := by
  refine F38_ok ((rclean_c a).mono fun e w1 g => ?_)
  obtain ⟨r, rfl, rfl, rfl⟩ := g
  refine ⟨_, rfl, (rclean_c b).mono fun e w1 g => ?_⟩
  obtain ⟨r, rfl, rfl, rfl⟩ := g
  exact ⟨_, rfl, _, fl_add (cleanN_le ha) (cleanN_le hb), rfl, rfl⟩
theorem mbits_c {w : World} (a : Nat) : Calls Try.prog 24 #[.float .f64 a] w (R24 fun r w' => r = (cleanN a : Int) ∧ w' = w) := by
  refine F24_ok ((clean_c a).mono fun e w1 g => ?_)
  obtain ⟨r, rfl, rfl, rfl⟩ := g
  exact ⟨_, rfl, rfl, rfl⟩
theorem rmbits_c {w : World} (a : Nat) : Calls Try.prog 36 #[.float .f64 a] w (R36 fun r w' => r = (cleanN a : Int) ∧ w' = w) := by
  refine F36_ok ((rclean_c a).mono fun e w1 g => ?_)
  obtain ⟨r, rfl, rfl, rfl⟩ := g
  exact ⟨_, rfl, rfl, rfl⟩
/-- The bits of a cost? -/
def ofB (u : Nat) : Bool := fGeq u 0 && decide (cleanN u = u)
theorem ofB_iff {u : Nat} (hu : u < 18446744073709551616) : ofB u = decide (u ≤ fInf) := by
  unfold ofB
  rw [Bool.eq_iff_iff]
  simp only [Bool.and_eq_true, decide_eq_true_eq]
  constructor
  · rintro ⟨h1, h2⟩
    rcases geq_zero hu h1 with h | rfl
    · exact h
    · have : cleanN 9223372036854775808 = 0 := by decide +kernel
      rw [this] at h2; cases h2
  · intro h
    exact ⟨by rw [fGeq_pos h (Nat.zero_le _)]; simp, cleanN_id h⟩
theorem mof_c {w : World} (u : Nat) : Calls Try.prog 17 #[.int .u64 (u : Int)] w (R17 fun r ok w' => r = (if ofB u then u else 0) ∧ ok = ofB u ∧ w' = w) := by
  refine F17_ok (M.join_by (fun (J : Bool → World → Prop) => J (!ofB u) w) (M.ite_by (fun c => ?_) (fun c => ?_)) fun J hJ => ?_)
  · have c : ofB u = false := by simpa using c
    rw [c]; exact ⟨rfl, rfl, rfl⟩
  · have c : ofB u = true := by simpa using c
    rw [c]
    exact ⟨by rw [Int.toNat_natCast]; rfl, rfl, rfl⟩
  · rw [Int.toNat_natCast]
    refine (mright_c u).mono fun e w1 g => ?_
    obtain ⟨r, rfl, rfl, rfl⟩ := g
    unfold ofB at hJ
    refine ⟨_, rfl, M.ite_by (fun c => ?_) (fun c => ?_)⟩
    · have c : fGeq u 0 = false := by simpa using c
      rw [c] at hJ; exact hJ
    · have c : fGeq u 0 = true := by simpa using c
      rw [c, Bool.true_and] at hJ
      refine (mbits_c u).mono fun e w1 g => ?_
      obtain ⟨r, rfl, rfl, rfl⟩ := g
      refine ⟨_, rfl, ?_⟩
      have : ((cleanN u : Int) != (u : Int)) = !decide (cleanN u = u) := by
        rw [Bool.eq_iff_iff]; simp; omega
      dsimp only
      rw [this]; exact hJ
theorem rmof_c {w : World} (u : Nat) : Calls Try.prog 18 #[.int .u64 (u : Int)] w (R18 fun r ok w' => r = (if ofB u then u else 0) ∧ ok = ofB u ∧ w' = w) := by
  refine F18_ok (M.join_by (fun (J : Bool → World → Prop) => J (!ofB u) w) (M.ite_by (fun c => ?_) (fun c => ?_)) fun J hJ => ?_)
  · have c : ofB u = false := by simpa using c
    rw [c]; exact ⟨rfl, rfl, rfl⟩
  · have c : ofB u = true := by simpa using c
    rw [c]
    exact ⟨by rw [Int.toNat_natCast]; rfl, rfl, rfl⟩
  · rw [Int.toNat_natCast]
    refine (rmright_c u).mono fun e w1 g => ?_
    obtain ⟨r, rfl, rfl, rfl⟩ := g
    unfold ofB at hJ
    refine ⟨_, rfl, M.ite_by (fun c => ?_) (fun c => ?_)⟩
    · have c : fGeq u 0 = false := by simpa using c
      rw [c] at hJ; exact hJ
    · have c : fGeq u 0 = true := by simpa using c
      rw [c, Bool.true_and] at hJ
      refine (rmbits_c u).mono fun e w1 g => ?_
      obtain ⟨r, rfl, rfl, rfl⟩ := g
      refine ⟨_, rfl, ?_⟩
      have : ((cleanN u : Int) != (u : Int)) = !decide (cleanN u = u) := by
        rw [Bool.eq_iff_iff]; simp; omega
      dsimp only
      rw [this]; exact hJ
theorem fbits_c {w : World} (a b : Nat) : Calls Try.prog 21 #[.float .f64 a, .float .f64 b] w (R21 fun r w' => r = (a == b) ∧ w' = w) := by
  refine F21_ok ⟨?_, rfl⟩
  rw [Bool.eq_iff_iff]; simp; omega
theorem nan_c {w : World} : Calls Try.prog 16 #[] w (R16 fun r w' => r = 9221120237041090561 ∧ w' = w) := F16_ok ⟨rfl, rfl⟩
theorem fsame_c {w : World} {a b : Nat} (ha : a < 18446744073709551616) (hb : b < 18446744073709551616) : Calls Try.prog 20 #[.float .f64 a, .float .f64 b] w (R20 fun r w' => r = true ∧ w' = w) := by
  refine F20_ok (M.join_by (fun (J : Bool → World → Prop) => J true w) ⟨rfl, rfl⟩ fun J hJ => (mright_c a).mono fun e w1 g => ?_)
  obtain ⟨r1, rfl, rfl, rfl⟩ := g
  refine ⟨_, rfl, (rmright_c a).mono fun e w1 g => ?_⟩
  obtain ⟨r2, rfl, rfl, rfl⟩ := g
  refine ⟨_, rfl, M.ite_y (by simp) ((clean_c a).mono fun e w1 g => ?_)⟩
  obtain ⟨r3, rfl, rfl, rfl⟩ := g
  refine ⟨_, rfl, (rclean_c a).mono fun e w1 g => ?_⟩
  obtain ⟨r4, rfl, rfl, rfl⟩ := g
  refine ⟨_, rfl, (fbits_c _ _).mono fun e w1 g => ?_⟩
  obtain ⟨r5, rfl, rfl, rfl⟩ := g
  refine ⟨_, rfl, M.ite_y (by simp) ((madd_c ha hb).mono fun e w1 g => ?_)⟩
  obtain ⟨r6, rfl, rfl, rfl⟩ := g
  refine ⟨_, rfl, (rmadd_c ha hb).mono fun e w1 g => ?_⟩
  obtain ⟨r7, rfl, rfl, rfl⟩ := g
  refine ⟨_, rfl, (fbits_c _ _).mono fun e w1 g => ?_⟩
  obtain ⟨r8, rfl, rfl, rfl⟩ := g
  refine ⟨_, rfl, M.ite_y (by simp) ((mless_c a b).mono fun e w1 g => ?_)⟩
  obtain ⟨r9, rfl, rfl, rfl⟩ := g
  refine ⟨_, rfl, (rmless_c a b).mono fun e w1 g => ?_⟩
  obtain ⟨r10, rfl, rfl, rfl⟩ := g
  refine ⟨_, rfl, M.ite_y (by simp) ((msame_c a b).mono fun e w1 g => ?_)⟩
  obtain ⟨r11, rfl, rfl, rfl⟩ := g
  refine ⟨_, rfl, (rmsame_c a b).mono fun e w1 g => ?_⟩
  obtain ⟨r12, rfl, rfl, rfl⟩ := g
  refine ⟨_, rfl, M.ite_y (by simp) ((mbits_c a).mono fun e w1 g => ?_)⟩
  obtain ⟨r13, rfl, rfl, rfl⟩ := g
  refine ⟨_, rfl, (rmbits_c a).mono fun e w1 g => ?_⟩
  obtain ⟨r14, rfl, rfl, rfl⟩ := g
  refine ⟨_, rfl, ?_⟩
  dsimp only
  rw [show ((cleanN a : Int) == (cleanN a : Int)) = true by simp]
  exact hJ
theorem sh1 : sharesB [4607182418800017408, 4607182418800017408, 4607182418800017408] 10 = [4, 3, 3] := by decide +kernel
theorem sh2 : sharesB [9218868437227405312, 4617315517961601024, 9218868437227405312] 4 = [2, 0, 2] := by decide +kernel
theorem mknown_c {w : World} : Calls Try.prog 12 #[] w (R12 fun r w' => r = true ∧ Keeps [] w w') := by
  refine F12_ok (M.join_by (fun (J : Bool → World → Prop) => ∀ w', Keeps [] w w' → J true w') (fun w' h => ⟨rfl, h⟩) fun J hJ => newn_k (n := 3) (sz := 1) (cs := fv [4607182418800017408, 4607182418800017408, 4607182418800017408]) rfl (by omega) (Keeps.refl [] w) fun b w1 _ _ o1 _ k1 => ?_)
  refine (shares_c o1.rd (by decide) (by decide) 10).mono fun e w2 g => ?_
  obtain ⟨r2, rfl, rd2, f2, k2⟩ := g
  rw [sh1] at rd2
  have k02 := k1.trans k2 (by simp)
  refine ⟨_, rfl, newn_k (n := 3) (sz := 1) (cs := iv [4, 3, 3]) rfl (by omega) k02 fun b w3 _ _ o3 k3 k03 => ?_⟩
  refine (samei_c (rd2.keep k3 (by simp)) o3.rd (by decide)).mono fun e w4 g => ?_
  obtain ⟨r4, rfl, rfl, k4⟩ := g
  have k04 := k03.trans k4 (by simp)
  refine ⟨_, rfl, M.ite_y (by decide) (inf_c.mono fun e w5 g => ?_)⟩
  obtain ⟨r5, rfl, rfl, hw⟩ := g
  obtain rfl := hw.symm
  refine ⟨_, rfl, inf_c.mono fun e w5 g => ?_⟩
  obtain ⟨r5, rfl, rfl, hw⟩ := g
  obtain rfl := hw.symm
  refine ⟨_, rfl, newn_k (n := 3) (sz := 1) (cs := fv [9218868437227405312, 4617315517961601024, 9218868437227405312]) rfl (by omega) k04 fun b w5 _ _ o5 _ k05 => ?_⟩
  refine (shares_c o5.rd (by decide) (by decide) 4).mono fun e w6 g => ?_
  obtain ⟨r6, rfl, rd6, f6, k6⟩ := g
  rw [sh2] at rd6
  have k06 := k05.trans k6 (by simp)
  refine ⟨_, rfl, newn_k (n := 3) (sz := 1) (cs := iv [2, 0, 2]) rfl (by omega) k06 fun b w7 _ _ o7 k7 k07 => ?_⟩
  refine (samei_c (rd6.keep k7 (by simp)) o7.rd (by decide)).mono fun e w8 g => ?_
  obtain ⟨r8, rfl, rfl, k8⟩ := g
  have k08 := k07.trans k8 (by simp)
  refine ⟨_, rfl, M.ite_y (by decide) (inf_c.mono fun e w9 g => ?_)⟩
  obtain ⟨r9, rfl, rfl, hw⟩ := g
  obtain rfl := hw.symm
  refine ⟨_, rfl, (madd_c (by omega) (by omega)).mono fun e w9 g => ?_⟩
  obtain ⟨r9, rfl, rfl, hw⟩ := g
  obtain rfl := hw.symm
  refine ⟨_, rfl, (isinf_c _).mono fun e w9 g => ?_⟩
  obtain ⟨r9, rfl, rfl, hw⟩ := g
  obtain rfl := hw.symm
  refine ⟨_, rfl, ?_⟩
  have : infB (addB (cleanN 9218868437227405312) (cleanN 4607182418800017408)) = true := by decide +kernel
  rw [this]
  exact hJ _ k08
theorem mknown_a {W w : World} (a : Aft W w) : Calls Try.prog 12 #[] w (R12 fun r w' => r = true ∧ Aft W w') := mknown_c.mono fun e w' g => by
  obtain ⟨r, rfl, rfl, k⟩ := g
  exact ⟨_, rfl, rfl, a.new k⟩
/-- Floats among the arguments. -/
theorem flos_of {W : World} {v : Value} (h : Gd W (.slice (.cons .flo .nil)) v) : ∃ (s : SV) (l : List Nat), v = s.v ∧ Rd 1 W s (fv l) ∧ l.length = s.len ∧ s.len ≤ maxLen ∧ s.cap ≤ maxLen ∧ ∀ x ∈ l, x < 18446744073709551616 := by
  simp only [Gd] at h
  obtain ⟨s, vs, rfl, hr, hc, hg⟩ := h
  simp only [ShL.len, Nat.zero_add] at hr hg
  have hl := hr.len
  rw [Nat.mul_one] at hl
  obtain ⟨l, hll, hlp⟩ := list_choose (n := s.len) (p := fun i (x : Nat) => vs[i]? = some (Value.float .f64 x) ∧ x < 18446744073709551616) (fun i hi => by
    have h1 := hg i hi
    simp only [GdL, Gd] at h1
    obtain ⟨v, r, h2, ⟨n, rfl, h3⟩, rfl⟩ := h1
    have h5 : ((vs.drop (i * 1)).take 1)[0]? = some (Value.float .f64 n) := by rw [h2]; rfl
    rw [List.getElem?_take, if_pos (by omega), List.getElem?_drop] at h5
    exact ⟨n, by simpa using h5, h3⟩)
  have hcap := hr.cap
  refine ⟨s, l, rfl, ?_, hll, by omega, hc, fun x hx => ?_⟩
  · have : vs = fv l := by
      apply List.ext_getElem?
      intro i
      by_cases hi : i < l.length
      · rw [(hlp i l[i] (List.getElem?_eq_getElem hi)).1, fv_get (List.getElem?_eq_getElem hi)]
      · rw [List.getElem?_eq_none (by omega), List.getElem?_eq_none (by simp [fv]; omega)]
    rw [← this]; exact hr
  · obtain ⟨i, hi, he⟩ := List.getElem_of_mem hx
    exact (hlp i x (by rw [List.getElem?_eq_getElem hi, he])).2
theorem fv_sub {w : World} {s : SV} {l : List Nat} (hs : Rd 1 w s (fv l)) {n : Nat} (hn : n ≤ l.length) : Rd 1 w (s.sub 0 n 1) (fv (l.take n)) := by
  have hl := fv_len hs
  have := hs.sub (l := 0) (u := n) (Nat.zero_le _) (by omega)
  simpa [fv, List.map_take] using this
end Go.Proofs.Ytkbfpjkikjmmeaa
