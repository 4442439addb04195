/-
  Costs: which may be, which is less.
-/
import Derived.Test.YtkbfpjkikjmmeaaF
import Derived.Test.YtkbfpjkikjmmeaaSpDec
namespace Go.Proofs.Ytkbfpjkikjmmeaa
set_option linter.unusedVariables false
set_option linter.unusedSimpArgs false
open Go.Sp

theorem inf_c {w : World} : Calls Try.prog 33 #[.int .i64 1] w (R33 fun r w' => r = 9218868437227405312 ∧ w' = w) :=
  F33_ok (M.join_by (fun (J : Int → World → Prop) => J 9218868437227405312 w) ⟨rfl, rfl⟩ fun J hJ => M.ite_tt hJ)
theorem ninf_c {w : World} : Calls Try.prog 33 #[.int .i64 (-1)] w (R33 fun r w' => r = 18442240474082181120 ∧ w' = w) :=
  F33_ok (M.join_by (fun (J : Int → World → Prop) => J 18442240474082181120 w) ⟨rfl, rfl⟩ fun J hJ => M.ite_ff hJ)
/-- Is a float above all that end? -/
def infB (x : Nat) : Bool := fGtr x 9218868437227405311
theorem isinf_c {w : World} (b : Nat) : Calls Try.prog 13 #[.float .f64 b, .int .i64 1] w (R13 fun r w' => r = infB b ∧ w' = w) :=
  F13_ok (M.join_by (fun (J : Nat → World → Prop) => J b w) ⟨rfl, rfl⟩ fun J hJ => M.ite_ff (M.ite_ff hJ))
theorem mright_c {w : World} (b : Nat) : Calls Try.prog 26 #[.float .f64 b] w (R26 fun r w' => r = fGeq b 0 ∧ w' = w) := F26_ok ⟨rfl, rfl⟩
theorem rmright_c {w : World} (b : Nat) : Calls Try.prog 35 #[.float .f64 b] w (R35 fun r w' => r = fGeq b 0 ∧ w' = w) := F35_ok ⟨rfl, rfl⟩
theorem clean_c {w : World} (b : Nat) : Calls Try.prog 28 #[.float .f64 b] w (R28 fun r w' => r = cleanN b ∧ w' = w) := by
  refine F28_ok ((mright_c b).mono fun e w1 g => ?_)
  obtain ⟨r, rfl, rfl, rfl⟩ := g
  refine ⟨_, rfl, M.ite_by (fun c => ?_) (fun c => ?_)⟩
  · have c : fGeq b 0 = false := by simpa using c
    refine inf_c.mono fun e w2 g => ?_
    obtain ⟨r, rfl, rfl, rfl⟩ := g
    exact ⟨_, rfl, by simp [cleanN, c], rfl⟩
  · have c : fGeq b 0 = true := by simpa using c
    exact M.ite_by (fun c2 => ⟨by simp [cleanN, c, c2], rfl⟩) (fun c2 => ⟨by simp [cleanN, c, c2], rfl⟩)
theorem rclean_c {w : World} (b : Nat) : Calls Try.prog 37 #[.float .f64 b] w (R37 fun r w' => r = cleanN b ∧ w' = w) := by
  refine F37_ok ((rmright_c b).mono fun e w1 g => ?_)
  obtain ⟨r, rfl, rfl, rfl⟩ := g
  refine ⟨_, rfl, M.ite_by (fun c => ?_) (fun c => ?_)⟩
  · have c : fGeq b 0 = false := by simpa using c
    refine inf_c.mono fun e w2 g => ?_
    obtain ⟨r, rfl, rfl, rfl⟩ := g
    exact ⟨_, rfl, by simp [cleanN, c], rfl⟩
  · have c : fGeq b 0 = true := by simpa using c
    exact M.ite_by (fun c2 => ⟨by simp [cleanN, c, c2], rfl⟩) (fun c2 => ⟨by simp [cleanN, c, c2], rfl⟩)
theorem mless_c {w : World} (a b : Nat) : Calls Try.prog 23 #[.float .f64 a, .float .f64 b] w (R23 fun r w' => r = fLss (cleanN a) (cleanN b) ∧ w' = w) := by
  refine F23_ok ((clean_c a).mono fun e w1 g => ?_)
  obtain ⟨r, rfl, rfl, rfl⟩ := g
  refine ⟨_, rfl, (clean_c b).mono fun e w1 g => ?_⟩
  obtain ⟨r, rfl, rfl, rfl⟩ := g
  exact ⟨_, rfl, rfl, rfl⟩
theorem rmless_c {w : World} (a b : Nat) : Calls Try.prog 39 #[.float .f64 a, .float .f64 b] w (R39 fun r w' => r = fLss (cleanN a) (cleanN b) ∧ w' = w) := by
  refine F39_ok ((rclean_c a).mono fun e w1 g => ?_)
  obtain ⟨r, rfl, rfl, rfl⟩ := g
  refine ⟨_, rfl, (rclean_c b).mono fun e w1 g => ?_⟩
  obtain ⟨r, rfl, rfl, rfl⟩ := g
  exact ⟨_, rfl, rfl, rfl⟩
theorem msame_c {w : World} (a b : Nat) : Calls Try.prog 25 #[.float .f64 a, .float .f64 b] w (R25 fun r w' => r = fEql (cleanN a) (cleanN b) ∧ w' = w) := by
  refine F25_ok ((clean_c a).mono fun e w1 g => ?_)
  obtain ⟨r, rfl, rfl, rfl⟩ := g
  refine ⟨_, rfl, (clean_c b).mono fun e w1 g => ?_⟩
  obtain ⟨r, rfl, rfl, rfl⟩ := g
  exact ⟨_, rfl, rfl, rfl⟩
theorem rmsame_c {w : World} (a b : Nat) : Calls Try.prog 40 #[.float .f64 a, .float .f64 b] w (R40 fun r w' => r = fEql (cleanN a) (cleanN b) ∧ w' = w) := by
  refine F40_ok ((rclean_c a).mono fun e w1 g => ?_)
  obtain ⟨r, rfl, rfl, rfl⟩ := g
  refine ⟨_, rfl, (rclean_c b).mono fun e w1 g => ?_⟩
  obtain ⟨r, rfl, rfl, rfl⟩ := g
  exact ⟨_, rfl, rfl, rfl⟩
end Go.Proofs.Ytkbfpjkikjmmeaa
