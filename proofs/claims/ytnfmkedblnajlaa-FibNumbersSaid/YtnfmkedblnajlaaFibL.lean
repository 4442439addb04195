/-
  Some runs of a forwarding table; asks among the arguments.
-/
import Derived.Test.YtnfmkedblnajlaaFibE
namespace Go.Proofs.Ytnfmkedblnajlaa
set_option linter.unusedVariables false
set_option linter.unusedSimpArgs false
open Go.Sp
open Go.RowKit (Below)

theorem FS.set_ok (S : FS) {room : Int} {k : Key} {l : List (Int × Int)} (hk : rightP k.1 k.2 = true) (hl : hopsB l = true) (h : (tget S.L k).isSome = true ∨ (S.L.length : Int) < room) : S.set room k l = (0, ⟨tput S.L k 0, fun k' => if k' = k then l else S.h k', S.n + 1⟩) := by
  unfold FS.set
  rw [hk, hl]
  have : ((tget S.L k).isNone && decide (room ≤ (S.L.length : Int))) = false := by
    rcases h with h | h
    · cases hh : tget S.L k <;> simp [hh] at h ⊢
    · rw [decide_eq_false (by omega), Bool.and_false]
  rw [this]; rfl
theorem FS.set_bad (S : FS) {room : Int} {k : Key} {l : List (Int × Int)} (h : (rightP k.1 k.2 && hopsB l) = false) : S.set room k l = (12, S) := by
  unfold FS.set; rw [h]; rfl
theorem FS.set_full (S : FS) {room : Int} {k : Key} {l : List (Int × Int)} (hk : rightP k.1 k.2 = true) (hl : hopsB l = true) (h : (tget S.L k).isSome = false) (h2 : room ≤ (S.L.length : Int)) : S.set room k l = (13, S) := by
  unfold FS.set
  rw [hk, hl]
  have : ((tget S.L k).isNone && decide (room ≤ (S.L.length : Int))) = true := by
    rw [decide_eq_true h2, Bool.and_true]
    cases hh : tget S.L k <;> simp [hh] at h ⊢
  rw [this]; rfl
theorem fknown_c {w : World} : Calls Try.prog 14 #[] w (R14 fun r w' => r = true ∧ Keeps [] w w') := by
  refine F14_ok ((fnew_c 1).mono fun e w1 g => ?_)
  obtain ⟨r, e', rfl, g, k1⟩ := g
  rw [if_pos (by omega)] at g
  obtain ⟨p, X, rfl, rfl, F1, hX⟩ := g
  refine ⟨_, _, rfl, M.join_by (fun (J : Bool → World → Prop) => J false w1) (M.ite_ff ?_) fun J hJ => M.ite_ff hJ⟩
  refine M.new_blk fun b2 w2 hb2 B2 k2 => M.stA_blk B2 rfl fun w3 B3 k3 => ⟨_, B3.cell 0, _, B3.cell 1, ?_⟩
  have k13 : Keeps [] w1 w3 := k2.trans k3 (by simp; omega)
  refine new1_k (cs := hv (3, 16)) (sz := 2) rfl k13 fun b4 w4 g1 g2 x4 k4 k14 => ?_
  have F4 := F1.keep k14 (by simp)
  have hX1 := F1.lt
  have h13 := k13.size
  have h4 : FS.zero.set 1 (167772160, 8) [(3, 16)] = (0, ⟨tput [] (167772160, 8) 0, fun k' => if k' = (167772160, 8) then [(3, 16)] else [], 1⟩) := FS.set_ok _ (by decide) (by decide) (.inr (by decide))
  refine (fset_c F4 (by omega) (by decide) (a := 167772160) (by omega) 8 (l := [(3, 16)]) (by simpa [hvs] using x4) (fun _ x hx h => by simp [SV.blk] at hx; have := hX1 x h; omega) (by simp)).mono fun e w5 g => ?_
  obtain ⟨r5, rfl, rfl, X5, F5, k5, f5⟩ := g
  rw [h4] at F5 ⊢
  have hXw : ∀ y ∈ X, w.heap.size ≤ y := hX
  have k05 : Keeps [] w w5 := (k1.trans k14 (by simp)).trans k5 (fun x hx => .inr (hX x hx))
  refine ⟨_, rfl, (fset_c F5 (by omega) (by decide) (a := 0) (by omega) 0 (s := SV.nil) (l := []) (Rd.nil _ _) (fun h => absurd rfl h) (by simp)).mono fun e w6 g => ?_⟩
  obtain ⟨r6, rfl, rfl, X6, F6, k6, f6⟩ := g
  have hX5 : ∀ y ∈ X5, w.heap.size ≤ y := fun y hy => by
    rcases f5 y hy with h | h
    · exact hX y h
    · have := k1.size; have := k14.size; omega
  have k06 := k05.trans k6 (fun x hx => .inr (hX5 x hx))
  generalize hS1 : FS.mk (tput [] (167772160, 8) 0) (fun k' => if k' = (167772160, 8) then [(3, 16)] else []) 1 = S1 at *
  have h6 : S1.set 1 (((0 : Nat), (0 : Int)) : Key) [] = (13, S1) := FS.set_full _ (by decide) (by decide) (by subst hS1; decide) (by subst hS1; decide)
  rw [h6] at F6 ⊢
  refine ⟨_, rfl, (fmatch_c F6 (A := 167838211) (by omega)).mono fun e w7 g => ?_⟩
  obtain ⟨r7, ok7, rfl, rd7, rfl, f7, k7⟩ := g
  have F7 := F6.keep k7 (by simp)
  refine ⟨_, _, rfl, (fmatch_c F7 (A := 1) (by omega)).mono fun e w8 g => ?_⟩
  obtain ⟨r8, ok8, rfl, rd8, rfl, f8, k8⟩ := g
  have F8 := F7.keep k8 (by simp)
  have m1 : S1.match 167838211 = some (167772160, 8) := by subst hS1; decide
  have m2 : S1.match 1 = none := by subst hS1; decide
  have m3 : S1.h (167772160, 8) = [(3, 16)] := by subst hS1; rfl
  rw [m1] at rd7 ⊢
  rw [m2] at rd8 ⊢
  have rd7 : Rd 2 w7 r7 (hvs (S1.h (167772160, 8))) := rd7
  rw [m3] at rd7
  have rd7 := rd7.keep k8 (by simp)
  have hl7 := h_len rd7
  have k08 := (k06.trans k7 (by simp)).trans k8 (by simp)
  obtain ⟨ax, hax⟩ := rd7.some (by rw [hl7]; decide)
  have e7 := h_at rd7 hax (i := 0) rfl
  refine ⟨_, _, rfl, M.join_by (fun (J : Bool → World → Prop) => J true w8) ⟨rfl, k08⟩ fun J hJ => M.ite_tt (M.ite_tt (M.ite_tt (M.ite_y (by rw [hl7]; rfl) ⟨ax, hax, by omega, by rw [hl7]; decide, _, e7.1, M.ite_tt (M.ite_tt ((flen_c F8).mono fun e w9 g => ?_))⟩)))⟩
  obtain ⟨r9, rfl, rfl, rfl⟩ := g
  have hl : S1.L.length = 1 := by subst hS1; decide
  have hn : S1.n = 1 := by subst hS1; rfl
  refine ⟨_, rfl, M.ite_y (by rw [hl]; rfl) ((fwrites_c F8).mono fun e w10 g => ?_)⟩
  obtain ⟨r10, rfl, rfl, rfl⟩ := g
  refine ⟨_, rfl, ?_⟩
  rw [hn]; exact hJ
/-- What may be asked. -/
structure As where
  kind : Int
  N : Int
  Ln : Int
  A : Nat
  s : SV
  l : List (Int × Int)
  few : Bool
def asv (x : As) : List Value := [.int .i64 x.kind, .int .i64 x.N, .int .i64 x.Ln, .int .u32 (x.A : Int), x.s.v, .bool x.few]
theorem as6 (x : As) : (asv x).length = 6 := rfl
def As.ok (W : World) (x : As) : Prop := x.A < 4294967296 ∧ Rd 2 W x.s (hvs x.l) ∧ (-9223372036854775808 ≤ x.N ∧ x.N ≤ 9223372036854775807)
def hopSh : ShL := .cons (.int .i64) (.cons (.int .i64) .nil)
def askSh : ShL := .cons (.int .i64) (.cons (.int .i64) (.cons (.int .i64) (.cons (.int .u32) (.cons (.slice hopSh) (.cons .bool .nil)))))
theorem asks_of {W : World} {v : Value} (h : Gd W (.slice askSh) v) : ∃ (s : SV) (l : List As), v = s.v ∧ Rd 6 W s (l.flatMap asv) ∧ l.length = s.len ∧ s.len ≤ maxLen ∧ ∀ x ∈ l, x.ok W := by
  refine rows_of (cells := asv) (sz := 6) rfl as6 (fun vs hv => ?_) h
  simp only [askSh, GdL] at hv
  obtain ⟨v1, r1, rfl, ⟨n1, rfl, _⟩, v2, r2, rfl, ⟨n2, rfl, hn2⟩, v3, r3, rfl, ⟨n3, rfl, _⟩, v4, r4, rfl, ⟨n4, rfl, hn4, hn4'⟩, v5, r5, rfl, g5, v6, r6, rfl, ⟨b6, rfl⟩, rfl⟩ := hv
  obtain ⟨s5, l5, rfl, h5, _⟩ := rows_of (cells := hv) (sz := 2) (ok := fun _ => True) rfl (fun _ => rfl) (fun vs hv => by
    simp only [hopSh, GdL] at hv
    obtain ⟨v1, r1, rfl, ⟨n1, rfl, _⟩, v2, r2, rfl, ⟨n2, rfl, _⟩, rfl⟩ := hv
    exact ⟨(n1, n2), rfl, trivial⟩) g5
  have e1 : IntKind.u32.min = 0 := rfl
  have e2 : IntKind.u32.max = 4294967295 := rfl
  have e3 : IntKind.i64.min = -9223372036854775808 := rfl
  have e4 : IntKind.i64.max = 9223372036854775807 := rfl
  obtain ⟨n4, rfl⟩ := Int.eq_ofNat_of_zero_le (show 0 ≤ n4 by omega)
  exact ⟨⟨n1, n2, n3, n4, s5, l5, b6⟩, rfl, by show n4 < _; omega, h5, hn2⟩
theorem few_right (N Ln : Int) (A : Nat) (l : List (Int × Int)) : (askEn true N Ln A l).1.1 < 4294967296 ∧ rightP (askEn true N Ln A l).1.1 (askEn true N Ln A l).1.2 = true ∧ hopsB (askEn true N Ln A l).2 = true ∧ (askEn true N Ln A l).2.length ≤ 1 := by
  refine ⟨kp_lt _ _, kp_right _ _, ?_, ?_⟩
  · show hopsB (if 0 < Int.tmod N 3 then [(Int.tmod N 3, 16)] else []) = true
    by_cases h : 0 < Int.tmod N 3
    · rw [if_pos h]
      have h3 := Int.tmod_lt_of_pos N (b := 3) (by omega)
      have : Int.tmod N 3 = 1 ∨ Int.tmod N 3 = 2 := by omega
      rcases this with h | h <;> rw [h] <;> decide
    · rw [if_neg h]; decide
  · show (if 0 < Int.tmod N 3 then [(Int.tmod N 3, (16 : Int))] else []).length ≤ 1
    split <;> simp
end Go.Proofs.Ytnfmkedblnajlaa
