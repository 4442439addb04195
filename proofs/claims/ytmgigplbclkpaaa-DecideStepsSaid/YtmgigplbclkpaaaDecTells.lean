/-
  DecideTells: candidates are taken away as the document says.
-/
import Derived.Test.YtmgigplbclkpaaaDecM
namespace Go.Proofs.Ytmgigplbclkpaaa
set_option linter.unusedVariables false
set_option linter.unusedSimpArgs false
open Go.Sp
open Go.RowKit (Below)

def c00 : Cn := ⟨0, 0, 0, false, 0, SV.nil, 0, false, 0, false, 0, false, SV.nil, 0, []⟩
def c02 : Cn := ⟨0, 0, 0, false, 0, SV.nil, 0, false, 0, true, 200, false, SV.nil, 0, []⟩
def c07 : Cn := ⟨0, 0, 0, false, 0, SV.nil, 0, false, 0, false, 7, false, SV.nil, 0, []⟩
theorem best_known : bestA (Cn.vws [c00, c02]) = (1, true) := by decide +kernel
theorem better_known : betterA c02.vw c00.vw 1 = true := by decide +kernel
theorem known_c {w : World} : Calls Try.prog 11 #[] w (R11 fun r w' => r = true ∧ Keeps [] w w') := by
  have ok0 : OkD c00 := ⟨⟨by decide, by decide⟩, by decide⟩
  have ok2 : OkD c02 := ⟨⟨by decide, by decide⟩, by decide⟩
  have sn : ∀ w, Segs w SV.nil [] := fun w => ⟨Rd.nil _ _, by simp⟩
  refine F11_ok (M.new_blk (cs := c00.cells ++ c02.cells) fun b w1 hb B k1 => ?_)
  have okL : ∀ c ∈ [c00, c02], OkD c := by
    intro c hc
    simp at hc
    rcases hc with rfl | rfl
    · exact ok0
    · exact ok2
  refine (best_c (two_cns B (c := c00) (d := c02) (sn _) (sn _)) okL (by simp)).mono fun e w2 g => ?_
  obtain ⟨x, y, rfl, hxy, k2⟩ := g
  rw [best_known] at hxy
  cases hxy
  refine ⟨_, _, rfl, (best_c (cs := []) ⟨Rd.nil _ _, by simp⟩ (by simp) (by simp)).mono fun e w3 g => ?_⟩
  obtain ⟨x3, y3, rfl, hxy, k3⟩ := g
  have hn : bestA (Cn.vws []) = (0, false) := by decide +kernel
  rw [hn] at hxy
  cases hxy
  have k03 := (k1.trans k2 (by simp)).trans k3 (by simp)
  have kd := Keeps.drew [] w3
  have B3 := (B.keep k2 (by simp)).keep k3 (by simp)
  refine ⟨_, _, rfl, M.join_by (fun (J : Bool → World → Prop) => ∀ w', Keeps [] w w' → J true w') (fun w' k => ⟨rfl, k⟩) fun J hJ => M.drew_by (M.ite_y rfl (M.ite_y rfl (M.ite_y rfl ((pref_c c07).mono fun e w4 g => ?_))))⟩
  obtain ⟨r4, rfl, hr4, k4⟩ := g
  have B4 := (B3.keep kd (by simp)).keep k4 (by simp)
  have h1 : Cs w4 ((⟨b, 0, none⟩ : Addr).add ((1 : Int).toNat * 14)) 0 c02.cells := by
    rw [add_mk]; exact B4.cs 14 c02.cells rfl
  have h0 : Cs w4 ((⟨b, 0, none⟩ : Addr).add ((0 : Int).toNat * 14)) 0 c00.cells := by
    rw [add_mk]; exact B4.cs 0 c00.cells rfl
  refine ⟨_, rfl, M.ite_y (by rw [hr4]; decide) ⟨_, rfl, by omega, by show (1 : Int) < ((2 : Nat) : Int); omega, _, rfl, by omega, by show (0 : Int) < ((2 : Nat) : Int); omega, _, _, _, _, _, _, _, _, _, _, _, _, _, _, h1, _, _, _, _, _, _, _, _, _, _, _, _, _, _, h0, (better_c (c := c02) (d := c00) (sn _) (sn _) ok2.1 ok0.1 1).mono fun e w5 g => ?_⟩⟩
  obtain ⟨r5, rfl, hr5, k5⟩ := g
  rw [better_known] at hr5
  subst hr5
  exact ⟨_, rfl, hJ _ (((k03.trans kd (by simp)).trans k4 (by simp)).trans k5 (by simp))⟩
theorem cns_of {w : World} {r : SV} {cs : List Cn} (h : Own 37 14 w r (cnv cs)) (hs : ∀ c ∈ cs, OkD c ∧ ∀ w'', Keeps r.blk w w'' → Segs w'' c.path c.segs) : Cns w r cs := ⟨h.rd, fun c hc => (hs c hc).2 w (Keeps.refl _ _)⟩
theorem tells_c {W : World} {s : SV} {l : List Cn} (hl : l.length = s.len) (hp : ∀ i x, l[i]? = some x → RawAt W s i x) :
    Calls Try.prog 3 #[s.v] W (R3 fun r w' => r = true ∧ Below W.heap.size W w') := by
  refine F3_ok (M.join_by (fun (J : Bool → World → Prop) => ∀ w', Keeps [] W w' → J true w') (fun w' k => ⟨rfl, ((Aft.refl W).new k).1⟩) fun J hJ => (cands_c (Aft.refl W) hl hp false).mono fun e w1 g => ?_)
  obtain ⟨r1, rfl, cs1, o1, n1, s1, f1, w1', k1⟩ := g
  refine ⟨_, rfl, (same_c (cns_of o1 s1) (fun c hc => (s1 c hc).1) (by omega)).mono fun e w2 g => ?_⟩
  obtain ⟨r2, rfl, rfl, k2⟩ := g
  have k02 := k1.trans k2 (by simp)
  refine ⟨_, rfl, M.ite_tt ((cands_c ((Aft.refl W).new k02) hl hp true).mono fun e w3 g => ?_)⟩
  obtain ⟨r3, rfl, cs3, o3, n3, s3, f3, w3', k3⟩ := g
  refine ⟨_, rfl, (same_c (cns_of o3 s3) (fun c hc => (s3 c hc).1) (by omega)).mono fun e w4 g => ?_⟩
  obtain ⟨r4, rfl, rfl, k4⟩ := g
  refine ⟨_, rfl, M.ite_tt (known_c.mono fun e w5 g => ?_)⟩
  obtain ⟨r5, rfl, rfl, k5⟩ := g
  exact ⟨_, rfl, hJ _ (((k02.trans k3 (by simp)).trans k4 (by simp)).trans k5 (by simp))⟩
theorem tells_law (W : World) (args : List Value) (h : GdArgs W [(false, .cons (.slice rawSh) .nil)] args) : Calls Try.prog 3 args.toArray W fun e W' => e = .returned (.bool true) ∧ Below W.heap.size W W' := by
  obtain ⟨v0, r, rfl, h0, h⟩ := h.one
  cases h
  obtain ⟨s, l, rfl, hl, hm, hp⟩ := good_raws h0
  exact (tells_c hl hp).mono fun e w' ⟨b, he, hb, hw⟩ => by subst hb; exact ⟨he, hw⟩
end Go.Proofs.Ytmgigplbclkpaaa
