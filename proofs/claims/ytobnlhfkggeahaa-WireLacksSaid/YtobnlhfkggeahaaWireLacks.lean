/-
  WireLacks: where bytes lack all is zero from then on. For any bytes and asks.
-/
import Derived.Test.YtobnlhfkggeahaaWireBack
namespace Go.Proofs.Ytobnlhfkggeahaa
set_option linter.unusedVariables false
set_option linter.unusedSimpArgs false
open Go.Sp
open Go.RowKit (Below)

theorem rawBad_of (bs : List UInt8) (n : Int) : rawOut bs true n = [] ∧ rawLeft bs true n = bs ∧ rawBad bs true n = true := by
  simp [rawOut, rawLeft, rawBad]

theorem lacks_c {W : World} {s0 s : SV} {bs : List UInt8} {l : List (Int × Int × List UInt8)} (h0 : Rd 1 W s0 (bv bs)) (hl : l.length = s.len) (hm : s.len ≤ maxLen) (hp : ∀ i x, l[i]? = some x → PartAt W s i x) :
    Calls Try.prog 4 #[s0.v, s.v] W (R4 fun r w' => r = true ∧ Below W.heap.size W w') := by
  refine F4_ok ((cut_c h0 60).mono fun e w1 h => ?_)
  obtain ⟨r1, rfl, rfl, hr1⟩ := h
  have hlen := (hr1 _ h0).len
  rw [bv_length, Nat.mul_one] at hlen
  have hl60 : (bs.take 60).length ≤ 60 := by rw [List.length_take]; omega
  refine ⟨_, rfl, (newr_c (hr1 _ h0) (by omega)).mono fun e w2 h => ?_⟩
  obtain ⟨r2, rfl, p, q, rfl, hr, hk, hpB, hqB⟩ := h
  have a2 := (Aft.refl w1).new hk
  generalize hbs : bs.take 60 = b at *
  have hrb : ∀ {w : World}, Aft w1 w → Rd 1 w r1 (bv b) := fun h => hr1 _ (h0.arg h.1)
  refine ⟨_, rfl, M.join_by (fun J => J false w2) ?_ ?_⟩
  rotate_left
  · intro J hJ
    refine M.ite_n rfl ((left_c hr).mono fun e w h => ?_)
    obtain ⟨r, rfl, rfl, rfl⟩ := h
    refine ⟨_, rfl, M.ite_n (by simp; omega) ((fine_c hr).mono fun e w h => ?_)⟩
    obtain ⟨r, rfl, rfl, rfl⟩ := h
    exact ⟨_, rfl, hJ⟩
  refine M.ite_ff ((raw_c hr _ (by omega)).mono fun e w3 h => ?_)
  obtain ⟨r3, rfl, ho3, hi3, hk3, hf3⟩ := h
  have a3 := a2.one hk3 hpB
  have ⟨e1, e2, e3⟩ := rawOut_app b [] r1.len (by omega)
  simp only [List.append_nil] at e1 e2 e3
  rw [e1] at ho3
  rw [e2, e3] at hi3
  refine ⟨_, rfl, M.join_by (fun J => J false w3) ?_ ?_⟩
  rotate_left
  · intro J hJ
    refine ⟨_, b2s_c ho3.rd, _, b2s_c (hrb a3), M.ite_n (by simp) ((left_c hi3).mono fun e w h => ?_)⟩
    obtain ⟨r, rfl, rfl, rfl⟩ := h
    refine ⟨_, rfl, M.ite_n rfl ((fine_c hi3).mono fun e w h => ?_)⟩
    obtain ⟨r, rfl, rfl, rfl⟩ := h
    exact ⟨_, rfl, hJ⟩
  have T : ∀ (w : World) (bad : Bool), IsR w p q [] bad → Aft w1 w → bad = true → IsR w p q [] true ∧ Aft w1 w := fun w bad h1 h2 h3 => ⟨h3 ▸ h1, h2⟩
  refine M.ite_ff (M.join_by (fun J => ∀ w, IsR w p q [] true → Aft w1 w → J false w) ?_ ?_)
  rotate_left
  · intro J hJ
    refine (raw_c hi3 1 (by simp)).mono fun e w4 h => ?_
    obtain ⟨r4, rfl, ho4, hi4, hk4, hf4⟩ := h
    have hl4 := ho4.rd.len
    have a4 := a3.one hk4 hpB
    refine ⟨_, rfl, M.ite_n (by simp [rawOut, rawBad, bv] at hl4; simp [← hl4]) ((fine_c hi4).mono fun e w h => ?_)⟩
    obtain ⟨r, rfl, rfl, rfl⟩ := h
    exact ⟨_, rfl, hJ _ hi4 a4⟩
  intro w5 hi5 a5
  refine M.ite_ff ?_
  unfold maxLen at hm
  refine M.loop1_by (fun x w => ∃ i : Nat, x = i ∧ i ≤ 20 ∧ IsR w p q [] true ∧ Aft w1 w) (fun x _ => (20 - x).toNat) ⟨0, rfl, by omega, hi5, a5⟩ ?_
  rintro x w J ⟨i, rfl, hi20, hr, ha⟩ hJ
  refine M.join_lt (fun hx1 hx2 => ?_) (fun hend => ?_)
  · have hil : i < l.length := by omega
    have hpi := hp i l[i] (List.getElem?_eq_getElem hil)
    obtain ⟨a, b0, hsa, hbl, hpi⟩ := hpi
    refine M.join_by (fun J => ∀ w, IsR w p q [] true → Aft w1 w → J false w) ?_ ?_
    · intro w6 hi6 a6
      refine M.ite_ff ?_
      rw [w64 (by omega) (by omega)]
      exact hJ _ _ ⟨i + 1, by omega, by omega, hi6, a6⟩ (by omega)
    intro J3 hJ3
    refine (ru8_c hr (by simp)).mono fun e w6 h => ?_
    obtain ⟨r6, rfl, hr6, hi6, hk6⟩ := h
    have a6 := ha.one hk6 hpB
    refine ⟨_, rfl, M.ite_n (by rw [hr6]; rfl) ((ru16_c (bad := true) hi6 (by simp [rawLeft, rawBad])).mono fun e w7 h => ?_)⟩
    obtain ⟨r7, rfl, hr7, hi7, hk7⟩ := h
    have a7 := a6.one hk7 hpB
    refine ⟨_, rfl, M.ite_n (by rw [hr7]; rfl) ((ru32_c (bad := true) hi7 (by simp [rawLeft, rawBad])).mono fun e w8 h => ?_)⟩
    obtain ⟨r8, rfl, hr8, hi8, hk8⟩ := h
    have a8 := a7.one hk8 hpB
    obtain ⟨c0, c1, c2, hbr⟩ := hpi _ a8.1
    refine ⟨_, rfl, M.ite_n (by rw [hr8]; rfl) ⟨a, hsa, by omega, hx1, _, c1, (raw_c (bad := true) hi8 _ (by simp [rawLeft, rawBad])).mono fun e w9 h => ?_⟩⟩
    obtain ⟨r9, rfl, ho9, hi9, hk9, _⟩ := h
    have a9 := a8.one hk9 hpB
    have hl9 := ho9.rd.len
    have hi9 : IsR w9 p q [] true := by simpa [rawLeft, rawBad] using hi9
    refine ⟨_, rfl, M.ite_n (by simp [rawOut, rawBad, bv] at hl9; simp [← hl9]) ((left_c hi9).mono fun e w h => ?_)⟩
    obtain ⟨r, rfl, rfl, rfl⟩ := h
    refine ⟨_, rfl, M.ite_n rfl ((fine_c hi9).mono fun e w h => ?_)⟩
    obtain ⟨r, rfl, rfl, rfl⟩ := h
    exact ⟨_, rfl, hJ3 _ hi9 a9⟩
  · refine known_c.mono fun e w6 h => ?_
    obtain ⟨r6, rfl, rfl, hk6⟩ := h
    exact ⟨_, rfl, rfl, (ha.new hk6).1⟩
theorem lacks_law (W : World) (args : List Value) (h : GdArgs W [(false, .cons (.slice (.cons (.int .u8) .nil)) .nil), (false, .cons (.slice partSh) .nil)] args) : Calls Try.prog 4 args.toArray W fun e W' => e = .returned (.bool true) ∧ Below W.heap.size W W' := by
  obtain ⟨v, r, rfl, h1, h2⟩ := h.one
  obtain ⟨v2, r, rfl, h3, h4⟩ := h2.one
  cases h4
  obtain ⟨s0, bs, rfl, hr, hl0, _⟩ := good_bytes h1
  obtain ⟨s, l, rfl, hl, hm, hp⟩ := parts_of h3
  exact (lacks_c hr hl hm hp).mono fun e w' ⟨b, he, hb, hw⟩ => by subst hb; exact ⟨he, hw⟩
end Go.Proofs.Ytobnlhfkggeahaa
