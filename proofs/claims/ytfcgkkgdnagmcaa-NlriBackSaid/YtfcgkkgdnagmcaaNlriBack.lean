/-
  NlriBack: prefixes come back, in their order; each has as many bytes as its size; two lists are both.
-/
import Derived.Test.YtfcgkkgdnagmcaaNlriP
namespace Go.Proofs.Ytfcgkkgdnagmcaa
set_option linter.unusedVariables false
set_option linter.unusedSimpArgs false
open Go.Sp
open Go.RowKit (Below)

theorem sizeP_le (x : Nat × Int) : sizeP x ≤ 5 ∨ 32 < x.2 := by
  unfold sizeP
  split
  · rename_i h
    obtain ⟨h0, h1, _⟩ := (rightP_iff _ _).1 h
    left; omega
  · left; omega
theorem back_c {W : World} (p2 : Int) {s0 s1 : SV} {zs ns : List Int} (h0 : Rd 1 W s0 (zs.map (Value.int .u32))) (hz : ∀ z ∈ zs, 0 ≤ z ∧ z < 4294967296) (h1 : Rd 1 W s1 (ns.map (Value.int .i64))) :
    Calls Try.prog 5 #[s0.v, s1.v, .int .i64 p2] W (R5 fun r w' => r = true ∧ Below W.heap.size W w') := by
  refine F5_ok ((prefixes_c h0 hz h1).mono fun e w1 g => ?_)
  obtain ⟨r1, rfl, l0, o1, l40, hlt, f1, k1⟩ := g
  refine ⟨_, rfl, (tame_c o1.rd hlt (by omega)).mono fun e w2 g => ?_⟩
  obtain ⟨r2, rfl, l, o2, hml, hmt, f2, k2⟩ := g
  have hL : ∀ x ∈ l, x.1 < 4294967296 := fun x hx => (hmt x hx).1
  have hR : ∀ x ∈ l, rightP x.1 x.2 = true := fun x hx => (hmt x hx).2
  have hr2 := pf_len o2.rd
  refine ⟨_, rfl, (enc_c o2.rd hL (by omega)).mono fun e w3 g => ?_⟩
  obtain ⟨r3, e3, rfl, h3, _, k3⟩ := g
  obtain ⟨rfl, o3, l3, f3⟩ := h3 hR
  have hel := encB_le l
  refine ⟨_, _, rfl, (dec_c o3.rd (by omega)).mono fun e w4 g => ?_⟩
  obtain ⟨r4, ok4, rfl, h4, k4⟩ := g
  rw [dec_enc hmt] at h4
  obtain ⟨rfl, o4, f4⟩ := h4
  have k24 := k3.trans k4 (by simp)
  refine ⟨_, _, rfl, ?_⟩
  have hsz5 : ∀ x ∈ l, sizeP x ≤ 5 := fun x hx => by
    have h := (rightP_iff _ _).1 (hR x hx)
    rcases sizeP_le x with h' | h'
    · exact h'
    · omega
  have hsl : ∀ i, sizeL (l.take i) ≤ 5 * i := by
    intro i
    have : ∀ m : List (Nat × Int), (∀ x ∈ m, sizeP x ≤ 5) → sizeL m ≤ 5 * m.length := by
      intro m
      induction m with
      | nil => intro _; simp [sizeL]
      | cons x m ih =>
        intro hm
        have h1 := hm x (by simp)
        have h2 := ih (fun y hy => hm y (by simp [hy]))
        simp only [sizeL, List.map_cons, List.sum_cons, List.length_cons] at *
        omega
    have h5 := this (l.take i) (fun x hx => hsz5 x (List.mem_of_mem_take hx))
    rw [List.length_take] at h5
    omega
  refine M.loop2_by (fun x y w' => ∃ i : Nat, y = i ∧ i ≤ l.length ∧ x = (sizeL (l.take i) : Int) ∧ Keeps [] w2 w' ∧ Keeps [] w4 w') (fun _ y _ => l.length - y.toNat) ⟨0, rfl, by omega, by simp [sizeL], k24, Keeps.refl _ _⟩ ?_
  rintro x y w5 J ⟨i, rfl, hi, rfl, k5, k45⟩ hJ
  have hsi := hsl i
  refine M.ite_by (fun c => ?_) (fun c => ?_)
  · have c := of_decide_eq_true c
    have il : i < l.length := by omega
    obtain ⟨a, ha⟩ := o2.rd.some (by omega)
    have e1 := pf_at (o2.keep k5 (by simp)).rd ha (List.getElem?_eq_getElem il)
    refine ⟨a, ha, by omega, c, _, e1.1, _, e1.2, (size_c (hL _ (List.getElem_mem il))).mono fun e w6 g => ?_⟩
    obtain ⟨r6, rfl, rfl, k6⟩ := g
    have h5 := hsz5 _ (List.getElem_mem il)
    refine ⟨_, rfl, ?_⟩
    dsimp only
    rw [w64 (n := (i : Int) + 1) (by omega) (by omega), w64 (by omega) (by omega)]
    refine hJ _ _ _ ⟨i + 1, by omega, by omega, ?_, k5.trans k6 (by simp), k45.trans k6 (by simp)⟩ (by omega)
    rw [List.take_succ_eq_append_getElem il]
    unfold sizeL
    rw [List.map_append, List.sum_append]
    simp only [List.map_cons, List.map_nil, List.sum_cons, List.sum_nil]
    omega
  · have c := of_decide_eq_false c
    have hil : i = l.length := by omega
    subst hil
    rw [List.take_length]
    refine (within_c p2 0 _ (by omega) (by omega) (by omega)).mono fun e w6 g => ?_
    obtain ⟨r6, rfl, _, g0, g9, rfl⟩ := g
    obtain ⟨j, rfl⟩ := Int.eq_ofNat_of_zero_le g0
    have hjl : j ≤ l.length := by omega
    have o5 := o2.keep k5 (by simp)
    have hc5 := o5.rd.cap
    have s1' := o5.rd.sub (l := 0) (u := j) (by omega) (by omega)
    simp only [Nat.zero_mul, List.drop_zero, Nat.sub_zero, pvs_take] at s1'
    refine ⟨_, rfl, by omega, by omega, by omega, (enc_c s1' (fun x hx => hL x (List.mem_of_mem_take hx)) (by rw [List.length_take]; omega)).mono fun e w7 g => ?_⟩
    obtain ⟨r7, e7, rfl, h7, _, k7⟩ := g
    obtain ⟨rfl, o7, l7, f7⟩ := h7 (fun x hx => hR x (List.mem_of_mem_take hx))
    have o5' := o5.keep k7 (by simp)
    have s2' := o5'.rd.sub (l := j) (u := r2.len) (by omega) (by omega)
    rw [pvs_drop, pvs_take, List.take_of_length_le (by rw [List.length_drop]; omega)] at s2'
    refine ⟨_, _, rfl, by omega, by omega, by omega, (enc_c s2' (fun x hx => hL x (List.mem_of_mem_drop hx)) (by rw [List.length_drop]; omega)).mono fun e w8 g => ?_⟩
    obtain ⟨r8, e8, rfl, h8, _, k8⟩ := g
    obtain ⟨rfl, o8, l8, f8⟩ := h8 (fun x hx => hR x (List.mem_of_mem_drop hx))
    have k68 := k7.trans k8 (by simp)
    have k28 := k5.trans k68 (by simp)
    have k48 := k45.trans k68 (by simp)
    have k08 := (k1.trans k2 (by simp)).trans k28 (by simp)
    refine ⟨_, _, rfl, M.join_by (fun J => ∀ w, Keeps [] W w → J true w) (fun w h => ⟨rfl, ((Aft.refl W).new h).1⟩) fun J hJ => M.ite_y rfl (M.ite_tt ((samep_c (o5'.keep k8 (by simp)).rd (o4.keep k48 (by simp)).rd (by omega)).mono fun e w9 g => ?_))⟩
    obtain ⟨r9, rfl, rfl, k9⟩ := g
    refine ⟨_, rfl, M.ite_y (by simp) (M.ite_y ?_ (M.ite_y rfl (M.ite_y rfl ⟨_, b2s_c ((o7.keep k8 (by simp)).keep k9 (by simp)).rd, _, b2s_c (o8.keep k9 (by simp)).rd, ?_, _, b2s_c (((o3.keep k4 (by simp)).keep k48 (by simp)).keep k9 (by simp)).rd, M.ite_y ?_ (known_c.mono fun e w10 g => ?_)⟩)))⟩
    · rw [l3, enc_size hR]; simp
    · have h1 := encB_le (l.take j)
      have h2 := encB_le (l.drop j)
      rw [List.length_take] at h1
      rw [List.length_drop] at h2
      simp only [baOf, ByteArray.size, List.size_toArray]
      omega
    · have e10 : baOf (encB (l.take j)) ++ baOf (encB (l.drop j)) = baOf (encB l) := by
        rw [← List.take_append_drop j l, enc_app, List.take_append_drop j l]
        apply ByteArray.ext
        simp [baOf]
      rw [e10]; simp
    · obtain ⟨r10, rfl, rfl, k10⟩ := g
      exact ⟨_, rfl, hJ _ ((k08.trans k9 (by simp)).trans k10 (by simp))⟩
theorem back_law (W : World) (args : List Value) (h : GdArgs W [(false, .cons (.slice (.cons (.int .u32) .nil)) .nil), (false, .cons (.slice (.cons (.int .i64) .nil)) .nil), (false, .cons (.int .i64) .nil)] args) : Calls Try.prog 5 args.toArray W fun e W' => e = .returned (.bool true) ∧ Below W.heap.size W W' := by
  obtain ⟨v0, r, rfl, h0, h⟩ := h.one
  obtain ⟨v1, r, rfl, h1, h⟩ := h.one
  obtain ⟨v3, r, rfl, h3, h⟩ := h.one
  cases h
  obtain ⟨s0, zs, rfl, r0, _, _, hz⟩ := good_ints h0
  obtain ⟨s1, ns, rfl, r1, _, _, _⟩ := good_ints h1
  obtain ⟨n3, rfl, _⟩ := good_int h3
  have e1 : IntKind.u32.min = 0 := rfl
  have e2 : IntKind.u32.max = 4294967295 := rfl
  exact (back_c n3 r0 (fun z hz' => by have := hz z hz'; omega) r1).mono fun e w' ⟨b, he, hb, hw⟩ => by subst hb; exact ⟨he, hw⟩
end Go.Proofs.Ytfcgkkgdnagmcaa
