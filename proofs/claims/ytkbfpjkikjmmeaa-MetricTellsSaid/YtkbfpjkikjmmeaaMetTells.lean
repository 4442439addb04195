/-
  MetricTells: costs and shares are reckoned as the document says, for any floats.
-/
import Derived.Test.YtkbfpjkikjmmeaaMetL
import Derived.Test.YtkbfpjkikjmmeaaSpRows
namespace Go.Proofs.Ytkbfpjkikjmmeaa
set_option linter.unusedVariables false
set_option linter.unusedSimpArgs false
open Go.Sp
open Go.RowKit (Below)

theorem fv_one (l : List Nat) : ∀ u ∈ fv l, u.oneCell' = true := by
  intro u hu
  obtain ⟨x, _, rfl⟩ := List.mem_map.1 hu
  rfl
theorem mtells_c {W : World} {s : SV} {l : List Nat} {a b u : Nat} {n : Int} (ha : a < 18446744073709551616) (hb : b < 18446744073709551616) (hu : u < 18446744073709551616) (hs : Rd 1 W s (fv l)) (hl : ∀ x ∈ l, x < 18446744073709551616) :
    Calls Try.prog 6 #[.float .f64 a, .float .f64 b, .int .u64 (u : Int), s.v, .int .i64 n] W (R6 fun r w' => r = true ∧ Below W.heap.size W w') := by
  have hlen := fv_len hs
  refine F6_ok (M.join_by (fun (J : SV → World → Prop) => ∀ (s' : SV) (l' : List Nat), Rd 1 W s' (fv l') → (∀ x ∈ l', x < 18446744073709551616) → l'.length ≤ 30 → J s' W) (fun s' l' hs hl hn => ?_) fun J hJ => M.ite_by (fun c => ?_) (fun c => ?_))
  rotate_left
  · have c := of_decide_eq_true c
    have hcap := hs.cap
    exact ⟨by omega, by omega, by omega, hJ _ _ (fv_sub hs (n := 30) (by omega)) (fun x hx => hl x (List.mem_of_mem_take hx)) (by rw [List.length_take]; omega)⟩
  · have c := of_decide_eq_false c
    exact hJ _ _ hs hl (by omega)
  rw [Int.toNat_natCast]
  refine (mof_c u).mono fun e w1 g => ?_
  obtain ⟨c1, ok1, rfl, hc1, hok1, hw⟩ := g
  obtain rfl := hw.symm
  refine ⟨_, _, rfl, (rmof_c u).mono fun e w1 g => ?_⟩
  obtain ⟨c2, ok2, rfl, hc2, hok2, hw⟩ := g
  obtain rfl := hw.symm
  rw [← hc1] at hc2
  rw [← hok1] at hok2
  subst hc2 hok2
  refine ⟨_, _, rfl, M.join_by (fun (J : Bool → World → Prop) => ∀ w', Aft W w' → J true w') (fun w' h => ⟨rfl, h.1⟩) fun J hJ => (fsame_c ha hb).mono fun e w1 g => ?_⟩
  obtain ⟨r1, rfl, rfl, hw⟩ := g
  obtain rfl := hw.symm
  refine ⟨_, rfl, M.ite_tt ((fsame_c hu ha).mono fun e w1 g => ?_)⟩
  obtain ⟨r1, rfl, rfl, hw⟩ := g
  obtain rfl := hw.symm
  refine ⟨_, rfl, M.ite_tt ((fbits_c _ _).mono fun e w1 g => ?_)⟩
  obtain ⟨r1, rfl, rfl, hw⟩ := g
  obtain rfl := hw.symm
  refine ⟨_, rfl, M.ite_y (by simp) (M.ite_y (by simp) ((shares_c hs hl (by omega) n).mono fun e w2 g => ?_))⟩
  obtain ⟨r2, rfl, rd2, f2, k2⟩ := g
  refine ⟨_, rfl, (rshares_c (hs.keep k2 (by simp)) hl (by omega) n).mono fun e w3 g => ?_⟩
  obtain ⟨r3, rfl, rd3, f3, k3⟩ := g
  have hsl := sharesB_len l' n
  refine ⟨_, rfl, (samei_c (rd2.keep k3 (by simp)) rd3 (by omega)).mono fun e w4 g => ?_⟩
  obtain ⟨r4, rfl, rfl, k4⟩ := g
  have k04 := (k2.trans k3 (by simp)).trans k4 (by simp)
  have hal : ∀ x ∈ [u, a] ++ l', x < 18446744073709551616 := by
    intro x hx
    simp only [List.cons_append, List.nil_append, List.mem_cons] at hx
    rcases hx with rfl | rfl | hx
    · exact hu
    · exact ha
    · exact hl x hx
  have hall : ([u, a] ++ l').length ≤ 60 := by simp; omega
  have hll := fv_len hs
  refine ⟨_, rfl, M.ite_y (by simp) (newn_k (n := 2) (sz := 1) (cs := fv [u, a]) rfl (by omega) k04 fun b5 w5 hb5 _ o5 k5 k05 => ?_)⟩
  have h04 := k04.size
  refine app_k floSl floEl k05 (s := ⟨some ⟨b5, 0, none⟩, 2, 2⟩) (by simp [SV.blk]; omega) o5 (hs.keep k05 (by simp)) (fv_one _) (by simp only []; omega) fun r6 w6 o6 n6 f6 _ k06 => ?_
  have o6 : Own 26 1 w6 r6 (fv ([u, a] ++ l')) := by rw [show fv ([u, a] ++ l') = fv [u, a] ++ fv l' by simp [fv]]; exact o6
  refine (shares_c o6.rd hal hall 16).mono fun e w7 g => ?_
  obtain ⟨r7, rfl, rd7, f7, k7⟩ := g
  have k07 := k06.trans k7 (by simp)
  refine ⟨_, rfl, newn_k (n := 2) (sz := 1) (cs := fv [u, a]) rfl (by omega) k07 fun b8 w8 hb8 _ o8 k8 k08 => ?_⟩
  have h07 := k07.size
  refine app_k floSl floEl k08 (s := ⟨some ⟨b8, 0, none⟩, 2, 2⟩) (by simp [SV.blk]; omega) o8 (hs.keep k08 (by simp)) (fv_one _) (by simp only []; omega) fun r9 w9 o9 n9 f9 k89 k09 => ?_
  have o9 : Own 26 1 w9 r9 (fv ([u, a] ++ l')) := by rw [show fv ([u, a] ++ l') = fv [u, a] ++ fv l' by simp [fv]]; exact o9
  have rd9 := (rd7.keep k8 (by simp)).keep' k89 (fun hne y hy h => by
    have := rd7.blk_lt hne y hy
    simp [SV.blk] at h; omega)
  refine (rshares_c o9.rd hal hall 16).mono fun e w10 g => ?_
  obtain ⟨r10, rfl, rd10, f10, k10⟩ := g
  have hsl2 := sharesB_len ([u, a] ++ l') 16
  refine ⟨_, rfl, (samei_c (rd9.keep k10 (by simp)) rd10 (by omega)).mono fun e w11 g => ?_⟩
  obtain ⟨r11, rfl, rfl, k11⟩ := g
  refine ⟨_, rfl, M.ite_y (by simp) ((mknown_a (((Aft.refl W).new k09).new (k10.trans k11 (by simp)))).mono fun e w12 g => ?_)⟩
  obtain ⟨r12, rfl, rfl, a12⟩ := g
  exact ⟨_, rfl, hJ _ a12⟩
theorem mtells_law (W : World) (args : List Value) (h : GdArgs W [(false, .cons .flo .nil), (false, .cons .flo .nil), (false, .cons (.int .u64) .nil), (false, .cons (.slice (.cons .flo .nil)) .nil), (false, .cons (.int .i64) .nil)] args) : Calls Try.prog 6 args.toArray W fun e W' => e = .returned (.bool true) ∧ Below W.heap.size W W' := by
  obtain ⟨v0, r, rfl, h0, h⟩ := h.one
  obtain ⟨v1, r, rfl, h1, h⟩ := h.one
  obtain ⟨v2, r, rfl, h2, h⟩ := h.one
  obtain ⟨v3, r, rfl, h3, h⟩ := h.one
  obtain ⟨v4, r, rfl, h4, h⟩ := h.one
  cases h
  obtain ⟨a, rfl, ha⟩ := h0
  obtain ⟨b, rfl, hb⟩ := h1
  obtain ⟨u, rfl, hu1, hu2⟩ := good_int h2
  have e1 : IntKind.u64.min = 0 := rfl
  have e2 : IntKind.u64.max = 18446744073709551615 := rfl
  obtain ⟨u, rfl⟩ := Int.eq_ofNat_of_zero_le (show 0 ≤ u by omega)
  obtain ⟨s, l, rfl, hs, _, hm, _, hl⟩ := flos_of h3
  obtain ⟨n, rfl, _⟩ := good_int h4
  exact (mtells_c ha hb (by omega) hs hl).mono fun e w' ⟨b, he, hb, hw⟩ => by subst hb; exact ⟨he, hw⟩
end Go.Proofs.Ytkbfpjkikjmmeaa
