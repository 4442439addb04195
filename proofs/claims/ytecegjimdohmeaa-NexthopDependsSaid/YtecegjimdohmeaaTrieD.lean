/-
  Below, All, Above and Match of a table of prefixes.
-/
import Derived.Test.YtecegjimdohmeaaTrieK
namespace Go.Proofs.Ytecegjimdohmeaa
set_option linter.unusedVariables false
set_option linter.unusedSimpArgs false
open Go.Sp

/-- Where there is no node there is nothing below. -/
theorem cov_none {w : World} {D : List Nat} {p : Nat} {ad : Nat → Nat → Option Nat} {hs : Nat → Nat → Bool} {vs : Nat → Nat → Int} {c : Int} {L : Tbl} (hT : TrN w D p ad hs vs c) (hA : Abs L ad hs vs) (hL : Tab L) {a n : Nat} (hno : ad a n = none) : keysCov L (a, (n : Int)) = [] := by
  unfold keysCov
  rw [List.map_eq_nil_iff, List.filter_eq_nil_iff]
  intro x hx hc
  obtain ⟨h1, h2⟩ := hL.right x hx
  obtain ⟨h3, h4, h5⟩ := (rightP_iff _ _).1 h2
  obtain ⟨m, hm⟩ := Int.eq_ofNat_of_zero_le h3
  rw [hm] at h4 h5
  rw [Int.toNat_natCast] at h5
  have hg := hA x.1.1 m (by omega) h1 h5
  have hs1 : (tget L (x.1.1, (m : Int))).isSome = true := tget_isSome.2 ⟨x, hx, by rw [← hm]⟩
  rw [hg] at hs1
  have : ∃ b, ad x.1.1 m = some b := by
    cases h : ad x.1.1 m with
    | none => rw [h] at hs1; simp at hs1
    | some b => exact ⟨b, rfl⟩
  obtain ⟨b, hb⟩ := this
  simp only [covB, hm, Int.toNat_natCast, Bool.and_eq_true, decide_eq_true_eq, beq_iff_eq] at hc
  obtain ⟨b', hb'⟩ := hT.path hb n (by omega)
  rw [hc.2, hno] at hb'
  cases hb'

theorem keysCov_len (L : Tbl) (k : Key) : (keysCov L k).length ≤ L.length := by
  unfold keysCov
  rw [List.length_map]
  exact List.length_filter_le _ _
theorem down_c {w : World} {D : List Nat} {p : Nat} {L : Tbl} (h : TrieAt w D p L) {A m : Nat} (hA32 : A < 4294967296) (hm : m ≤ 32) :
    Calls Try.prog 60 #[.pointer (some ⟨p, 0, none⟩), .int .u32 (A : Int), .int .i64 (m : Int)] w (R60 fun r w' => Own 28 2 w' r (pvs (onWay L A (m + 1))) ∧ (∀ x ∈ r.blk, w.heap.size ≤ x) ∧ Keeps [] w w') := by
  obtain ⟨hD, ad, hs, vs, hT, hA, hL⟩ := h
  have hget : ∀ i, i ≤ 32 → (tget L (topN A i, (i : Int))).isSome = ((ad (topN A i) i).isSome && hs (topN A i) i) := by
    intro i hi
    rw [hA (topN A i) i hi (topN_lt hA32) (lowN_top _ _)]
    cases ((ad (topN A i) i).isSome && hs (topN A i) i) <;> rfl
  have hstop : ∀ i, i ≤ 32 → ad (topN A i) i = none → ∀ j, i ≤ j → j ≤ 32 → tget L (topN A j, (j : Int)) = none := by
    intro i hi hno j hij hj
    have : ad (topN A j) j = none := by
      cases hx : ad (topN A j) j with
      | none => rfl
      | some b =>
        obtain ⟨b', hb'⟩ := hT.path hx i hij
        rw [topN_topN A hij hj, hno] at hb'
        cases hb'
    have h1 := hget j hj
    rw [this] at h1
    simp at h1
    exact h1
  refine F60_ok ⟨_, rfl, M.join_by (fun J => ∀ x w', Own 28 2 w' x (pvs (onWay L A (m + 1))) → (∀ y ∈ x.blk, w.heap.size ≤ y) → Keeps [] w w' → J x w') (fun x w' h1 h2 h3 => ⟨h1, h2, h3⟩) fun J hJ => ?_⟩
  refine M.loop3_by (fun x y z w' => ∃ (i b : Nat), z = i ∧ i ≤ m ∧ y = some ⟨b, 0, none⟩ ∧ ad (topN A i) i = some b ∧ Own 28 2 w' x (pvs (onWay L A i)) ∧ (∀ k ∈ x.blk, w.heap.size ≤ k) ∧ Keeps [] w w') (fun _ _ z _ => m + 1 - z.toNat)
    ⟨0, p, rfl, by omega, rfl, by rw [topN_zero hA32]; exact hT.root, Own.nil _ _ _, by simp [SV.blk], Keeps.refl _ _⟩ ?_
  rintro x y z w1 J1 ⟨i, b, rfl, hi, rfl, hb, ho, hob, hk⟩ hJ1
  have hT1 := hT.keep hk (by simp)
  have P := hT1.node _ _ _ hb
  have hg := hget i (by omega)
  rw [hb] at hg
  simp only [Option.isSome_some, Bool.true_and] at hg
  have hol := onWay_len L A i
  refine M.join_by (fun J => ∀ x w', Own 28 2 w' x (pvs (onWay L A (i + 1))) → (∀ y ∈ x.blk, w.heap.size ≤ y) → Keeps [] w w' → J x w') ?_ ?_
  · intro x2 w2 o2 f2 k2
    refine M.ite_by (fun c => ?_) (fun c => ?_)
    · have c : i = m := by simp at c; omega
      subst c
      exact hJ _ _ o2 f2 k2
    · have c : i ≠ m := by simp at c; omega
      have hi32 : i < 32 := by omega
      have hbit := bitN_lt A i
      have kd := Keeps.drew [] w2
      have k3 := k2.trans kd (by simp)
      have hkid := (hT.keep k3 (by simp)).kid hi32 hb
      refine M.drew_by ⟨_, rfl, (bit_c hA32 hi32).mono fun e w3 g => ?_⟩
      obtain ⟨r3, rfl, rfl, rfl⟩ := g
      refine ⟨_, rfl, by omega, by omega, (ad (topN A (i + 1)) (i + 1)).map (fun b => ⟨b, 0, none⟩), by rw [show ((bitN A i : Nat) : Int).toNat * 1 = bitN A i by omega]; exact hkid, ?_⟩
      cases hx : ad (topN A (i + 1)) (i + 1) with
      | none =>
        refine M.ite_y rfl (hJ _ _ ?_ f2 k3)
        rw [onWay_none (show i + 1 ≤ m + 1 by omega) (fun j h1 h2 => hstop (i + 1) (by omega) hx j h1 (by omega))]
        exact o2.keep kd (by simp)
      | some b' =>
        refine M.ite_n rfl ?_
        rw [w64 (by omega) (by omega)]
        exact hJ1 _ _ _ _ ⟨i + 1, b', by omega, by omega, rfl, hx, o2.keep kd (by simp), f2, k3⟩ (by omega)
  · intro J2 hJ2
    rw [onWay_succ, hg] at hJ2
    refine ⟨_, rfl, hs (topN A i) i, P.cell 2, ?_⟩
    cases hh : hs (topN A i) i with
    | false =>
      rw [hh] at hJ2
      exact M.ite_ff (hJ2 _ _ (by simpa using ho) hob hk)
    | true =>
      rw [hh] at hJ2
      refine M.ite_tt ((of_c hA32 (i : Int)).mono fun e w2 g => ?_)
      obtain ⟨x2, y2, rfl, rfl, rfl, k2⟩ := g
      rw [clampN_nat (by omega)]
      obtain ⟨r3, w3, v1, v2, v3, v4⟩ := app_p (topN A i, (i : Int)) (ho.keep k2 (by simp)) (by omega)
      refine ⟨_, _, rfl, M.new_by ⟨r3, w3, v1, hJ2 _ _ v2 (fun y hy => ?_) ((hk.trans k2 (by simp)).trans v3 (fun y hy => .inr (hob y hy)))⟩⟩
      rcases v4 y hy with h | h
      · exact hob y h
      · have := hk.size; have := k2.size; omega
/-- The longest prefix that has an address, and its number. -/
def matchT (L : Tbl) (A : Nat) : Option (Key × Int) := (onWay L A 33).getLast?.map fun k => (k, (tget L k).getD 0)
theorem match_c {w : World} {D : List Nat} {p : Nat} {L : Tbl} (h : TrieAt w D p L) {A : Nat} (hA32 : A < 4294967296) :
    Calls Try.prog 56 #[.pointer (some ⟨p, 0, none⟩), .int .u32 (A : Int)] w (R56 fun x y v ok w' => (match matchT L A with
      | some m => x = (m.1.1 : Int) ∧ y = m.1.2 ∧ v = m.2 ∧ ok = true
      | none => x = 0 ∧ y = 0 ∧ v = 0 ∧ ok = false) ∧ Keeps [] w w') := by
  refine F56_ok (M.new_blk fun b2 w1 hb2 B k1 => (down_c (h.keep k1 (by simp)) hA32 (m := 32) (by omega)).mono fun e w2 g => ?_)
  obtain ⟨r2, rfl, o2, f2, k2⟩ := g
  have k02 := k1.trans k2 (by simp)
  change Own 28 2 w2 r2 (pvs (onWay L A 33)) at o2
  have hl := pf_len o2.rd
  have hol := onWay_len L A 33
  have hkey : ∀ k ∈ onWay L A 33, k.1 < 4294967296 := by
    intro k hk
    unfold onWay at hk
    rw [List.mem_map] at hk
    obtain ⟨i, _, rfl⟩ := hk
    exact topN_lt hA32
  refine ⟨_, rfl, M.ite_by (fun c => ?_) (fun c => ?_)⟩
  · have c : r2.len = 0 := by simpa using c
    have hnil : onWay L A 33 = [] := List.eq_nil_of_length_eq_zero (by omega)
    refine M.stA_blk (B.keep k2 (by simp)) rfl fun w3 B3 k3 => ⟨_, B3.cell 0, _, B3.cell 1, ?_, k02.trans k3 (by simp; omega)⟩
    rw [matchT, hnil]
    exact ⟨rfl, rfl, rfl, rfl⟩
  · have c : r2.len ≠ 0 := by simpa using c
    obtain ⟨init, q, hq⟩ : ∃ init q, onWay L A 33 = init ++ [q] := ⟨(onWay L A 33).dropLast, (onWay L A 33).getLast (by intro h0; rw [h0] at hl; simp at hl; omega), (List.dropLast_concat_getLast _).symm⟩
    have hm : matchT L A = some (q, (tget L q).getD 0) := by rw [matchT, hq]; simp
    have hlast : IntKind.i64.wrap ((r2.len : Int) - 1) = (init.length : Int) := by
      rw [w64 (by omega) (by omega)]
      rw [hq, List.length_append] at hl
      simp at hl; omega
    have hgl : (onWay L A 33)[init.length]? = some q := by rw [hq]; simp
    obtain ⟨ax, hax⟩ := o2.rd.some (by omega)
    have e := pf_at o2.rd hax hgl
    have hq32 := hkey q (by rw [hq]; simp)
    have hlt : init.length < r2.len := by rw [hl, hq]; simp
    rw [hlast]
    refine ⟨ax, hax, by omega, by omega, _, e.1, _, e.2, M.new_blk fun b21 w3 hb3 B3 k3 => M.stA_blk B3 rfl fun w4 B4 k4 => ⟨_, B4.cell 0, _, B4.cell 1, (get_c (h.keep ((k02.trans k3 (by simp)).trans k4 (by have := k02.size; simp; omega)) (by simp)) hq32 q.2).mono fun e w5 g => ?_⟩⟩
    obtain ⟨r5, ok5, rfl, rfl, rfl, k5⟩ := g
    have B5 := B4.keep k5 (by simp)
    have k25 : Keeps [] w2 w5 := (k3.trans k4 (by simp; omega)).trans k5 (by simp)
    refine ⟨_, _, rfl, _, B5.cell 0, _, B5.cell 1, M.stA_blk ((B.keep k2 (by simp)).keep k25 (by simp)) rfl fun w6 B6 k6 => ⟨_, B6.cell 0, _, B6.cell 1, ?_, (k02.trans k25 (by simp)).trans k6 (by simp; omega)⟩⟩
    rw [hm]
    exact ⟨rfl, rfl, rfl, rfl⟩
end Go.Proofs.Ytecegjimdohmeaa
