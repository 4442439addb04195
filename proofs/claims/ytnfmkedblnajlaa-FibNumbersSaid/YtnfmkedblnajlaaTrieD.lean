/-
  Below, All, Above and Match of a table of prefixes.
-/
import Derived.Test.YtnfmkedblnajlaaTrieK
namespace Go.Proofs.Ytnfmkedblnajlaa
set_option linter.unusedVariables false
set_option linter.unusedSimpArgs false
open Go.Sp

theorem half_c {w : World} {a n : Nat} (ha : a < 4294967296) (hn : n ≤ 32) (hl : lowN a n = 0) (high : Bool) :
    Calls Try.prog 54 #[.agg #[.int .u32 (a : Int), .int .i64 (n : Int)], .bool high] w (R54 fun x y ok w' => (if n < 32 then x = ((if high then a + 2 ^ (31 - n) else a : Nat) : Int) ∧ y = ((n + 1 : Nat) : Int) ∧ ok = true else x = 0 ∧ y = 0 ∧ ok = false) ∧ Keeps [] w w') := by
  have hR : rightP a (n : Int) = true := by rw [rightP_iff]; exact ⟨by omega, by omega, by rw [Int.toNat_natCast]; exact hl⟩
  refine F54_ok (M.new_blk fun b w1 hb B k1 => M.new_blk fun b4 w2 hb4 B4 k2 => ?_)
  have hlt1 := B.lt
  have B := B.keep k2 (by simp)
  have hlt := B.lt
  have hlt4 := B4.lt
  have k02 := k1.trans k2 (by simp)
  have hne : b ≠ b4 := by omega
  have hb1 := k1.size
  refine M.join_by (fun J => ∀ w', Keeps [] w2 w' → J (decide (¬ n < 32)) w') (fun w3 k3 => ?_) fun J hJ => ⟨_, B.cell 0, _, B.cell 1, (right_c ha (n : Int)).mono fun e w3 g => ?_⟩
  · have B3 := B.keep k3 (by simp)
    have C3 := B4.keep k3 (by simp)
    have k03 := k02.trans k3 (by simp)
    by_cases hn2 : n < 32
    · rw [decide_eq_false (by omega)]
      simp only [if_pos hn2]
      refine M.ite_ff ⟨_, B3.cell 0, M.join_by (fun J => J ((if high then a + 2 ^ (31 - n) else a : Nat) : Int) w3) ?_ fun J hJ => ?_⟩
      · refine ⟨_, B3.cell 1, M.stA_blk C3 rfl fun w4 C4 k4 => ⟨_, C4.cell 0, _, C4.cell 1, ⟨rfl, ?_, trivial⟩, k03.trans k4 (by simp; omega)⟩⟩
        rw [w64 (by omega) (by omega)]; omega
      · cases high with
        | true =>
          refine M.ite_tt ⟨_, B3.cell 1, ?_⟩
          dsimp only
          rw [w64 (by omega) (by omega), show (31 : Int) - (n : Int) = ((31 - n : Nat) : Int) by omega, or_half ha hl hn2]
          exact ⟨by omega, hJ⟩
        | false => exact M.ite_ff hJ
    · rw [decide_eq_true (by omega)]
      simp only [if_neg hn2]
      exact M.ite_tt (M.stA_blk C3 rfl fun w4 C4 k4 => ⟨_, C4.cell 0, _, C4.cell 1, ⟨rfl, rfl, trivial⟩, k03.trans k4 (by simp; omega)⟩)
  · obtain ⟨r3, rfl, rfl, k3⟩ := g
    rw [hR]
    refine ⟨_, rfl, M.ite_ff ⟨_, (B.keep k3 (by simp)).cell 1, ?_⟩⟩
    have := hJ _ k3
    have e : ((n : Int) == 32) = decide (¬ n < 32) := by
      by_cases h : n < 32
      · rw [decide_eq_false (by omega)]; simp; omega
      · rw [decide_eq_true h]; simp; omega
    dsimp only
    rw [e]; exact this

/-- Where there is no node there is nothing below. -/
theorem cov_none {w : World} {D : List Nat} {p : Nat} {ad : Nat → Nat → Option Nat} {hs : Nat → Nat → Bool} {vs : Nat → Nat → Int} {c : Int} {L : Tbl} (hT : TrN w D p ad hs vs c) (hA : Abs L ad hs vs) (hL : Tab L) {a n : Nat} (hno : ad a n = none) : keysCov L (a, (n : Int)) = [] := by
  unfold keysCov
  rw [List.map_eq_nil_iff, List.filter_eq_nil_iff]
  intro x hx hc
  obtain ⟨h1, h2⟩ := hL.right x hx
  obtain ⟨h3, h4, h5⟩ := (rightP_iff _ _).1 h2
  obtain ⟨m, hm⟩ := Int.eq_ofNat_of_zero_le h3
  rw [hm] at h4 h5
  rw [Int.toNat_natCast] at h5
  have hg := hA x.1.1 m (by omega) h1 h5
  have hs1 : (tget L (x.1.1, (m : Int))).isSome = true := tget_isSome.2 ⟨x, hx, by rw [← hm]⟩
  rw [hg] at hs1
  have : ∃ b, ad x.1.1 m = some b := by
    cases h : ad x.1.1 m with
    | none => rw [h] at hs1; simp at hs1
    | some b => exact ⟨b, rfl⟩
  obtain ⟨b, hb⟩ := this
  simp only [covB, hm, Int.toNat_natCast, Bool.and_eq_true, decide_eq_true_eq, beq_iff_eq] at hc
  obtain ⟨b', hb'⟩ := hT.path hb n (by omega)
  rw [hc.2, hno] at hb'
  cases hb'

theorem keysCov_len (L : Tbl) (k : Key) : (keysCov L k).length ≤ L.length := by
  unfold keysCov
  rw [List.length_map]
  exact List.length_filter_le _ _
/-- What below does at one node. -/
def BelowAt (D : List Nat) (p : Nat) (ad : Nat → Nat → Option Nat) (hs : Nat → Nat → Bool) (vs : Nat → Nat → Int) (c : Int) (L : Tbl) (n : Nat) : Prop :=
  ∀ (w : World) (a : Nat) (s : SV) (out : List Key), TrN w D p ad hs vs c → (∀ x ∈ D, x < w.heap.size) → a < 4294967296 → lowN a n = 0 → Own 33 2 w s (pvs out) → (∀ x ∈ s.blk, x ∉ D) → out.length ≤ 1000000000 + n * 2000000 →
    Calls Try.prog 53 #[.pointer ((ad a n).map fun b => ⟨b, 0, none⟩), .agg #[.int .u32 (a : Int), .int .i64 (n : Int)], s.v] w (R53 fun r w' => Own 33 2 w' r (pvs (out ++ keysCov L (a, (n : Int)))) ∧ Keeps s.blk w w' ∧ (∀ x ∈ r.blk, x ∈ s.blk ∨ w.heap.size ≤ x))
theorem below_step {D : List Nat} {p : Nat} {ad : Nat → Nat → Option Nat} {hs : Nat → Nat → Bool} {vs : Nat → Nat → Int} {c : Int} {L : Tbl} (hA : Abs L ad hs vs) (hL : Tab L) (hlen : L.length ≤ 1000000) {n : Nat} (hn : n ≤ 32) (ih : n < 32 → BelowAt D p ad hs vs c L (n + 1)) : BelowAt D p ad hs vs c L n := by
  intro w a s out hT hD ha hl ho hsD hout
  refine F53_ok (M.new_blk fun b2 w1 hb2 B k1 => ?_)
  have hb2lt := B.lt
  have hos := ho.lt
  have ho1 := ho.keep k1 (by simp)
  have hT1 := hT.keep k1 (by simp)
  have hs1 := k1.size
  have hclen := keysCov_len L (a, (n : Int))
  cases hb : ad a n with
  | none =>
    refine M.ite_y rfl ?_
    rw [cov_none hT hA hL hb, List.append_nil]
    exact ⟨ho1, k1.up, fun x hx => .inl hx⟩
  | some b =>
    have P1 := hT1.node _ _ _ hb
    have hbD := hT1.foot _ _ _ hb
    have hget := hA a n hn ha hl
    rw [hb] at hget
    simp only [Option.isSome_some, Bool.true_and] at hget
    have hsome : (tget L (a, (n : Int))).isSome = hs a n := by rw [hget]; cases hs a n <;> rfl
    have hkc : keysCov L (a, (n : Int)) = (if hs a n then [(a, (n : Int))] else []) ++ (if n < 32 then keysCov L (a, ((n + 1 : Nat) : Int)) ++ keysCov L (a + 2 ^ (31 - n), ((n + 1 : Nat) : Int)) else []) := by
      by_cases h32 : n < 32
      · rw [cov_keys hL h32 hl, hsome, if_pos h32]
      · obtain rfl : n = 32 := by omega
        rw [cov_keys32 hL, hsome, if_neg h32, List.append_nil]
    refine M.ite_n rfl (M.join_by (fun J => ∀ x w', Own 33 2 w' x (pvs (out ++ (if hs a n then [(a, (n : Int))] else []))) → Keeps s.blk w1 w' → (∀ y ∈ x.blk, y ∈ s.blk ∨ w1.heap.size ≤ y) → J x w') ?_ ?_)
    rotate_left
    · intro J hJ
      refine ⟨_, rfl, hs a n, P1.cell 2, ?_⟩
      cases hh : hs a n with
      | true =>
        rw [hh] at hJ
        obtain ⟨r3, w3, v1, v2, v3, v4⟩ := app_p (a, (n : Int)) ho1 (by omega)
        exact M.ite_tt ⟨_, B.cell 0, _, B.cell 1, M.new_by ⟨r3, w3, v1, hJ _ _ v2 v3 v4⟩⟩
      | false =>
        rw [hh] at hJ
        exact M.ite_ff (hJ _ _ (by simpa using ho1) (Keeps.refl _ _) (fun y hy => .inl hy))
    · intro x5 w5 o5 k5 f5
      have hself : (if hs a n then [(a, (n : Int))] else ([] : List Key)).length ≤ 1 := by split <;> simp
      have hlk := congrArg List.length hkc
      generalize hS : (if hs a n then [(a, (n : Int))] else ([] : List Key)) = S at *
      refine M.new_blk fun b28 w6 hb28 B28 k6 => ?_
      have hb28lt := B28.lt
      have hs5 := k5.size
      have k06 : Keeps s.blk w w6 := (k1.up.and k5).and k6.up
      have hb2s : b2 ∉ s.blk := fun hx => by have := hos _ hx; omega
      have hb28s : b28 ∉ s.blk := fun hx => by have := hos _ hx; omega
      have B6 := (B.keep k5 hb2s).keep k6 (by simp)
      refine M.loop2_by (fun x y w' => ∃ i : Nat, y = i ∧ i ≤ 2 ∧ Own 33 2 w' x (pvs (out ++ S ++ (if n < 32 then (if i = 0 then [] else if i = 1 then keysCov L (a, ((n + 1 : Nat) : Int)) else keysCov L (a, ((n + 1 : Nat) : Int)) ++ keysCov L (a + 2 ^ (31 - n), ((n + 1 : Nat) : Int))) else []))) ∧ (∀ y ∈ x.blk, (y ∈ s.blk ∨ w1.heap.size ≤ y) ∧ y ≠ b28 ∧ y ≠ b2 ∧ y ∉ D) ∧ Blk w' b28 4 [.bool false, .bool true] ∧ Blk w' b2 33 [.int .u32 (a : Int), .int .i64 (n : Int)] ∧ Keeps s.blk w w' ∧ w6.heap.size ≤ w'.heap.size) (fun _ y _ => 2 - y.toNat)
        ⟨0, rfl, by omega, ?_, ?_, B28, B6, k06, Nat.le_refl _⟩ ?_
      · simpa using o5.keep k6 (by simp)
      · intro y hy
        have hylt := o5.lt y hy
        have h1 := f5 y hy
        refine ⟨h1, by omega, ?_, ?_⟩
        · rcases h1 with h | h
          · have := hos y h; omega
          · omega
        · rcases h1 with h | h
          · exact hsD y h
          · intro hd; have := hD y hd; omega
      rintro x y w7 J ⟨i, rfl, hi, o7, f7, B28', B2', k07, hw7⟩ hJ
      refine M.ite_by (fun c1 => ?_) (fun c1 => ?_)
      · have c1 : (i : Int) < 2 := of_decide_eq_true c1
        have hi2 : i = 0 ∨ i = 1 := by omega
        have hcell : w7.cell? ((⟨b28, 0, none⟩ : Addr).add ((i : Int).toNat * 1)) = some (.bool (decide (i = 1))) := by
          rcases hi2 with rfl | rfl
          · exact B28'.cell 0
          · exact B28'.cell 1
        refine M.join_by (fun J2 => ∀ x w', Own 33 2 w' x (pvs (out ++ S ++ (if n < 32 then (if i + 1 = 0 then [] else if i + 1 = 1 then keysCov L (a, ((n + 1 : Nat) : Int)) else keysCov L (a, ((n + 1 : Nat) : Int)) ++ keysCov L (a + 2 ^ (31 - n), ((n + 1 : Nat) : Int))) else []))) → (∀ y ∈ x.blk, (y ∈ s.blk ∨ w1.heap.size ≤ y) ∧ y ≠ b28 ∧ y ≠ b2 ∧ y ∉ D) → Blk w' b28 4 [.bool false, .bool true] → Blk w' b2 33 [.int .u32 (a : Int), .int .i64 (n : Int)] → Keeps s.blk w w' → w6.heap.size ≤ w'.heap.size → J2 x w') ?_ ?_
        · intro x8 w8 h1 h2 h3 h4 h5 h6
          rw [w64 (by omega) (by omega)]
          exact hJ _ _ _ ⟨i + 1, by omega, by omega, h1, h2, h3, h4, h5, h6⟩ (by omega)
        · intro J2 hJ2
          refine ⟨_, rfl, by omega, c1, _, hcell, _, B2'.cell 0, _, B2'.cell 1, (half_c ha hn hl _).mono fun e w8 g => ?_⟩
          obtain ⟨x8, y8, ok8, rfl, h8, k8⟩ := g
          refine ⟨_, _, _, rfl, M.new_blk fun b63 w9 hb63 B63 k9 => M.stA_blk B63 rfl fun w10 B10 k10 => ?_⟩
          have k710 : Keeps [] w7 w10 := (k8.trans k9 (by simp)).trans k10 (by have := k8.size; simp; omega)
          have hs710 := k710.size
          by_cases h32 : n < 32
          · rw [if_pos h32] at h8
            obtain ⟨rfl, rfl, rfl⟩ := h8
            have kd := Keeps.drew [] w10
            have k711 := k710.trans kd (by simp)
            have k011 := k07.and k711.up
            have hT11 := (hT.keep k011 (fun x hx hxs => hsD x hxs hx))
            have P11 := hT11.node _ _ _ hb
            have hlow := lowN_half hl h32
            have hhl := half_lt ha hl h32
            have hkid : w10.drew.cell? ((⟨b, 0, none⟩ : Addr).add ((i : Int).toNat * 1)) = some (.pointer ((ad (if decide (i = 1) then a + 2 ^ (31 - n) else a) (n + 1)).map fun b => ⟨b, 0, none⟩)) := by
              rcases hi2 with rfl | rfl
              · exact P11.cell 0
              · exact P11.cell 1
            have hk1 := keysCov_len L (a, ((n + 1 : Nat) : Int))
            rw [if_pos h32, List.length_append, List.length_append] at hlk
            refine M.ite_tt (M.drew_by ⟨_, rfl, by omega, c1, _, hkid, _, (B10.keep kd (by simp)).cell 0, _, (B10.keep kd (by simp)).cell 1, (ih h32 w10.drew (if decide (i = 1) then a + 2 ^ (31 - n) else a) x _ hT11 (fun x hx => Nat.lt_of_lt_of_le (hD x hx) k011.size) ?_ ?_ (o7.keep k711 (by simp)) (fun y hy => (f7 y hy).2.2.2) ?_).mono fun e w12 g => ?_⟩)
            · rcases hi2 with rfl | rfl
              · exact ha
              · exact hhl
            · rcases hi2 with rfl | rfl
              · exact hlow.1
              · exact hlow.2
            · rw [if_pos h32]
              rcases hi2 with rfl | rfl
              · simp only [if_true, List.append_nil, List.length_append]; omega
              · simp only [Nat.one_ne_zero, if_false, if_true, List.length_append]; omega
            · obtain ⟨r12, rfl, o12, k12, f12⟩ := g
              have k0' : Keeps s.blk w w12 := k011.trans k12 (fun y hy => by
                rcases (f7 y hy).1 with h | h
                · exact .inl h
                · right; omega)
              have hs12 := k12.size
              refine ⟨_, rfl, hJ2 _ _ ?_ ?_ ((B28'.keep k711 (by simp)).keep k12 (fun h => (f7 _ h).2.1 rfl)) ((B2'.keep k711 (by simp)).keep k12 (fun h => (f7 _ h).2.2.1 rfl)) k0' (by have := k711.size; omega)⟩
              · rw [if_pos h32] at o12 ⊢
                rcases hi2 with rfl | rfl
                · simpa using o12
                · simpa using o12
              · intro y hy
                have h711 := k711.size
                rcases f12 y hy with h | h
                · exact f7 y h
                · refine ⟨.inr (by omega), by omega, by omega, fun hd => ?_⟩
                  have := hD y hd
                  have := k07.size
                  omega
          · rw [if_neg h32] at h8
            obtain ⟨rfl, rfl, rfl⟩ := h8
            refine M.ite_ff (hJ2 _ _ ?_ f7 (B28'.keep k710 (by simp)) (B2'.keep k710 (by simp)) (k07.and k710.up) (by omega))
            rw [if_neg h32] at o7 ⊢
            exact o7.keep k710 (by simp)
      · have c1 : ¬ (i : Int) < 2 := of_decide_eq_false c1
        obtain rfl : i = 2 := by omega
        rw [hkc, ← List.append_assoc]
        refine ⟨by simpa using o7, k07, fun y hy => ?_⟩
        rcases (f7 y hy).1 with h | h
        · exact .inl h
        · right; omega
theorem below_c {D : List Nat} {p : Nat} {ad : Nat → Nat → Option Nat} {hs : Nat → Nat → Bool} {vs : Nat → Nat → Int} {c : Int} {L : Tbl} (hA : Abs L ad hs vs) (hL : Tab L) (hlen : L.length ≤ 1000000) (n : Nat) (hn : n ≤ 32) : BelowAt D p ad hs vs c L n := by
  have key : ∀ d n, n ≤ 32 → 32 - n = d → BelowAt D p ad hs vs c L n := by
    intro d
    induction d with
    | zero => intro n hn hd; exact below_step hA hL hlen hn (fun h => by omega)
    | succ d ih => intro n hn hd; exact below_step hA hL hlen hn (fun h => ih (n + 1) (by omega) (by omega))
  exact key _ n hn rfl

theorem tbelow_c {w : World} {D : List Nat} {p : Nat} {L : Tbl} (h : TrieAt w D p L) {a : Nat} (ha : a < 4294967296) (n : Int) (hlen : L.length ≤ 1000000) :
    Calls Try.prog 45 #[.pointer (some ⟨p, 0, none⟩), .agg #[.int .u32 (a : Int), .int .i64 n]] w (R45 fun r w' => Own 33 2 w' r (pvs (if rightP a n then keysCov L (a, n) else [])) ∧ (∀ x ∈ r.blk, w.heap.size ≤ x) ∧ Keeps [] w w') := by
  obtain ⟨hD, ad, hs, vs, hT, hA, hL⟩ := h
  refine F45_ok (M.new_blk fun b2 w1 hb2 B k1 => ⟨_, B.cell 0, _, B.cell 1, (right_c ha n).mono fun e w2 g => ?_⟩)
  obtain ⟨r2, rfl, rfl, k2⟩ := g
  have k02 := k1.trans k2 (by simp)
  refine ⟨_, rfl, M.ite_by (fun c => ?_) (fun c => ?_)⟩
  · have c : rightP a n = false := by simpa using c
    rw [c]
    exact ⟨Own.nil _ _ _, by simp [SV.blk], k02⟩
  have c : rightP a n = true := by simpa using c
  obtain ⟨c0, c1, c2⟩ := (rightP_iff _ _).1 c
  obtain ⟨n, rfl⟩ := Int.eq_ofNat_of_zero_le c0
  rw [Int.toNat_natCast] at c2
  have hn32 : n ≤ 32 := by omega
  rw [c]
  have kd := Keeps.drew [] w2
  have B2 := (B.keep k2 (by simp)).keep kd (by simp)
  have k03 := k02.trans kd (by simp)
  refine M.drew_by ⟨_, B2.cell 0, _, B2.cell 1, _, B2.cell 0, _, B2.cell 1, (find_c (hT.keep k03 (by simp)) ha hn32 c2).mono fun e w4 g => ?_⟩
  obtain ⟨r4, rfl, rfl, k4⟩ := g
  have k04 := k03.trans k4 (by simp)
  have B4 := B2.keep k4 (by simp)
  refine ⟨_, rfl, B4.cell 0, B4.cell 1, (below_c hA hL hlen n hn32 w4 a SV.nil [] (hT.keep k04 (by simp)) (fun x hx => Nat.lt_of_lt_of_le (hD x hx) k04.size) ha c2 (Own.nil _ _ _) (by simp [SV.blk]) (by simp)).mono fun e w5 g => ?_⟩
  obtain ⟨r5, rfl, o5, k5, f5⟩ := g
  refine ⟨_, rfl, by simpa using o5, fun x hx => ?_, k04.trans k5 (by simp [SV.blk])⟩
  rcases f5 x hx with h | h
  · simp [SV.blk] at h
  · have := k04.size; omega
theorem tall_c {w : World} {D : List Nat} {p : Nat} {L : Tbl} (h : TrieAt w D p L) (hlen : L.length ≤ 1000000) :
    Calls Try.prog 30 #[.pointer (some ⟨p, 0, none⟩)] w (R30 fun r w' => Own 33 2 w' r (pvs (L.map (·.1))) ∧ (∀ x ∈ r.blk, w.heap.size ≤ x) ∧ Keeps [] w w') := by
  have hL := h.2
  obtain ⟨ad, hs, vs, _, _, hL⟩ := hL
  refine F30_ok ((tbelow_c h (a := 0) (by omega) 0 hlen).mono fun e w1 g => ?_)
  obtain ⟨r1, rfl, o1, f1, k1⟩ := g
  rw [show rightP 0 0 = true from rfl, if_pos rfl] at o1
  have e := keysCov_all hL
  rw [show (((0 : Nat) : Int)) = 0 from rfl] at e
  rw [e] at o1
  exact ⟨_, rfl, o1, f1, k1⟩
theorem down_c {w : World} {D : List Nat} {p : Nat} {L : Tbl} (h : TrieAt w D p L) {A m : Nat} (hA32 : A < 4294967296) (hm : m ≤ 32) :
    Calls Try.prog 43 #[.pointer (some ⟨p, 0, none⟩), .int .u32 (A : Int), .int .i64 (m : Int)] w (R43 fun r w' => Own 33 2 w' r (pvs (onWay L A (m + 1))) ∧ (∀ x ∈ r.blk, w.heap.size ≤ x) ∧ Keeps [] w w') := by
  obtain ⟨hD, ad, hs, vs, hT, hA, hL⟩ := h
  have hget : ∀ i, i ≤ 32 → (tget L (topN A i, (i : Int))).isSome = ((ad (topN A i) i).isSome && hs (topN A i) i) := by
    intro i hi
    rw [hA (topN A i) i hi (topN_lt hA32) (lowN_top _ _)]
    cases ((ad (topN A i) i).isSome && hs (topN A i) i) <;> rfl
  have hstop : ∀ i, i ≤ 32 → ad (topN A i) i = none → ∀ j, i ≤ j → j ≤ 32 → tget L (topN A j, (j : Int)) = none := by
    intro i hi hno j hij hj
    have : ad (topN A j) j = none := by
      cases hx : ad (topN A j) j with
      | none => rfl
      | some b =>
        obtain ⟨b', hb'⟩ := hT.path hx i hij
        rw [topN_topN A hij hj, hno] at hb'
        cases hb'
    have h1 := hget j hj
    rw [this] at h1
    simp at h1
    exact h1
  refine F43_ok ⟨_, rfl, M.join_by (fun J => ∀ x w', Own 33 2 w' x (pvs (onWay L A (m + 1))) → (∀ y ∈ x.blk, w.heap.size ≤ y) → Keeps [] w w' → J x w') (fun x w' h1 h2 h3 => ⟨h1, h2, h3⟩) fun J hJ => ?_⟩
  refine M.loop3_by (fun x y z w' => ∃ (i b : Nat), z = i ∧ i ≤ m ∧ y = some ⟨b, 0, none⟩ ∧ ad (topN A i) i = some b ∧ Own 33 2 w' x (pvs (onWay L A i)) ∧ (∀ k ∈ x.blk, w.heap.size ≤ k) ∧ Keeps [] w w') (fun _ _ z _ => m + 1 - z.toNat)
    ⟨0, p, rfl, by omega, rfl, by rw [topN_zero hA32]; exact hT.root, Own.nil _ _ _, by simp [SV.blk], Keeps.refl _ _⟩ ?_
  rintro x y z w1 J1 ⟨i, b, rfl, hi, rfl, hb, ho, hob, hk⟩ hJ1
  have hT1 := hT.keep hk (by simp)
  have P := hT1.node _ _ _ hb
  have hg := hget i (by omega)
  rw [hb] at hg
  simp only [Option.isSome_some, Bool.true_and] at hg
  have hol := onWay_len L A i
  refine M.join_by (fun J => ∀ x w', Own 33 2 w' x (pvs (onWay L A (i + 1))) → (∀ y ∈ x.blk, w.heap.size ≤ y) → Keeps [] w w' → J x w') ?_ ?_
  · intro x2 w2 o2 f2 k2
    refine M.ite_by (fun c => ?_) (fun c => ?_)
    · have c : i = m := by simp at c; omega
      subst c
      exact hJ _ _ o2 f2 k2
    · have c : i ≠ m := by simp at c; omega
      have hi32 : i < 32 := by omega
      have hbit := bitN_lt A i
      have kd := Keeps.drew [] w2
      have k3 := k2.trans kd (by simp)
      have hkid := (hT.keep k3 (by simp)).kid hi32 hb
      refine M.drew_by ⟨_, rfl, (bit_c hA32 hi32).mono fun e w3 g => ?_⟩
      obtain ⟨r3, rfl, rfl, rfl⟩ := g
      refine ⟨_, rfl, by omega, by omega, (ad (topN A (i + 1)) (i + 1)).map (fun b => ⟨b, 0, none⟩), by rw [show ((bitN A i : Nat) : Int).toNat * 1 = bitN A i by omega]; exact hkid, ?_⟩
      cases hx : ad (topN A (i + 1)) (i + 1) with
      | none =>
        refine M.ite_y rfl (hJ _ _ ?_ f2 k3)
        rw [onWay_none (show i + 1 ≤ m + 1 by omega) (fun j h1 h2 => hstop (i + 1) (by omega) hx j h1 (by omega))]
        exact o2.keep kd (by simp)
      | some b' =>
        refine M.ite_n rfl ?_
        rw [w64 (by omega) (by omega)]
        exact hJ1 _ _ _ _ ⟨i + 1, b', by omega, by omega, rfl, hx, o2.keep kd (by simp), f2, k3⟩ (by omega)
  · intro J2 hJ2
    rw [onWay_succ, hg] at hJ2
    refine ⟨_, rfl, hs (topN A i) i, P.cell 2, ?_⟩
    cases hh : hs (topN A i) i with
    | false =>
      rw [hh] at hJ2
      exact M.ite_ff (hJ2 _ _ (by simpa using ho) hob hk)
    | true =>
      rw [hh] at hJ2
      refine M.ite_tt ((of_c hA32 (i : Int)).mono fun e w2 g => ?_)
      obtain ⟨x2, y2, rfl, rfl, rfl, k2⟩ := g
      rw [clampN_nat (by omega)]
      obtain ⟨r3, w3, v1, v2, v3, v4⟩ := app_p (topN A i, (i : Int)) (ho.keep k2 (by simp)) (by omega)
      refine ⟨_, _, rfl, M.new_by ⟨r3, w3, v1, hJ2 _ _ v2 (fun y hy => ?_) ((hk.trans k2 (by simp)).trans v3 (fun y hy => .inr (hob y hy)))⟩⟩
      rcases v4 y hy with h | h
      · exact hob y h
      · have := hk.size; have := k2.size; omega
/-- The longest prefix that has an address, and its number. -/
def matchT (L : Tbl) (A : Nat) : Option (Key × Int) := (onWay L A 33).getLast?.map fun k => (k, (tget L k).getD 0)
theorem match_c {w : World} {D : List Nat} {p : Nat} {L : Tbl} (h : TrieAt w D p L) {A : Nat} (hA32 : A < 4294967296) :
    Calls Try.prog 28 #[.pointer (some ⟨p, 0, none⟩), .int .u32 (A : Int)] w (R28 fun x y v ok w' => (match matchT L A with
      | some m => x = (m.1.1 : Int) ∧ y = m.1.2 ∧ v = m.2 ∧ ok = true
      | none => x = 0 ∧ y = 0 ∧ v = 0 ∧ ok = false) ∧ Keeps [] w w') := by
  refine F28_ok (M.new_blk fun b2 w1 hb2 B k1 => (down_c (h.keep k1 (by simp)) hA32 (m := 32) (by omega)).mono fun e w2 g => ?_)
  obtain ⟨r2, rfl, o2, f2, k2⟩ := g
  have k02 := k1.trans k2 (by simp)
  change Own 33 2 w2 r2 (pvs (onWay L A 33)) at o2
  have hl := pf_len o2.rd
  have hol := onWay_len L A 33
  have hkey : ∀ k ∈ onWay L A 33, k.1 < 4294967296 := by
    intro k hk
    unfold onWay at hk
    rw [List.mem_map] at hk
    obtain ⟨i, _, rfl⟩ := hk
    exact topN_lt hA32
  refine ⟨_, rfl, M.ite_by (fun c => ?_) (fun c => ?_)⟩
  · have c : r2.len = 0 := by simpa using c
    have hnil : onWay L A 33 = [] := List.eq_nil_of_length_eq_zero (by omega)
    refine M.stA_blk (B.keep k2 (by simp)) rfl fun w3 B3 k3 => ⟨_, B3.cell 0, _, B3.cell 1, ?_, k02.trans k3 (by simp; omega)⟩
    rw [matchT, hnil]
    exact ⟨rfl, rfl, rfl, rfl⟩
  · have c : r2.len ≠ 0 := by simpa using c
    obtain ⟨init, q, hq⟩ : ∃ init q, onWay L A 33 = init ++ [q] := ⟨(onWay L A 33).dropLast, (onWay L A 33).getLast (by intro h0; rw [h0] at hl; simp at hl; omega), (List.dropLast_concat_getLast _).symm⟩
    have hm : matchT L A = some (q, (tget L q).getD 0) := by rw [matchT, hq]; simp
    have hlast : IntKind.i64.wrap ((r2.len : Int) - 1) = (init.length : Int) := by
      rw [w64 (by omega) (by omega)]
      rw [hq, List.length_append] at hl
      simp at hl; omega
    have hgl : (onWay L A 33)[init.length]? = some q := by rw [hq]; simp
    obtain ⟨ax, hax⟩ := o2.rd.some (by omega)
    have e := pf_at o2.rd hax hgl
    have hq32 := hkey q (by rw [hq]; simp)
    have hlt : init.length < r2.len := by rw [hl, hq]; simp
    rw [hlast]
    refine ⟨ax, hax, by omega, by omega, _, e.1, _, e.2, M.new_blk fun b21 w3 hb3 B3 k3 => M.stA_blk B3 rfl fun w4 B4 k4 => ⟨_, B4.cell 0, _, B4.cell 1, (get_c (h.keep ((k02.trans k3 (by simp)).trans k4 (by have := k02.size; simp; omega)) (by simp)) hq32 q.2).mono fun e w5 g => ?_⟩⟩
    obtain ⟨r5, ok5, rfl, rfl, rfl, k5⟩ := g
    have B5 := B4.keep k5 (by simp)
    have k25 : Keeps [] w2 w5 := (k3.trans k4 (by simp; omega)).trans k5 (by simp)
    refine ⟨_, _, rfl, _, B5.cell 0, _, B5.cell 1, M.stA_blk ((B.keep k2 (by simp)).keep k25 (by simp)) rfl fun w6 B6 k6 => ⟨_, B6.cell 0, _, B6.cell 1, ?_, (k02.trans k25 (by simp)).trans k6 (by simp; omega)⟩⟩
    rw [hm]
    exact ⟨rfl, rfl, rfl, rfl⟩
end Go.Proofs.Ytnfmkedblnajlaa
