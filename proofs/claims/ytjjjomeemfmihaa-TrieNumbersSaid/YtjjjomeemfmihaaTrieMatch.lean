/-
  TrieMatch: the match is the longest prefix that has an address, and the last of those above it.
-/
import Derived.Test.YtjjjomeemfmihaaTrieL
namespace Go.Proofs.Ytjjjomeemfmihaa
set_option linter.unusedVariables false
set_option linter.unusedSimpArgs false
open Go.Sp
open Go.RowKit (Below)

def askSh : ShL := .cons (.int .i64) (.cons (.int .i64) (.cons (.int .i64) (.cons (.int .u32) (.cons .bool .nil))))
/-- An ask of the list, as it lies in memory from then on: kind, n, v, a, few. -/
def AskAt (W : World) (s : SV) (i : Nat) (x : Int × Int × Int × Nat × Bool) : Prop :=
  ∃ a : Addr, s.a = some a ∧ x.2.2.2.1 < 4294967296 ∧ ∀ w, Below W.heap.size W w → w.cell? (a.add (i * 5)) = some (.int .i64 x.1) ∧ w.cell? ((a.add (i * 5)).add 1) = some (.int .i64 x.2.1) ∧ w.cell? ((a.add (i * 5)).add 2) = some (.int .i64 x.2.2.1) ∧ w.cell? ((a.add (i * 5)).add 3) = some (.int .u32 (x.2.2.2.1 : Int)) ∧ w.cell? ((a.add (i * 5)).add 4) = some (.bool x.2.2.2.2)
theorem asks_of {W : World} {v : Value} (h : Gd W (.slice askSh) v) : ∃ (s : SV) (l : List (Int × Int × Int × Nat × Bool)), v = s.v ∧ l.length = s.len ∧ s.len ≤ maxLen ∧ ∀ i x, l[i]? = some x → AskAt W s i x := by
  simp only [Gd] at h
  obtain ⟨s, vs, rfl, hr, hc, hg⟩ := h
  obtain ⟨l, hl, hp⟩ := list_choose (n := s.len) (p := fun i x => AskAt W s i x) (fun i hi => by
    obtain ⟨a, ha⟩ := hr.some (by omega)
    have h1 := hg i hi
    simp only [askSh, GdL] at h1
    obtain ⟨v1, r1, h2, ⟨k, rfl, _⟩, v2, r2, rfl, ⟨n, rfl, _⟩, v3, r3, rfl, ⟨t, rfl, _⟩, v4, r4, rfl, ⟨u, rfl, g1, g2⟩, v5, r5, rfl, ⟨f, rfl⟩, rfl⟩ := h1
    have e1 : IntKind.u32.min = 0 := rfl
    have e2 : IntKind.u32.max = 4294967295 := rfl
    obtain ⟨u, rfl⟩ := Int.eq_ofNat_of_zero_le (show 0 ≤ u by omega)
    have h4 := fun j v (hj : j < 5) (hv : [Value.int .i64 k, Value.int .i64 n, Value.int .i64 t, Value.int .u32 (u : Int), Value.bool f][j]? = some v) => hr.row ha (i := i) (j := j) (v := v) hj (by simp only [askSh, ShL.len] at h2 ⊢; rw [h2]; exact hv)
    exact ⟨(k, n, t, u, f), a, ha, by show u < _; omega, fun w hw => ⟨below_cell hw (by have := h4 0 _ (by omega) rfl; rw [add_zero] at this; exact this), below_cell hw (h4 1 _ (by omega) rfl), below_cell hw (h4 2 _ (by omega) rfl), below_cell hw (h4 3 _ (by omega) rfl), below_cell hw (h4 4 _ (by omega) rfl)⟩⟩)
  exact ⟨s, l, rfl, hl, Nat.le_trans hr.cap hc, hp⟩

theorem tput_len_le (L : Tbl) (k : Key) (v : Int) : (tput L k v).length ≤ L.length + 1 := by
  induction L with
  | nil => simp [tput]
  | cons x l ih =>
    simp only [tput]
    split
    · simp
    · split
      · simp
      · simp; omega
theorem tmatch_c {W : World} {s : SV} {l : List (Int × Int × Int × Nat × Bool)} {p1 : Int} (hl : l.length = s.len) (hm : s.len ≤ maxLen) (hp : ∀ i x, l[i]? = some x → AskAt W s i x) :
    Calls Try.prog 4 #[s.v, .int .u32 p1] W (R4 fun r w' => r = true ∧ Below W.heap.size W w') := by
  unfold maxLen at hm
  refine F4_ok (tnew_c.mono fun e w1 g => ?_)
  obtain ⟨r, rfl, p, rfl, h1, k1, hpB⟩ := g
  refine ⟨_, rfl, M.ite_n rfl ?_⟩
  refine M.loop1_by (fun x w => ∃ (i : Nat) (D : List Nat) (L : Tbl), x = i ∧ i ≤ 60 ∧ Aft W w ∧ L.length ≤ i ∧ TrieAt w D p L ∧ (∀ y ∈ D, W.heap.size ≤ y)) (fun x _ => (60 - x).toNat)
    ⟨0, [p], [], rfl, by omega, (Aft.refl W).new k1, by simp, h1, by intro y hy; simp at hy; omega⟩ ?_
  rintro x w J ⟨i, D, L, rfl, hi, ha, hLi, hT, hDB⟩ hJ
  refine M.join_lt (fun hx1 hx2 => ?_) (fun hend => ?_)
  · have hil : i < l.length := by omega
    obtain ⟨a, hsa, hau, hat⟩ := hp i l[i] (List.getElem?_eq_getElem hil)
    have kd := Keeps.drew [] w
    have ad := ha.new kd
    obtain ⟨c0, c1, c2, c3, c4⟩ := hat _ ad.1
    refine M.drew_by ⟨a, hsa, by omega, hx1, a, hsa, by omega, hx1, _, c3, _, c1, (kprefix_c _ _).mono fun e w2 g => ?_⟩
    obtain ⟨x2, y2, rfl, rfl, rfl, k2⟩ := g
    have k12 := kd.trans k2 (by simp)
    refine ⟨_, _, rfl, (put_c (hT.keep k12 (by simp)) (kp_lt _ _) _ _ (by omega)).mono fun e w3 g => ?_⟩
    obtain ⟨r3, rfl, _, D3, h3, k3, f3⟩ := g
    rw [kp_right, if_pos rfl] at h3
    have a2 := ha.new k12
    refine ⟨_, rfl, ?_⟩
    rw [w64 (by omega) (by omega)]
    refine hJ _ _ ⟨i + 1, D3, _, by omega, by omega, a2.step k3 hDB, ?_, h3, fun y hy => ?_⟩ (by omega)
    · exact Nat.le_trans (tput_len_le L _ _) (by omega)
    · rcases f3 y hy with h | h
      · exact hDB y h
      · have := a2.2; omega
  · obtain ⟨A, hAe, hA32⟩ := bOr_u32 (167772160 : Int) (Int.tmod p1 (33554432 : Int))
    rw [hAe]
    have hLt : Tab L := by
      obtain ⟨_, _, _, _, _, _, h⟩ := hT
      exact h
    refine (match_c hT hA32).mono fun e w2 g => ?_
    obtain ⟨x2, y2, v2, ok2, rfl, hm2, k2⟩ := g
    refine ⟨_, _, _, _, rfl, M.new_blk fun b w3 hb B k3 => M.stA_blk B rfl fun w4 B4 k4 => ?_⟩
    have k24 : Keeps [] w2 w4 := k3.trans k4 (by simp; omega)
    have k04 := k2.trans k24 (by simp)
    refine (tall_c (hT.keep k04 (by simp)) (by omega)).mono fun e w5 g => ?_
    obtain ⟨r5, rfl, o5, f5, k5⟩ := g
    have k05 := k04.trans k5 (by simp)
    have B5 := B4.keep k5 (by simp)
    have hks := pf_len o5.rd
    rw [List.length_map] at hks
    have hklt : ∀ k ∈ L.map (·.1), k.1 < 4294967296 := by
      intro k hk
      obtain ⟨z, hz, rfl⟩ := List.mem_map.1 hk
      exact (hLt.right z hz).1
    generalize hK : L.map (·.1) = ks at *
    have hkl : ks.length = L.length := by rw [← hK]; simp
    refine ⟨_, rfl, ?_⟩
    refine M.loop2_by (fun x y w' => ∃ j : Nat, y = j ∧ j ≤ ks.length ∧ Keeps [] w5 w' ∧ ((x = -1 ∧ ∀ (m : Nat) (k : Key), m < j → ks[m]? = some k → hasB k A = false) ∨ (∃ (q : Nat) (kq : Key), x = q ∧ q < j ∧ ks[q]? = some kq ∧ hasB kq A = true ∧ ∀ (m : Nat) (k : Key), m < j → ks[m]? = some k → hasB k A = true → k.2 ≤ kq.2))) (fun _ y _ => ks.length - y.toNat)
      ⟨0, rfl, by omega, Keeps.refl _ _, .inl ⟨rfl, by intro m k h; omega⟩⟩ ?_
    rintro x y w6 J1 ⟨j, rfl, hj, k6, hbest⟩ hJ1
    refine M.ite_by (fun c => ?_) (fun c => ?_)
    · have c := of_decide_eq_true c
      have jl : j < ks.length := by omega
      have kd := Keeps.drew [] w6
      have k7 := k6.trans kd (by simp)
      obtain ⟨a, ha5⟩ := (o5.keep k7 (by simp)).rd.some (by omega)
      have ej := List.getElem?_eq_getElem jl
      have e1 := pf_at (o5.keep k7 (by simp)).rd ha5 ej
      refine M.join_by (fun (J : Int → World → Prop) => ∀ (x' : Int) (w' : World), Keeps [] w5 w' → ((x' = -1 ∧ ∀ (m : Nat) (k : Key), m < j + 1 → ks[m]? = some k → hasB k A = false) ∨ (∃ (q : Nat) (kq : Key), x' = q ∧ q < j + 1 ∧ ks[q]? = some kq ∧ hasB kq A = true ∧ ∀ (m : Nat) (k : Key), m < j + 1 → ks[m]? = some k → hasB k A = true → k.2 ≤ kq.2)) → J x' w') ?_ ?_
      · intro x' w' h1 h2
        rw [w64 (by omega) (by omega)]
        exact hJ1 _ _ _ ⟨j + 1, by omega, by omega, h1, h2⟩ (by omega)
      · intro J2 hJ2
        have hlast : ∀ {m : Nat} {k : Key}, m < j + 1 → ks[m]? = some k → (m < j ∨ k = ks[j]) := by
          intro m k h1 h2
          by_cases h3 : m < j
          · exact .inl h3
          · right
            obtain rfl : m = j := by omega
            rw [ej] at h2; cases h2; rfl
        refine M.join_by (fun (J : Bool → World → Prop) => ∀ (t : Bool) (w' : World), Keeps [] w5 w' → t = (hasB ks[j] A && (decide (x < 0) || (match ks[x.toNat]? with | some kq => decide (kq.2 < ks[j].2) | none => false))) → J t w') ?_ ?_
        · intro t w' h1 h2
          refine M.ite_by (fun ct => ?_) (fun ct => ?_)
          · rw [ct] at h2
            have h2 := h2.symm
            simp only [Bool.and_eq_true, Bool.or_eq_true, decide_eq_true_eq] at h2
            refine hJ2 _ _ h1 (.inr ⟨j, ks[j], rfl, by omega, ej, h2.1, ?_⟩)
            intro m k hm hk hb
            rcases hlast hm hk with h3 | h3
            · rcases hbest with ⟨rfl, h4⟩ | ⟨q, kq, rfl, hq, hkq, hbq, h4⟩
              · rw [h4 m k h3 hk] at hb; cases hb
              · have h5 := h4 m k h3 hk hb
                rcases h2.2 with h6 | h6
                · omega
                · rw [Int.toNat_natCast, hkq] at h6
                  simp at h6
                  omega
            · rw [h3]; exact Int.le_refl _
          · rw [ct] at h2
            refine hJ2 _ _ h1 ?_
            rcases hbest with ⟨rfl, h4⟩ | ⟨q, kq, rfl, hq, hkq, hbq, h4⟩
            · left
              refine ⟨rfl, fun m k hm hk => ?_⟩
              rcases hlast hm hk with h3 | h3
              · exact h4 m k h3 hk
              · rw [h3]
                simpa using h2.symm
            · right
              refine ⟨q, kq, rfl, by omega, hkq, hbq, fun m k hm hk hb => ?_⟩
              rcases hlast hm hk with h3 | h3
              · exact h4 m k h3 hk hb
              · rw [h3] at hb ⊢
                rw [hb, Int.toNat_natCast, hkq] at h2
                simp at h2
                omega
        · intro J3 hJ3
          refine M.drew_by ⟨a, ha5, by omega, c, _, e1.1, _, e1.2, (has_c (hklt _ (List.getElem_mem jl)) hA32).mono fun e w8 g => ?_⟩
          obtain ⟨r8, rfl, rfl, k8⟩ := g
          have k58 := k7.trans k8 (by simp)
          refine ⟨_, rfl, M.ite_by (fun c8 => ?_) (fun c8 => ?_)⟩
          · refine M.ite_by (fun c9 => ?_) (fun c9 => ?_)
            · exact hJ3 _ _ k58 (by rw [c8, c9]; rfl)
            · have c9' := of_decide_eq_false c9
              rcases hbest with ⟨rfl, h4⟩ | ⟨q, kq, rfl, hq, hkq, hbq, h4⟩
              · omega
              · have e8 := pf_at (o5.keep k58 (by simp)).rd ha5 ej
                have e9 := pf_at (o5.keep k58 (by simp)).rd ha5 hkq
                refine ⟨a, ha5, by omega, c, a, ha5, by omega, by omega, _, e8.2, _, e9.2, hJ3 _ _ k58 ?_⟩
                rw [c8, c9, Int.toNat_natCast, hkq]; simp
          · exact hJ3 _ _ k58 (by rw [c8]; rfl)
    · have c := of_decide_eq_false c
      have hjl : j = ks.length := by omega
      subst hjl
      have k06 := k05.trans k6 (by simp)
      have a6 : Aft W w6 := ha.new k06
      have hT6 := hT.keep k06 (by simp)
      have B6 := B5.keep k6 (by simp)
      have hmemI : ∀ k ∈ ks, ∃ m, m < ks.length ∧ ks[m]? = some k := by
        intro k hk
        obtain ⟨m, hm, he⟩ := List.getElem_of_mem hk
        exact ⟨m, hm, by rw [List.getElem?_eq_getElem hm, he]⟩
      have hall : ∀ {w : World}, Aft W w → Calls Try.prog 19 #[] w (R19 fun r w' => r = true ∧ Aft W w') := fun ha => known_c.mono fun e w' g => by
        obtain ⟨r, rfl, rfl, k⟩ := g
        exact ⟨_, rfl, rfl, ha.new k⟩
      have hR32 : rightP A 32 = true := by
        rw [rightP_iff]; exact ⟨by omega, by omega, by show lowN A 32 = 0; simp [lowN, Nat.mod_one]⟩
      cases hway : matchT L A with
      | none =>
        rw [hway] at hm2
        obtain ⟨rfl, rfl, rfl, rfl⟩ := hm2
        have hnil : onWay L A 33 = [] := by
          unfold matchT at hway
          rw [Option.map_eq_none_iff, List.getLast?_eq_none_iff] at hway
          exact hway
        have hno : ∀ k ∈ ks, hasB k A = false := by
          intro k hk
          cases hb : hasB k A with
          | false => rfl
          | true =>
            have := (onWay_mem hLt hA32 (k := k)).2 ⟨by rw [hK]; exact hk, hb⟩
            rw [hnil] at this; simp at this
        have hx : x = -1 := by
          rcases hbest with ⟨h, _⟩ | ⟨q, kq, _, _, hkq, hbq, _⟩
          · exact h
          · rw [hno kq (List.mem_of_getElem? hkq)] at hbq; cases hbq
        subst hx
        refine M.join_by (fun (J : Bool → World → Prop) => J false w6) ?_ fun J hJ => M.ite_n rfl (M.ite_tt ⟨_, B6.cell 0, _, B6.cell 1, M.ite_n rfl hJ⟩)
        refine M.ite_ff ((above_c hT6 hA32 32).mono fun e w7 g => ?_)
        obtain ⟨r7, rfl, o7, f7, k7⟩ := g
        rw [hR32, if_pos rfl] at o7
        change Own 27 2 w7 r7 (pvs (onWay L A 33)) at o7
        rw [hnil] at o7
        have hl7 := pf_len o7.rd
        refine ⟨_, rfl, M.ite_tt (M.join_by (fun (J : Bool → World → Prop) => ∀ w, Aft W w → J true w) (fun w h => ⟨rfl, h.1⟩) fun J hJ => M.ite_y (by rw [hl7]; rfl) ((hall (a6.new k7)).mono fun e w8 g => ?_))⟩
        obtain ⟨r8, rfl, rfl, a8⟩ := g
        exact ⟨_, rfl, hJ _ a8⟩
      | some m =>
        rw [hway] at hm2
        obtain ⟨rfl, rfl, rfl, rfl⟩ := hm2
        unfold matchT at hway
        obtain ⟨q, hq, rfl⟩ := Option.map_eq_some_iff.1 hway
        obtain ⟨init, hinit⟩ := List.getLast?_eq_some_iff.1 hq
        obtain ⟨hqk, hqb, hqm⟩ := onWay_last hLt hA32 hinit
        rw [hK] at hqk hqm
        have hq32 := hklt q hqk
        have hsome : (tget L q).isSome = true := by
          rw [← hK] at hqk
          obtain ⟨z, hz, he⟩ := List.mem_map.1 hqk
          exact tget_isSome.2 ⟨z, hz, he⟩
        obtain ⟨mq, hmq1, hmq2⟩ := hmemI q hqk
        rcases hbest with ⟨_, h⟩ | ⟨bi, kq, rfl, hbi, hkq, hbq, hmax⟩
        · rw [h mq q hmq1 hmq2] at hqb; cases hqb
        · have hkqq : kq = q := has_eq hbq hqb (by
            have h1 := hmax mq q hmq1 hmq2 hqb
            have h2 := hqm kq (List.mem_of_getElem? hkq) hbq
            omega)
          subst hkqq
          refine M.join_by (fun (J : Bool → World → Prop) => J false w6) ?_ fun J hJ => M.ite_n (by rw [decide_eq_true (by omega)]; rfl) (M.ite_ff hJ)
          refine M.ite_ff ((above_c hT6 hA32 32).mono fun e w7 g => ?_)
          obtain ⟨r7, rfl, o7, f7, k7⟩ := g
          rw [hR32, if_pos rfl] at o7
          change Own 27 2 w7 r7 (pvs (onWay L A 33)) at o7
          rw [hinit] at o7
          have hl7 := pf_len o7.rd
          rw [List.length_append] at hl7
          simp only [List.length_cons, List.length_nil] at hl7
          have B7 := B6.keep k7 (by simp)
          have hol := onWay_len L A 33
          rw [hinit, List.length_append] at hol
          refine ⟨_, rfl, M.ite_ff ⟨_, B7.cell 0, _, B7.cell 1, (get_c (hT6.keep k7 (by simp)) hq32 kq.2).mono fun e w8 g => ?_⟩⟩
          obtain ⟨r8, ok8, rfl, rfl, rfl, k8⟩ := g
          have kd := Keeps.drew [] w8
          have k79 := k8.trans kd (by simp)
          have k59 := (k6.trans k7 (by simp)).trans k79 (by simp)
          have o59 := o5.keep k59 (by simp)
          have o79 := o7.keep k79 (by simp)
          have B9 := B7.keep k79 (by simp)
          obtain ⟨ax, hax⟩ := o59.rd.some (by omega)
          obtain ⟨ay, hay⟩ := o79.rd.some (by omega)
          have e5 := pf_at o59.rd hax hkq
          have e7 := pf_at o79.rd hay (i := init.length) (x := kq) (by simp)
          have hlast : IntKind.i64.wrap ((r7.len : Int) - 1) = (init.length : Int) := by rw [w64 (by omega) (by omega)]; omega
          have a9 := (a6.new k7).new k79
          refine ⟨_, _, rfl, M.join_by (fun (J : Bool → World → Prop) => ∀ w, Aft W w → J true w) (fun w h => ⟨rfl, h.1⟩) fun J hJ => M.drew_by ⟨ax, hax, by omega, by omega, _, B9.cell 0, _, B9.cell 1, _, e5.1, _, e5.2, M.ite_y (by simp) (M.ite_y hsome (M.ite_y (by simp) (M.ite_y (decide_eq_true (by omega)) ?_)))⟩⟩
          rw [hlast]
          refine ⟨ay, hay, by omega, by omega, _, e7.1, _, e7.2, _, B9.cell 0, _, B9.cell 1, M.ite_y (by simp) ((hall a9).mono fun e w10 g => ?_)⟩
          obtain ⟨r10, rfl, rfl, a10⟩ := g
          exact ⟨_, rfl, hJ _ a10⟩
theorem tmatch_law (W : World) (args : List Value) (h : GdArgs W [(false, .cons (.slice askSh) .nil), (false, .cons (.int .u32) .nil)] args) : Calls Try.prog 4 args.toArray W fun e W' => e = .returned (.bool true) ∧ Below W.heap.size W W' := by
  obtain ⟨v0, r, rfl, h0, h⟩ := h.one
  obtain ⟨v1, r, rfl, h1, h⟩ := h.one
  cases h
  obtain ⟨s, l, rfl, hl, hm, hp⟩ := asks_of h0
  obtain ⟨n1, rfl, _⟩ := good_int h1
  exact (tmatch_c hl hm hp).mono fun e w' ⟨b, he, hb, hw⟩ => by subst hb; exact ⟨he, hw⟩
end Go.Proofs.Ytjjjomeemfmihaa
