/-
  IgpMatch: the match is a way that has the address, at a cost that is one, and the longest of those.
-/
import Derived.Test.YtnkpjlojijppiaaIgpM
namespace Go.Proofs.Ytnkpjlojijppiaa
set_option linter.unusedVariables false
set_option linter.unusedSimpArgs false
open Go.Sp
open Go.RowKit (Below)

theorem imlaw_c {W : World} {s : SV} {l : List As} {p1 : Int} (hs : Rd 9 W s (l.flatMap asv)) (hok : ∀ x ∈ l, x.ok) (hm : s.len ≤ maxLen) :
    Calls Try.prog 3 #[s.v, .int .u32 p1] W (R3 fun r w' => r = true ∧ Below W.heap.size W w') := by
  unfold maxLen at hm
  have hl := rows_len as9 (by omega) hs
  refine F3_ok (inew_c.mono fun e w1 g => ?_)
  obtain ⟨r, rfl, p, X, rfl, F1, hX, k1⟩ := g
  refine ⟨_, rfl, M.ite_n rfl ?_⟩
  refine M.loop1_by (fun x w => ∃ (i : Nat) (X : List Nat) (S : IS), x = i ∧ i ≤ 40 ∧ Aft W w ∧ IgpAt w X p S ∧ (∀ y ∈ X, W.heap.size ≤ y)) (fun x _ => (40 - x).toNat)
    ⟨0, X, IS.zero, rfl, by omega, (Aft.refl W).new k1, F1, hX⟩ ?_
  rintro x w J ⟨i, X, S, rfl, hi, ha, F, hX⟩ hJ
  refine M.join_lt (fun hx1 hx2 => ?_) (fun hend => ?_)
  · have il : i < l.length := by omega
    have ei := List.getElem?_eq_getElem il
    have hx := (hok _ (List.getElem_mem il)).1
    generalize l[i] = x at *
    have hs' := hs.arg ha.1
    obtain ⟨ax, hax⟩ := hs'.some (by omega)
    refine ⟨ax, hax, by omega, by omega, _, _, _, _, _, _, rows_part as9 hs' hax ei 1 (vs := x.x.cells) rfl, (kway_c hx).mono fun e w2 g => ?_⟩
    obtain ⟨x1, x2, x3, x4, x5, x6, rfl, ⟨y, hy, hyt, rfl, rfl, rfl, rfl, rfl, rfl⟩, k2⟩ := g
    refine ⟨_, _, _, _, _, _, rfl, (iput_c (F.keep k2 (by simp)) hyt).mono fun e w3 g => ?_⟩
    obtain ⟨a3, e3, rfl, rfl, rfl, X3, F3, k3, f3⟩ := g
    have a2 := ha.new k2
    refine ⟨_, _, rfl, ?_⟩
    rw [w64 (by omega) (by omega)]
    exact hJ _ _ ⟨i + 1, X3, _, by omega, by omega, a2.step k3 hX, F3, f3.old hX a2.2⟩ (by omega)
  · obtain ⟨A, hAe, hA32⟩ := bOr_u32 (3221225984 : Int) (Int.tmod p1 (16 : Int))
    rw [hAe]
    refine (imatch_c F hA32).mono fun e w2 g => ?_
    obtain ⟨x1, x2, x3, x4, x5, x6, ok2, rfl, ⟨x, hx, rfl, rfl, rfl, rfl, rfl, rfl⟩, k2⟩ := g
    refine ⟨_, _, _, _, _, _, _, rfl, M.new_blk fun b w3 hb B k3 => M.stA_blk B rfl fun w4 B4 k4 => ?_⟩
    have k24 : Keeps [] w2 w4 := k3.trans k4 (by simp; omega)
    have k04 := k2.trans k24 (by simp)
    have F4 := F.keep k04 (by simp)
    refine (iall_c F4).mono fun e w5 g => ?_
    obtain ⟨r5, rfl, rd5, f5, k5⟩ := g
    have k05 := k04.trans k5 (by simp)
    have B5 := B4.keep k5 (by simp)
    have hrl := rows_len wy6 (by omega) rd5
    have hT := F.tab
    have hfew := F.few
    have hall : ∀ (m : Nat) (y : Wy), S.all[m]? = some y → ∃ k : Key, (S.L.map (·.1))[m]? = some k ∧ y = S.h k ∧ (tget S.L k).isSome = true ∧ y.pf = k ∧ okW y := by
      intro m y hy
      unfold IS.all at hy
      rw [List.getElem?_map] at hy
      obtain ⟨z, hz, rfl⟩ := Option.map_eq_some_iff.1 hy
      have h1 : (tget S.L z.1).isSome = true := tget_isSome.2 ⟨z, List.mem_of_getElem? hz, rfl⟩
      obtain ⟨h2, h3⟩ := F.ok h1
      exact ⟨z.1, by rw [List.getElem?_map, hz]; rfl, rfl, h1, h2, h3⟩
    have hfull : ∀ k, (tget S.L k).isSome = true → ∃ m : Nat, m < S.all.length ∧ S.all[m]? = some (S.h k) := by
      intro k hk
      obtain ⟨z, hz, rfl⟩ := tget_isSome.1 hk
      obtain ⟨m, hm, he⟩ := List.getElem_of_mem hz
      exact ⟨m, by simp [IS.all, hm], by simp [IS.all, hm, he]⟩
    have hsort : ∀ (m : Nat) (y z : Wy), S.all[m]? = some y → S.all[m + 1]? = some z → kLt y.pf z.pf := by
      intro m y z hy hz
      unfold IS.all at hy hz
      rw [List.getElem?_map] at hy hz
      obtain ⟨y', hy', rfl⟩ := Option.map_eq_some_iff.1 hy
      obtain ⟨z', hz', rfl⟩ := Option.map_eq_some_iff.1 hz
      have h1 := (F.ok (tget_isSome.2 ⟨y', List.mem_of_getElem? hy', rfl⟩)).1
      have h2 := (F.ok (tget_isSome.2 ⟨z', List.mem_of_getElem? hz', rfl⟩)).1
      rw [h1, h2]
      obtain ⟨g1, g2⟩ := List.getElem?_eq_some_iff.1 hy'
      obtain ⟨g3, g4⟩ := List.getElem?_eq_some_iff.1 hz'
      have := List.pairwise_iff_getElem.1 hT.sorted m (m + 1) g1 g3 (by omega)
      rw [g2, g4] at this; exact this
    have hal : S.all.length = S.L.length := by simp [IS.all]
    generalize hK : S.all = al at *
    -- which of them have it
    have hopn : ∀ (m : Nat) (y : Wy), al[m]? = some y → ((hasB y.pf A && !infB y.cost) = true ↔ (S.opn y.pf = true ∧ hasB y.pf A = true)) := by
      intro m y hy
      obtain ⟨k, h1, h2, h3, h4, h5⟩ := hall m y hy
      unfold IS.opn
      rw [h4, h3, ← h2]
      simp only [Bool.and_eq_true, Bool.true_and]
      exact ⟨fun h => ⟨h.2, h.1⟩, fun h => ⟨h.2, h.1⟩⟩
    refine ⟨_, rfl, M.loop2_by (fun x y w' => ∃ j : Nat, y = j ∧ j ≤ al.length ∧ Keeps [] w5 w' ∧ ((x = -1 ∧ ∀ (m : Nat) (y : Wy), m < j → al[m]? = some y → (hasB y.pf A && !infB y.cost) = false) ∨ (∃ (q : Nat) (yq : Wy), x = q ∧ q < j ∧ al[q]? = some yq ∧ (hasB yq.pf A && !infB yq.cost) = true ∧ ∀ (m : Nat) (y : Wy), m < j → al[m]? = some y → (hasB y.pf A && !infB y.cost) = true → y.pf.2 ≤ yq.pf.2))) (fun _ y _ => al.length - y.toNat)
      ⟨0, rfl, by omega, Keeps.refl _ _, .inl ⟨rfl, by intro m k h; omega⟩⟩ ?_⟩
    rintro bi y w6 J1 ⟨j, rfl, hj, k6, hbest⟩ hJ1
    refine M.ite_by (fun c => ?_) (fun c => ?_)
    · have c := of_decide_eq_true c
      have jl : j < al.length := by omega
      have ej := List.getElem?_eq_getElem jl
      obtain ⟨kj, _, _, _, hpj, hoj⟩ := hall j _ ej
      have hlast : ∀ {m : Nat} {k : Wy}, m < j + 1 → al[m]? = some k → (m < j ∨ k = al[j]) := by
        intro m k h1 h2
        by_cases h3 : m < j
        · exact .inl h3
        · right
          obtain rfl : m = j := by omega
          rw [ej] at h2; cases h2; rfl
      generalize al[j] = yj at *
      refine M.join_by (fun (J : Int → World → Prop) => ∀ (x' : Int) (w' : World), Keeps [] w5 w' → ((x' = -1 ∧ ∀ (m : Nat) (y : Wy), m < j + 1 → al[m]? = some y → (hasB y.pf A && !infB y.cost) = false) ∨ (∃ (q : Nat) (yq : Wy), x' = q ∧ q < j + 1 ∧ al[q]? = some yq ∧ (hasB yq.pf A && !infB yq.cost) = true ∧ ∀ (m : Nat) (y : Wy), m < j + 1 → al[m]? = some y → (hasB y.pf A && !infB y.cost) = true → y.pf.2 ≤ yq.pf.2)) → J x' w') ?_ ?_
      · intro x' w' h1 h2
        rw [w64 (by omega) (by omega)]
        exact hJ1 _ _ _ ⟨j + 1, by omega, by omega, h1, h2⟩ (by omega)
      · intro J2 hJ2
        refine M.join_by (fun (J : Bool → World → Prop) => ∀ w', Keeps [] w5 w' → J false w') (fun w7 k7 => M.ite_ff ?_) fun J hJ => M.drew_by ?_
        · refine M.join_by (fun (J : Bool → World → Prop) => ∀ (t : Bool) (w' : World), Keeps [] w5 w' → t = ((hasB yj.pf A && !infB yj.cost) && (decide (bi < 0) || (match al[bi.toNat]? with | some yq => decide (yq.pf.2 < yj.pf.2) | none => false))) → J t w') ?_ ?_
          · intro t w' h1 h2
            refine M.ite_by (fun ct => ?_) (fun ct => ?_)
            · rw [ct] at h2
              have h2 := h2.symm
              rw [Bool.and_eq_true] at h2
              obtain ⟨h21, h22⟩ := h2
              refine hJ2 _ _ h1 (.inr ⟨j, yj, rfl, by omega, ej, h21, ?_⟩)
              intro m k hm hk hb
              rcases hlast hm hk with h3 | h3
              · rcases hbest with ⟨rfl, h4⟩ | ⟨q, kq, rfl, hq, hkq, hbq, h4⟩
                · rw [h4 m k h3 hk] at hb; cases hb
                · have h5 := h4 m k h3 hk hb
                  rw [Bool.or_eq_true] at h22
                  rcases h22 with h6 | h6
                  · have := of_decide_eq_true h6; omega
                  · rw [Int.toNat_natCast, hkq] at h6
                    have := of_decide_eq_true h6
                    omega
              · rw [h3]; exact Int.le_refl _
            · rw [ct] at h2
              refine hJ2 _ _ h1 ?_
              rcases hbest with ⟨rfl, h4⟩ | ⟨q, kq, rfl, hq, hkq, hbq, h4⟩
              · left
                refine ⟨rfl, fun m k hm hk => ?_⟩
                rcases hlast hm hk with h3 | h3
                · exact h4 m k h3 hk
                · rw [h3]
                  rw [show decide ((-1 : Int) < 0) = true from rfl, Bool.true_or, Bool.and_true] at h2
                  exact h2.symm
              · right
                refine ⟨q, kq, rfl, by omega, hkq, hbq, fun m k hm hk hb => ?_⟩
                rcases hlast hm hk with h3 | h3
                · exact h4 m k h3 hk hb
                · rw [h3] at hb ⊢
                  rw [hb, Int.toNat_natCast, hkq] at h2
                  rw [decide_eq_false (by omega), Bool.false_or, Bool.true_and] at h2
                  have := of_decide_eq_false h2.symm
                  omega
          · intro J3 hJ3
            have kd := Keeps.drew [] w7
            have k8 := k7.trans kd (by simp)
            have rd8 := rd5.keep k8 (by simp)
            obtain ⟨a, ha5⟩ := rd8.some (by omega)
            have e0 := rows_at0 wy6 rd8 ha5 ej (v := .int .u32 (yj.pf.1 : Int)) rfl
            have e1 := rows_at wy6 rd8 ha5 ej (j := 1) (v := .int .i64 yj.pf.2) rfl
            refine M.drew_by ⟨a, ha5, by omega, c, _, e0, _, e1, (has_c hoj.ty.1 hA32).mono fun e w9 g => ?_⟩
            obtain ⟨r9, rfl, rfl, k9⟩ := g
            have k59 := k8.trans k9 (by simp)
            have rd9 := rd5.keep k59 (by simp)
            refine ⟨_, rfl, M.ite_by (fun c8 => ?_) (fun c8 => hJ3 _ _ k59 (by rw [c8]; rfl))⟩
            have e5 := rows_at wy6 rd9 ha5 ej (j := 5) (v := .float .f64 yj.cost) rfl
            refine ⟨a, ha5, by omega, c, _, e5, (isinf_c _).mono fun e w10 g => ?_⟩
            obtain ⟨r10, rfl, rfl, hw⟩ := g
            obtain rfl := hw.symm
            refine ⟨_, rfl, M.ite_by (fun c9 => ?_) (fun c9 => hJ3 _ _ k59 (by rw [c9, Bool.and_false, Bool.false_and]))⟩
            refine M.ite_by (fun c10 => ?_) (fun c10 => ?_)
            · exact hJ3 _ _ k59 (by rw [c8, c9, c10]; rfl)
            · have c10' := of_decide_eq_false c10
              rcases hbest with ⟨rfl, h4⟩ | ⟨q, kq, rfl, hq, hkq, hbq, h4⟩
              · omega
              · have g1 := rows_at wy6 rd9 ha5 ej (j := 1) (v := .int .i64 yj.pf.2) rfl
                have g2 := rows_at wy6 rd9 ha5 hkq (j := 1) (v := .int .i64 kq.pf.2) rfl
                refine ⟨a, ha5, by omega, c, a, ha5, by omega, by omega, _, g1, _, g2, hJ3 _ _ k59 ?_⟩
                rw [c8, c9, c10, Int.toNat_natCast, hkq]; simp
        · have kd := Keeps.drew [] w6
          have k7 := k6.trans kd (by simp)
          refine M.ite_by (fun c0 => ?_) (fun c0 => hJ _ k7)
          have c0 := of_decide_eq_true c0
          obtain ⟨j', rfl⟩ : ∃ j', j = j' + 1 := ⟨j - 1, by omega⟩
          have j'l : j' < al.length := by omega
          have ej' := List.getElem?_eq_getElem j'l
          have hlt := hsort j' _ yj ej' ej
          obtain ⟨ki, _, _, _, hpi, hoi⟩ := hall j' _ ej'
          generalize al[j'] = yi at *
          have rd7 := rd5.keep k7 (by simp)
          obtain ⟨a, ha5⟩ := rd7.some (by omega)
          have ew : IntKind.i64.wrap (((j' + 1 : Nat) : Int) - 1) = (j' : Int) := by rw [w64 (by omega) (by omega)]; omega
          rw [ew]
          have e0 := rows_at0 wy6 rd7 ha5 ej' (v := .int .u32 (yi.pf.1 : Int)) rfl
          have e1 := rows_at wy6 rd7 ha5 ej' (j := 1) (v := .int .i64 yi.pf.2) rfl
          have g0 := rows_at0 wy6 rd7 ha5 ej (v := .int .u32 (yj.pf.1 : Int)) rfl
          have g1 := rows_at wy6 rd7 ha5 ej (j := 1) (v := .int .i64 yj.pf.2) rfl
          have hri : rightP yi.pf.1 yi.pf.2 = true := by
            have := hoi.right
            unfold rightW at this
            simp only [Bool.and_eq_true] at this
            exact this.1.1
          have hrj : rightP yj.pf.1 yj.pf.2 = true := by
            have := hoj.right
            unfold rightW at this
            simp only [Bool.and_eq_true] at this
            exact this.1.1
          refine ⟨a, ha5, by omega, by omega, a, ha5, by omega, c, _, e0, _, e1, _, g0, _, g1, (less_c ⟨hoi.ty.1, hri⟩ ⟨hoj.ty.1, hrj⟩).mono fun e w8 g => ?_⟩
          obtain ⟨r8, rfl, rfl, k8⟩ := g
          refine ⟨_, rfl, ?_⟩
          rw [decide_eq_true hlt]
          exact hJ _ (k7.trans k8 (by simp))
    · have c := of_decide_eq_false c
      have hjl : j = al.length := by omega
      subst hjl
      have k06 := k05.trans k6 (by simp)
      have kd := Keeps.drew [] w6
      have k07 := k06.trans kd (by simp)
      have k57 := k6.trans kd (by simp)
      have a7 : Aft W w6.drew := ha.new k07
      refine M.join_by (fun (J : Bool → World → Prop) => ∀ w, Aft W w → J true w) (fun w h => ⟨rfl, h.1⟩) fun J hJ => M.drew_by ?_
      rcases hbest with ⟨rfl, h4⟩ | ⟨q, yq, rfl, hq, hyq, hbq, h4⟩
      · have hno : S.nobest A := by
          intro k hk
          have hs : (tget S.L k).isSome = true := by
            unfold IS.opn at hk
            simp only [Bool.and_eq_true] at hk
            exact hk.1
          obtain ⟨m, hm, he⟩ := hfull k hs
          have hpf := (F.ok hs).1
          cases hb : hasB k A with
          | false => rfl
          | true =>
            have := (hopn m _ he).2 ⟨by rw [hpf]; exact hk, by rw [hpf]; exact hb⟩
            rw [h4 m _ hm he] at this; cases this
        obtain ⟨rfl, rfl⟩ := told_no hno hx
        refine M.ite_y rfl (M.ite_tt ((iknown_a a7).mono fun e w8 g => ?_))
        obtain ⟨r8, rfl, rfl, a8⟩ := g
        exact ⟨_, rfl, hJ _ a8⟩
      · obtain ⟨k, hk1, hk2, hk3, hk4, hk5⟩ := hall q yq hyq
        obtain ⟨hb1, hb2⟩ := (hopn q yq hyq).1 hbq
        have hbst : S.best A k := by
          rw [hk4] at hb1 hb2
          refine ⟨hb1, hb2, fun k' h1 h2 => ?_⟩
          have hs : (tget S.L k').isSome = true := by
            unfold IS.opn at h1
            simp only [Bool.and_eq_true] at h1
            exact h1.1
          obtain ⟨m, hm, he⟩ := hfull k' hs
          have hpf := (F.ok hs).1
          have := h4 m _ hm he ((hopn m _ he).2 ⟨by rw [hpf]; exact h1, by rw [hpf]; exact h2⟩)
          rw [hpf, hk4] at this; exact this
        obtain ⟨rfl, rfl⟩ := told_best hbst hx
        subst hk2
        have rd7 := rd5.keep k57 (by simp)
        obtain ⟨a, ha5⟩ := rd7.some (by omega)
        refine M.ite_y (by rw [decide_eq_true (by omega)]; rfl) (M.ite_ff ⟨a, ha5, by omega, by omega, _, _, _, _, _, _, (B5.keep k57 (by simp)).cs 0 _ rfl, _, _, _, _, _, _, rows_cs wy6 rd7 ha5 hyq, (ibits_c (S.h k) (S.h k)).mono fun e w8 g => ?_⟩)
        obtain ⟨r8, rfl, rfl, k8⟩ := g
        refine ⟨_, rfl, M.ite_y (by simp [bitsW, likeW]) ((iknown_a (a7.new k8)).mono fun e w9 g => ?_)⟩
        obtain ⟨r9, rfl, rfl, a9⟩ := g
        exact ⟨_, rfl, hJ _ a9⟩
theorem imlaw_law (W : World) (args : List Value) (h : GdArgs W [(false, .cons (.slice askSh) .nil), (false, .cons (.int .u32) .nil)] args) : Calls Try.prog 3 args.toArray W fun e W' => e = .returned (.bool true) ∧ Below W.heap.size W W' := by
  obtain ⟨v0, r, rfl, h0, h⟩ := h.one
  obtain ⟨v1, r, rfl, h1, h⟩ := h.one
  cases h
  obtain ⟨s, l, rfl, hs, _, hm, hok⟩ := asks_of h0
  obtain ⟨n1, rfl, _⟩ := good_int h1
  exact (imlaw_c hs hok hm).mono fun e w' ⟨b, he, hb, hw⟩ => by subst hb; exact ⟨he, hw⟩
end Go.Proofs.Ytnkpjlojijppiaa
