/-
  The longest entry, the edges, and where an entry is.
-/
import Derived.Test.YtnfmkedblnajlaaFibP
namespace Go.Proofs.Ytnfmkedblnajlaa
set_option linter.unusedVariables false
set_option linter.unusedSimpArgs false
open Go.Sp

def doR (e : En) : Bool → List En → List En
  | d, [] => if d then [] else [e]
  | d, y :: l => (if !d && decide (kLt e.1 y.1) then [e] else []) ++ (if y.1 = e.1 then [] else [y]) ++ doR e (d || decide (kLt e.1 y.1)) l
def finA (e : En) (r : List En × Bool) : List En := if r.2 then r.1 else r.1 ++ [e]
theorem fold_doR (e : En) : ∀ (l : List En) (acc : List En) (d : Bool), finA e (l.foldl (doStep e) (acc, d)) = acc ++ doR e d l
  | [], acc, d => by cases d <;> simp [doR, finA]
  | y :: l, acc, d => by
    have hs : doStep e (acc, d) y = (acc ++ ((if !d && decide (kLt e.1 y.1) then [e] else []) ++ (if y.1 = e.1 then [] else [y])), d || decide (kLt e.1 y.1)) := by
      unfold doStep
      generalize decide (kLt e.1 y.1) = P
      cases d <;> cases P <;> by_cases h2 : y.1 = e.1 <;> simp [h2]
    show finA e (l.foldl (doStep e) (doStep e (acc, d) y)) = _
    rw [hs, fold_doR e l]
    simp only [doR, List.append_assoc]
theorem doA_eq (cut : Bool) (e : En) (l : List En) : doA cut e l = doR e cut l := by
  have := fold_doR e l [] cut
  rw [List.nil_append] at this
  exact this
theorem doR_true (e : En) : ∀ l : List En, doR e true l = l.filter fun y => !(y.1 == e.1)
  | [] => rfl
  | y :: l => by
    simp only [doR, Bool.not_true, Bool.false_and, Bool.false_eq_true, if_false, List.nil_append, Bool.true_or, doR_true e l]
    by_cases h : y.1 = e.1
    · simp [h]
    · simp [h]
/-- The table behind a cut. -/
theorem do_cut {L : Tbl} {h : Key → List (Int × Int)} (e : En) : ∀ {m : List En}, m.map enf = L.map (fun x => (x.1, h x.1)) → (doA true e m).map enf = (tcut L e.1).map fun x => (x.1, h x.1) := by
  intro m hm
  rw [doA_eq, doR_true]
  unfold tcut
  induction L generalizing m with
  | nil =>
    cases m with
    | nil => rfl
    | cons y m => simp at hm
  | cons x L ih =>
    cases m with
    | nil => simp at hm
    | cons y m =>
      simp only [List.map_cons, List.cons.injEq] at hm
      have h1 : y.1 = x.1 := congrArg Prod.fst hm.1
      have := ih hm.2
      by_cases he : y.1 = e.1
      · have he2 : x.1 = e.1 := by rw [← h1]; exact he
        simp only [List.filter_cons, he, he2, beq_self_eq_true, Bool.not_true, Bool.false_eq_true, if_false]
        exact this
      · have he2 : ¬ x.1 = e.1 := by rw [← h1]; exact he
        simp only [List.filter_cons, beq_iff_eq, he, he2, Bool.not_eq_true', beq_eq_false_iff_ne, ne_eq, not_false_eq_true, if_true, List.map_cons]
        rw [this, hm.1]
theorem map_if {L : Tbl} {h : Key → List (Int × Int)} {k : Key} {l : List (Int × Int)} (hn : ∀ x ∈ L, x.1 ≠ k) : L.map (fun x => (x.1, if x.1 = k then l else h x.1)) = L.map fun x => (x.1, h x.1) :=
  List.map_congr_left fun x hx => by rw [if_neg (hn x hx)]
/-- The table behind a write. -/
theorem do_set {h : Key → List (Int × Int)} (e : En) : ∀ {L : Tbl} {m : List En}, L.Pairwise (fun x y => kLt x.1 y.1) → m.map enf = L.map (fun x => (x.1, h x.1)) → (doA false e m).map enf = (tput L e.1 0).map fun x => (x.1, if x.1 = e.1 then e.2.2 else h x.1) := by
  intro L m hL hm
  rw [doA_eq]
  induction L generalizing m with
  | nil =>
    cases m with
    | nil => simp [doR, tput, enf]
    | cons y m => simp at hm
  | cons x L ih =>
    cases m with
    | nil => simp at hm
    | cons y m =>
      simp only [List.map_cons, List.cons.injEq] at hm
      have h1 : y.1 = x.1 := congrArg Prod.fst hm.1
      rw [List.pairwise_cons] at hL
      have hgt : ∀ {n : List En} {M : Tbl}, n.map enf = M.map (fun x => (x.1, h x.1)) → (∀ z ∈ M, kLt e.1 z.1) → doR e true n = n := by
        intro n M hn hM
        rw [doR_true, List.filter_eq_self]
        intro z hz
        have : enf z ∈ M.map fun x => (x.1, h x.1) := by rw [← hn]; exact List.mem_map.2 ⟨z, hz, rfl⟩
        obtain ⟨u, hu, he⟩ := List.mem_map.1 this
        have hu1 : u.1 = z.1 := congrArg Prod.fst he
        have := hM u hu
        rw [hu1] at this
        have hne : z.1 ≠ e.1 := fun he => by rw [he] at this; exact kLt_irrefl _ this
        simpa using hne
      simp only [doR, tput, Bool.not_false, Bool.true_and, Bool.false_or]
      by_cases he : x.1 = e.1
      · rw [if_pos he]
        have hy : y.1 = e.1 := by rw [h1]; exact he
        have hnl : ¬ kLt e.1 y.1 := by rw [hy]; exact kLt_irrefl _
        rw [decide_eq_false hnl, if_pos hy]
        simp only [Bool.false_eq_true, if_false, List.nil_append, List.map_cons]
        have hall : ∀ z ∈ L, kLt e.1 z.1 := fun z hz => by rw [← he]; exact hL.1 z hz
        rw [map_if (fun z hz e' => by have := hall z hz; rw [e'] at this; exact kLt_irrefl _ this), ← hm.2]
        have : doR e false m = e :: m := by
          cases m with
          | nil => rfl
          | cons z m' =>
            have hz : kLt e.1 z.1 := by
              have hm2 := hm.2
              cases L with
              | nil => simp at hm2
              | cons u L' =>
                simp only [List.map_cons, List.cons.injEq] at hm2
                have : z.1 = u.1 := congrArg Prod.fst hm2.1
                rw [this]; exact hall u List.mem_cons_self
            have hne : z.1 ≠ e.1 := fun he => by rw [he] at hz; exact kLt_irrefl _ hz
            have hm' : m'.map enf = L.tail.map (fun x => (x.1, h x.1)) := by
              have hm2 := hm.2
              cases L with
              | nil => simp at hm2
              | cons u L' => simp only [List.map_cons, List.cons.injEq] at hm2; exact hm2.2
            simp only [doR, Bool.not_false, Bool.true_and, Bool.false_or]
            rw [decide_eq_true hz, if_pos rfl, if_neg hne, hgt hm' (fun u hu => hall u (List.mem_of_mem_tail hu))]
            rfl
        rw [this]
        simp [enf]
      · rw [if_neg he]
        have hy : y.1 ≠ e.1 := by rw [h1]; exact he
        by_cases hlt : kLt e.1 x.1
        · have hlt2 : kLt e.1 y.1 := by rw [h1]; exact hlt
          rw [if_pos hlt, decide_eq_true hlt2, if_neg hy, if_pos rfl]
          have hall : ∀ z ∈ L, kLt e.1 z.1 := fun z hz => kLt_trans hlt (hL.1 z hz)
          rw [hgt hm.2 hall]
          simp only [List.map_append, List.map_cons, List.map_nil, List.singleton_append, List.cons_append, List.nil_append]
          rw [if_neg he, if_pos trivial, map_if (fun z hz e' => by have := hall z hz; rw [e'] at this; exact kLt_irrefl _ this), ← hm.2, hm.1]
          rfl
        · have hlt2 : ¬ kLt e.1 y.1 := by rw [h1]; exact hlt
          rw [if_neg hlt, decide_eq_false hlt2, if_neg hy]
          simp only [Bool.false_eq_true, if_false, List.nil_append, List.singleton_append, List.map_cons]
          rw [if_neg he, ih hL.2 hm.2, hm.1]
/-- Entries and their table. -/
theorem ent_at {S : FS} {m : List En} (hm : m.map enf = S.all) {i : Nat} {x : En} (hx : m[i]? = some x) : (tget S.L x.1).isSome = true ∧ S.h x.1 = x.2.2 ∧ ∃ v, S.L[i]? = some (x.1, v) := by
  have h1 : (m.map enf)[i]? = some (enf x) := by rw [List.getElem?_map, hx]; rfl
  rw [hm] at h1
  unfold FS.all at h1
  rw [List.getElem?_map] at h1
  obtain ⟨z, hz, he⟩ := Option.map_eq_some_iff.1 h1
  have h2 : z.1 = x.1 := congrArg Prod.fst he
  have h3 : S.h z.1 = x.2.2 := congrArg Prod.snd he
  rw [h2] at h3
  exact ⟨tget_isSome.2 ⟨z, List.mem_of_getElem? hz, h2⟩, h3, z.2, by rw [← h2]; exact hz⟩
theorem ent_of {S : FS} {m : List En} (hm : m.map enf = S.all) {k : Key} (hk : (tget S.L k).isSome = true) : ∃ (i : Nat) (x : En), i < m.length ∧ m[i]? = some x ∧ x.1 = k := by
  obtain ⟨z, hz, rfl⟩ := tget_isSome.1 hk
  obtain ⟨i, hi, he⟩ := List.getElem_of_mem hz
  have hl : m.length = S.L.length := by have := congrArg List.length hm; simpa [FS.all] using this
  have hil : i < m.length := by omega
  refine ⟨i, m[i], hil, List.getElem?_eq_getElem hil, ?_⟩
  obtain ⟨_, _, v, hv⟩ := ent_at hm (List.getElem?_eq_getElem hil)
  have h2 : S.L[i]? = some z := by rw [List.getElem?_eq_getElem hi, he]
  rw [h2] at hv
  cases hv; rfl
theorem match_of {S : FS} (hT : Tab S.L) {A : Nat} (hA : A < 4294967296) {k : Key} (h1 : (tget S.L k).isSome = true) (h2 : hasB k A = true) (h3 : ∀ k', (tget S.L k').isSome = true → hasB k' A = true → k'.2 ≤ k.2) : S.match A = some k := by
  unfold FS.match
  have hmem : k ∈ onWay S.L A 33 := (onWay_mem hT hA).2 ⟨by obtain ⟨z, hz, he⟩ := tget_isSome.1 h1; exact List.mem_map.2 ⟨z, hz, he⟩, h2⟩
  cases hg : (onWay S.L A 33).getLast? with
  | none => rw [List.getLast?_eq_none_iff.1 hg] at hmem; simp at hmem
  | some q =>
    obtain ⟨init, hinit⟩ := List.getLast?_eq_some_iff.1 hg
    obtain ⟨q1, q2, q3⟩ := onWay_last hT hA hinit
    have ha := q3 k (by obtain ⟨z, hz, he⟩ := tget_isSome.1 h1; exact List.mem_map.2 ⟨z, hz, he⟩) h2
    obtain ⟨z, hz, he⟩ := List.mem_map.1 q1
    have hb := h3 q (tget_isSome.2 ⟨z, hz, he⟩) q2
    rw [has_eq q2 h2 (by omega)]
theorem match_none {S : FS} (hT : Tab S.L) {A : Nat} (hA : A < 4294967296) (h : ∀ k, (tget S.L k).isSome = true → hasB k A = false) : S.match A = none := by
  unfold FS.match
  cases hg : (onWay S.L A 33).getLast? with
  | none => rfl
  | some q =>
    obtain ⟨init, hinit⟩ := List.getLast?_eq_some_iff.1 hg
    obtain ⟨q1, q2, q3⟩ := onWay_last hT hA hinit
    obtain ⟨z, hz, he⟩ := List.mem_map.1 q1
    rw [h q (tget_isSome.2 ⟨z, hz, he⟩)] at q2; cases q2
theorem rlongest_c {w : World} {s : SV} {m : List En} {S : FS} (hs : EnAt w s m) (hm : m.map enf = S.all) (hT : Tab S.L) (hb : m.length ≤ 5000) {A : Nat} (hA : A < 4294967296) :
    Calls Try.prog 49 #[s.v, .int .u32 (A : Int)] w (R49 fun r w' => ((r = -1 ∧ S.match A = none) ∨ ∃ (q : Nat) (x : En), r = q ∧ m[q]? = some x ∧ S.match A = some x.1) ∧ Keeps [] w w') := by
  have hl := hs.len
  refine F49_ok (M.loop2_by (fun x y w' => ∃ j : Nat, y = j ∧ j ≤ m.length ∧ Keeps [] w w' ∧ ((x = -1 ∧ ∀ (i : Nat) (z : En), i < j → m[i]? = some z → hasB z.1 A = false) ∨ (∃ (q : Nat) (yq : En), x = q ∧ q < j ∧ m[q]? = some yq ∧ hasB yq.1 A = true ∧ ∀ (i : Nat) (z : En), i < j → m[i]? = some z → hasB z.1 A = true → z.1.2 ≤ yq.1.2))) (fun _ y _ => m.length - y.toNat)
      ⟨0, rfl, by omega, Keeps.refl _ _, .inl ⟨rfl, by intro m k h; omega⟩⟩ ?_)
  rintro bi y w6 J1 ⟨j, rfl, hj, k6, hbest⟩ hJ1
  refine M.ite_by (fun c => ?_) (fun c => ?_)
  · have c := of_decide_eq_true c
    have jl : j < m.length := by omega
    have ej := List.getElem?_eq_getElem jl
    have hty : (m[j]).1.1 < 4294967296 := by
      obtain ⟨h1, _, v, hv⟩ := ent_at hm ej
      exact (hT.right _ (List.mem_of_getElem? hv)).1
    have hlast : ∀ {i : Nat} {k : En}, i < j + 1 → m[i]? = some k → (i < j ∨ k = m[j]) := by
      intro i k h1 h2
      by_cases h3 : i < j
      · exact .inl h3
      · right
        obtain rfl : i = j := by omega
        rw [ej] at h2; cases h2; rfl
    generalize m[j] = yj at *
    refine M.join_by (fun (J : Int → World → Prop) => ∀ (x' : Int) (w' : World), Keeps [] w w' → ((x' = -1 ∧ ∀ (i : Nat) (z : En), i < j + 1 → m[i]? = some z → hasB z.1 A = false) ∨ (∃ (q : Nat) (yq : En), x' = q ∧ q < j + 1 ∧ m[q]? = some yq ∧ hasB yq.1 A = true ∧ ∀ (i : Nat) (z : En), i < j + 1 → m[i]? = some z → hasB z.1 A = true → z.1.2 ≤ yq.1.2)) → J x' w') ?_ ?_
    · intro x' w' h1 h2
      rw [w64 (by omega) (by omega)]
      exact hJ1 _ _ _ ⟨j + 1, by omega, by omega, h1, h2⟩ (by omega)
    · intro J2 hJ2
      refine M.join_by (fun (J : Bool → World → Prop) => ∀ (t : Bool) (w' : World), Keeps [] w w' → t = (hasB yj.1 A && (decide (bi < 0) || (match m[bi.toNat]? with | some yq => decide (yq.1.2 < yj.1.2) | none => false))) → J t w') ?_ ?_
      · intro t w' h1 h2
        refine M.ite_by (fun ct => ?_) (fun ct => ?_)
        · rw [ct] at h2
          have h2 := h2.symm
          rw [Bool.and_eq_true] at h2
          obtain ⟨h21, h22⟩ := h2
          refine hJ2 _ _ h1 (.inr ⟨j, yj, rfl, by omega, ej, h21, ?_⟩)
          intro i k hi hk hb
          rcases hlast hi hk with h3 | h3
          · rcases hbest with ⟨rfl, h4⟩ | ⟨q, kq, rfl, hq, hkq, hbq, h4⟩
            · rw [h4 i k h3 hk] at hb; cases hb
            · have h5 := h4 i k h3 hk hb
              rw [Bool.or_eq_true] at h22
              rcases h22 with h6 | h6
              · have := of_decide_eq_true h6; omega
              · rw [Int.toNat_natCast, hkq] at h6
                have := of_decide_eq_true h6
                omega
          · rw [h3]; exact Int.le_refl _
        · rw [ct] at h2
          refine hJ2 _ _ h1 ?_
          rcases hbest with ⟨rfl, h4⟩ | ⟨q, kq, rfl, hq, hkq, hbq, h4⟩
          · left
            refine ⟨rfl, fun i k hi hk => ?_⟩
            rcases hlast hi hk with h3 | h3
            · exact h4 i k h3 hk
            · rw [h3]
              rw [show decide ((-1 : Int) < 0) = true from rfl, Bool.true_or, Bool.and_true] at h2
              exact h2.symm
          · right
            refine ⟨q, kq, rfl, by omega, hkq, hbq, fun i k hi hk hb => ?_⟩
            rcases hlast hi hk with h3 | h3
            · exact h4 i k h3 hk hb
            · rw [h3] at hb ⊢
              rw [hb, Int.toNat_natCast, hkq] at h2
              rw [decide_eq_false (by omega), Bool.false_or, Bool.true_and] at h2
              have := of_decide_eq_false h2.symm
              omega
      · intro J3 hJ3
        have kd := Keeps.drew [] w6
        have k8 := k6.trans kd (by simp)
        have rd8 := hs.1.keep k8 (by simp)
        obtain ⟨a, ha5⟩ := rd8.some (by omega)
        refine M.drew_by ⟨a, ha5, by omega, by omega, _, rows_at0 env3 rd8 ha5 ej (v := .int .u32 (yj.1.1 : Int)) rfl, _, rows_at env3 rd8 ha5 ej (j := 1) (v := .int .i64 yj.1.2) rfl, (has_c hty hA).mono fun e w9 h => ?_⟩
        obtain ⟨r9, rfl, rfl, k9⟩ := h
        have k19 := k8.trans k9 (by simp)
        have rd9 := hs.1.keep k19 (by simp)
        refine ⟨_, rfl, M.ite_by (fun c8 => ?_) (fun c8 => hJ3 _ _ k19 (by rw [c8]; rfl))⟩
        refine M.ite_by (fun c10 => ?_) (fun c10 => ?_)
        · exact hJ3 _ _ k19 (by rw [c8, c10]; rfl)
        · have c10' := of_decide_eq_false c10
          rcases hbest with ⟨rfl, h4⟩ | ⟨q, kq, rfl, hq, hkq, hbq, h4⟩
          · omega
          · have g1 := rows_at env3 rd9 ha5 ej (j := 1) (v := .int .i64 yj.1.2) rfl
            have g2 := rows_at env3 rd9 ha5 hkq (j := 1) (v := .int .i64 kq.1.2) rfl
            refine ⟨a, ha5, by omega, by omega, a, ha5, by omega, by omega, _, g1, _, g2, hJ3 _ _ k19 ?_⟩
            rw [c8, c10, Int.toNat_natCast, hkq]; simp
  · have c := of_decide_eq_false c
    obtain rfl : j = m.length := by omega
    refine ⟨?_, k6⟩
    rcases hbest with ⟨rfl, h4⟩ | ⟨q, yq, rfl, hq, hyq, hbq, h4⟩
    · refine .inl ⟨rfl, match_none hT hA fun k hk => ?_⟩
      obtain ⟨i, x, hi, hx, rfl⟩ := ent_of hm hk
      exact h4 i x hi hx
    · refine .inr ⟨q, yq, rfl, hyq, match_of hT hA (ent_at hm hyq).1 hbq fun k hk hb => ?_⟩
      obtain ⟨i, x, hi, hx, rfl⟩ := ent_of hm hk
      exact h4 i x hi hx hb
theorem ents_right {S : FS} {m : List En} (hm : m.map enf = S.all) (hT : Tab S.L) (hh : ∀ k, (tget S.L k).isSome = true → hopsB (S.h k) = true) : entsGo m m.length = true := by
  unfold entsGo
  rw [List.all_eq_true]
  intro i hi
  have hi := List.mem_range.1 hi
  have ei := List.getElem?_eq_getElem hi
  rw [ei]
  obtain ⟨h1, h2, v, hv⟩ := ent_at hm ei
  have hr := (hT.right _ (List.mem_of_getElem? hv)).2
  have hho := hh _ h1
  rw [h2] at hho
  show entAt m i m[i] = true
  unfold entAt
  rw [hr, hho, Bool.true_and, Bool.and_true]
  by_cases h0 : i = 0
  · simp [h0]
  · have hp : i - 1 < m.length := by omega
    have ep := List.getElem?_eq_getElem hp
    obtain ⟨_, _, v', hv'⟩ := ent_at hm ep
    rw [ep]
    obtain ⟨g1, g2⟩ := List.getElem?_eq_some_iff.1 hv
    obtain ⟨g3, g4⟩ := List.getElem?_eq_some_iff.1 hv'
    have := List.pairwise_iff_getElem.1 hT.sorted (i - 1) i g3 g1 (by omega)
    rw [g2, g4] at this
    simp [this]
theorem rfind_c {w : World} {s : SV} {m : List En} {S : FS} (hs : EnAt w s m) (hm : m.map enf = S.all) (hT : Tab S.L) (hh : ∀ k, (tget S.L k).isSome = true → hopsB (S.h k) = true) (hb : m.length ≤ 4096) {A : Nat} (hA : A < 4294967296) :
    Calls Try.prog 38 #[s.v, .int .u32 (A : Int)] w (R38 fun r w' => Rd 2 w' r (hvs (match S.match A with | some k => S.h k | none => [])) ∧ Keeps [] w w') := by
  have hl := hs.len
  have hty : ∀ x ∈ m, x.1.1 < 4294967296 := fun x hx => by
    obtain ⟨i, hi, he⟩ := List.getElem_of_mem hx
    obtain ⟨_, _, v, hv⟩ := ent_at hm (List.getElem?_eq_getElem hi)
    rw [he] at hv
    exact (hT.right _ (List.mem_of_getElem? hv)).1
  refine F38_ok ((rright24_c hs hty hb).mono fun e w1 g => ?_)
  obtain ⟨r1, rfl, rfl, k1⟩ := g
  rw [ents_right hm hT hh]
  refine ⟨_, rfl, M.ite_ff ((rlongest_c (hs.new k1) hm hT (by omega) hA).mono fun e w2 g => ?_)⟩
  obtain ⟨r2, rfl, g, k2⟩ := g
  have k02 := k1.trans k2 (by simp)
  refine ⟨_, rfl, ?_⟩
  rcases g with ⟨rfl, hn⟩ | ⟨q, x, rfl, hq, hx⟩
  · rw [hn]
    exact M.ite_tt ⟨Rd.nil _ _, k02⟩
  · rw [hx]
    have hs2 := hs.new k02
    obtain ⟨hql, _⟩ := List.getElem?_eq_some_iff.1 hq
    obtain ⟨a, ha⟩ := hs2.1.some (by omega)
    have e2 := rows_at env3 hs2.1 ha hq (j := 2) (v := x.2.1.v) rfl
    have h2 := (ent_at hm hq).2.1
    refine M.ite_n (decide_eq_false (by omega)) ⟨a, ha, by omega, by omega, _, e2, ?_, k02⟩
    show Rd 2 w2 x.2.1 (hvs (S.h x.1))
    rw [h2]
    exact (hs2.2 x (List.mem_of_getElem? hq)).1
theorem u32El : elemB Try.prog 23 1 4 = true := by kernel_rfl
theorem u32Sl : sliceB Try.prog 76 23 1 = true := by kernel_rfl
def nv (l : List Nat) : List Value := l.map fun n : Nat => Value.int .u32 (n : Int)
theorem nv_one (l : List Nat) : ∀ u ∈ nv l, u.oneCell' = true := by
  intro u hu
  obtain ⟨x, _, rfl⟩ := List.mem_map.1 hu
  rfl
theorem redges_c {w : World} {c : Nat} {s : SV} {m : List En} (C : Rd 1 w ⟨some ⟨c, 0, none⟩, 1, 1⟩ [s.v]) (hs : EnAt w s m) (hb : m.length ≤ 5000) (hty : ∀ x ∈ m, x.1.1 < 4294967296) :
    Calls Try.prog 36 #[(SV.mk (some ⟨c, 0, none⟩) 1 1).v] w (R36 fun r w' => (∃ l : List Nat, Rd 1 w' r (nv l) ∧ (∀ n ∈ l, n < 4294967296) ∧ l.length ≤ 100000) ∧ Keeps [] w w') := by
  have hl := hs.len
  refine F36_ok (newn_k (cs := [Value.int .u32 0]) (e := 23) (sz := 1) (n := 1) rfl (by omega) (Keeps.refl [] w) fun b w1 g1 g2 o1 k1 k01 => ?_)
  refine M.loop2_by (fun x y w' => ∃ (i : Nat) (l : List Nat), y = i ∧ i ≤ 1 ∧ Own 23 1 w' x (nv l) ∧ (∀ n ∈ l, n < 4294967296) ∧ l.length ≤ 1 + 2 * m.length * i ∧ (∀ z ∈ x.blk, w.heap.size ≤ z) ∧ Keeps [] w w') (fun _ y _ => 1 - y.toNat)
    ⟨0, [0], rfl, by omega, o1, by simp, by simp, by intro z hz; simp [SV.blk] at hz; omega, k01⟩ ?_
  rintro x y w2 J ⟨i, l, rfl, hi, o2, h2, hl2, f2, k2⟩ hJ
  refine M.ite_by (fun c1 => ?_) (fun c1 => ⟨⟨l, o2.rd, h2, by have : i ≤ 1 := hi; have : 2 * m.length * i ≤ 2 * m.length * 1 := Nat.mul_le_mul_left _ hi; omega⟩, k2⟩)
  have c1 : (i : Int) < 1 := of_decide_eq_true c1
  obtain rfl : i = 0 := by omega
  have C2 := C.keep k2 (by simp)
  have e0 := C2.at (a := ⟨c, 0, none⟩) rfl (i := 0) (v := s.v) rfl
  refine ⟨_, rfl, by omega, c1, s, e0, ?_⟩
  refine M.loop2_by (fun x y w' => ∃ (i : Nat) (l : List Nat), y = i ∧ i ≤ m.length ∧ Own 23 1 w' x (nv l) ∧ (∀ n ∈ l, n < 4294967296) ∧ l.length ≤ 1 + 2 * i ∧ (∀ z ∈ x.blk, w.heap.size ≤ z) ∧ Keeps [] w w') (fun _ y _ => m.length - y.toNat)
    ⟨0, l, rfl, by omega, o2, h2, by omega, f2, k2⟩ ?_
  rintro x3 y3 w3 J3 ⟨i, l3, rfl, hi3, o3, h3, hl3, f3, k3⟩ hJ3
  refine M.ite_by (fun c3 => ?_) (fun c3 => ?_)
  · have c3 := of_decide_eq_true c3
    have il : i < m.length := by omega
    have ei := List.getElem?_eq_getElem il
    have ht := hty _ (List.getElem_mem il)
    generalize m[i] = z at *
    have hs3 := hs.1.keep k3 (by simp)
    obtain ⟨a, ha⟩ := hs3.some (by omega)
    refine ⟨a, ha, by omega, by omega, _, rows_at0 env3 hs3 ha ei (v := .int .u32 (z.1.1 : Int)) rfl, _, rows_at env3 hs3 ha ei (j := 1) (v := .int .i64 z.1.2) rfl, M.new_blk fun b4 w4 hb4 B4 k4 => M.stA_blk B4 rfl fun w5 B5 k5 => M.drew_by ?_⟩
    have kd := Keeps.drew [] w5
    have k36 : Keeps [] w3 w5.drew := (k4.trans k5 (by simp; omega)).trans kd (by simp)
    have B6 := B5.keep kd (by simp)
    refine ⟨_, B6.cell 0, _, B6.cell 0, _, B6.cell 1, (rmask_c z.1.2).mono fun e w7 g => ?_⟩
    obtain ⟨r7, rfl, rfl, hw⟩ := g
    obtain rfl := hw.symm
    refine ⟨_, rfl, B6.cell 0, B6.cell 0, ?_⟩
    have k06 := k3.trans k36 (by simp)
    obtain ⟨n2, hn2, hn2l⟩ : ∃ n : Nat, IntKind.u32.wrap ((bOr .u32 (z.1.1 : Int) (bXor .u32 (IntKind.max .u32) (maskN (clampN z.1.2) : Int))) + (1 : Int)) = (n : Int) ∧ n < 4294967296 := by
      rw [IntKind.wrap_u32]
      exact ⟨(_ % 4294967296 : Int).toNat, by rw [Int.toNat_of_nonneg (by omega)], by omega⟩
    try dsimp only
    rw [hn2]
    have hol := o3.rd.len
    simp only [nv, List.length_map, Nat.mul_one] at hol
    refine newn_k (cs := nv [z.1.1, n2]) (e := 23) (sz := 1) (n := 2) rfl (by omega) k06 fun b8 w8 g3 g4 o8 k8 k08 => app_k u32Sl u32El k08 f3 ((o3.keep k36 (by simp)).keep k8 (by simp)) o8.rd (nv_one _) (by simp only []; omega) fun r9 w9 o9 n9 f9 k89 k09 => ?_
    rw [w64 (by omega) (by omega)]
    refine hJ3 _ _ _ ⟨i + 1, l3 ++ [z.1.1, n2], by omega, by omega, by simpa [nv] using o9, ?_, by simp; omega, f9, k09⟩ (by omega)
    intro n hn
    rcases List.mem_append.1 hn with h | h
    · exact h3 n h
    · simp at h
      rcases h with rfl | rfl
      · exact ht
      · exact hn2l
  · have c3 := of_decide_eq_false c3
    obtain rfl : i = m.length := by omega
    rw [w64 (by omega) (by omega)]
    exact hJ _ _ _ ⟨1, l3, by omega, by omega, o3, h3, by omega, f3, k3⟩ (by omega)
/-- The played table lies in memory. -/
def PAt (w : World) (q : Nat) (R : List Nat) (room : Int) (m : List En) (n : Nat) : Prop :=
  q < w.heap.size ∧ q ∉ R ∧ (∀ x ∈ R, x < w.heap.size) ∧ ∃ s : SV, Blk w q 53 [s.v, .int .i64 room, .int .i64 (n : Int)] ∧ EnAt w s m ∧ (m ≠ [] → ∀ y ∈ s.blk, y ∈ R) ∧ ∀ z ∈ m, z.2.2 ≠ [] → ∀ y ∈ z.2.1.blk, y ∈ R
theorem EnAt.keep {w w' : World} {s : SV} {m : List En} {D : List Nat} (h : EnAt w s m) (k : Keeps D w w') (h1 : m ≠ [] → ∀ y ∈ s.blk, y ∉ D) (h2 : ∀ z ∈ m, z.2.2 ≠ [] → ∀ y ∈ z.2.1.blk, y ∉ D) : EnAt w' s m :=
  ⟨h.1.keep' k (fun hne => h1 (fun e => hne (by rw [e]; rfl))), fun z hz => ⟨(h.2 z hz).1.keep' k (fun hne => h2 z hz (fun e => hne (by rw [e]; rfl))), (h.2 z hz).2⟩⟩
theorem PAt.keep {w w' : World} {q : Nat} {R : List Nat} {room : Int} {m : List En} {n : Nat} {D : List Nat} (h : PAt w q R room m n) (k : Keeps D w w') (hq : q ∉ D) (hR : ∀ x ∈ R, x ∉ D) : PAt w' q R room m n := by
  obtain ⟨h1, h2, h3, s, h4, h5, h6, h7⟩ := h
  exact ⟨Nat.lt_of_lt_of_le h1 k.size, h2, fun x hx => Nat.lt_of_lt_of_le (h3 x hx) k.size, s, h4.keep k hq, h5.keep k (fun hne y hy => hR y (h6 hne y hy)) (fun z hz hne y hy => hR y (h7 z hz hne y hy)), h6, h7⟩
theorem fat_c {w : World} {q : Nat} {R : List Nat} {room : Int} {m : List En} {n : Nat} (h : PAt w q R room m n) (hb : m.length ≤ 5000) (a : Nat) (ln : Int) :
    Calls Try.prog 32 #[.pointer (some ⟨q, 0, none⟩), .agg #[.int .u32 (a : Int), .int .i64 ln]] w (R32 fun r w' => ((r = -1 ∧ ∀ x ∈ m, x.1 ≠ (a, ln)) ∨ ∃ (i : Nat) (x : En), r = i ∧ m[i]? = some x ∧ x.1 = (a, ln)) ∧ Keeps [] w w') := by
  obtain ⟨_, _, _, s, Q, hs, _, _⟩ := h
  have hl := hs.len
  refine F32_ok (M.new_blk fun b2 w1 hb2 B k1 => ?_)
  refine M.loop1_by (fun x w' => ∃ i : Nat, x = i ∧ i ≤ m.length ∧ Keeps [] w1 w' ∧ ∀ (j : Nat) (y : En), j < i → m[j]? = some y → y.1 ≠ (a, ln)) (fun x _ => m.length - x.toNat) ⟨0, rfl, by omega, Keeps.refl _ _, fun m y h => by omega⟩ ?_
  rintro x w3 J ⟨i, rfl, hi, k3, hno⟩ hJ
  have k03 := k1.trans k3 (by simp)
  have Q3 := Q.keep k03 (by simp)
  refine ⟨_, rfl, _, Q3.cell 0, M.ite_by (fun c => ?_) (fun c => ?_)⟩
  · have c := of_decide_eq_true c
    have il : i < m.length := by omega
    have ei := List.getElem?_eq_getElem il
    generalize m[i] = y at *
    have kd := Keeps.drew [] w3
    have k14 := k3.trans kd (by simp)
    have k04 := k03.trans kd (by simp)
    have Q4 := Q3.keep kd (by simp)
    have B4 := B.keep k14 (by simp)
    have rd4 := hs.1.keep k04 (by simp)
    obtain ⟨ax, hax⟩ := rd4.some (by omega)
    refine M.drew_by ⟨_, rfl, _, Q4.cell 0, ax, hax, by omega, by omega, _, rows_at0 env3 rd4 hax ei (v := .int .u32 (y.1.1 : Int)) rfl, _, rows_at env3 rd4 hax ei (j := 1) (v := .int .i64 y.1.2) rfl, _, B4.cell 0, _, B4.cell 1, ?_⟩
    have hkb := key_beq y.1 (a, ln)
    try dsimp only
    rw [hkb]
    refine M.ite_by (fun c1 => ?_) (fun c1 => ?_)
    · have c1 : y.1 = (a, ln) := by simpa using c1
      exact ⟨.inr ⟨i, y, rfl, ei, c1⟩, k04⟩
    · have c1 : y.1 ≠ (a, ln) := by simpa using c1
      rw [w64 (by omega) (by omega)]
      refine hJ _ _ ⟨i + 1, by omega, by omega, k14, fun j z hj hz => ?_⟩ (by omega)
      by_cases hji : j = i
      · subst hji; rw [ei] at hz; cases hz; exact c1
      · exact hno j z (by omega) hz
  · have c := of_decide_eq_false c
    obtain rfl : i = m.length := by omega
    refine ⟨.inl ⟨rfl, fun x hx => ?_⟩, k03⟩
    obtain ⟨j, hj, he⟩ := List.getElem_of_mem hx
    exact hno j x hj (by rw [List.getElem?_eq_getElem hj, he])
end Go.Proofs.Ytnfmkedblnajlaa
