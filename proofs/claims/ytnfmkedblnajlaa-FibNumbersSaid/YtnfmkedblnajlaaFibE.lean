/-
  Entries of a forwarding table; what is asked of one.
-/
import Derived.Test.YtnfmkedblnajlaaFibD
import Derived.Test.YtnfmkedblnajlaaSpRows
namespace Go.Proofs.Ytnfmkedblnajlaa
set_option linter.unusedVariables false
set_option linter.unusedSimpArgs false
open Go.Sp
open Go.RowKit (Below)

theorem entEl : elemB Try.prog 35 3 40 = true := by kernel_rfl
theorem entSl : sliceB Try.prog 45 35 3 = true := by kernel_rfl
abbrev En := Key × SV × List (Int × Int)
def env (x : En) : List Value := [.int .u32 (x.1.1 : Int), .int .i64 x.1.2, x.2.1.v]
theorem env3 (x : En) : (env x).length = 3 := rfl
theorem env_one (l : List En) : ∀ u ∈ l.flatMap env, u.oneCell' = true := by
  intro u hu
  simp only [List.mem_flatMap, env] at hu
  obtain ⟨x, _, hx⟩ := hu
  simp only [List.mem_cons, List.not_mem_nil, or_false] at hx
  rcases hx with rfl | rfl | rfl <;> rfl
def enf (x : En) : Key × List (Int × Int) := (x.1, x.2.2)
/-- Entries as they lie in memory. -/
def EnAt (w : World) (s : SV) (l : List En) : Prop := Rd 3 w s (l.flatMap env) ∧ ∀ x ∈ l, Rd 2 w x.2.1 (hvs x.2.2) ∧ x.2.2.length ≤ 1000
theorem EnAt.new {w w' : World} {s : SV} {l : List En} (h : EnAt w s l) (k : Keeps [] w w') : EnAt w' s l := ⟨h.1.keep k (by simp), fun x hx => ⟨(h.2 x hx).1.keep k (by simp), (h.2 x hx).2⟩⟩
theorem EnAt.len {w : World} {s : SV} {l : List En} (h : EnAt w s l) : s.len = l.length := rows_len env3 (by omega) h.1
/-- What a table holds, in its order. -/
def FS.all (S : FS) : List (Key × List (Int × Int)) := S.L.map fun x => (x.1, S.h x.1)
theorem fall_c {w : World} {X : List Nat} {p : Nat} {room : Int} {S : FS} (F : FibAt w X p room S) :
    Calls Try.prog 16 #[.pointer (some ⟨p, 0, none⟩)] w (R16 fun r w' => (∃ l, EnAt w' r l ∧ l.map enf = S.all ∧ ∀ z ∈ l, ∀ y ∈ z.2.1.blk, w.heap.size ≤ y) ∧ (∀ y ∈ r.blk, w.heap.size ≤ y) ∧ Keeps [] w w') := by
  obtain ⟨t, r, D, es, F⟩ := F
  refine F16_ok ⟨_, rfl, _, F.tbl.cell 1, (tall_c F.trie (by have := F.few; omega)).mono fun e w1 g => ?_⟩
  obtain ⟨r1, rfl, o1, f1, k1⟩ := g
  have hks := pf_len o1.rd
  rw [List.length_map] at hks
  have hfew := F.few
  refine ⟨_, rfl, M.loop2_by (fun s x w' => ∃ (i : Nat) (l : List En), x = i ∧ i ≤ S.L.length ∧ Own 35 3 w' s (l.flatMap env) ∧ (∀ y ∈ s.blk, w1.heap.size ≤ y) ∧ (∀ z ∈ l, Rd 2 w' z.2.1 (hvs z.2.2) ∧ z.2.2.length ≤ 1000 ∧ ∀ y ∈ z.2.1.blk, y ∉ s.blk ∧ y < w'.heap.size ∧ w.heap.size ≤ y) ∧ l.map enf = S.all.take i ∧ Keeps [] w1 w') (fun _ x _ => S.L.length - x.toNat)
    ⟨0, [], rfl, by omega, Own.nil _ _ _, by simp [SV.blk], by simp, rfl, Keeps.refl _ _⟩ ?_⟩
  rintro s x w2 J ⟨i, l, rfl, hi, o2, f2, hl, he, k2⟩ hJ
  have k02 := k1.trans k2 (by simp)
  refine M.ite_by (fun c => ?_) (fun c => ?_)
  · have c := of_decide_eq_true c
    have il : i < S.L.length := by omega
    have o12 := o1.keep k2 (by simp)
    obtain ⟨ax, hax⟩ := o12.rd.some (by omega)
    have ei : (S.L.map (·.1))[i]? = some S.L[i].1 := by simp [il]
    have hmem : S.L[i] ∈ S.L := List.getElem_mem il
    have e1 := pf_at o12.rd hax ei
    have hall : S.all.take (i + 1) = S.all.take i ++ [(S.L[i].1, S.h S.L[i].1)] := by
      rw [List.take_add_one]
      simp [FS.all, il]
    have hsome : (tget S.L S.L[i].1).isSome = true := tget_isSome.2 ⟨_, hmem, rfl⟩
    generalize S.L[i].1 = q at *
    refine ⟨ax, hax, by omega, by omega, _, e1.1, _, e1.2, M.new_blk fun b3 w3 hb3 B3 k3 => M.stA_blk B3 rfl fun w4 B4 k4 => M.drew_by ?_⟩
    have kd := Keeps.drew [] w4
    have k25 : Keeps [] w2 w4.drew := (k3.trans k4 (by simp; omega)).trans kd (by simp)
    have B5 := B4.keep kd (by simp)
    have F5 := F.keep (k02.trans k25 (by simp)) (by simp)
    generalize w4.drew = w5 at *
    obtain ⟨s5, _, l5, rd5, hl5⟩ := F5.look q
    have hq : S.get q = S.h q := by unfold FS.get; rw [if_pos hsome]
    rw [hq] at rd5 hl5
    refine ⟨_, rfl, _, B5.cell 0, _, B5.cell 1, _, F5.tbl.cell 2, _, B5.cell 0, _, B5.cell 1, s5, l5, (hclone_c rd5 (by omega)).mono fun e w6 g => ?_⟩
    obtain ⟨r6, rfl, rd6, f6, k6⟩ := g
    have B6 := B5.keep k6 (by simp)
    have k26 := k25.trans k6 (by simp)
    refine ⟨_, rfl, B6.cell 0, B6.cell 1, M.new_by ?_⟩
    have kal := Keeps.alloc [] w6 (.cells #[Value.int .u32 (q.1 : Int), Value.int .i64 q.2, r6.v] 35)
    have hnew := (Own.new w6 35 3 1 (env (q, r6, S.h q)) rfl (by decide)).rd
    have hol := o2.rd
    have hsl := rows_len env3 (by omega) hol
    have hll : l.length = i := by
      have := congrArg List.length he
      simp [FS.all] at this; omega
    obtain ⟨r7, w7, v1, v2, v3, v4, v5⟩ := app_own (P := Try.prog) (ty := 45) entSl entEl (o2.keep (k26.trans kal (by simp)) (by simp)) (x := ⟨some ⟨w6.heap.size, 0, none⟩, 1, 1⟩) (news := env (q, r6, S.h q)) hnew (by simpa using env_one [(q, r6, S.h q)]) (by simp; omega)
    have h6 := k6.size
    have h25 := k25.size
    have h26 := k26.size
    have h7 := v4.size
    have hals : (w6.alloc (.cells #[Value.int .u32 (q.1 : Int), Value.int .i64 q.2, r6.v] 35)).heap.size = w6.heap.size + 1 := by simp
    have hs2 := o2.lt
    have hr6 : ∀ y ∈ r6.blk, y ∉ s.blk := fun y hy h => by
      have := (f6 y hy).1
      have := hs2 y h; omega
    have ks : Keeps s.blk w2 w7 := ((k26.trans kal (by simp)).up).and v4
    refine ⟨r7, w7, v1, ?_⟩
    rw [w64 (by omega) (by omega)]
    refine hJ _ _ _ ⟨i + 1, l ++ [(q, r6, S.h q)], by omega, by omega, by rw [List.flatMap_append]; simpa using v2, ?_, ?_, ?_, ?_⟩ (by omega)
    · intro y hy
      rcases v5 y hy with h | h
      · exact f2 y h
      · have := k2.size; omega
    · intro z hz
      rcases List.mem_append.1 hz with hz | hz
      · obtain ⟨z1, z2, z3⟩ := hl z hz
        refine ⟨z1.keep ks (fun y hy => (z3 y hy).1), z2, fun y hy => ⟨fun h => ?_, by have := (z3 y hy).2.1; omega, (z3 y hy).2.2⟩⟩
        rcases v5 y h with h | h
        · exact (z3 y hy).1 h
        · have := (z3 y hy).2.1; omega
      · simp at hz; subst hz
        refine ⟨(rd6.keep kal (by simp)).keep v4 hr6, by show (S.h q).length ≤ 1000; omega, fun y hy => ⟨fun h => ?_, by have := (f6 y hy).2; omega, by have := (f6 y hy).1; have := k02.size; omega⟩⟩
        rcases v5 y h with h | h
        · exact hr6 y hy h
        · have := (f6 y hy).2; omega
    · rw [List.map_append, he, hall]; rfl
    · exact k2.trans ks (fun y hy => .inr (f2 y hy))
  · have c := of_decide_eq_false c
    have : i = S.L.length := by omega
    subst this
    refine ⟨⟨l, ⟨o2.rd, fun z hz => ⟨(hl z hz).1, (hl z hz).2.1⟩⟩, by rw [he]; exact List.take_of_length_le (by simp [FS.all]), fun z hz y hy => ((hl z hz).2.2 y hy).2.2⟩, fun y hy => Nat.le_trans k1.size (f2 y hy), k02⟩
theorem ents_c {w : World} {s t : SV} {l m : List En} (hs : EnAt w s l) (ht : EnAt w t m) (hb : l.length ≤ 1000000) :
    Calls Try.prog 18 #[s.v, t.v] w (R18 fun r w' => r = decide (l.map enf = m.map enf) ∧ Keeps [] w w') := by
  have hl := hs.len
  have hm := ht.len
  refine F18_ok (M.ite_by (fun c => ?_) (fun c => ?_))
  · have c : l.length ≠ m.length := by simp at c; omega
    rw [decide_eq_false (fun h => c (by have := congrArg List.length h; simpa using this))]
    exact ⟨rfl, Keeps.refl _ _⟩
  · have c : l.length = m.length := by simp at c; omega
    refine M.loop1_by (fun x w' => ∃ i : Nat, x = i ∧ i ≤ l.length ∧ Keeps [] w w' ∧ (l.take i).map enf = (m.take i).map enf) (fun x _ => l.length - x.toNat) ⟨0, rfl, by omega, Keeps.refl _ _, rfl⟩ ?_
    rintro x w1 J ⟨i, rfl, hi, k1, he⟩ hJ
    refine M.ite_by (fun c1 => ?_) (fun c1 => ?_)
    · have c1 := of_decide_eq_true c1
      have il : i < l.length := by omega
      have im : i < m.length := by omega
      have ei := List.getElem?_eq_getElem il
      have em := List.getElem?_eq_getElem im
      have hmi := List.getElem_mem il
      have hmm := List.getElem_mem im
      have h1 : l.take (i + 1) = l.take i ++ [l[i]] := by rw [List.take_add_one, ei]; rfl
      have h2 : m.take (i + 1) = m.take i ++ [m[i]] := by rw [List.take_add_one, em]; rfl
      generalize l[i] = u at *
      generalize m[i] = v at *
      have kd := Keeps.drew [] w1
      have k2 := k1.trans kd (by simp)
      obtain ⟨ax, hax⟩ := (hs.1.keep k2 (by simp)).some (by omega)
      obtain ⟨ay, hay⟩ := (ht.1.keep k2 (by simp)).some (by omega)
      have e0 := rows_at0 env3 (hs.1.keep k2 (by simp)) hax ei (v := .int .u32 (u.1.1 : Int)) rfl
      have e1 := rows_at env3 (hs.1.keep k2 (by simp)) hax ei (j := 1) (v := .int .i64 u.1.2) rfl
      have e2 := rows_at env3 (hs.1.keep k2 (by simp)) hax ei (j := 2) (v := u.2.1.v) rfl
      have g0 := rows_at0 env3 (ht.1.keep k2 (by simp)) hay em (v := .int .u32 (v.1.1 : Int)) rfl
      have g1 := rows_at env3 (ht.1.keep k2 (by simp)) hay em (j := 1) (v := .int .i64 v.1.2) rfl
      have g2 := rows_at env3 (ht.1.keep k2 (by simp)) hay em (j := 2) (v := v.2.1.v) rfl
      have hne : enf u ≠ enf v → decide (l.map enf = m.map enf) = false := by
        intro hne
        apply decide_eq_false
        intro h
        have := congrArg (·[i]?) h
        simp [ei, em] at this
        exact hne this
      refine M.join_by (fun (J : Bool → World → Prop) => ∀ w', Keeps [] w w' → J (!decide (enf u = enf v)) w') (fun w' k' => ?_) fun J2 hJ2 => M.drew_by ⟨ax, hax, by omega, c1, ay, hay, by omega, by omega, _, e0, _, e1, _, g0, _, g1, ?_⟩
      · refine M.ite_by (fun c2 => ?_) (fun c2 => ?_)
        · rw [hne (by simpa using c2)]; exact ⟨rfl, k'⟩
        · rw [w64 (by omega) (by omega)]
          exact hJ _ _ ⟨i + 1, by omega, by omega, k', by rw [h1, h2, List.map_append, List.map_append, he]; simp only [List.map_cons, List.map_nil]; rw [show enf u = enf v by simpa using c2]⟩ (by omega)
      · refine M.ite_by (fun c2 => ?_) (fun c2 => ?_)
        · have : enf u ≠ enf v := by
            intro h
            have h : (enf u).1 = (enf v).1 := by rw [h]
            have h : u.1 = v.1 := h
            rw [h] at c2; simp at c2
          have h3 := hJ2 _ k2
          rw [decide_eq_false this] at h3
          exact h3
        · have c2 : u.1 = v.1 := by
            have c2 : (((u.1.1 : Int) == v.1.1) && (u.1.2 == v.1.2)) = true := by simpa using c2
            simp at c2
            exact Prod.ext (by omega) c2.2
          have hlu := (hs.2 _ hmi).2
          refine ⟨ax, hax, by omega, c1, ay, hay, by omega, by omega, _, e2, _, g2, (hsame_c ((hs.2 _ hmi).1.keep k2 (by simp)) ((ht.2 _ hmm).1.keep k2 (by simp)) (by omega)).mono fun e w3 g => ?_⟩
          obtain ⟨r3, rfl, rfl, k3⟩ := g
          refine ⟨_, rfl, ?_⟩
          have h3 := hJ2 _ (k2.trans k3 (by simp))
          have : decide (enf u = enf v) = (u.2.2 == v.2.2) := by
            unfold enf; rw [c2, Bool.eq_iff_iff]; simp
          rw [this] at h3
          exact h3
    · have c1 := of_decide_eq_false c1
      rw [List.take_of_length_le (by omega), List.take_of_length_le (by omega)] at he
      exact ⟨by rw [he]; simp, k1⟩
/-- What an ask's entry is. -/
def askEn (few : Bool) (N Ln : Int) (A : Nat) (l : List (Int × Int)) : Key × List (Int × Int) :=
  if few then (kp A Ln, if 0 < Int.tmod N 3 then [(Int.tmod N 3, 16)] else []) else ((A, Ln), l.take 18)
theorem fentry_c {w : World} (kind N Ln : Int) (A : Nat) (few : Bool) {s : SV} {l : List (Int × Int)} (hs : Rd 2 w s (hvs l)) :
    Calls Try.prog 9 #[.agg #[.int .i64 kind, .int .i64 N, .int .i64 Ln, .int .u32 (A : Int), s.v, .bool few]] w (R9 fun x y t w' => x = ((askEn few N Ln A l).1.1 : Int) ∧ y = (askEn few N Ln A l).1.2 ∧ Rd 2 w' t (hvs (askEn few N Ln A l).2) ∧ (∀ y ∈ t.blk, (few = false ∧ y ∈ s.blk) ∨ w.heap.size ≤ y) ∧ Keeps [] w w') := by
  have hl := h_len hs
  have hcap := hs.cap
  refine F9_ok (M.new_blk fun b2 w1 hb2 B2 k1 => M.new_blk fun b4 w2 hb4 B4 k2 => ?_)
  have hb2l := B2.lt
  have B2 := B2.keep k2 (by simp)
  have k02 := k1.trans k2 (by simp)
  refine M.join_by (fun (J : World → Prop) => ∀ (t : SV) w', Blk w' b2 30 [.int .i64 kind, .int .i64 N, .int .i64 Ln, .int .u32 (A : Int), t.v, .bool few] → Keeps [b2] w2 w' → Rd 2 w' t (hvs (l.take 18)) → t.blk = s.blk → J w') (fun t w3 B3 k3 ht hb => ?_) fun J hJ => ⟨_, B2.cell 4, M.ite_by (fun c => ?_) (fun c => ?_)⟩
  rotate_left
  · have c := of_decide_eq_true c
    refine ⟨_, B2.cell 4, by omega, by omega, by omega, M.st_blk B2 (by simp) fun w3 B3 k3 => hJ _ w3 B3 k3 ?_ (SV.sub_blk _ _ _ _)⟩
    have h1 := (hs.keep k02 (by simp)).keep' k3 (fun _ x hx h => by
      simp at h; subst h
      have := hs.blk_lt (fun h => by have := hvs_len l; rw [h] at this; simp at this; omega) x hx
      omega)
    have h2 := h1.sub (l := 0) (u := 18) (by omega) (by omega)
    have e : ((hvs l).drop (0 * 2)).take ((18 - 0) * 2) = hvs (l.take 18) := by
      have := fm_take (cells := hv) (sz := 2) (fun _ => rfl) l 18
      simpa [hvs] using this
    rw [e] at h2
    exact h2
  · have c := of_decide_eq_false c
    refine hJ _ w2 B2 (Keeps.refl _ _) ?_ rfl
    rw [List.take_of_length_le (by omega)]
    exact hs.keep k02 (by simp)
  · have k03 : Keeps [] w w3 := k02.trans k3 (by simp; omega)
    have B43 := B4.keep k3 (by simp; omega)
    have h42 := B4.lt
    refine ⟨_, B3.cell 5, ?_⟩
    unfold askEn
    cases few with
    | false =>
      refine M.ite_tt ⟨_, B3.cell 3, _, B3.cell 2, _, B3.cell 4, M.stA_blk B43 rfl fun w4 B5 k4 => ⟨_, _, _, B5.cs 0 _ rfl, rfl, rfl, ?_, fun y hy => .inl ⟨rfl, by rw [← hb]; exact hy⟩, k03.trans k4 (by simp; omega)⟩⟩
      exact ht.keep' k4 (fun hne x hx h => by
        simp at h; subst h
        rw [hb] at hx
        have := hs.blk_lt (fun h => hne (by
          have h1 := hvs_len l
          rw [h] at h1
          have : l = [] := List.eq_nil_of_length_eq_zero (by simp at h1; omega)
          rw [this]; rfl)) x hx
        have := k1.size
        omega)
    | true =>
      refine M.ite_ff ⟨_, B3.cell 3, _, B3.cell 2, (kprefix_c (A : Int) Ln).mono fun e w4 g => ?_⟩
      obtain ⟨x4, y4, rfl, rfl, rfl, k4⟩ := g
      have B5 := B3.keep k4 (by simp)
      have B44 := B43.keep k4 (by simp)
      have hs3 := k3.size
      have hs4 := k4.size
      refine ⟨_, _, rfl, M.new_blk fun b6 w5 hb6 B6 k5 => M.stA_blk B6 rfl fun w6 B6 k6 => ?_⟩
      have k46 : Keeps [] w4 w6 := k5.trans k6 (by simp; omega)
      have k06 := (k03.trans k4 (by simp)).trans k46 (by simp)
      have hb6l := B6.lt
      have B7 := B5.keep k46 (by simp)
      have B46 := B44.keep k46 (by simp)
      refine M.join_by (fun (J : World → Prop) => ∀ (t : SV) w', Blk w' b6 35 [.int .u32 ((kp A Ln).1 : Int), .int .i64 (kp A Ln).2, t.v] → Keeps [] w w' → Blk w' b4 35 [.int .u32 0, .int .i64 0, SV.nil.v] → Rd 2 w' t (hvs (if 0 < Int.tmod N 3 then [(Int.tmod N 3, 16)] else [])) → (∀ y ∈ t.blk, w.heap.size ≤ y ∧ y ≠ b4) → J w') (fun t w7 C k7 B47 ht hf => ?_) fun J hJ => ⟨_, B7.cell 1, M.ite_by (fun c => ?_) (fun c => ?_)⟩
      · refine ⟨_, _, _, C.cs 0 _ rfl, M.stA_blk B47 rfl fun w8 B8 k8 => ⟨_, _, _, B8.cs 0 _ rfl, rfl, rfl, ?_, fun y hy => .inr (hf y hy).1, k7.trans k8 (by have := k02.size; simp; omega)⟩⟩
        exact ht.keep k8 (fun x hx h => by simp at h; exact (hf x hx).2 h)
      · have c := of_decide_eq_true c
        refine ⟨_, B7.cell 1, new1_k (cs := hv (Int.tmod N 3, 16)) (sz := 2) rfl k06 fun b8 w7 g1 g2 x7 k7 k07 => M.st_blk (B6.keep k7 (by simp)) (by simp) fun w8 B8 k8 => hJ _ w8 B8 (k07.trans k8 (by have := k06.size; have := k03.size; simp; omega)) ((B46.keep k7 (by simp)).keep k8 (by simp; omega)) ?_ ?_⟩
        · rw [if_pos c]
          have h1 : Rd 2 w7 ⟨some ⟨b8, 0, none⟩, 1, 1⟩ (hvs [(Int.tmod N 3, 16)]) := by simpa [hvs] using x7
          exact h1.keep k8 (by simp [SV.blk]; omega)
        · intro y hy
          simp [SV.blk] at hy; subst hy
          have := k06.size
          have := k46.size
          exact ⟨by omega, by omega⟩
      · have c := of_decide_eq_false c
        refine hJ SV.nil w6 B6 k06 B46 ?_ (by simp [SV.blk])
        rw [if_neg c]; exact Rd.nil _ _
end Go.Proofs.Ytnfmkedblnajlaa
