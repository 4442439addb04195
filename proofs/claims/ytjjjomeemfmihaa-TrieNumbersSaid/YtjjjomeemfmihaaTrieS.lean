/-
  Both tables side by side: what an ask tells of them.
-/
import Derived.Test.YtjjjomeemfmihaaTrieR
namespace Go.Proofs.Ytjjjomeemfmihaa
set_option linter.unusedVariables false
set_option linter.unusedSimpArgs false
open Go.Sp

theorem tget_idx {L : Tbl} (h : L.Pairwise fun x y => kLt x.1 y.1) {k : Key} {v : Int} : ∀ {i : Nat}, L[i]? = some (k, v) → tget L k = some v := by
  induction L with
  | nil => intro i h; simp at h
  | cons y l ih =>
    intro i h2
    rw [List.pairwise_cons] at h
    rw [tget_cons]
    cases i with
    | zero => simp at h2; subst h2; simp
    | succ i =>
      have h3 : l[i]? = some (k, v) := by simpa using h2
      have h4 := h.1 _ (List.mem_of_getElem? h3)
      rw [if_neg (fun he => by rw [he] at h4; exact kLt_irrefl _ h4)]
      exact ih h.2 h3
theorem match_best {L : Tbl} (hL : Tab L) {A : Nat} (hA : A < 4294967296) {i : Nat} {k : Key} {v : Int} (hi : L[i]? = some (k, v)) (hb : hasB k A = true) (hm : ∀ x ∈ L, hasB x.1 A = true → x.1.2 ≤ k.2) : matchT L A = some (k, v) := by
  have hk : k ∈ onWay L A 33 := (onWay_mem hL hA).2 ⟨List.mem_map.2 ⟨_, List.mem_of_getElem? hi, rfl⟩, hb⟩
  obtain ⟨init, q, hq⟩ : ∃ init q, onWay L A 33 = init ++ [q] := ⟨(onWay L A 33).dropLast, (onWay L A 33).getLast (by intro h0; rw [h0] at hk; simp at hk), (List.dropLast_concat_getLast _).symm⟩
  obtain ⟨h1, h2, h3⟩ := onWay_last hL hA hq
  obtain ⟨z, hz, he⟩ := List.mem_map.1 h1
  have h4 := hm z hz (by rw [he]; exact h2)
  have h5 := h3 k (List.mem_map.2 ⟨_, List.mem_of_getElem? hi, rfl⟩) hb
  have hqk : q = k := has_eq h2 hb (by rw [he] at h4; omega)
  subst hqk
  rw [matchT, hq]
  simp [tget_idx hL.sorted hi]
theorem match_no {L : Tbl} (hL : Tab L) {A : Nat} (hA : A < 4294967296) (hm : ∀ x ∈ L, hasB x.1 A = false) : matchT L A = none := by
  have : onWay L A 33 = [] := by
    rw [List.eq_nil_iff_forall_not_mem]
    intro k hk
    obtain ⟨h1, h2⟩ := (onWay_mem hL hA).1 hk
    obtain ⟨z, hz, rfl⟩ := List.mem_map.1 h1
    rw [hm z hz] at h2; cases h2
  rw [matchT, this]; rfl
theorem rmatch_c {w : World} {E : List Nat} {p : Nat} {L : Tbl} (h : RefAt w E p L) {A : Nat} (hA : A < 4294967296) (hlen : L.length ≤ 1000000) :
    Calls Try.prog 41 #[.pointer (some ⟨p, 0, none⟩), .int .u32 (A : Int)] w (R41 fun x y v ok w' => (match matchT L A with
      | some m => x = (m.1.1 : Int) ∧ y = m.1.2 ∧ v = m.2 ∧ ok = true
      | none => x = 0 ∧ y = 0 ∧ v = 0 ∧ ok = false) ∧ Keeps [] w w') := by
  have hT := h.2.2.1
  refine F41_ok (M.new_blk fun b w1 hb B k1 => ?_)
  refine M.loop2_by (fun x y w' => ∃ j : Nat, y = j ∧ j ≤ L.length ∧ Keeps [] w1 w' ∧ ((x = -1 ∧ ∀ (m : Nat) (z : Key × Int), m < j → L[m]? = some z → hasB z.1 A = false) ∨ (∃ (q : Nat) (kq : Key × Int), x = q ∧ q < j ∧ L[q]? = some kq ∧ hasB kq.1 A = true ∧ ∀ (m : Nat) (z : Key × Int), m < j → L[m]? = some z → hasB z.1 A = true → z.1.2 ≤ kq.1.2))) (fun _ y _ => L.length - y.toNat)
    ⟨0, rfl, by omega, Keeps.refl _ _, .inl ⟨rfl, by intro m k h; omega⟩⟩ ?_
  rintro x y w2 J1 ⟨j, rfl, hj, k2, hbest⟩ hJ1
  have k02 := k1.trans k2 (by simp)
  have kd := Keeps.drew [] w2
  obtain ⟨_, _, _, s, t, P, so, ov, hs, ht⟩ := h.keep k02 (by simp)
  have hl := pf_len so.rd
  have hlv := iv_len ov.rd
  have hkl : (L.map (·.1)).length = L.length := by simp
  have hvl : (L.map (·.2)).length = L.length := by simp
  have P3 := P.keep kd (by simp)
  have so3 := so.keep kd (by simp)
  have ov3 := ov.keep kd (by simp)
  have k3 := k2.trans kd (by simp)
  refine ⟨_, rfl, _, P.cell 0, M.ite_by (fun c => ?_) (fun c => ?_)⟩
  · have c := of_decide_eq_true c
    have jl : j < L.length := by omega
    have ej := List.getElem?_eq_getElem jl
    have hki := (hT.right _ (List.getElem_mem jl)).1
    generalize L[j] = kj at *
    obtain ⟨ax, hax⟩ := so3.rd.some (by omega)
    have e := pf_at so3.rd hax (nat_tbl ej).1
    refine M.join_by (fun (J : Int → World → Prop) => ∀ (x' : Int) (w' : World), Keeps [] w1 w' → ((x' = -1 ∧ ∀ (m : Nat) (z : Key × Int), m < j + 1 → L[m]? = some z → hasB z.1 A = false) ∨ (∃ (q : Nat) (kq : Key × Int), x' = q ∧ q < j + 1 ∧ L[q]? = some kq ∧ hasB kq.1 A = true ∧ ∀ (m : Nat) (z : Key × Int), m < j + 1 → L[m]? = some z → hasB z.1 A = true → z.1.2 ≤ kq.1.2)) → J x' w') ?_ ?_
    · intro x' w' h1 h2
      rw [w64 (by omega) (by omega)]
      exact hJ1 _ _ _ ⟨j + 1, by omega, by omega, h1, h2⟩ (by omega)
    · intro J2 hJ2
      have hlast : ∀ {m : Nat} {z : Key × Int}, m < j + 1 → L[m]? = some z → (m < j ∨ z = kj) := by
        intro m z h1 h2
        by_cases h3 : m < j
        · exact .inl h3
        · right
          obtain rfl : m = j := by omega
          rw [ej] at h2; cases h2; rfl
      refine M.join_by (fun (J : Bool → World → Prop) => ∀ (t : Bool) (w' : World), Keeps [] w1 w' → t = (hasB kj.1 A && (decide (x < 0) || (match L[x.toNat]? with | some kq => decide (kq.1.2 < kj.1.2) | none => false))) → J t w') ?_ ?_
      · intro t w' h1 h2
        refine M.ite_by (fun ct => ?_) (fun ct => ?_)
        · rw [ct] at h2
          have h2 := h2.symm
          simp only [Bool.and_eq_true, Bool.or_eq_true, decide_eq_true_eq] at h2
          refine hJ2 _ _ h1 (.inr ⟨j, kj, rfl, by omega, ej, h2.1, ?_⟩)
          intro m z hm hk hb
          rcases hlast hm hk with h3 | h3
          · rcases hbest with ⟨rfl, h4⟩ | ⟨q, kq, rfl, hq, hkq, hbq, h4⟩
            · rw [h4 m z h3 hk] at hb; cases hb
            · have h5 := h4 m z h3 hk hb
              rcases h2.2 with h6 | h6
              · omega
              · rw [Int.toNat_natCast, hkq] at h6
                simp at h6
                omega
          · rw [h3]; exact Int.le_refl _
        · rw [ct] at h2
          refine hJ2 _ _ h1 ?_
          rcases hbest with ⟨rfl, h4⟩ | ⟨q, kq, rfl, hq, hkq, hbq, h4⟩
          · left
            refine ⟨rfl, fun m z hm hk => ?_⟩
            rcases hlast hm hk with h3 | h3
            · exact h4 m z h3 hk
            · rw [h3]
              simpa using h2.symm
          · right
            refine ⟨q, kq, rfl, by omega, hkq, hbq, fun m z hm hk hb => ?_⟩
            rcases hlast hm hk with h3 | h3
            · exact h4 m z h3 hk hb
            · rw [h3] at hb ⊢
              rw [hb, Int.toNat_natCast, hkq] at h2
              simp at h2
              omega
      · intro J3 hJ3
        refine M.drew_by ⟨_, rfl, _, P3.cell 0, ax, hax, by omega, c, _, e.1, _, e.2, (has_c hki hA).mono fun e w8 g => ?_⟩
        obtain ⟨r8, rfl, hr8, k8⟩ := g
        have k18 := k3.trans k8 (by simp)
        refine ⟨_, rfl, M.ite_by (fun c8 => ?_) (fun c8 => ?_)⟩
        · rw [c8] at hr8
          refine M.ite_by (fun c9 => ?_) (fun c9 => ?_)
          · exact hJ3 _ _ k18 (by rw [← hr8, c9]; rfl)
          · have c9' := of_decide_eq_false c9
            rcases hbest with ⟨rfl, h4⟩ | ⟨q, kq, rfl, hq, hkq, hbq, h4⟩
            · omega
            · have P8 := P3.keep k8 (by simp)
              have so8 := so3.keep k8 (by simp)
              have e8 := pf_at so8.rd hax (nat_tbl ej).1
              have e9 := pf_at so8.rd hax (nat_tbl hkq).1
              refine ⟨_, rfl, _, rfl, _, P8.cell 0, ax, hax, by omega, c, _, e8.2, _, P8.cell 0, ax, hax, by omega, by omega, _, e9.2, hJ3 _ _ k18 ?_⟩
              rw [← hr8, c9, Int.toNat_natCast, hkq]; simp
        · exact hJ3 _ _ k18 (by rw [← hr8, c8]; rfl)
  · have c := of_decide_eq_false c
    have hjl : j = L.length := by omega
    subst hjl
    have B2 := B.keep k2 (by simp)
    have hidx : ∀ x ∈ L, ∃ m, m < L.length ∧ L[m]? = some x := by
      intro k hk
      obtain ⟨m, hm, he⟩ := List.getElem_of_mem hk
      exact ⟨m, hm, by rw [List.getElem?_eq_getElem hm, he]⟩
    rcases hbest with ⟨rfl, h4⟩ | ⟨q, kq, rfl, hq, hkq, hbq, h4⟩
    · refine M.ite_y (by simp) (M.stA_blk B2 rfl fun w3 B3 k3 => ⟨_, B3.cell 0, _, B3.cell 1, ?_, k02.trans k3 (by simp; omega)⟩)
      rw [match_no hT hA (fun x hx => by obtain ⟨m, hm, he⟩ := hidx x hx; exact h4 m x hm he)]
      exact ⟨rfl, rfl, rfl, rfl⟩
    · obtain ⟨kk, v⟩ := kq
      obtain ⟨ax, hax⟩ := so3.rd.some (by omega)
      obtain ⟨ay, hay⟩ := ov3.rd.some (by omega)
      have e := pf_at so3.rd hax (nat_tbl hkq).1
      have e2 := ov3.rd.at hay (i := q) (v := .int .i64 v) (by simp [iv, hkq])
      have B3 := B2.keep kd (by simp)
      refine M.ite_n (by simp) (M.drew_by ⟨_, rfl, _, rfl, _, P3.cell 0, ax, hax, by omega, by omega, _, e.1, _, e.2, _, P3.cell 1, ay, hay, by omega, by omega, _, by simpa using e2, M.stA_blk B3 rfl fun w4 B4 k4 => ?_⟩)
      have hbP : b ∉ t.blk ∧ p ≠ b := by
        have hEl := h.1
        refine ⟨fun hb' => ?_, fun hb' => ?_⟩
        · have := hEl _ (ht _ hb').1; omega
        · have := hEl _ h.2.1; omega
      have ov4 := ov3.keep k4 (by intro y hy hz; simp at hz; subst hz; exact hbP.1 hy)
      have P4 := P3.keep k4 (by simpa using hbP.2)
      have e4 := ov4.rd.at hay (i := q) (v := .int .i64 v) (by simp [iv, hkq])
      refine ⟨by simpa using e4, P4.cell 1, _, B4.cell 0, _, B4.cell 1, ?_, (k1.trans k3 (by simp)).trans k4 (by simp; omega)⟩
      rw [match_best hT hA hkq hbq (fun x hx hb' => by obtain ⟨m, hm, he⟩ := hidx x hx; exact h4 m x hm he hb')]
      exact ⟨rfl, rfl, rfl, rfl⟩

/-- The prefix of an ask. -/
def akey (n : Int) (A : Nat) (few : Bool) : Key := if few then kp (A : Int) n else (A, n)
theorem akey_lt (n : Int) {A : Nat} (hA : A < 4294967296) (few : Bool) : (akey n A few).1 < 4294967296 := by
  unfold akey
  split
  · exact kp_lt _ _
  · exact hA
theorem prefix_c {w : World} (k n v : Int) (A : Nat) (few : Bool) : Calls Try.prog 37 #[.agg #[.int .i64 k, .int .i64 n, .int .i64 v, .int .u32 (A : Int), .bool few]] w (R37 fun x y w' => x = ((akey n A few).1 : Int) ∧ y = (akey n A few).2 ∧ Keeps [] w w') := by
  refine F37_ok (M.new_blk fun b w1 hb B k1 => M.new_blk fun c w2 hc C k2 => ?_)
  have B2 := B.keep k2 (by simp)
  have k02 := k1.trans k2 (by simp)
  refine ⟨_, B2.cell 4, M.ite_by (fun c5 => ?_) (fun c5 => ?_)⟩
  · subst c5
    refine ⟨_, B2.cell 3, _, B2.cell 1, (kprefix_c _ _).mono fun e w3 g => ?_⟩
    obtain ⟨x3, y3, rfl, rfl, rfl, k3⟩ := g
    exact ⟨_, _, rfl, M.stA_blk (C.keep k3 (by simp)) rfl fun w4 C4 k4 => ⟨_, C4.cell 0, _, C4.cell 1, rfl, rfl, (k02.trans k3 (by simp)).trans k4 (by have := k1.size; simp; omega)⟩⟩
  · subst c5
    exact ⟨_, B2.cell 3, _, B2.cell 1, M.stA_blk C rfl fun w4 C4 k4 => ⟨_, C4.cell 0, _, C4.cell 1, rfl, rfl, k02.trans k4 (by have := k1.size; simp; omega)⟩⟩

/-- Both tables have the same. -/
def Two (w : World) (X : List Nat) (p q : Nat) (L : Tbl) : Prop := ∃ D E, X = D ++ E ∧ TrieAt w D p L ∧ RefAt w E q L ∧ ∀ y ∈ D, y ∉ E
theorem Two.keep {w w' : World} {X D : List Nat} {p q : Nat} {L : Tbl} (h : Two w X p q L) (k : Keeps D w w') (hd : ∀ x ∈ X, x ∉ D) : Two w' X p q L := by
  obtain ⟨D1, E1, rfl, h1, h2, h3⟩ := h
  exact ⟨D1, E1, rfl, h1.keep k (fun x hx => hd x (by simp [hx])), h2.keep k (fun x hx => hd x (by simp [hx])), h3⟩
theorem Two.lt {w : World} {X : List Nat} {p q : Nat} {L : Tbl} (h : Two w X p q L) : ∀ x ∈ X, x < w.heap.size := by
  obtain ⟨D, E, rfl, h1, h2, _⟩ := h
  intro x hx
  rcases List.mem_append.1 hx with hx | hx
  · exact h1.1 x hx
  · exact h2.1 x hx
theorem do_c {w : World} {X : List Nat} {p q : Nat} {L : Tbl} (h : Two w X p q L) (kind n v : Int) {A : Nat} (hA : A < 4294967296) (few : Bool) (hlen : L.length ≤ 900000) :
    Calls Try.prog 26 #[.pointer (some ⟨p, 0, none⟩), .pointer (some ⟨q, 0, none⟩), .agg #[.int .i64 kind, .int .i64 n, .int .i64 v, .int .u32 (A : Int), .bool few]] w (R26 fun r w' => r = true ∧ ∃ X' L', Two w' X' p q L' ∧ Keeps X w w' ∧ From X w X' ∧ L'.length ≤ L.length + 1) := by
  obtain ⟨D, E, rfl, hT, hU, hDE⟩ := h
  refine F26_ok (M.new_blk fun b w1 hb B k1 => ⟨_, B.cell 0, _, B.cell 1, _, B.cell 2, _, B.cell 3, _, B.cell 4, (prefix_c kind n v A few).mono fun e w2 g => ?_⟩)
  obtain ⟨x2, y2, rfl, rfl, rfl, k2⟩ := g
  have hkl := akey_lt n hA few
  generalize akey n A few = key at *
  refine ⟨_, _, rfl, M.new_blk fun c w3 hc C k3 => M.stA_blk C rfl fun w4 C4 k4 => ?_⟩
  have k24 : Keeps [] w2 w4 := k3.trans k4 (by simp; omega)
  have k14 := k2.trans k24 (by simp)
  have k04 := k1.trans k14 (by simp)
  have B4 := B.keep k14 (by simp)
  have hbD : b ∉ D ∧ b ∉ E := ⟨fun h => by have := hT.1 _ h; omega, fun h => by have := hU.1 _ h; omega⟩
  have hcD : c ∉ D ∧ c ∉ E := by
    have := k1.size
    have := k2.size
    exact ⟨fun h => by have := hT.1 _ h; omega, fun h => by have := hU.1 _ h; omega⟩
  have kd := Keeps.drew [] w4
  have k05 := k04.trans kd (by simp)
  have B5 := B4.keep kd (by simp)
  have C5 := C4.keep kd (by simp)
  -- nothing was changed
  have same : ∀ {w' : World}, Keeps [] w w' → ∃ X' L', Two w' X' p q L' ∧ Keeps (D ++ E) w w' ∧ From (D ++ E) w X' ∧ L'.length ≤ L.length + 1 := fun k => ⟨D ++ E, L, ⟨D, E, rfl, hT.keep k (by simp), hU.keep k (by simp), hDE⟩, k.up, From.refl _ _, by omega⟩
  refine ⟨_, B4.cell 0, M.ite_by (fun c1 => ?_) (fun c1 => ?_)⟩
  · refine M.drew_by ⟨_, C5.cell 0, _, C5.cell 1, _, B5.cell 2, _, C5.cell 0, _, C5.cell 1, _, B5.cell 2, (put_c (hT.keep k05 (by simp)) hkl key.2 v (by omega)).mono fun e w6 g => ?_⟩
    obtain ⟨r6, rfl, hr6, D6, h6, k6, f6⟩ := g
    have B6 := B5.keep k6 hbD.1
    have C6 := C5.keep k6 hcD.1
    have hU6 := (hU.keep k05 (by simp)).keep k6 (fun y hy hd => hDE y hd hy)
    refine ⟨_, rfl, B6.cell 2, C6.cell 0, C6.cell 1, (rput_c hU6 hkl key.2 v (by omega)).mono fun e w7 g => ?_⟩
    obtain ⟨r7, rfl, hr7, E7, h7, k7, f7⟩ := g
    have k06 : Keeps (D ++ E) w w6 := k05.up.and (k6.mono (fun x hx => .inl (by simp [hx])))
    have hD6E : ∀ y ∈ D6, y ∉ E := fun y hy hE => by
      rcases f6 y hy with h | h
      · exact hDE y h hE
      · have := hU.1 y hE; have := k05.size; omega
    have hs05 := k05.size
    have hs6 := k6.size
    refine ⟨_, rfl, by rw [hr6, hr7]; simp, D6 ++ E7, _, ⟨D6, E7, rfl, h6.keep k7 hD6E, h7, fun y hy hE => ?_⟩, k06.and (k7.mono (fun x hx => .inl (by simp [hx]))), fun y hy => ?_, ?_⟩
    · rcases f7 y hE with h | h
      · exact hD6E y hy h
      · have := h6.1 y hy; omega
    · rcases List.mem_append.1 hy with hy | hy
      · rcases f6 y hy with h | h
        · exact .inl (by simp [h])
        · right; omega
      · rcases f7 y hy with h | h
        · exact .inl (by simp [h])
        · right; omega
    · split
      · exact tput_len_le _ _ _
      · omega
  refine M.ite_by (fun c2 => ?_) (fun c2 => ?_)
  · refine M.drew_by ⟨_, C5.cell 0, _, C5.cell 1, _, C5.cell 0, _, C5.cell 1, (cut_t (hT.keep k05 (by simp)) hkl key.2 (by omega)).mono fun e w6 g => ?_⟩
    obtain ⟨r6, rfl, hr6, h6, k6⟩ := g
    have C6 := C5.keep k6 hcD.1
    have hU6 := (hU.keep k05 (by simp)).keep k6 (fun y hy hd => hDE y hd hy)
    refine ⟨_, rfl, C6.cell 0, C6.cell 1, (rcut_c hU6 key.1 key.2 (by omega)).mono fun e w7 g => ?_⟩
    obtain ⟨r7, rfl, hr7, E7, h7, k7, f7⟩ := g
    have k06 : Keeps (D ++ E) w w6 := k05.up.and (k6.mono (fun x hx => .inl (by simp [hx])))
    have hs05 := k05.size
    have hs6 := k6.size
    refine ⟨_, rfl, by rw [hr6, hr7]; simp, D ++ E7, _, ⟨D, E7, rfl, h6.keep k7 hDE, h7, fun y hy hE => ?_⟩, k06.and (k7.mono (fun x hx => .inl (by simp [hx]))), fun y hy => ?_, Nat.le_trans (List.length_filter_le _ _) (by omega)⟩
    · rcases f7 y hE with h | h
      · exact hDE y hy h
      · have := h6.1 y hy; omega
    · rcases List.mem_append.1 hy with hy | hy
      · exact .inl (by simp [hy])
      · rcases f7 y hy with h | h
        · exact .inl (by simp [h])
        · right; omega
  refine M.ite_by (fun c3 => ?_) (fun c3 => ?_)
  · refine ⟨_, C4.cell 0, _, C4.cell 1, (get_c (hT.keep k04 (by simp)) hkl key.2).mono fun e w6 g => ?_⟩
    obtain ⟨r6, ok6, rfl, rfl, rfl, k6⟩ := g
    have C6 := C4.keep k6 (by simp)
    refine ⟨_, _, rfl, _, C6.cell 0, _, C6.cell 1, (rget_c ((hU.keep k04 (by simp)).keep k6 (by simp)) key.1 key.2 (by omega)).mono fun e w7 g => ?_⟩
    obtain ⟨r7, ok7, rfl, rfl, rfl, k7⟩ := g
    have k07 := (k04.trans k6 (by simp)).trans k7 (by simp)
    refine ⟨_, _, rfl, M.join_by (fun (J : Bool → World → Prop) => J true w7) ⟨rfl, same k07⟩ fun J hJ => M.ite_y (by simp) ?_⟩
    simpa using hJ
  refine M.ite_by (fun c4 => ?_) (fun c4 => ?_)
  · refine ⟨_, B4.cell 3, (match_c (hT.keep k04 (by simp)) hA).mono fun e w6 g => ?_⟩
    obtain ⟨x6, y6, v6, ok6, rfl, hm6, k6⟩ := g
    refine ⟨_, _, _, _, rfl, M.new_blk fun c7 w7 hc7 C7 k7 => M.stA_blk C7 rfl fun w8 C8 k8 => ?_⟩
    have k68 : Keeps [] w6 w8 := k7.trans k8 (by simp; omega)
    have k48 := k6.trans k68 (by simp)
    have k08 := k04.trans k48 (by simp)
    refine ⟨_, (B4.keep k48 (by simp)).cell 3, (rmatch_c (hU.keep k08 (by simp)) hA (by omega)).mono fun e w9 g => ?_⟩
    obtain ⟨x9, y9, v9, ok9, rfl, hm9, k9⟩ := g
    have hsame : x9 = x6 ∧ y9 = y6 ∧ v9 = v6 ∧ ok9 = ok6 := by
      cases hway : matchT L A with
      | none => rw [hway] at hm6 hm9; obtain ⟨rfl, rfl, rfl, rfl⟩ := hm6; exact hm9
      | some m => rw [hway] at hm6 hm9; obtain ⟨rfl, rfl, rfl, rfl⟩ := hm6; exact hm9
    obtain ⟨rfl, rfl, rfl, rfl⟩ := hsame
    refine ⟨_, _, _, _, rfl, M.new_blk fun c10 w10 hc10 C10 k10 => M.stA_blk C10 rfl fun w11 C11 k11 => ?_⟩
    have k911 : Keeps [] w9 w11 := k10.trans k11 (by simp; omega)
    have k811 := k9.trans k911 (by simp)
    have C8' := C8.keep k811 (by simp)
    refine M.join_by (fun (J : Bool → World → Prop) => J true w11) ⟨rfl, same (k08.trans k811 (by simp))⟩ fun J hJ => ⟨_, C8'.cell 0, _, C8'.cell 1, _, C11.cell 0, _, C11.cell 1, M.ite_y (by simp) (M.ite_y (by simp) ?_)⟩
    simpa using hJ
  · refine M.join_by (fun (J : Bool → World → Prop) => ∀ w', Keeps [] w w' → J true w') (fun w' k => ⟨rfl, same k⟩) fun J hJ => M.drew_by ⟨_, C5.cell 0, _, C5.cell 1, _, C5.cell 0, _, C5.cell 1, (above_c (hT.keep k05 (by simp)) hkl key.2).mono fun e w6 g => ?_⟩
    obtain ⟨r6, rfl, o6, f6, k6⟩ := g
    have C6 := C5.keep k6 (by simp)
    have k06 := k05.trans k6 (by simp)
    refine ⟨_, rfl, C6.cell 0, C6.cell 1, (rabove_c (hU.keep k06 (by simp)) hkl key.2 (by omega)).mono fun e w7 g => ?_⟩
    obtain ⟨r7, rfl, o7, f7, k7⟩ := g
    have hal : (if rightP key.1 key.2 = true then onWay L key.1 (key.2.toNat + 1) else []).length ≤ 1099511627776 := by
      split
      · rename_i hr
        obtain ⟨c0, c1, c2⟩ := (rightP_iff _ _).1 hr
        have := onWay_len L key.1 (key.2.toNat + 1); omega
      · simp
    refine ⟨_, rfl, (samep_c (o6.keep k7 (by simp)).rd o7.rd hal).mono fun e w8 g => ?_⟩
    obtain ⟨r8, rfl, hr8, k8⟩ := g
    have k68 := k7.trans k8 (by simp)
    have C8 := C6.keep k68 (by simp)
    have k08 := k06.trans k68 (by simp)
    refine ⟨_, rfl, M.ite_y (by rw [hr8]; simp) ⟨_, C8.cell 0, _, C8.cell 1, _, C8.cell 0, _, C8.cell 1, (tbelow_c (hT.keep k08 (by simp)) hkl key.2 (by omega)).mono fun e w9 g => ?_⟩⟩
    obtain ⟨r9, rfl, o9, f9, k9⟩ := g
    have C9 := C8.keep k9 (by simp)
    have k09 := k08.trans k9 (by simp)
    refine ⟨_, rfl, C9.cell 0, C9.cell 1, (rbelow_c (hU.keep k09 (by simp)) hkl key.2 (by omega)).mono fun e w10 g => ?_⟩
    obtain ⟨r10, rfl, o10, f10, k10⟩ := g
    have hbl : (if rightP key.1 key.2 = true then keysCov L (key.1, key.2) else []).length ≤ 1099511627776 := by
      split
      · have := keysCov_len L (key.1, key.2); omega
      · simp
    refine ⟨_, rfl, (samep_c (o9.keep k10 (by simp)).rd o10.rd hbl).mono fun e w11 g => ?_⟩
    obtain ⟨r11, rfl, hr11, k11⟩ := g
    have hr11 : r11 = true := by rw [hr11]; simp
    subst hr11
    exact ⟨_, rfl, hJ _ ((k09.trans k10 (by simp)).trans k11 (by simp))⟩
theorem alike_c {w : World} {X : List Nat} {p q : Nat} {L : Tbl} (h : Two w X p q L) (hlen : L.length ≤ 1000000) :
    Calls Try.prog 27 #[.pointer (some ⟨p, 0, none⟩), .pointer (some ⟨q, 0, none⟩)] w (R27 fun r w' => r = true ∧ Keeps [] w w') := by
  obtain ⟨D, E, rfl, hT, hU, hDE⟩ := h
  have kd := Keeps.drew [] w
  have hU1 := hU.keep kd (by simp)
  obtain ⟨_, _, _, s, t, P, so, ov, hs, ht⟩ := hU1
  refine F27_ok (M.join_by (fun (J : Bool → World → Prop) => ∀ w', Keeps [] w w' → J true w') (fun w' k => ⟨rfl, k⟩) fun J hJ => M.drew_by ⟨_, rfl, _, P.cell 0, (tall_c (hT.keep kd (by simp)) hlen).mono fun e w2 g => ?_⟩)
  obtain ⟨r2, rfl, o2, f2, k2⟩ := g
  have P2 := P.keep k2 (by simp)
  have k02 := kd.trans k2 (by simp)
  have hkl : (L.map (·.1)).length = L.length := by simp
  refine ⟨_, rfl, P2.cell 0, (samep_c o2.rd (so.keep k2 (by simp)).rd (by omega)).mono fun e w3 g => ?_⟩
  obtain ⟨r3, rfl, hr3, k3⟩ := g
  have P3 := P2.keep k3 (by simp)
  have k03 := k02.trans k3 (by simp)
  have hl := pf_len so.rd
  refine ⟨_, rfl, M.ite_y (by rw [hr3]; simp) ⟨_, rfl, _, P3.cell 0, (tlen_c (hT.keep k03 (by simp))).mono fun e w4 g => ?_⟩⟩
  obtain ⟨r4, rfl, rfl, rfl⟩ := g
  refine ⟨_, rfl, P3.cell 0, ?_⟩
  have := hJ _ k03
  rw [show ((L.length : Int) == (s.len : Int)) = true by simp; omega]
  exact this
end Go.Proofs.Ytjjjomeemfmihaa
