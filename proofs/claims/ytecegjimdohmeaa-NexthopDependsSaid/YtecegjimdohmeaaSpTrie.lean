/-
  A table of prefixes in plain lists: the prefixes in order, each with its number.
-/
import Derived.Test.YtecegjimdohmeaaSpAddr
namespace Go.Sp
set_option linter.unusedVariables false
set_option linter.unusedSimpArgs false
abbrev Key := Nat × Int
def kLt (p q : Key) : Prop := p.1 < q.1 ∨ (p.1 = q.1 ∧ p.2 < q.2)
instance (p q : Key) : Decidable (kLt p q) := inferInstanceAs (Decidable (_ ∨ _))
theorem kLt_irrefl (p : Key) : ¬ kLt p p := by unfold kLt; omega
theorem kLt_trans {p q r : Key} (h : kLt p q) (k : kLt q r) : kLt p r := by unfold kLt at *; omega
theorem kLt_asymm {p q : Key} (h : kLt p q) : ¬ kLt q p := by unfold kLt at *; omega
theorem kLt_tri (p q : Key) : kLt p q ∨ p = q ∨ kLt q p := by
  obtain ⟨a, n⟩ := p
  obtain ⟨b, m⟩ := q
  unfold kLt
  simp only [Prod.mk.injEq]
  omega
abbrev Tbl := List (Key × Int)
/-- In order, each right. -/
structure Tab (L : Tbl) : Prop where
  sorted : L.Pairwise fun x y => kLt x.1 y.1
  right : ∀ x ∈ L, x.1.1 < 4294967296 ∧ rightP x.1.1 x.1.2 = true
def tget (L : Tbl) (k : Key) : Option Int := (L.find? fun x => x.1 == k).map (·.2)
def tput : Tbl → Key → Int → Tbl
  | [], k, v => [(k, v)]
  | x :: l, k, v => if x.1 = k then (k, v) :: l else if kLt k x.1 then (k, v) :: x :: l else x :: tput l k v
def tcut (L : Tbl) (k : Key) : Tbl := L.filter fun x => !(x.1 == k)
theorem Tab.nil : Tab [] := ⟨List.Pairwise.nil, by simp⟩
theorem tget_nil (k : Key) : tget [] k = none := rfl
theorem tget_cons (x : Key × Int) (l : Tbl) (k : Key) : tget (x :: l) k = if x.1 = k then some x.2 else tget l k := by
  unfold tget
  rw [List.find?_cons]
  by_cases h : x.1 = k
  · simp [h]
  · have : (x.1 == k) = false := by simpa using h
    simp [this, h]
theorem tget_none {L : Tbl} {k : Key} : tget L k = none ↔ ∀ x ∈ L, x.1 ≠ k := by
  simp [tget, List.find?_eq_none]
theorem tget_mem {L : Tbl} {k : Key} {v : Int} (h : tget L k = some v) : (k, v) ∈ L := by
  induction L with
  | nil => simp [tget_nil] at h
  | cons x l ih =>
    rw [tget_cons] at h
    split at h
    · rename_i hx
      cases h
      subst hx
      simp
    · exact List.mem_cons_of_mem _ (ih h)
theorem tget_isSome {L : Tbl} {k : Key} : (tget L k).isSome = true ↔ ∃ x ∈ L, x.1 = k := by
  cases h : tget L k with
  | none =>
    constructor
    · intro h'; cases h'
    · rintro ⟨x, hx, he⟩
      exact absurd he (tget_none.1 h x hx)
  | some v => exact ⟨fun _ => ⟨(k, v), tget_mem h, rfl⟩, fun _ => rfl⟩
theorem tget_tput (L : Tbl) (k k' : Key) (v : Int) : tget (tput L k v) k' = if k = k' then some v else tget L k' := by
  induction L with
  | nil => simp [tput, tget_cons, tget_nil]
  | cons x l ih =>
    simp only [tput]
    split
    · rename_i h
      subst h
      rw [tget_cons, tget_cons]
      split <;> simp_all
    · split
      · rw [tget_cons]
      · rw [tget_cons, tget_cons, ih]
        split
        · rename_i h1 h2 h3
          subst h3
          rw [if_neg (fun h => h1 h.symm)]
        · rfl
theorem tget_tcut (L : Tbl) (k k' : Key) : tget (tcut L k) k' = if k = k' then none else tget L k' := by
  induction L with
  | nil => simp [tcut, tget_nil]
  | cons x l ih =>
    unfold tcut at *
    rw [List.filter_cons]
    by_cases h : x.1 = k
    · rw [if_neg (by simp [h]), ih, tget_cons]
      split
      · rfl
      · rw [if_neg (by rw [h]; assumption)]
    · rw [if_pos (by simp [h]), tget_cons, tget_cons, ih]
      by_cases h2 : x.1 = k'
      · rw [if_pos h2, if_pos h2, if_neg (fun hk => h (h2.trans hk.symm))]
      · rw [if_neg h2, if_neg h2]
theorem tput_mem {L : Tbl} {k : Key} {v : Int} {x : Key × Int} (h : x ∈ tput L k v) : x = (k, v) ∨ x ∈ L := by
  induction L with
  | nil => simp [tput] at h; exact .inl h
  | cons y l ih =>
    simp only [tput] at h
    split at h
    · rcases List.mem_cons.1 h with h | h
      · exact .inl h
      · exact .inr (List.mem_cons_of_mem _ h)
    · split at h
      · rcases List.mem_cons.1 h with h | h
        · exact .inl h
        · exact .inr h
      · rcases List.mem_cons.1 h with h | h
        · exact .inr (h ▸ List.mem_cons_self)
        · rcases ih h with h | h
          · exact .inl h
          · exact .inr (List.mem_cons_of_mem _ h)
theorem Tab.put {L : Tbl} (h : Tab L) {k : Key} (hk : k.1 < 4294967296 ∧ rightP k.1 k.2 = true) (v : Int) : Tab (tput L k v) := by
  refine ⟨?_, fun x hx => ?_⟩
  · have hs := h.sorted
    clear h
    induction L with
    | nil => simp [tput]
    | cons x l ih =>
      rw [List.pairwise_cons] at hs
      simp only [tput]
      split
      · rename_i he
        rw [List.pairwise_cons]
        exact ⟨fun y hy => by rw [← he]; exact hs.1 y hy, hs.2⟩
      · split
        · rename_i hlt
          rw [List.pairwise_cons]
          refine ⟨fun y hy => ?_, List.pairwise_cons.2 hs⟩
          rcases List.mem_cons.1 hy with rfl | hy
          · exact hlt
          · exact kLt_trans hlt (hs.1 y hy)
        · rename_i h1 h2
          rw [List.pairwise_cons]
          refine ⟨fun y hy => ?_, ih hs.2⟩
          rcases tput_mem hy with rfl | hy
          · rcases kLt_tri x.1 k with h | h | h
            · exact h
            · exact absurd h h1
            · exact absurd h h2
          · exact hs.1 y hy
  · rcases tput_mem hx with rfl | hx
    · exact hk
    · exact h.right x hx
theorem Tab.cut {L : Tbl} (h : Tab L) (k : Key) : Tab (tcut L k) :=
  ⟨h.sorted.filter _, fun x hx => h.right x (List.mem_filter.1 hx).1⟩
theorem tput_len {L : Tbl} (h : L.Pairwise fun x y => kLt x.1 y.1) (k : Key) (v : Int) : (tput L k v).length = if (tget L k).isSome then L.length else L.length + 1 := by
  induction L with
  | nil => rfl
  | cons x l ih =>
    rw [List.pairwise_cons] at h
    simp only [tput]
    rw [tget_cons]
    split
    · simp
    · split
      · rename_i h1 h2
        have : tget l k = none := tget_none.2 fun y hy he => by
          have := h.1 y hy
          rw [he] at this
          exact kLt_asymm this h2
        rw [this]; simp
      · rw [List.length_cons, ih h.2]
        split <;> simp
theorem tcut_len {L : Tbl} (h : L.Pairwise fun x y => kLt x.1 y.1) (k : Key) : (tcut L k).length + (if (tget L k).isSome then 1 else 0) = L.length := by
  induction L with
  | nil => rfl
  | cons x l ih =>
    rw [List.pairwise_cons] at h
    have hi := ih h.2
    unfold tcut at *
    rw [tget_cons, List.filter_cons]
    by_cases hx : x.1 = k
    · have : tget l k = none := tget_none.2 fun y hy he => by
        have := h.1 y hy
        rw [he, hx] at this
        exact kLt_irrefl _ this
      rw [this] at hi
      rw [if_neg (by simp [hx]), if_pos hx]
      simp at hi ⊢
      omega
    · rw [if_pos (by simp [hx]), if_neg hx, List.length_cons, List.length_cons]
      omega
/-- Two tables with the same numbers are the same. -/
theorem tab_ext {L M : Tbl} (hL : Tab L) (hM : Tab M) (h : ∀ k, tget L k = tget M k) : L = M := by
  replace hL := hL.sorted
  replace hM := hM.sorted
  induction L generalizing M with
  | nil =>
    cases M with
    | nil => rfl
    | cons y m =>
      have := h y.1
      rw [tget_nil, tget_cons, if_pos rfl] at this
      cases this
  | cons x l ih =>
    cases M with
    | nil =>
      have := h x.1
      rw [tget_nil, tget_cons, if_pos rfl] at this
      cases this
    | cons y m =>
      rw [List.pairwise_cons] at hL hM
      have hxy : x.1 = y.1 := by
        rcases kLt_tri x.1 y.1 with h1 | h1 | h1
        · exfalso
          have h2 := h x.1
          rw [tget_cons, if_pos rfl, tget_cons] at h2
          split at h2
          · rename_i h3; rw [h3] at h1; exact kLt_irrefl _ h1
          · have h3 : (tget m x.1).isSome = true := by rw [← h2]; rfl
            obtain ⟨z, hz, he⟩ := tget_isSome.1 h3
            have := hM.1 z hz
            rw [he] at this
            exact kLt_asymm this h1
        · exact h1
        · exfalso
          have h2 := h y.1
          rw [tget_cons (x := y), if_pos rfl, tget_cons] at h2
          split at h2
          · rename_i h3; rw [h3] at h1; exact kLt_irrefl _ h1
          · have h3 : (tget l y.1).isSome = true := by rw [h2]; rfl
            obtain ⟨z, hz, he⟩ := tget_isSome.1 h3
            have := hL.1 z hz
            rw [he] at this
            exact kLt_asymm this h1
      have hv : x.2 = y.2 := by
        have h2 := h x.1
        rw [tget_cons, if_pos rfl, tget_cons, if_pos hxy.symm] at h2
        exact Option.some.inj h2
      have : l = m := ih (fun k => by
        have h2 := h k
        rw [tget_cons, tget_cons, hxy] at h2
        by_cases hk : y.1 = k
        · subst hk
          have h3 : tget l y.1 = none := tget_none.2 fun z hz he => by
            have := hL.1 z hz
            rw [he, hxy] at this
            exact kLt_irrefl _ this
          have h4 : tget m y.1 = none := tget_none.2 fun z hz he => by
            have := hM.1 z hz
            rw [he] at this
            exact kLt_irrefl _ this
          rw [h3, h4]
        · rw [if_neg hk, if_neg hk] at h2
          exact h2) hL.2 hM.2
      rw [this]
      congr 1
      exact Prod.ext hxy hv

/-! ### What covers what -/
theorem topN_le (a n : Nat) : topN a n ≤ a := Nat.div_mul_le_self _ _
theorem topN_32 (a : Nat) : topN a 32 = a := by simp [topN]
theorem lt_topN_add (a n : Nat) : a < topN a n + 2 ^ (32 - n) := by
  have h := topN_low a n
  have : lowN a n < 2 ^ (32 - n) := Nat.mod_lt _ (Nat.two_pow_pos _)
  omega
/-- The bit behind so many. -/
def bitN (a n : Nat) : Nat := a / 2 ^ (31 - n) % 2
theorem topN_succ (a : Nat) {n : Nat} (h : n < 32) : topN a (n + 1) = topN a n + bitN a n * 2 ^ (31 - n) := by
  unfold topN bitN
  rw [show 32 - (n + 1) = 31 - n by omega, show 32 - n = (31 - n) + 1 by omega, Nat.pow_succ, ← Nat.div_div_eq_div_mul]
  have h1 := Nat.div_add_mod (a / 2 ^ (31 - n)) 2
  rw [← Nat.mul_assoc, Nat.mul_right_comm, ← Nat.add_mul]
  congr 1
  omega
theorem bitN_lt (a n : Nat) : bitN a n < 2 := Nat.mod_lt _ (by omega)
theorem topN_topN (a : Nat) {n m : Nat} (h : n ≤ m) (hm : m ≤ 32) : topN (topN a m) n = topN a n := by
  unfold topN
  have e : 2 ^ (32 - n) = 2 ^ (32 - m) * 2 ^ (m - n) := by rw [← Nat.pow_add]; congr 1; omega
  rw [e, ← Nat.div_div_eq_div_mul, ← Nat.div_div_eq_div_mul, Nat.mul_div_cancel _ (Nat.two_pow_pos _)]
/-- Does a prefix cover another one (both right)? -/
def covB (p q : Key) : Bool := decide (p.2 ≤ q.2) && topN q.1 p.2.toNat == p.1
theorem filter_split {α : Type} {lt : α → α → Prop} (asymm : ∀ x y, lt x y → ¬ lt y x) {L : List α} (hs : L.Pairwise lt) {P P1 P2 : α → Bool} (h : ∀ x ∈ L, P x = (P1 x || P2 x)) (hd : ∀ x ∈ L, ∀ y ∈ L, P1 x = true → P2 y = true → lt x y) :
    L.filter P = L.filter P1 ++ L.filter P2 := by
  induction L with
  | nil => rfl
  | cons x l ih =>
    rw [List.pairwise_cons] at hs
    have hi := ih hs.2 (fun y hy => h y (List.mem_cons_of_mem _ hy)) (fun y hy z hz => hd y (List.mem_cons_of_mem _ hy) z (List.mem_cons_of_mem _ hz))
    have hx := h x (by simp)
    rw [List.filter_cons, List.filter_cons, List.filter_cons, hx, hi]
    cases h1 : P1 x with
    | true =>
      have h2 : P2 x = false := by
        cases h2 : P2 x with
        | false => rfl
        | true =>
          have := hd x (by simp) x (by simp) h1 h2
          exact absurd this (asymm _ _ this)
      rw [h2]; simp
    | false =>
      cases h2 : P2 x with
      | false => simp
      | true =>
        have : l.filter P1 = [] := by
          rw [List.filter_eq_nil_iff]
          intro y hy h3
          have h4 := hd y (List.mem_cons_of_mem _ hy) x (by simp) h3 h2
          exact asymm _ _ (hs.1 y hy) h4
        rw [this]; simp
/-- What a prefix covers: itself, and what its halves cover, in this order. -/
theorem cov_split {L : Tbl} (hL : Tab L) {a n : Nat} (hn : n < 32) (ha : lowN a n = 0) :
    L.filter (fun x => covB (a, (n : Int)) x.1) = L.filter (fun x => x.1 == (a, (n : Int))) ++ (L.filter (fun x => covB (a, ((n + 1 : Nat) : Int)) x.1) ++ L.filter (fun x => covB (a + 2 ^ (31 - n), ((n + 1 : Nat) : Int)) x.1)) := by
  have hp : 0 < 2 ^ (31 - n) := Nat.two_pow_pos _
  have ht : topN a n = a := topN_of_low ha
  have key : ∀ x ∈ L, ∃ m : Nat, x.1.2 = (m : Int) ∧ m ≤ 32 ∧ topN x.1.1 m = x.1.1 := by
    intro x hx
    obtain ⟨h1, h2⟩ := hL.right x hx
    obtain ⟨h3, h4, h5⟩ := (rightP_iff _ _).1 h2
    obtain ⟨m, hm⟩ := Int.eq_ofNat_of_zero_le h3
    rw [hm] at h4 h5
    exact ⟨m, hm, by omega, topN_of_low (by simpa using h5)⟩
  have cov : ∀ (x : Key) (m b k : Nat), x.2 = (m : Int) → (covB (b, (k : Int)) x = true ↔ k ≤ m ∧ topN x.1 k = b) := by
    intro x m b k hm
    simp only [covB, hm, Int.toNat_natCast, Bool.and_eq_true, decide_eq_true_eq, beq_iff_eq]
    omega
  rw [filter_split (lt := fun x y : Key × Int => kLt x.1 y.1) (fun x y => kLt_asymm) hL.sorted (P1 := fun x => x.1 == (a, (n : Int))) (P2 := fun x => covB (a, ((n + 1 : Nat) : Int)) x.1 || covB (a + 2 ^ (31 - n), ((n + 1 : Nat) : Int)) x.1)]
  · congr 1
    apply filter_split (lt := fun x y : Key × Int => kLt x.1 y.1) (fun x y => kLt_asymm) hL.sorted (fun x _ => rfl)
    intro x hx y hy h1 h2
    obtain ⟨m, hm, hm2, hm3⟩ := key x hx
    obtain ⟨m', hm', hm2', hm3'⟩ := key y hy
    have h1 := (cov _ _ _ _ hm).1 h1
    have h2 := (cov _ _ _ _ hm').1 h2
    have h3 := lt_topN_add x.1.1 (n + 1)
    have h4 := topN_le y.1.1 (n + 1)
    rw [show 32 - (n + 1) = 31 - n by omega] at h3
    left
    omega
  · intro x hx
    obtain ⟨m, hm, hm2, hm3⟩ := key x hx
    have hc := cov x.1 m a n hm
    have hc1 := cov x.1 m a (n + 1) hm
    have hc2 := cov x.1 m (a + 2 ^ (31 - n)) (n + 1) hm
    have hb := bitN_lt x.1.1 n
    have hs := topN_succ x.1.1 hn
    have hself : (x.1 == (a, (n : Int))) = true ↔ n = m ∧ topN x.1.1 n = a := by
      rw [beq_iff_eq, Prod.ext_iff]
      simp only [hm]
      constructor
      · rintro ⟨h1, h2⟩
        have : n = m := by omega
        subst this
        exact ⟨rfl, hm3.trans h1⟩
      · rintro ⟨rfl, h2⟩
        exact ⟨hm3.symm.trans h2, rfl⟩
    have hle : topN x.1.1 n ≤ x.1.1 := topN_le _ _
    have hh : (covB (a, (n : Int)) x.1 = true) ↔ ((x.1 == (a, (n : Int))) || (covB (a, ((n + 1 : Nat) : Int)) x.1 || covB (a + 2 ^ (31 - n), ((n + 1 : Nat) : Int)) x.1)) = true := by
      rw [Bool.or_eq_true, Bool.or_eq_true, hc, hself, hc1, hc2]
      have hb2 : bitN x.1.1 n = 0 ∨ bitN x.1.1 n = 1 := by omega
      have htt : topN (topN x.1.1 (n + 1)) n = topN x.1.1 n := topN_topN _ (by omega) (by omega)
      constructor
      · rintro ⟨h1, h2⟩
        by_cases hnm : n = m
        · exact .inl ⟨hnm, h2⟩
        · right
          rcases hb2 with h3 | h3
          · left; rw [h3] at hs; exact ⟨by omega, by omega⟩
          · right; rw [h3] at hs; exact ⟨by omega, by omega⟩
      · rintro (⟨h1, h2⟩ | ⟨h1, h2⟩ | ⟨h1, h2⟩)
        · exact ⟨by omega, h2⟩
        · refine ⟨by omega, ?_⟩
          rw [← htt, h2, ht]
        · refine ⟨by omega, ?_⟩
          rcases hb2 with h3 | h3
          · rw [h3] at hs
            exfalso
            have h5 : topN x.1.1 n = a + 2 ^ (31 - n) := by omega
            have h6 : lowN (topN x.1.1 n) n = 0 := lowN_top _ _
            rw [h5] at h6
            unfold lowN at h6 ha
            rw [show 32 - n = (31 - n) + 1 by omega, Nat.pow_succ] at h6 ha
            have h7 : (a + 2 ^ (31 - n)) % (2 ^ (31 - n) * 2) = 2 ^ (31 - n) := by
              rw [Nat.add_mod, ha, Nat.zero_add, Nat.mod_mod]
              exact Nat.mod_eq_of_lt (by omega)
            omega
          · rw [h3] at hs; omega
    cases h1 : covB (a, (n : Int)) x.1 with
    | true => rw [h1] at hh; exact (hh.1 rfl).symm
    | false =>
      rw [h1] at hh
      cases h2 : ((x.1 == (a, (n : Int))) || (covB (a, ((n + 1 : Nat) : Int)) x.1 || covB (a + 2 ^ (31 - n), ((n + 1 : Nat) : Int)) x.1)) with
      | false => rfl
      | true => rw [h2] at hh; exact absurd (hh.2 rfl) (by simp)
  · intro x hx y hy h1 h2
    obtain ⟨m', hm', hm2', hm3'⟩ := key y hy
    have h1 : x.1 = (a, (n : Int)) := by simpa using h1
    rw [h1]
    rcases Bool.or_eq_true_iff.1 h2 with h2 | h2
    · have h2 := (cov _ _ _ _ hm').1 h2
      have h4 := topN_le y.1.1 (n + 1)
      unfold kLt
      simp only [hm']
      omega
    · have h2 := (cov _ _ _ _ hm').1 h2
      have h4 := topN_le y.1.1 (n + 1)
      left
      show a < y.1.1
      omega
theorem or_half {a n : Nat} (ha : a < 4294967296) (hl : lowN a n = 0) (hn : n < 32) : bOr .u32 (a : Int) (bShl .u32 1 ((31 - n : Nat) : Int)) = ((a + 2 ^ (31 - n) : Nat) : Int) := by
  have hp : 0 < 2 ^ (31 - n) := Nat.two_pow_pos _
  have hle := pow_le32 (show 31 - n ≤ 32 by omega)
  have hlt : 2 ^ (31 - n) < 4294967296 := Nat.lt_of_le_of_lt (Nat.pow_le_pow_right (by omega) (show 31 - n ≤ 31 by omega)) (by decide)
  have e1 : bShl .u32 1 ((31 - n : Nat) : Int) = ((2 ^ (31 - n) : Nat) : Int) := by
    unfold bShl
    rw [Int.toNat_natCast, Nat.min_eq_left (by show 31 - n ≤ 32; omega), Int.one_mul]
    have e : (2 : Int) ^ (31 - n) = ((2 ^ (31 - n) : Nat) : Int) := by simp
    rw [e]
    exact wu32 (by omega) (by omega)
  rw [e1, bOr_nat .u32 _ _ ha hlt rfl]
  have hs : 2 ^ (31 - n) < 2 ^ (32 - n) := Nat.pow_lt_pow_right (by omega) (by omega)
  have ht := topN_of_low hl
  unfold topN at ht
  rw [← Nat.shiftLeft_eq] at ht
  have : a ||| 2 ^ (31 - n) = a + 2 ^ (31 - n) := by
    rw [← ht, ← Nat.shiftLeft_add_eq_or_of_lt hs]
  rw [this]
theorem lowN_half {a n : Nat} (hl : lowN a n = 0) (hn : n < 32) : lowN a (n + 1) = 0 ∧ lowN (a + 2 ^ (31 - n)) (n + 1) = 0 := by
  unfold lowN at *
  have e : 2 ^ (32 - n) = 2 ^ (31 - n) * 2 := by rw [show 32 - n = 31 - n + 1 by omega, Nat.pow_succ]
  rw [e] at hl
  rw [show 32 - (n + 1) = 31 - n by omega]
  have h1 : a % 2 ^ (31 - n) = 0 := Nat.mod_eq_zero_of_dvd (Nat.dvd_trans ⟨2, rfl⟩ (Nat.dvd_of_mod_eq_zero hl))
  exact ⟨h1, by rw [Nat.add_mod, h1, Nat.mod_self]; simp⟩
theorem half_lt {a n : Nat} (ha : a < 4294967296) (hl : lowN a n = 0) (hn : n < 32) : a + 2 ^ (31 - n) < 4294967296 := by
  have h := topN_of_low hl
  unfold topN at h
  have e : 2 ^ (32 - n) * 2 ^ n = 4294967296 := by rw [← Nat.pow_add, show 32 - n + n = 32 by omega]
  have hq : a / 2 ^ (32 - n) < 2 ^ n := by
    apply Nat.div_lt_of_lt_mul
    rw [e]; exact ha
  have hs : 2 ^ (31 - n) < 2 ^ (32 - n) := Nat.pow_lt_pow_right (by omega) (by omega)
  have h2 : (a / 2 ^ (32 - n) + 1) * 2 ^ (32 - n) ≤ 2 ^ n * 2 ^ (32 - n) := Nat.mul_le_mul_right _ hq
  rw [Nat.add_mul, h, Nat.one_mul, Nat.mul_comm (2 ^ n), e] at h2
  omega
/-- The prefixes that one covers, in order. -/
def keysCov (L : Tbl) (k : Key) : List Key := (L.filter fun x => covB k x.1).map (·.1)
theorem filter_self {L : Tbl} (hL : L.Pairwise fun x y => kLt x.1 y.1) (k : Key) : (L.filter fun x => x.1 == k).map (·.1) = if (tget L k).isSome then [k] else [] := by
  induction L with
  | nil => rfl
  | cons x l ih =>
    rw [List.pairwise_cons] at hL
    have hi := ih hL.2
    rw [tget_cons, List.filter_cons]
    by_cases hx : x.1 = k
    · have : tget l k = none := tget_none.2 fun y hy he => by
        have := hL.1 y hy
        rw [he, hx] at this
        exact kLt_irrefl _ this
      rw [this] at hi
      rw [if_pos (by simp [hx]), if_pos hx, List.map_cons, hi]
      simp [hx]
    · rw [if_neg (by simp [hx]), if_neg hx, hi]
theorem cov_keys {L : Tbl} (hL : Tab L) {a n : Nat} (hn : n < 32) (ha : lowN a n = 0) :
    keysCov L (a, (n : Int)) = (if (tget L (a, (n : Int))).isSome then [(a, (n : Int))] else []) ++ (keysCov L (a, ((n + 1 : Nat) : Int)) ++ keysCov L (a + 2 ^ (31 - n), ((n + 1 : Nat) : Int))) := by
  unfold keysCov
  rw [cov_split hL hn ha, List.map_append, List.map_append, filter_self hL.sorted]
theorem cov_keys32 {L : Tbl} (hL : Tab L) (a : Nat) : keysCov L (a, ((32 : Nat) : Int)) = if (tget L (a, ((32 : Nat) : Int))).isSome then [(a, ((32 : Nat) : Int))] else [] := by
  unfold keysCov
  rw [← filter_self hL.sorted]
  congr 1
  apply List.filter_congr
  intro x hx
  obtain ⟨h1, h2⟩ := hL.right x hx
  obtain ⟨h3, h4, h5⟩ := (rightP_iff _ _).1 h2
  cases hb : (x.1 == (a, ((32 : Nat) : Int))) with
  | true =>
    have hb : x.1 = (a, ((32 : Nat) : Int)) := by simpa using hb
    rw [hb]
    simp [covB, topN_32]
  | false =>
    have hb : x.1 ≠ (a, ((32 : Nat) : Int)) := by simpa using hb
    cases hc : covB (a, ((32 : Nat) : Int)) x.1 with
    | false => rfl
    | true =>
      simp only [covB, Bool.and_eq_true, decide_eq_true_eq, beq_iff_eq, Int.toNat_natCast, topN_32] at hc
      exact absurd (Prod.ext hc.2 (by show x.1.2 = ((32 : Nat) : Int); omega)) hb
/-- The prefixes on the way to so many bits of an address. -/
def onWay (L : Tbl) (A m : Nat) : List Key := ((List.range m).filter fun i => (tget L (topN A i, (i : Int))).isSome).map fun i => (topN A i, (i : Int))
theorem onWay_succ (L : Tbl) (A m : Nat) : onWay L A (m + 1) = onWay L A m ++ (if (tget L (topN A m, (m : Int))).isSome then [(topN A m, (m : Int))] else []) := by
  unfold onWay
  rw [List.range_succ, List.filter_append, List.map_append]
  congr 1
  rw [List.filter_cons]
  split <;> simp
theorem onWay_len (L : Tbl) (A m : Nat) : (onWay L A m).length ≤ m := by
  unfold onWay
  rw [List.length_map]
  exact Nat.le_trans (List.length_filter_le _ _) (by simp)
theorem keysCov_all {L : Tbl} (hL : Tab L) : keysCov L (0, ((0 : Nat) : Int)) = L.map (·.1) := by
  unfold keysCov
  congr 1
  rw [List.filter_eq_self]
  intro x hx
  obtain ⟨h1, h2⟩ := hL.right x hx
  obtain ⟨h3, h4, h5⟩ := (rightP_iff _ _).1 h2
  have ht : topN x.1.1 0 = 0 := by unfold topN; rw [Nat.div_eq_of_lt (by show x.1.1 < 2 ^ 32; omega), Nat.zero_mul]
  simp only [covB, Int.toNat_natCast, Bool.and_eq_true, decide_eq_true_eq, beq_iff_eq]
  exact ⟨by omega, ht⟩
theorem onWay_none {L : Tbl} {A m k : Nat} (h : m ≤ k) (hno : ∀ i, m ≤ i → i < k → tget L (topN A i, (i : Int)) = none) : onWay L A k = onWay L A m := by
  obtain ⟨d, rfl⟩ := Nat.le.dest h
  clear h
  induction d with
  | zero => rfl
  | succ d ih =>
    rw [show m + (d + 1) = m + d + 1 by omega, onWay_succ, hno (m + d) (by omega) (by omega), ih (fun i h1 h2 => hno i h1 (by omega))]
    simp
/-- Does a prefix have an address? -/
def hasB (p : Key) (a : Nat) : Bool := rightP p.1 p.2 && topN a p.2.toNat == p.1
theorem onWay_mem {L : Tbl} (hL : Tab L) {A : Nat} (hA : A < 4294967296) {k : Key} : k ∈ onWay L A 33 ↔ k ∈ L.map (·.1) ∧ hasB k A = true := by
  unfold onWay
  simp only [List.mem_map, List.mem_filter, List.mem_range]
  constructor
  · rintro ⟨i, ⟨hi, hg⟩, rfl⟩
    obtain ⟨x, hx, he⟩ := tget_isSome.1 hg
    refine ⟨⟨x, hx, he⟩, ?_⟩
    simp only [hasB, Bool.and_eq_true, beq_iff_eq, Int.toNat_natCast, and_true]
    rw [rightP_iff]
    exact ⟨by omega, by omega, by rw [Int.toNat_natCast]; exact lowN_top _ _⟩
  · rintro ⟨⟨x, hx, rfl⟩, hb⟩
    simp only [hasB, Bool.and_eq_true, beq_iff_eq] at hb
    obtain ⟨h0, h1, h2⟩ := (rightP_iff _ _).1 hb.1
    have e : (topN A x.1.2.toNat, ((x.1.2.toNat : Nat) : Int)) = x.1 := Prod.ext hb.2 (by show ((x.1.2.toNat : Nat) : Int) = x.1.2; omega)
    exact ⟨x.1.2.toNat, ⟨by omega, by rw [e]; exact tget_isSome.2 ⟨x, hx, rfl⟩⟩, e⟩
theorem onWay_sorted (L : Tbl) (A m : Nat) : (onWay L A m).Pairwise fun x y => x.2 < y.2 := by
  unfold onWay
  rw [List.pairwise_map]
  refine List.Pairwise.filter _ ?_
  refine List.Pairwise.imp ?_ (List.pairwise_lt_range (n := m))
  intro a b h
  show (a : Int) < (b : Int)
  omega
/-- The last one is the longest. -/
theorem onWay_last {L : Tbl} (hL : Tab L) {A : Nat} (hA : A < 4294967296) {init : List Key} {q : Key} (h : onWay L A 33 = init ++ [q]) : q ∈ L.map (·.1) ∧ hasB q A = true ∧ ∀ k ∈ L.map (·.1), hasB k A = true → k.2 ≤ q.2 := by
  have hq := (onWay_mem hL hA (k := q)).1 (by rw [h]; simp)
  refine ⟨hq.1, hq.2, fun k hk hb => ?_⟩
  have hm := (onWay_mem hL hA (k := k)).2 ⟨hk, hb⟩
  rw [h] at hm
  have hs := onWay_sorted L A 33
  rw [h, List.pairwise_append] at hs
  rcases List.mem_append.1 hm with h1 | h1
  · have := hs.2.2 k h1 q (by simp); omega
  · simp at h1; subst h1; exact Int.le_refl _
theorem has_eq {p q : Key} {A : Nat} (hp : hasB p A = true) (hq : hasB q A = true) (h : p.2 = q.2) : p = q := by
  simp only [hasB, Bool.and_eq_true, beq_iff_eq] at hp hq
  exact Prod.ext (by rw [← hp.2, ← hq.2, h]) h
/-- A prefix that covers another one is on its way just where the table has it. -/
theorem onWay_cov {L : Tbl} {p k : Key} (hp : rightP p.1 p.2 = true) (hk : rightP k.1 k.2 = true) (h : covB p k = true) : p ∈ onWay L k.1 (k.2.toNat + 1) ↔ (tget L p).isSome = true := by
  obtain ⟨p0, p1, p2⟩ := (rightP_iff _ _).1 hp
  obtain ⟨k0, k1, k2⟩ := (rightP_iff _ _).1 hk
  simp only [covB, Bool.and_eq_true, decide_eq_true_eq, beq_iff_eq] at h
  have e : (topN k.1 p.2.toNat, ((p.2.toNat : Nat) : Int)) = p := Prod.ext h.2 (by show ((p.2.toNat : Nat) : Int) = p.2; omega)
  unfold onWay
  simp only [List.mem_map, List.mem_filter, List.mem_range]
  constructor
  · rintro ⟨i, ⟨_, hg⟩, rfl⟩; exact hg
  · intro hg
    exact ⟨p.2.toNat, ⟨by omega, by rw [e]; exact hg⟩, e⟩
end Go.Sp
