/-
  The nodes of a table of prefixes in memory, and what the functions of package trie do to them.
-/
import Derived.Test.YtecegjimdohmeaaPfC
import Derived.Test.YtecegjimdohmeaaSpTrie
namespace Go.Proofs.Ytecegjimdohmeaa
set_option linter.unusedVariables false
set_option linter.unusedSimpArgs false
open Go.Sp

def ptr (o : Option Nat) : Value := .pointer (o.map fun b => ⟨b, 0, none⟩)
def upd {α : Type} (f : Nat → Nat → α) (a n : Nat) (v : α) : Nat → Nat → α := fun a' n' => if a' = a ∧ n' = n then v else f a' n'
theorem upd_at {α : Type} (f : Nat → Nat → α) (a n : Nat) (v : α) : upd f a n v a n = v := by simp [upd]
theorem upd_ne {α : Type} (f : Nat → Nat → α) {a n a' n' : Nat} (v : α) (h : ¬ (a' = a ∧ n' = n)) : upd f a n v a' n' = f a' n' := by simp only [upd, if_neg h]
/-- A node's cells. -/
def ncells (ad : Nat → Nat → Option Nat) (hs : Nat → Nat → Bool) (vs : Nat → Nat → Int) (c : Int) (a n : Nat) : List Value :=
  [ptr (ad a (n + 1)), ptr (ad (a + 2 ^ (31 - n)) (n + 1)), .bool (hs a n), .int .i64 (vs a n)] ++ (if n = 0 then [.int .i64 c] else [])
def ntype (n : Nat) : TypeId := if n = 0 then 86 else 84
/-- The nodes lie in memory, in these blocks. -/
structure TrN (w : World) (D : List Nat) (p : Nat) (ad : Nat → Nat → Option Nat) (hs : Nat → Nat → Bool) (vs : Nat → Nat → Int) (c : Int) : Prop where
  root : ad 0 0 = some p
  zero : ∀ a b, ad a 0 = some b → a = 0
  node : ∀ a n b, ad a n = some b → Blk w b (ntype n) (ncells ad hs vs c a n)
  inj : ∀ a n a' n' b, ad a n = some b → ad a' n' = some b → a = a' ∧ n = n'
  up : ∀ a n b, ad a (n + 1) = some b → n < 32 ∧ a < 4294967296 ∧ lowN a (n + 1) = 0 ∧ ∃ b', ad (topN a n) n = some b'
  foot : ∀ a n b, ad a n = some b → b ∈ D
theorem TrN.keep {w w' : World} {D E : List Nat} {p : Nat} {ad : Nat → Nat → Option Nat} {hs : Nat → Nat → Bool} {vs : Nat → Nat → Int} {c : Int} (h : TrN w D p ad hs vs c) (k : Keeps E w w') (hd : ∀ x ∈ D, x ∉ E) : TrN w' D p ad hs vs c :=
  ⟨h.root, h.zero, fun a n b hb => (h.node a n b hb).keep k (hd b (h.foot a n b hb)), h.inj, h.up, h.foot⟩
theorem TrN.mono {w : World} {D E : List Nat} {p : Nat} {ad : Nat → Nat → Option Nat} {hs : Nat → Nat → Bool} {vs : Nat → Nat → Int} {c : Int} (h : TrN w D p ad hs vs c) (hd : ∀ x ∈ D, x ∈ E) : TrN w E p ad hs vs c :=
  ⟨h.root, h.zero, h.node, h.inj, h.up, fun a n b hb => hd b (h.foot a n b hb)⟩
theorem TrN.right {w : World} {D : List Nat} {p : Nat} {ad : Nat → Nat → Option Nat} {hs : Nat → Nat → Bool} {vs : Nat → Nat → Int} {c : Int} (h : TrN w D p ad hs vs c) {a n b : Nat} (hb : ad a n = some b) : n ≤ 32 ∧ a < 4294967296 ∧ lowN a n = 0 := by
  cases n with
  | zero =>
    have := h.zero a b hb
    subst this
    exact ⟨by omega, by omega, by simp [lowN]⟩
  | succ n =>
    obtain ⟨h1, h2, h3, _⟩ := h.up a n b hb
    exact ⟨by omega, h2, h3⟩
/-- The half on the way to an address. -/
theorem TrN.kid {w : World} {D : List Nat} {p : Nat} {ad : Nat → Nat → Option Nat} {hs : Nat → Nat → Bool} {vs : Nat → Nat → Int} {c : Int} (h : TrN w D p ad hs vs c) {A n b : Nat} (hn : n < 32) (hb : ad (topN A n) n = some b) :
    w.cell? ((⟨b, 0, none⟩ : Addr).add (bitN A n)) = some (ptr (ad (topN A (n + 1)) (n + 1))) := by
  have hB := h.node _ _ _ hb
  have hs := topN_succ A hn
  have h2 := bitN_lt A n
  have : bitN A n = 0 ∨ bitN A n = 1 := by omega
  rw [add_mk, Nat.zero_add, hB.cell]
  rcases this with h3 | h3
  · rw [h3] at hs ⊢
    rw [Nat.zero_mul, Nat.add_zero] at hs
    rw [hs]; rfl
  · rw [h3] at hs ⊢
    rw [Nat.one_mul] at hs
    rw [hs]; rfl
theorem bit_c {w : World} {a n : Nat} (ha : a < 4294967296) (hn : n < 32) : Calls Try.prog 38 #[.int .u32 (a : Int), .int .i64 (n : Int)] w (R38 fun r w' => r = (bitN a n : Int) ∧ w' = w) := by
  have hb := bitN_lt a n
  refine F38_ok ?_
  unfold F38
  rw [w64 (n := (31 : Int) - (n : Int)) (by omega) (by omega), show (31 : Int) - (n : Int) = ((31 - n : Nat) : Int) by omega, bShr_nat .u32 a _ (by show 31 - n ≤ 32; omega)]
  have hd : a / 2 ^ (31 - n) ≤ a := Nat.div_le_self _ _
  have e := bAnd_nat .u32 (a / 2 ^ (31 - n)) 1 (by show _ < 4294967296; omega) (by decide) rfl
  rw [Nat.and_one_is_mod] at e
  rw [show (1 : Int) = ((1 : Nat) : Int) from rfl, e, show a / 2 ^ (31 - n) % 2 = bitN a n from rfl, w64 (by omega) (by omega)]
  exact ⟨by omega, rfl, rfl⟩

theorem find_c {w : World} {D : List Nat} {p : Nat} {ad : Nat → Nat → Option Nat} {hs : Nat → Nat → Bool} {vs : Nat → Nat → Int} {c : Int} (h : TrN w D p ad hs vs c) {a n : Nat} (ha : a < 4294967296) (hn : n ≤ 32) (hr : lowN a n = 0) :
    Calls Try.prog 55 #[.pointer (some ⟨p, 0, none⟩), .agg #[.int .u32 (a : Int), .int .i64 (n : Int)]] w (R55 fun r w' => r = (ad a n).map (fun b => ⟨b, 0, none⟩) ∧ Keeps [] w w') := by
  refine F55_ok (M.new_blk fun b w1 hb B k1 => ⟨_, rfl, _, B.cell 1, ?_⟩)
  have h0 : topN a 0 = 0 := by unfold topN; rw [Nat.div_eq_of_lt (by show a < 2 ^ 32; omega), Nat.zero_mul]
  refine M.loop2_by (fun x y w' => ∃ (i b' : Nat), y = i ∧ i ≤ n ∧ x = some ⟨b', 0, none⟩ ∧ ad (topN a i) i = some b' ∧ Keeps [] w1 w') (fun _ y _ => n - y.toNat) ⟨0, p, rfl, by omega, rfl, by rw [h0]; exact h.root, Keeps.refl _ _⟩ ?_
  rintro x y w' J ⟨i, b', rfl, hi, rfl, hb', hk⟩ hJ
  refine M.ite_by (fun c1 => ?_) (fun c1 => ?_)
  · have c1 := of_decide_eq_true c1
    have kd := Keeps.drew [] w'
    have k2 := hk.trans kd (by simp)
    have hi32 : i < 32 := by omega
    have hT := h.keep (k1.trans k2 (by simp)) (by simp)
    have hkid := hT.kid hi32 hb'
    have hbit := bitN_lt a i
    refine M.drew_by ⟨_, rfl, _, (B.keep k2 (by simp)).cell 0, (bit_c ha hi32).mono fun e w3 g => ?_⟩
    obtain ⟨r, rfl, rfl, rfl⟩ := g
    refine ⟨_, rfl, by omega, by omega, (ad (topN a (i + 1)) (i + 1)).map (fun b => ⟨b, 0, none⟩), ?_, ?_⟩
    · rw [show ((bitN a i : Nat) : Int).toNat * 1 = bitN a i by omega]
      exact hkid
    · cases hc : ad (topN a (i + 1)) (i + 1) with
      | none =>
        refine M.ite_y rfl ⟨?_, k1.trans k2 (by simp)⟩
        -- no node further on
        have key : ∀ d, i + 1 + d ≤ 32 → ad (topN a (i + 1 + d)) (i + 1 + d) = none := by
          intro d
          induction d with
          | zero => intro _; exact hc
          | succ d ih =>
            intro hj32
            cases hx : ad (topN a (i + 1 + (d + 1))) (i + 1 + (d + 1)) with
            | none => rfl
            | some y =>
              obtain ⟨_, _, _, b2, hb2⟩ := h.up _ (i + 1 + d) _ hx
              rw [topN_topN a (by omega) hj32, ih (by omega)] at hb2
              cases hb2
        have := key (n - (i + 1)) (by omega)
        rw [show i + 1 + (n - (i + 1)) = n by omega] at this
        rw [topN_of_low hr] at this
        rw [this]; rfl
      | some b2 =>
        refine M.ite_n rfl ?_
        rw [w64 (by omega) (by omega)]
        exact hJ _ _ _ ⟨i + 1, b2, by omega, by omega, rfl, hc, k2⟩ (by omega)
  · have c1 := of_decide_eq_false c1
    have hin : i = n := by omega
    subst hin
    rw [topN_of_low hr] at hb'
    exact ⟨by rw [hb']; rfl, k1.trans hk (by simp)⟩

theorem topN_half {a m : Nat} (h : lowN a m = 0) (hm : m < 32) : topN (a + 2 ^ (31 - m)) m = a := by
  have hp : 0 < 2 ^ (31 - m) := Nat.two_pow_pos _
  have h1 := topN_of_low h
  have e : 2 ^ (32 - m) = 2 ^ (31 - m) * 2 := by rw [show 32 - m = 31 - m + 1 by omega, Nat.pow_succ]
  unfold lowN at h
  unfold topN at h1 ⊢
  rw [e] at h h1 ⊢
  have hd : (a + 2 ^ (31 - m)) / (2 ^ (31 - m) * 2) = a / (2 ^ (31 - m) * 2) := by
    obtain ⟨q, hq⟩ := Nat.dvd_of_mod_eq_zero h
    rw [hq, Nat.mul_add_div (by omega), Nat.mul_div_cancel_left _ (by omega), Nat.div_eq_of_lt (by omega), Nat.add_zero]
  rw [hd]; exact h1
theorem kid_parent {x m a' : Nat} (h : lowN x m = 0) (hm : m < 32) (hk : x = a' ∨ x + 2 ^ (31 - m) = a') : topN a' m = x := by
  rcases hk with rfl | rfl
  · exact topN_of_low h
  · exact topN_half h hm
theorem TrN.lt {w : World} {D : List Nat} {p : Nat} {ad : Nat → Nat → Option Nat} {hs : Nat → Nat → Bool} {vs : Nat → Nat → Int} {c : Int} (h : TrN w D p ad hs vs c) {a n b : Nat} (hb : ad a n = some b) : b < w.heap.size := (h.node _ _ _ hb).lt
/-- A new node below one. -/
theorem TrN.grow {w w' : World} {D : List Nat} {p : Nat} {ad : Nat → Nat → Option Nat} {hs : Nat → Nat → Bool} {vs : Nat → Nat → Int} {c : Int} (h : TrN w D p ad hs vs c) {A n b nb : Nat} (hA : A < 4294967296) (hn : n < 32) (hb : ad (topN A n) n = some b) (hno : ad (topN A (n + 1)) (n + 1) = none)
    (hnb : w.heap.size ≤ nb) (k : Keeps [b] w w') (B : Blk w' nb 84 [ptr none, ptr none, .bool false, .int .i64 0]) (P : Blk w' b (ntype n) ((ncells ad hs vs c (topN A n) n).set (bitN A n) (ptr (some nb)))) :
    TrN w' (nb :: D) p (upd ad (topN A (n + 1)) (n + 1) (some nb)) (upd hs (topN A (n + 1)) (n + 1) false) (upd vs (topN A (n + 1)) (n + 1) 0) c := by
  have htt : topN (topN A (n + 1)) n = topN A n := topN_topN A (by omega) (by omega)
  have hlow : lowN (topN A (n + 1)) (n + 1) = 0 := lowN_top _ _
  have hA' : topN A (n + 1) < 4294967296 := topN_lt hA
  have hs' := topN_succ A hn
  have hp : 0 < 2 ^ (31 - n) := Nat.two_pow_pos _
  refine ⟨?_, ?_, ?_, ?_, ?_, ?_⟩
  · rw [upd_ne _ _ (by omega)]; exact h.root
  · intro a b' hb'
    rw [upd_ne _ _ (by omega)] at hb'
    exact h.zero a b' hb'
  · intro x m y hy
    by_cases hxm : x = topN A (n + 1) ∧ m = n + 1
    · obtain ⟨rfl, rfl⟩ := hxm
      rw [upd_at] at hy
      cases hy
      have k0 : ad (topN A (n + 1)) (n + 1 + 1) = none := by
        cases hx : ad (topN A (n + 1)) (n + 1 + 1) with
        | none => rfl
        | some z =>
          obtain ⟨_, _, _, b2, hb2⟩ := h.up _ _ _ hx
          rw [topN_of_low hlow, hno] at hb2
          cases hb2
      have k1 : ad (topN A (n + 1) + 2 ^ (31 - (n + 1))) (n + 1 + 1) = none := by
        cases hx : ad (topN A (n + 1) + 2 ^ (31 - (n + 1))) (n + 1 + 1) with
        | none => rfl
        | some z =>
          obtain ⟨h5, _, _, b2, hb2⟩ := h.up _ _ _ hx
          rw [topN_half hlow h5, hno] at hb2
          cases hb2
      have hc : ncells (upd ad (topN A (n + 1)) (n + 1) (some nb)) (upd hs (topN A (n + 1)) (n + 1) false) (upd vs (topN A (n + 1)) (n + 1) 0) c (topN A (n + 1)) (n + 1) = [ptr none, ptr none, .bool false, .int .i64 0] := by
        unfold ncells
        rw [upd_ne ad _ (by omega), upd_ne ad _ (by omega), upd_at, upd_at, k0, k1, if_neg (by omega)]; rfl
      rw [hc]
      exact B
    · rw [upd_ne _ _ hxm] at hy
      have hR := h.right hy
      by_cases hxn : x = topN A n ∧ m = n
      · obtain ⟨rfl, rfl⟩ := hxn
        rw [hb] at hy
        cases hy
        have hc : ncells (upd ad (topN A (m + 1)) (m + 1) (some nb)) (upd hs (topN A (m + 1)) (m + 1) false) (upd vs (topN A (m + 1)) (m + 1) 0) c (topN A m) m = (ncells ad hs vs c (topN A m) m).set (bitN A m) (ptr (some nb)) := by
          unfold ncells
          rw [upd_ne hs _ (by omega), upd_ne vs _ (by omega)]
          have h2 := bitN_lt A m
          have : bitN A m = 0 ∨ bitN A m = 1 := by omega
          rcases this with h3 | h3
          · have hs2 : topN A (m + 1) = topN A m := by rw [hs', h3, Nat.zero_mul]; rfl
            rw [h3, hs2, upd_at, upd_ne ad _ (by omega)]; rfl
          · have hs2 : topN A (m + 1) = topN A m + 2 ^ (31 - m) := by rw [hs', h3, Nat.one_mul]
            rw [h3, hs2, upd_at, upd_ne ad _ (by omega)]; rfl
        rw [hc]
        exact P
      · have hyb : y ≠ b := fun he => hxn (by subst he; have := h.inj _ _ _ _ _ hy hb; exact this)
        have hB := (h.node _ _ _ hy).keep k (by simpa using hyb)
        have k0 : ¬ (x = topN A (n + 1) ∧ m + 1 = n + 1) := by
          rintro ⟨e1, e2⟩
          obtain rfl : m = n := by omega
          exact hxn ⟨by rw [← htt, kid_parent hR.2.2 hn (.inl e1)], rfl⟩
        have k1 : ¬ (x + 2 ^ (31 - m) = topN A (n + 1) ∧ m + 1 = n + 1) := by
          rintro ⟨e1, e2⟩
          obtain rfl : m = n := by omega
          exact hxn ⟨by rw [← htt, kid_parent hR.2.2 hn (.inr e1)], rfl⟩
        have hc : ncells (upd ad (topN A (n + 1)) (n + 1) (some nb)) (upd hs (topN A (n + 1)) (n + 1) false) (upd vs (topN A (n + 1)) (n + 1) 0) c x m = ncells ad hs vs c x m := by
          unfold ncells
          rw [upd_ne ad _ k0, upd_ne ad _ k1, upd_ne hs _ hxm, upd_ne vs _ hxm]
        rw [hc]; exact hB
  · intro x m x' m' y hy hy'
    by_cases h1 : x = topN A (n + 1) ∧ m = n + 1 <;> by_cases h2 : x' = topN A (n + 1) ∧ m' = n + 1
    · exact ⟨h1.1.trans h2.1.symm, h1.2.trans h2.2.symm⟩
    · rw [h1.1, h1.2, upd_at] at hy
      rw [upd_ne _ _ h2] at hy'
      cases hy
      have := h.lt hy'
      omega
    · rw [h2.1, h2.2, upd_at] at hy'
      rw [upd_ne _ _ h1] at hy
      cases hy'
      have := h.lt hy
      omega
    · rw [upd_ne _ _ h1] at hy
      rw [upd_ne _ _ h2] at hy'
      exact h.inj _ _ _ _ _ hy hy'
  · intro x m y hy
    by_cases h1 : x = topN A (n + 1) ∧ m + 1 = n + 1
    · obtain ⟨rfl, h2⟩ := h1
      obtain rfl : m = n := by omega
      exact ⟨hn, hA', hlow, b, by rw [upd_ne _ _ (by omega), htt]; exact hb⟩
    · rw [upd_ne _ _ h1] at hy
      obtain ⟨h2, h3, h4, b', hb'⟩ := h.up _ _ _ hy
      refine ⟨h2, h3, h4, ?_⟩
      by_cases h5 : topN x m = topN A (n + 1) ∧ m = n + 1
      · exact ⟨nb, by rw [h5.1, h5.2, upd_at]⟩
      · exact ⟨b', by rw [upd_ne _ _ h5]; exact hb'⟩
  · intro x m y hy
    by_cases h1 : x = topN A (n + 1) ∧ m = n + 1
    · rw [h1.1, h1.2, upd_at] at hy
      cases hy; simp
    · rw [upd_ne _ _ h1] at hy
      exact List.mem_cons_of_mem _ (h.foot _ _ _ hy)
/-- A node's number is put. -/
theorem TrN.setv {w w' : World} {D : List Nat} {p : Nat} {ad : Nat → Nat → Option Nat} {hs : Nat → Nat → Bool} {vs : Nat → Nat → Int} {c : Int} (h : TrN w D p ad hs vs c) {a n b : Nat} (hb : ad a n = some b) {x : Bool} {v : Int}
    (k : Keeps [b] w w') (P : Blk w' b (ntype n) (ncells ad (upd hs a n x) (upd vs a n v) c a n)) : TrN w' D p ad (upd hs a n x) (upd vs a n v) c := by
  refine ⟨h.root, h.zero, ?_, h.inj, h.up, h.foot⟩
  intro a' n' y hy
  by_cases h1 : a' = a ∧ n' = n
  · obtain ⟨rfl, rfl⟩ := h1
    rw [hb] at hy; cases hy
    exact P
  · have hyb : y ≠ b := fun he => h1 (by subst he; exact h.inj _ _ _ _ _ hy hb)
    have hB := (h.node _ _ _ hy).keep k (by simpa using hyb)
    unfold ncells at hB ⊢
    rw [upd_ne hs _ h1, upd_ne vs _ h1]
    exact hB
/-- The count is put. -/
theorem TrN.setc {w w' : World} {D : List Nat} {p : Nat} {ad : Nat → Nat → Option Nat} {hs : Nat → Nat → Bool} {vs : Nat → Nat → Int} {c c' : Int} (h : TrN w D p ad hs vs c)
    (k : Keeps [p] w w') (P : Blk w' p (ntype 0) (ncells ad hs vs c' 0 0)) : TrN w' D p ad hs vs c' := by
  refine ⟨h.root, h.zero, ?_, h.inj, h.up, h.foot⟩
  intro a n y hy
  by_cases h1 : a = 0 ∧ n = 0
  · obtain ⟨rfl, rfl⟩ := h1
    rw [h.root] at hy; cases hy
    exact P
  · have hn : n ≠ 0 := fun hn => h1 ⟨by subst hn; exact h.zero a y hy, hn⟩
    have hyb : y ≠ p := fun he => h1 (by subst he; exact h.inj _ _ _ _ _ hy h.root)
    have hB := (h.node _ _ _ hy).keep k (by simpa using hyb)
    unfold ncells at hB ⊢
    rw [if_neg hn] at hB ⊢
    exact hB
/-- What the nodes tell is the table's. -/
def Abs (L : Tbl) (ad : Nat → Nat → Option Nat) (hs : Nat → Nat → Bool) (vs : Nat → Nat → Int) : Prop :=
  ∀ a n : Nat, n ≤ 32 → a < 4294967296 → lowN a n = 0 → tget L (a, (n : Int)) = if (ad a n).isSome && hs a n then some (vs a n) else none
def TrieAt (w : World) (D : List Nat) (p : Nat) (L : Tbl) : Prop := (∀ x ∈ D, x < w.heap.size) ∧ ∃ ad hs vs, TrN w D p ad hs vs L.length ∧ Abs L ad hs vs ∧ Tab L
theorem TrieAt.keep {w w' : World} {D E : List Nat} {p : Nat} {L : Tbl} (h : TrieAt w D p L) (k : Keeps E w w') (hd : ∀ x ∈ D, x ∉ E) : TrieAt w' D p L := by
  obtain ⟨hD, ad, hs, vs, h1, h2⟩ := h
  exact ⟨fun x hx => Nat.lt_of_lt_of_le (hD x hx) k.size, ad, hs, vs, h1.keep k hd, h2⟩
theorem tnew_c {w : World} : Calls Try.prog 20 #[] w (R20 fun r w' => ∃ p, r = some ⟨p, 0, none⟩ ∧ TrieAt w' [p] p [] ∧ Keeps [] w w' ∧ w.heap.size ≤ p) := by
  refine F20_ok (M.new_blk fun p w1 hp P k1 => ⟨p, rfl, ⟨by intro x hx; simp at hx; subst hx; exact P.lt, fun a n => if a = 0 ∧ n = 0 then some p else none, fun _ _ => false, fun _ _ => 0, ⟨rfl, ?_, ?_, ?_, ?_, ?_⟩, ?_, Tab.nil⟩, k1, by omega⟩)
  · intro a b h
    split at h
    · rename_i h1; exact h1.1
    · cases h
  · intro a n b h
    split at h
    · rename_i h1
      obtain ⟨rfl, rfl⟩ := h1
      cases h
      exact P
    · cases h
  · intro a n a' n' b h h'
    split at h
    · rename_i h1
      split at h'
      · rename_i h2
        exact ⟨h1.1.trans h2.1.symm, h1.2.trans h2.2.symm⟩
      · cases h'
    · cases h
  · intro a n b h
    split at h
    · rename_i h1; omega
    · cases h
  · intro a n b h
    split at h
    · cases h; simp
    · cases h
  · intro a n _ _ _
    simp [tget_nil]

theorem topN_zero {a : Nat} (ha : a < 4294967296) : topN a 0 = 0 := by unfold topN; rw [Nat.div_eq_of_lt (by show a < 2 ^ 32; omega), Nat.zero_mul]
theorem Abs.grow {L : Tbl} {ad : Nat → Nat → Option Nat} {hs : Nat → Nat → Bool} {vs : Nat → Nat → Int} (h : Abs L ad hs vs) {a n : Nat} (hno : ad a n = none) (o : Option Nat) (v : Int) : Abs L (upd ad a n o) (upd hs a n false) (upd vs a n v) := by
  intro a' n' h1 h2 h3
  rw [h a' n' h1 h2 h3]
  by_cases he : a' = a ∧ n' = n
  · obtain ⟨rfl, rfl⟩ := he
    rw [upd_at, upd_at, hno]; simp
  · rw [upd_ne _ _ he, upd_ne _ _ he, upd_ne _ _ he]
theorem Abs.set {L : Tbl} {ad : Nat → Nat → Option Nat} {hs : Nat → Nat → Bool} {vs : Nat → Nat → Int} (h : Abs L ad hs vs) {a n b : Nat} (hb : ad a n = some b) (v : Int) : Abs (tput L (a, (n : Int)) v) ad (upd hs a n true) (upd vs a n v) := by
  intro a' n' h1 h2 h3
  rw [tget_tput, h a' n' h1 h2 h3]
  by_cases he : a' = a ∧ n' = n
  · obtain ⟨rfl, rfl⟩ := he
    rw [upd_at, upd_at, hb]; simp
  · rw [upd_ne _ _ he, upd_ne _ _ he, if_neg]
    intro hk
    simp only [Prod.mk.injEq] at hk
    exact he ⟨hk.1.symm, by omega⟩
theorem Abs.unset {L : Tbl} {ad : Nat → Nat → Option Nat} {hs : Nat → Nat → Bool} {vs : Nat → Nat → Int} (h : Abs L ad hs vs) (a n : Nat) (v : Int) : Abs (tcut L (a, (n : Int))) ad (upd hs a n false) (upd vs a n v) := by
  intro a' n' h1 h2 h3
  rw [tget_tcut, h a' n' h1 h2 h3]
  by_cases he : a' = a ∧ n' = n
  · obtain ⟨rfl, rfl⟩ := he
    rw [upd_at]; simp
  · rw [upd_ne _ _ he, upd_ne _ _ he, if_neg]
    intro hk
    simp only [Prod.mk.injEq] at hk
    exact he ⟨hk.1.symm, by omega⟩
/-- Blocks that were of these, or are new. -/
def From (D : List Nat) (w : World) (D' : List Nat) : Prop := ∀ x ∈ D', x ∈ D ∨ w.heap.size ≤ x
theorem From.refl (D : List Nat) (w : World) : From D w D := fun _ h => .inl h
theorem put_c {w : World} {D : List Nat} {p : Nat} {L : Tbl} (h : TrieAt w D p L) {a : Nat} (ha : a < 4294967296) (n v : Int) (hlen : L.length ≤ 1000000) :
    Calls Try.prog 24 #[.pointer (some ⟨p, 0, none⟩), .agg #[.int .u32 (a : Int), .int .i64 n], .int .i64 v] w (R24 fun r w' => r = (rightP a n && (tget L (a, n)).isNone) ∧ ∃ D', TrieAt w' D' p (if rightP a n then tput L (a, n) v else L) ∧ Keeps D w w' ∧ From D w D') := by
  obtain ⟨hD, ad, hs, vs, hT, hA, hL⟩ := h
  refine F24_ok (M.new_blk fun b2 w1 hb2 B k1 => ⟨_, B.cell 0, _, B.cell 1, (right_c ha n).mono fun e w2 g => ?_⟩)
  obtain ⟨r2, rfl, rfl, k2⟩ := g
  have k02 := k1.trans k2 (by simp)
  refine ⟨_, rfl, M.ite_by (fun c => ?_) (fun c => ?_)⟩
  · have c : rightP a n = false := by simpa using c
    rw [c]
    refine ⟨rfl, D, ⟨fun x hx => Nat.lt_of_lt_of_le (hD x hx) k02.size, ad, hs, vs, hT.keep k02 (by simp), hA, hL⟩, k02.up, From.refl _ _⟩
  have c : rightP a n = true := by simpa using c
  obtain ⟨c0, c1, c2⟩ := (rightP_iff _ _).1 c
  obtain ⟨n, rfl⟩ := Int.eq_ofNat_of_zero_le c0
  rw [Int.toNat_natCast] at c2
  have hn32 : n ≤ 32 := by omega
  have hB2 := (B.keep k2 (by simp))
  have hb2lt := hB2.lt
  have hk1s := k1.size
  have hk2s := k2.size
  have hb1 := B.lt
  refine ⟨_, rfl, _, hB2.cell 1, ?_⟩
  rw [c]
  refine M.loop2_by (fun x y w' => ∃ (i b : Nat) (D' : List Nat) (ad : Nat → Nat → Option Nat) (hs : Nat → Nat → Bool) (vs : Nat → Nat → Int), y = i ∧ i ≤ n ∧ x = some ⟨b, 0, none⟩ ∧ ad (topN a i) i = some b ∧ TrN w' D' p ad hs vs L.length ∧ Abs L ad hs vs ∧ Keeps D w w' ∧ From D w1 D' ∧ (∀ x ∈ D', x < w'.heap.size) ∧ Blk w' b2 28 [.int .u32 (a : Int), .int .i64 (n : Int)] ∧ w1.heap.size ≤ w'.heap.size) (fun _ y _ => n - y.toNat)
    ⟨0, p, D, ad, hs, vs, rfl, by omega, rfl, by rw [topN_zero ha]; exact hT.root, hT.keep k02 (by simp), hA, k02.up, From.refl _ _, fun x hx => Nat.lt_of_lt_of_le (hD x hx) k02.size, hB2, hk2s⟩ ?_
  clear hT hA
  rintro x y w3 J ⟨i, b, D3, ad, hs, vs, rfl, hi, rfl, hb, hT, hA, hk, hF, hD3, B3, hw3⟩ hJ
  have hbn : ∀ {D' : List Nat}, From D w1 D' → b2 ∉ D' := fun hF hx => by
    rcases hF _ hx with h | h
    · have := hD _ h; omega
    · omega
  refine M.ite_by (fun c3 => ?_) (fun c3 => ?_)
  · have c3 := of_decide_eq_true c3
    have hi32 : i < 32 := by omega
    have hbit := bitN_lt a i
    refine ⟨_, B3.cell 0, (bit_c ha hi32).mono fun e w4 g => ?_⟩
    obtain ⟨r4, rfl, rfl, rfl⟩ := g
    have ebit : ((bitN a i : Nat) : Int).toNat * 1 = bitN a i := by omega
    refine ⟨_, rfl, M.join_by (fun J => ∀ w' D' ad hs vs b', ad (topN a i) i = some b → ad (topN a (i + 1)) (i + 1) = some b' → TrN w' D' p ad hs vs L.length → Abs L ad hs vs → Keeps D w w' → From D w1 D' → (∀ x ∈ D', x < w'.heap.size) → Blk w' b2 28 [.int .u32 (a : Int), .int .i64 (n : Int)] → w1.heap.size ≤ w'.heap.size → J w') ?_ ?_⟩
    · intro w5 D5 ad5 hs5 vs5 b5 h1 h2 h3 h4 h5 h6 h7 h8 h9
      refine ⟨_, rfl, by omega, by omega, some ⟨b5, 0, none⟩, ?_, ?_⟩
      · rw [ebit, h3.kid hi32 h1, h2]; rfl
      · rw [w64 (by omega) (by omega)]
        exact hJ _ _ _ ⟨i + 1, b5, D5, ad5, hs5, vs5, by omega, by omega, rfl, h2, h3, h4, h5, h6, h7, h8, h9⟩ (by omega)
    · intro J2 hJ2
      refine ⟨_, rfl, by omega, by omega, (ad (topN a (i + 1)) (i + 1)).map (fun b => ⟨b, 0, none⟩), by rw [ebit]; exact hT.kid hi32 hb, ?_⟩
      cases hc : ad (topN a (i + 1)) (i + 1) with
      | some b' => exact M.ite_n rfl (hJ2 _ _ _ _ _ b' hb hc hT hA hk hF hD3 B3 hw3)
      | none =>
        refine M.ite_y rfl (M.new_blk fun nb w5 hnb N k5 => ⟨_, rfl, by omega, by omega, ?_⟩)
        rw [ebit]
        have hblt := hT.lt hb
        have hbD := hT.foot _ _ _ hb
        have P5 := (hT.node _ _ _ hb).keep k5 (by simp)
        refine M.st_blk P5 (by simp only [ncells, List.length_append, List.length_cons, List.length_nil]; omega) fun w6 P6 k6 => ?_
        have hnb6 : nb ∉ [b] := by simp; omega
        have k56 : Keeps [b] w4 w6 := k5.up.and k6
        have hs5 := k5.size
        have hs6 := k6.size
        have hN := N.lt
        refine hJ2 w6 (nb :: D3) _ _ _ nb (by rw [upd_ne _ _ (by omega)]; exact hb) (upd_at _ _ _ _) (hT.grow ha hi32 hb hc (by omega) k56 (N.keep k6 hnb6) P6) (hA.grow hc _ _) (hk.trans k56 ?_) ?_ ?_ (B3.keep k56 ?_) (by omega)
        · intro x hx
          simp at hx; subst hx
          rcases hF _ hbD with h | h
          · exact .inl h
          · right; omega
        · intro x hx
          rcases List.mem_cons.1 hx with rfl | hx
          · right; omega
          · exact hF x hx
        · intro x hx
          rcases List.mem_cons.1 hx with rfl | hx
          · omega
          · have := hD3 x hx; omega
        · intro hx
          simp at hx; subst hx
          exact hbn hF hbD
  · have c3 := of_decide_eq_false c3
    have hin : i = n := by omega
    subst hin
    rw [topN_of_low c2] at hb
    have hbD := hT.foot _ _ _ hb
    have P := hT.node _ _ _ hb
    have hget := hA a i hn32 ha c2
    rw [hb] at hget
    simp only [Option.isSome_some, Bool.true_and] at hget
    have hDb : ∀ x ∈ [b], x ∈ D ∨ w.heap.size ≤ x := by
      intro x hx
      simp at hx; subst hx
      rcases hF _ hbD with h | h
      · exact .inl h
      · right; omega
    have hF0 : From D w D3 := fun x hx => by
      rcases hF x hx with h | h
      · exact .inl h
      · right; omega
    refine ⟨_, rfl, hs a i, P.cell 2, _, rfl, M.st_blk P (by simp only [ncells, List.length_append, List.length_cons, List.length_nil]; omega) fun w4 P4 k4 => ⟨_, rfl, M.st_blk P4 (by simp only [ncells, List.length_set, List.length_append, List.length_cons, List.length_nil]; omega) fun w5 P5 k5 => ?_⟩⟩
    have k35 := k4.and k5
    have hcells : ((ncells ad hs vs (L.length : Int) a i).set 2 (Value.bool true)).set 3 (Value.int .i64 v) = ncells ad (upd hs a i true) (upd vs a i v) (L.length : Int) a i := by
      unfold ncells
      rw [upd_at, upd_at]; rfl
    rw [hcells] at P5
    have hT5 := hT.setv hb k35 P5
    have hA5 := hA.set hb v
    have hL5 := hL.put (k := (a, (i : Int))) ⟨ha, c⟩ v
    have hlen5 := tput_len hL.sorted (a, (i : Int)) v
    have hk5 := hk.trans k35 hDb
    have hD5 : ∀ x ∈ D3, x < w5.heap.size := fun x hx => Nat.lt_of_lt_of_le (hD3 x hx) k35.size
    refine M.join_by (fun J => ∀ w', TrN w' D3 p ad (upd hs a i true) (upd vs a i v) ((tput L (a, (i : Int)) v).length : Int) → Keeps D w w' → (∀ x ∈ D3, x < w'.heap.size) → J w') ?_ ?_
    · intro w6 h1 h2 h3
      refine ⟨?_, D3, ⟨h3, ad, _, _, h1, hA5, hL5⟩, h2, hF0⟩
      rw [hget]
      cases hs a i <;> simp
    · intro J2 hJ2
      cases hh : hs a i with
      | true =>
        rw [hget, hh] at hlen5
        simp only [if_true, Option.isSome_some] at hlen5
        exact M.ite_n rfl (hJ2 w5 (by rw [hlen5]; exact hT5) hk5 hD5)
      | false =>
        rw [hget, hh] at hlen5
        simp only [Bool.false_eq_true, if_false, Option.isSome_none] at hlen5
        have R5 := hT5.node _ _ _ hT5.root
        refine M.ite_y rfl ⟨_, rfl, (L.length : Int), R5.cell 4, _, rfl, M.st_blk R5 (by simp [ncells]) fun w6 P6 k6 => ?_⟩
        have hcells6 : (ncells ad (upd hs a i true) (upd vs a i v) (L.length : Int) 0 0).set 4 (Value.int .i64 (IntKind.i64.wrap ((L.length : Int) + 1))) = ncells ad (upd hs a i true) (upd vs a i v) ((tput L (a, (i : Int)) v).length : Int) 0 0 := by
          rw [hlen5, w64 (by omega) (by omega)]
          simp [ncells]
        rw [hcells6] at P6
        have hpD := hT5.foot _ _ _ hT5.root
        refine hJ2 w6 (hT5.setc k6 P6) (hk5.trans k6 ?_) (fun x hx => Nat.lt_of_lt_of_le (hD5 x hx) k6.size)
        intro x hx
        simp at hx; subst hx
        exact hF0 _ hpD

theorem get_c {w : World} {D : List Nat} {p : Nat} {L : Tbl} (h : TrieAt w D p L) {a : Nat} (ha : a < 4294967296) (n : Int) :
    Calls Try.prog 40 #[.pointer (some ⟨p, 0, none⟩), .agg #[.int .u32 (a : Int), .int .i64 n]] w (R40 fun r ok w' => r = (tget L (a, n)).getD 0 ∧ ok = (tget L (a, n)).isSome ∧ Keeps [] w w') := by
  obtain ⟨hD, ad, hs, vs, hT, hA, hL⟩ := h
  refine F40_ok (M.new_blk fun b2 w1 hb2 B k1 => ⟨_, B.cell 0, _, B.cell 1, (right_c ha n).mono fun e w2 g => ?_⟩)
  obtain ⟨r2, rfl, rfl, k2⟩ := g
  have k02 := k1.trans k2 (by simp)
  refine ⟨_, rfl, M.ite_by (fun c => ?_) (fun c => ?_)⟩
  · have c : rightP a n = false := by simpa using c
    have : tget L (a, n) = none := tget_none.2 fun x hx he => by
      have := (hL.right x hx).2
      rw [he, c] at this
      cases this
    rw [this]
    exact ⟨rfl, rfl, k02⟩
  have c : rightP a n = true := by simpa using c
  obtain ⟨c0, c1, c2⟩ := (rightP_iff _ _).1 c
  obtain ⟨n, rfl⟩ := Int.eq_ofNat_of_zero_le c0
  rw [Int.toNat_natCast] at c2
  have hn32 : n ≤ 32 := by omega
  have B2 := B.keep k2 (by simp)
  refine ⟨_, B2.cell 0, _, B2.cell 1, (find_c (hT.keep k02 (by simp)) ha hn32 c2).mono fun e w3 g => ?_⟩
  obtain ⟨r3, rfl, rfl, k3⟩ := g
  have k03 := k02.trans k3 (by simp)
  have hT3 := hT.keep k03 (by simp)
  have hget := hA a n hn32 ha c2
  cases hb : ad a n with
  | none =>
    rw [hb] at hget
    simp only [Option.isSome_none, Bool.false_and, Bool.false_eq_true, if_false] at hget
    rw [hget]
    exact ⟨_, rfl, M.join_by (fun J => J true w3) (M.ite_tt ⟨rfl, rfl, k03⟩) fun J hJ => M.ite_y rfl hJ⟩
  | some b =>
    rw [hb] at hget
    simp only [Option.isSome_some, Bool.true_and] at hget
    have P := hT3.node _ _ _ hb
    refine ⟨_, rfl, M.join_by (fun J => J (!hs a n) w3) ?_ fun J hJ => M.ite_n rfl ⟨_, rfl, hs a n, P.cell 2, hJ⟩⟩
    cases hh : hs a n with
    | false =>
      rw [hh] at hget
      simp only [Bool.false_eq_true, if_false] at hget
      rw [hget]
      exact M.ite_tt ⟨rfl, rfl, k03⟩
    | true =>
      rw [hh] at hget
      simp only [if_true] at hget
      rw [hget]
      exact M.ite_ff ⟨_, rfl, vs a n, P.cell 3, rfl, rfl, k03⟩
theorem empty_c {w : World} {D : List Nat} {p : Nat} {ad : Nat → Nat → Option Nat} {hs : Nat → Nat → Bool} {vs : Nat → Nat → Int} {c : Int} (h : TrN w D p ad hs vs c) {a n b : Nat} (hb : ad a n = some b) :
    Calls Try.prog 41 #[.pointer (some ⟨b, 0, none⟩)] w (R41 fun r w' => r = (!hs a n && ((ad a (n + 1)).isNone && (ad (a + 2 ^ (31 - n)) (n + 1)).isNone)) ∧ w' = w) := by
  have P := h.node _ _ _ hb
  refine F41_ok (M.join_by (fun J => J (!hs a n && ((ad a (n + 1)).isNone && (ad (a + 2 ^ (31 - n)) (n + 1)).isNone)) w) ⟨rfl, rfl⟩ fun J hJ => ⟨_, rfl, hs a n, P.cell 2, M.ite_by (fun c => ?_) (fun c => ?_)⟩)
  · rw [c, Bool.true_and] at hJ
    refine ⟨_, rfl, by omega, by omega, (ad a (n + 1)).map (fun b => ⟨b, 0, none⟩), P.cell 0, ?_⟩
    cases h0 : ad a (n + 1) with
    | none =>
      rw [h0] at hJ
      refine M.ite_y rfl ⟨_, rfl, by omega, by omega, (ad (a + 2 ^ (31 - n)) (n + 1)).map (fun b => ⟨b, 0, none⟩), P.cell 1, ?_⟩
      simpa using hJ
    | some x =>
      rw [h0] at hJ
      exact M.ite_n rfl hJ
  · rw [c, Bool.false_and] at hJ; exact hJ
/-- An empty node below one is taken away. -/
theorem TrN.prune {w w' : World} {D : List Nat} {p : Nat} {ad : Nat → Nat → Option Nat} {hs : Nat → Nat → Bool} {vs : Nat → Nat → Int} {c : Int} (h : TrN w D p ad hs vs c) {A n b b' : Nat} (hn : n < 32) (hb : ad (topN A n) n = some b) (hb' : ad (topN A (n + 1)) (n + 1) = some b')
    (he : ad (topN A (n + 1)) (n + 1 + 1) = none) (he' : ad (topN A (n + 1) + 2 ^ (31 - (n + 1))) (n + 1 + 1) = none) (k : Keeps [b] w w') (P : Blk w' b (ntype n) ((ncells ad hs vs c (topN A n) n).set (bitN A n) (ptr none))) :
    TrN w' D p (upd ad (topN A (n + 1)) (n + 1) none) hs vs c := by
  have htt : topN (topN A (n + 1)) n = topN A n := topN_topN A (by omega) (by omega)
  have hs' := topN_succ A hn
  have hp : 0 < 2 ^ (31 - n) := Nat.two_pow_pos _
  have hsub : ∀ x m y, upd ad (topN A (n + 1)) (n + 1) none x m = some y → ad x m = some y ∧ ¬ (x = topN A (n + 1) ∧ m = n + 1) := by
    intro x m y hy
    by_cases h1 : x = topN A (n + 1) ∧ m = n + 1
    · rw [h1.1, h1.2, upd_at] at hy; cases hy
    · rw [upd_ne _ _ h1] at hy; exact ⟨hy, h1⟩
  refine ⟨?_, ?_, ?_, ?_, ?_, ?_⟩
  · rw [upd_ne _ _ (by omega)]; exact h.root
  · intro a y hy; exact h.zero a y (hsub _ _ _ hy).1
  · intro x m y hy
    obtain ⟨hy, hxm⟩ := hsub _ _ _ hy
    have hR := h.right hy
    by_cases hxn : x = topN A n ∧ m = n
    · obtain ⟨rfl, rfl⟩ := hxn
      rw [hb] at hy
      cases hy
      have hc : ncells (upd ad (topN A (m + 1)) (m + 1) none) hs vs c (topN A m) m = (ncells ad hs vs c (topN A m) m).set (bitN A m) (ptr none) := by
        unfold ncells
        have h2 := bitN_lt A m
        have : bitN A m = 0 ∨ bitN A m = 1 := by omega
        rcases this with h3 | h3
        · have hs2 : topN A (m + 1) = topN A m := by rw [hs', h3, Nat.zero_mul]; rfl
          rw [h3, hs2, upd_at, upd_ne ad _ (by omega)]; rfl
        · have hs2 : topN A (m + 1) = topN A m + 2 ^ (31 - m) := by rw [hs', h3, Nat.one_mul]
          rw [h3, hs2, upd_at, upd_ne ad _ (by omega)]; rfl
      rw [hc]
      exact P
    · have hyb : y ≠ b := fun he => hxn (by subst he; exact h.inj _ _ _ _ _ hy hb)
      have hB := (h.node _ _ _ hy).keep k (by simpa using hyb)
      have k0 : ¬ (x = topN A (n + 1) ∧ m + 1 = n + 1) := by
        rintro ⟨e1, e2⟩
        obtain rfl : m = n := by omega
        exact hxn ⟨by rw [← htt, kid_parent hR.2.2 hn (.inl e1)], rfl⟩
      have k1 : ¬ (x + 2 ^ (31 - m) = topN A (n + 1) ∧ m + 1 = n + 1) := by
        rintro ⟨e1, e2⟩
        obtain rfl : m = n := by omega
        exact hxn ⟨by rw [← htt, kid_parent hR.2.2 hn (.inr e1)], rfl⟩
      have hc : ncells (upd ad (topN A (n + 1)) (n + 1) none) hs vs c x m = ncells ad hs vs c x m := by
        unfold ncells
        rw [upd_ne ad _ k0, upd_ne ad _ k1]
      rw [hc]; exact hB
  · intro x m x' m' y hy hy'
    exact h.inj _ _ _ _ _ (hsub _ _ _ hy).1 (hsub _ _ _ hy').1
  · intro x m y hy
    obtain ⟨hy, hxm⟩ := hsub _ _ _ hy
    obtain ⟨h2, h3, h4, b2, hb2⟩ := h.up _ _ _ hy
    refine ⟨h2, h3, h4, b2, ?_⟩
    rw [upd_ne _ _ ?_]
    · exact hb2
    · rintro ⟨e1, rfl⟩
      -- its parent would be the empty node
      have hR := h.right hy
      have h5 : topN x (n + 1) = topN A (n + 1) := e1
      have h6 := topN_succ x (show n + 1 < 32 by omega)
      rw [topN_of_low hR.2.2, h5] at h6
      have h7 := bitN_lt x (n + 1)
      have : bitN x (n + 1) = 0 ∨ bitN x (n + 1) = 1 := by omega
      rcases this with h8 | h8
      · rw [h8, Nat.zero_mul, Nat.add_zero] at h6
        rw [h6, he] at hy; cases hy
      · rw [h8, Nat.one_mul] at h6
        rw [h6, he'] at hy; cases hy
  · intro x m y hy; exact h.foot _ _ _ (hsub _ _ _ hy).1
theorem Abs.prune {L : Tbl} {ad : Nat → Nat → Option Nat} {hs : Nat → Nat → Bool} {vs : Nat → Nat → Int} (h : Abs L ad hs vs) {a n : Nat} (hno : hs a n = false) (o : Option Nat) : Abs L (upd ad a n o) hs vs := by
  intro a' n' h1 h2 h3
  rw [h a' n' h1 h2 h3]
  by_cases he : a' = a ∧ n' = n
  · obtain ⟨rfl, rfl⟩ := he
    rw [upd_at, hno]; simp
  · rw [upd_ne _ _ he]
end Go.Proofs.Ytecegjimdohmeaa
