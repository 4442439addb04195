/-
  Some runs of the inside's ways; asks among the arguments.
-/
import Derived.Test.YtecegjimdohmeaaIgpL
namespace Go.Proofs.Ytecegjimdohmeaa
set_option linter.unusedVariables false
set_option linter.unusedSimpArgs false
open Go.Sp
open Go.RowKit (Below)

theorem told_best {S : IS} {A : Nat} {k : Key} {x : Wy} {ok : Bool} (hb : S.best A k) (h : S.told A x ok) : x = S.h k ∧ ok = true := by
  rcases h with ⟨k', hk, rfl, rfl⟩ | ⟨hn, _, _⟩
  · have h1 := hk.2.2 k hb.1 hb.2.1
    have h2 := hb.2.2 k' hk.1 hk.2.1
    have : k' = k := has_eq hk.2.1 hb.2.1 (by omega)
    rw [this]; exact ⟨rfl, rfl⟩
  · exact absurd hb.2.1 (by rw [hn k hb.1]; simp)
theorem told_no {S : IS} {A : Nat} {x : Wy} {ok : Bool} (hb : S.nobest A) (h : S.told A x ok) : x = Wy.zero ∧ ok = false := by
  rcases h with ⟨k', hk, rfl, rfl⟩ | ⟨hn, h1, h2⟩
  · exact absurd hk.2.1 (by rw [hb k' hk.1]; simp)
  · exact ⟨h1, h2⟩
theorem told_ok {S : IS} {A : Nat} {x : Wy} {ok : Bool} (h : S.told A x ok) : (∃ k, S.best A k ∧ x = S.h k ∧ ok = true) ∨ (S.nobest A ∧ x = Wy.zero ∧ ok = false) := h
theorem IS.put_fst {S : IS} {x : Wy} (hx : rightW x = true) (h : S.L.length < 64) : S.put x = (!((tget S.L x.pf).isSome && sameW (S.h x.pf) x.fix), 0, S.set x) := by
  unfold IS.put
  rw [hx, if_pos rfl, if_neg (by rw [decide_eq_false (by omega)]; simp)]
theorem IS.put_len {S : IS} {x : Wy} : (S.put x).2.2.L.length ≤ S.L.length + 1 := by
  have h : ∀ (L : Tbl) (k : Key) (v : Int), (tput L k v).length ≤ L.length + 1 := by
    intro L k v
    induction L with
    | nil => simp [tput]
    | cons x l ih =>
      simp only [tput]
      split
      · simp
      · split
        · simp
        · simp; omega
  unfold IS.put
  split
  · split
    · simp
    · exact h _ _ _
  · simp
/-- What may be asked. -/
structure As where
  kind : Int
  x : Wy
  A : Nat
  few : Bool
def asv (x : As) : List Value := [.int .i64 x.kind] ++ x.x.cells ++ [.int .u32 (x.A : Int), .bool x.few]
theorem as9 (x : As) : (asv x).length = 9 := rfl
def As.ok (x : As) : Prop := x.x.ty ∧ x.A < 4294967296
def waySh : ShL := .cons (.int .u32) (.cons (.int .i64) (.cons .bool (.cons (.int .i64) (.cons (.int .u32) (.cons .flo .nil)))))
def askSh : ShL := .cons (.int .i64) (.cons (.int .u32) (.cons (.int .i64) (.cons .bool (.cons (.int .i64) (.cons (.int .u32) (.cons .flo (.cons (.int .u32) (.cons .bool .nil))))))))
theorem way_of {W : World} {vs : List Value} (h : GdL W waySh vs) : ∃ x : Wy, vs = x.cells ∧ x.ty := by
  simp only [waySh, GdL] at h
  obtain ⟨v2, r2, rfl, ⟨n2, rfl, a2, b2⟩, v3, r3, rfl, ⟨n3, rfl, _⟩, v4, r4, rfl, ⟨n4, rfl⟩, v5, r5, rfl, ⟨n5, rfl, _⟩, v6, r6, rfl, ⟨n6, rfl, a6, b6⟩, v7, r7, rfl, ⟨n7, rfl, a7⟩, rfl⟩ := h
  have e1 : IntKind.u32.min = 0 := rfl
  have e2 : IntKind.u32.max = 4294967295 := rfl
  obtain ⟨n2, rfl⟩ := Int.eq_ofNat_of_zero_le (show 0 ≤ n2 by omega)
  obtain ⟨n6, rfl⟩ := Int.eq_ofNat_of_zero_le (show 0 ≤ n6 by omega)
  exact ⟨⟨(n2, n3), n4, n5, n6, n7⟩, rfl, by show n2 < _; omega, by show n6 < _; omega, a7⟩
theorem asks_of {W : World} {v : Value} (h : Gd W (.slice askSh) v) : ∃ (s : SV) (l : List As), v = s.v ∧ Rd 9 W s (l.flatMap asv) ∧ l.length = s.len ∧ s.len ≤ maxLen ∧ ∀ x ∈ l, x.ok := by
  refine rows_of (cells := asv) (sz := 9) (ok := As.ok) rfl as9 (fun vs hv => ?_) h
  simp only [askSh, GdL] at hv
  obtain ⟨v1, r1, rfl, ⟨n1, rfl, _⟩, v2, r2, rfl, ⟨n2, rfl, a2, b2⟩, v3, r3, rfl, ⟨n3, rfl, _⟩, v4, r4, rfl, ⟨n4, rfl⟩, v5, r5, rfl, ⟨n5, rfl, _⟩, v6, r6, rfl, ⟨n6, rfl, a6, b6⟩, v7, r7, rfl, ⟨n7, rfl, a7⟩, v8, r8, rfl, ⟨n8, rfl, a8, b8⟩, v9, r9, rfl, ⟨n9, rfl⟩, rfl⟩ := hv
  have e1 : IntKind.u32.min = 0 := rfl
  have e2 : IntKind.u32.max = 4294967295 := rfl
  obtain ⟨n2, rfl⟩ := Int.eq_ofNat_of_zero_le (show 0 ≤ n2 by omega)
  obtain ⟨n6, rfl⟩ := Int.eq_ofNat_of_zero_le (show 0 ≤ n6 by omega)
  obtain ⟨n8, rfl⟩ := Int.eq_ofNat_of_zero_le (show 0 ≤ n8 by omega)
  exact ⟨⟨n1, ⟨(n2, n3), n4, n5, n6, n7⟩, n8, n9⟩, rfl, ⟨by show n2 < _; omega, by show n6 < _; omega, a7⟩, by show n8 < _; omega⟩
end Go.Proofs.Ytecegjimdohmeaa
