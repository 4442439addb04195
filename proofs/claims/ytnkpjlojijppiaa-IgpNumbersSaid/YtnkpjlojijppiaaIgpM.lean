/-
  Some runs of the inside's ways; asks among the arguments.
-/
import Derived.Test.YtnkpjlojijppiaaIgpL
namespace Go.Proofs.Ytnkpjlojijppiaa
set_option linter.unusedVariables false
set_option linter.unusedSimpArgs false
open Go.Sp
open Go.RowKit (Below)

theorem told_best {S : IS} {A : Nat} {k : Key} {x : Wy} {ok : Bool} (hb : S.best A k) (h : S.told A x ok) : x = S.h k ∧ ok = true := by
  rcases h with ⟨k', hk, rfl, rfl⟩ | ⟨hn, _, _⟩
  · have h1 := hk.2.2 k hb.1 hb.2.1
    have h2 := hb.2.2 k' hk.1 hk.2.1
    have : k' = k := has_eq hk.2.1 hb.2.1 (by omega)
    rw [this]; exact ⟨rfl, rfl⟩
  · exact absurd hb.2.1 (by rw [hn k hb.1]; simp)
theorem told_no {S : IS} {A : Nat} {x : Wy} {ok : Bool} (hb : S.nobest A) (h : S.told A x ok) : x = Wy.zero ∧ ok = false := by
  rcases h with ⟨k', hk, rfl, rfl⟩ | ⟨hn, h1, h2⟩
  · exact absurd hk.2.1 (by rw [hb k' hk.1]; simp)
  · exact ⟨h1, h2⟩
theorem told_ok {S : IS} {A : Nat} {x : Wy} {ok : Bool} (h : S.told A x ok) : (∃ k, S.best A k ∧ x = S.h k ∧ ok = true) ∨ (S.nobest A ∧ x = Wy.zero ∧ ok = false) := h
theorem IS.put_fst {S : IS} {x : Wy} (hx : rightW x = true) (h : S.L.length < 64) : S.put x = (!((tget S.L x.pf).isSome && sameW (S.h x.pf) x.fix), 0, S.set x) := by
  unfold IS.put
  rw [hx, if_pos rfl, if_neg (by rw [decide_eq_false (by omega)]; simp)]
theorem IS.put_len {S : IS} {x : Wy} : (S.put x).2.2.L.length ≤ S.L.length + 1 := by
  have h : ∀ (L : Tbl) (k : Key) (v : Int), (tput L k v).length ≤ L.length + 1 := by
    intro L k v
    induction L with
    | nil => simp [tput]
    | cons x l ih =>
      simp only [tput]
      split
      · simp
      · split
        · simp
        · simp; omega
  unfold IS.put
  split
  · split
    · simp
    · exact h _ _ _
  · simp
theorem iknown_c {w : World} : Calls Try.prog 16 #[] w (R16 fun r w' => r = true ∧ Keeps [] w w') := by
  refine F16_ok (inew_c.mono fun e w1 g => ?_)
  obtain ⟨r, rfl, p, X1, rfl, F1, hX1, k1⟩ := g
  have hT : ∀ n : Nat, n < 18446744073709551616 → n < 18446744073709551616 := fun n h => h
  refine ⟨_, rfl, M.ite_n rfl ((iput_c F1 (x := ⟨(167772160, 8), true, 3, 0, 4617315517961601024⟩) ⟨by show 167772160 < _; omega, by show 0 < _; omega, by show 4617315517961601024 < _; omega⟩).mono fun e w2 g => ?_)⟩
  obtain ⟨a2, e2, rfl, rfl, rfl, X2, F2, k2, f2⟩ := g
  have q1 := IS.put_fst (S := IS.zero) (x := ⟨(167772160, 8), true, 3, 0, 4617315517961601024⟩) (by decide +kernel) (by decide)
  rw [q1] at F2 ⊢
  refine ⟨_, _, rfl, inf_c.mono fun e w3 g => ?_⟩
  obtain ⟨r3, rfl, rfl, hw⟩ := g
  obtain rfl := hw.symm
  refine ⟨_, rfl, (iput_c F2 (x := ⟨(167837696, 16), true, 0, 0, 9218868437227405312⟩) ⟨by show 167837696 < _; omega, by show 0 < _; omega, by show 9218868437227405312 < _; omega⟩).mono fun e w4 g => ?_⟩
  obtain ⟨a4, e4, rfl, rfl, rfl, X4, F4, k4, f4⟩ := g
  have q2 := IS.put_fst (S := IS.zero.set ⟨(167772160, 8), true, 3, 0, 4617315517961601024⟩) (x := ⟨(167837696, 16), true, 0, 0, 9218868437227405312⟩) (by decide +kernel) (by decide)
  rw [q2] at F4 ⊢
  have hX2 : ∀ y ∈ X2, w.heap.size ≤ y := f2.old hX1 k1.size
  have k02 : Keeps [] w w2 := k1.trans k2 (fun y hy => .inr (hX1 y hy))
  have k04 : Keeps [] w w4 := k02.trans k4 (fun y hy => .inr (hX2 y hy))
  refine ⟨_, _, rfl, (imatch_c F4 (A := 167837697) (by omega)).mono fun e w5 g => ?_⟩
  obtain ⟨x1, x2, x3, x4, x5, x6, ok5, rfl, ⟨x, hx, rfl, rfl, rfl, rfl, rfl, rfl⟩, k5⟩ := g
  have hb : ((IS.zero.set ⟨(167772160, 8), true, 3, 0, 4617315517961601024⟩).set ⟨(167837696, 16), true, 0, 0, 9218868437227405312⟩).best 167837697 (167772160, 8) := by
    refine ⟨by decide +kernel, by decide +kernel, fun k' h1 h2 => ?_⟩
    unfold IS.opn at h1
    simp only [Bool.and_eq_true] at h1
    obtain ⟨h1, h3⟩ := h1
    obtain ⟨z, hz, rfl⟩ := tget_isSome.1 h1
    have hL : ((IS.zero.set ⟨(167772160, 8), true, 3, 0, 4617315517961601024⟩).set ⟨(167837696, 16), true, 0, 0, 9218868437227405312⟩).L = [(((167772160 : Nat), (8 : Int)), (0 : Int)), ((167837696, 16), 0)] := by decide +kernel
    rw [hL] at hz
    simp only [List.mem_cons, List.not_mem_nil, or_false] at hz
    rcases hz with rfl | rfl
    · exact Int.le_refl _
    · exfalso; revert h3; decide +kernel
  obtain ⟨rfl, rfl⟩ := told_best hb hx
  refine ⟨_, _, _, _, _, _, _, rfl, M.new_blk fun b w6 hb6 B6 k6 => M.stA_blk B6 rfl fun w7 B7 k7 => ?_⟩
  have k57 : Keeps [] w5 w7 := k6.trans k7 (by simp; omega)
  have F7 := (F4.keep k5 (by simp)).keep k57 (by simp)
  have k07 := (k04.trans k5 (by simp)).trans k57 (by simp)
  refine M.join_by (fun (J : Bool → World → Prop) => ∀ w', Keeps [] w7 w' → J true w') (fun w' k' => ⟨rfl, k07.trans k' (by simp)⟩) fun J hJ => M.ite_y (by decide +kernel) (M.ite_y (by decide +kernel) (M.ite_tt ⟨_, B7.cell 3, M.ite_y (by decide +kernel) ⟨_, B7.cell 5, M.ite_y (by decide +kernel) ((iall_c F7).mono fun e w8 g => ?_)⟩⟩))
  obtain ⟨r8, rfl, rd8, f8, k8⟩ := g
  have hl := rows_len wy6 (by omega) rd8
  refine ⟨_, rfl, ?_⟩
  have : ((r8.len : Int) == 2) = true := by
    rw [hl]
    decide +kernel
  dsimp only
  rw [this]
  exact hJ _ k8
/-- What may be asked. -/
structure As where
  kind : Int
  x : Wy
  A : Nat
  few : Bool
def asv (x : As) : List Value := [.int .i64 x.kind] ++ x.x.cells ++ [.int .u32 (x.A : Int), .bool x.few]
theorem as9 (x : As) : (asv x).length = 9 := rfl
def As.ok (x : As) : Prop := x.x.ty ∧ x.A < 4294967296
def waySh : ShL := .cons (.int .u32) (.cons (.int .i64) (.cons .bool (.cons (.int .i64) (.cons (.int .u32) (.cons .flo .nil)))))
def askSh : ShL := .cons (.int .i64) (.cons (.int .u32) (.cons (.int .i64) (.cons .bool (.cons (.int .i64) (.cons (.int .u32) (.cons .flo (.cons (.int .u32) (.cons .bool .nil))))))))
theorem way_of {W : World} {vs : List Value} (h : GdL W waySh vs) : ∃ x : Wy, vs = x.cells ∧ x.ty := by
  simp only [waySh, GdL] at h
  obtain ⟨v2, r2, rfl, ⟨n2, rfl, a2, b2⟩, v3, r3, rfl, ⟨n3, rfl, _⟩, v4, r4, rfl, ⟨n4, rfl⟩, v5, r5, rfl, ⟨n5, rfl, _⟩, v6, r6, rfl, ⟨n6, rfl, a6, b6⟩, v7, r7, rfl, ⟨n7, rfl, a7⟩, rfl⟩ := h
  have e1 : IntKind.u32.min = 0 := rfl
  have e2 : IntKind.u32.max = 4294967295 := rfl
  obtain ⟨n2, rfl⟩ := Int.eq_ofNat_of_zero_le (show 0 ≤ n2 by omega)
  obtain ⟨n6, rfl⟩ := Int.eq_ofNat_of_zero_le (show 0 ≤ n6 by omega)
  exact ⟨⟨(n2, n3), n4, n5, n6, n7⟩, rfl, by show n2 < _; omega, by show n6 < _; omega, a7⟩
theorem asks_of {W : World} {v : Value} (h : Gd W (.slice askSh) v) : ∃ (s : SV) (l : List As), v = s.v ∧ Rd 9 W s (l.flatMap asv) ∧ l.length = s.len ∧ s.len ≤ maxLen ∧ ∀ x ∈ l, x.ok := by
  refine rows_of (cells := asv) (sz := 9) (ok := As.ok) rfl as9 (fun vs hv => ?_) h
  simp only [askSh, GdL] at hv
  obtain ⟨v1, r1, rfl, ⟨n1, rfl, _⟩, v2, r2, rfl, ⟨n2, rfl, a2, b2⟩, v3, r3, rfl, ⟨n3, rfl, _⟩, v4, r4, rfl, ⟨n4, rfl⟩, v5, r5, rfl, ⟨n5, rfl, _⟩, v6, r6, rfl, ⟨n6, rfl, a6, b6⟩, v7, r7, rfl, ⟨n7, rfl, a7⟩, v8, r8, rfl, ⟨n8, rfl, a8, b8⟩, v9, r9, rfl, ⟨n9, rfl⟩, rfl⟩ := hv
  have e1 : IntKind.u32.min = 0 := rfl
  have e2 : IntKind.u32.max = 4294967295 := rfl
  obtain ⟨n2, rfl⟩ := Int.eq_ofNat_of_zero_le (show 0 ≤ n2 by omega)
  obtain ⟨n6, rfl⟩ := Int.eq_ofNat_of_zero_le (show 0 ≤ n6 by omega)
  obtain ⟨n8, rfl⟩ := Int.eq_ofNat_of_zero_le (show 0 ≤ n8 by omega)
  exact ⟨⟨n1, ⟨(n2, n3), n4, n5, n6, n7⟩, n8, n9⟩, rfl, ⟨by show n2 < _; omega, by show n6 < _; omega, a7⟩, by show n8 < _; omega⟩
theorem iknown_a {W w : World} (a : Aft W w) : Calls Try.prog 16 #[] w (R16 fun r w' => r = true ∧ Aft W w') := iknown_c.mono fun e w' g => by
  obtain ⟨r, rfl, rfl, k⟩ := g
  exact ⟨_, rfl, rfl, a.new k⟩
end Go.Proofs.Ytnkpjlojijppiaa
