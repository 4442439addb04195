/-
  Lists of prefixes in memory.
-/
import Derived.Test.YtecegjimdohmeaaAddrC
namespace Go.Proofs.Ytecegjimdohmeaa
set_option linter.unusedVariables false
set_option linter.unusedSimpArgs false
open Go.Sp

theorem pfEl : elemB Try.prog 28 2 16 = true := by kernel_rfl
theorem pfSl : sliceB Try.prog 40 28 2 = true := by kernel_rfl
/-- A prefix's cells. -/
def pv (x : Nat × Int) : List Value := [.int .u32 (x.1 : Int), .int .i64 x.2]
def pvs (l : List (Nat × Int)) : List Value := l.flatMap pv
theorem pvs_nil : pvs [] = [] := rfl
theorem pvs_app (a b : List (Nat × Int)) : pvs (a ++ b) = pvs a ++ pvs b := by simp [pvs]
theorem pvs_len (l : List (Nat × Int)) : (pvs l).length = l.length * 2 := by
  induction l with
  | nil => rfl
  | cons x l ih => simp [pvs, pv] at *; omega
theorem pvs_one (l : List (Nat × Int)) : ∀ u ∈ pvs l, u.oneCell' = true := by
  intro u hu
  simp only [pvs, List.mem_flatMap, pv] at hu
  obtain ⟨x, _, hx⟩ := hu
  rcases List.mem_cons.1 hx with rfl | hx
  · rfl
  · rcases List.mem_cons.1 hx with rfl | hx
    · rfl
    · simp at hx
theorem pvs_drop (l : List (Nat × Int)) : ∀ i : Nat, (pvs l).drop (i * 2) = pvs (l.drop i) := by
  induction l with
  | nil => intro i; simp [pvs]
  | cons x l ih =>
    intro i
    cases i with
    | zero => simp
    | succ i =>
      rw [show (i + 1) * 2 = i * 2 + 2 by omega]
      exact ih i
theorem pvs_take (l : List (Nat × Int)) : ∀ i : Nat, (pvs l).take (i * 2) = pvs (l.take i) := by
  induction l with
  | nil => intro i; simp [pvs]
  | cons x l ih =>
    intro i
    cases i with
    | zero => simp [pvs]
    | succ i =>
      rw [show (i + 1) * 2 = i * 2 + 2 by omega]
      show Value.int .u32 (x.1 : Int) :: .int .i64 x.2 :: (pvs l).take (i * 2) = _
      rw [ih i]; rfl
theorem pvs_row {l : List (Nat × Int)} {i : Nat} {x : Nat × Int} (h : l[i]? = some x) : ((pvs l).drop (i * 2)).take 2 = pv x := by
  rw [pvs_drop]
  obtain ⟨hi, hx⟩ := List.getElem?_eq_some_iff.1 h
  rw [List.drop_eq_getElem_cons hi, hx]
  rfl
theorem pf_at {w : World} {s : SV} {l : List (Nat × Int)} (h : Rd 2 w s (pvs l)) {a : Addr} (ha : s.a = some a) {i : Nat} {x : Nat × Int} (hx : l[i]? = some x) :
    w.cell? (a.add (i * 2)) = some (.int .u32 (x.1 : Int)) ∧ w.cell? ((a.add (i * 2)).add 1) = some (.int .i64 x.2) := by
  have hr := pvs_row hx
  refine ⟨?_, h.row ha (j := 1) (by omega) (by rw [hr]; rfl)⟩
  have := h.row ha (j := 0) (by omega) (v := .int .u32 (x.1 : Int)) (by rw [hr]; rfl)
  rwa [add_zero] at this
theorem pf_len {w : World} {s : SV} {l : List (Nat × Int)} (h : Rd 2 w s (pvs l)) : s.len = l.length := by
  have := h.len
  rw [pvs_len] at this; omega
theorem app_ps {w : World} {s x : SV} {l m : List (Nat × Int)} (ho : Own 28 2 w s (pvs l)) (hx : Rd 2 w x (pvs m)) (hb : l.length + m.length ≤ 1099511627776) :
    ∃ r w', (Builtin.append_ #[40, 40] 40 #[s.v, x.v]).run Try.prog w = .ok (SV.v r) w' ∧ Own 28 2 w' r (pvs (l ++ m)) ∧ Keeps s.blk w w' ∧ (∀ k ∈ r.blk, k ∈ s.blk ∨ w.heap.size ≤ k) := by
  have hl := pf_len ho.rd
  have hxl := pf_len hx
  obtain ⟨r, w', h1, h2, h3, h4, h5⟩ := app_own (P := Try.prog) (ty := 40) pfSl pfEl ho hx (pvs_one m) (by omega)
  exact ⟨r, w', h1, by rw [pvs_app]; exact h2, h4, h5⟩
theorem new_p (w : World) (x : Nat × Int) : Rd 2 (w.alloc (.cells (pv x).toArray 28)) ⟨some ⟨w.heap.size, 0, none⟩, 1, 1⟩ (pvs [x]) :=
  (Own.new w 28 2 1 (pvs [x]) rfl (by decide)).rd
/-- One prefix behind the others. -/
theorem app_p {w : World} {s : SV} {l : List (Nat × Int)} (x : Nat × Int) (ho : Own 28 2 w s (pvs l)) (hb : l.length + 1 ≤ 1099511627776) :
    ∃ r w', (Builtin.append_ #[40, 40] 40 #[s.v, (SV.mk (some ⟨w.heap.size, 0, none⟩) 1 1).v]).run Try.prog (w.alloc (.cells (pv x).toArray 28)) = .ok (SV.v r) w' ∧ Own 28 2 w' r (pvs (l ++ [x])) ∧ Keeps s.blk w w' ∧ (∀ k ∈ r.blk, k ∈ s.blk ∨ w.heap.size ≤ k) := by
  have kal := Keeps.alloc [] w (.cells (pv x).toArray 28)
  obtain ⟨r, w', h1, h2, h3, h4⟩ := app_ps (ho.keep kal (by simp)) (new_p w x) (by simpa using hb)
  refine ⟨r, w', h1, h2, kal.up.and h3, fun k hk => ?_⟩
  rcases h4 k hk with h | h
  · exact .inl h
  · right; simp at h; omega
theorem samep_c {w : World} {s t : SV} {l m : List (Nat × Int)} (hs : Rd 2 w s (pvs l)) (ht : Rd 2 w t (pvs m)) (hb : l.length ≤ 1099511627776) :
    Calls Try.prog 19 #[s.v, t.v] w (R19 fun r w' => r = (l == m) ∧ Keeps [] w w') := by
  have hl := pf_len hs
  have hm := pf_len ht
  refine F19_ok (M.ite_by (fun c => ?_) (fun c => ?_))
  · have c : l.length ≠ m.length := by simp at c; omega
    have : (l == m) = false := by simp; intro h; subst h; exact c rfl
    rw [this]
    exact ⟨rfl, Keeps.refl _ _⟩
  · have c : l.length = m.length := by simp at c; omega
    refine M.loop1_by (fun x w' => ∃ i : Nat, x = i ∧ i ≤ l.length ∧ l.take i = m.take i ∧ Keeps [] w w') (fun x _ => l.length - x.toNat) ⟨0, rfl, by omega, by simp, Keeps.refl _ _⟩ ?_
    rintro x w' J ⟨i, rfl, hi, he, hk⟩ hJ
    refine M.ite_by (fun c1 => ?_) (fun c1 => ?_)
    · have c1 := of_decide_eq_true c1
      have hil : i < l.length := by omega
      have him : i < m.length := by omega
      have kd := Keeps.drew [] w'
      have k2 := hk.trans kd (by simp)
      obtain ⟨a, ha⟩ := hs.some (by omega)
      obtain ⟨b, hb2⟩ := ht.some (by omega)
      have e1 := pf_at (hs.keep k2 (by simp)) ha (List.getElem?_eq_getElem hil)
      have e2 := pf_at (ht.keep k2 (by simp)) hb2 (List.getElem?_eq_getElem him)
      refine M.drew_by ⟨a, ha, by omega, c1, b, hb2, by omega, by omega, _, e1.1, _, e1.2, _, e2.1, _, e2.2, M.ite_by (fun c2 => ?_) (fun c2 => ?_)⟩
      · have : (l == m) = false := by
          simp
          intro h
          subst h
          simp at c2
        rw [this]
        exact ⟨rfl, k2⟩
      · have c2' : l[i] = m[i] := by
          simp at c2
          exact Prod.ext (by omega) c2.2
        rw [w64 (by omega) (by omega)]
        refine hJ _ _ ⟨i + 1, by omega, by omega, ?_, k2⟩ (by omega)
        rw [List.take_succ_eq_append_getElem hil, List.take_succ_eq_append_getElem him, he, c2']
    · have c1 := of_decide_eq_false c1
      have hil : i = l.length := by omega
      subst hil
      rw [List.take_length, c, List.take_length] at he
      subst he
      exact ⟨by simp, hk⟩
end Go.Proofs.Ytecegjimdohmeaa
