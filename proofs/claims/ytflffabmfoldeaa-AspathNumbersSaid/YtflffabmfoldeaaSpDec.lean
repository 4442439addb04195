/-
  How candidates are taken away, in plain lists.
-/
import Derived.Test.YtflffabmfoldeaaSpFlo
import Derived.Test.YtflffabmfoldeaaSpUse
import Derived.Test.YtflffabmfoldeaaSpArg
namespace Go.Sp
set_option linter.unusedVariables false
set_option linter.unusedSimpArgs false
/-- A part of a path: its kind, where its numbers lie, its numbers. -/
abbrev Sg := Int × SV × List Int
def sgv (x : Sg) : List Value := [.int .i64 x.1, x.2.1.v]
def sgvs (l : List Sg) : List Value := l.flatMap sgv
def firstA : List Sg → Int × Bool
  | (k, _, a :: _) :: _ => if k = 2 then (a, true) else (0, false)
  | _ => (0, false)
def sgCount (x : Sg) : Nat := if x.1 = 2 then x.2.2.length else if x.1 = 1 then 1 else 0
def countA (l : List Sg) : Nat := (l.map sgCount).sum
/-- A path as it lies in memory. -/
def Segs (w : World) (s : SV) (l : List Sg) : Prop := Rd 2 w s (sgvs l) ∧ ∀ x ∈ l, Rd 1 w x.2.1 (x.2.2.map (Value.int .u32))
theorem Segs.new {w w' : World} {s : SV} {l : List Sg} (h : Segs w s l) (k : Keeps [] w w') : Segs w' s l := ⟨h.1.keep k (by simp), fun x hx => (h.2 x hx).keep k (by simp)⟩
theorem sgvs_len (l : List Sg) : (sgvs l).length = l.length * 2 := by
  induction l with
  | nil => rfl
  | cons x l ih => simp [sgvs, sgv] at *; omega
theorem sgvs_app (a b : List Sg) : sgvs (a ++ b) = sgvs a ++ sgvs b := by simp [sgvs]
theorem sgvs_one (l : List Sg) : ∀ u ∈ sgvs l, u.oneCell' = true := by
  intro u hu
  simp only [sgvs, List.mem_flatMap, sgv] at hu
  obtain ⟨x, _, hx⟩ := hu
  rcases List.mem_cons.1 hx with rfl | hx
  · rfl
  · rcases List.mem_cons.1 hx with rfl | hx
    · rfl
    · simp at hx
theorem sgvs_drop (l : List Sg) : ∀ i : Nat, (sgvs l).drop (i * 2) = sgvs (l.drop i) := by
  induction l with
  | nil => intro i; simp [sgvs]
  | cons x l ih =>
    intro i
    cases i with
    | zero => simp
    | succ i =>
      rw [show (i + 1) * 2 = i * 2 + 2 by omega]
      exact ih i
theorem sgvs_take (l : List Sg) : ∀ i : Nat, (sgvs l).take (i * 2) = sgvs (l.take i) := by
  induction l with
  | nil => intro i; simp [sgvs]
  | cons x l ih =>
    intro i
    cases i with
    | zero => simp [sgvs]
    | succ i =>
      rw [show (i + 1) * 2 = i * 2 + 2 by omega]
      show Value.int .i64 x.1 :: x.2.1.v :: (sgvs l).take (i * 2) = _
      rw [ih i]; rfl
theorem Segs.len {w : World} {s : SV} {l : List Sg} (h : Segs w s l) : s.len = l.length := by
  have := h.1.len
  rw [sgvs_len] at this; omega
theorem sg_at {w : World} {s : SV} {l : List Sg} (h : Rd 2 w s (sgvs l)) {a : Addr} (ha : s.a = some a) {i : Nat} {x : Sg} (hx : l[i]? = some x) :
    w.cell? (a.add (i * 2)) = some (.int .i64 x.1) ∧ w.cell? ((a.add (i * 2)).add 1) = some x.2.1.v := by
  have hr : ((sgvs l).drop (i * 2)).take 2 = sgv x := by
    rw [sgvs_drop]
    obtain ⟨hi, hx⟩ := List.getElem?_eq_some_iff.1 hx
    rw [List.drop_eq_getElem_cons hi, hx]
    rfl
  refine ⟨?_, h.row ha (j := 1) (by omega) (by rw [hr]; rfl)⟩
  have := h.row ha (j := 0) (by omega) (v := .int .i64 x.1) (by rw [hr]; rfl)
  rwa [add_zero] at this
theorem Segs.sub {w : World} {s : SV} {l : List Sg} (h : Segs w s l) {n : Nat} (hn : n ≤ l.length) : Segs w (s.sub 0 n 2) (l.take n) := by
  have hl := h.len
  refine ⟨?_, fun x hx => h.2 x (List.mem_of_mem_take hx)⟩
  have := h.1.sub (l := 0) (u := n) (by omega) (by omega)
  rw [Nat.zero_mul, List.drop_zero, Nat.sub_zero, sgvs_take] at this
  exact this

/-- A cost that may be. -/
def cleanN (b : Nat) : Nat := if fGeq b 0 then (if fEql b 0 then 0 else b) else 9218868437227405312

/-- A candidate as it lies in memory. -/
structure Cn where
  peer : Int
  id : Int
  addr : Int
  inner : Bool
  origin : Int
  path : SV
  next : Int
  hasMed : Bool
  med : Int
  hasPref : Bool
  pref : Int
  atomic : Bool
  comms : SV
  cost : Nat
  segs : List Sg
/-- Its attributes. -/
@[reducible] def Cn.ac (c : Cn) : List Value := [.int .i64 c.origin, c.path.v, .int .u32 c.next, .bool c.hasMed, .int .u32 c.med, .bool c.hasPref, .int .u32 c.pref, .bool c.atomic, c.comms.v]
@[reducible] def Cn.cells (c : Cn) : List Value := [.int .i64 c.peer, .int .u32 c.id, .int .u32 c.addr, .bool c.inner, .int .i64 c.origin, c.path.v, .int .u32 c.next, .bool c.hasMed, .int .u32 c.med, .bool c.hasPref, .int .u32 c.pref, .bool c.atomic, c.comms.v, .float .f64 c.cost]
@[reducible] def Cn.agg (c : Cn) : Value := .agg #[.int .i64 c.peer, .int .u32 c.id, .int .u32 c.addr, .bool c.inner, .int .i64 c.origin, c.path.v, .int .u32 c.next, .bool c.hasMed, .int .u32 c.med, .bool c.hasPref, .int .u32 c.pref, .bool c.atomic, c.comms.v, .float .f64 c.cost]
@[reducible] def Cn.aagg (c : Cn) : Value := .agg #[.int .i64 c.origin, c.path.v, .int .u32 c.next, .bool c.hasMed, .int .u32 c.med, .bool c.hasPref, .int .u32 c.pref, .bool c.atomic, c.comms.v]
/-- What counts of a candidate. -/
structure Vw where
  pref : Int
  count : Int
  origin : Int
  first : Int × Bool
  med : Int
  inner : Bool
  cost : Nat
  id : Int
  addr : Int
def Cn.prefA (c : Cn) : Int := if c.hasPref then c.pref else 100
def Cn.medA (c : Cn) : Int := if c.hasMed then c.med else 0
def Cn.vw (c : Cn) : Vw := ⟨c.prefA, countA c.segs, c.origin, firstA c.segs, c.medA, c.inner, cleanN c.cost, c.id, c.addr⟩
/-- Does b take a away at a step? -/
def bts (a b : Vw) (step : Int) : Bool :=
  if step = 1 then decide (a.pref < b.pref)
  else if step = 2 then decide (b.count < a.count)
  else if step = 3 then decide (b.origin < a.origin)
  else if step = 4 then (a.first.2 == b.first.2 && a.first.1 == b.first.1) && decide (b.med < a.med)
  else if step = 5 then a.inner && !b.inner
  else if step = 6 then fLss b.cost a.cost
  else decide (b.id < a.id) || (b.id == a.id && decide (b.addr < a.addr))
/-- Is a candidate taken away by one of some? -/
def gone (vs : List Vw) (l : List Nat) (n : Nat) (step : Int) : Bool := l.any fun k => match vs[n]?, vs[k]? with
  | some a, some b => bts a b step
  | _, _ => false
def keepA (vs : List Vw) (l : List Nat) (step : Int) : List Nat := l.filter fun n => !gone vs l n step
def siftA (vs : List Vw) (l : List Nat) (step : Int) : List Nat := if step = 7 then (keepA vs l step).take 1 else keepA vs l step
def leftA (vs : List Vw) : Nat → List Nat
  | 0 => List.range vs.length
  | k + 1 => siftA vs (leftA vs k) (k + 1 : Nat)
/-- The steps that so many are. -/
def stepsN (step : Int) : Nat := (min step 7).toNat
theorem keepA_sub (vs : List Vw) (l : List Nat) (step : Int) : (keepA vs l step).Sublist l := List.filter_sublist
theorem siftA_sub (vs : List Vw) (l : List Nat) (step : Int) : (siftA vs l step).Sublist l := by
  unfold siftA
  split
  · exact (List.take_sublist _ _).trans (keepA_sub _ _ _)
  · exact keepA_sub _ _ _
theorem leftA_lt (vs : List Vw) : ∀ k, ∀ n ∈ leftA vs k, n < vs.length
  | 0, n, h => List.mem_range.1 h
  | k + 1, n, h => leftA_lt vs k n ((siftA_sub _ _ _).subset h)
theorem leftA_len (vs : List Vw) : ∀ k, (leftA vs k).length ≤ vs.length
  | 0 => by simp [leftA]
  | k + 1 => Nat.le_trans (siftA_sub vs (leftA vs k) _).length_le (leftA_len vs k)

/-- Candidates as they lie in memory. -/
def cnv (l : List Cn) : List Value := l.flatMap Cn.cells
def Cns (w : World) (s : SV) (l : List Cn) : Prop := Rd 14 w s (cnv l) ∧ ∀ c ∈ l, Segs w c.path c.segs
theorem cnv_len (l : List Cn) : (cnv l).length = l.length * 14 := by
  induction l with
  | nil => rfl
  | cons x l ih => simp [cnv] at *; omega
theorem cnv_drop (l : List Cn) : ∀ i : Nat, (cnv l).drop (i * 14) = cnv (l.drop i) := by
  induction l with
  | nil => intro i; simp [cnv]
  | cons x l ih =>
    intro i
    cases i with
    | zero => simp
    | succ i =>
      rw [show (i + 1) * 14 = i * 14 + 14 by omega]
      exact ih i
theorem cnv_app (a b : List Cn) : cnv (a ++ b) = cnv a ++ cnv b := by simp [cnv]
theorem cnv_one (l : List Cn) : ∀ u ∈ cnv l, u.oneCell' = true := by
  intro u hu
  simp only [cnv, List.mem_flatMap, Cn.cells] at hu
  obtain ⟨x, _, hx⟩ := hu
  simp only [List.mem_cons, List.not_mem_nil, or_false] at hx
  rcases hx with rfl | rfl | rfl | rfl | rfl | rfl | rfl | rfl | rfl | rfl | rfl | rfl | rfl | rfl <;> rfl
theorem Cns.new {w w' : World} {s : SV} {l : List Cn} (h : Cns w s l) (k : Keeps [] w w') : Cns w' s l := ⟨h.1.keep k (by simp), fun c hc => (h.2 c hc).new k⟩
theorem Cns.len {w : World} {s : SV} {l : List Cn} (h : Cns w s l) : s.len = l.length := by
  have := h.1.len
  rw [cnv_len] at this; omega
theorem cn_row {l : List Cn} {i : Nat} {c : Cn} (h : l[i]? = some c) : ((cnv l).drop (i * 14)).take 14 = c.cells := by
  rw [cnv_drop]
  obtain ⟨hi, hx⟩ := List.getElem?_eq_some_iff.1 h
  rw [List.drop_eq_getElem_cons hi, hx]
  rfl
/-- Cells that are read one by one are read together. -/
theorem cs_of {w : World} {a : Addr} : ∀ (vs : List Value) (i : Nat), (∀ j v, vs[j]? = some v → w.cell? (a.add (i + j)) = some v) → Cs w a i vs
  | [], _, _ => .nil
  | v :: vs, i, h => .cons (by simpa using h 0 v rfl) (cs_of vs (i + 1) fun j v hj => by
      have := h (j + 1) v (by simpa using hj)
      rwa [show i + (j + 1) = i + 1 + j by omega] at this)
theorem Cs.keep {w w' : World} {a : Addr} {D : List Nat} (k : Keeps D w w') (hn : a.block ∉ D) : ∀ {vs : List Value} {i : Nat}, Cs w a i vs → Cs w' a i vs
  | _, _, .nil => .nil
  | _, _, .cons h t => .cons (k.cell h (by rw [add_block]; exact hn)) (Cs.keep k hn t)
theorem Blk.cs {w : World} {b : Nat} {T : TypeId} {cs : List Value} (h : Blk w b T cs) (o : Nat) (vs : List Value) (hv : (cs.drop o).take vs.length = vs) : Cs w ⟨b, o, none⟩ 0 vs := by
  apply cs_of
  intro j v hj
  rw [Nat.zero_add, add_mk, h.cell]
  have : ((cs.drop o).take vs.length)[j]? = some v := by rw [hv]; exact hj
  have hjl : j < vs.length := (List.getElem?_eq_some_iff.1 hj).1
  rw [List.getElem?_take, if_pos hjl, List.getElem?_drop] at this
  exact this
theorem Cns.at {w : World} {s : SV} {l : List Cn} (h : Cns w s l) {a : Addr} (ha : s.a = some a) {i : Nat} {c : Cn} (hc : l[i]? = some c) : Cs w (a.add (i * 14)) 0 c.cells := by
  apply cs_of
  intro j v hj
  have hjl : j < 14 := (List.getElem?_eq_some_iff.1 hj).1
  rw [Nat.zero_add]
  exact h.1.row ha (i := i) hjl (by rw [cn_row hc]; exact hj)
theorem stA_go2 {b o : Nat} {T : TypeId} : ∀ (vs pre cs post : List Value) (i : Nat) (w : World), Blk w b T (pre ++ cs ++ post) → pre.length = o + i → cs.length = vs.length →
    okCs w ⟨b, o, none⟩ vs i ∧ Blk (stCs w ⟨b, o, none⟩ vs i) b T (pre ++ vs ++ post) ∧ Keeps [b] w (stCs w ⟨b, o, none⟩ vs i)
  | [], pre, cs, post, i, w, hb, _, hl => by
    obtain rfl := List.eq_nil_of_length_eq_zero hl
    exact ⟨trivial, hb, Keeps.refl _ _⟩
  | v :: vs, pre, [], post, i, w, hb, _, hl => by simp at hl
  | v :: vs, pre, c :: cs, post, i, w, hb, hp, hl => by
    have h1 := hb.set pre.length v
    have e1 : (pre ++ c :: cs ++ post).set pre.length v = (pre ++ [v]) ++ cs ++ post := by simp
    rw [e1] at h1
    have h2 := stA_go2 (o := o) vs (pre ++ [v]) cs post (i + 1) _ h1 (by simp; omega) (by simpa using hl)
    have e3 : pre ++ [v] ++ vs ++ post = pre ++ v :: vs ++ post := by simp
    rw [e3] at h2
    have ha : (⟨b, o, none⟩ : Addr).add i = ⟨b, pre.length, none⟩ := by rw [add_mk, hp]
    refine ⟨⟨⟨c, by rw [ha, hb.cell]; simp⟩, by rw [ha]; exact hb.free _, by rw [ha]; exact h2.1⟩, ?_, ?_⟩
    · simp only [stCs]; rw [ha]; exact h2.2.1
    · simp only [stCs]; rw [ha]; exact (Keeps.set _ (by simp) _).and h2.2.2
/-- Some cells of a block are written. -/
theorem M.stA_part {b o : Nat} {T : TypeId} {cells pre old post vs : List Value} {w : World} {K : World → Prop} (hb : Blk w b T cells) (he : cells = pre ++ old ++ post) (hp : pre.length = o) (hl : old.length = vs.length) (h : ∀ w', Blk w' b T (pre ++ vs ++ post) → Keeps [b] w w' → K w') : M.stA ((⟨b, 0, none⟩ : Addr).add o) vs w K := by
  subst he
  have := stA_go2 (o := o) vs pre old post 0 w hb (by omega) hl
  rw [add_mk, Nat.zero_add]
  exact ⟨this.1, h _ this.2.1 this.2.2⟩
theorem M.join_le {x n m : Int} {T E : World → Prop} {w : World} (ht : x ≤ n → x ≤ m → T w) (hf : ¬ (x ≤ n ∧ x ≤ m) → E w) :
    M.join (fun (c : Bool) (w' : World) => M.ite c (T w') (E w')) fun J => M.ite (decide (x ≤ n)) (J (decide (x ≤ m)) w) (J false w) :=
  M.join_and (fun h1 h2 => ht (of_decide_eq_true h1) (of_decide_eq_true h2)) (fun h => hf fun h' => by simp [h'.1, h'.2] at h)
/-- The same, with all that the last step leaves. -/
def leftR (vs : List Vw) : Nat → List Nat
  | 0 => List.range vs.length
  | k + 1 => keepA vs (leftR vs k) (k + 1 : Nat)
theorem leftR_eq (vs : List Vw) : ∀ k, k ≤ 6 → leftR vs k = leftA vs k
  | 0, _ => rfl
  | k + 1, h => by
    rw [leftR, leftA, siftA, if_neg (show ¬ ((k + 1 : Nat) : Int) = 7 by omega), leftR_eq vs k (by omega)]
theorem leftR_7 (vs : List Vw) : leftA vs 7 = (leftR vs 7).take 1 := by
  show siftA vs (leftA vs 6) 7 = (keepA vs (leftR vs 6) 7).take 1
  rw [siftA, if_pos rfl, leftR_eq vs 6 (by omega)]
theorem leftR_lt (vs : List Vw) : ∀ k, ∀ n ∈ leftR vs k, n < vs.length
  | 0, n, h => List.mem_range.1 h
  | k + 1, n, h => leftR_lt vs k n ((keepA_sub _ _ _).subset h)
theorem leftR_len (vs : List Vw) : ∀ k, (leftR vs k).length ≤ vs.length
  | 0 => by simp [leftR]
  | k + 1 => Nat.le_trans (keepA_sub vs (leftR vs k) _).length_le (leftR_len vs k)
theorem stepsN_le (s : Int) : stepsN s ≤ 7 := by unfold stepsN; omega
def Cn.vws (l : List Cn) : List Vw := l.map Cn.vw
/-- The place of the best one, if there is one. -/
def bestA (vs : List Vw) : Int × Bool := match leftA vs 7 with
  | [] => (0, false)
  | n :: _ => ((n : Int), true)
def betterA (a b : Vw) (step : Int) : Bool := leftA [a, b] (stepsN step) == [0]
end Go.Sp
