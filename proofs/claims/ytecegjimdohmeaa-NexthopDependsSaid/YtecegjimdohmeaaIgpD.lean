/-
  The inside's ways in memory, and what their functions do to them.
-/
import Derived.Test.YtecegjimdohmeaaIgpC
import Derived.Test.YtecegjimdohmeaaSpDecO
namespace Go.Proofs.Ytecegjimdohmeaa
set_option linter.unusedVariables false
set_option linter.unusedSimpArgs false
open Go.Sp

theorem wayEl : elemB Try.prog 32 6 48 = true := by kernel_rfl
theorem waySl : sliceB Try.prog 44 32 6 = true := by kernel_rfl
set_option maxRecDepth 100000 in
theorem mapU : Try.prog.underlying 59 = some (.map 28 32) := rfl
theorem wy_one (l : List Wy) : ∀ u ∈ l.flatMap Wy.cells, u.oneCell' = true := by
  intro u hu
  simp only [List.mem_flatMap, Wy.cells] at hu
  obtain ⟨x, _, hx⟩ := hu
  simp only [List.mem_cons, List.not_mem_nil, or_false] at hx
  rcases hx with rfl | rfl | rfl | rfl | rfl | rfl <;> rfl
structure IS where
  L : Tbl
  h : Key → Wy
def IS.zero : IS := ⟨[], fun _ => Wy.zero⟩
def IS.get (S : IS) (k : Key) : Wy := if (tget S.L k).isSome then S.h k else Wy.zero
def Wy.fix (x : Wy) : Wy := ⟨x.pf, x.direct, x.link, x.next, cleanN x.cost⟩
def IS.set (S : IS) (x : Wy) : IS := ⟨tput S.L x.pf 0, fun k => if k = x.pf then x.fix else S.h k⟩
def IS.put (S : IS) (x : Wy) : Bool × Int × IS :=
  if rightW x then
    (if (tget S.L x.pf).isNone && decide (64 ≤ S.L.length) then (false, 13, S) else (!((tget S.L x.pf).isSome && sameW (S.h x.pf) x.fix), 0, S.set x))
  else (false, 12, S)
def IS.cut (S : IS) (k : Key) : IS := ⟨tcut S.L k, S.h⟩
def IS.opn (S : IS) (k : Key) : Bool := (tget S.L k).isSome && !infB (S.h k).cost
/-- What each way in a table is. -/
structure okW (x : Wy) : Prop where
  right : rightW x = true
  ty : x.ty
  le : x.cost ≤ fInf
  clean : cleanN x.cost = x.cost
theorem clean_clean (b : Nat) : cleanN (cleanN b) = cleanN b := by
  by_cases h : fGeq b 0
  · by_cases h2 : fEql b 0
    · have : cleanN b = 0 := by simp [cleanN, h, h2]
      rw [this]; decide +kernel
    · have : cleanN b = b := by simp [cleanN, h, h2]
      rw [this, this]
  · have : cleanN b = 9218868437227405312 := by simp [cleanN, h]
    rw [this]; decide +kernel
theorem clean_geq (b : Nat) : fGeq (cleanN b) 0 = true := by
  by_cases h : fGeq b 0
  · by_cases h2 : fEql b 0
    · have : cleanN b = 0 := by simp [cleanN, h, h2]
      rw [this]; decide +kernel
    · have : cleanN b = b := by simp [cleanN, h, h2]
      rw [this]; exact h
  · have : cleanN b = 9218868437227405312 := by simp [cleanN, h]
    rw [this]; decide +kernel
theorem Wy.fix_ok {x : Wy} (h : rightW x = true) (t : x.ty) : okW x.fix where
  right := by
    unfold rightW at h ⊢
    unfold Wy.fix
    simp only [Bool.and_eq_true] at h ⊢
    exact ⟨⟨h.1.1, clean_geq _⟩, h.2⟩
  ty := ⟨t.1, t.2.1, by
    have := cleanN_le t.2.2
    unfold fInf at this
    show cleanN x.cost < _
    omega⟩
  le := cleanN_le t.2.2
  clean := clean_clean _
theorem sub_len {α : Type} [DecidableEq α] : ∀ (A B : List α), A.Nodup → (∀ x ∈ A, x ∈ B) → A.length ≤ B.length
  | [], B, _, _ => by simp
  | a :: A, B, hn, h => by
    have hn := List.nodup_cons.1 hn
    have ha := h a List.mem_cons_self
    have h1 := sub_len A (B.erase a) hn.2 (fun x hx => (List.mem_erase_of_ne (fun e => hn.1 (by rw [← e]; exact hx))).2 (h x (List.mem_cons_of_mem _ hx)))
    have h2 := List.length_erase_of_mem ha
    have h3 : 0 < B.length := List.length_pos_of_mem ha
    simp only [List.length_cons]
    omega
theorem tab_nodup {L : Tbl} (h : Tab L) : (L.map (·.1)).Nodup := by
  unfold List.Nodup
  rw [List.pairwise_map]
  refine h.sorted.imp fun {a b} hk he => ?_
  rw [he] at hk
  rcases hk with h | h
  · omega
  · omega
theorem tab_sub {A B : Tbl} (hA : Tab A) (h : ∀ k, (tget A k).isSome = true → (tget B k).isSome = true) : A.length ≤ B.length := by
  have := sub_len (A.map (·.1)) (B.map (·.1)) (tab_nodup hA) (fun k hk => by
    obtain ⟨x, hx, rfl⟩ := List.mem_map.1 hk
    obtain ⟨y, hy, he⟩ := tget_isSome.1 (h x.1 (tget_isSome.2 ⟨x, hx, rfl⟩))
    exact List.mem_map.2 ⟨y, hy, he⟩)
  simpa using this
structure IgpIn (w : World) (X : List Nat) (p t o r : Nat) (D E : List Nat) (es : Ents) (O : Tbl) (S : IS) : Prop where
  lt : ∀ x ∈ X, x < w.heap.size
  tbl : Blk w p 61 [ptr (some t), ptr (some o), .map (some r)]
  all : TrieAt w D t S.L
  opt : TrieAt w E o O
  map : MapAt w r es
  once : Once es
  len : es.length = S.L.length
  few : S.L.length ≤ 64
  pD : p ∉ D
  pE : p ∉ E
  rD : r ∉ D
  rE : r ∉ E
  pr : p ≠ r
  dis : ∀ x ∈ D, x ∉ E
  inp : p ∈ X
  inr : r ∈ X
  inD : ∀ x ∈ D, x ∈ X
  inE : ∀ x ∈ E, x ∈ X
  hop : ∀ k, (tget S.L k).isSome = true → mget es k = some (S.h k).agg ∧ (S.h k).pf = k ∧ okW (S.h k)
  hno : ∀ k, (tget S.L k).isSome = false → mget es k = none
  op : ∀ k, (tget O k).isSome = S.opn k
def IgpAt (w : World) (X : List Nat) (p : Nat) (S : IS) : Prop := ∃ t o r D E es O, IgpIn w X p t o r D E es O S
theorem IgpIn.keep {w w' : World} {X Y : List Nat} {p t o r : Nat} {D E : List Nat} {es : Ents} {O : Tbl} {S : IS} (F : IgpIn w X p t o r D E es O S) (k : Keeps Y w w') (hd : ∀ x ∈ X, x ∉ Y) : IgpIn w' X p t o r D E es O S :=
  { F with
    lt := fun x hx => Nat.lt_of_lt_of_le (F.lt x hx) k.size
    tbl := F.tbl.keep k (hd _ F.inp)
    all := F.all.keep k (fun x hx => hd _ (F.inD x hx))
    opt := F.opt.keep k (fun x hx => hd _ (F.inE x hx))
    map := F.map.keep k (hd _ F.inr) }
theorem IgpAt.keep {w w' : World} {X Y : List Nat} {p : Nat} {S : IS} (F : IgpAt w X p S) (k : Keeps Y w w') (hd : ∀ x ∈ X, x ∉ Y) : IgpAt w' X p S := by
  obtain ⟨t, o, r, D, E, es, O, F⟩ := F
  exact ⟨t, o, r, D, E, es, O, F.keep k hd⟩
theorem IgpAt.lt {w : World} {X : List Nat} {p : Nat} {S : IS} (F : IgpAt w X p S) : ∀ x ∈ X, x < w.heap.size := by
  obtain ⟨t, o, r, D, E, es, O, F⟩ := F
  exact F.lt
theorem IgpAt.few {w : World} {X : List Nat} {p : Nat} {S : IS} (F : IgpAt w X p S) : S.L.length ≤ 64 := by
  obtain ⟨t, o, r, D, E, es, O, F⟩ := F
  exact F.few
theorem IgpAt.tab {w : World} {X : List Nat} {p : Nat} {S : IS} (F : IgpAt w X p S) : Tab S.L := by
  obtain ⟨t, o, r, D, E, es, O, F⟩ := F
  obtain ⟨_, _, _, _, _, _, h⟩ := F.all
  exact h
theorem IgpAt.ok {w : World} {X : List Nat} {p : Nat} {S : IS} (F : IgpAt w X p S) {k : Key} (hk : (tget S.L k).isSome = true) : (S.h k).pf = k ∧ okW (S.h k) := by
  obtain ⟨t, o, r, D, E, es, O, F⟩ := F
  exact (F.hop k hk).2
theorem IgpIn.tabO {w : World} {X : List Nat} {p t o r : Nat} {D E : List Nat} {es : Ents} {O : Tbl} {S : IS} (F : IgpIn w X p t o r D E es O S) : Tab O := by
  obtain ⟨_, _, _, _, _, _, h⟩ := F.opt
  exact h
theorem IgpIn.fewO {w : World} {X : List Nat} {p t o r : Nat} {D E : List Nat} {es : Ents} {O : Tbl} {S : IS} (F : IgpIn w X p t o r D E es O S) : O.length ≤ 64 := by
  refine Nat.le_trans (tab_sub F.tabO fun k hk => ?_) F.few
  rw [F.op k] at hk
  unfold IS.opn at hk
  simp only [Bool.and_eq_true] at hk
  exact hk.1
theorem IgpIn.same {w : World} {X : List Nat} {p t o r : Nat} {D E : List Nat} {es : Ents} {O : Tbl} {S : IS} (F : IgpIn w X p t o r D E es O S) (k : Key) : (mget es k).isSome = (tget S.L k).isSome := by
  cases hh : (tget S.L k).isSome with
  | true => rw [(F.hop k hh).1]; rfl
  | false => rw [F.hno _ hh]; rfl
theorem IgpIn.look {w : World} {X : List Nat} {p t o r : Nat} {D E : List Nat} {es : Ents} {O : Tbl} {S : IS} (F : IgpIn w X p t o r D E es O S) (k : Key) :
    (Instr.lookup 59 (.map (some r)) (kv k) true).run Try.prog w = .ok (.tuple #[(S.get k).agg, .bool (tget S.L k).isSome]) w ∧ (Instr.lookup 59 (.map (some r)) (kv k) false).run Try.prog w = .ok (S.get k).agg w := by
  have hl := look_ok (w := w) (r := r) keyT mapU F.map k (z := Wy.zero.agg) (by kernel_rfl)
  unfold IS.get
  cases hs : (tget S.L k).isSome with
  | true =>
    rw [(F.hop k hs).1] at hl
    exact hl
  | false =>
    rw [F.hno k hs] at hl
    exact hl
theorem inew_c {w : World} : Calls Try.prog 7 #[] w (R7 fun r w' => ∃ p X, r = some ⟨p, 0, none⟩ ∧ IgpAt w' X p IS.zero ∧ (∀ x ∈ X, w.heap.size ≤ x) ∧ Keeps [] w w') := by
  refine F7_ok (tnew_c.mono fun e w1 g => ?_)
  obtain ⟨r1, rfl, t, rfl, T1, k1, ht⟩ := g
  refine ⟨_, rfl, tnew_c.mono fun e w2 g => ?_⟩
  obtain ⟨r2, rfl, o, rfl, O2, k2, ho⟩ := g
  refine ⟨_, rfl, M.new_by ?_⟩
  have km := Keeps.alloc [] w2 (.map #[] 0)
  have M3 := MapAt.new w2
  have T3 := (T1.keep k2 (by simp)).keep km (by simp)
  have O3 := O2.keep km (by simp)
  have htl := T1.1 t (by simp)
  have hol := O2.1 o (by simp)
  have hs2 : (w2.alloc (.map #[] 0)).heap.size = w2.heap.size + 1 := by simp
  generalize w2.alloc (.map #[] 0) = w3 at *
  refine M.new_blk fun p w4 hp B4 k4 => ?_
  have k04 := ((k1.trans k2 (by simp)).trans km (by simp)).trans k4 (by simp)
  have hs1 := k1.size
  have hs12 := k2.size
  have hB4 := B4.lt
  refine ⟨p, [p, w2.heap.size, t, o], rfl, ⟨t, o, w2.heap.size, [t], [o], [], [], ?_⟩, ?_, k04⟩
  · refine ⟨?_, B4, T3.keep k4 (by simp), O3.keep k4 (by simp), M3.keep k4 (by simp), List.nodup_nil, rfl, by simp [IS.zero], by simp; omega, by simp; omega, by simp; omega, by simp; omega, by omega, by simp; omega, by simp, by simp, by simp, by simp, ?_, fun _ _ => rfl, ?_⟩
    · intro x hx
      simp at hx
      rcases hx with rfl | rfl | rfl | rfl <;> omega
    · intro k hk
      simp [IS.zero, tget] at hk
    · intro k; rfl
  · intro x hx
    simp at hx
    rcases hx with rfl | rfl | rfl | rfl <;> omega
/-- The best of the ways that lead on. -/
def IS.best (S : IS) (A : Nat) (k : Key) : Prop := S.opn k = true ∧ hasB k A = true ∧ ∀ k', S.opn k' = true → hasB k' A = true → k'.2 ≤ k.2
def IS.nobest (S : IS) (A : Nat) : Prop := ∀ k, S.opn k = true → hasB k A = false
/-- What is told of an address. -/
def IS.told (S : IS) (A : Nat) (x : Wy) (ok : Bool) : Prop := (∃ k, S.best A k ∧ x = S.h k ∧ ok = true) ∨ (S.nobest A ∧ x = Wy.zero ∧ ok = false)
theorem imatch_c {w : World} {X : List Nat} {p : Nat} {S : IS} (F : IgpAt w X p S) {A : Nat} (hA : A < 4294967296) :
    Calls Try.prog 43 #[.pointer (some ⟨p, 0, none⟩), .int .u32 (A : Int)] w (R43 fun x1 x2 x3 x4 x5 x6 ok w' => (∃ x : Wy, S.told A x ok ∧ x1 = (x.pf.1 : Int) ∧ x2 = x.pf.2 ∧ x3 = x.direct ∧ x4 = x.link ∧ x5 = (x.next : Int) ∧ x6 = x.cost) ∧ Keeps [] w w') := by
  obtain ⟨t, o, r, D, E, es, O, F⟩ := F
  refine F43_ok (M.new_blk fun b2 w1 hb2 B k1 => ?_)
  have F1 := F.keep k1 (by simp)
  have hBl := B.lt
  refine ⟨_, rfl, _, F1.tbl.cell 1, (match_c F1.opt hA).mono fun e w2 g => ?_⟩
  obtain ⟨x, y, v, ok, rfl, g, k2⟩ := g
  refine ⟨_, _, _, _, rfl, M.new_blk fun b3 w3 hb3 B3 k3 => M.stA_blk B3 rfl fun w4 B4 k4 => ?_⟩
  have k24 : Keeps [] w2 w4 := k3.trans k4 (by simp; omega)
  have k14 := k2.trans k24 (by simp)
  have k04 := k1.trans k14 (by simp)
  have hs1 := k1.size
  unfold matchT at g
  cases hm : (onWay O A 33).getLast? with
  | none =>
    rw [hm] at g
    obtain ⟨rfl, rfl, rfl, rfl⟩ := g
    refine M.ite_tt (M.stA_blk (B.keep k14 (by simp)) rfl fun w5 B5 k5 => ⟨_, _, _, _, _, _, B5.cs 0 _ rfl, ⟨Wy.zero, .inr ⟨fun k hk => ?_, rfl, rfl⟩, rfl, rfl, rfl, rfl, rfl, rfl⟩, k04.trans k5 (by simp; omega)⟩)
    rw [← F.op k] at hk
    obtain ⟨z, hz, rfl⟩ := tget_isSome.1 hk
    cases hb : hasB z.1 A with
    | false => rfl
    | true =>
      have := (onWay_mem F.tabO hA (k := z.1)).2 ⟨List.mem_map.2 ⟨z, hz, rfl⟩, hb⟩
      rw [List.getLast?_eq_none_iff.1 hm] at this
      simp at this
  | some k =>
    rw [hm] at g
    obtain ⟨rfl, rfl, rfl, rfl⟩ := g
    obtain ⟨init, hinit⟩ := List.getLast?_eq_some_iff.1 hm
    obtain ⟨q1, q2, q3⟩ := onWay_last F.tabO hA hinit
    have hop : S.opn k = true := by
      rw [← F.op k]
      obtain ⟨z, hz, he⟩ := List.mem_map.1 q1
      exact tget_isSome.2 ⟨z, hz, he⟩
    have hget : S.get k = S.h k := by
      unfold IS.opn at hop
      simp only [Bool.and_eq_true] at hop
      unfold IS.get
      rw [if_pos hop.1]
    have kd := Keeps.drew [] w4
    have k05 := k04.trans kd (by simp)
    have F5 := F.keep k05 (by simp)
    have B5 := B4.keep kd (by simp)
    have l5 := (F5.look k).2
    rw [hget] at l5
    refine M.ite_ff (M.drew_by ⟨_, rfl, _, F5.tbl.cell 2, _, B5.cell 0, _, B5.cell 1, _, _, _, _, _, _, l5, M.stA_blk ((B.keep k14 (by simp)).keep kd (by simp)) rfl fun w6 B6 k6 => ⟨_, _, _, _, _, _, B6.cs 0 _ rfl, ⟨S.h k, .inl ⟨k, ⟨hop, q2, fun k' h1 h2 => ?_⟩, rfl, rfl⟩, rfl, rfl, rfl, rfl, rfl, rfl⟩, k05.trans k6 (by simp; omega)⟩⟩)
    rw [← F.op k'] at h1
    obtain ⟨z, hz, rfl⟩ := tget_isSome.1 h1
    exact q3 _ (List.mem_map.2 ⟨z, hz, rfl⟩) h2
def IS.all (S : IS) : List Wy := S.L.map fun x => S.h x.1
end Go.Proofs.Ytecegjimdohmeaa
