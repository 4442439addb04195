/-
  Words for memory: what a slice reads as, what is owned, what is kept; append and text for them.
-/
import Derived.Test.YtflffabmfoldeaaSpMem
import Derived.Maps.AppendAt
import Derived.Laws.AppendOwnNone
namespace Go.Sp
set_option linter.unusedVariables false
set_option linter.unusedSimpArgs false
open Go.RowKit (Below)

/-! ### What is kept -/
/-- But for the blocks in D, what was there is as it was. -/
structure Keeps (D : List Nat) (w w' : World) : Prop where
  os : w'.os = w.os
  tape : w'.tape = w.tape
  output : w'.output = w.output
  size : w.heap.size ≤ w'.heap.size
  block : ∀ k, k < w.heap.size → k ∉ D → w'.heap[k]? = w.heap[k]?
theorem Keeps.refl (D : List Nat) (w : World) : Keeps D w w := ⟨rfl, rfl, rfl, Nat.le_refl _, fun _ _ _ => rfl⟩
theorem Keeps.trans {D D' : List Nat} {a b c : World} (h : Keeps D a b) (k : Keeps D' b c) (hD : ∀ x ∈ D', x ∈ D ∨ a.heap.size ≤ x) : Keeps D a c :=
  ⟨k.os.trans h.os, k.tape.trans h.tape, k.output.trans h.output, Nat.le_trans h.size k.size, fun i hi hn => (k.block i (Nat.lt_of_lt_of_le hi h.size) fun hx => by
    rcases hD i hx with h1 | h1
    · exact hn h1
    · omega).trans (h.block i hi hn)⟩
theorem Keeps.mono {D D' : List Nat} {a b : World} (h : Keeps D a b) (hD : ∀ x ∈ D, x ∈ D' ∨ a.heap.size ≤ x) : Keeps D' a b :=
  ⟨h.os, h.tape, h.output, h.size, fun i hi hn => h.block i hi fun hx => by
    rcases hD i hx with h1 | h1
    · exact hn h1
    · omega⟩
theorem Keeps.up {D : List Nat} {a b : World} (h : Keeps [] a b) : Keeps D a b := h.mono (by simp)
theorem Keeps.and {D : List Nat} {a b c : World} (h : Keeps D a b) (k : Keeps D b c) : Keeps D a c := h.trans k (fun _ hx => .inl hx)
theorem Keeps.drew (D : List Nat) (w : World) : Keeps D w w.drew := ⟨rfl, rfl, rfl, Nat.le_refl _, fun _ _ _ => rfl⟩
theorem Keeps.alloc (D : List Nat) (w : World) (o : Obj) : Keeps D w (w.alloc o) := ⟨rfl, rfl, rfl, by simp, fun k hk _ => Below.heap_alloc _ _ _ hk⟩
theorem Keeps.set {D : List Nat} (w : World) {a : Addr} (h : a.block ∈ D) (v : Value) : Keeps D w (w.setCell a v) :=
  ⟨rfl, rfl, rfl, by simp, fun k _ hn => Below.heap_setCell _ _ _ _ fun e => hn (e ▸ h)⟩
theorem Keeps.below {D : List Nat} {B : Nat} {W w w' : World} (h : Below B W w) (k : Keeps D w w') (hB : B ≤ w.heap.size) (hD : ∀ x ∈ D, B ≤ x) : Below B W w' :=
  h.trans ⟨k.os, k.tape, k.output, k.size, fun i hi => k.block i (by omega) fun hx => by have := hD i hx; omega⟩
theorem Keeps.cell {D : List Nat} {w w' : World} (h : Keeps D w w') {a : Addr} {v : Value} (hc : w.cell? a = some v) (hn : a.block ∉ D) : w'.cell? a = some v :=
  (World.cell?_of_block (h.block a.block (World.block_lt_of_cell? w a hc) hn)).trans hc

/-! ### A block that is known whole -/
def Blk (w : World) (b : Nat) (T : TypeId) (cs : List Value) : Prop := w.heap[b]? = some (.cells cs.toArray T (0, 0))
theorem Blk.lt {w : World} {b : Nat} {T : TypeId} {cs : List Value} (h : Blk w b T cs) : b < w.heap.size := (Array.getElem?_eq_some_iff.1 h).1
theorem Blk.cell {w : World} {b : Nat} {T : TypeId} {cs : List Value} (h : Blk w b T cs) (i : Nat) : w.cell? ⟨b, i, none⟩ = cs[i]? := by
  unfold Blk at h
  simp [World.cell?, h]
theorem Blk.free {w : World} {b : Nat} {T : TypeId} {cs : List Value} (h : Blk w b T cs) (i : Nat) : w.frozen? ⟨b, i, none⟩ = false := by
  unfold Blk at h
  simp [World.frozen?, h]
theorem Blk.keep {w w' : World} {b : Nat} {T : TypeId} {cs : List Value} {D : List Nat} (h : Blk w b T cs) (k : Keeps D w w') (hn : b ∉ D) : Blk w' b T cs := (k.block b h.lt hn).trans h
theorem Blk.new (w : World) (cs : List Value) (T : TypeId) : Blk (w.alloc (.cells cs.toArray T)) w.heap.size T cs := heap_alloc_new w _
theorem Blk.set {w : World} {b : Nat} {T : TypeId} {cs : List Value} (h : Blk w b T cs) (i : Nat) (v : Value) : Blk (w.setCell ⟨b, i, none⟩ v) b T (cs.set i v) := by
  unfold Blk at *
  simp [World.setCell, Array.getElem?_modify, h]
theorem add_mk (b o k : Nat) : (⟨b, o, none⟩ : Addr).add k = ⟨b, o + k, none⟩ := by
  unfold Addr.add
  split
  · subst_vars; rfl
  · rfl
theorem add_zero (a : Addr) : a.add 0 = a := by simp [Addr.add]
theorem add_add (a : Addr) (i j : Nat) : (a.add i).add j = a.add (i + j) := by
  unfold Addr.add
  by_cases hi : i = 0 <;> by_cases hj : j = 0 <;> simp [hi, hj, Nat.add_assoc]
theorem add_block (a : Addr) (i : Nat) : (a.add i).block = a.block := by
  unfold Addr.add; split <;> rfl

/-! ### Slices -/
def SV.blk (s : SV) : List Nat := match s.a with
  | some a => [a.block]
  | none => []
/-- What a slice reads as: its cells, 'sz' an element. -/
structure Rd (sz : Nat) (w : World) (s : SV) (vs : List Value) : Prop where
  len : vs.length = s.len * sz
  cap : s.len ≤ s.cap
  none : s.a = none → s.len = 0 ∧ s.cap = 0
  cell : ∀ a, s.a = some a → ∀ i v, vs[i]? = some v → w.cell? (a.add i) = some v
theorem Rd.nil (sz : Nat) (w : World) : Rd sz w SV.nil [] := ⟨by simp, Nat.le_refl _, fun _ => ⟨rfl, rfl⟩, fun a h => by simp at h⟩
theorem Rd.keep {sz : Nat} {w w' : World} {s : SV} {vs : List Value} {D : List Nat} (h : Rd sz w s vs) (k : Keeps D w w') (hn : ∀ x ∈ s.blk, x ∉ D) : Rd sz w' s vs :=
  ⟨h.len, h.cap, h.none, fun a ha i v hv => k.cell (h.cell a ha i v hv) (by rw [add_block]; exact hn _ (by simp [SV.blk, ha]))⟩
theorem Rd.keep' {sz : Nat} {w w' : World} {s : SV} {vs : List Value} {D : List Nat} (h : Rd sz w s vs) (k : Keeps D w w') (hn : vs ≠ [] → ∀ x ∈ s.blk, x ∉ D) : Rd sz w' s vs := by
  by_cases hv : vs = []
  · subst hv
    exact ⟨h.len, h.cap, h.none, fun a _ i v hi => by simp at hi⟩
  · exact h.keep k (hn hv)
theorem Rd.below {sz : Nat} {B : Nat} {W w : World} {s : SV} {vs : List Value} (h : Rd sz W s vs) (k : Below B W w) (hB : ∀ x ∈ s.blk, x < B) : Rd sz w s vs :=
  ⟨h.len, h.cap, h.none, fun a ha i v hv => (k.cell (p := a.add i) (by rw [add_block]; exact hB _ (by simp [SV.blk, ha]))).trans (h.cell a ha i v hv)⟩
theorem Rd.some {sz : Nat} {w : World} {s : SV} {vs : List Value} (h : Rd sz w s vs) (hl : 0 < s.len) : ∃ a, s.a = some a := by
  cases ha : s.a with
  | none => have := h.none ha; omega
  | some a => exact ⟨a, rfl⟩
theorem SV.sub_blk (s : SV) (l h sz : Nat) : (s.sub l h sz).blk = s.blk := by
  unfold SV.blk SV.sub
  cases s.a with
  | none => simp
  | some a =>
    by_cases hc : s.cap = l
    · simp [hc]
    · simp [hc, add_block]
theorem Rd.sub {sz : Nat} {w : World} {s : SV} {vs : List Value} (h : Rd sz w s vs) {l u : Nat} (h1 : l ≤ u) (h2 : u ≤ s.len) : Rd sz w (s.sub l u sz) ((vs.drop (l * sz)).take ((u - l) * sz)) := by
  have hlen := h.len
  have hcap := h.cap
  refine ⟨?_, ?_, ?_, ?_⟩
  · simp only [SV.sub, List.length_take, List.length_drop, hlen]
    have : u * sz ≤ s.len * sz := Nat.mul_le_mul_right _ h2
    rw [Nat.sub_mul]
    omega
  · simp only [SV.sub]; omega
  · intro hn
    have h0 : s.a = Option.none := by
      simp only [SV.sub] at hn
      split at hn
      · exact hn
      · simpa using hn
    have := h.none h0
    simp only [SV.sub]; omega
  · intro a ha i v hv
    simp only [SV.sub] at ha
    have hi : i < (u - l) * sz ∧ (vs.drop (l * sz))[i]? = Option.some v := by
      rw [List.getElem?_take] at hv
      split at hv
      · exact ⟨by assumption, hv⟩
      · simp at hv
    have hv2 : vs[l * sz + i]? = Option.some v := by simpa using hi.2
    split at ha
    · rename_i hc
      have : u - l = 0 := by omega
      rw [this] at hi; simp at hi
    · obtain ⟨a0, ha0, rfl⟩ := Option.map_eq_some_iff.1 ha
      rw [add_add]
      exact h.cell a0 ha0 _ _ hv2
theorem Rd.at {sz : Nat} {w : World} {s : SV} {vs : List Value} (h : Rd sz w s vs) {a : Addr} (ha : s.a = Option.some a) {i : Nat} {v : Value} (hv : vs[i]? = Option.some v) : w.cell? (a.add i) = Option.some v := h.cell a ha i v hv

/-- A slice that is owned: at the head of a row of its own. -/
def Own (e : TypeId) (sz : Nat) (w : World) (s : SV) (vs : List Value) : Prop := w.ownsRow 0 e sz s.v s.len vs
theorem Own.nil (e : TypeId) (sz : Nat) (w : World) : Own e sz w SV.nil [] := World.ownsRow_nil _ _ _ _
theorem Own.row {e : TypeId} {sz : Nat} {w : World} {s : SV} {vs : List Value} (h : Own e sz w s vs) : vs.length = s.len * sz ∧ (s = SV.nil ∨ ∃ g cur, s.a = some ⟨g, 0, none⟩ ∧ w.heap[g]? = some (.cells cur e (0, 0)) ∧ s.len ≤ s.cap ∧ s.cap ≤ maxLen ∧ cur.size = s.cap * sz ∧ cur.toList.take (s.len * sz) = vs) := by
  obtain ⟨h1, h2⟩ := h
  refine ⟨h1, ?_⟩
  obtain ⟨a, l, c⟩ := s
  rcases h2 with ⟨h2, h3⟩ | ⟨g, cap, cur, h2, _, h4, h5, h6, h7, h8⟩
  · left; simp only [SV.v, Value.slice.injEq] at h2; obtain ⟨rfl, rfl, rfl⟩ := h2; rfl
  · right; simp only [SV.v, Value.slice.injEq] at h2; obtain ⟨rfl, h9, rfl⟩ := h2
    exact ⟨g, cur, rfl, h4, h5, h6, h7, h8⟩
theorem Own.rd {e : TypeId} {sz : Nat} {w : World} {s : SV} {vs : List Value} (h : Own e sz w s vs) : Rd sz w s vs := by
  obtain ⟨h1, rfl | ⟨g, cur, h2, h3, h4, h5, h6, h7⟩⟩ := h.row
  · have : vs = [] := List.eq_nil_of_length_eq_zero (by simpa using h1)
    subst this
    exact Rd.nil sz w
  · refine ⟨h1, h4, fun hn => by simp [h2] at hn, fun a ha i v hv => ?_⟩
    rw [h2] at ha
    obtain rfl := Option.some.inj ha
    rw [add_mk, cell_of_row w g (0 + i) cur e (0, 0) h3, Nat.zero_add]
    rw [← h7, List.getElem?_take] at hv
    split at hv
    · simpa using hv
    · simp at hv
theorem Own.keep {e : TypeId} {sz : Nat} {w w' : World} {s : SV} {vs : List Value} {D : List Nat} (h : Own e sz w s vs) (k : Keeps D w w') (hn : ∀ x ∈ s.blk, x ∉ D) : Own e sz w' s vs := by
  obtain ⟨h1, h2⟩ := h
  refine ⟨h1, ?_⟩
  rcases h2 with h2 | ⟨g, cap, cur, h2, h3, h4, h5⟩
  · exact .inl h2
  · refine .inr ⟨g, cap, cur, h2, h3, ?_, h5⟩
    have hb : g ∈ s.blk := by
      obtain ⟨a, l, c⟩ := s
      simp only [SV.v, Value.slice.injEq] at h2
      obtain ⟨rfl, _, _⟩ := h2
      simp [SV.blk]
    exact (k.block g (Array.getElem?_eq_some_iff.1 h4).1 (hn g hb)).trans h4
theorem Own.lt {e : TypeId} {sz : Nat} {w : World} {s : SV} {vs : List Value} (h : Own e sz w s vs) : ∀ x ∈ s.blk, x < w.heap.size := by
  obtain ⟨_, rfl | ⟨g, cur, h2, h3, _⟩⟩ := h.row
  · simp [SV.blk]
  · intro x hx
    simp [SV.blk, h2] at hx
    subst hx
    exact (Array.getElem?_eq_some_iff.1 h3).1
theorem Own.new (w : World) (e : TypeId) (sz n : Nat) (cs : List Value) (hc : cs.length = n * sz) (hn : n ≤ maxLen) : Own e sz (w.alloc (.cells cs.toArray e)) ⟨some ⟨w.heap.size, 0, none⟩, n, n⟩ cs :=
  ⟨hc, .inr ⟨w.heap.size, n, cs.toArray, rfl, Nat.zero_le _, heap_alloc_new w _, Nat.le_refl _, hn, by simpa using hc, by simp [← hc]⟩⟩
/-- One cell of an owned slice is written. -/
theorem Own.put {e : TypeId} {sz : Nat} {w : World} {s : SV} {vs : List Value} (h : Own e sz w s vs) {a : Addr} (ha : s.a = some a) {j : Nat} (hj : j < vs.length) (v : Value) :
    (∃ u, w.cell? (a.add j) = some u) ∧ w.frozen? (a.add j) = false ∧ Own e sz (w.setCell (a.add j) v) s (vs.set j v) ∧ Keeps s.blk w (w.setCell (a.add j) v) := by
  have hrow := h.row
  obtain ⟨h1, h2⟩ := h
  rcases h2 with ⟨h2, h3⟩ | ⟨g, cap, cur, h2, h3, h4, h5, h6, h7, h8⟩
  · exfalso
    have := h2
    obtain ⟨sa, sl, sc⟩ := s
    simp only [SV.v, Value.slice.injEq] at this
    simp only [] at ha
    rw [this.1] at ha
    cases ha
  · have h2' := h2
    obtain ⟨sa, sl, sc⟩ := s
    simp only [SV.v, Value.slice.injEq] at h2'
    simp only [] at ha h1
    obtain ⟨e1, _, e3⟩ := h2'
    rw [ha] at e1
    obtain rfl := Option.some.inj e1
    have hjc : j < cur.size := by
      have := congrArg List.length h8
      rw [List.length_take] at this
      have e9 : cur.toList.length = cur.size := by simp
      omega
    have hb : g ∈ (SV.mk sa sl sc).blk := by simp [SV.blk, ha]
    rw [add_mk, Nat.zero_add]
    refine ⟨⟨cur[j], ?_⟩, ?_, ⟨by simpa using h1, .inr ⟨g, cap, cur.set j v, h2, h3, ?_, h5, h6, by simpa using h7, ?_⟩⟩, Keeps.set _ hb _⟩
    · rw [cell_of_row w g j cur e (0, 0) h4]; simp [hjc]
    · simp [World.frozen?, h4]
    · simp only [World.setCell, Array.getElem?_modify]
      simp [h4, Array.setIfInBounds, hjc]
    · rw [← h8]
      simp [List.take_set]
theorem ownBlock_blk (s : SV) (k : Nat) : some k ≠ s.v.ownBlock ↔ k ∉ s.blk := by
  obtain ⟨a, l, c⟩ := s
  cases a <;> simp [Value.ownBlock, SV.blk]

/-- The element type's row of the table. -/
def elemB (P : Program) (e sz bytes : Nat) : Bool := match P.info? e with
  | some i => Nat.beq i.size sz && Nat.beq i.bytes bytes && (match i.zero with | some z => Nat.beq z.cells.size sz | none => false) && Nat.ble 1 sz && Nat.ble 1 bytes
  | none => false
/-- append onto an owned slice. -/
theorem app_own {P : Program} {t ty e sz bytes : Nat} (hB : sliceB P t e sz = true) (hE : elemB P e sz bytes = true) {w : World} {s x : SV} {vs news : List Value} (ho : Own e sz w s vs) (hx : Rd sz w x news)
    (h1 : ∀ u ∈ news, u.oneCell' = true) (hb : (s.len + x.len) * bytes ≤ 140737488355328) :
    ∃ r w', (Builtin.append_ #[t, t] ty #[s.v, x.v]).run P w = .ok (SV.v r) w' ∧ Own e sz w' r (vs ++ news) ∧ r.len = s.len + x.len ∧ Keeps s.blk w w' ∧ (∀ k ∈ r.blk, k ∈ s.blk ∨ w.heap.size ≤ k) := by
  unfold elemB at hE
  cases hi : P.info? e with
  | none => simp [hi] at hE
  | some i =>
    simp only [hi, Bool.and_eq_true] at hE
    obtain ⟨⟨⟨⟨e1, e2⟩, e3⟩, e4⟩, e5⟩ := hE
    cases hz : i.zero with
    | none => simp [hz] at e3
    | some z =>
      simp only [hz] at e3
      have e1 := Nat.eq_of_beq_eq_true e1
      have e2 := Nat.eq_of_beq_eq_true e2
      have e3 := Nat.eq_of_beq_eq_true e3
      have e4 := Nat.le_of_ble_eq_true e4
      have e5 := Nat.le_of_ble_eq_true e5
      have ht : P.underlying t = some (.slice e) := by
        unfold sliceB at hB; split at hB <;> try (simp at hB; done)
        rename_i e' h
        simp only [Bool.and_eq_true] at hB
        have := Nat.eq_of_beq_eq_true hB.1
        subst this
        exact h
      have hmax : s.len + x.len ≤ maxLen := by
        have h2 : (s.len + x.len) * 1 ≤ (s.len + x.len) * bytes := Nat.mul_le_mul_left _ e5
        unfold maxLen; omega
      obtain ⟨xa, xl, xc⟩ := x
      cases xa with
      | none =>
        have hn := hx.none rfl
        simp only [] at hn
        obtain ⟨rfl, rfl⟩ := hn
        have : news = [] := List.eq_nil_of_length_eq_zero (by simpa using hx.len)
        subst this
        have hr := run_append_owned_none (P := P) w 0 t ty e i sz ht hi s.v s.len vs ho
        exact ⟨s, w, hr, by simpa using ho, by simp, Keeps.refl _ _, fun k hk => .inl hk⟩
      | some a =>
        obtain ⟨v', w', hr, h2, h3, h4, h5⟩ := run_append_own_at (P := P) w 0 t ty e i z sz bytes ht hi hz e1 e2 e3 e4 s.v s.len vs ho a xl xc news hx.len (hx.cell a rfl) h1 hmax hb (Nat.zero_le _)
        have hv' : ∃ r : SV, v' = r.v ∧ r.len = s.len + xl := by
          rcases h2.2 with ⟨q1, q2⟩ | ⟨g, cap, cur, q1, _⟩
          · exact ⟨SV.nil, q1, q2.symm⟩
          · exact ⟨⟨some ⟨g, 0, none⟩, s.len + xl, cap⟩, q1, rfl⟩
        obtain ⟨r, rfl, hrl⟩ := hv'
        refine ⟨r, w', hr, by unfold Own; rw [hrl]; exact h2, hrl, ⟨h3.os, h3.tape, h3.output, h3.size, fun k hk hn => h3.block k hk ((ownBlock_blk s k).2 hn)⟩, fun k hk => ?_⟩
        have hk' : r.v.ownBlock = some k := by
          obtain ⟨ra, rl, rc⟩ := r
          cases ra <;> simp [SV.blk, Value.ownBlock] at hk ⊢
          exact hk.symm
        rcases h5 with h5 | h5
        · left
          have : s.v.ownBlock = some k := by rw [← h5]; exact hk'
          obtain ⟨sa, sl, sc⟩ := s
          cases sa <;> simp [SV.blk, Value.ownBlock] at this ⊢
          exact this.symm
        · right
          rw [h5] at hk'
          have := Option.some.inj hk'
          omega

/-! ### Bytes and texts -/
def bv (bs : List UInt8) : List Value := bs.map fun b => Value.int .u8 b.toNat
theorem bv_length (bs : List UInt8) : (bv bs).length = bs.length := by simp [bv]
theorem bv_append (a b : List UInt8) : bv (a ++ b) = bv a ++ bv b := by simp [bv]
theorem bv_one (bs : List UInt8) : ∀ u ∈ bv bs, u.oneCell' = true := by
  intro u hu
  obtain ⟨_, _, rfl⟩ := List.mem_map.1 hu
  rfl
theorem bv_take (bs : List UInt8) (n : Nat) : (bv bs).take n = bv (bs.take n) := by simp [bv]
theorem bv_drop (bs : List UInt8) (n : Nat) : (bv bs).drop n = bv (bs.drop n) := by simp [bv]
theorem bv_get {bs : List UInt8} {i : Nat} {b : UInt8} (h : bs[i]? = some b) : (bv bs)[i]? = some (Value.int .u8 b.toNat) := by simp [bv, h]
def baOf (bs : List UInt8) : ByteArray := ⟨bs.toArray⟩
theorem baOf_toList (bs : List UInt8) : (baOf bs).toList = bs := by rw [ByteArray.toList_eq]; simp [baOf]
theorem b2s_rd {P : Program} {t d e : Nat} (hB : sliceB P t e 1 = true) (hI : intB P e .u8 = true) (hd : P.underlying d = some .string) {w : World} {s : SV} {bs : List UInt8} (h : Rd 1 w s (bv bs)) :
    (convert t d s.v).run P w = .ok (.string (baOf bs)) w := by
  have ht : P.underlying t = some (.slice e) := by
    unfold sliceB at hB; split at hB <;> try (simp at hB; done)
    rename_i e' h
    simp only [Bool.and_eq_true] at hB
    have := Nat.eq_of_beq_eq_true hB.1
    subst this
    exact h
  have he : P.underlying e = some (.int .u8) := by
    unfold intB at hI; split at hI <;> try (simp at hI; done)
    rename_i k' h
    simp only [decide_eq_true_eq] at hI
    subst hI; exact h
  obtain ⟨a, l, c⟩ := s
  cases a with
  | none =>
    have hn := h.none rfl
    simp only [] at hn
    have hl := h.len
    simp only [bv_length, hn.1, Nat.zero_mul] at hl
    have : bs = [] := List.eq_nil_of_length_eq_zero hl
    subst this
    exact run_convert_bytes_nil w t e ht he l c d hd
  | some a =>
    have hl := h.len
    simp only [bv_length, Nat.mul_one] at hl
    have hld : (loadCells a l).run P w = .ok (bs.map (fun b => Value.int .u8 b.toNat)).toArray w := by
      have := run_loadCells_list (P := P) w a (bv bs) (fun j v hj => h.cell a rfl j v hj)
      rw [bv_length, hl] at this
      exact this
    have hm : (bs.map fun b => Value.int .u8 b.toNat) = (bs.map fun b => (b.toNat : Int)).map (Value.int .u8) := by simp
    rw [hm] at hld
    show (convert t d (.slice (some a) l c)).run P w = _
    rw [run_convert_bytes_string w t d e _ l c ht he hd, run_bytesToString w a l c _ hld, foldl_push_bytes]
    have hf : ((fun n : Int => UInt8.ofNat n.toNat) ∘ fun b : UInt8 => (b.toNat : Int)) = id := by
      funext b; simp
    have he : (ByteArray.empty.data : Array UInt8) = #[] := rfl
    simp [baOf, he, hf]
end Go.Sp
