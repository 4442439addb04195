/-
  A forwarding table in memory, and what its functions do to it.
-/
import Derived.Test.YtnfmkedblnajlaaFibC
import Derived.Test.YtnfmkedblnajlaaSpMap
namespace Go.Proofs.Ytnfmkedblnajlaa
set_option linter.unusedVariables false
set_option linter.unusedSimpArgs false
open Go.Sp

/-- A forwarding table: its keys, what each one's hops are, and how often it was written. -/
structure FS where
  L : Tbl
  h : Key → List (Int × Int)
  n : Nat
def FS.get (S : FS) (k : Key) : List (Int × Int) := if (tget S.L k).isSome then S.h k else []
def FS.set (S : FS) (room : Int) (k : Key) (l : List (Int × Int)) : Int × FS :=
  if rightP k.1 k.2 && hopsB l then
    (if (tget S.L k).isNone && decide (room ≤ (S.L.length : Int)) then (13, S) else (0, ⟨tput S.L k 0, fun k' => if k' = k then l else S.h k', S.n + 1⟩))
  else (12, S)
def FS.cut (S : FS) (k : Key) : FS := if (tget S.L k).isSome then ⟨tcut S.L k, S.h, S.n + 1⟩ else S
def FS.match (S : FS) (A : Nat) : Option Key := (onWay S.L A 33).getLast?
def FS.zero : FS := ⟨[], fun _ => [], 0⟩
structure FibIn (w : World) (X : List Nat) (p t r : Nat) (D : List Nat) (es : Ents) (room : Int) (S : FS) : Prop where
  lt : ∀ x ∈ X, x < w.heap.size
  tbl : Blk w p 62 [.int .i64 room, ptr (some t), .map (some r), .int .i64 (S.n : Int)]
  trie : TrieAt w D t S.L
  map : MapAt w r es
  once : Once es
  len : es.length = S.L.length
  few : S.L.length ≤ 4096
  np : p ∉ D
  nr : r ∉ D
  pr : p ≠ r
  inp : p ∈ X
  inr : r ∈ X
  inD : ∀ x ∈ D, x ∈ X
  hop : ∀ k, (tget S.L k).isSome = true → ∃ s : SV, mget es k = some s.v ∧ Rd 2 w s (hvs (S.h k)) ∧ hopsB (S.h k) = true ∧ ∀ x ∈ s.blk, x ∈ X ∧ x ≠ p ∧ x ≠ r ∧ x ∉ D
  hno : ∀ k, (tget S.L k).isSome = false → mget es k = none
/-- It lies in memory, in these blocks. -/
def FibAt (w : World) (X : List Nat) (p : Nat) (room : Int) (S : FS) : Prop := ∃ t r D es, FibIn w X p t r D es room S
theorem FibIn.keep {w w' : World} {X E : List Nat} {p t r : Nat} {D : List Nat} {es : Ents} {room : Int} {S : FS} (F : FibIn w X p t r D es room S) (k : Keeps E w w') (hd : ∀ x ∈ X, x ∉ E) : FibIn w' X p t r D es room S where
  lt := fun x hx => Nat.lt_of_lt_of_le (F.lt x hx) k.size
  tbl := F.tbl.keep k (hd _ F.inp)
  trie := F.trie.keep k (fun x hx => hd _ (F.inD x hx))
  map := F.map.keep k (hd _ F.inr)
  once := F.once
  len := F.len
  few := F.few
  np := F.np
  nr := F.nr
  pr := F.pr
  inp := F.inp
  inr := F.inr
  inD := F.inD
  hop := fun q hq => by
    obtain ⟨s, h1, h2, h3, h4⟩ := F.hop q hq
    exact ⟨s, h1, h2.keep k (fun x hx => hd _ (h4 x hx).1), h3, h4⟩
  hno := F.hno
theorem FibAt.keep {w w' : World} {X E : List Nat} {p : Nat} {room : Int} {S : FS} (F : FibAt w X p room S) (k : Keeps E w w') (hd : ∀ x ∈ X, x ∉ E) : FibAt w' X p room S := by
  obtain ⟨t, r, D, es, F⟩ := F
  exact ⟨t, r, D, es, F.keep k hd⟩
theorem FibAt.lt {w : World} {X : List Nat} {p : Nat} {room : Int} {S : FS} (F : FibAt w X p room S) : ∀ x ∈ X, x < w.heap.size := by
  obtain ⟨t, r, D, es, F⟩ := F
  exact F.lt
theorem hopsB_len {l : List (Int × Int)} (h : hopsB l = true) : l.length ≤ 16 := by
  unfold hopsB at h
  simp only [Bool.and_eq_true, decide_eq_true_eq] at h
  exact h.2
set_option maxRecDepth 100000 in
theorem mapU : Try.prog.underlying 60 = some (.map 33 28) := rfl
theorem FibIn.look {w : World} {X : List Nat} {p t r : Nat} {D : List Nat} {es : Ents} {room : Int} {S : FS} (F : FibIn w X p t r D es room S) (k : Key) :
    ∃ s : SV, (Instr.lookup 60 (.map (some r)) (kv k) true).run Try.prog w = .ok (.tuple #[s.v, .bool (tget S.L k).isSome]) w ∧ (Instr.lookup 60 (.map (some r)) (kv k) false).run Try.prog w = .ok s.v w ∧
      Rd 2 w s (hvs (S.get k)) ∧ (S.get k).length ≤ 16 := by
  have hl := look_ok (w := w) (r := r) keyT mapU F.map k (z := SV.nil.v) rfl
  unfold FS.get
  cases hs : (tget S.L k).isSome with
  | true =>
    obtain ⟨s, h1, h2, h3, _⟩ := F.hop k hs
    rw [h1] at hl
    exact ⟨s, hl.1, hl.2, h2, hopsB_len h3⟩
  | false =>
    have h1 := F.hno k hs
    rw [h1] at hl
    exact ⟨SV.nil, hl.1, hl.2, Rd.nil _ _, by simp⟩
theorem fnew_c {w : World} (room : Int) : Calls Try.prog 7 #[.int .i64 room] w (R7 fun r e w' => (if 0 ≤ room ∧ room ≤ 4096 then ∃ p X, r = some ⟨p, 0, none⟩ ∧ e = 0 ∧ FibAt w' X p room FS.zero ∧ (∀ x ∈ X, w.heap.size ≤ x) else r = none ∧ e = 1) ∧ Keeps [] w w') := by
  refine F7_ok (M.join_by (fun J => J (!decide (0 ≤ room ∧ room ≤ 4096)) w) ?_ fun J hJ => ?_)
  · refine M.ite_by (fun c => ?_) (fun c => ?_)
    · have c : ¬ (0 ≤ room ∧ room ≤ 4096) := by simp at c; omega
      simp only [if_neg c]
      exact ⟨⟨trivial, trivial⟩, Keeps.refl _ _⟩
    · have c : 0 ≤ room ∧ room ≤ 4096 := by simp at c; omega
      simp only [if_pos c]
      refine tnew_c.mono fun e w1 g => ?_
      obtain ⟨r1, rfl, t, rfl, T1, k1, ht⟩ := g
      refine ⟨_, rfl, M.new_by ?_⟩
      have km := Keeps.alloc [] w1 (.map #[] 0)
      have M2 := MapAt.new w1
      have T2 := T1.keep km (by simp)
      have htl := T1.1 t (by simp)
      have hs2 : (w1.alloc (.map #[] 0)).heap.size = w1.heap.size + 1 := by simp
      generalize w1.alloc (.map #[] 0) = w2 at *
      refine M.new_blk fun p w3 hp B3 k3 => ?_
      have k03 := (k1.trans km (by simp)).trans k3 (by simp)
      have hs1 := k1.size
      refine ⟨⟨p, [p, w1.heap.size, t], rfl, trivial, ⟨t, w1.heap.size, [t], [], ?_⟩, ?_⟩, k03⟩
      · refine ⟨?_, B3, T2.keep k3 (by simp), M2.keep k3 (by simp), List.nodup_nil, rfl, by simp [FS.zero], by simp; omega, by simp; omega, by omega, by simp, by simp, by simp, ?_, fun _ _ => rfl⟩
        · intro x hx
          have := B3.lt
          simp at hx
          rcases hx with rfl | rfl | rfl <;> omega
        · intro k hk
          simp [FS.zero, tget] at hk
      · intro x hx
        simp at hx
        rcases hx with rfl | rfl | rfl <;> omega
  · refine M.ite_by (fun c => ?_) (fun c => ?_)
    · have c := of_decide_eq_true c
      have : ¬ (0 ≤ room ∧ room ≤ 4096) := by omega
      rw [decide_eq_false this] at hJ; exact hJ
    · have c := of_decide_eq_false c
      have : (!decide (0 ≤ room ∧ room ≤ 4096)) = decide (4096 < room) := by
        rw [Bool.eq_iff_iff]; simp; omega
      rw [this] at hJ; exact hJ
theorem fget_c {w : World} {X : List Nat} {p : Nat} {room : Int} {S : FS} (F : FibAt w X p room S) (a : Nat) (n : Int) :
    Calls Try.prog 11 #[.pointer (some ⟨p, 0, none⟩), .agg #[.int .u32 (a : Int), .int .i64 n]] w (R11 fun r ok w' => Rd 2 w' r (hvs (S.get (a, n))) ∧ ok = (tget S.L (a, n)).isSome ∧ (∀ y ∈ r.blk, w.heap.size ≤ y) ∧ Keeps [] w w') := by
  obtain ⟨t, r, D, es, F⟩ := F
  refine F11_ok (M.new_blk fun b2 w1 hb2 B k1 => M.drew_by ?_)
  have kd := Keeps.drew [] w1
  have k2 := k1.trans kd (by simp)
  have B2 := B.keep kd (by simp)
  have F2 := F.keep k2 (by simp)
  obtain ⟨s, l1, _, rd, hl⟩ := F2.look (a, n)
  refine ⟨_, rfl, _, F2.tbl.cell 2, _, B2.cell 0, _, B2.cell 1, s, _, l1, (hclone_c rd (by omega)).mono fun e w3 g => ?_⟩
  obtain ⟨r3, rfl, rd3, f3, k3⟩ := g
  exact ⟨_, rfl, rd3, rfl, fun y hy => Nat.le_trans k2.size (f3 y hy).1, k2.trans k3 (by simp)⟩
theorem flen_c {w : World} {X : List Nat} {p : Nat} {room : Int} {S : FS} (F : FibAt w X p room S) :
    Calls Try.prog 19 #[.pointer (some ⟨p, 0, none⟩)] w (R19 fun r w' => r = (S.L.length : Int) ∧ w' = w) := by
  obtain ⟨t, r, D, es, F⟩ := F
  have hl := mlen_ok mapU F.map 3
  rw [F.len] at hl
  exact F19_ok ⟨_, rfl, _, F.tbl.cell 2, _, hl, rfl, rfl⟩
theorem fwrites_c {w : World} {X : List Nat} {p : Nat} {room : Int} {S : FS} (F : FibAt w X p room S) :
    Calls Try.prog 17 #[.pointer (some ⟨p, 0, none⟩)] w (R17 fun r w' => r = (S.n : Int) ∧ w' = w) := by
  obtain ⟨t, r, D, es, F⟩ := F
  exact F17_ok ⟨_, rfl, _, F.tbl.cell 3, rfl, rfl⟩
theorem fmatch_c {w : World} {X : List Nat} {p : Nat} {room : Int} {S : FS} (F : FibAt w X p room S) {A : Nat} (hA : A < 4294967296) :
    Calls Try.prog 10 #[.pointer (some ⟨p, 0, none⟩), .int .u32 (A : Int)] w (R10 fun r ok w' => Rd 2 w' r (hvs (match S.match A with | some k => S.h k | none => [])) ∧ ok = (S.match A).isSome ∧ (∀ y ∈ r.blk, w.heap.size ≤ y) ∧ Keeps [] w w') := by
  have F0 := F
  obtain ⟨t, r, D, es, F⟩ := F
  refine F10_ok ⟨_, rfl, _, F.tbl.cell 1, (match_c F.trie hA).mono fun e w1 g => ?_⟩
  obtain ⟨x, y, v, ok, rfl, g, k1⟩ := g
  refine ⟨_, _, _, _, rfl, M.new_blk fun b2 w2 hb2 B2 k2 => M.stA_blk B2 rfl fun w3 B3 k3 => ?_⟩
  have k03 : Keeps [] w w3 := (k1.trans k2 (by simp)).trans k3 (by have := k1.size; simp; omega)
  unfold matchT at g
  unfold FS.match
  cases hm : (onWay S.L A 33).getLast? with
  | none =>
    rw [hm] at g
    obtain ⟨rfl, rfl, rfl, rfl⟩ := g
    exact M.ite_tt ⟨Rd.nil _ _, rfl, by simp [SV.blk], k03⟩
  | some k =>
    rw [hm] at g
    obtain ⟨rfl, rfl, rfl, rfl⟩ := g
    refine M.ite_ff ⟨_, B3.cell 0, _, B3.cell 1, (fget_c (F0.keep k03 (by simp)) k.1 k.2).mono fun e w4 g => ?_⟩
    obtain ⟨r4, ok4, rfl, rd4, rfl, f4, k4⟩ := g
    have hk : (tget S.L k).isSome = true := by
      have := List.mem_of_getLast? hm
      unfold onWay at this
      rw [List.mem_map] at this
      obtain ⟨i, hi, rfl⟩ := this
      rw [List.mem_filter] at hi
      exact hi.2
    unfold FS.get at rd4
    rw [show (k.1, k.2) = k from rfl, hk] at rd4 ⊢
    exact ⟨_, _, rfl, rd4, rfl, fun y hy => Nat.le_trans k03.size (f4 y hy), k03.trans k4 (by simp)⟩
theorem fset_c {w : World} {X : List Nat} {p : Nat} {room : Int} {S : FS} (F : FibAt w X p room S) (hroom : room ≤ 4096) (hn : S.n ≤ 1000000) {a : Nat} (ha : a < 4294967296) (n : Int) {s : SV} {l : List (Int × Int)} (hs : Rd 2 w s (hvs l)) (hsX : l ≠ [] → ∀ x ∈ s.blk, x ∉ X) (hl : l.length ≤ 1000000) :
    Calls Try.prog 8 #[.pointer (some ⟨p, 0, none⟩), .agg #[.int .u32 (a : Int), .int .i64 n, s.v]] w (R8 fun r w' => r = (S.set room (a, n) l).1 ∧ ∃ X', FibAt w' X' p room (S.set room (a, n) l).2 ∧ Keeps X w w' ∧ From X w X') := by
  have F0 := F
  obtain ⟨t, r, D, es, F⟩ := F
  refine F8_ok (M.new_blk fun b2 w1 hb2 B k1 => M.drew_by ?_)
  have kd := Keeps.drew [] w1
  have k2 := k1.trans kd (by simp)
  have B2 := B.keep kd (by simp)
  have F2 := F.keep k2 (by simp)
  obtain ⟨s2, l1, _, _, _⟩ := F2.look (a, n)
  refine ⟨_, rfl, _, F2.tbl.cell 2, _, B2.cell 0, _, B2.cell 1, s2, _, l1, _, _, _, B2.cs 0 _ rfl, M.new_blk fun b21 w3 hb21 B21 k3 => ?_⟩
  have k03 := k2.trans k3 (by simp)
  refine (oright_c B21 ha (hs.keep k03 (by simp)) hl).mono fun e w4 g => ?_
  obtain ⟨r4, rfl, rfl, k4⟩ := g
  have k04 := k03.trans k4 (by simp)
  refine ⟨_, rfl, M.ite_by (fun c => ?_) (fun c => ?_)⟩
  · have c : (rightP a n && hopsB l) = false := by cases h : (rightP a n && hopsB l) <;> simp [h] at c ⊢
    have e : S.set room (a, n) l = (12, S) := by unfold FS.set; rw [c]; rfl
    rw [e]
    exact ⟨rfl, X, F0.keep k04 (by simp), k04.up, From.refl _ _⟩
  have c : (rightP a n && hopsB l) = true := by cases h : (rightP a n && hopsB l) <;> simp [h] at c ⊢
  obtain ⟨cr, ch⟩ : rightP a n = true ∧ hopsB l = true := by simpa using c
  have kd4 := Keeps.drew [] w4
  have k05 := k04.trans kd4 (by simp)
  refine M.join_by (fun J => J ((tget S.L (a, n)).isNone && decide (room ≤ (S.L.length : Int))) w4.drew) ?_ fun J hJ => M.drew_by ?_
  rotate_left
  · have F5 := F.keep k05 (by simp)
    refine M.ite_by (fun c1 => ?_) (fun c1 => ?_)
    · have c1 : (tget S.L (a, n)).isNone = true := by cases h : tget S.L (a, n) <;> simp [h] at c1 ⊢
      rw [c1, Bool.true_and] at hJ
      have hlen := mlen_ok mapU F5.map 3
      rw [F5.len] at hlen
      exact ⟨_, rfl, _, rfl, _, F5.tbl.cell 2, _, hlen, _, F5.tbl.cell 0, hJ⟩
    · have c1 : (tget S.L (a, n)).isNone = false := by cases h : tget S.L (a, n) <;> simp [h] at c1 ⊢
      rw [c1, Bool.false_and] at hJ
      exact hJ
  refine M.ite_by (fun c1 => ?_) (fun c1 => ?_)
  · have e : S.set room (a, n) l = (13, S) := by unfold FS.set; rw [c, if_pos rfl, if_pos c1]
    rw [e]
    exact ⟨rfl, X, F0.keep k05 (by simp), k05.up, From.refl _ _⟩
  have c1' : ((tget S.L (a, n)).isNone && decide (room ≤ (S.L.length : Int))) = false := by simpa using c1
  refine M.drew_by ?_
  have e : S.set room (a, n) l = (0, ⟨tput S.L (a, n) 0, fun k' => if k' = (a, n) then l else S.h k', S.n + 1⟩) := by unfold FS.set; rw [c, if_pos rfl, c1']; rfl
  rw [e]
  have kd5 := Keeps.drew [] w4.drew
  have k06 := k05.trans kd5 (by simp)
  have F6 := F.keep k06 (by simp)
  have B6 := B2.keep ((k3.trans k4 (by simp)).trans (kd4.trans kd5 (by simp)) (by simp)) (by simp)
  generalize w4.drew.drew = w6 at *
  have T6 := F6.trie
  refine ⟨_, rfl, _, F6.tbl.cell 1, _, B6.cell 0, _, B6.cell 1, (put_c T6 ha n 0 (by have := F.few; omega)).mono fun e w7 g => ?_⟩
  obtain ⟨r7, rfl, -, D', T7, k7, f7⟩ := g
  rw [cr, if_pos rfl] at T7
  have hb2lt := B6.lt
  have hs06 := k06.size
  have hbD : b2 ∉ D := fun h => by have := F.lt _ (F.inD _ h); omega
  have hbX : b2 ∉ X := fun h => by have := F.lt _ h; omega
  have kd7 := Keeps.drew [] w7
  have B8 := (B6.keep k7 hbD).keep kd7 (by simp)
  have k8 : Keeps D w6 w7.drew := k7.and kd7.up
  have k08 : Keeps X w w7.drew := (k06.up).trans k8 (fun x hx => .inl (F.inD x hx))
  have tb8 := F6.tbl.keep k8 F.np
  have T8 := T7.keep kd7 (by simp)
  have hs8 := k8.size
  -- the hops are copied
  have hs9 : Rd 2 w7.drew s (hvs l) := hs.keep' k08 (fun hne => hsX (fun h => hne (by rw [h]; rfl)))
  refine ⟨_, rfl, M.drew_by ?_⟩
  generalize w7.drew = w8 at *
  refine ⟨_, rfl, _, tb8.cell 2, _, B8.cell 0, _, B8.cell 1, _, B8.cell 2, (hclone_c hs9 hl).mono fun e w9 g => ?_⟩
  obtain ⟨s9, rfl, rd9, f9, k9⟩ := g
  have B9 := B8.keep k9 (by simp)
  have tb9 := tb8.keep k9 (by simp)
  have m9 := (F6.map.keep k8 F6.nr).keep k9 (by simp)
  obtain ⟨w10, u10, m10, k10⟩ := upd_ok keyT mapU m9 (a, n) s9.v
  have hrp : p ∉ [r] := by simp; exact F.pr
  have tb10 := tb9.keep k10 hrp
  refine ⟨_, rfl, B9.cell 0, B9.cell 1, tb9.cell 2, w10, u10, _, rfl, _, tb10.cell 3, _, rfl, M.st_blk tb10 (by simp) fun w11 tb11 k11 => ⟨rfl, X ++ D' ++ s9.blk, ⟨t, r, D', mset es (a, n) s9.v, ?_⟩, ?_, ?_⟩⟩
  · have hs9 := k9.size
    have hs10 := k10.size
    have hs11 := k11.size
    have hs6 := k7.size
    have hrD' : r ∉ D' := fun h => by
      rcases f7 r h with h | h
      · exact F.nr h
      · have := F.lt _ F.inr; omega
    have hpD' : p ∉ D' := fun h => by
      rcases f7 p h with h | h
      · exact F.np h
      · have := F.lt _ F.inp; omega
    have T9 := (T8.keep k9 (by simp)).keep k10 (fun x hx h => by simp at h; subst h; exact hrD' hx)
    have hget : ∀ k, tget (tput S.L (a, n) 0) k = if (a, n) = k then some 0 else tget S.L k := fun k => tget_tput _ _ _ _
    have hmg := mget_mset es (a, n)
    have hml := mset_len es (a, n) s9.v
    have htl : (tput S.L (a, n) 0).length = if (tget S.L (a, n)).isSome then S.L.length else S.L.length + 1 := by
      obtain ⟨_, ad, hs, vs, _, _, hL⟩ := F.trie
      exact tput_len hL.sorted _ _
    have hsame : (mget es (a, n)).isSome = (tget S.L (a, n)).isSome := by
      cases hh : (tget S.L (a, n)).isSome with
      | true => obtain ⟨s, h1, _⟩ := F.hop _ hh; rw [h1]; rfl
      | false => rw [F.hno _ hh]; rfl
    refine ⟨?_, ?_, T9.keep k11 (fun x hx h => by simp at h; subst h; exact hpD' hx), m10.keep k11 (by simp; exact Ne.symm F.pr), F.once.mset _ _, ?_, ?_, hpD', hrD', F.pr, by simp [F.inp], by simp [F.inr], fun x hx => by simp [hx], ?_, ?_⟩
    · intro x hx
      simp only [List.mem_append] at hx
      rcases hx with (hx | hx) | hx
      · have := F.lt x hx; omega
      · have := T8.1 x hx; omega
      · have := (f9 x hx).2; omega
    · have e3 : IntKind.i64.wrap ((S.n : Int) + 1) = ((S.n + 1 : Nat) : Int) := by rw [w64 (by omega) (by omega)]; omega
      rw [e3] at tb11
      exact tb11
    · rw [hml, hsame, htl, F.len]
    · rw [htl]
      have := F.few
      split
      · exact this
      · rename_i hh
        have hh : (tget S.L (a, n)).isNone = true := by cases h : tget S.L (a, n) <;> simp [h] at hh ⊢
        rw [hh, Bool.true_and] at c1'
        have := of_decide_eq_false c1'
        omega
    · intro k hk
      show ∃ s : SV, mget (mset es (a, n) s9.v) k = some s.v ∧ Rd 2 w11 s (hvs (if k = (a, n) then l else S.h k)) ∧ hopsB (if k = (a, n) then l else S.h k) = true ∧ _
      rw [hmg]
      by_cases hka : k = (a, n)
      · subst hka
        rw [if_pos rfl, if_pos rfl]
        refine ⟨s9, rfl, (rd9.keep k10 ?_).keep k11 ?_, ch, ?_⟩
        · intro x hx h
          simp at h; subst h
          have := (f9 x hx).1; have := F.lt _ F.inr; omega
        · intro x hx h
          simp at h; subst h
          have := (f9 x hx).1; have := F.lt _ F.inp; omega
        · intro x hx
          have h9 := (f9 x hx).1
          have := F.lt _ F.inp
          have := F.lt _ F.inr
          refine ⟨by simp [hx], by omega, by omega, fun h => ?_⟩
          have := T8.1 x h; omega
      · rw [if_neg hka, if_neg (fun h => hka h.symm)]
        have hk' : (tget S.L k).isSome = true := by
          have := hget k
          rw [if_neg (fun h => hka h.symm)] at this
          rw [← this]; exact hk
        obtain ⟨s, h1, h2, h3, h4⟩ := F6.hop k hk'
        refine ⟨s, h1, (((h2.keep k8 (fun x hx => (h4 x hx).2.2.2)).keep k9 (by simp)).keep k10 (fun x hx h => (h4 x hx).2.2.1 (by simpa using h))).keep k11 (fun x hx h => (h4 x hx).2.1 (by simpa using h)), h3, fun x hx => ?_⟩
        obtain ⟨g1, g2, g3, g4⟩ := h4 x hx
        refine ⟨by simp [g1], g2, g3, fun h => ?_⟩
        rcases f7 x h with h | h
        · exact g4 h
        · have := F.lt x g1; omega
    · intro k hk
      have hk : (tget (tput S.L (a, n) 0) k).isSome = false := hk
      rw [hget] at hk
      rw [hmg]
      by_cases hka : (a, n) = k
      · rw [if_pos hka] at hk; cases hk
      · rw [if_neg hka] at hk ⊢
        exact F.hno k hk
  · have k09 : Keeps X w w9 := k08.trans k9 (by simp)
    have k010 : Keeps X w w10 := k09.trans k10 (fun x hx => by simp at hx; subst hx; exact .inl F.inr)
    exact k010.trans k11 (fun x hx => by simp at hx; subst hx; exact .inl F.inp)
  · intro x hx
    have hs7 := k7.size
    simp only [List.mem_append] at hx
    rcases hx with (hx | hx) | hx
    · exact .inl hx
    · rcases f7 x hx with h | h
      · exact .inl (F.inD x h)
      · right; omega
    · have := (f9 x hx).1
      right; omega
theorem FibIn.same {w : World} {X : List Nat} {p t r : Nat} {D : List Nat} {es : Ents} {room : Int} {S : FS} (F : FibIn w X p t r D es room S) (k : Key) : (mget es k).isSome = (tget S.L k).isSome := by
  cases hh : (tget S.L k).isSome with
  | true => obtain ⟨s, h1, _⟩ := F.hop _ hh; rw [h1]; rfl
  | false => rw [F.hno _ hh]; rfl
theorem fcut_c {w : World} {X : List Nat} {p : Nat} {room : Int} {S : FS} (F : FibAt w X p room S) (hn : S.n ≤ 1000000) {a : Nat} (ha : a < 4294967296) (n : Int) :
    Calls Try.prog 20 #[.pointer (some ⟨p, 0, none⟩), .agg #[.int .u32 (a : Int), .int .i64 n]] w (R20 fun r w' => r = (tget S.L (a, n)).isSome ∧ ∃ X', FibAt w' X' p room (S.cut (a, n)) ∧ Keeps X w w' ∧ From X w X') := by
  have F0 := F
  obtain ⟨t, r, D, es, F⟩ := F
  refine F20_ok (M.new_blk fun b2 w1 hb2 B k1 => M.drew_by ?_)
  have kd := Keeps.drew [] w1
  have k2 := k1.trans kd (by simp)
  have B2 := B.keep kd (by simp)
  have F2 := F.keep k2 (by simp)
  obtain ⟨s2, l1, _, _, _⟩ := F2.look (a, n)
  refine ⟨_, rfl, _, F2.tbl.cell 2, _, B2.cell 0, _, B2.cell 1, s2, _, l1, ?_⟩
  unfold FS.cut
  cases hk : (tget S.L (a, n)).isSome with
  | false => exact M.ite_tt ⟨rfl, X, F0.keep k2 (by simp), k2.up, From.refl _ _⟩
  | true =>
    refine M.ite_ff (M.drew_by ?_)
    have kd2 := Keeps.drew [] w1.drew
    have k3 := k2.trans kd2 (by simp)
    have F3 := F.keep k3 (by simp)
    have B3 := B2.keep kd2 (by simp)
    generalize w1.drew.drew = w3 at *
    refine ⟨_, rfl, _, F3.tbl.cell 1, _, B3.cell 0, _, B3.cell 1, (cut_t F3.trie ha n (by have := F.few; omega)).mono fun e w4 g => ?_⟩
    obtain ⟨r4, rfl, -, T4, k4⟩ := g
    have hb2lt := B.lt
    have hbD : b2 ∉ D := fun h => by have := F.lt _ (F.inD _ h); omega
    have hbX : b2 ∉ X := fun h => by have := F.lt _ h; omega
    have kd4 := Keeps.drew [] w4
    have k5 : Keeps D w3 w4.drew := k4.and kd4.up
    have B5 := B3.keep k5 hbD
    have tb5 := F3.tbl.keep k5 F.np
    have m5 := F3.map.keep k5 F.nr
    have T5 := T4.keep kd4 (by simp)
    refine ⟨_, rfl, M.drew_by ?_⟩
    generalize w4.drew = w5 at *
    obtain ⟨w6, u6, m6, k6⟩ := del_ok keyT mapU m5 (a, n) 33 0
    have tb6 := tb5.keep k6 (by simp; exact F.pr)
    refine ⟨_, rfl, _, tb5.cell 2, _, B5.cell 0, _, B5.cell 1, w6, u6, _, rfl, _, tb6.cell 3, _, rfl, M.st_blk tb6 (by simp) fun w7 tb7 k7 => ⟨rfl, X, ⟨t, r, D, mdel es (a, n), ?_⟩, ?_, From.refl _ _⟩⟩
    · have T6 := T5.keep k6 (fun x hx h => by simp at h; subst h; exact F.nr hx)
      have hmg := mget_mdel F.once (a, n)
      have hml := mdel_len es (a, n)
      rw [F.same, hk, if_pos rfl] at hml
      have htl : (tcut S.L (a, n)).length + 1 = S.L.length := by
        obtain ⟨_, ad, hs, vs, _, _, hL⟩ := F.trie
        have := tcut_len hL.sorted (a, n)
        rw [hk, if_pos rfl] at this; exact this
      have hfl := F.len
      have hff := F.few
      refine ⟨?_, ?_, T6.keep k7 (fun x hx h => by simp at h; subst h; exact F.np hx), m6.keep k7 (by simp; exact Ne.symm F.pr), F.once.mdel _, ?_, ?_, F.np, F.nr, F.pr, F.inp, F.inr, F.inD, ?_, ?_⟩
      · intro x hx
        have := F.lt x hx
        have := k3.size; have := k5.size; have := k6.size; have := k7.size
        omega
      · have e3 : IntKind.i64.wrap ((S.n : Int) + 1) = ((S.n + 1 : Nat) : Int) := by rw [w64 (by omega) (by omega)]; omega
        rw [e3] at tb7
        exact tb7
      · show (mdel es (a, n)).length = (tcut S.L (a, n)).length
        omega
      · show (tcut S.L (a, n)).length ≤ 4096
        omega
      · intro k hk
        have hk : (tget (tcut S.L (a, n)) k).isSome = true := hk
        rw [tget_tcut] at hk
        show ∃ s : SV, mget (mdel es (a, n)) k = some s.v ∧ _
        rw [hmg]
        by_cases hka : (a, n) = k
        · rw [if_pos hka] at hk; cases hk
        · rw [if_neg hka] at hk ⊢
          obtain ⟨s, h1, h2, h3, h4⟩ := F3.hop k hk
          exact ⟨s, h1, ((h2.keep k5 (fun x hx => (h4 x hx).2.2.2)).keep k6 (fun x hx h => (h4 x hx).2.2.1 (by simpa using h))).keep k7 (fun x hx h => (h4 x hx).2.1 (by simpa using h)), h3, h4⟩
      · intro k hk
        have hk : (tget (tcut S.L (a, n)) k).isSome = false := hk
        rw [tget_tcut] at hk
        rw [hmg]
        by_cases hka : (a, n) = k
        · rw [if_pos hka]
        · rw [if_neg hka] at hk ⊢
          exact F.hno k hk
    · have k05 : Keeps X w w5 := (k3.up).trans k5 (fun x hx => .inl (F.inD x hx))
      have k06 : Keeps X w w6 := k05.trans k6 (fun x hx => by simp at hx; subst hx; exact .inl F.inr)
      exact k06.trans k7 (fun x hx => by simp at hx; subst hx; exact .inl F.inp)
theorem froom_c {w : World} {X : List Nat} {p : Nat} {room : Int} {S : FS} (F : FibAt w X p room S) (room' : Int) :
    Calls Try.prog 35 #[.pointer (some ⟨p, 0, none⟩), .int .i64 room'] w (R35 fun w' => FibAt w' X p (min (max room' 0) 4096) S ∧ Keeps X w w') := by
  obtain ⟨t, r, D, es, F⟩ := F
  refine F35_ok ⟨_, rfl, M.st_blk0 F.tbl fun w1 tb1 k1 => ⟨⟨t, r, D, es, ?_⟩, k1.mono (fun x hx => by simp at hx; subst hx; exact .inl F.inp)⟩⟩
  refine ⟨fun x hx => Nat.lt_of_lt_of_le (F.lt x hx) k1.size, tb1, F.trie.keep k1 (fun x hx h => by simp at h; subst h; exact F.np hx), F.map.keep k1 (by simp; exact Ne.symm F.pr), F.once, F.len, F.few, F.np, F.nr, F.pr, F.inp, F.inr, F.inD, fun k hk => ?_, F.hno⟩
  obtain ⟨s, h1, h2, h3, h4⟩ := F.hop k hk
  exact ⟨s, h1, h2.keep k1 (fun x hx h => (h4 x hx).2.1 (by simpa using h)), h3, h4⟩
end Go.Proofs.Ytnfmkedblnajlaa
