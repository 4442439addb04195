/-
  Both tables side by side.
-/
import Derived.Test.YtnfmkedblnajlaaFibQ
namespace Go.Proofs.Ytnfmkedblnajlaa
set_option linter.unusedVariables false
set_option linter.unusedSimpArgs false
open Go.Sp
open Go.RowKit (Below)

theorem FibAt.tab {w : World} {X : List Nat} {p : Nat} {room : Int} {S : FS} (F : FibAt w X p room S) : Tab S.L := by
  obtain ⟨t, r, D, es, F⟩ := F
  obtain ⟨_, _, _, _, _, _, h⟩ := F.trie
  exact h
theorem FibAt.few {w : World} {X : List Nat} {p : Nat} {room : Int} {S : FS} (F : FibAt w X p room S) : S.L.length ≤ 4096 := by
  obtain ⟨t, r, D, es, F⟩ := F
  exact F.few
theorem FibAt.hops {w : World} {X : List Nat} {p : Nat} {room : Int} {S : FS} (F : FibAt w X p room S) : ∀ k, (tget S.L k).isSome = true → hopsB (S.h k) = true := fun k hk => by
  obtain ⟨t, r, D, es, F⟩ := F
  obtain ⟨_, _, _, h, _⟩ := F.hop k hk
  exact h
/-- Both tables. -/
structure FPair (n0 : Nat) (w : World) (X R : List Nat) (p q : Nat) (room : Int) (S : FS) (m : List En) : Prop where
  a : FibAt w X p room S
  b : PAt w q R room m S.n
  eq : m.map enf = S.all
  qX : q ∉ X
  dis : ∀ x ∈ R, x ∉ X
  ax : ∀ x ∈ X, n0 ≤ x
  aq : n0 ≤ q
  rm : 0 ≤ room ∧ room ≤ 4096
theorem FPair.new {n0 : Nat} {w w' : World} {X R : List Nat} {p q : Nat} {room : Int} {S : FS} {m : List En} (h : FPair n0 w X R p q room S m) (k : Keeps [] w w') : FPair n0 w' X R p q room S m :=
  ⟨h.a.keep k (by simp), h.b.keep k (by simp) (by simp), h.eq, h.qX, h.dis, h.ax, h.aq, h.rm⟩
theorem FPair.len {n0 : Nat} {w : World} {X R : List Nat} {p q : Nat} {room : Int} {S : FS} {m : List En} (h : FPair n0 w X R p q room S m) : m.length = S.L.length := by
  have := congrArg List.length h.eq
  simpa [FS.all] using this
def Fr (D : List Nat) (w w' : World) (D' : List Nat) : Prop := Keeps D w w' ∧ From D w D'
theorem Fr.then {D D' : List Nat} {w w' w'' : World} (h : Fr D w w' D') (k : Keeps [] w' w'') : Fr D w w'' D' := ⟨h.1.trans k (by simp), h.2⟩
theorem doStep_mem (e : En) : ∀ (l : List En) (acc : List En × Bool) (z : En), z ∈ (l.foldl (doStep e) acc).1 → z ∈ acc.1 ∨ z ∈ l ∨ z = e
  | [], acc, z, h => .inl h
  | y :: l, acc, z, h => by
    rcases doStep_mem e l (doStep e acc y) z h with h | h | h
    · unfold doStep at h
      dsimp only at h
      have : z ∈ (if !acc.2 && decide (kLt e.1 y.1) then (acc.1 ++ [e], true) else acc).1 → z ∈ acc.1 ∨ z = e := by
        split
        · intro h; simpa using h
        · exact .inl
      split at h
      · rcases this h with h | h
        · exact .inl h
        · exact .inr (.inr h)
      · rcases List.mem_append.1 h with h | h
        · rcases this h with h | h
          · exact .inl h
          · exact .inr (.inr h)
        · simp at h; subst h; exact .inr (.inl (by simp))
    · exact .inr (.inl (by simp [h]))
    · exact .inr (.inr h)
theorem doA_mem {cut : Bool} {e : En} {l : List En} {z : En} (h : z ∈ doA cut e l) : z ∈ l ∨ z = e := by
  unfold doA at h
  dsimp only at h
  have key : z ∈ (l.foldl (doStep e) ([], cut)).1 → z ∈ l ∨ z = e := fun h => by
    rcases doStep_mem e l ([], cut) z h with h | h
    · simp at h
    · exact h
  split at h
  · exact key h
  · rcases List.mem_append.1 h with h | h
    · exact key h
    · simp at h; exact .inr h
/-- Do, on the played table. -/
theorem play_c {w : World} {q : Nat} {R : List Nat} {room : Int} {m : List En} {n : Nat} (P : PAt w q R room m n) (ht : ∀ x ∈ m, x.1.1 < 4294967296 ∧ rightP x.1.1 x.1.2 = true) (hb : m.length ≤ 4100) (hn : n ≤ 1000000) {e : En} {r : SV} {w2 : World} {cut : Bool}
    (hr : Rd 3 w2 r ((doA cut e m).flatMap env)) (hrb : ∀ y ∈ r.blk, w.heap.size ≤ y ∧ y < w2.heap.size) (k2 : Keeps [] w w2) (he : Rd 2 w2 e.2.1 (hvs e.2.2)) (hel : e.2.2.length ≤ 1000) (heq : cut = false → e.2.2 ≠ [] → ∀ y ∈ e.2.1.blk, y ≠ q ∧ y < w2.heap.size)
    (hmem : cut = true → ∀ z ∈ doA cut e m, z ∈ m) {K : World → Prop} (h : ∀ w', PAt w' q (r.blk ++ (if e.2.2 = [] then [] else if cut then [] else e.2.1.blk) ++ R) room (doA cut e m) (n + 1) → Keeps [q] w2 w' → K w') :
    M.nil (some ⟨q, 0, none⟩) fun a => M.st a r.v w2 fun w3 => M.nil (some ⟨q, 0, none⟩) fun a2 => M.ld (Value.int .i64) (a2.add 2) w3 fun t => M.nil (some ⟨q, 0, none⟩) fun a3 => M.st (a3.add 2) (Value.int .i64 (IntKind.i64.wrap (t + 1))) w3 K := by
  obtain ⟨h1, h2, h3, s, Q, hs, h6, h7⟩ := P
  have hs2 := k2.size
  refine ⟨_, rfl, M.st_blk0 (Q.keep k2 (by simp)) fun w3 Q3 k3 => ⟨_, rfl, _, Q3.cell 2, _, rfl, M.st_blk Q3 (by simp) fun w4 Q4 k4 => h w4 ⟨?_, ?_, ?_, r, ?_, ?_, ?_, ?_⟩ (k3.and k4)⟩⟩
  · have := k3.size; have := k4.size; omega
  · intro hq
    simp only [List.mem_append] at hq
    rcases hq with (hq | hq) | hq
    · have := (hrb q hq).1; omega
    · split at hq
      · simp at hq
      · rename_i hne
        split at hq
        · simp at hq
        · rename_i hc
          exact (heq (by simpa using hc) hne q hq).1 rfl
    · exact h2 hq
  · intro x hx
    have := k3.size; have := k4.size
    simp only [List.mem_append] at hx
    rcases hx with (hx | hx) | hx
    · have := (hrb x hx).2; omega
    · split at hx
      · simp at hx
      · rename_i hne
        split at hx
        · simp at hx
        · rename_i hc
          have := (heq (by simpa using hc) hne x hx).2; omega
    · have := h3 x hx; omega
  · have e3 : IntKind.i64.wrap ((n : Int) + 1) = ((n + 1 : Nat) : Int) := by rw [w64 (by omega) (by omega)]; omega
    rw [e3] at Q4
    exact Q4
  · have hEn : EnAt w2 r (doA cut e m) := ⟨hr, fun z hz => by
      rcases doA_mem hz with hz | hz
      · exact ⟨(hs.2 z hz).1.keep k2 (by simp), (hs.2 z hz).2⟩
      · subst hz; exact ⟨he, hel⟩⟩
    refine hEn.keep (k3.and k4) (fun _ y hy hq => ?_) (fun z hz hne y hy hq => ?_)
    · simp at hq; subst hq
      have := (hrb _ hy).1; omega
    · simp at hq; subst hq
      have key : z ∈ m → False := fun hz => h2 (h7 z hz hne _ hy)
      rcases doA_mem hz with hz2 | hz2
      · exact key hz2
      · subst hz2
        cases hc : cut with
        | true => subst hc; exact key (hmem rfl _ hz)
        | false => exact (heq hc hne _ hy).1 rfl
  · intro _ y hy; simp [hy]
  · intro z hz hne y hy
    simp only [List.mem_append]
    rcases doA_mem hz with hz2 | hz2
    · exact .inr (h7 z hz2 hne y hy)
    · subst hz2
      cases hc : cut with
      | true => subst hc; exact .inr (h7 _ (hmem rfl _ hz) hne y hy)
      | false => left; right; rw [if_neg hne]; simpa using hy
theorem fdo_c {n0 : Nat} {w : World} {X R : List Nat} {p q : Nat} {room : Int} {S : FS} {m : List En} (T : FPair n0 w X R p q room S m) (hn : S.n ≤ 900000) (hn0 : n0 ≤ w.heap.size) {x : As} (hA : x.A < 4294967296) (hN : -9223372036854775808 ≤ x.N ∧ x.N ≤ 9223372036854775807) (hx : Rd 2 w x.s (hvs x.l)) (hxX : x.l ≠ [] → ∀ y ∈ x.s.blk, y ∉ X ∧ y ≠ q) :
    Calls Try.prog 21 #[.pointer (some ⟨p, 0, none⟩), .pointer (some ⟨q, 0, none⟩), .agg #[.int .i64 x.kind, .int .i64 x.N, .int .i64 x.Ln, .int .u32 (x.A : Int), x.s.v, .bool x.few]] w (R21 fun r w' => r = true ∧ ∃ X' R' room' S' m', Fr (q :: X) w w' (q :: X') ∧ FPair n0 w' X' R' p q room' S' m' ∧ S'.n ≤ S.n + 1) := by
  have hfew := T.a.few
  have hml := T.len
  have hTab := T.a.tab
  have hhop := T.a.hops
  have hmt : ∀ z ∈ m, z.1.1 < 4294967296 ∧ rightP z.1.1 z.1.2 = true := fun z hz => by
    obtain ⟨i, hi, he⟩ := List.getElem_of_mem hz
    obtain ⟨_, _, v, hv⟩ := ent_at T.eq (List.getElem?_eq_getElem hi)
    rw [he] at hv
    exact hTab.right _ (List.mem_of_getElem? hv)
  refine F21_ok (M.new_blk fun b2 w1 hb2 B k1 => ⟨_, _, _, _, _, _, B.cs 0 _ rfl, (fentry_c x.kind x.N x.Ln x.A x.few (hx.keep k1 (by simp))).mono fun e w2 g => ?_⟩)
  obtain ⟨x2, y2, t2, rfl, rfl, rfl, rd2, f2, k2⟩ := g
  have hen : (askEn x.few x.N x.Ln x.A x.l).1.1 < 4294967296 ∧ (askEn x.few x.N x.Ln x.A x.l).2.length ≤ 18 ∧ ((askEn x.few x.N x.Ln x.A x.l).2 ≠ [] → x.few = false → x.l ≠ []) := by
    unfold askEn
    cases x.few with
    | true => exact ⟨kp_lt _ _, by show (if _ then _ else _ : List (Int × Int)).length ≤ 18; split <;> simp, fun _ h => by cases h⟩
    | false => exact ⟨hA, by simp; omega, fun h _ hl => h (by rw [hl]; rfl)⟩
  obtain ⟨q1, q2, q3⟩ := hen
  generalize askEn x.few x.N x.Ln x.A x.l = en at *
  have k02 := k1.trans k2 (by simp)
  have hs1 := k1.size
  have hs2 := k2.size
  have hXl := T.a.lt
  have hql := T.b.1
  -- where the hops lie
  have hen2 : en.2 ≠ [] → ∀ y ∈ t2.blk, y ∉ X ∧ y ≠ q ∧ y < w2.heap.size := fun hne y hy => by
    have hlt := rd2.blk_lt (fun h => hne (by have := hvs_len en.2; rw [h] at this; exact List.eq_nil_of_length_eq_zero (by simp at this; omega))) y hy
    rcases f2 y hy with ⟨h1, h2⟩ | h
    · have := hxX (q3 hne h1) y h2
      exact ⟨this.1, this.2, hlt⟩
    · exact ⟨fun hX => by have := hXl y hX; omega, by omega, hlt⟩
  refine ⟨_, _, _, rfl, M.new_blk fun b3 w3 hb3 C3 k3 => M.stA_blk C3 rfl fun w4 C4 k4 => ?_⟩
  have C4 : Blk w4 b3 35 (env (en.1, t2, en.2)) := C4
  have k24 : Keeps [] w2 w4 := k3.trans k4 (by simp; omega)
  have k04 := k02.trans k24 (by simp)
  have T4 := T.new k04
  have B4 := (B.keep k2 (by simp)).keep k24 (by simp)
  have rd4 := rd2.keep k24 (by simp)
  have hb2l := B.lt
  have hb3l := C4.lt
  have hs4 := k04.size
  have hs24 := k24.size
  refine ⟨_, C4.cell 0, _, C4.cell 1, (fat_c T4.b (by omega) en.1.1 en.1.2).mono fun e w5 g => ?_⟩
  obtain ⟨r5, rfl, h5, k5⟩ := g
  have hkey : ((en.1.1, en.1.2) : Key) = en.1 := rfl
  rw [hkey] at h5
  have hpos : decide ((0 : Int) ≤ r5) = (tget S.L en.1).isSome := by
    rcases h5 with ⟨rfl, hno⟩ | ⟨i, z, rfl, hz, he⟩
    · cases hh : (tget S.L en.1).isSome with
      | false => rfl
      | true =>
        obtain ⟨i, z, hi, hz, he⟩ := ent_of T.eq hh
        exact absurd he (hno z (List.mem_of_getElem? hz))
    · rw [← he, (ent_at T.eq hz).1]; simp
  have T5 := T4.new k5
  have B5 := B4.keep k5 (by simp)
  have C5 := C4.keep k5 (by simp)
  have rd5 := rd4.keep k5 (by simp)
  have hs5 := k5.size
  have k05 := k04.trans k5 (by simp)
  have hb2X : b2 ∉ q :: X := fun h => by
    rcases List.mem_cons.1 h with h | h
    · omega
    · have := hXl _ h; omega
  have hb3X : b3 ∉ q :: X := fun h => by
    rcases List.mem_cons.1 h with h | h
    · omega
    · have := hXl _ h; omega
  have hqX : ∀ y ∈ [q], y ∈ q :: X := by simp
  have hXX : ∀ y ∈ X, y ∈ q :: X := fun y hy => by simp [hy]
  refine ⟨_, rfl, _, B5.cell 0, ?_⟩
  refine M.join_by (fun (J : World → Prop) => ∀ w' X' R' room' S' m', Fr (q :: X) w5 w' (q :: X') → Blk w' b3 35 (env (en.1, t2, en.2)) → FPair n0 w' X' R' p q room' S' m' → S'.n ≤ S.n + 1 → J w') (fun w6 X6 R6 room6 S6 m6 l6 C6 T6 hn6 => ?_) fun J hJ => ?_
  · -- what the table tells of it
    have hfew6 := T6.a.few
    have hml6 := T6.len
    refine ⟨_, C6.cell 0, _, C6.cell 1, (fget_c T6.a en.1.1 en.1.2).mono fun e w7 g => ?_⟩
    obtain ⟨r7, ok7, rfl, rd7, rfl, f7, k7⟩ := g
    rw [hkey] at rd7 ⊢
    have T7 := T6.new k7
    have C7 := C6.keep k7 (by simp)
    refine ⟨_, _, rfl, _, C7.cell 0, _, C7.cell 1, (fat_c T7.b (by omega) en.1.1 en.1.2).mono fun e w8 g => ?_⟩
    obtain ⟨r8, rfl, h8, k8⟩ := g
    rw [hkey] at h8
    have T8 := T7.new k8
    have kd := Keeps.drew [] w8
    have T9 := T8.new kd
    have k69 := (k7.trans k8 (by simp)).trans kd (by simp)
    refine ⟨_, rfl, M.join_by (fun (J : Bool → World → Prop) => ∀ w', Keeps [] w6 w' → J true w') (fun w' k' => ⟨rfl, X6, R6, room6, S6, m6, ⟨(k05.up.trans l6.1 (fun y hy => .inl hy)).trans k' (by simp), fun y hy => by
      rcases l6.2 y hy with h | h
      · exact .inl h
      · right; have := k05.size; omega⟩, T6.new k', hn6⟩) fun J hJ => M.drew_by ?_⟩
    have hend : ∀ (K : World → Prop) (w' : World), Keeps [] w6 w' → K w' → True := fun _ _ _ _ => trivial
    obtain ⟨h1, h2, h3, s, Q, hs, h6, h7⟩ := T9.b
    have hsl := hs.len
    have hlen : ((S6.L.length : Int) == (s.len : Int)) = true := by rw [hsl, hml6]; simp
    have hfin : ∀ w', Keeps [] w8.drew w' → M.nil (some ⟨q, 0, none⟩) fun a => M.ld SV.v a w' fun t => Calls Try.prog 19 #[.pointer (some ⟨p, 0, none⟩)] w' (R19 fun r w'' => M.keep (w''.cell? a = some (SV.v t)) <| M.ite (r == (t.len : Int)) (M.nil (some ⟨q, 0, none⟩) fun a2 => M.ld (Value.int .i64) (a2.add 2) w'' fun t2 => Calls Try.prog 17 #[.pointer (some ⟨p, 0, none⟩)] w'' (R17 fun r2 w3 => M.keep (w3.cell? (a2.add 2) = some (Value.int .i64 t2)) <| J (r2 == t2) w3)) (J false w'')) := by
      intro w' k'
      have Q' := Q.keep k' (by simp)
      refine ⟨_, rfl, _, Q'.cell 0, (flen_c (T9.a.keep k' (by simp))).mono fun e w'' g => ?_⟩
      obtain ⟨r, rfl, rfl, hw⟩ := g
      obtain rfl := hw.symm
      refine ⟨_, rfl, Q'.cell 0, M.ite_y hlen ⟨_, rfl, _, Q'.cell 2, (fwrites_c (T9.a.keep k' (by simp))).mono fun e w3 g => ?_⟩⟩
      obtain ⟨r, rfl, rfl, hw⟩ := g
      obtain rfl := hw.symm
      refine ⟨_, rfl, Q'.cell 2, ?_⟩
      have := hJ w' (k69.trans k' (by simp))
      simpa using this
    rcases h8 with ⟨rfl, hno⟩ | ⟨i, z, rfl, hz, he⟩
    · have hg : (tget S6.L en.1).isSome = false := by
        cases hh : (tget S6.L en.1).isSome with
        | false => rfl
        | true =>
          obtain ⟨i, z, hi, hz, he⟩ := ent_of T6.eq hh
          exact absurd he (hno z (List.mem_of_getElem? hz))
      rw [hg]
      exact M.ite_y rfl (M.ite_tt (hfin _ (Keeps.refl _ _)))
    · obtain ⟨g1, g2, _⟩ := ent_at T6.eq hz
      rw [he] at g1 g2
      rw [g1]
      obtain ⟨hil, _⟩ := List.getElem?_eq_some_iff.1 hz
      obtain ⟨a, ha⟩ := hs.1.some (by omega)
      have e2 := rows_at env3 hs.1 ha hz (j := 2) (v := z.2.1.v) rfl
      unfold FS.get at rd7
      rw [g1, if_pos rfl, g2] at rd7
      obtain ⟨z1, z2⟩ := hs.2 z (List.mem_of_getElem? hz)
      refine M.ite_y (by simp) (M.ite_ff ⟨_, rfl, _, Q.cell 0, a, ha, by omega, by omega, _, e2, (hsame_c (rd7.keep (k8.trans kd (by simp)) (by simp)) z1 (by omega)).mono fun e w10 g => ?_⟩)
      obtain ⟨r10, rfl, rfl, k10⟩ := g
      exact ⟨_, rfl, M.ite_y (by simp) (hfin _ k10)⟩
  · refine M.ite_by (fun c => ?_) (fun c => ?_)
    · -- a write
      have hset : S.set room en.1 en.2 = S.set room en.1 en.2 := rfl
      refine M.join_by (fun (J2 : Int → World → Prop) => ∀ w' R' m', PAt w' q R' room m' (S.set room en.1 en.2).2.n → m'.map enf = (S.set room en.1 en.2).2.all → (∀ y ∈ R', y ∉ X ∧ y < w'.heap.size) → Keeps [q] w5 w' → J2 (S.set room en.1 en.2).1 w') (fun w6 R6 m6 P6 hm6 hR6 k6 => ?_) fun J2 hJ2 => ?_
      · have F6 := T5.a.keep k6 (fun y hy h => by simp at h; subst h; exact T.qX hy)
        have C6 := C5.keep k6 (by simp; exact fun h => hb3X (by simp [h]))
        have rd6 := rd5.keep' k6 (fun hne y hy h => by
          simp at h; subst h
          exact (hen2 (fun h => hne (by rw [h]; rfl)) _ hy).2.1 rfl)
        refine ⟨_, _, _, C6.cs 0 _ rfl, (fset_c F6 T.rm.2 (by omega) q1 en.1.2 rd6 (fun hne y hy => (hen2 hne y hy).1) (by omega)).mono fun e w7 g => ?_⟩
        obtain ⟨r7, rfl, rfl, X7, F7, k7, f7⟩ := g
        rw [hkey] at F7 ⊢
        have hf7 : ∀ y ∈ X7, y ∈ X ∨ w6.heap.size ≤ y := f7
        have hs6 := k6.size
        have hn7 : (S.set room en.1 en.2).2.n ≤ S.n + 1 := by
          unfold FS.set
          split
          · split
            · show S.n ≤ _; omega
            · show S.n + 1 ≤ _; omega
          · show S.n ≤ _; omega
        refine ⟨_, rfl, M.ite_n (by simp) (hJ w7 X7 R6 room _ m6 ⟨(k6.mono (fun y hy => .inl (hqX y hy))).trans k7 (fun y hy => .inl (hXX y hy)), fun y hy => ?_⟩ (C6.keep k7 (fun h => hb3X (by simp [h]))) ⟨F7, P6.keep k7 T.qX (fun y hy => (hR6 y hy).1), hm6, fun h => ?_, fun y hy h => ?_, f7.old T.ax (by omega), T.aq, T.rm⟩ hn7)⟩
        · rcases List.mem_cons.1 hy with h | h
          · exact .inl (by simp [h])
          · rcases hf7 y h with h | h
            · exact .inl (hXX y h)
            · right; omega
        · rcases hf7 q h with h | h
          · exact T.qX h
          · omega
        · rcases hf7 y h with h | h
          · exact (hR6 y hy).1 h
          · have := (hR6 y hy).2; omega
      · have hRl := T5.b.2.2.1
        refine ⟨_, _, _, C5.cs 0 _ rfl, new1_k (cs := env (en.1, t2, en.2)) (e := 35) (sz := 3) rfl (Keeps.refl [] w5) fun b6 w6 g1 g2 x6 k6 k06 => ?_⟩
        have hEn : EnAt w6 ⟨some ⟨b6, 0, none⟩, 1, 1⟩ [(en.1, t2, en.2)] := ⟨by simpa using x6, fun z hz => by simp at hz; subst hz; exact ⟨rd5.keep k6 (by simp), by show en.2.length ≤ 1000; omega⟩⟩
        refine (rright24_c hEn (fun z hz => by simp at hz; subst hz; exact q1) (by simp)).mono fun e w7 g => ?_
        obtain ⟨r7, rfl, rfl, k7⟩ := g
        have he1 : entsGo [(en.1, t2, en.2)] 1 = (rightP en.1.1 en.1.2 && hopsB en.2) := by simp [entsGo, entAt]
        have k57 := k6.trans k7 (by simp)
        have T7 := T5.new k57
        have C7 := C5.keep k57 (by simp)
        rw [show [(en.1, t2, en.2)].length = 1 from rfl, he1]
        have hR7 : ∀ w', Keeps [] w5 w' → ∀ y ∈ R, y ∉ X ∧ y < w'.heap.size := fun w' k' y hy => ⟨T.dis y hy, by have := hRl y hy; have := k'.size; omega⟩
        refine ⟨_, rfl, M.ite_by (fun c2 => ?_) (fun c2 => ?_)⟩
        · have c2 : (rightP en.1.1 en.1.2 && hopsB en.2) = false := by cases h : (rightP en.1.1 en.1.2 && hopsB en.2) <;> simp [h] at c2 ⊢
          have hS := FS.set_bad S (room := room) c2
          have := hJ2 w7 R m (by rw [hS]; exact T7.b) (by rw [hS]; exact T.eq) (hR7 _ k57) k57.up
          rw [hS] at this; exact this
        have c2 : (rightP en.1.1 en.1.2 && hopsB en.2) = true := by cases h : (rightP en.1.1 en.1.2 && hopsB en.2) <;> simp [h] at c2 ⊢
        obtain ⟨cr, ch⟩ : rightP en.1.1 en.1.2 = true ∧ hopsB en.2 = true := by simpa using c2
        have kd := Keeps.drew [] w7
        have k58 := k57.trans kd (by simp)
        have T8 := T5.new k58
        have C8 := C5.keep k58 (by simp)
        have rd8 := rd5.keep k58 (by simp)
        refine M.join_by (fun (J3 : Bool → World → Prop) => J3 (!(tget S.L en.1).isSome && decide (room ≤ (S.L.length : Int))) w7.drew) ?_ fun J3 hJ3 => M.drew_by ?_
        rotate_left
        · obtain ⟨_, _, _, s, Q, hs, _, _⟩ := T8.b
          have hsl := hs.len
          have hneg : decide (r5 < (0 : Int)) = !(tget S.L en.1).isSome := by
            rw [← hpos]
            by_cases h : (0 : Int) ≤ r5
            · rw [decide_eq_true h, decide_eq_false (by omega)]; rfl
            · rw [decide_eq_false h, decide_eq_true (by omega)]; rfl
          rw [hneg]
          refine M.ite_by (fun c3 => ?_) (fun c3 => ?_)
          · rw [c3, Bool.true_and] at hJ3
            refine ⟨_, rfl, _, rfl, _, Q.cell 0, _, Q.cell 1, ?_⟩
            dsimp only
            rw [hsl, hml]; exact hJ3
          · rw [c3, Bool.false_and] at hJ3; exact hJ3
        refine M.ite_by (fun c3 => ?_) (fun c3 => M.drew_by ?_)
        · simp only [Bool.and_eq_true, Bool.not_eq_true', decide_eq_true_eq] at c3
          have hS := FS.set_full S (room := room) cr ch c3.1 c3.2
          have := hJ2 w7.drew R m (by rw [hS]; exact T8.b) (by rw [hS]; exact T.eq) (hR7 _ k58) k58.up
          rw [hS] at this; exact this
        · have c3' : (tget S.L en.1).isSome = true ∨ (S.L.length : Int) < room := by
            cases hh : (tget S.L en.1).isSome with
            | true => exact .inl rfl
            | false =>
              rw [hh] at c3
              right
              have : decide (room ≤ (S.L.length : Int)) = false := by simpa using c3
              have := of_decide_eq_false this
              omega
          have hS := FS.set_ok S (room := room) cr ch c3'
          have kd2 := Keeps.drew [] w7.drew
          have T9 := T8.new kd2
          have C9 := C8.keep kd2 (by simp)
          have rd9 := rd8.keep kd2 (by simp)
          have k59 := k58.trans kd2 (by simp)
          generalize w7.drew.drew = w9 at *
          have P9 := T9.b
          obtain ⟨_, _, _, s, Q, hs, _, _⟩ := P9
          refine ⟨_, rfl, _, Q.cell 0, _, _, _, C9.cs 0 _ rfl, (rdo_c hs hmt (by omega) false (e := (en.1, t2, en.2)) ⟨q1, cr⟩).mono fun e w10 g => ?_⟩
          obtain ⟨r10, rfl, rd10, f10, k10⟩ := g
          have h59 := k59.size
          have h10 := k10.size
          refine ⟨_, rfl, play_c T9.b hmt (by omega) (by omega) rd10 f10 k10 (rd9.keep k10 (by simp)) (by show en.2.length ≤ 1000; omega) (fun _ hne y hy => ⟨(hen2 hne y hy).2.1, by have := (hen2 hne y hy).2.2; omega⟩) (fun h => by cases h) fun w11 P11 k11 => ?_⟩
          have h11 := k11.size
          have hd := do_set (h := S.h) (en.1, t2, en.2) hTab.sorted T.eq
          have := hJ2 w11 _ _ (by rw [hS]; exact P11) (by rw [hS]; exact hd) (fun y hy => ⟨?_, P11.2.2.1 y hy⟩) ((k59.trans k10 (by simp)).up.and k11)
          · rw [hS] at this; exact this
          · simp only [List.mem_append] at hy
            rcases hy with (hy | hy) | hy
            · exact fun h => by have := (f10 y hy).1; have := hXl y h; omega
            · split at hy
              · simp at hy
              · rename_i hne
                exact (hen2 hne y (by simpa using hy)).1
            · exact T.dis y hy
    · refine M.ite_by (fun c2 => ?_) (fun c2 => ?_)
      · -- a cut
        refine ⟨_, C5.cell 0, _, C5.cell 1, (fcut_c T5.a (by omega) q1 en.1.2).mono fun e w6 g => ?_⟩
        obtain ⟨r6, rfl, rfl, X6, F6, k6, f6⟩ := g
        rw [hkey] at F6 ⊢
        have C6 := C5.keep k6 (fun h => hb3X (by simp [h]))
        have P6 := T5.b.keep k6 T.qX T.dis
        have hf6 : ∀ y ∈ X6, y ∈ X ∨ w5.heap.size ≤ y := f6
        have hRl := T5.b.2.2.1
        have hs6 := k6.size
        have hq6 : q ∉ X6 := fun h => by
          rcases hf6 q h with h | h
          · exact T.qX h
          · omega
        have hR6 : ∀ y ∈ R, y ∉ X6 := fun y hy h => by
          rcases hf6 y h with h | h
          · exact T.dis y hy h
          · have := hRl y hy; omega
        have hfr6 : ∀ y ∈ q :: X6, y ∈ q :: X ∨ w5.heap.size ≤ y := fun y hy => by
          rcases List.mem_cons.1 hy with h | h
          · exact .inl (by simp [h])
          · rcases hf6 y h with h | h
            · exact .inl (hXX y h)
            · exact .inr h
        rw [hpos]
        refine ⟨_, rfl, M.ite_n (by simp) (M.ite_by (fun c3 => M.drew_by ?_) (fun c3 => ?_))⟩
        · have hcut : S.cut en.1 = ⟨tcut S.L en.1, S.h, S.n + 1⟩ := by unfold FS.cut; rw [if_pos c3]
          have kd := Keeps.drew [] w6
          have P7 := P6.keep kd (by simp) (by simp)
          have C7 := C6.keep kd (by simp)
          have F7 := F6.keep kd (by simp)
          have k57 := k6.and kd.up
          have hP7 := P7
          generalize w6.drew = w7 at *
          obtain ⟨_, _, _, s, Q, hs, _, _⟩ := hP7
          have hkr : rightP en.1.1 en.1.2 = true := by
            obtain ⟨z, hz, he⟩ := tget_isSome.1 c3
            have := (hTab.right z hz).2
            rw [he] at this; exact this
          refine ⟨_, rfl, _, Q.cell 0, _, _, _, C7.cs 0 _ rfl, (rdo_c hs hmt (by omega) true (e := (en.1, t2, en.2)) ⟨q1, hkr⟩).mono fun e w8 g => ?_⟩
          obtain ⟨r8, rfl, rd8, f8, k8⟩ := g
          have rd2' : Rd 2 w8 t2 (hvs en.2) := ((rd5.keep' k57 (fun hne y hy h => (hen2 (fun h => hne (by rw [h]; rfl)) y hy).1 h))).keep k8 (by simp)
          have h57 := k57.size
          have hsub : true = true → ∀ z ∈ doA true (en.1, t2, en.2) m, z ∈ m := fun _ z hz => by
            rw [doA_eq, doR_true] at hz
            exact (List.mem_filter.1 hz).1
          refine ⟨_, rfl, play_c P7 hmt (by omega) (by omega) rd8 f8 k8 rd2' (by show en.2.length ≤ 1000; omega) (fun h => by cases h) hsub fun w9 P9 k9 => ?_⟩
          have h8 := k8.size
          have h9 := k9.size
          have hd := do_cut (L := S.L) (h := S.h) (en.1, t2, en.2) T.eq
          have k79 : Keeps [q] w7 w9 := k8.up.and k9
          have F9 := F7.keep k79 (fun y hy h => by simp at h; subst h; exact hq6 hy)
          have C9 := C7.keep k79 (by simp; exact fun h => hb3X (by simp [h]))
          rw [hcut] at F9
          refine hJ w9 X6 _ room _ _ ⟨(k57.mono (fun y hy => .inl (hXX y hy))).trans k79 (fun y hy => .inl (hqX y hy)), hfr6⟩ C9 ⟨F9, P9, hd, hq6, fun y hy h => ?_, f6.old T.ax (by omega), T.aq, T.rm⟩ (by show S.n + 1 ≤ _; omega)
          simp only [List.mem_append] at hy
          rcases hy with (hy | hy) | hy
          · have := (f8 y hy).1
            have := F7.lt y h; omega
          · split at hy <;> simp at hy
          · exact hR6 y hy h
        · have c3 : (tget S.L en.1).isSome = false := c3
          have hcut : S.cut en.1 = S := by unfold FS.cut; rw [c3]; rfl
          rw [hcut] at F6
          exact hJ w6 X6 R room S m ⟨k6.mono (fun y hy => .inl (hXX y hy)), hfr6⟩ C6 ⟨F6, P6, T.eq, hq6, hR6, f6.old T.ax (by omega), T.aq, T.rm⟩ (by omega)
      · refine M.ite_by (fun c3 => ?_) (fun c3 => hJ w5 X R room S m ⟨Keeps.refl _ _, From.refl _ _⟩ C5 T5 (by omega))
        -- the room
        refine ⟨_, B5.cell 1, (froom_c T5.a x.N).mono fun e w6 g => ?_⟩
        obtain ⟨rfl, F6, k6⟩ := g
        have B6 := B5.keep k6 (fun h => hb2X (by simp [h]))
        have C6 := C5.keep k6 (fun h => hb3X (by simp [h]))
        have P6 := T5.b.keep k6 T.qX T.dis
        refine ⟨rfl, _, B6.cell 1, (within_c x.N 0 4096 (by omega) (by omega) (by omega)).mono fun e w7 g => ?_⟩
        obtain ⟨r7, rfl, hr0, hr1, hr2, hw⟩ := g
        obtain rfl := hw.symm
        obtain ⟨h1, h2, h3, s, Q, hs, h6, h7⟩ := P6
        have hst : ∀ {w1 w2 : World} {v : Int}, EnAt w1 s m → Keeps [q] w1 w2 → EnAt w2 s m := fun h k => h.keep k (fun hne y hy h => by simp at h; subst h; exact h2 (h6 hne _ hy)) (fun z hz hne y hy h => by simp at h; subst h; exact h2 (h7 z hz hne _ hy))
        have hfin : ∀ w', Blk w' q 53 [s.v, .int .i64 (min (max x.N 0) 4096), .int .i64 (S.n : Int)] → Keeps [q] w6 w' → J w' := fun w' Q' k' => by
          have hsz := k'.size
          refine hJ w' X R (min (max x.N 0) 4096) S m ⟨(k6.mono (fun y hy => .inl (hXX y hy))).trans k' (fun y hy => .inl (hqX y hy)), From.refl _ _⟩ (C6.keep k' (by simp; exact fun h => hb3X (by simp [h]))) ⟨F6.keep k' (fun y hy h => by simp at h; subst h; exact T.qX hy), ⟨by omega, h2, fun y hy => by have := h3 y hy; omega, s, Q', hst (v := 0) hs k', h6, h7⟩, T.eq, T.qX, T.dis, T.ax, T.aq, by omega⟩ (by omega)
        refine ⟨_, rfl, _, rfl, M.st_blk Q (by simp) fun w8 Q8 k8 => ?_⟩
        have hb2q : b2 ∉ [q] := by simp; exact fun h => hb2X (by simp [h])
        have B8 := B6.keep k8 hb2q
        refine M.join_by (fun (J3 : World → Prop) => ∀ w', Blk w' q 53 [s.v, .int .i64 (if x.N < 0 then 0 else r7), .int .i64 (S.n : Int)] → Blk w' b2 30 [.int .i64 x.kind, .int .i64 x.N, .int .i64 x.Ln, .int .u32 (x.A : Int), x.s.v, .bool x.few] → Keeps [q] w6 w' → J3 w') (fun w9 Q9 B9 k9 => ?_) fun J3 hJ3 => ⟨_, B8.cell 1, M.ite_by (fun c4 => ?_) (fun c4 => ?_)⟩
        · refine ⟨_, B9.cell 1, M.ite_by (fun c4 => ?_) (fun c4 => ?_)⟩
          · have c4 := of_decide_eq_true c4
            refine ⟨_, rfl, M.st_blk Q9 (by simp) fun w10 Q10 k10 => hfin w10 ?_ (k9.and k10)⟩
            rw [show min (max x.N 0) 4096 = 4096 by omega]; exact Q10
          · have c4 := of_decide_eq_false c4
            refine hfin w9 ?_ k9
            rw [show min (max x.N 0) 4096 = (if x.N < 0 then 0 else r7) by split <;> omega]; exact Q9
        · have c4 := of_decide_eq_true c4
          rw [if_pos c4] at hJ3
          exact ⟨_, rfl, M.st_blk Q8 (by simp) fun w10 Q10 k10 => hJ3 w10 Q10 (B8.keep k10 hb2q) (k8.and k10)⟩
        · have c4 := of_decide_eq_false c4
          rw [if_neg c4] at hJ3
          exact hJ3 w8 Q8 B8 k8
theorem falike_c {n0 : Nat} {w : World} {X R : List Nat} {p q : Nat} {room : Int} {S : FS} {m : List En} (T : FPair n0 w X R p q room S m) :
    Calls Try.prog 22 #[.pointer (some ⟨p, 0, none⟩), .pointer (some ⟨q, 0, none⟩)] w (R22 fun r w' => r = true ∧ Keeps [] w w') := by
  have hfew := T.a.few
  have hml := T.len
  have hTab := T.a.tab
  have hhop := T.a.hops
  have hmt : ∀ z ∈ m, z.1.1 < 4294967296 := fun z hz => by
    obtain ⟨i, hi, he⟩ := List.getElem_of_mem hz
    obtain ⟨_, _, v, hv⟩ := ent_at T.eq (List.getElem?_eq_getElem hi)
    rw [he] at hv
    exact (hTab.right _ (List.mem_of_getElem? hv)).1
  refine F22_ok (M.drew_by ?_)
  have kd := Keeps.drew [] w
  have T1 := T.new kd
  obtain ⟨_, _, _, s, Q, hs, _, _⟩ := T1.b
  have hsl := hs.len
  generalize w.drew = w1 at *
  refine ⟨_, rfl, _, Q.cell 0, (fall_c T1.a).mono fun e w2 g => ?_⟩
  obtain ⟨r2, rfl, ⟨all, E2, hall, _⟩, f2, k2⟩ := g
  have hal : all.length = S.L.length := by have := congrArg List.length hall; simpa [FS.all] using this
  refine ⟨_, rfl, (Q.keep k2 (by simp)).cell 0, (ents_c E2 (hs.new k2) (by omega)).mono fun e w3 g => ?_⟩
  obtain ⟨r3, rfl, rfl, k3⟩ := g
  have k13 := k2.trans k3 (by simp)
  refine ⟨_, rfl, M.ite_n (by rw [hall, T.eq]; simp) ⟨_, rfl, _, (Q.keep k13 (by simp)).cell 0, new1_k (cs := [s.v]) (e := 45) (sz := 1) rfl k13 fun b4 w4 g1 g2 x4 k4 k04 => ?_⟩⟩
  refine (redges_c x4 (hs.new k04) (by omega) hmt).mono fun e w5 g => ?_
  obtain ⟨r5, rfl, ⟨l, rd5, hl5, hll⟩, k5⟩ := g
  have k15 := k04.trans k5 (by simp)
  have hr5 : r5.len = l.length := by
    have := rd5.len
    simp only [nv, List.length_map, Nat.mul_one] at this
    exact this.symm
  refine ⟨_, rfl, M.loop1_by (fun x w' => ∃ i : Nat, x = i ∧ i ≤ l.length ∧ Keeps [] w5 w') (fun x _ => l.length - x.toNat) ⟨0, rfl, by omega, Keeps.refl _ _⟩ ?_⟩
  rintro x w6 J ⟨i, rfl, hi, k6⟩ hJ
  refine M.join_lt (fun hx1 hx2 => ?_) (fun hend => ⟨rfl, (kd.trans k15 (by simp)).trans k6 (by simp)⟩)
  have il : i < l.length := by omega
  have ei := List.getElem?_eq_getElem il
  have hA := hl5 _ (List.getElem_mem il)
  generalize l[i] = A at *
  have hcell : ∀ w', Keeps [] w5 w' → ∀ a, r5.a = some a → w'.cell? (a.add ((i : Int).toNat * 1)) = some (.int .u32 (A : Int)) := fun w' k' a ha => by
    rw [show (i : Int).toNat * 1 = i by omega]
    exact (rd5.keep k' (by simp)).at ha (i := i) (by simp [nv, ei])
  obtain ⟨a, ha⟩ := rd5.some (by omega)
  refine ⟨a, ha, by omega, by omega, _, hcell _ k6 a ha, (fmatch_c (T1.a.keep (k15.trans k6 (by simp)) (by simp)) hA).mono fun e w7 g => ?_⟩
  obtain ⟨r7, ok7, rfl, rd7, rfl, f7, k7⟩ := g
  have k57 := k6.trans k7 (by simp)
  refine ⟨_, _, rfl, M.loop2_by (fun x y w' => ∃ j : Nat, y = j ∧ j ≤ m.length ∧ Keeps [] w7 w' ∧ ((x = true ∧ ∃ z ∈ m, hasB z.1 A = true) ∨ (x = false ∧ ∀ (k : Nat) (z : En), k < j → m[k]? = some z → hasB z.1 A = false))) (fun _ y _ => m.length - y.toNat) ⟨0, rfl, by omega, Keeps.refl _ _, .inr ⟨rfl, fun k z h => by omega⟩⟩ ?_⟩
  rintro x y w8 J8 ⟨j, rfl, hj, k8, hh⟩ hJ8
  have k18 := (k15.trans k57 (by simp)).trans k8 (by simp)
  have Q8 := Q.keep k18 (by simp)
  refine ⟨_, rfl, _, Q8.cell 0, M.ite_by (fun c => ?_) (fun c => ?_)⟩
  · have c := of_decide_eq_true c
    have jl : j < m.length := by omega
    have ej := List.getElem?_eq_getElem jl
    have hmem := List.getElem_mem jl
    have ht := hmt _ hmem
    generalize m[j] = z at *
    have kd8 := Keeps.drew [] w8
    have k79 := k8.trans kd8 (by simp)
    have k19 := k18.trans kd8 (by simp)
    refine M.join_by (fun (J9 : Bool → World → Prop) => ∀ x' w', Keeps [] w7 w' → ((x' = true ∧ ∃ z ∈ m, hasB z.1 A = true) ∨ (x' = false ∧ ∀ (k : Nat) (z : En), k < j + 1 → m[k]? = some z → hasB z.1 A = false)) → J9 x' w') (fun x' w' k' h' => ?_) fun J9 hJ9 => M.drew_by ?_
    · rw [w64 (by omega) (by omega)]
      exact hJ8 _ _ _ ⟨j + 1, by omega, by omega, k', h'⟩ (by omega)
    · refine M.ite_by (fun c9 => ?_) (fun c9 => ?_)
      · rcases hh with ⟨_, h⟩ | ⟨h, _⟩
        · exact hJ9 _ _ k79 (.inl ⟨rfl, h⟩)
        · rw [h] at c9; cases c9
      · have hno : ∀ (k : Nat) (z : En), k < j → m[k]? = some z → hasB z.1 A = false := by
          rcases hh with ⟨h, _⟩ | ⟨_, h⟩
          · rw [h] at c9; cases c9
          · exact h
        have hs9 := hs.1.keep k19 (by simp)
        obtain ⟨az, haz⟩ := hs9.some (by omega)
        refine ⟨_, rfl, a, ha, by omega, by omega, _, (Q.keep k19 (by simp)).cell 0, az, haz, by omega, by omega, _, rows_at0 env3 hs9 haz ej (v := .int .u32 (z.1.1 : Int)) rfl, _, rows_at env3 hs9 haz ej (j := 1) (v := .int .i64 z.1.2) rfl, _, hcell _ (k57.trans k79 (by simp)) a ha, (has_c ht hA).mono fun e w10 g => ?_⟩
        obtain ⟨r10, rfl, rfl, k10⟩ := g
        refine ⟨_, rfl, hJ9 _ _ (k79.trans k10 (by simp)) ?_⟩
        cases hb : hasB z.1 A with
        | true => exact .inl ⟨rfl, z, hmem, hb⟩
        | false =>
          refine .inr ⟨rfl, fun k u hk hu => ?_⟩
          by_cases hkj : k = j
          · subst hkj; rw [ej] at hu; cases hu; exact hb
          · exact hno k u (by omega) hu
  · have c := of_decide_eq_false c
    obtain rfl : j = m.length := by omega
    have hx : x = (S.match A).isSome := by
      rcases hh with ⟨rfl, z, hz, hb⟩ | ⟨rfl, hno⟩
      · obtain ⟨k, hk, he⟩ := List.getElem_of_mem hz
        have hz1 := (ent_at T.eq (List.getElem?_eq_getElem hk)).1
        rw [he] at hz1
        cases hm : S.match A with
        | some _ => rfl
        | none =>
          unfold FS.match at hm
          rw [List.getLast?_eq_none_iff] at hm
          have := (onWay_mem hTab hA (k := z.1)).2 ⟨by obtain ⟨u, hu, he⟩ := tget_isSome.1 hz1; exact List.mem_map.2 ⟨u, hu, he⟩, hb⟩
          rw [hm] at this; simp at this
      · rw [match_none hTab hA fun k hk => by
          obtain ⟨i, z, hi, hz, rfl⟩ := ent_of T.eq hk
          exact hno i z hi hz]; rfl
    subst hx
    have kd8 := Keeps.drew [] w8
    have k79 := k8.trans kd8 (by simp)
    have k19 := k18.trans kd8 (by simp)
    have k59 := k57.trans k79 (by simp)
    refine M.join_by (fun (J9 : Bool → World → Prop) => ∀ w', Keeps [] w5 w' → J9 false w') (fun w' k' => M.ite_ff ?_) fun J9 hJ9 => M.drew_by (M.ite_n (by simp) ?_)
    · rw [w64 (by omega) (by omega)]
      exact hJ _ _ ⟨i + 1, by omega, by omega, k'⟩ (by omega)
    · refine ⟨_, rfl, a, ha, by omega, by omega, _, (Q.keep k19 (by simp)).cell 0, _, hcell _ k59 a ha, (rfind_c (hs.new k19) T.eq hTab hhop (by omega) hA).mono fun e w10 g => ?_⟩
      obtain ⟨r10, rfl, rd10, k10⟩ := g
      have hclose : ∀ hl : List (Int × Int), hl.length ≤ 1000000 → Rd 2 w7 r7 (hvs hl) → Rd 2 w10 r10 (hvs hl) → Calls Try.prog 13 #[r7.v, r10.v] w10 (R13 fun r w' => J9 (!r) w') := fun hl h1 h2 h3 => (hsame_c (h2.keep (k79.trans k10 (by simp)) (by simp)) h3 (by omega)).mono fun e w11 g => by
        obtain ⟨r11, rfl, rfl, k11⟩ := g
        refine ⟨_, rfl, ?_⟩
        have := hJ9 _ ((k59.trans k10 (by simp)).trans k11 (by simp))
        simpa using this
      refine ⟨_, rfl, ?_⟩
      cases hm : S.match A with
      | none =>
        rw [hm] at rd7 rd10
        exact hclose [] (by simp) rd7 rd10
      | some k =>
        rw [hm] at rd7 rd10
        refine hclose (S.h k) ?_ rd7 rd10
        have hk : (tget S.L k).isSome = true := by
          unfold FS.match at hm
          have := List.mem_of_getLast? hm
          obtain ⟨z, hz, he⟩ := List.mem_map.1 ((onWay_mem hTab hA).1 this).1
          exact tget_isSome.2 ⟨z, hz, he⟩
        have := hopsB_len (hhop k hk); omega
end Go.Proofs.Ytnfmkedblnajlaa
