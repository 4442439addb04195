/-
  TriePlays, TrieSmall, TrieNumbers: a table of prefixes is what the document says.
-/
import Derived.Test.YtjjjomeemfmihaaTrieS
namespace Go.Proofs.Ytjjjomeemfmihaa
set_option linter.unusedVariables false
set_option linter.unusedSimpArgs false
open Go.Sp
open Go.RowKit (Below)

/-- Both tables have the same, and these blocks are none of theirs. -/
def Inv (W w : World) (p q : Nat) (bs : List (Nat × TypeId × List Value)) (n : Nat) : Prop := ∃ X L, Two w X p q L ∧ L.length ≤ n ∧ Aft W w ∧ (∀ y ∈ X, W.heap.size ≤ y) ∧ ∀ b ∈ bs, b.1 ∉ X ∧ Blk w b.1 b.2.1 b.2.2
theorem Inv.new {W w w' : World} {p q n : Nat} {bs : List (Nat × TypeId × List Value)} (h : Inv W w p q bs n) (k : Keeps [] w w') : Inv W w' p q bs n := by
  obtain ⟨X, L, h1, h2, h3, h4, h5⟩ := h
  exact ⟨X, L, h1.keep k (by simp), h2, h3.new k, h4, fun b hb => ⟨(h5 b hb).1, (h5 b hb).2.keep k (by simp)⟩⟩
theorem Inv.more {W w : World} {p q n m : Nat} {bs : List (Nat × TypeId × List Value)} (h : Inv W w p q bs n) (hn : n ≤ m) : Inv W w p q bs m := by
  obtain ⟨X, L, h1, h2, h3, h4, h5⟩ := h
  exact ⟨X, L, h1, by omega, h3, h4, h5⟩
theorem Inv.add {W w w' : World} {p q n b : Nat} {bs : List (Nat × TypeId × List Value)} {T : TypeId} {cs : List Value} (h : Inv W w p q bs n) (k : Keeps [] w w') (hb : w.heap.size ≤ b) (B : Blk w' b T cs) : Inv W w' p q ((b, T, cs) :: bs) n := by
  obtain ⟨X, L, h1, h2, h3, h4, h5⟩ := h
  refine ⟨X, L, h1.keep k (by simp), h2, h3.new k, h4, fun c hc => ?_⟩
  rcases List.mem_cons.1 hc with rfl | hc
  · exact ⟨fun hx => by have := h1.lt _ hx; omega, B⟩
  · exact ⟨(h5 c hc).1, (h5 c hc).2.keep k (by simp)⟩
theorem Inv.drop {W w : World} {p q n : Nat} {b : Nat × TypeId × List Value} {bs : List (Nat × TypeId × List Value)} (h : Inv W w p q (b :: bs) n) : Inv W w p q bs n := by
  obtain ⟨X, L, h1, h2, h3, h4, h5⟩ := h
  exact ⟨X, L, h1, h2, h3, h4, fun c hc => h5 c (by simp [hc])⟩
theorem Inv.ask {W w : World} {p q m : Nat} {bs : List (Nat × TypeId × List Value)} (h : Inv W w p q bs m) (kind n v : Int) {A : Nat} (hA : A < 4294967296) (few : Bool) (hlen : m ≤ 900000) :
    Calls Try.prog 26 #[.pointer (some ⟨p, 0, none⟩), .pointer (some ⟨q, 0, none⟩), .agg #[.int .i64 kind, .int .i64 n, .int .i64 v, .int .u32 (A : Int), .bool few]] w (R26 fun r w' => r = true ∧ Inv W w' p q bs (m + 1)) := by
  obtain ⟨X, L, h1, h2, h3, h4, h5⟩ := h
  refine (do_c h1 kind n v hA few (by omega)).mono fun e w' g => ?_
  obtain ⟨r, rfl, rfl, X', L', g1, g2, g3, g4⟩ := g
  refine ⟨_, rfl, rfl, X', L', g1, by omega, h3.step g2 h4, fun y hy => ?_, fun b hb => ⟨fun hx => ?_, (h5 b hb).2.keep g2 (h5 b hb).1⟩⟩
  · rcases g3 y hy with h | h
    · exact h4 y h
    · have := h3.2; omega
  · rcases g3 _ hx with h | h
    · exact (h5 b hb).1 h
    · have := (h5 b hb).2.lt; omega
theorem Inv.same {W w : World} {p q m : Nat} {bs : List (Nat × TypeId × List Value)} (h : Inv W w p q bs m) (hlen : m ≤ 900000) :
    Calls Try.prog 27 #[.pointer (some ⟨p, 0, none⟩), .pointer (some ⟨q, 0, none⟩)] w (R27 fun r w' => r = true ∧ Inv W w' p q bs m) := by
  have h' := h
  obtain ⟨X, L, h1, h2, h3, h4, h5⟩ := h
  refine (alike_c h1 (by omega)).mono fun e w' g => ?_
  obtain ⟨r, rfl, rfl, k⟩ := g
  exact ⟨_, rfl, rfl, h'.new k⟩
theorem Inv.aft {W w : World} {p q m : Nat} {bs : List (Nat × TypeId × List Value)} (h : Inv W w p q bs m) : Aft W w := by
  obtain ⟨X, L, h1, h2, h3, h4, h5⟩ := h; exact h3
theorem Inv.blk {W w : World} {p q m : Nat} {b : Nat × TypeId × List Value} {bs : List (Nat × TypeId × List Value)} (h : Inv W w p q bs m) (hb : b ∈ bs) : Blk w b.1 b.2.1 b.2.2 := by
  obtain ⟨X, L, h1, h2, h3, h4, h5⟩ := h; exact (h5 b hb).2
theorem Inv.known {W w : World} {p q m : Nat} {bs : List (Nat × TypeId × List Value)} (h : Inv W w p q bs m) : Calls Try.prog 19 #[] w (R19 fun r w' => r = true ∧ Aft W w') := known_c.mono fun e w' g => by
  obtain ⟨r, rfl, rfl, k⟩ := g
  exact ⟨_, rfl, rfl, h.aft.new k⟩
/-- Two new tables. -/
theorem inv_new {W w1 : World} {p : Nat} (h1 : TrieAt w1 [p] p []) (k1 : Keeps [] W w1) (hp : W.heap.size ≤ p) {K : Addr → World → Prop} (hK : ∀ q w, Inv W w p q [] 0 → K ⟨q, 0, none⟩ w) : M.new (.cells #[SV.nil.v, SV.nil.v] 55) w1 K := by
  refine rnew_k fun q w2 hq h2 k2 => hK q w2 ⟨[p] ++ [q], [], ⟨[p], [q], rfl, h1.keep k2 (by simp), h2, ?_⟩, by simp, ((Aft.refl W).new k1).new k2, ?_, by simp⟩
  · intro y hy hz
    simp at hy hz
    have := h1.1 p (by simp); omega
  · intro y hy
    have := k1.size
    simp at hy
    omega
theorem plays_c {W : World} {s : SV} {l : List (Int × Int × Int × Nat × Bool)} (hl : l.length = s.len) (hp : ∀ i x, l[i]? = some x → AskAt W s i x) :
    Calls Try.prog 8 #[s.v] W (R8 fun r w' => r = true ∧ Below W.heap.size W w') := by
  refine F8_ok (tnew_c.mono fun e w1 g => ?_)
  obtain ⟨r, rfl, p, rfl, h1, k1, hpB⟩ := g
  refine ⟨_, rfl, inv_new h1 k1 hpB fun q w2 h2 => M.ite_n rfl ?_⟩
  refine M.loop1_by (fun x w => ∃ i : Nat, x = i ∧ i ≤ 80 ∧ Inv W w p q [] i) (fun x _ => (80 - x).toNat) ⟨0, rfl, by omega, h2⟩ ?_
  rintro x w J ⟨i, rfl, hi, hI⟩ hJ
  refine M.join_lt (fun hx1 hx2 => ?_) (fun hend => ?_)
  · have hil : i < l.length := by omega
    obtain ⟨a, hsa, hau, hat⟩ := hp i l[i] (List.getElem?_eq_getElem hil)
    obtain ⟨c0, c1, c2, c3, c4⟩ := hat _ hI.aft.1
    have ek : ((i : Nat) : Int).toNat * 5 = i * 5 := by omega
    refine M.join_by (fun (J : Bool → World → Prop) => ∀ w', Inv W w' p q [] (i + 1) → J false w') (fun w' h => M.ite_n rfl ?_) fun J2 hJ2 => ?_
    · rw [w64 (by omega) (by omega)]
      exact hJ _ _ ⟨i + 1, by omega, by omega, h⟩ (by omega)
    · refine ⟨a, hsa, by omega, hx1, ?_⟩
      rw [ek]
      refine ⟨_, c0, _, c1, _, c2, _, c3, _, c4, (hI.ask _ _ _ hau _ (by omega)).mono fun e w3 g => ?_⟩
      obtain ⟨r3, rfl, rfl, h3⟩ := g
      refine ⟨_, rfl, M.ite_n rfl ((h3.same (by omega)).mono fun e w4 g => ?_)⟩
      obtain ⟨r4, rfl, rfl, h4⟩ := g
      exact ⟨_, rfl, hJ2 _ h4⟩
  · refine hI.known.mono fun e w4 g => ?_
    obtain ⟨r4, rfl, rfl, h4⟩ := g
    exact ⟨_, rfl, rfl, h4.1⟩
theorem plays_law (W : World) (args : List Value) (h : GdArgs W [(false, .cons (.slice askSh) .nil)] args) : Calls Try.prog 8 args.toArray W fun e W' => e = .returned (.bool true) ∧ Below W.heap.size W W' := by
  obtain ⟨v0, r, rfl, h0, h⟩ := h.one
  cases h
  obtain ⟨s, l, rfl, hl, hm, hp⟩ := asks_of h0
  exact (plays_c hl hp).mono fun e w' ⟨b, he, hb, hw⟩ => by subst hb; exact ⟨he, hw⟩
theorem small_c {W : World} {s : SV} {l : List (Int × Int × Int × Nat × Bool)} (hl : l.length = s.len) (hp : ∀ i x, l[i]? = some x → AskAt W s i x) :
    Calls Try.prog 9 #[s.v] W (R9 fun r w' => r = true ∧ Below W.heap.size W w') := by
  refine F9_ok (tnew_c.mono fun e w1 g => ?_)
  obtain ⟨r, rfl, p, rfl, h1, k1, hpB⟩ := g
  refine ⟨_, rfl, inv_new h1 k1 hpB fun q w2 h2 => M.ite_n rfl ?_⟩
  refine M.loop1_by (fun x w => ∃ i : Nat, x = i ∧ i ≤ 100 ∧ Inv W w p q [] i) (fun x _ => (100 - x).toNat) ⟨0, rfl, by omega, h2⟩ ?_
  rintro x w J ⟨i, rfl, hi, hI⟩ hJ
  refine M.join_lt (fun hx1 hx2 => ?_) (fun hend => ?_)
  · have hil : i < l.length := by omega
    obtain ⟨a, hsa, hau, hat⟩ := hp i l[i] (List.getElem?_eq_getElem hil)
    obtain ⟨c0, c1, c2, c3, c4⟩ := hat _ hI.aft.1
    generalize l[i] = z at *
    obtain ⟨kind, n, v, A, few⟩ := z
    have ek : ((i : Nat) : Int).toNat * 5 = i * 5 := by omega
    refine ⟨a, hsa, by omega, hx1, ?_⟩
    rw [ek]
    refine ⟨_, c0, _, c1, _, c2, _, c3, _, c4, M.new_blk fun b w3 hb B3 k3 => M.stA_blk B3 rfl fun w4 B4 k4 => M.st_blk B4 (by simp) fun w5 B5 k5 => ?_⟩
    have k35 : Keeps [] w w5 := (k3.trans k4 (by simp; omega)).trans k5 (by simp; omega)
    have hI5 := hI.new k35
    refine M.join_by (fun (J : World → Prop) => ∀ (A' : Nat) w', A' < 4294967296 → Blk w' b 30 [.int .i64 kind, .int .i64 n, .int .i64 v, .int .u32 (A' : Int), .bool true] → Inv W w' p q [] i → J w') (fun A' w' hA' B' h' => ?_) fun J2 hJ2 => ⟨_, B5.cell 0, M.ite_by (fun c => ?_) (fun c => ?_)⟩
    · refine ⟨_, B'.cell 0, _, B'.cell 1, _, B'.cell 2, _, B'.cell 3, _, B'.cell 4, (h'.ask _ _ _ hA' _ (by omega)).mono fun e w3 g => ?_⟩
      obtain ⟨r3, rfl, rfl, h3⟩ := g
      refine ⟨_, rfl, M.ite_n rfl ?_⟩
      rw [w64 (by omega) (by omega)]
      exact hJ _ _ ⟨i + 1, by omega, by omega, h3⟩ (by omega)
    · obtain ⟨A', hAe, hA'⟩ := bOr_u32 (167772160 : Int) (Int.tmod (A : Int) (16777216 : Int))
      refine ⟨_, B5.cell 3, ?_⟩
      dsimp only
      rw [hAe]
      exact M.st_blk B5 (by simp) fun w6 B6 k6 => hJ2 A' w6 hA' B6 (hI.new (k35.trans k6 (by simp; omega)))
    · exact hJ2 A w5 hau B5 hI5
  · refine M.join_by (fun (J : Bool → World → Prop) => ∀ w', Aft W w' → J true w') (fun w' h => ⟨rfl, h.1⟩) fun J2 hJ2 => (hI.same (by omega)).mono fun e w4 g => ?_
    obtain ⟨r4, rfl, rfl, h4⟩ := g
    refine ⟨_, rfl, M.ite_tt (h4.known.mono fun e w5 g => ?_)⟩
    obtain ⟨r5, rfl, rfl, h5⟩ := g
    exact ⟨_, rfl, hJ2 _ h5⟩
theorem small_law (W : World) (args : List Value) (h : GdArgs W [(false, .cons (.slice askSh) .nil)] args) : Calls Try.prog 9 args.toArray W fun e W' => e = .returned (.bool true) ∧ Below W.heap.size W W' := by
  obtain ⟨v0, r, rfl, h0, h⟩ := h.one
  cases h
  obtain ⟨s, l, rfl, hl, hm, hp⟩ := asks_of h0
  exact (small_c hl hp).mono fun e w' ⟨b, he, hb, hw⟩ => by subst hb; exact ⟨he, hw⟩
theorem row_at {w : World} {b : Nat} {T : TypeId} {cs : List Value} (B : Blk w b T cs) {i : Nat} {v : Value} (h : cs[i]? = some v) : w.cell? ((⟨b, 0, none⟩ : Addr).add (((i : Nat) : Int).toNat * 1)) = some v := by
  rw [Int.toNat_natCast, Nat.mul_one, add_mk, Nat.zero_add, B.cell i]; exact h
theorem numbers_c {W : World} : Calls Try.prog 7 #[] W (R7 fun r w' => r = true ∧ Below W.heap.size W w') := by
  refine F7_ok (tnew_c.mono fun e w1 g => ?_)
  obtain ⟨r, rfl, p, rfl, h1, k1, hpB⟩ := g
  refine ⟨_, rfl, inv_new h1 k1 hpB fun q w2 h2 => M.ite_n rfl (M.new_blk fun b8 w3 hb8 B8 k3 => ?_)⟩
  have h3 := h2.add k3 (by omega) B8
  have hA4 : ∀ i : Nat, i < 4 → ∃ A : Nat, A < 4294967296 ∧ [(Value.int .u32 (0 : Int)), (Value.int .u32 (2147483648 : Int)), (Value.int .u32 (167772160 : Int)), (Value.int .u32 (4294967295 : Int))][i]? = some (.int .u32 (A : Int)) := by
    intro i hi
    rcases (show i = 0 ∨ i = 1 ∨ i = 2 ∨ i = 3 by omega) with rfl | rfl | rfl | rfl
    · exact ⟨0, by omega, rfl⟩
    · exact ⟨2147483648, by omega, rfl⟩
    · exact ⟨167772160, by omega, rfl⟩
    · exact ⟨4294967295, by omega, rfl⟩
  have hN8 : ∀ i : Nat, i < 8 → ∃ n : Int, -1 ≤ n ∧ n ≤ 33 ∧ [(Value.int .i64 (32 : Int)), (Value.int .i64 (0 : Int)), (Value.int .i64 (8 : Int)), (Value.int .i64 (1 : Int)), (Value.int .i64 (16 : Int)), (Value.int .i64 (-1 : Int)), (Value.int .i64 (33 : Int)), (Value.int .i64 (0 : Int))][i]? = some (.int .i64 n) := by
    intro i hi
    rcases (show i = 0 ∨ i = 1 ∨ i = 2 ∨ i = 3 ∨ i = 4 ∨ i = 5 ∨ i = 6 ∨ i = 7 by omega) with rfl | rfl | rfl | rfl | rfl | rfl | rfl | rfl <;> exact ⟨_, by omega, by omega, rfl⟩
  obtain ⟨e8, h3, g8⟩ : ∃ e8 : Nat × TypeId × List Value, Inv W w3 p q [e8] 0 ∧ ∀ w, Blk w e8.1 e8.2.1 e8.2.2 → ∀ i : Nat, i < 4 → ∃ A : Nat, A < 4294967296 ∧ w.cell? ((⟨b8, 0, none⟩ : Addr).add (((i : Nat) : Int).toNat * 1)) = some (.int .u32 (A : Int)) := ⟨_, h3, fun w B i hi => by
    obtain ⟨A, hA, h⟩ := hA4 i hi
    exact ⟨A, hA, row_at B h⟩⟩
  refine M.loop1_by (fun x w => ∃ i : Nat, x = i ∧ i ≤ 4 ∧ Inv W w p q [e8] (i * 1000)) (fun x _ => (4 - x).toNat) ⟨0, rfl, by omega, h3.more (by omega)⟩ ?_
  rintro x w J ⟨i, rfl, hi, hI⟩ hJ
  refine M.ite_by (fun c => ?_) (fun c => ?_)
  · have c : (i : Int) < (4 : Nat) := of_decide_eq_true c
    have i4 : i < 4 := by omega
    obtain ⟨A, hA, hAi⟩ := g8 _ (hI.blk List.mem_cons_self) i i4
    refine ⟨_, rfl, by omega, c, _, hAi, M.new_blk fun b9 w4 hb9 B9 k4 => ?_⟩
    have h4 := hI.add k4 (by omega) B9
    obtain ⟨e9, h4, g9⟩ : ∃ e9 : Nat × TypeId × List Value, Inv W w4 p q [e9, e8] (i * 1000) ∧ ∀ w, Blk w e9.1 e9.2.1 e9.2.2 → ∀ i : Nat, i < 8 → ∃ n : Int, -1 ≤ n ∧ n ≤ 33 ∧ w.cell? ((⟨b9, 0, none⟩ : Addr).add (((i : Nat) : Int).toNat * 1)) = some (.int .i64 n) := ⟨_, h4, fun w B i hi => by
      obtain ⟨n, h0, h1, h⟩ := hN8 i hi
      exact ⟨n, h0, h1, row_at B h⟩⟩
    refine M.loop1_by (fun x w => ∃ j : Nat, x = j ∧ j ≤ 8 ∧ Inv W w p q [e9, e8] (i * 1000 + j * 100)) (fun x _ => (8 - x).toNat) ⟨0, rfl, by omega, h4.more (by omega)⟩ ?_
    rintro x w5 J5 ⟨j, rfl, hj, hI5⟩ hJ5
    refine M.ite_by (fun c => ?_) (fun c => ?_)
    · have c : (j : Int) < (8 : Nat) := of_decide_eq_true c
      have j8 : j < 8 := by omega
      obtain ⟨n, hn0, hn1, hnj⟩ := g9 _ (hI5.blk List.mem_cons_self) j j8
      refine ⟨_, rfl, by omega, c, _, hnj, ?_⟩
      refine M.loop1_by (fun x w => ∃ k : Nat, x = k ∧ 1 ≤ k ∧ k ≤ 6 ∧ Inv W w p q [e9, e8] (i * 1000 + j * 100 + k * 3)) (fun x _ => (6 - x).toNat) ⟨1, rfl, by omega, by omega, hI5.more (by omega)⟩ ?_
      rintro x w6 J6 ⟨k, rfl, hk1, hk, hI6⟩ hJ6
      refine M.ite_by (fun c => ?_) (fun c => ?_)
      · have c := of_decide_eq_true c
        refine M.join_by (fun (J : Bool → World → Prop) => ∀ w', Inv W w' p q [e9, e8] (i * 1000 + j * 100 + k * 3 + 2) → J false w') (fun w7 h7 => M.ite_ff ?_) fun J7 hJ7 => ?_
        · refine M.join_by (fun (J : Bool → World → Prop) => ∀ w', Inv W w' p q [e9, e8] (i * 1000 + j * 100 + k * 3 + 3) → J false w') (fun w8 h8 => M.ite_ff ?_) fun J8 hJ8 => M.ite_by (fun c => ?_) (fun c => ?_)
          · rw [w64 (by omega) (by omega)]
            exact hJ6 _ _ ⟨k + 1, by omega, by omega, by omega, h8.more (by omega)⟩ (by omega)
          · refine (h7.ask _ _ _ hA _ (by omega)).mono fun e w3 g => ?_
            obtain ⟨r3, rfl, rfl, h3⟩ := g
            exact ⟨_, rfl, hJ8 _ h3⟩
          · exact hJ8 _ (h7.more (by omega))
        · refine (hI6.ask _ _ _ hA _ (by omega)).mono fun e w7 g => ?_
          obtain ⟨r7, rfl, rfl, h7⟩ := g
          refine ⟨_, rfl, M.ite_n rfl ?_⟩
          obtain ⟨A', hA', e'⟩ : ∃ A' : Nat, A' < 4294967296 ∧ IntKind.u32.wrap ((A : Int) + 1) = (A' : Int) := ⟨((IntKind.u32.wrap ((A : Int) + 1))).toNat, by rw [IntKind.wrap_u32]; omega, by rw [IntKind.wrap_u32]; omega⟩
          rw [e']
          refine (h7.ask _ _ _ hA' _ (by omega)).mono fun e w8 g => ?_
          obtain ⟨r8, rfl, rfl, h8⟩ := g
          refine ⟨_, rfl, M.ite_n rfl ((h8.same (by omega)).mono fun e w9 g => ?_)⟩
          obtain ⟨r9, rfl, rfl, h9⟩ := g
          exact ⟨_, rfl, hJ7 _ h9⟩
      · have c := of_decide_eq_false c
        rw [w64 (by omega) (by omega)]
        exact hJ5 _ _ ⟨j + 1, by omega, by omega, hI6.more (by omega)⟩ (by omega)
    · have c : ¬ (j : Int) < (8 : Nat) := of_decide_eq_false c
      rw [w64 (by omega) (by omega)]
      exact hJ _ _ ⟨i + 1, by omega, by omega, hI5.drop.more (by omega)⟩ (by omega)
  · refine hI.known.mono fun e w4 g => ?_
    obtain ⟨r4, rfl, rfl, h4⟩ := g
    exact ⟨_, rfl, rfl, h4.1⟩
theorem numbers_law (W : World) (args : List Value) (h : GdArgs W [] args) : Calls Try.prog 7 args.toArray W fun e W' => e = .returned (.bool true) ∧ Below W.heap.size W W' := by
  cases h
  exact numbers_c.mono fun e w' ⟨b, he, hb, hw⟩ => by subst hb; exact ⟨he, hw⟩
end Go.Proofs.Ytjjjomeemfmihaa
