/-
  FibPlays, FibNumbers: a forwarding table is what the document says.
-/
import Derived.Test.YtnfmkedblnajlaaFibR
namespace Go.Proofs.Ytnfmkedblnajlaa
set_option linter.unusedVariables false
set_option linter.unusedSimpArgs false
open Go.Sp
open Go.RowKit (Below)

theorem pair_new {n0 : Nat} {w : World} {X : List Nat} {p : Nat} {room : Int} (F : FibAt w X p room FS.zero) (hX : ∀ x ∈ X, n0 ≤ x) (hn : n0 ≤ w.heap.size) (hr : 0 ≤ room ∧ room ≤ 4096) {K : Addr → World → Prop} (h : ∀ q w', w.heap.size ≤ q → FPair n0 w' X [] p q room FS.zero [] → Keeps [] w w' → K ⟨q, 0, none⟩ w') : M.new (.cells #[SV.nil.v, .int .i64 room, .int .i64 0] 53) w K :=
  M.new_blk fun q w' hq Q k => h q w' (by omega) ⟨F.keep k (by simp), ⟨Q.lt, by simp, by simp, SV.nil, Q, ⟨Rd.nil _ _, by simp⟩, by simp, by simp⟩, rfl, fun h => by have := F.lt _ h; omega, by simp, hX, by omega, hr⟩ k
theorem pair_aft {W w w' : World} {X R X' : List Nat} {p q : Nat} {room : Int} {S : FS} {m : List En} (T : FPair W.heap.size w X R p q room S m) (a : Aft W w) (l : Fr (q :: X) w w' (q :: X')) : Aft W w' := a.step l.1 (fun x hx => by
  rcases List.mem_cons.1 hx with h | h
  · rw [h]; exact T.aq
  · exact T.ax x h)
theorem fplays_c {W : World} {s : SV} {l : List As} {p0 : Int} (hs : Rd 6 W s (l.flatMap asv)) (hok : ∀ x ∈ l, x.ok W) (hm : s.len ≤ maxLen) :
    Calls Try.prog 6 #[.int .i64 p0, s.v] W (R6 fun r w' => r = true ∧ Below W.heap.size W w') := by
  unfold maxLen at hm
  have hl := rows_len as6 (by omega) hs
  refine F6_ok ((within_c p0 0 20 (by omega) (by omega) (by omega)).mono fun e w1 g => ?_)
  obtain ⟨room, rfl, hr0, hr1, hr2, hw⟩ := g
  obtain rfl := hw.symm
  refine ⟨_, rfl, (fnew_c room).mono fun e w1 g => ?_⟩
  obtain ⟨r, e', rfl, g, k1⟩ := g
  rw [if_pos (by omega)] at g
  obtain ⟨p, X, rfl, rfl, F1, hX⟩ := g
  refine ⟨_, _, rfl, pair_new F1 hX k1.size (by omega) fun q w2 hq2 T2 k2 => M.join_by (fun (J : Bool → World → Prop) => J false w2) (M.ite_ff ?_) fun J hJ => M.ite_ff hJ⟩
  refine M.loop1_by (fun x w => ∃ (i : Nat) (X R : List Nat) (room : Int) (S : FS) (m : List En), x = i ∧ i ≤ 60 ∧ Aft W w ∧ FPair W.heap.size w X R p q room S m ∧ S.n ≤ i) (fun x _ => (60 - x).toNat)
    ⟨0, X, [], room, FS.zero, [], rfl, by omega, ((Aft.refl W).new k1).new k2, T2, by simp [FS.zero]⟩ ?_
  rintro x w J ⟨i, X, R, room, S, m, rfl, hi, ha, T, hSn⟩ hJ
  refine M.join_lt (fun hx1 hx2 => ?_) (fun hend => ?_)
  · have il : i < l.length := by omega
    have ei := List.getElem?_eq_getElem il
    obtain ⟨hA, hr, hN⟩ := hok _ (List.getElem_mem il)
    generalize l[i] = x at *
    have hs' := hs.arg ha.1
    obtain ⟨ax, hax⟩ := hs'.some (by omega)
    refine ⟨ax, hax, by omega, by omega, _, _, _, _, _, _, rows_cs as6 hs' hax ei, (fdo_c T (by omega) ha.2 hA hN (hr.arg ha.1) (fun hne y hy => ?_)).mono fun e w2 g => ?_⟩
    · have hlt := hr.blk_lt (fun h => hne (by have := hvs_len x.l; rw [h] at this; exact List.eq_nil_of_length_eq_zero (by simp at this; omega))) y hy
      exact ⟨fun h => by have := T.ax y h; omega, by have := T.aq; omega⟩
    · obtain ⟨r2, rfl, rfl, X2, R2, room2, S2, m2, l2, T2, hn2⟩ := g
      refine ⟨_, rfl, M.ite_ff ?_⟩
      rw [w64 (by omega) (by omega)]
      exact hJ _ _ ⟨i + 1, X2, R2, room2, S2, m2, by omega, by omega, pair_aft T ha l2, T2, by omega⟩ (by omega)
  · refine M.join_by (fun (J : Bool → World → Prop) => ∀ w, Aft W w → J true w) (fun w h => ⟨rfl, h.1⟩) fun J hJ => (falike_c T).mono fun e w3 g => ?_
    obtain ⟨r3, rfl, rfl, k3⟩ := g
    refine ⟨_, rfl, M.ite_tt ((fknown_a (ha.new k3)).mono fun e w4 g => ?_)⟩
    obtain ⟨r4, rfl, rfl, a4⟩ := g
    exact ⟨_, rfl, hJ _ a4⟩
theorem fplays_law (W : World) (args : List Value) (h : GdArgs W [(false, .cons (.int .i64) .nil), (false, .cons (.slice askSh) .nil)] args) : Calls Try.prog 6 args.toArray W fun e W' => e = .returned (.bool true) ∧ Below W.heap.size W W' := by
  obtain ⟨v0, r, rfl, h0, h⟩ := h.one
  obtain ⟨v1, r, rfl, h1, h⟩ := h.one
  cases h
  obtain ⟨n0, rfl, hn0⟩ := good_int h0
  obtain ⟨s, l, rfl, hs, _, hm, hok⟩ := asks_of h1
  exact (fplays_c hs hok hm).mono fun e w' ⟨b, he, hb, hw⟩ => by subst hb; exact ⟨he, hw⟩
/-- The asks of the runs; two of them have hops. -/
def runA (s1 s2 : SV) : List As := [⟨1, 0, 0, 0, SV.nil, [], false⟩, ⟨3, 2, 0, 0, SV.nil, [], false⟩, ⟨1, 0, 0, 0, SV.nil, [], false⟩, ⟨1, 0, 0, 1, SV.nil, [], false⟩, ⟨1, 0, 1, 0, SV.nil, [], false⟩, ⟨1, 0, 2, 0, SV.nil, [], false⟩, ⟨3, -5, 0, 0, SV.nil, [], false⟩,
  ⟨1, 0, 1, 0, s1, [(7, 16)], false⟩, ⟨1, 0, 1, 0, s2, [(7, 17)], false⟩, ⟨2, 0, 3, 0, SV.nil, [], false⟩, ⟨2, 0, 1, 0, SV.nil, [], false⟩, ⟨2, 0, 1, 0, SV.nil, [], false⟩, ⟨1, 0, 1, 0, SV.nil, [], false⟩, ⟨3, 9999, 0, 0, SV.nil, [], false⟩, ⟨1, 0, 32, 0, SV.nil, [], false⟩, ⟨1, 0, 33, 0, SV.nil, [], false⟩, ⟨1, 0, 32, 0, SV.nil, [], false⟩]
theorem fnumbers_c {W : World} : Calls Try.prog 5 #[] W (R5 fun r w' => r = true ∧ Below W.heap.size W w') := by
  refine F5_ok ((fnew_c (-1)).mono fun e w1 g => ?_)
  obtain ⟨r1, e1, rfl, g, k1⟩ := g
  rw [if_neg (by omega)] at g
  obtain ⟨rfl, rfl⟩ := g
  refine ⟨_, _, rfl, (fnew_c 4097).mono fun e w2 g => ?_⟩
  obtain ⟨r2, e2, rfl, g, k2⟩ := g
  rw [if_neg (by omega)] at g
  obtain ⟨rfl, rfl⟩ := g
  refine ⟨_, _, rfl, (fnew_c 4096).mono fun e w3 g => ?_⟩
  obtain ⟨r3, e3, rfl, g, k3⟩ := g
  rw [if_pos (by omega)] at g
  obtain ⟨_, _, rfl, rfl, _, _⟩ := g
  refine ⟨_, _, rfl, (fnew_c 0).mono fun e w4 g => ?_⟩
  obtain ⟨r4, e4, rfl, g, k4⟩ := g
  rw [if_pos (by omega)] at g
  obtain ⟨p, X, rfl, rfl, F4, hX⟩ := g
  have k04 := ((k1.trans k2 (by simp)).trans k3 (by simp)).trans k4 (by simp)
  have hX : ∀ x ∈ X, W.heap.size ≤ x := fun x hx => by have := hX x hx; have := ((k1.trans k2 (by simp)).trans k3 (by simp)).size; omega
  have hXl := F4.lt
  refine ⟨_, _, rfl, M.join_by (fun (J : Bool → World → Prop) => J false w4) (M.ite_ff ?_) fun J hJ => M.ite_ff hJ⟩
  refine pair_new F4 hX k04.size (by omega) fun q w5 hq5 T5 k5 => ?_
  have hq5l := T5.b.1
  refine new1_k (cs := hv (7, 16)) (e := 55) (sz := 2) rfl (Keeps.refl [] w5) fun b1 w6 g1 g2 x6 k6 k06 => new1_k (cs := hv (7, 17)) (e := 55) (sz := 2) rfl k06 fun b2 w7 g3 g4 x7 k7 k07 => ?_
  have h6 := k6.size
  have hs1 : Rd 2 w7 ⟨some ⟨b1, 0, none⟩, 1, 1⟩ (hvs [(7, 16)]) := by simpa [hvs] using x6.keep k7 (by simp)
  have hs2 : Rd 2 w7 ⟨some ⟨b2, 0, none⟩, 1, 1⟩ (hvs [(7, 17)]) := by simpa [hvs] using x7
  refine newn_k (cs := (runA ⟨some ⟨b1, 0, none⟩, 1, 1⟩ ⟨some ⟨b2, 0, none⟩, 1, 1⟩).flatMap asv) (e := 30) (sz := 6) (n := 17) rfl (by omega) k07 fun b3 w8 g5 g6 o8 k8 k08 => ?_
  have h7 := k07.size
  have hrun : ∀ x ∈ runA ⟨some ⟨b1, 0, none⟩, 1, 1⟩ ⟨some ⟨b2, 0, none⟩, 1, 1⟩, x.A < 4294967296 ∧ (-9223372036854775808 ≤ x.N ∧ x.N ≤ 9223372036854775807) ∧ (x.s = SV.nil ∧ x.l = [] ∨ x.s = ⟨some ⟨b1, 0, none⟩, 1, 1⟩ ∧ x.l = [(7, 16)] ∨ x.s = ⟨some ⟨b2, 0, none⟩, 1, 1⟩ ∧ x.l = [(7, 17)]) := by
    intro x hx
    simp only [runA, List.mem_cons, List.not_mem_nil, or_false] at hx
    rcases hx with rfl | rfl | rfl | rfl | rfl | rfl | rfl | rfl | rfl | rfl | rfl | rfl | rfl | rfl | rfl | rfl | rfl <;> refine ⟨by simp, by simp, ?_⟩ <;> simp
  have hlen : (runA ⟨some ⟨b1, 0, none⟩, 1, 1⟩ ⟨some ⟨b2, 0, none⟩, 1, 1⟩).length = 17 := rfl
  generalize runA ⟨some ⟨b1, 0, none⟩, 1, 1⟩ ⟨some ⟨b2, 0, none⟩, 1, 1⟩ = run at *
  have hbn : ∀ b, w5.heap.size ≤ b → b ∉ q :: X := fun b hb h => by
    rcases List.mem_cons.1 h with h | h
    · omega
    · have := hXl b h; have := k5.size; omega
  refine M.loop1_by (fun x w => ∃ (i : Nat) (X R : List Nat) (room : Int) (S : FS) (m : List En), x = i ∧ i ≤ 17 ∧ Aft W w ∧ FPair W.heap.size w X R p q room S m ∧ S.n ≤ i ∧ Rd 6 w ⟨some ⟨b3, 0, none⟩, 17, 17⟩ (run.flatMap asv) ∧ Rd 2 w ⟨some ⟨b1, 0, none⟩, 1, 1⟩ (hvs [(7, 16)]) ∧ Rd 2 w ⟨some ⟨b2, 0, none⟩, 1, 1⟩ (hvs [(7, 17)]) ∧ b1 ∉ q :: X ∧ b2 ∉ q :: X ∧ b3 ∉ q :: X) (fun x _ => (17 - x).toNat)
    ⟨0, X, [], 0, FS.zero, [], rfl, by omega, (((Aft.refl W).new k04).new k5).new k08, T5.new k08, by simp [FS.zero], o8.rd, hs1.keep k8 (by simp), hs2.keep k8 (by simp), hbn b1 (by omega), hbn b2 (by omega), hbn b3 (by omega)⟩ ?_
  rintro x w J ⟨i, X, R, room, S, m, rfl, hi, ha, T, hSn, r3, r1, r2, n1, n2, n3⟩ hJ
  refine M.ite_by (fun c => ?_) (fun c => ?_)
  · have c : (i : Int) < 17 := of_decide_eq_true c
    have il : i < run.length := by omega
    have ei := List.getElem?_eq_getElem il
    obtain ⟨hA, hN, hsl⟩ := hrun _ (List.getElem_mem il)
    generalize run[i] = x at *
    refine ⟨_, rfl, by omega, c, _, _, _, _, _, _, rows_cs as6 r3 rfl ei, M.new_blk fun b4 w2 hb4 B k2 => M.stA_blk B rfl fun w3 B3 k3 => ?_⟩
    have k13 : Keeps [] w w3 := k2.trans k3 (by simp; omega)
    have T3 := T.new k13
    have a3 := ha.new k13
    have hx3 : Rd 2 w3 x.s (hvs x.l) := by
      rcases hsl with ⟨h1, h2⟩ | ⟨h1, h2⟩ | ⟨h1, h2⟩ <;> rw [h1, h2]
      · exact Rd.nil _ _
      · exact r1.keep k13 (by simp)
      · exact r2.keep k13 (by simp)
    have hxX : x.l ≠ [] → ∀ y ∈ x.s.blk, y ∉ X ∧ y ≠ q := fun hne y hy => by
      have : y = b1 ∨ y = b2 := by
        rcases hsl with ⟨h1, h2⟩ | ⟨h1, h2⟩ | ⟨h1, h2⟩
        · exact absurd h2 hne
        · rw [h1] at hy; simp [SV.blk] at hy; exact .inl hy
        · rw [h1] at hy; simp [SV.blk] at hy; exact .inr hy
      rcases this with rfl | rfl
      · exact ⟨fun h => n1 (by simp [h]), fun h => n1 (by simp [h])⟩
      · exact ⟨fun h => n2 (by simp [h]), fun h => n2 (by simp [h])⟩
    refine M.join_by (fun (J : Bool → World → Prop) => ∀ w' X' R' room' S' m', Aft W w' → FPair W.heap.size w' X' R' p q room' S' m' → S'.n ≤ i + 1 → Fr (q :: X) w3 w' (q :: X') → J false w') (fun w' X' R' room' S' m' h1 h2 h3 h4 => M.ite_ff ?_) fun J4 hJ4 => ⟨_, _, _, _, _, _, B3.cs 0 _ rfl, (fdo_c T3 (by omega) a3.2 hA hN hx3 hxX).mono fun e w4 g => ?_⟩
    · rw [w64 (by omega) (by omega)]
      have hb : ∀ b, b < w3.heap.size → b ∉ q :: X → b ∉ q :: X' := fun b hb hn h => by
        rcases h4.2 b h with h | h
        · exact hn h
        · omega
      have hlt : ∀ {sz b n : Nat} {vs : List Value}, Rd sz w ⟨some ⟨b, 0, none⟩, n, n⟩ vs → vs ≠ [] → b < w3.heap.size := fun h hv => by
        have := h.blk_lt hv _ (by simp [SV.blk]; rfl); have := k13.size; omega
      have hv6 : run.flatMap asv ≠ [] := fun h => by have := fm_len as6 run; rw [h, hlen] at this; simp at this
      exact hJ _ _ ⟨i + 1, X', R', room', S', m', by omega, by omega, h1, h2, h3, (r3.keep k13 (by simp)).keep h4.1 (by simpa [SV.blk] using n3), (r1.keep k13 (by simp)).keep h4.1 (by simpa [SV.blk] using n1), (r2.keep k13 (by simp)).keep h4.1 (by simpa [SV.blk] using n2), hb b1 (hlt r1 (by simp [hvs, hv])) n1, hb b2 (hlt r2 (by simp [hvs, hv])) n2, hb b3 (hlt r3 hv6) n3⟩ (by omega)
    · obtain ⟨r4, rfl, rfl, X4, R4, room4, S4, m4, l4, T4, hn4⟩ := g
      refine ⟨_, rfl, M.ite_ff ((falike_c T4).mono fun e w5 g => ?_)⟩
      obtain ⟨r5, rfl, rfl, k5⟩ := g
      exact ⟨_, rfl, hJ4 _ X4 R4 room4 S4 m4 ((pair_aft T3 a3 l4).new k5) (T4.new k5) (by omega) (l4.then k5)⟩
  · refine M.join_by (fun (J : Bool → World → Prop) => ∀ w, Aft W w → J true w) (fun w h => ⟨rfl, h.1⟩) fun J4 hJ4 => M.ite_tt (M.ite_tt (M.ite_tt ((fknown_a ha).mono fun e w4 g => ?_)))
    obtain ⟨r4, rfl, rfl, a4⟩ := g
    exact ⟨_, rfl, hJ4 _ a4⟩
theorem fnumbers_law (W : World) (args : List Value) (h : GdArgs W [] args) : Calls Try.prog 5 args.toArray W fun e W' => e = .returned (.bool true) ∧ Below W.heap.size W W' := by
  cases h
  exact fnumbers_c.mono fun e w' ⟨b, he, hb, hw⟩ => by subst hb; exact ⟨he, hw⟩
end Go.Proofs.Ytnfmkedblnajlaa
