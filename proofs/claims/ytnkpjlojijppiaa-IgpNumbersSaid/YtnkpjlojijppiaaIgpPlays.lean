/-
  IgpPlays, IgpNumbers: the inside's ways are kept as the document says.
-/
import Derived.Test.YtnkpjlojijppiaaIgpT
namespace Go.Proofs.Ytnkpjlojijppiaa
set_option linter.unusedVariables false
set_option linter.unusedSimpArgs false
open Go.Sp
open Go.RowKit (Below)

theorem pair_new {n : Nat} {w : World} {X : List Nat} {p : Nat} (F : IgpAt w X p IS.zero) (hX : ∀ x ∈ X, n ≤ x) (hn : n ≤ w.heap.size) {K : Addr → World → Prop} (h : ∀ q w', Pair n w' X [q] p q IS.zero → Keeps [] w w' → K ⟨q, 0, none⟩ w') : M.new (.cells #[SV.nil.v] 49) w K :=
  rnew_k fun q w' hq R k => h q w' ⟨F.keep k (by simp), R, fun x hx h => by simp at h; have := F.lt x hx; omega, hX, fun x hx => by simp at hx; omega, by have := k.size; omega⟩ k
theorem pair_aft {W w w' : World} {X E X' E' : List Nat} {p q : Nat} {S : IS} (T : Pair W.heap.size w X E p q S) (a : Aft W w) (l : Fr (X ++ E) w w' (X' ++ E')) : Aft W w' := a.step l.1 (fun x hx => by
  rcases List.mem_append.1 hx with h | h
  · exact T.ax x h
  · exact T.ae x h)
theorem iplays_c {W : World} {s : SV} {l : List As} (hs : Rd 9 W s (l.flatMap asv)) (hok : ∀ x ∈ l, x.ok) (hm : s.len ≤ maxLen) :
    Calls Try.prog 4 #[s.v] W (R4 fun r w' => r = true ∧ Below W.heap.size W w') := by
  unfold maxLen at hm
  have hl := rows_len as9 (by omega) hs
  refine F4_ok (inew_c.mono fun e w1 g => ?_)
  obtain ⟨r, rfl, p, X, rfl, F1, hX, k1⟩ := g
  refine ⟨_, rfl, pair_new F1 hX k1.size fun q w2 T2 k2 => M.ite_n rfl ?_⟩
  refine M.loop1_by (fun x w => ∃ (i : Nat) (X E : List Nat) (S : IS), x = i ∧ i ≤ 60 ∧ Aft W w ∧ Pair W.heap.size w X E p q S) (fun x _ => (60 - x).toNat)
    ⟨0, X, [q], IS.zero, rfl, by omega, ((Aft.refl W).new k1).new k2, T2⟩ ?_
  rintro x w J ⟨i, X, E, S, rfl, hi, ha, T⟩ hJ
  refine M.join_lt (fun hx1 hx2 => ?_) (fun hend => ?_)
  · have il : i < l.length := by omega
    have ei := List.getElem?_eq_getElem il
    have hx := hok _ (List.getElem_mem il)
    generalize l[i] = x at *
    have hs' := hs.arg ha.1
    obtain ⟨ax, hax⟩ := hs'.some (by omega)
    refine ⟨ax, hax, by omega, by omega, _, _, _, _, _, _, _, _, _, rows_cs as9 hs' hax ei, (ido_c T hx).mono fun e w2 g => ?_⟩
    obtain ⟨r2, rfl, rfl, X2, E2, S2, l2, T2⟩ := g
    refine ⟨_, rfl, M.ite_ff ?_⟩
    rw [w64 (by omega) (by omega)]
    exact hJ _ _ ⟨i + 1, X2, E2, S2, by omega, by omega, pair_aft T ha l2, T2⟩ (by omega)
  · refine M.join_by (fun (J : Bool → World → Prop) => ∀ w, Aft W w → J true w) (fun w h => ⟨rfl, h.1⟩) fun J hJ => (ialike_c T).mono fun e w3 g => ?_
    obtain ⟨r3, rfl, rfl, k3⟩ := g
    refine ⟨_, rfl, M.ite_tt ((iknown_a (ha.new k3)).mono fun e w4 g => ?_)⟩
    obtain ⟨r4, rfl, rfl, a4⟩ := g
    exact ⟨_, rfl, hJ _ a4⟩
theorem iplays_law (W : World) (args : List Value) (h : GdArgs W [(false, .cons (.slice askSh) .nil)] args) : Calls Try.prog 4 args.toArray W fun e W' => e = .returned (.bool true) ∧ Below W.heap.size W W' := by
  obtain ⟨v0, r, rfl, h0, h⟩ := h.one
  cases h
  obtain ⟨s, l, rfl, hs, _, hm, hok⟩ := asks_of h0
  exact (iplays_c hs hok hm).mono fun e w' ⟨b, he, hb, hw⟩ => by subst hb; exact ⟨he, hw⟩
/-- The costs that are tried. -/
def fls : List Nat := [0, 9223372036854775808, 4607182418800017408, 9218868437227405312, 9221120237041090561, 13830554455654793216, 18442240474082181120, 4607182418800017408, 0]
theorem fls_lt : ∀ c ∈ fls, c < 18446744073709551616 := by decide
/-- What holds at each step of the runs. -/
def NI (W w : World) (p q b7 b20 : Nat) : Prop := ∃ X E S T, Aft W w ∧ Pair W.heap.size w X E p q S ∧ Blk w b7 30 [.int .u32 ((167772160 : Nat) : Int), .int .i64 8] ∧ Blk w b20 T (fls.map (Value.float .f64)) ∧ b7 ∉ X ++ E ∧ b20 ∉ X ++ E
theorem NI.new {W w w' : World} {p q b7 b20 : Nat} (h : NI W w p q b7 b20) (k : Keeps [] w w') : NI W w' p q b7 b20 := by
  obtain ⟨X, E, S, T, h1, h2, h3, h4, h5, h6⟩ := h
  exact ⟨X, E, S, T, h1.new k, h2.new k, h3.keep k (by simp), h4.keep k (by simp), h5, h6⟩
theorem NI.ask {W w : World} {p q b7 b20 : Nat} (h : NI W w p q b7 b20) {x : As} (hx : x.ok) :
    Calls Try.prog 17 #[.pointer (some ⟨p, 0, none⟩), .pointer (some ⟨q, 0, none⟩), x.agg] w (R17 fun r w' => r = true ∧ NI W w' p q b7 b20) := by
  obtain ⟨X, E, S, T, h1, h2, h3, h4, h5, h6⟩ := h
  refine (ido_c h2 hx).mono fun e w2 g => ?_
  obtain ⟨r2, rfl, rfl, X2, E2, S2, l2, T2⟩ := g
  have hn : ∀ {b : Nat} {T : TypeId} {cs : List Value}, Blk w b T cs → b ∉ X ++ E → b ∉ X2 ++ E2 := fun B hb h => by
    rcases l2.2 _ h with h | h
    · exact hb h
    · have := B.lt; omega
  exact ⟨_, rfl, rfl, X2, E2, S2, T, pair_aft h2 h1 l2, T2, h3.keep l2.1 h5, h4.keep l2.1 h6, hn h3 h5, hn h4 h6⟩
theorem NI.same {W w : World} {p q b7 b20 : Nat} (h : NI W w p q b7 b20) :
    Calls Try.prog 18 #[.pointer (some ⟨p, 0, none⟩), .pointer (some ⟨q, 0, none⟩)] w (R18 fun r w' => r = true ∧ NI W w' p q b7 b20) := by
  obtain ⟨X, E, S, T, h1, h2, h3⟩ := h
  refine (ialike_c h2).mono fun e w2 g => ?_
  obtain ⟨r2, rfl, rfl, k2⟩ := g
  exact ⟨_, rfl, rfl, NI.new ⟨X, E, S, T, h1, h2, h3⟩ k2⟩
theorem inumbers_c {W : World} : Calls Try.prog 6 #[] W (R6 fun r w' => r = true ∧ Below W.heap.size W w') := by
  refine F6_ok (inew_c.mono fun e w1 g => ?_)
  obtain ⟨r, rfl, p, X, rfl, F1, hX, k1⟩ := g
  refine ⟨_, rfl, pair_new F1 hX k1.size fun q w2 T2 k2 => M.ite_n rfl ?_⟩
  refine M.new_blk fun b7 w3 hb7 B3 k3 => M.stA_blk B3 rfl fun w4 B4 k4 => ?_
  have k24 : Keeps [] w2 w4 := k3.trans k4 (by simp; omega)
  refine (show Calls Try.prog 22 #[.float .f64 0, .float .f64 13830554455654793216] w4 (R22 fun r w' => r = 9223372036854775808 ∧ w' = w4) from F22_ok ⟨by decide +kernel, rfl⟩).mono fun e w5 g => ?_
  obtain ⟨r5, rfl, rfl, hw⟩ := g
  obtain rfl := hw.symm
  refine ⟨_, rfl, inf_c.mono fun e w5 g => ?_⟩
  obtain ⟨r6, rfl, rfl, hw⟩ := g
  obtain rfl := hw.symm
  refine ⟨_, rfl, (show Calls Try.prog 23 #[] w4 (R23 fun r w' => r = 9221120237041090561 ∧ w' = w4) from F23_ok ⟨by decide +kernel, rfl⟩).mono fun e w5 g => ?_⟩
  obtain ⟨r7, rfl, rfl, hw⟩ := g
  obtain rfl := hw.symm
  refine ⟨_, rfl, ninf_c.mono fun e w5 g => ?_⟩
  obtain ⟨r8, rfl, rfl, hw⟩ := g
  obtain rfl := hw.symm
  refine ⟨_, rfl, M.new_blk fun b20 w5 hb20 B5 k5 => ?_⟩
  have k25 := k24.trans k5 (by simp)
  have T5 := T2.new k25
  have B75 := B4.keep k5 (by simp)
  have a5 : Aft W w5 := (((Aft.refl W).new k1).new k2).new k25
  have hX2 : ∀ x ∈ X, x < w2.heap.size := T2.a.lt
  have hq2 : ∀ x ∈ [q], x < w2.heap.size := T2.b.1
  have hb7l := B4.lt
  have hI : NI W w5 p q b7 b20 := ⟨X, [q], IS.zero, _, a5, T5, B75, B5, fun h => by
    rcases List.mem_append.1 h with h | h
    · have := hX2 _ h; omega
    · have := hq2 _ h; omega, fun h => by
    rcases List.mem_append.1 h with h | h
    · have := hX2 _ h; have := k24.size; omega
    · have := hq2 _ h; have := k24.size; omega⟩
  have hlen : fls.length = 9 := rfl
  refine M.loop1_by (fun x w => ∃ i : Nat, x = i ∧ i ≤ 9 ∧ NI W w p q b7 b20) (fun x _ => (9 - x).toNat) ⟨0, rfl, by omega, hI⟩ ?_
  rintro x w J ⟨i, rfl, hi, hN⟩ hJ
  have hN0 := hN
  obtain ⟨X1, E1, S1, T1, -, -, P1, G1, -, -⟩ := hN0
  refine M.ite_by (fun c => ?_) (fun c => ?_)
  · have c : (i : Int) < 9 := of_decide_eq_true c
    have il : i < fls.length := by omega
    have ei := List.getElem?_eq_getElem il
    have hcl := fls_lt _ (List.getElem_mem il)
    generalize fls[i] = cost at *
    have hc : w.cell? ((⟨b20, 0, none⟩ : Addr).add ((i : Int).toNat * 1)) = some (.float .f64 cost) := by
      rw [add_mk, show 0 + (i : Int).toNat * 1 = i by omega, G1.cell]
      simp [ei]
    refine ⟨_, rfl, by omega, c, _, hc, M.loop1_by (fun x w => ∃ j : Nat, x = j ∧ j ≤ 7 ∧ NI W w p q b7 b20) (fun x _ => (7 - x).toNat) ⟨0, rfl, by omega, hN⟩ ?_⟩
    rintro x w6 J6 ⟨j, rfl, hj, hN6⟩ hJ6
    refine M.ite_by (fun c6 => ?_) (fun c6 => ?_)
    · have c6 : (j : Int) < 7 := of_decide_eq_true c6
      have hN60 := hN6
      obtain ⟨X6, E6, S6, T6, -, -, P6, -, -, -⟩ := hN60
      refine ⟨_, P6.cell 0, _, P6.cell 1, M.new_blk fun b66 w7 hb66 B7 k7 => M.stA_blk B7 rfl fun w8 B8 k8 => ?_⟩
      have k68 : Keeps [] w6 w8 := k7.trans k8 (by simp; omega)
      have B8 : Blk w8 b66 33 (Wy.mk (167772160, 8) (Int.tmod (j : Int) 2 == 0) 0 0 cost).cells := B8
      have hb66w : w6.heap.size ≤ b66 := by omega
      refine M.join_by (fun (J : World → Prop) => ∀ w' (y : Wy), y.ty → Blk w' b66 33 y.cells → Keeps [] w6 w' → J w') (fun w9 y hy B9 k9 => ?_) fun J9 hJ9 => ?_
      · have hN9 := hN6.new k9
        refine M.join_by (fun (J : Bool → World → Prop) => ∀ w', NI W w' p q b7 b20 → J false w') (fun w10 h10 => M.ite_ff ?_) fun J10 hJ10 => ⟨_, _, _, _, _, _, B9.cs 0 _ rfl, (hN9.ask (x := ⟨1, y, 167772161, false⟩) ⟨hy, by show 167772161 < _; omega⟩).mono fun e w10 g => ?_⟩
        · rw [w64 (by omega) (by omega)]
          exact hJ6 _ _ ⟨j + 1, by omega, by omega, h10⟩ (by omega)
        · obtain ⟨r10, rfl, rfl, hN10⟩ := g
          refine ⟨_, rfl, M.ite_ff (hN10.same.mono fun e w11 g => ?_)⟩
          obtain ⟨r11, rfl, rfl, hN11⟩ := g
          exact ⟨_, rfl, hJ10 _ hN11⟩
      · have hst : ∀ {w' : World} {D : List Nat}, Keeps [b66] w8 w' → Keeps [] w6 w' := fun k => k68.trans k (by simp; omega)
        have t1 : (167772160 : Nat) < 4294967296 := by omega
        have ht : ∀ (d : Bool) (ln : Int) (n : Nat), n < 4294967296 → (Wy.mk (167772160, 8) d ln n cost).ty := fun d ln n hn => ⟨t1, hn, hcl⟩
        refine M.ite_by (fun _ => ?_) (fun _ => ?_)
        · exact M.st_blk B8 (by simp) fun w9 B9 k9 => hJ9 w9 (Wy.mk (167772160, 8) _ 0 7 cost) (ht _ _ _ (by omega)) B9 (k68.trans k9 (by simp; omega))
        refine M.ite_by (fun _ => ?_) (fun _ => ?_)
        · exact M.st_blk B8 (by simp) fun w9 B9 k9 => hJ9 w9 (Wy.mk (167772160, 8) _ 255 0 cost) (ht _ _ _ (by omega)) B9 (k68.trans k9 (by simp; omega))
        refine M.ite_by (fun _ => ?_) (fun _ => ?_)
        · exact M.st_blk B8 (by simp) fun w9 B9 k9 => hJ9 w9 (Wy.mk (167772160, 8) _ 1 0 cost) (ht _ _ _ (by omega)) B9 (k68.trans k9 (by simp; omega))
        refine M.ite_by (fun _ => ?_) (fun _ => ?_)
        · exact M.st_blk B8 (by simp) fun w9 B9 k9 => hJ9 w9 (Wy.mk (167772160, 8) _ 0 7 cost) (ht _ _ _ (by omega)) B9 (k68.trans k9 (by simp; omega))
        refine M.ite_by (fun _ => ?_) (fun _ => ?_)
        · exact M.st_blk0 B8 fun w9 B9 k9 => hJ9 w9 (Wy.mk (1, 8) _ 0 0 cost) ⟨by show 1 < _; omega, by show 0 < _; omega, hcl⟩ B9 (k68.trans k9 (by simp; omega))
        refine M.ite_by (fun _ => ?_) (fun _ => ?_)
        · exact M.st_blk B8 (by simp) fun w9 B9 k9 => hJ9 w9 (Wy.mk (167772160, 8) _ 256 0 cost) (ht _ _ _ (by omega)) B9 (k68.trans k9 (by simp; omega))
        · exact hJ9 w8 _ (ht _ _ _ (by omega)) B8 k68
    · have c6 : ¬ (j : Int) < 7 := of_decide_eq_false c6
      rw [w64 (by omega) (by omega)]
      exact hJ _ _ ⟨i + 1, by omega, by omega, hN6⟩ (by omega)
  · refine M.loop1_by (fun x w => ∃ j : Nat, x = j ∧ j ≤ 70 ∧ NI W w p q b7 b20) (fun x _ => (70 - x).toNat) ⟨0, rfl, by omega, hN⟩ ?_
    rintro x w6 J6 ⟨j, rfl, hj, hN6⟩ hJ6
    refine M.ite_by (fun c6 => ?_) (fun c6 => ?_)
    · have c6 : (j : Int) < 70 := of_decide_eq_true c6
      have hsh : ∃ n : Nat, bShl .u32 (IntKind.u32.wrap (j : Int)) (8 : Int) = (n : Int) ∧ n < 4294967296 := by
        unfold bShl
        rw [IntKind.wrap_u32]
        exact ⟨(_ % 4294967296 : Int).toNat, by rw [Int.toNat_of_nonneg (by omega)], by omega⟩
      obtain ⟨n, hn, hnl⟩ := hsh
      rw [hn]
      refine (hN6.ask (x := ⟨1, ⟨(n, 24), true, 0, 0, 0⟩, 0, false⟩) ⟨⟨hnl, by show 0 < _; omega, by show 0 < _; omega⟩, by show 0 < _; omega⟩).mono fun e w7 g => ?_
      obtain ⟨r7, rfl, rfl, hN7⟩ := g
      refine ⟨_, rfl, M.ite_ff ?_⟩
      rw [w64 (by omega) (by omega)]
      exact hJ6 _ _ ⟨j + 1, by omega, by omega, hN7⟩ (by omega)
    · refine M.join_by (fun (J : Bool → World → Prop) => ∀ w, Aft W w → J true w) (fun w h => ⟨rfl, h.1⟩) fun J9 hJ9 => hN6.same.mono fun e w7 g => ?_
      obtain ⟨r7, rfl, rfl, hN7⟩ := g
      have hN70 := hN7
      obtain ⟨X6, E6, S6, T6, -, -, P6, -, -, -⟩ := hN70
      refine ⟨_, rfl, M.ite_tt ⟨_, P6.cell 0, _, P6.cell 1, (hN7.ask (x := ⟨1, ⟨(167772160, 8), true, 9, 0, 0⟩, 0, false⟩) ⟨⟨by show 167772160 < _; omega, by show 0 < _; omega, by show 0 < _; omega⟩, by show 0 < _; omega⟩).mono fun e w8 g => ?_⟩⟩
      obtain ⟨r8, rfl, rfl, hN8⟩ := g
      have hN80 := hN8
      obtain ⟨X6, E6, S6, T6, -, -, P8, -, -, -⟩ := hN80
      refine ⟨_, rfl, M.ite_tt ⟨_, P8.cell 0, _, P8.cell 1, (hN8.ask (x := ⟨2, ⟨(167772160, 8), false, 0, 0, 0⟩, 0, false⟩) ⟨⟨by show 167772160 < _; omega, by show 0 < _; omega, by show 0 < _; omega⟩, by show 0 < _; omega⟩).mono fun e w9 g => ?_⟩⟩
      obtain ⟨r9, rfl, rfl, hN9⟩ := g
      obtain ⟨_, _, _, _, a9, _⟩ := hN9
      refine ⟨_, rfl, M.ite_tt ((iknown_a a9).mono fun e w10 g => ?_)⟩
      obtain ⟨r10, rfl, rfl, a10⟩ := g
      exact ⟨_, rfl, hJ9 _ a10⟩
theorem inumbers_law (W : World) (args : List Value) (h : GdArgs W [] args) : Calls Try.prog 6 args.toArray W fun e W' => e = .returned (.bool true) ∧ Below W.heap.size W W' := by
  cases h
  exact inumbers_c.mono fun e w' ⟨b, he, hb, hw⟩ => by subst hb; exact ⟨he, hw⟩
end Go.Proofs.Ytnkpjlojijppiaa
