/-
  Ways that are kept few; some runs.
-/
import Derived.Test.YtecegjimdohmeaaIgpE
import Derived.Test.YtecegjimdohmeaaSpRows
namespace Go.Proofs.Ytecegjimdohmeaa
set_option linter.unusedVariables false
set_option linter.unusedSimpArgs false
open Go.Sp

theorem rightP_top (A m : Nat) (h : m ≤ 32) : rightP (topN A m) (m : Int) = true :=
  (rightP_iff _ _).2 ⟨by omega, by omega, by rw [Int.toNat_natCast]; exact lowN_top _ _⟩
theorem less_c {w : World} {p q : Key} (hp : p.1 < 4294967296 ∧ rightP p.1 p.2 = true) (hq : q.1 < 4294967296 ∧ rightP q.1 q.2 = true) : Calls Try.prog 49 #[.agg #[.int .u32 (p.1 : Int), .int .i64 p.2], .agg #[.int .u32 (q.1 : Int), .int .i64 q.2]] w (R49 fun r w' => r = decide (kLt p q) ∧ Keeps [] w w') := by
  refine F49_ok (M.new_blk fun b w1 hb B k1 => M.new_blk fun c w2 hc C k2 => ?_)
  have B := B.keep k2 (by simp)
  have k2 := k1.trans k2 (by simp)
  refine M.join_by (fun J => ∀ w', Blk w' b 28 [.int .u32 (p.1 : Int), .int .i64 p.2] → Blk w' c 28 [.int .u32 (q.1 : Int), .int .i64 q.2] → Keeps [] w w' → J false w') (fun w4 B4 C4 k4 => ?_) fun J hJ => ⟨_, B.cell 0, _, B.cell 1, (rright_c hp.1 p.2).mono fun e w3 g => ?_⟩
  · refine M.ite_ff (M.join_by (fun J => J (decide (kLt p q)) w4) ⟨rfl, k4⟩ fun J hJ => ⟨_, B4.cell 0, _, C4.cell 0, M.ite_by (fun c1 => ?_) (fun c1 => ?_)⟩)
    · have c1 := of_decide_eq_true c1
      rw [decide_eq_true (show kLt p q from .inl (by omega))] at hJ
      exact hJ
    · have c1 := of_decide_eq_false c1
      refine ⟨_, B4.cell 0, _, C4.cell 0, M.ite_by (fun c2 => ?_) (fun c2 => ?_)⟩
      · have c2 : (p.1 : Int) = q.1 := by simpa using c2
        refine ⟨_, B4.cell 1, _, C4.cell 1, ?_⟩
        rw [show decide (kLt p q) = decide (p.2 < q.2) by apply decide_eq_decide.2; unfold kLt; omega] at hJ
        exact hJ
      · have c2 : ¬ (p.1 : Int) = q.1 := by simpa using c2
        rw [decide_eq_false (show ¬ kLt p q by unfold kLt; omega)] at hJ
        exact hJ
  · obtain ⟨r, rfl, rfl, k3⟩ := g
    rw [hp.2]
    refine ⟨_, rfl, M.ite_ff ⟨_, (C.keep k3 (by simp)).cell 0, _, (C.keep k3 (by simp)).cell 1, (rright_c hq.1 q.2).mono fun e w4 g => ?_⟩⟩
    obtain ⟨r, rfl, rfl, k4⟩ := g
    rw [hq.2]
    have k34 := k3.trans k4 (by simp)
    exact ⟨_, rfl, hJ w4 (B.keep k34 (by simp)) (C.keep k34 (by simp)) (k2.trans k34 (by simp))⟩
/-- Few ways. -/
theorem kway_c {w : World} {x : Wy} (hx : x.ty) : Calls Try.prog 15 #[x.agg] w (R15 fun x1 x2 x3 x4 x5 x6 w' => (∃ y : Wy, rightW y = true ∧ y.ty ∧ x1 = (y.pf.1 : Int) ∧ x2 = y.pf.2 ∧ x3 = y.direct ∧ x4 = y.link ∧ x5 = (y.next : Int) ∧ x6 = y.cost) ∧ Keeps [] w w') := by
  refine F15_ok (M.new_blk fun b2 w1 hb2 B k1 => M.new_blk fun b4 w2 hb4 C k2 => ?_)
  have hb2l := B.lt
  have hb4l := C.lt
  have B := B.keep k2 (by simp)
  have k02 := k1.trans k2 (by simp)
  have hs1 := k1.size
  have hs2 := k2.size
  -- the way that is made
  refine M.join_by (fun (J : Addr → World → Prop) => ∀ (q : Key) (b : Nat) w', rightP q.1 q.2 = true → q.1 < 4294967296 → w2.heap.size ≤ b → Blk w' b 32 [.int .u32 (q.1 : Int), .int .i64 q.2, .bool false, .int .i64 0, .int .u32 0, .float .f64 x.cost] → Keeps [] w2 w' → J ⟨b, 0, none⟩ w') (fun q b w3 hq1 hq2 hb G3 k3 => ?_) fun J hJ => M.drew_by ?_
  · refine M.join_by (fun (J : World → Prop) => ∀ (q : Key) w', rightP q.1 q.2 = true → q.1 < 4294967296 → Blk w' b 32 [.int .u32 (q.1 : Int), .int .i64 q.2, .bool false, .int .i64 0, .int .u32 0, .float .f64 x.cost] → Keeps [] w2 w' → J w') (fun q w4 hq1 hq2 G4 k4 => ?_) fun J hJ => ?_
    · refine M.join_by (fun (J : World → Prop) => ∀ (c : Nat) w', c < 18446744073709551616 → fGeq c 0 = true → Blk w' b 32 [.int .u32 (q.1 : Int), .int .i64 q.2, .bool false, .int .i64 0, .int .u32 0, .float .f64 c] → Keeps [] w2 w' → J w') (fun c w5 hc1 hc2 G5 k5 => ?_) fun J hJ => ?_
      · have B5 := B.keep k5 (by simp)
        have C5 := C.keep k5 (by simp)
        refine ⟨_, B5.cell 2, M.ite_by (fun cd => ?_) (fun cd => ?_)⟩
        · refine M.st_blk G5 (by simp) fun w6 G6 k6 => ?_
          have k26 : Keeps [] w2 w6 := k5.trans k6 (by simp; omega)
          refine ⟨_, (B.keep k26 (by simp)).cell 3, (within_c x.link 0 5 (by omega) (by omega) (by omega)).mono fun e w7 g => ?_⟩
          obtain ⟨r7, rfl, -, h0, h5, rfl⟩ := g
          refine ⟨_, rfl, M.st_blk G6 (by simp) fun w8 G8 k8 => ⟨_, _, _, _, _, _, G8.cs 0 _ rfl, ?_⟩⟩
          have k28 : Keeps [] w2 w8 := k26.trans k8 (by simp; omega)
          refine M.stA_blk (C.keep k28 (by simp)) rfl fun w9 C9 k9 => ⟨_, _, _, _, _, _, C9.cs 0 _ rfl, ⟨⟨q, true, r7, 0, c⟩, ?_, ⟨hq2, by show 0 < 4294967296; omega, hc1⟩, rfl, rfl, rfl, rfl, rfl, rfl⟩, (k02.trans k28 (by simp)).trans k9 (by simp; omega)⟩
          unfold rightW
          simp only [hq1, hc2, if_true, Bool.true_and]
          rw [decide_eq_true h0, decide_eq_true (by omega)]; rfl
        · obtain ⟨n, hn, hnl⟩ := bOr_u32 (3325256704 : Int) (Int.tmod (x.next : Int) (4 : Int))
          refine ⟨_, B5.cell 4, ?_⟩
          dsimp only
          rw [hn]
          refine M.st_blk G5 (by simp) fun w6 G6 k6 => ?_
          have k26 : Keeps [] w2 w6 := k5.trans k6 (by simp; omega)
          have G6 : Blk w6 b 32 [.int .u32 (q.1 : Int), .int .i64 q.2, .bool false, .int .i64 0, .int .u32 (n : Int), .float .f64 c] := G6
          refine M.join_by (fun (J : World → Prop) => ∀ (n : Nat) w', n < 4294967296 → Blk w' b 32 [.int .u32 (q.1 : Int), .int .i64 q.2, .bool false, .int .i64 0, .int .u32 (n : Int), .float .f64 c] → Keeps [] w2 w' → J w') (fun n w7 hn7 G7 k7 => ?_) fun J hJ => ⟨_, (B.keep k26 (by simp)).cell 4, M.ite_by (fun c5 => ?_) (fun c5 => hJ n _ hnl G6 k26)⟩
          · refine ⟨_, _, _, _, _, _, G7.cs 0 _ rfl, M.stA_blk (C.keep k7 (by simp)) rfl fun w9 C9 k9 => ⟨_, _, _, _, _, _, C9.cs 0 _ rfl, ⟨⟨q, false, 0, n, c⟩, ?_, ⟨hq2, hn7, hc1⟩, rfl, rfl, rfl, rfl, rfl, rfl⟩, (k02.trans k7 (by simp)).trans k9 (by simp; omega)⟩⟩
            unfold rightW
            simp only [hq1, hc2, Bool.true_and]
            rfl
          · refine ⟨_, (B.keep k26 (by simp)).cell 4, (show Calls Try.prog 14 #[.int .u32 (x.next : Int)] w6 (R14 fun r w' => r = bOr .u32 (3221225984 : Int) (Int.tmod (x.next : Int) (6 : Int)) ∧ w' = w6) from F14_ok ⟨rfl, rfl⟩).mono fun e w7 g => ?_⟩
            obtain ⟨r7, rfl, rfl, rfl⟩ := g
            obtain ⟨n', hn', hnl'⟩ := bOr_u32 (3221225984 : Int) (Int.tmod (x.next : Int) (6 : Int))
            refine ⟨_, rfl, ?_⟩
            rw [hn']
            exact M.st_blk G6 (by simp) fun w8 G8 k8 => hJ n' _ hnl' G8 (k26.trans k8 (by simp; omega))
      · have B4 := B.keep k4 (by simp)
        refine ⟨_, B4.cell 5, M.ite_by (fun c1 => ?_) (fun c1 => ?_)⟩
        · refine ⟨_, B4.cell 3, (within_c x.link 0 3 (by omega) (by omega) (by omega)).mono fun e w7 g => ?_⟩
          obtain ⟨r7, rfl, -, h0, h5, rfl⟩ := g
          refine ⟨_, rfl, M.st_blk G4 (by simp) fun w8 G8 k8 => hJ (fOfInt r7) _ ?_ ?_ G8 (k4.trans k8 (by simp; omega))⟩
          · have : r7 = 0 ∨ r7 = 1 ∨ r7 = 2 ∨ r7 = 3 := by omega
            rcases this with rfl | rfl | rfl | rfl <;> decide +kernel
          · have : r7 = 0 ∨ r7 = 1 ∨ r7 = 2 ∨ r7 = 3 := by omega
            rcases this with rfl | rfl | rfl | rfl <;> decide +kernel
        · exact hJ x.cost _ hx.2.2 (by simpa using c1) G4 k4
    · have B3 := B.keep k3 (by simp)
      refine ⟨_, B3.cell 1, M.ite_by (fun c1 => M.drew_by ?_) (fun c1 => hJ q _ hq1 hq2 G3 k3)⟩
      have kd := Keeps.drew [] w3
      have k34 := k3.trans kd (by simp)
      have B4 := B3.keep kd (by simp)
      have G4 := G3.keep kd (by simp)
      generalize w3.drew = w4 at *
      refine ⟨_, B4.cell 0, _, B4.cell 1, (within_c x.pf.2 0 2 (by omega) (by omega) (by omega)).mono fun e w7 g => ?_⟩
      obtain ⟨r7, rfl, -, h0, h5, hw⟩ := g
      obtain rfl := hw.symm
      obtain ⟨A, hA, hAl⟩ := bOr_u32 (3325256704 : Int) (Int.tmod (x.pf.1 : Int) (4 : Int))
      refine ⟨_, rfl, B4.cell 0, ?_⟩
      try dsimp only
      rw [hA]
      refine (rof_c hAl _).mono fun e w8 g => ?_
      obtain ⟨x8, y8, rfl, rfl, rfl, k8⟩ := g
      refine ⟨_, _, rfl, ?_⟩
      refine M.stA_part (pre := []) (post := [.bool false, .int .i64 0, .int .u32 0, .float .f64 x.cost]) (old := [.int .u32 (q.1 : Int), .int .i64 q.2]) (G4.keep k8 (by simp)) rfl rfl rfl fun w9 G9 k9 => hJ (topN A (clampN (IntKind.i64.wrap (30 + r7))), (clampN (IntKind.i64.wrap (30 + r7)) : Int)) _ (rightP_top _ _ (clampN_le _)) (topN_lt hAl) G9 ((k34.trans k8 (by simp)).trans k9 (by simp; omega))
  · have kd := Keeps.drew [] w2
    have B3 := B.keep kd (by simp)
    have hsd := kd.size
    generalize w2.drew = w3 at *
    obtain ⟨A, hA, hAl⟩ := bOr_u32 (3221225984 : Int) (Int.tmod (x.pf.1 : Int) (8 : Int))
    have hR : ∀ n, rightP (topN A (clampN n)) (clampN n : Int) = true := fun n => rightP_top _ _ (clampN_le _)
    refine ⟨_, B3.cell 0, _, B3.cell 1, _, B3.cell 5, ?_⟩
    dsimp only
    rw [hA]
    have hz : ∀ {w' : World} {K : World → Prop} {b : Nat} {cs : List Value} {q : Key}, Blk w' b 32 cs → cs.length = 6 → (∀ w'', Blk w'' b 32 [.int .u32 (q.1 : Int), .int .i64 q.2, .bool false, .int .i64 0, .int .u32 0, .float .f64 x.cost] → Keeps [b] w' w'' → K w'') → M.stA ⟨b, 0, none⟩ [.int .u32 (q.1 : Int), .int .i64 q.2, .bool false, .int .i64 0, .int .u32 0, .float .f64 x.cost] w' K := fun hB hl h => M.stA_blk hB hl h
    refine ⟨?_, ?_⟩
    · refine (within_c x.pf.2 0 3 (by omega) (by omega) (by omega)).mono fun e w7 g => ?_
      obtain ⟨r7, rfl, -, h0, h5, hw⟩ := g
      obtain rfl := hw.symm
      refine ⟨_, rfl, B3.cell 5, B3.cell 0, ?_, ?_⟩
      · refine (rof_c hAl _).mono fun e w8 g => ?_
        obtain ⟨x8, y8, rfl, rfl, rfl, k8⟩ := g
        have B8 := B3.keep k8 (by simp)
        refine ⟨_, _, rfl, B8.cell 5, M.new_blk fun b w9 hb G k9 => ⟨(B8.keep k9 (by simp)).cell 5, (B8.keep k9 (by simp)).cell 1, (B8.keep k9 (by simp)).cell 0, ?_⟩⟩
        have h8 := k8.size
        exact hz (q := (topN A _, (clampN _ : Int))) G rfl fun w10 G10 k10 => hJ _ _ _ (hR _) (topN_lt hAl) (by omega) G10 (((kd.trans k8 (by simp)).trans k9 (by simp)).trans k10 (by simp; omega))
      · refine M.new_blk fun b w9 hb G k9 => ⟨(B3.keep k9 (by simp)).cell 5, (B3.keep k9 (by simp)).cell 1, (B3.keep k9 (by simp)).cell 0, ?_⟩
        refine (rof_c hAl _).mono fun e w8 g => ?_
        obtain ⟨x8, y8, rfl, rfl, rfl, k8⟩ := g
        have k39 := k9.trans k8 (by simp)
        have B8 := B3.keep k39 (by simp)
        have h8 := k8.size
        refine ⟨_, _, rfl, B8.cell 5, hz (q := (topN A _, (clampN _ : Int))) (G.keep k8 (by simp)) rfl fun w10 G10 k10 => hJ _ _ _ (hR _) (topN_lt hAl) (by omega) G10 ((kd.trans k39 (by simp)).trans k10 (by simp; omega))⟩
    · refine M.new_blk fun b w9 hb G k9 => ⟨(B3.keep k9 (by simp)).cell 5, (B3.keep k9 (by simp)).cell 1, (B3.keep k9 (by simp)).cell 0, ?_⟩
      have B9 := B3.keep k9 (by simp)
      refine (within_c x.pf.2 0 3 (by omega) (by omega) (by omega)).mono fun e w7 g => ?_
      obtain ⟨r7, rfl, -, h0, h5, hw⟩ := g
      obtain rfl := hw.symm
      refine ⟨_, rfl, B9.cell 5, B9.cell 0, ?_⟩
      refine (rof_c hAl _).mono fun e w8 g => ?_
      obtain ⟨x8, y8, rfl, rfl, rfl, k8⟩ := g
      have k39 := k9.trans k8 (by simp)
      have B8 := B3.keep k39 (by simp)
      have h8 := k8.size
      refine ⟨_, _, rfl, B8.cell 5, hz (q := (topN A _, (clampN _ : Int))) (G.keep k8 (by simp)) rfl fun w10 G10 k10 => hJ _ _ _ (hR _) (topN_lt hAl) (by omega) G10 ((kd.trans k39 (by simp)).trans k10 (by simp; omega))⟩
end Go.Proofs.Ytecegjimdohmeaa
