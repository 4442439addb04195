/-
  NOTIFICATIONs' bodies: what their functions do.
-/
import Derived.Test.YtdlefnpnnpohmaaOpenC
import Derived.Test.YtdlefnpnnpohmaaSpZero
namespace Go.Proofs.Ytdlefnpnnpohmaa
set_option linter.unusedVariables false
set_option linter.unusedSimpArgs false
open Go.Sp

theorem u8Zero : zeroB Try.prog 5 (.int .u8 0) := ⟨Try.t5, rfl, rfl, rfl, rfl⟩
theorem intInt : Try.prog.underlying 3 = some (.int .i64) := by kernel_rfl
theorem rep_zero (n : Nat) : List.replicate n (Value.int .u8 0) = bv (List.replicate n 0) := by simp [bv]
theorem zeros_b {w : World} {s : SV} {bs : List UInt8} (ho : Own 5 1 w s (bv bs)) (n : Nat) (hb : bs.length + n ≤ 140737488355328) :
    ∃ r w', (Builtin.append_ #[23, 3] 23 #[s.v, .int .i64 (n : Int)]).run Try.prog w = .ok (SV.v r) w' ∧ Own 5 1 w' r (bv (bs ++ List.replicate n 0)) ∧ r.len = s.len + n ∧ Keeps s.blk w w' ∧ (∀ k ∈ r.blk, k ∈ s.blk ∨ w.heap.size ≤ k) := by
  have hl := ho.rd.len
  rw [bv_length, Nat.mul_one] at hl
  obtain ⟨r, w', h1, h2, h3, h4, h5⟩ := app_zeros (P := Try.prog) (ty := 23) wireSl wireEl intInt u8Zero ho .i64 n (by omega)
  exact ⟨r, w', h1, by rw [bv_append, ← rep_zero]; exact h2, h3, h4, h5⟩
theorem grow_c {w : World} (n : Nat) (hn : n ≤ 1099511627776) : Calls Try.prog 42 #[SV.nil.v, .int .i64 (n : Int)] w (R42 fun r w' => Own 5 1 w' r (bv []) ∧ (∀ k ∈ r.blk, w.heap.size ≤ k) ∧ Keeps [] w w') := by
  refine F42_ok (M.join_by (fun J => J w) ?_ fun J hJ => M.ite_n (decide_eq_false (by omega)) hJ)
  refine M.join_by (fun J => ∀ r w', Own 5 1 w' r (bv []) → (∀ k ∈ r.blk, w.heap.size ≤ k) → Keeps [] w w' → J r w') (fun r w' h1 h2 h3 => ⟨h1, h2, h3⟩) fun J hJ => ?_
  have e : IntKind.i64.wrap ((n : Int) - IntKind.i64.wrap ((SV.nil.cap : Int) - (SV.nil.len : Int))) = (n : Int) := by
    show IntKind.i64.wrap ((n : Int) - IntKind.i64.wrap ((0 : Int) - 0)) = n
    rw [w64 (n := (0 : Int) - 0) (by omega) (by omega), w64 (by omega) (by omega)]; omega
  rw [e]
  refine M.ite_by (fun c => ?_) (fun c => hJ _ _ (Own.nil _ _ _) (by simp [SV.blk]) (Keeps.refl _ _))
  obtain ⟨r, w', h1, h2, h3, h4, h5⟩ := zeros_b (w := w) (s := SV.nil) (bs := []) (Own.nil _ _ _) n (by simp; omega)
  have hc := h2.rd.cap
  refine ⟨by omega, Int.natCast_nonneg _, Int.le_refl _, r, w', h1, by omega, Int.natCast_nonneg _, ?_, hJ _ _ (h2.head (u := 0) (by omega)) ?_ h4⟩
  · show (0 : Int) ≤ _; omega
  · intro k hk
    rw [SV.sub_blk] at hk
    rcases h5 k hk with h | h
    · simp [SV.blk] at h
    · exact h
theorem concat_c {w : World} {s : SV} {L : List (SV × List UInt8)} (hs : Rd 1 w s (L.map fun x => x.1.v)) (hL : ∀ x ∈ L, Rd 1 w x.1 (bv x.2)) (hb : (L.flatMap (·.2)).length ≤ 1000000) (hn : L.length ≤ 1000) :
    Calls Try.prog 35 #[s.v] w (R35 fun r w' => Own 5 1 w' r (bv (L.flatMap (·.2))) ∧ (∀ k ∈ r.blk, w.heap.size ≤ k) ∧ Keeps [] w w') := by
  have hl := hs.len
  rw [List.length_map, Nat.mul_one] at hl
  have hpre : ∀ i, ((L.take i).flatMap (·.2)).length ≤ (L.flatMap (·.2)).length := by
    intro i
    have : L.flatMap (·.2) = (L.take i).flatMap (·.2) ++ (L.drop i).flatMap (·.2) := by rw [← List.flatMap_append, List.take_append_drop]
    rw [this, List.length_append]; omega
  have hsnoc : ∀ i (h : i < L.length), (L.take (i + 1)).flatMap (·.2) = (L.take i).flatMap (·.2) ++ L[i].2 := by
    intro i h
    rw [List.take_succ_eq_append_getElem h, List.flatMap_append]; simp
  refine F35_ok ?_
  refine M.loop2_by (fun x y w' => ∃ i : Nat, y = i ∧ i ≤ L.length ∧ x = (((L.take i).flatMap (·.2)).length : Int) ∧ w' = w) (fun _ y _ => L.length - y.toNat) ⟨0, rfl, by omega, by simp, rfl⟩ ?_
  rintro x y w' J ⟨i, rfl, hi, rfl, rfl⟩ hJ
  have hp := hpre i
  refine M.ite_by (fun c => ?_) (fun c => ?_)
  · have c := of_decide_eq_true c
    have il : i < L.length := by omega
    obtain ⟨a, ha⟩ := hs.some (by omega)
    have hc := hs.at ha (i := i) (v := L[i].1.v) (by simp [List.getElem?_eq_getElem il])
    have hx := (hL _ (List.getElem_mem il)).len
    rw [bv_length, Nat.mul_one] at hx
    have hp1 := hpre (i + 1)
    have hsn := hsnoc i il
    rw [hsn, List.length_append] at hp1
    refine M.join_by (fun J2 => J2 ((((L.take (i + 1)).flatMap (·.2)).length : Int)) w') ?_ fun J2 hJ2 => ⟨a, ha, by omega, c, L[i].1, by simpa using hc, ?_⟩
    · try dsimp only
      rw [w64 (by omega) (by omega)]
      exact hJ _ _ _ ⟨i + 1, by omega, by omega, rfl, rfl⟩ (by omega)
    · try dsimp only
      rw [w64 (by omega) (by omega)]
      refine M.ite_n (by simp; omega) ?_
      rw [hsn, List.length_append] at hJ2
      rw [show (((L.take i).flatMap (·.2)).length : Int) + (L[i].1.len : Int) = ((((L.take i).flatMap (·.2)).length + L[i].2.length : Nat) : Int) by omega]
      exact hJ2
  · have c := of_decide_eq_false c
    have hil : i = L.length := by omega
    subst hil
    rw [List.take_length] at *
    refine (grow_c _ (by omega)).mono fun e w2 g => ?_
    obtain ⟨r, rfl, o2, f2, k2⟩ := g
    refine ⟨_, rfl, ?_⟩
    refine M.loop2_by (fun x y w3 => ∃ i : Nat, y = i ∧ i ≤ L.length ∧ Own 5 1 w3 x (bv ((L.take i).flatMap (·.2))) ∧ (∀ k ∈ x.blk, w'.heap.size ≤ k) ∧ Keeps [] w' w3) (fun _ y _ => L.length - y.toNat) ⟨0, rfl, by omega, by simpa using o2, f2, k2⟩ ?_
    rintro x y w3 J2 ⟨i, rfl, hi, ho, hf, hk⟩ hJ2
    have hp := hpre i
    refine M.ite_by (fun c => ?_) (fun c => ?_)
    · have c := of_decide_eq_true c
      have il : i < L.length := by omega
      obtain ⟨a, ha⟩ := hs.some (by omega)
      have hc := (hs.keep hk (by simp)).at ha (i := i) (v := L[i].1.v) (by simp [List.getElem?_eq_getElem il])
      have hp1 := hpre (i + 1)
      have hsn := hsnoc i il
      rw [hsn, List.length_append] at hp1
      obtain ⟨r4, w4, v1, v2, v3, v4⟩ := app_b ho ((hL _ (List.getElem_mem il)).keep hk (by simp)) (by omega)
      refine ⟨a, ha, by omega, c, L[i].1, by simpa using hc, r4, w4, v1, ?_⟩
      rw [w64 (by omega) (by omega)]
      refine hJ2 _ _ _ ⟨i + 1, by omega, by omega, by rw [hsn]; exact v2, fun k hk4 => ?_, hk.trans v3 (fun y hy => .inr (hf y hy))⟩ (by omega)
      rcases v4 k hk4 with h | h
      · exact hf k h
      · have := hk.size; omega
    · have c := of_decide_eq_false c
      have hil : i = L.length := by omega
      subst hil
      rw [List.take_length] at ho
      exact ⟨ho, hf, hk⟩
theorem encn_c {w : World} (c s : Int) {d : SV} {ds : List UInt8} (hd : Rd 1 w d (bv ds)) (hb : ds.length ≤ 100000) :
    Calls Try.prog 18 #[.agg #[.int .i64 c, .int .i64 s, d.v]] w (R18 fun r w' => Own 5 1 w' r (bv (lowB c 1 ++ lowB s 1 ++ ds)) ∧ (∀ k ∈ r.blk, w.heap.size ≤ k) ∧ Keeps [] w w') := by
  refine F18_ok (M.new_blk fun b w1 hb1 B k1 => ⟨_, B.cell 0, _, B.cell 1, M.new_by ?_⟩)
  have h2 : (lowB c 1 ++ lowB s 1).length = 2 := by simp [lowB_len]
  have hbv : bv (lowB c 1 ++ lowB s 1) = [.int .u8 (IntKind.u8.wrap c), .int .u8 (IntKind.u8.wrap s)] := by rw [bv_append, lowB1, lowB1]; rfl
  have n2 := new_b w1 (lowB c 1 ++ lowB s 1) (by omega)
  have kal := Keeps.alloc [] w1 (.cells (bv (lowB c 1 ++ lowB s 1)).toArray 5)
  rw [h2] at n2
  have B2 := B.keep kal (by simp)
  have hd2 := (hd.keep k1 (by simp)).keep kal (by simp)
  generalize hw2 : w1.alloc (.cells (bv (lowB c 1 ++ lowB s 1)).toArray 5) = w2 at *
  have hw2' : w1.alloc (.cells #[(Value.int .u8 (IntKind.u8.wrap c)), (Value.int .u8 (IntKind.u8.wrap s))] 5) = w2 := by rw [← hw2, hbv]
  dsimp only
  rw [hw2']
  refine ⟨_, B2.cell 2, M.new_blk fun b3 w3 hb3 B3 k3 => ?_⟩
  have hL : Rd 1 w3 (SV.mk (some ⟨b3, 0, none⟩) 2 2) (([(⟨some ⟨w1.heap.size, 0, none⟩, 2, 2⟩, lowB c 1 ++ lowB s 1), (d, ds)] : List (SV × List UInt8)).map fun x => x.1.v) := by
    refine ⟨rfl, Nat.le_refl _, fun h => (by cases h), fun a ha i v hv => ?_⟩
    cases ha
    rw [add_mk, Nat.zero_add, B3.cell]
    exact hv
  refine (concat_c hL (by
    intro x hx
    rcases List.mem_cons.1 hx with rfl | hx
    · exact n2.keep k3 (by simp)
    · rcases List.mem_cons.1 hx with rfl | hx
      · exact hd2.keep k3 (by simp)
      · simp at hx) (by simp [lowB_len]; omega) (by simp)).mono fun e w4 g => ?_
  obtain ⟨r, rfl, o4, f4, k4⟩ := g
  refine ⟨_, rfl, by simpa using o4, fun k hk => ?_, ((k1.trans kal (by simp)).trans k3 (by simp)).trans k4 (by simp)⟩
  have h1 := f4 k hk
  have h2 := k1.size
  have h3 := kal.size
  have h4 := k3.size
  omega
theorem decn_c {w : World} {s : SV} {bs : List UInt8} (hs : Rd 1 w s (bv bs)) (hb : bs.length ≤ 100000) :
    Calls Try.prog 17 #[s.v] w (R17 fun c x d ok w' => (match bs with
      | b0 :: b1 :: ds => ok = true ∧ c = (b0.toNat : Int) ∧ x = (b1.toNat : Int) ∧ Rd 1 w' d (bv ds)
      | _ => ok = false ∧ c = 0 ∧ x = 0 ∧ d = SV.nil) ∧ Keeps [] w w') := by
  have hl := hs.len
  have hc := hs.cap
  rw [bv_length, Nat.mul_one] at hl
  refine F17_ok (M.new_blk fun b w1 hb1 B k1 => M.ite_by (fun c => ?_) (fun c => ?_))
  · have c := of_decide_eq_true c
    refine M.stA_blk B rfl fun w2 B2 k2 => ⟨_, B2.cell 0, _, B2.cell 1, _, B2.cell 2, ?_, k1.trans k2 (by simp; omega)⟩
    match bs, hl with
    | [], _ => exact ⟨rfl, rfl, rfl, rfl⟩
    | [_], _ => exact ⟨rfl, rfl, rfl, rfl⟩
    | _ :: _ :: _, hl => simp at hl; omega
  · have c := of_decide_eq_false c
    obtain ⟨b0, b1, ds, rfl⟩ : ∃ b0 b1 ds, bs = b0 :: b1 :: ds := by
      match bs, hl with
      | [], hl => simp at hl; omega
      | [_], hl => simp at hl; omega
      | b0 :: b1 :: ds, _ => exact ⟨b0, b1, ds, rfl⟩
    have kd := Keeps.drew [] w1
    have k2 := k1.trans kd (by simp)
    have hs2 := hs.keep k2 (by simp)
    obtain ⟨a, ha⟩ := hs2.some (by omega)
    have e0 := hs2.at ha (i := 0) (v := .int .u8 (b0.toNat : Int)) rfl
    have e1 := hs2.at ha (i := 1) (v := .int .u8 (b1.toNat : Int)) rfl
    simp only [List.length_cons] at hl hb
    have hsub := hs2.sub (l := 2) (u := s.len) (by omega) (by omega)
    simp only [Nat.mul_one, bv_drop, bv_take, List.drop_succ_cons, List.drop_zero] at hsub
    rw [List.take_of_length_le (by omega)] at hsub
    refine M.drew_by ⟨a, ha, by omega, by omega, a, ha, by omega, by omega, by omega, by omega, by omega, _, e0, _, e1, (clone_c hsub (by omega)).mono fun e w3 g => ?_⟩
    obtain ⟨r3, rfl, o3, l3, k3, f3⟩ := g
    have hs3 := hs2.keep k3 (by simp)
    have h0 := b0.toNat_lt
    have h1 := b1.toNat_lt
    refine ⟨_, rfl, hs3.at ha (i := 1) rfl, hs3.at ha (i := 0) rfl, M.stA_blk (B.keep (kd.trans k3 (by simp)) (by simp)) rfl fun w4 B4 k4 => ⟨_, B4.cell 0, _, B4.cell 1, _, B4.cell 2, ⟨rfl, ?_, ?_, ?_⟩, (k2.trans k3 (by simp)).trans k4 (by simp; omega)⟩⟩
    · rw [w64 (by omega) (by omega)]
    · rw [w64 (by omega) (by omega)]
    · refine (o3.keep k4 (fun y hy h => ?_)).rd
      have := f3 y hy
      have := B.lt
      have hd' : w1.drew.heap.size = w1.heap.size := rfl
      simp at h
      omega
end Go.Proofs.Ytdlefnpnnpohmaa
