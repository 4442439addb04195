/-
  OpenFirst: of several things that may not be the first one is told.
-/
import Derived.Test.YtdlefnpnnpohmaaOpenC
namespace Go.Proofs.Ytdlefnpnnpohmaa
set_option linter.unusedVariables false
set_option linter.unusedSimpArgs false
open Go.Sp
open Go.RowKit (Below)

/-- One byte of an owned slice is written. -/
theorem Own.byte {w : World} {s : SV} {bs : List UInt8} (h : Own 5 1 w s (bv bs)) {a : Addr} (ha : s.a = some a) (j : Nat) (hj : j < bs.length) (c : UInt8) {K : World → Prop} (hK : ∀ w', Own 5 1 w' s (bv (bs.set j c)) → Keeps s.blk w w' → K w') :
    M.st (a.add j) (Value.int .u8 (c.toNat : Int)) w K := by
  obtain ⟨u1, u2, u3, u4⟩ := h.put ha (j := j) (by rw [bv_length]; exact hj) (Value.int .u8 (c.toNat : Int))
  rw [bv_set] at u3
  exact ⟨u1, u2, hK _ u3 u4⟩

/-- The ten bytes as far as the thing that is first lets them be; how many bytes stand behind them. -/
def firstB (k n : Nat) : List UInt8 :=
  let b : List UInt8 := [4, 0, 1, 0, 9, 0, 0, 0, 1, 0]
  let b := if k ≤ 6 then (b.set 1 0).set 2 0 else b
  let b := if k ≤ 5 then b.set 8 0 else b
  let b := if k ≤ 4 then b.set 4 2 else b
  let b := if k ≤ 3 then b.set 9 (UInt8.ofNat n) else b
  let b := if k ≤ 2 then b.set 9 (UInt8.ofNat (n + 1)) else b
  if k ≤ 1 then b.set 0 3 else b
def wantN (k : Nat) : Int × Int × List UInt8 := match k with
  | 0 => (2, 0, [])
  | 1 => (2, 1, [0, 4])
  | 2 => (2, 0, [])
  | 3 => (2, 4, [])
  | 4 => (2, 6, [])
  | 5 => (2, 3, [])
  | _ => (2, 2, [])
theorem first_dec (k : Nat) (hk : k ≤ 6) (m : List UInt8) (hm : m.length ≤ 20) :
    decH (if k = 0 then (firstB k (m.length + 1) ++ 7 :: m).take 9 else if k ≤ 3 then firstB k (m.length + 1) ++ 7 :: m else firstB k (m.length + 1) ++ []) = ⟨0, 0, 0, (wantN k).1, (wantN k).2.1, (wantN k).2.2⟩ := by
  have h1 : (UInt8.ofNat (m.length + 1)).toNat = m.length + 1 := by rw [UInt8.toNat_ofNat']; omega
  have h2 : (UInt8.ofNat (m.length + 1 + 1)).toNat = m.length + 2 := by rw [UInt8.toNat_ofNat']; omega
  have hk7 : k = 0 ∨ k = 1 ∨ k = 2 ∨ k = 3 ∨ k = 4 ∨ k = 5 ∨ k = 6 := by omega
  rcases hk7 with rfl | rfl | rfl | rfl | rfl | rfl | rfl
  · simp [firstB, decH, wantN]
  · simp [firstB, decH, wantN, be]
  · simp [firstB, decH, wantN, be]
    intro h; omega
  · simp [firstB, decH, wantN, be]
    rw [if_neg (by omega), if_neg (by omega), if_pos (by omega)]
  · simp [firstB, decH, wantN, be]
  · simp [firstB, decH, wantN, be]
  · simp [firstB, decH, wantN, be]

theorem first_c {W : World} (p0 : Int) {s : SV} {bs : List UInt8} (hs : Rd 1 W s (bv bs)) :
    Calls Try.prog 4 #[.int .i64 p0, s.v] W (R4 fun r w' => r = true ∧ Below W.heap.size W w') := by
  have hcw : ∀ {c : UInt8} {x : Int}, x = (c.toNat : Int) → Value.int .u8 x = Value.int .u8 (c.toNat : Int) := fun h => by rw [h]
  refine F4_ok (M.new_by ?_)
  have kal := Keeps.alloc [] W (.cells (bv [4, 0, 1, 0, 9, 0, 0, 0, 1, 0]).toArray 5)
  have o1 : Own 5 1 (W.alloc (.cells (bv [4, 0, 1, 0, 9, 0, 0, 0, 1, 0]).toArray 5)) (SV.mk (some ⟨W.heap.size, 0, none⟩) 10 10) (bv [4, 0, 1, 0, 9, 0, 0, 0, 1, 0]) := Own.new W 5 1 10 _ rfl (by decide)
  have a1 := (Aft.refl W).new kal
  have hblk : (SV.mk (some ⟨W.heap.size, 0, none⟩) 10 10).blk = [W.heap.size] := rfl
  refine (within_c p0 0 6 (by omega) (by omega) (by omega)).mono fun e w1 g => ?_
  obtain ⟨r4, rfl, _, h0, h6, rfl⟩ := g
  obtain ⟨k, rfl⟩ := Int.eq_ofNat_of_zero_le h0
  have hk6 : k ≤ 6 := by omega
  refine ⟨_, rfl, (cut_c (hs.arg a1.1) 20).mono fun e w2 g => ?_⟩
  obtain ⟨r6, rfl, rfl, c6⟩ := g
  have hm : (bs.take 20).length ≤ 20 := by rw [List.length_take]; omega
  have c6' : ∀ {w : World}, Aft W w → Rd 1 w r6 (bv (bs.take 20)) := fun h => c6 _ (hs.arg h.1)
  generalize bs.take 20 = m at *
  generalize hS : SV.mk (some ⟨W.heap.size, 0, none⟩) 10 10 = S at *
  have hSa : S.a = some ⟨W.heap.size, 0, none⟩ := by rw [← hS]
  have hSl : S.len = 10 := by rw [← hS]
  generalize W.alloc (.cells (bv [4, 0, 1, 0, 9, 0, 0, 0, 1, 0]).toArray 5) = w0 at *
  have wr : ∀ {w : World} {L : List UInt8} (j : Nat) (c : UInt8) {x : Int} {K : World → Prop}, Own 5 1 w S (bv L) → Aft W w → L.length = 10 → j < 10 → x = (c.toNat : Int) → (∀ w', Own 5 1 w' S (bv (L.set j c)) → Aft W w' → Keeps [W.heap.size] w w' → K w') → M.st ((⟨W.heap.size, 0, none⟩ : Addr).add j) (Value.int .u8 x) w K := by
    intro w L j c x K h1 h2 h3 h4 h5 h6
    subst h5
    exact Own.byte h1 hSa j (by omega) c (fun w' o k => h6 w' o (h2.step k (by rw [hblk]; simp)) (by rw [← hblk]; exact k))
  have hlen : ∀ (c : Prop) [Decidable c] (L M : List UInt8), L.length = 10 → M.length = 10 → (if c then L else M).length = 10 := by
    intro c _ L M h1 h2; split <;> assumption
  refine ⟨_, rfl, ?_⟩
  refine M.join_by (fun J => ∀ w, Own 5 1 w S (bv (if k ≤ 6 then (([4, 0, 1, 0, 9, 0, 0, 0, 1, 0] : List UInt8).set 1 0).set 2 0 else [4, 0, 1, 0, 9, 0, 0, 0, 1, 0])) → Aft W w → J w) (fun w3 o3 a3 => ?_) (fun J hJ => ?_)
  rotate_left
  · refine M.ite_by (fun c => ?_) (fun c => ?_)
    · have c := of_decide_eq_true c
      refine ⟨_, hSa, by omega, by omega, wr 1 0 o1 a1 rfl (by omega) rfl (fun w' o' a' _ => ⟨_, hSa, by omega, by omega, wr 2 0 o' a' rfl (by omega) rfl (fun w2 o2 a2 _ => hJ _ ?_ a2)⟩)⟩
      rw [if_pos (by omega)]; exact o2
    · have c := of_decide_eq_false c
      omega
  have l3 : (if k ≤ 6 then (([4, 0, 1, 0, 9, 0, 0, 0, 1, 0] : List UInt8).set 1 0).set 2 0 else [4, 0, 1, 0, 9, 0, 0, 0, 1, 0]).length = 10 := hlen _ _ _ rfl rfl
  generalize hL3 : (if k ≤ 6 then (([4, 0, 1, 0, 9, 0, 0, 0, 1, 0] : List UInt8).set 1 0).set 2 0 else [4, 0, 1, 0, 9, 0, 0, 0, 1, 0]) = L3 at *
  refine M.join_by (fun J => ∀ w, Own 5 1 w S (bv (if k ≤ 5 then L3.set 8 0 else L3)) → Aft W w → J w) (fun w4 o4 a4 => ?_) (fun J hJ => ?_)
  rotate_left
  · refine M.ite_by (fun c => ?_) (fun c => ?_)
    · have c := of_decide_eq_true c
      refine ⟨_, hSa, by omega, by omega, wr 8 0 o3 a3 l3 (by omega) rfl (fun w2 o2 a2 _ => hJ _ ?_ a2)⟩
      rw [if_pos (by omega)]; exact o2
    · have c := of_decide_eq_false c
      refine hJ _ ?_ a3
      rw [if_neg (by omega)]; exact o3
  have l4 : (if k ≤ 5 then L3.set 8 0 else L3).length = 10 := hlen _ _ _ (by simpa using l3) l3
  generalize hL4 : (if k ≤ 5 then L3.set 8 0 else L3) = L4 at *
  refine M.join_by (fun J => ∀ w, Own 5 1 w S (bv (if k ≤ 4 then L4.set 4 2 else L4)) → Aft W w → J w) (fun w5 o5 a5 => ?_) (fun J hJ => ?_)
  rotate_left
  · refine M.ite_by (fun c => ?_) (fun c => ?_)
    · have c := of_decide_eq_true c
      refine ⟨_, hSa, by omega, by omega, wr 4 2 o4 a4 l4 (by omega) rfl (fun w2 o2 a2 _ => hJ _ ?_ a2)⟩
      rw [if_pos (by omega)]; exact o2
    · have c := of_decide_eq_false c
      refine hJ _ ?_ a4
      rw [if_neg (by omega)]; exact o4
  have l5 : (if k ≤ 4 then L4.set 4 2 else L4).length = 10 := hlen _ _ _ (by simpa using l4) l4
  generalize hL5 : (if k ≤ 4 then L4.set 4 2 else L4) = L5 at *
  refine M.join_by (fun J => ∀ x w, Own 5 1 w S (bv (if k ≤ 3 then L5.set 9 (UInt8.ofNat (m.length + 1)) else L5)) → Aft W w → Rd 1 w x (bv (if k ≤ 3 then 7 :: m else [])) → (∀ y ∈ x.blk, y ≠ W.heap.size) → J x w) (fun x6 w6 o6 a6 r6 b6 => ?_) (fun J hJ => ?_)
  rotate_left
  · refine M.ite_by (fun c => ?_) (fun c => ?_)
    · have c := of_decide_eq_true c
      refine M.new_by ?_
      have kal6 := Keeps.alloc [] w5 (.cells (bv [7]).toArray 5)
      have n6 : Own 5 1 (w5.alloc (.cells (bv [7]).toArray 5)) (SV.mk (some ⟨w5.heap.size, 0, none⟩) 1 1) (bv [7]) := Own.new w5 5 1 1 _ rfl (by decide)
      obtain ⟨r7, w7, v1, v2, v3, v4⟩ := app_b n6 (c6' (a5.new kal6)) (by simp; omega)
      have v2l := v2.rd.len
      rw [bv_length, Nat.mul_one] at v2l
      have hlt5 : W.heap.size < w5.heap.size := by have := o5.lt W.heap.size (by rw [hblk]; simp); exact this
      have hb7 : ∀ y ∈ r7.blk, y ≠ W.heap.size := by
        intro y hy
        rcases v4 y hy with h | h
        · simp [SV.blk] at h; omega
        · simp at h; omega
      have o7 := (o5.keep kal6 (by simp)).keep v3 (by rw [hblk]; simp [SV.blk]; omega)
      have a7 := (a5.new kal6).step v3 (by simp [SV.blk]; omega)
      have v2l' : r7.len = m.length + 1 := by simp at v2l; omega
      refine ⟨r7, w7, v1, _, hSa, by omega, by omega, wr 9 (UInt8.ofNat (m.length + 1)) o7 a7 l5 (by omega) ?_ (fun w2 o2 a2 k2 => hJ _ _ ?_ a2 ?_ hb7)⟩
      · rw [v2l', wu8 (by omega) (by omega), UInt8.toNat_ofNat']; omega
      · rw [if_pos (by omega)]; exact o2
      · rw [if_pos (by omega)]
        exact v2.rd.keep k2 (by simpa using hb7)
    · have c := of_decide_eq_false c
      refine hJ _ _ ?_ a5 ?_ (by simp [SV.blk])
      · rw [if_neg (by omega)]; exact o5
      · rw [if_neg (by omega)]; exact Rd.nil _ _
  have l6 : (if k ≤ 3 then L5.set 9 (UInt8.ofNat (m.length + 1)) else L5).length = 10 := hlen _ _ _ (by simpa using l5) l5
  have g6 : k ≤ 3 → (if k ≤ 3 then L5.set 9 (UInt8.ofNat (m.length + 1)) else L5)[9]? = some (UInt8.ofNat (m.length + 1)) := by
    intro h
    rw [if_pos h, List.getElem?_set_self (by omega)]
  generalize hL6 : (if k ≤ 3 then L5.set 9 (UInt8.ofNat (m.length + 1)) else L5) = L6 at *
  generalize hX : (if k ≤ 3 then 7 :: m else []) = X at *
  have hXl : X.length ≤ 21 := by rw [← hX]; split <;> simp; omega
  refine M.join_by (fun J => ∀ w, Own 5 1 w S (bv (if k ≤ 2 then L6.set 9 (UInt8.ofNat (m.length + 2)) else L6)) → Aft W w → Rd 1 w x6 (bv X) → J w) (fun w7 o7 a7 r7 => ?_) (fun J hJ => ?_)
  rotate_left
  · refine M.ite_by (fun c => ?_) (fun c => ?_)
    · have c := of_decide_eq_true c
      refine ⟨_, hSa, by omega, by omega, _, o6.rd.at hSa (bv_get (g6 (by omega))), _, hSa, by omega, by omega, wr 9 (UInt8.ofNat (m.length + 2)) o6 a6 l6 (by omega) ?_ (fun w2 o2 a2 k2 => hJ _ ?_ a2 (r6.keep k2 (by simpa using b6)))⟩
      · rw [UInt8.toNat_ofNat', UInt8.toNat_ofNat', wu8 (by omega) (by omega)]; omega
      · rw [if_pos (by omega)]; exact o2
    · have c := of_decide_eq_false c
      refine hJ _ ?_ a6 r6
      rw [if_neg (by omega)]; exact o6
  have l7 : (if k ≤ 2 then L6.set 9 (UInt8.ofNat (m.length + 2)) else L6).length = 10 := hlen _ _ _ (by simpa using l6) l6
  generalize hL7 : (if k ≤ 2 then L6.set 9 (UInt8.ofNat (m.length + 2)) else L6) = L7 at *
  refine M.join_by (fun J => ∀ w, Own 5 1 w S (bv (if k ≤ 1 then L7.set 0 3 else L7)) → Aft W w → Rd 1 w x6 (bv X) → J w) (fun w8 o8 a8 r8 => ?_) (fun J hJ => ?_)
  rotate_left
  · refine M.ite_by (fun c => ?_) (fun c => ?_)
    · have c := of_decide_eq_true c
      refine ⟨_, hSa, by omega, by omega, wr 0 3 o7 a7 l7 (by omega) rfl (fun w2 o2 a2 k2 => hJ _ ?_ a2 (r7.keep k2 (by simpa using b6)))⟩
      rw [if_pos (by omega)]; exact o2
    · have c := of_decide_eq_false c
      refine hJ _ ?_ a7 r7
      rw [if_neg (by omega)]; exact o7
  have l8 : (if k ≤ 1 then L7.set 0 3 else L7).length = 10 := hlen _ _ _ (by simpa using l7) l7
  have hF : (if k ≤ 1 then L7.set 0 3 else L7) = firstB k (m.length + 1) := by
    rw [← hL7, ← hL6, ← hL5, ← hL4, ← hL3]; rfl
  rw [hF] at o8 l8
  obtain ⟨r9, w9, v1, v2, v3, v4⟩ := app_b o8 r8 (by omega)
  have a9 := a8.step v3 (by rw [hblk]; simp)
  have v2l := v2.rd.len
  have v2c := v2.rd.cap
  rw [bv_length, Nat.mul_one, List.length_append, l8] at v2l
  have hdec := first_dec k hk6 m hm
  refine ⟨r9, w9, v1, M.join_by (fun J => ∀ x, Rd 1 w9 x (bv (if k = 0 then (firstB k (m.length + 1) ++ 7 :: m).take 9 else if k ≤ 3 then firstB k (m.length + 1) ++ 7 :: m else firstB k (m.length + 1) ++ [])) → J x w9) (fun x10 r10 => ?_) (fun J hJ => ?_)⟩
  rotate_left
  · refine M.ite_by (fun c => ?_) (fun c => ?_)
    · have c : k = 0 := by simpa using c
      refine ⟨by omega, by omega, by omega, hJ _ ?_⟩
      have h := v2.rd.sub (l := 0) (u := 9) (by omega) (by omega)
      simp only [Nat.zero_mul, List.drop_zero, Nat.sub_zero, Nat.mul_one, bv_take] at h
      rw [if_pos c]
      rw [← hX, if_pos (by omega)] at h
      exact h
    · have c : k ≠ 0 := by simpa using c
      refine hJ _ ?_
      rw [if_neg c]
      have h := v2.rd
      rw [← hX] at h
      split
      · rw [if_pos (by assumption)] at h; exact h
      · rw [if_neg (by assumption)] at h; exact h
  have hbl : ∀ (c : Prop) [Decidable c] (d : Prop) [Decidable d], (if c then (firstB k (m.length + 1) ++ 7 :: m).take 9 else if d then firstB k (m.length + 1) ++ 7 :: m else firstB k (m.length + 1) ++ []).length ≤ 140737488355328 := by
    intro c _ d _
    split
    · rw [List.length_take]; omega
    · split
      · rw [List.length_append, l8, List.length_cons]; omega
      · rw [List.append_nil, l8]; omega
  refine (dec_c r10 (hbl _ _)).mono fun e w11 g => ?_
  obtain ⟨x0, x1, x2, x3, x4, x5, rfl, d, hd, rd, k11⟩ := g
  rw [hdec] at hd
  simp only [Dec.mk.injEq] at hd
  obtain ⟨rfl, rfl, rfl, rfl, rfl, rfl⟩ := hd
  refine ⟨_, _, _, _, _, _, rfl, M.new_blk fun b w12 hb B k12 => M.new_blk fun c w13 hc C k13 => ?_⟩
  have hBlt := B.lt
  refine M.stA_blk (B.keep k13 (by simp)) rfl fun w14 B14 k14 => M.stA_blk (C.keep k14 (by simp; omega)) rfl fun w15 C15 k15 => ?_
  have B15 := B14.keep k15 (by simp; omega)
  have hs12 := k12.size
  have k1115 : Keeps [] w11 w15 := ((k12.trans k13 (by simp)).trans k14 (by simp; omega)).trans k15 (by simp; omega)
  have kal16 := Keeps.alloc [] w15 (.cells (bv [0, 4]).toArray 5)
  have n16 := new_b w15 [0, 4] (by simp)
  refine M.new_by (M.new_blk fun t w17 ht T k17 => ?_)
  have k1517 := kal16.trans k17 (by simp)
  have hT : ∃ d : SV, Rd 1 w17 d (bv (wantN k).2.2) ∧ w17.cell? ((⟨t, 0, none⟩ : Addr).add (k * 3)) = some (.int .i64 (wantN k).1) ∧ w17.cell? (((⟨t, 0, none⟩ : Addr).add (k * 3)).add 1) = some (.int .i64 (wantN k).2.1) ∧ w17.cell? (((⟨t, 0, none⟩ : Addr).add (k * 3)).add 2) = some d.v := by
    have hk7 : k = 0 ∨ k = 1 ∨ k = 2 ∨ k = 3 ∨ k = 4 ∨ k = 5 ∨ k = 6 := by omega
    rcases hk7 with rfl | rfl | rfl | rfl | rfl | rfl | rfl
    · exact ⟨SV.nil, Rd.nil _ _, T.cell 0, T.cell 1, T.cell 2⟩
    · exact ⟨_, n16.keep k17 (by simp), T.cell 3, T.cell 4, T.cell 5⟩
    · exact ⟨SV.nil, Rd.nil _ _, T.cell 6, T.cell 7, T.cell 8⟩
    · exact ⟨SV.nil, Rd.nil _ _, T.cell 9, T.cell 10, T.cell 11⟩
    · exact ⟨SV.nil, Rd.nil _ _, T.cell 12, T.cell 13, T.cell 14⟩
    · exact ⟨SV.nil, Rd.nil _ _, T.cell 15, T.cell 16, T.cell 17⟩
    · exact ⟨SV.nil, Rd.nil _ _, T.cell 18, T.cell 19, T.cell 20⟩
  obtain ⟨dv, hdr, t0, t1, t2⟩ := hT
  refine ⟨_, rfl, by omega, by show (k : Int) < 7; omega, _, t0, _, t1, dv, t2, M.new_blk fun u w18 hu U k18 => M.stA_blk U rfl fun w19 U19 k19 => ?_⟩
  have k1519 : Keeps [] w15 w19 := (k1517.trans k18 (by simp)).trans k19 (by have := k1517.size; simp; omega)
  have k1719 : Keeps [] w17 w19 := k18.trans k19 (by simp; omega)
  have B19 := B15.keep k1519 (by simp)
  have C19 := C15.keep k1519 (by simp)
  have a19 : Aft W w19 := ((a9.new k11).new k1115).new k1519
  refine M.join_by (fun J => ∀ w, Aft W w → J true w) (fun w h => ⟨rfl, h.1⟩) fun J hJ => ?_
  refine ⟨_, B19.cell 0, _, B19.cell 1, _, B19.cell 2, M.ite_y rfl ⟨_, C19.cell 0, _, C19.cell 1, _, C19.cell 2, _, U19.cell 0, _, U19.cell 1, _, U19.cell 2, (knote_c ((rd.keep k1115 (by simp)).keep k1519 (by simp)) (hdr.keep k1719 (by simp))).mono fun e w20 g => ?_⟩⟩
  obtain ⟨r20, rfl, hr, k20⟩ := g
  have : r20 = true := by rw [hr]; simp
  subst this
  refine ⟨_, rfl, M.ite_tt (known_c.mono fun e w21 g => ?_)⟩
  obtain ⟨r21, rfl, rfl, k21⟩ := g
  exact ⟨_, rfl, hJ _ ((a19.new k20).new k21)⟩
theorem first_law (W : World) (args : List Value) (h : GdArgs W [(false, .cons (.int .i64) .nil), (false, .cons (.slice (.cons (.int .u8) .nil)) .nil)] args) : Calls Try.prog 4 args.toArray W fun e W' => e = .returned (.bool true) ∧ Below W.heap.size W W' := by
  obtain ⟨v0, r, rfl, h0, h⟩ := h.one
  obtain ⟨v3, r, rfl, h3, h⟩ := h.one
  cases h
  obtain ⟨n0, rfl, _⟩ := good_int h0
  obtain ⟨s0, bs, rfl, hr, hl0, _⟩ := good_bytes h3
  exact (first_c n0 hr).mono fun e w' ⟨b, he, hb, hw⟩ => by subst hb; exact ⟨he, hw⟩
end Go.Proofs.Ytdlefnpnnpohmaa
