/-
  TrieBack: prefixes that are put, and cut again, leave what was ahead.
-/
import Derived.Test.YtjjjomeemfmihaaTrieOrder
namespace Go.Proofs.Ytjjjomeemfmihaa
set_option linter.unusedVariables false
set_option linter.unusedSimpArgs false
open Go.Sp
open Go.RowKit (Below)

/-- An ask's prefix, laid in a box, in whatever order. -/
theorem box_c {W w : World} {A1 A3 : Addr} {u z : Int} {J : Addr → World → Prop} (ha : Aft W w) (h3 : ∀ w', Aft W w' → w'.cell? A3 = some (.int .u32 u)) (h1 : ∀ w', Aft W w' → w'.cell? A1 = some (.int .i64 z))
    (hJ : ∀ b w', w.heap.size ≤ b → Blk w' b 27 [.int .u32 ((kp u z).1 : Int), .int .i64 (kp u z).2] → Keeps [] w w' → J ⟨b, 0, none⟩ w') :
    M.both (
    Calls Try.prog 11 #[(Value.int .u32 u), (Value.int .i64 z)] w (R11 fun r111 r112 w113 =>
    M.new (.cells #[(Value.int .u32 (0 : Int)), (Value.int .i64 (0 : Int))] 27) w113 fun b115 w114 =>
    M.keep (w114.cell? A1 = some (Value.int .i64 z)) <|
    M.keep (w114.cell? A3 = some (Value.int .u32 u)) <|
    M.stA b115 [(Value.int .u32 r111), (Value.int .i64 r112)] w114 fun w118 =>
    J b115 w118)) (
    M.new (.cells #[(Value.int .u32 (0 : Int)), (Value.int .i64 (0 : Int))] 27) w fun b121 w120 =>
    M.keep (w120.cell? A1 = some (Value.int .i64 z)) <|
    M.keep (w120.cell? A3 = some (Value.int .u32 u)) <|
    Calls Try.prog 11 #[(Value.int .u32 u), (Value.int .i64 z)] w120 (R11 fun r124 r125 w126 =>
    M.stA b121 [(Value.int .u32 r124), (Value.int .i64 r125)] w126 fun w127 =>
    J b121 w127)) := by
  refine ⟨?_, ?_⟩
  · refine (kprefix_c _ _).mono fun e w6 g => ?_
    obtain ⟨x6, y6, rfl, rfl, rfl, k6⟩ := g
    refine ⟨_, _, rfl, M.new_blk fun b7 w7 hb7 B7 k7 => ?_⟩
    have a7 := (ha.new k6).new k7
    exact ⟨h1 _ a7, h3 _ a7, M.stA_blk B7 rfl fun w8 B8 k8 => hJ _ _ (by have := k6.size; omega) B8 ((k6.trans k7 (by simp)).trans k8 (by have := k6.size; simp; omega))⟩
  · refine M.new_blk fun b7 w7 hb7 B7 k7 => ?_
    have a7 := ha.new k7
    refine ⟨h1 _ a7, h3 _ a7, (kprefix_c _ _).mono fun e w6 g => ?_⟩
    obtain ⟨x6, y6, rfl, rfl, rfl, k6⟩ := g
    exact ⟨_, _, rfl, M.stA_blk (B7.keep k6 (by simp)) rfl fun w8 B8 k8 => hJ _ _ (by omega) B8 ((k7.trans k6 (by simp)).trans k8 (by simp; omega))⟩

/-- A table, and these prefixes besides. -/
def Plus (L0 L : Tbl) (F : List Key) : Prop := ∀ k, tget L k = if k ∈ F then some 98 else tget L0 k
theorem Plus.put {L0 L : Tbl} {F : List Key} (h : Plus L0 L F) (q : Key) : Plus L0 (tput (tput L q 99) q 98) (F ++ [q]) := by
  intro k
  rw [tget_tput, tget_tput, h k]
  by_cases hk : q = k
  · subst hk; simp
  · rw [if_neg hk, if_neg hk]
    have : (k ∈ F ++ [q]) ↔ k ∈ F := by simp; exact fun h => absurd h.symm hk
    by_cases hF : k ∈ F
    · rw [if_pos hF, if_pos (this.2 hF)]
    · rw [if_neg hF, if_neg (fun h => hF (this.1 h))]
theorem Plus.cut {L0 L : Tbl} {F : List Key} {q : Key} (h : Plus L0 L (F ++ [q])) (hq : q ∉ F) (h0 : tget L0 q = none) : Plus L0 (tcut L q) F := by
  intro k
  rw [tget_tcut, h k]
  by_cases hk : q = k
  · subst hk; rw [if_pos rfl, if_neg hq, h0]
  · rw [if_neg hk]
    have : (k ∈ F ++ [q]) ↔ k ∈ F := by simp; exact fun h => absurd h.symm hk
    by_cases hF : k ∈ F
    · rw [if_pos hF, if_pos (this.2 hF)]
    · rw [if_neg hF, if_neg (fun h => hF (this.1 h))]
theorem TrieAt.tab {w : World} {D : List Nat} {p : Nat} {L : Tbl} (h : TrieAt w D p L) : Tab L := by obtain ⟨_, _, _, _, _, _, h⟩ := h; exact h

theorem back_c {W : World} {s s2 : SV} {l m : List (Int × Int × Int × Nat × Bool)} {p2 : Int} (hl : l.length = s.len) (hp : ∀ i x, l[i]? = some x → AskAt W s i x) (hm : m.length = s2.len) (hp2 : ∀ i x, m[i]? = some x → AskAt W s2 i x) :
    Calls Try.prog 6 #[s.v, s2.v, .int .u32 p2] W (R6 fun r w' => r = true ∧ Below W.heap.size W w') := by
  refine F6_ok (tnew_c.mono fun e w1 g => ?_)
  obtain ⟨r, rfl, p, rfl, h1, k1, hpB⟩ := g
  refine ⟨_, rfl, M.ite_n rfl ?_⟩
  refine M.loop1_by (fun x w => ∃ (i : Nat) (D : List Nat) (L : Tbl), x = i ∧ i ≤ 40 ∧ Aft W w ∧ L.length ≤ i ∧ TrieAt w D p L ∧ (∀ y ∈ D, W.heap.size ≤ y)) (fun x _ => (40 - x).toNat)
    ⟨0, [p], [], rfl, by omega, (Aft.refl W).new k1, by simp, h1, by intro y hy; simp at hy; omega⟩ ?_
  rintro x w J ⟨i, D, L, rfl, hi, ha, hLi, hT, hDB⟩ hJ
  refine M.join_lt (fun hx1 hx2 => ?_) (fun hend => ?_)
  · have hil : i < l.length := by omega
    obtain ⟨a, hsa, hau, hat⟩ := hp i l[i] (List.getElem?_eq_getElem hil)
    have kd := Keeps.drew [] w
    have ad := ha.new kd
    obtain ⟨c0, c1, c2, c3, c4⟩ := hat _ ad.1
    refine M.drew_by ⟨a, hsa, by omega, hx1, a, hsa, by omega, hx1, _, c3, _, c1, (kprefix_c _ _).mono fun e w2 g => ?_⟩
    obtain ⟨x2, y2, rfl, rfl, rfl, k2⟩ := g
    have k12 := kd.trans k2 (by simp)
    refine ⟨_, _, rfl, (put_c (hT.keep k12 (by simp)) (kp_lt _ _) _ _ (by omega)).mono fun e w3 g => ?_⟩
    obtain ⟨r3, rfl, _, D3, h3, k3, f3⟩ := g
    rw [kp_right, if_pos rfl] at h3
    have a2 := ha.new k12
    refine ⟨_, rfl, ?_⟩
    rw [w64 (by omega) (by omega)]
    refine hJ _ _ ⟨i + 1, D3, _, by omega, by omega, a2.step k3 hDB, ?_, h3, fun y hy => ?_⟩ (by omega)
    · exact Nat.le_trans (tput_len_le L _ _) (by omega)
    · rcases f3 y hy with h | h
      · exact hDB y h
      · have := a2.2; omega
  · have hLt := hT.tab
    refine (tall_c hT (by omega)).mono fun e w2 g => ?_
    obtain ⟨r2, rfl, o2, f2, k2⟩ := g
    obtain ⟨A, hAe, hA32⟩ := bOr_u32 (167772160 : Int) (Int.tmod p2 (33554432 : Int))
    refine ⟨_, rfl, ?_⟩
    rw [hAe]
    refine (match_c (hT.keep k2 (by simp)) hA32).mono fun e w3 g => ?_
    obtain ⟨x3, y3, v3, ok3, rfl, hm3, k3⟩ := g
    have k23 := k2.trans k3 (by simp)
    refine ⟨_, _, _, _, rfl, M.new_blk fun b56 w4 hb56 B56 k4 => M.stA_blk B56 rfl fun w5 C56 k5 => ?_⟩
    have k35 : Keeps [] w3 w5 := k4.trans k5 (by simp; omega)
    have k05 := k23.trans k35 (by simp)
    have hT5 := hT.keep k05 (by simp)
    have a5 := ha.new k05
    have hks := pf_len o2.rd
    have hkl : (L.map (·.1)).length = L.length := by simp
    have o25 := (o2.keep k3 (by simp)).keep k35 (by simp)
    have hb56lt := C56.lt
    have hDlt := hT5.1
    have hb56D : b56 ∉ D := fun hd => by have := (hT.keep k23 (by simp)).1 b56 hd; omega
    have hr2D : ∀ y ∈ r2.blk, y ∉ D := fun y hy hd => by have := f2 y hy; have := hT.1 y hd; omega
    have hr2lt : ∀ y ∈ r2.blk, y < w5.heap.size := fun y hy => o25.lt y hy
    refine M.loop2_by (fun x y w' => ∃ (i : Nat) (D' : List Nat) (M' : Tbl) (F : List Key), y = i ∧ i ≤ 30 ∧ Aft W w' ∧ TrieAt w' D' p M' ∧ From D w5 D' ∧ Keeps D w5 w' ∧ Plus L M' F ∧ F.Nodup ∧ (∀ k ∈ F, tget L k = none ∧ k.1 < 4294967296 ∧ rightP k.1 k.2 = true) ∧ M'.length = L.length + F.length ∧ F.length ≤ i ∧ Own 27 2 w' x (pvs F) ∧ (∀ k ∈ x.blk, w5.heap.size ≤ k ∧ k ∉ D')) (fun _ y _ => (30 - y).toNat)
      ⟨0, D, L, [], rfl, by omega, a5, hT5, From.refl _ _, Keeps.refl _ _, fun k => by simp, by simp, by simp, by simp, by simp, Own.nil _ _ _, by simp [SV.blk]⟩ ?_
    rintro x59 y w6 J1 ⟨i6, D6, M6, F6, rfl, hi6, a6, hT6, f6, k56, hPl, hNd, hF6, hM6, hF6l, o6, ob6⟩ hJ1
    have hD6B : ∀ y ∈ D6, W.heap.size ≤ y := fun y hy => by
      rcases f6 y hy with h | h
      · exact hDB y h
      · have := a5.2; omega
    refine M.join_lt (fun hx1 hx2 => ?_) (fun hend2 => ?_)
    · have hil : i6 < m.length := by omega
      obtain ⟨a, hsa, hau, hat⟩ := hp2 i6 m[i6] (List.getElem?_eq_getElem hil)
      have ek : ((i6 : Nat) : Int).toNat * 5 = i6 * 5 := by omega
      refine M.join_by (fun (J : SV → World → Prop) => ∀ x w', (∃ (D' : List Nat) (M' : Tbl) (F : List Key), Aft W w' ∧ TrieAt w' D' p M' ∧ From D w5 D' ∧ Keeps D w5 w' ∧ Plus L M' F ∧ F.Nodup ∧ (∀ k ∈ F, tget L k = none ∧ k.1 < 4294967296 ∧ rightP k.1 k.2 = true) ∧ M'.length = L.length + F.length ∧ F.length ≤ i6 + 1 ∧ Own 27 2 w' x (pvs F) ∧ (∀ k ∈ x.blk, w5.heap.size ≤ k ∧ k ∉ D')) → J x w') ?_ ?_
      · rintro x7 w7 ⟨D', M', F, h1, h2, h3, h4, h5, h6, h7, h8, h9, h10, h11⟩
        rw [w64 (by omega) (by omega)]
        exact hJ1 _ _ _ ⟨i6 + 1, D', M', F, by omega, by omega, h1, h2, h3, h4, h5, h6, h7, h8, h9, h10, h11⟩ (by omega)
      · intro J2 hJ2
        have kd := Keeps.drew [] w6
        have ad := a6.new kd
        obtain ⟨c0, c1, c2, c3, c4⟩ := hat _ ad.1
        refine M.join_by (fun (J : Addr → World → Prop) => ∀ b w', w6.drew.heap.size ≤ b → Blk w' b 27 [.int .u32 ((kp (m[i6].2.2.2.1 : Int) m[i6].2.1).1 : Int), .int .i64 (kp (m[i6].2.2.2.1 : Int) m[i6].2.1).2] → Keeps [] w6.drew w' → J ⟨b, 0, none⟩ w') ?_ ?_
        rotate_left
        · intro J3 hJ3
          refine M.drew_by ⟨a, hsa, by omega, hx1, a, hsa, by omega, hx1, _, by rw [ek]; exact c3, _, by rw [ek]; exact c1, ?_⟩
          exact box_c ad (fun w' h => by rw [ek]; exact (hat _ h.1).2.2.2.1) (fun w' h => by rw [ek]; exact (hat _ h.1).2.1) hJ3
        · intro b7 w7 hb7 B7 k7
          have hkr := kp_right (m[i6].2.2.2.1 : Int) m[i6].2.1
          have hklt := kp_lt (m[i6].2.2.2.1 : Int) m[i6].2.1
          generalize kp (m[i6].2.2.2.1 : Int) m[i6].2.1 = q at *
          have k67 := kd.trans k7 (by simp)
          have hT7 := hT6.keep k67 (by simp)
          have o7 := o6.keep k67 (by simp)
          refine ⟨_, B7.cell 0, _, B7.cell 1, (get_c hT7 hklt q.2).mono fun e w8 g => ?_⟩
          obtain ⟨r8, ok8, rfl, rfl, rfl, k8⟩ := g
          have k68 := k67.trans k8 (by simp)
          have B8 := B7.keep k8 (by simp)
          have o8 := o7.keep k8 (by simp)
          have hT8 := hT7.keep k8 (by simp)
          refine ⟨_, _, rfl, M.ite_by (fun c => ?_) (fun c => ?_)⟩
          · have c : tget M6 q = none := by
              have c : (tget M6 (q.1, q.2)).isSome = false := by simpa using c
              cases h : tget M6 q with
              | none => rfl
              | some v => rw [show ((q.1, q.2) : Key) = q from rfl, h] at c; cases c
            have hqF : q ∉ F6 := by
              intro h
              have := hPl q
              rw [if_pos h, c] at this; cases this
            have hqL : tget L q = none := by
              have := hPl q
              rw [if_neg hqF] at this; exact this.symm.trans c
            have hb7D : b7 ∉ D6 := fun h => by have := hT6.1 _ h; have : w6.drew.heap.size = w6.heap.size := rfl; omega
            have hx8 : ∀ k ∈ x59.blk, k ∉ D6 := fun k hk => (ob6 k hk).2
            have hTab8 := hT8.tab
            refine M.join_by (fun (J : Bool → World → Prop) => ∀ w' D', TrieAt w' D' p (tput (tput M6 q 99) q 98) → Keeps D6 w8 w' → From D6 w8 D' → J false w') ?_ ?_
            · intro w9 D9 hT9 k9 f9
              have B9 := B8.keep k9 hb7D
              have o9 := o8.keep k9 hx8
              have hxl := pf_len o9.rd
              obtain ⟨r10, w10, v1, v2, v3, v4⟩ := app_p q o9 (by omega)
              have k59 : Keeps D w5 w9 := (k56.and k68.up).trans k9 f6
              have hx9 : ∀ k ∈ x59.blk, k ∉ D9 := fun k hk hd => by
                rcases f9 k hd with h | h
                · exact hx8 k hk h
                · have := o8.lt k hk; omega
              have k510 : Keeps D w5 w10 := k59.trans v3 (fun y hy => .inr (ob6 y hy).1)
              have hT10 := hT9.keep v3 (fun y hy hd => hx9 y hd hy)
              have f10 : From D w5 D9 := fun y hy => by
                rcases f9 y hy with h | h
                · exact f6 y h
                · have := k56.size; have := k68.size; right; omega
              have a9 : Aft W w9 := (a6.new k68).step k9 hD6B
              refine M.ite_n rfl ⟨_, B9.cell 0, _, B9.cell 1, M.new_by ⟨r10, w10, v1, hJ2 _ _ ⟨D9, _, F6 ++ [q], a9.step v3 (fun y hy => by have := (ob6 y hy).1; have := a5.2; omega), hT10, f10, k510, hPl.put q, ?_, ?_, ?_, ?_, v2, ?_⟩⟩⟩
              · exact List.nodup_append.2 ⟨hNd, by simp, fun a ha b hb => by simp at hb; subst hb; intro h; subst h; exact hqF ha⟩
              · intro k hk
                rcases List.mem_append.1 hk with h | h
                · exact hF6 k h
                · simp at h; subst h; exact ⟨hqL, hklt, hkr⟩
              · have hTp := hTab8.put (k := q) ⟨hklt, hkr⟩ 99
                rw [tput_len hTp.sorted, tput_len hTab8.sorted, tget_tput, if_pos rfl, c]
                simp; omega
              · simp; omega
              · intro k hk
                have hs9 := k59.size
                rcases v4 k hk with h | h
                · exact ⟨(ob6 k h).1, hx9 k h⟩
                · refine ⟨by omega, fun hd => ?_⟩
                  have := hT9.1 k hd; omega
            · intro J3 hJ3
              refine ⟨_, B8.cell 0, _, B8.cell 1, (put_c hT8 hklt q.2 99 (by omega)).mono fun e w9 g => ?_⟩
              obtain ⟨r9, rfl, hr9, D9, h9, k9, f9⟩ := g
              rw [show ((q.1, q.2) : Key) = q from rfl, hkr, c] at hr9
              rw [hkr, if_pos rfl] at h9
              have hr9 : r9 = true := by rw [hr9]; rfl
              have hb7D9 : b7 ∉ D9 := fun hd => by
                rcases f9 _ hd with h | h
                · exact hb7D h
                · have := B8.lt; omega
              have B9 := B8.keep k9 hb7D
              have hl9 : (tput M6 (q.1, q.2) 99).length ≤ 1000000 := Nat.le_trans (tput_len_le M6 _ _) (by omega)
              refine ⟨_, rfl, M.ite_n (by rw [hr9]; rfl) ⟨_, B9.cell 0, _, B9.cell 1, (put_c h9 hklt q.2 98 hl9).mono fun e w10 g => ?_⟩⟩
              obtain ⟨r10, rfl, hr10, D10, h10, k10, f10⟩ := g
              rw [tget_tput, if_pos rfl] at hr10
              rw [hkr, if_pos rfl] at h10
              have hr10 : r10 = false := by rw [hr10]; simp
              subst hr10
              refine ⟨_, rfl, hJ3 _ D10 h10 (k9.trans k10 f9) (fun y hy => ?_)⟩
              rcases f10 y hy with h | h
              · exact f9 y h
              · have := k9.size; right; omega
          · refine hJ2 _ _ ⟨D6, M6, F6, a6.new k68, hT8, f6, k56.and k68.up, hPl, hNd, hF6, hM6, by omega, o8, ob6⟩
    · refine (tlen_c hT6).mono fun e w7 g => ?_
      obtain ⟨r7, rfl, rfl, rfl⟩ := g
      have hxl := pf_len o6.rd
      rw [hkl] at hks
      refine ⟨_, rfl, M.ite_n (by rw [w64 (by omega) (by omega)]; simp; omega) ?_⟩
      have hx6 : ∀ k ∈ x59.blk, k ∉ D6 := fun k hk => (ob6 k hk).2
      refine M.loop1_by (fun x w' => ∃ (j : Nat) (M' : Tbl), x = (j : Int) - 1 ∧ j ≤ F6.length ∧ Aft W w' ∧ TrieAt w' D6 p M' ∧ Keeps D6 w7 w' ∧ Plus L M' (F6.take j) ∧ M'.length ≤ 1000000) (fun x _ => (x + 1).toNat)
        ⟨F6.length, M6, by rw [w64 (by omega) (by omega)]; omega, Nat.le_refl _, a6, hT6, Keeps.refl _ _, by rw [List.take_length]; exact hPl, by omega⟩ ?_
      rintro x w8 J1 ⟨j, M8, rfl, hj, a8, hT8, k8, hP8, hl8⟩ hJ1
      refine M.ite_by (fun c => ?_) (fun c => ?_)
      · have c := of_decide_eq_true c
        obtain ⟨j, rfl⟩ : ∃ k, j = k + 1 := ⟨j - 1, by omega⟩
        have jl : j < F6.length := by omega
        have ej := List.getElem?_eq_getElem jl
        have hmem := List.getElem_mem jl
        have htk : F6.take (j + 1) = F6.take j ++ [F6[j]] := by rw [List.take_add_one, ej]; rfl
        rw [htk] at hP8
        have hqn : F6[j] ∉ F6.take j := by
          have hn := hNd.sublist (List.take_sublist (j + 1) F6)
          rw [htk] at hn
          exact fun h => (List.nodup_append.1 hn).2.2 _ h _ (by simp) rfl
        obtain ⟨hqL, hqlt, hqr⟩ := hF6 _ hmem
        generalize F6[j] = q at *
        have e1 : IntKind.i64.wrap (((j + 1 : Nat) : Int) - 1 - 1) = (j : Int) - 1 := by rw [w64 (by omega) (by omega)]; omega
        have o8 := o6.keep k8 hx6
        obtain ⟨a, ha⟩ := o8.rd.some (by omega)
        have e8 := pf_at o8.rd ha ej
        have en : (((j + 1 : Nat) : Int) - 1).toNat * 2 = j * 2 := by omega
        refine M.join_by (fun (J : Bool → World → Prop) => ∀ w', TrieAt w' D6 p (tcut (tcut M8 q) q) → Keeps D6 w8 w' → J false w') ?_ ?_
        · intro w9 h9 k9
          refine M.ite_n rfl ?_
          rw [e1]
          have hD6B' : ∀ y ∈ D6, W.heap.size ≤ y := hD6B
          refine hJ1 _ _ ⟨j, _, rfl, by omega, a8.step k9 hD6B', h9, k8.and k9, ?_, Nat.le_trans (Nat.le_trans (List.length_filter_le _ _) (List.length_filter_le _ _)) hl8⟩ (by omega)
          intro k
          have := hP8.cut hqn hqL k
          rw [tget_tcut]
          by_cases hk : q = k
          · subst hk; rw [if_pos rfl, if_neg hqn, hqL]
          · rw [if_neg hk]; exact this
        · intro J2 hJ2
          refine ⟨a, ha, by omega, by omega, _, by rw [en]; exact e8.1, _, by rw [en]; exact e8.2, (cut_t hT8 hqlt q.2 hl8).mono fun e w9 g => ?_⟩
          obtain ⟨r9, rfl, hr9, h9, k9⟩ := g
          have hP8q := hP8 q
          rw [if_pos (by simp)] at hP8q
          rw [show ((q.1, q.2) : Key) = q from rfl, hP8q] at hr9
          have hr9 : r9 = true := hr9
          have e9 := pf_at (o8.keep k9 hx6).rd ha ej
          refine ⟨_, rfl, M.ite_n (by rw [hr9]; rfl) ⟨a, ha, by omega, by omega, _, by rw [en]; exact e9.1, _, by rw [en]; exact e9.2, (cut_t h9 hqlt q.2 (Nat.le_trans (List.length_filter_le _ _) hl8)).mono fun e w10 g => ?_⟩⟩
          obtain ⟨r10, rfl, hr10, h10, k10⟩ := g
          rw [tget_tcut, if_pos rfl] at hr10
          have hr10 : r10 = false := hr10
          subst hr10
          exact ⟨_, rfl, hJ2 _ h10 (k9.and k10)⟩
      · have c := of_decide_eq_false c
        obtain rfl : j = 0 := by omega
        have hML : M8 = L := tab_ext hT8.tab hT.tab (fun k => by rw [hP8 k]; simp)
        subst hML
        refine (match_c hT8 hA32).mono fun e w9 g => ?_
        obtain ⟨x9, y9, v9, ok9, rfl, hm9, k9⟩ := g
        have hsame : x9 = x3 ∧ y9 = y3 ∧ v9 = v3 ∧ ok9 = ok3 := by
          cases hway : matchT M8 A with
          | none => rw [hway] at hm3 hm9; obtain ⟨rfl, rfl, rfl, rfl⟩ := hm3; exact hm9
          | some m => rw [hway] at hm3 hm9; obtain ⟨rfl, rfl, rfl, rfl⟩ := hm3; exact hm9
        obtain ⟨rfl, rfl, rfl, rfl⟩ := hsame
        refine ⟨_, _, _, _, rfl, M.new_blk fun b10 w10 hb10 B10 k10 => M.stA_blk B10 rfl fun w11 B11 k11 => ?_⟩
        have k811 : Keeps [] w8 w11 := k9.trans (k10.trans k11 (by simp; omega)) (by simp)
        have hT11 := hT8.keep k811 (by simp)
        have a11 := a8.new k811
        refine M.join_by (fun (J : Bool → World → Prop) => ∀ w, Aft W w → J true w) (fun w h => ⟨rfl, h.1⟩) fun J hJ => (tall_c hT11 (by omega)).mono fun e w12 g => ?_
        obtain ⟨r12, rfl, o12, f12, k12⟩ := g
        have hD6o : ∀ y, y < w5.heap.size → y ∉ D → y ∉ D6 := fun y h1 h2 h3 => by
          rcases f6 y h3 with h | h
          · exact h2 h
          · omega
        have k812 := k811.trans k12 (by simp)
        have o212 : Own 27 2 w12 r2 (pvs (M8.map (·.1))) := ((o25.keep k56 hr2D).keep k8 (fun y hy => hD6o y (hr2lt y hy) (hr2D y hy))).keep k812 (by simp)
        have C12 : Blk w12 b56 _ _ := ((C56.keep k56 hb56D).keep k8 (hD6o _ hb56lt hb56D)).keep k812 (by simp)
        refine ⟨_, rfl, (samep_c o12.rd o212.rd (by simp; omega)).mono fun e w13 g => ?_⟩
        obtain ⟨r13, rfl, hr13, k13⟩ := g
        have hr13 : r13 = true := by rw [hr13]; simp
        have k1113 := k12.trans k13 (by simp)
        have B13 := B11.keep k1113 (by simp)
        have C13 := C12.keep k13 (by simp)
        refine ⟨_, rfl, M.ite_y hr13 ⟨_, B13.cell 0, _, B13.cell 1, _, C13.cell 0, _, C13.cell 1, M.ite_y (by simp) (M.ite_y (by simp) (M.ite_y (by simp) (known_c.mono fun e w14 g => ?_)))⟩⟩
        obtain ⟨r14, rfl, rfl, k14⟩ := g
        exact ⟨_, rfl, hJ _ ((a11.new k1113).new k14)⟩
theorem back_law (W : World) (args : List Value) (h : GdArgs W [(false, .cons (.slice askSh) .nil), (false, .cons (.slice askSh) .nil), (false, .cons (.int .u32) .nil)] args) : Calls Try.prog 6 args.toArray W fun e W' => e = .returned (.bool true) ∧ Below W.heap.size W W' := by
  obtain ⟨v0, r, rfl, h0, h⟩ := h.one
  obtain ⟨v1, r, rfl, h1, h⟩ := h.one
  obtain ⟨v2, r, rfl, h2, h⟩ := h.one
  cases h
  obtain ⟨s, l, rfl, hl, hm, hp⟩ := asks_of h0
  obtain ⟨s2, m, rfl, hl2, hm2, hp2⟩ := asks_of h1
  obtain ⟨n1, rfl, _⟩ := good_int h2
  exact (back_c hl hp hl2 hp2).mono fun e w' ⟨b, he, hb, hw⟩ => by subst hb; exact ⟨he, hw⟩
end Go.Proofs.Ytjjjomeemfmihaa
