/-
  Put and Cut of the inside's ways.
-/
import Derived.Test.YtecegjimdohmeaaIgpD
namespace Go.Proofs.Ytecegjimdohmeaa
set_option linter.unusedVariables false
set_option linter.unusedSimpArgs false
open Go.Sp

theorem From.old {D D' : List Nat} {w : World} {n : Nat} (h : From D w D') (hD : ∀ y ∈ D, n ≤ y) (hw : n ≤ w.heap.size) : ∀ y ∈ D', n ≤ y := fun y hy => by
  rcases h y hy with h | h
  · exact hD y h
  · omega
theorem iput_c {w : World} {X : List Nat} {p : Nat} {S : IS} (F : IgpAt w X p S) {x : Wy} (hx : x.ty) :
    Calls Try.prog 9 #[.pointer (some ⟨p, 0, none⟩), x.agg] w (R9 fun a e w' => a = (S.put x).1 ∧ e = (S.put x).2.1 ∧ ∃ X', IgpAt w' X' p (S.put x).2.2 ∧ Keeps X w w' ∧ From X w X') := by
  have F0 := F
  obtain ⟨t, o, r, D, E, es, O, F⟩ := F
  refine F9_ok (M.new_blk fun b2 w1 hb2 B k1 => ⟨_, _, _, _, _, _, B.cs 0 _ rfl, (iright_c hx.1).mono fun e w2 g => ?_⟩)
  obtain ⟨r2, rfl, rfl, k2⟩ := g
  have k02 := k1.trans k2 (by simp)
  have B2 := B.keep k2 (by simp)
  have hb2l := B.lt
  unfold IS.put
  refine ⟨_, rfl, M.ite_by (fun c => ?_) (fun c => ?_)⟩
  · have c : rightW x = false := by simpa using c
    rw [c]
    exact ⟨rfl, rfl, X, F0.keep k02 (by simp), k02.up, From.refl _ _⟩
  have cR : rightW x = true := by simpa using c
  rw [cR, if_pos rfl]
  refine M.drew_by ?_
  have kd := Keeps.drew [] w2
  have k03 := k02.trans kd (by simp)
  have B3 := B2.keep kd (by simp)
  have F3 := F.keep k03 (by simp)
  generalize w2.drew = w3 at *
  have l3 := (F3.look x.pf).1
  refine ⟨_, rfl, _, F3.tbl.cell 2, _, B3.cell 0, _, B3.cell 1, _, _, _, _, _, _, _, l3, M.new_blk fun b4 w4 hb4 C k4 => ?_⟩
  have F4 := F3.keep k4 (by simp)
  have B4 := B3.keep k4 (by simp)
  have hs3 := k03.size
  have hs1 := k1.size
  have hs23 := k2.size
  have hb4l := C.lt
  refine ⟨(F4.look x.pf).1, B4.cell 0, B4.cell 1, F4.tbl.cell 2, M.stA_blk C rfl fun w5 C5 k5 => ?_⟩
  have k35 : Keeps [] w3 w5 := k4.trans k5 (by simp; omega)
  have k05 := k03.trans k35 (by simp)
  have B5 := B3.keep k35 (by simp)
  have F5 := F.keep k05 (by simp)
  have hb23 : b2 < w3.heap.size := B3.lt
  have hbb : b2 ≠ b4 := by omega
  refine M.join_by (fun J => J ((tget S.L x.pf).isNone && decide (64 ≤ S.L.length)) w5) ?_ fun J hJ => ?_
  rotate_left
  · refine M.ite_by (fun c1 => ?_) (fun c1 => ?_)
    · have c1 : (tget S.L x.pf).isNone = true := by cases h : tget S.L x.pf <;> simp [h] at c1 ⊢
      rw [c1, Bool.true_and] at hJ
      have hlen := mlen_ok mapU F5.map 3
      rw [F5.len] at hlen
      refine ⟨_, rfl, _, F5.tbl.cell 2, _, hlen, ?_⟩
      rw [show decide ((64 : Int) ≤ (S.L.length : Int)) = decide (64 ≤ S.L.length) by apply decide_eq_decide.2; omega]
      exact hJ
    · have c1 : (tget S.L x.pf).isNone = false := by cases h : tget S.L x.pf <;> simp [h] at c1 ⊢
      rw [c1, Bool.false_and] at hJ
      exact hJ
  refine M.ite_by (fun c1 => ?_) (fun c1 => ?_)
  · rw [if_pos c1]
    exact ⟨rfl, rfl, X, F0.keep k05 (by simp), k05.up, From.refl _ _⟩
  have c1' : ((tget S.L x.pf).isNone && decide (64 ≤ S.L.length)) = false := c1
  rw [c1', if_neg (by simp)]
  have hok := Wy.fix_ok cR hx
  -- the cost is made clean
  refine ⟨_, B5.cell 5, (clean_c x.cost).mono fun e w6 g => ?_⟩
  obtain ⟨r6, rfl, rfl, rfl⟩ := g
  refine ⟨_, rfl, M.st_blk B5 (by simp) fun w7 B7 k7 => M.drew_by ?_⟩
  have B7 : Blk w7 b2 32 x.fix.cells := B7
  have kd7 := Keeps.drew [] w7
  have hb2w : w.heap.size ≤ b2 := by omega
  have k08 : Keeps [] w w7.drew := (k05.trans k7 (by simp; omega)).trans kd7 (by simp)
  have B8 := B7.keep kd7 (by simp)
  have C8 := (C5.keep k7 (by simp; omega)).keep kd7 (by simp)
  have F8 := F.keep k08 (by simp)
  generalize w7.drew = w8 at *
  have hs8 := k08.size
  have hb2X : b2 ∉ X := fun h => by have := F.lt _ h; omega
  have hb4X : b4 ∉ X := fun h => by have := F.lt _ h; omega
  obtain ⟨w9, u9, m9, k9⟩ := upd_ok keyT mapU F8.map x.pf x.fix.agg
  have hs9 := k9.size
  have hr : ∀ y ∈ [r], y ∈ X := by simp; exact F.inr
  have hne : ∀ {b}, b ∉ X → b ∉ [r] := fun h hb => h (hr _ hb)
  refine ⟨_, rfl, _, F8.tbl.cell 2, _, B8.cell 0, _, B8.cell 1, _, _, _, _, _, _, B8.cs 0 _ rfl, w9, u9, M.drew_by ?_⟩
  have kd9 := Keeps.drew [] w9
  have k10 : Keeps [r] w8 w9.drew := k9.and kd9.up
  have m10 := m9.keep kd9 (by simp)
  generalize w9.drew = w10 at *
  have hs10 := k10.size
  have B10 := B8.keep k10 (hne hb2X)
  have C10 := C8.keep k10 (hne hb4X)
  have tb10 := F8.tbl.keep k10 (by simp; exact F.pr)
  have all10 := F8.all.keep k10 (fun y hy h => by simp at h; subst h; exact F.rD hy)
  have opt10 := F8.opt.keep k10 (fun y hy h => by simp at h; subst h; exact F.rE hy)
  refine ⟨_, rfl, _, tb10.cell 0, _, B10.cell 0, _, B10.cell 1, (put_c all10 hx.1 x.pf.2 0 (by have := F.few; omega)).mono fun e w11 g => ?_⟩
  obtain ⟨r11, rfl, -, D', all11, k11, f11⟩ := g
  have hRP : rightP x.pf.1 x.pf.2 = true := by
    unfold rightW at cR
    simp only [Bool.and_eq_true] at cR
    exact cR.1.1
  rw [hRP, if_pos rfl] at all11
  have hs11 := k11.size
  have hD : ∀ y ∈ D', y ∈ D ∨ w10.heap.size ≤ y := f11
  have B11 := B10.keep k11 (fun h => hb2X (F.inD _ h))
  have C11 := C10.keep k11 (fun h => hb4X (F.inD _ h))
  have tb11 := tb10.keep k11 F.pD
  have m11 := m10.keep k11 F.rD
  have opt11 := opt10.keep k11 (fun y hy h => F.dis y h hy)
  have hrD' : r ∉ D' := fun h => by
    rcases hD r h with h | h
    · exact F.rD h
    · have := F.lt _ F.inr; omega
  have hpD' : p ∉ D' := fun h => by
    rcases hD p h with h | h
    · exact F.pD h
    · have := F.lt _ F.inp; omega
  have hED' : ∀ y ∈ E, y ∉ D' := fun y hy h => by
    rcases hD y h with h | h
    · exact F.dis y h hy
    · have := F.lt _ (F.inE _ hy); omega
  have k811 : Keeps X w8 w11 := (k10.mono (fun y hy => .inl (hr y hy))).trans k11 (fun y hy => .inl (F.inD y hy))
  have k011 : Keeps X w w11 := k08.up.trans k811 (fun y hy => .inl hy)
  refine ⟨_, rfl, M.join_by (fun (J : World → Prop) => ∀ w' E' O', TrieAt w' E' o O' → Keeps E w11 w' → From E w11 E' → (∀ k, (tget O' k).isSome = (S.set x).opn k) → J w') (fun w12 E' O' opt12 k12 f12 hop => ?_) fun J hJ => ?_⟩
  · have hs12 := k12.size
    have B12 := B11.keep k12 (fun h => hb2X (F.inE _ h))
    have C12 := C11.keep k12 (fun h => hb4X (F.inE _ h))
    have hE : ∀ y ∈ E', y ∈ E ∨ w11.heap.size ≤ y := f12
    have hget : ∀ k, tget (tput S.L x.pf 0) k = if x.pf = k then some 0 else tget S.L k := fun k => tget_tput _ _ _ _
    have hmg := mget_mset es x.pf
    have hTab : Tab S.L := by
      obtain ⟨_, _, _, _, _, _, h⟩ := F.all
      exact h
    have htl := tput_len hTab.sorted x.pf 0
    have hIn : IgpIn w12 (X ++ D' ++ E') p t o r D' E' (mset es x.pf x.fix.agg) O' (S.set x) := by
      refine ⟨?_, tb11.keep k12 F.pE, all11.keep k12 (fun y hy h => hED' y h hy), opt12, m11.keep k12 F.rE, F.once.mset _ _, ?_, ?_, hpD', ?_, hrD', ?_, F.pr, ?_, by simp [F.inp], by simp [F.inr], fun y hy => by simp [hy], fun y hy => by simp [hy], ?_, ?_, hop⟩
      · intro y hy
        simp only [List.mem_append] at hy
        rcases hy with (hy | hy) | hy
        · have := F.lt y hy; omega
        · have := all11.1 y hy; omega
        · exact opt12.1 y hy
      · show (mset es x.pf x.fix.agg).length = (tput S.L x.pf 0).length
        rw [mset_len, htl, F.same, F.len]
      · show (tput S.L x.pf 0).length ≤ 64
        rw [htl]
        have := F.few
        split
        · exact this
        · rename_i hh
          have hh : (tget S.L x.pf).isNone = true := by cases h : tget S.L x.pf <;> simp [h] at hh ⊢
          rw [hh, Bool.true_and] at c1'
          have := of_decide_eq_false c1'
          omega
      · intro h
        rcases hE p h with h | h
        · exact F.pE h
        · have := F.lt _ F.inp; omega
      · intro h
        rcases hE r h with h | h
        · exact F.rE h
        · have := F.lt _ F.inr; omega
      · intro y hy h
        rcases hE y h with h | h
        · exact hED' y h hy
        · have := all11.1 y hy; omega
      · intro k hk
        have hk : (tget (tput S.L x.pf 0) k).isSome = true := hk
        rw [hget] at hk
        show mget (mset es x.pf x.fix.agg) k = some (if k = x.pf then x.fix else S.h k).agg ∧ (if k = x.pf then x.fix else S.h k).pf = k ∧ okW (if k = x.pf then x.fix else S.h k)
        rw [hmg]
        by_cases hka : k = x.pf
        · rw [if_pos hka, if_pos hka.symm]
          exact ⟨rfl, by rw [hka]; rfl, hok⟩
        · rw [if_neg hka, if_neg (fun h => hka h.symm)]
          rw [if_neg (fun h => hka h.symm)] at hk
          exact F.hop k hk
      · intro k hk
        have hk : (tget (tput S.L x.pf 0) k).isSome = false := hk
        rw [hget] at hk
        rw [hmg]
        by_cases hka : x.pf = k
        · rw [if_pos hka] at hk; cases hk
        · rw [if_neg hka] at hk ⊢
          exact F.hno k hk
    have k012 : Keeps X w w12 := k011.trans k12 (fun y hy => .inl (F.inE y hy))
    have hfr : From X w (X ++ D' ++ E') := by
      intro y hy
      simp only [List.mem_append] at hy
      rcases hy with (hy | hy) | hy
      · exact .inl hy
      · rcases hD y hy with h | h
        · exact .inl (F.inD y h)
        · right; omega
      · rcases hE y hy with h | h
        · exact .inl (F.inE y h)
        · right; omega
    refine M.join_by (fun (J : Bool → Int → World → Prop) => ∀ w', Keeps [] w12 w' → J (!((tget S.L x.pf).isSome && sameW (S.h x.pf) x.fix)) 0 w') (fun w13 k13 => ⟨rfl, rfl, _, ⟨t, o, r, D', E', _, _, hIn.keep k13 (by simp)⟩, k012.trans k13 (by simp), hfr⟩) fun J hJ => ?_
    cases hsm : (tget S.L x.pf).isSome with
    | false =>
      rw [hsm] at hJ
      exact M.ite_tt (hJ _ (Keeps.refl _ _))
    | true =>
      rw [hsm] at hJ
      have hgt : S.get x.pf = S.h x.pf := by unfold IS.get; rw [if_pos hsm]
      rw [hgt] at C12
      refine M.ite_ff ⟨_, _, _, _, _, _, C12.cs 0 _ rfl, _, _, _, _, _, _, B12.cs 0 _ rfl, (isame_c (S.h x.pf) x.fix).mono fun e w13 g => ?_⟩
      obtain ⟨r13, rfl, rfl, k13⟩ := g
      exact ⟨_, rfl, hJ _ k13⟩
  · refine ⟨_, B11.cell 5, (isinf_c _).mono fun e w12 g => ?_⟩
    obtain ⟨r12, rfl, rfl, hw⟩ := g
    obtain rfl := hw.symm
    have hopx : ∀ k, (S.set x).opn k = if x.pf = k then !infB x.fix.cost else S.opn k := by
      intro k
      show ((tget (tput S.L x.pf 0) k).isSome && !infB (if k = x.pf then x.fix else S.h k).cost) = _
      rw [tget_tput]
      by_cases h : x.pf = k
      · rw [if_pos h, if_pos h.symm, if_pos h]; simp
      · rw [if_neg h, if_neg (fun e => h e.symm), if_neg h]; rfl
    have hOn := F.fewO
    have kd11 := Keeps.drew [] w11
    refine ⟨_, rfl, M.ite_by (fun c2 => M.drew_by ?_) (fun c2 => M.drew_by ?_)⟩
    · refine ⟨_, rfl, _, (tb11.keep kd11 (by simp)).cell 1, _, (B11.keep kd11 (by simp)).cell 0, _, (B11.keep kd11 (by simp)).cell 1, (cut_t (opt11.keep kd11 (by simp)) hx.1 x.pf.2 (by omega)).mono fun e w13 g => ?_⟩
      obtain ⟨r13, rfl, -, opt13, k13⟩ := g
      refine ⟨_, rfl, hJ w13 E _ opt13 (kd11.up.and k13) (From.refl _ _) (fun k => ?_)⟩
      rw [hopx, tget_tcut]
      by_cases h : x.pf = k
      · rw [if_pos (show ((x.pf.1, x.pf.2) : Key) = k from h), if_pos h, c2]; rfl
      · rw [if_neg (show ¬ ((x.pf.1, x.pf.2) : Key) = k from h), if_neg h]; exact F.op k
    · refine ⟨_, rfl, _, (tb11.keep kd11 (by simp)).cell 1, _, (B11.keep kd11 (by simp)).cell 0, _, (B11.keep kd11 (by simp)).cell 1, (put_c (opt11.keep kd11 (by simp)) hx.1 x.pf.2 0 (by omega)).mono fun e w13 g => ?_⟩
      obtain ⟨r13, rfl, -, E', opt13, k13, f13⟩ := g
      rw [hRP, if_pos rfl] at opt13
      refine ⟨_, rfl, hJ w13 E' _ opt13 (kd11.up.and k13) f13 (fun k => ?_)⟩
      rw [hopx, tget_tput]
      by_cases h : x.pf = k
      · rw [if_pos (show ((x.pf.1, x.pf.2) : Key) = k from h), if_pos h, show infB x.fix.cost = false from c2]; rfl
      · rw [if_neg (show ¬ ((x.pf.1, x.pf.2) : Key) = k from h), if_neg h]; exact F.op k
theorem icut_c {w : World} {X : List Nat} {p : Nat} {S : IS} (F : IgpAt w X p S) {a : Nat} (ha : a < 4294967296) (n : Int) :
    Calls Try.prog 17 #[.pointer (some ⟨p, 0, none⟩), .agg #[.int .u32 (a : Int), .int .i64 n]] w (R17 fun r w' => r = (tget S.L (a, n)).isSome ∧ IgpAt w' X p (S.cut (a, n)) ∧ Keeps X w w') := by
  have F0 := F
  obtain ⟨t, o, r, D, E, es, O, F⟩ := F
  refine F17_ok (M.new_blk fun b2 w1 hb2 B k1 => M.drew_by ?_)
  have kd := Keeps.drew [] w1
  have k02 := k1.trans kd (by simp)
  have B2 := B.keep kd (by simp)
  have F2 := F.keep k02 (by simp)
  generalize w1.drew = w2 at *
  have hb2l := B2.lt
  refine ⟨_, rfl, _, F2.tbl.cell 2, _, B2.cell 0, _, B2.cell 1, _, _, _, _, _, _, _, (F2.look (a, n)).1, M.new_blk fun b4 w4 hb4 C k4 => ?_⟩
  have F4 := F2.keep k4 (by simp)
  have B4 := B2.keep k4 (by simp)
  have hs2 := k02.size
  refine ⟨(F4.look (a, n)).1, B4.cell 0, B4.cell 1, F4.tbl.cell 2, M.stA_blk C rfl fun w5 C5 k5 => ?_⟩
  have k25 : Keeps [] w2 w5 := k4.trans k5 (by simp; omega)
  have k05 := k02.trans k25 (by simp)
  have B5 := B2.keep k25 (by simp)
  cases hk : (tget S.L (a, n)).isSome with
  | false =>
    refine M.ite_tt ⟨rfl, ?_, k05.up⟩
    have : S.cut (a, n) = S := by
      unfold IS.cut
      rw [tcut_none (by cases hh : tget S.L (a, n) <;> simp [hh] at hk ⊢)]
    rw [this]
    exact F0.keep k05 (by simp)
  | true =>
    refine M.ite_ff (M.drew_by ?_)
    have kd5 := Keeps.drew [] w5
    have k06 := k05.trans kd5 (by simp)
    have B6 := B5.keep kd5 (by simp)
    have F6 := F.keep k06 (by simp)
    generalize w5.drew = w6 at *
    have hs6 := k06.size
    have hbX : b2 ∉ X := fun h => by have := F.lt _ h; have := k1.size; omega
    obtain ⟨w7, u7, m7, k7⟩ := del_ok keyT mapU F6.map (a, n) 28 0
    refine ⟨_, rfl, _, F6.tbl.cell 2, _, B6.cell 0, _, B6.cell 1, w7, u7, M.drew_by ?_⟩
    have hr : ∀ y ∈ [r], y ∈ X := by simp; exact F.inr
    have kd7 := Keeps.drew [] w7
    have k8 : Keeps [r] w6 w7.drew := k7.and kd7.up
    have m8 := m7.keep kd7 (by simp)
    generalize w7.drew = w8 at *
    have B8 := B6.keep k8 (fun h => hbX (hr _ h))
    have tb8 := F6.tbl.keep k8 (by simp; exact F.pr)
    have all8 := F6.all.keep k8 (fun y hy h => by simp at h; subst h; exact F.rD hy)
    have opt8 := F6.opt.keep k8 (fun y hy h => by simp at h; subst h; exact F.rE hy)
    refine ⟨_, rfl, _, tb8.cell 0, _, B8.cell 0, _, B8.cell 1, (cut_t all8 ha n (by have := F.few; omega)).mono fun e w9 g => ?_⟩
    obtain ⟨r9, rfl, -, all9, k9⟩ := g
    have kd9 := Keeps.drew [] w9
    have k10 : Keeps D w8 w9.drew := k9.and kd9.up
    have all10 := all9.keep kd9 (by simp)
    refine ⟨_, rfl, M.drew_by ?_⟩
    generalize w9.drew = w10 at *
    have B10 := B8.keep k10 (fun h => hbX (F.inD _ h))
    have tb10 := tb8.keep k10 F.pD
    have m10 := m8.keep k10 F.rD
    have opt10 := opt8.keep k10 (fun y hy h => F.dis y h hy)
    refine ⟨_, rfl, _, tb10.cell 1, _, B10.cell 0, _, B10.cell 1, (cut_t opt10 ha n (by have := F.fewO; omega)).mono fun e w11 g => ?_⟩
    obtain ⟨r11, rfl, -, opt11, k11⟩ := g
    have hml := mdel_len es (a, n)
    rw [F.same, hk, if_pos rfl] at hml
    have hTab : Tab S.L := by
      obtain ⟨_, _, _, _, _, _, h⟩ := F.all
      exact h
    have htl := tcut_len hTab.sorted (a, n)
    rw [hk, if_pos rfl] at htl
    have hfl := F.len
    have hff := F.few
    have hmg := mget_mdel F.once (a, n)
    refine ⟨_, rfl, rfl, ⟨t, o, r, D, E, mdel es (a, n), tcut O (a, n), ?_⟩, ?_⟩
    · refine ⟨?_, tb10.keep k11 F.pE, all10.keep k11 (fun y hy h => F.dis y hy h), opt11, m10.keep k11 F.rE, F.once.mdel _, ?_, ?_, F.pD, F.pE, F.rD, F.rE, F.pr, F.dis, F.inp, F.inr, F.inD, F.inE, ?_, ?_, ?_⟩
      · intro y hy
        have := F.lt y hy
        have := k8.size; have := k10.size; have := k11.size
        omega
      · show (mdel es (a, n)).length = (tcut S.L (a, n)).length
        omega
      · show (tcut S.L (a, n)).length ≤ 64
        omega
      · intro k hk
        have hk : (tget (tcut S.L (a, n)) k).isSome = true := hk
        rw [tget_tcut] at hk
        show mget (mdel es (a, n)) k = some (S.h k).agg ∧ _
        rw [hmg]
        by_cases hka : (a, n) = k
        · rw [if_pos hka] at hk; cases hk
        · rw [if_neg hka] at hk ⊢
          exact F.hop k hk
      · intro k hk
        have hk : (tget (tcut S.L (a, n)) k).isSome = false := hk
        rw [tget_tcut] at hk
        rw [hmg]
        by_cases hka : (a, n) = k
        · rw [if_pos hka]
        · rw [if_neg hka] at hk ⊢
          exact F.hno k hk
      · intro k
        show _ = ((tget (tcut S.L (a, n)) k).isSome && !infB (S.h k).cost)
        rw [tget_tcut, tget_tcut]
        by_cases hka : (a, n) = k
        · rw [if_pos hka, if_pos hka]; rfl
        · rw [if_neg hka, if_neg hka]; exact F.op k
    · have k08 : Keeps X w w8 := k06.up.trans k8 (fun y hy => .inl (hr y hy))
      have k010 : Keeps X w w10 := k08.trans k10 (fun y hy => .inl (F.inD y hy))
      exact k010.trans k11 (fun y hy => .inl (F.inE y hy))
end Go.Proofs.Ytecegjimdohmeaa
