/-
  FibRefused: a write that is refused changes nothing; one of what is there never is.
-/
import Derived.Test.YtnfmkedblnajlaaFibMatch
namespace Go.Proofs.Ytnfmkedblnajlaa
set_option linter.unusedVariables false
set_option linter.unusedSimpArgs false
open Go.Sp
open Go.RowKit (Below)

theorem FS.all_len (S : FS) : S.all.length = S.L.length := by simp [FS.all]
theorem frlaw_c {W : World} {s : SV} {l : List As} {p0 : Int} (hp0 : -9223372036854775808 ≤ p0 ∧ p0 ≤ 9223372036854775807) (hs : Rd 6 W s (l.flatMap asv)) (hok : ∀ x ∈ l, x.ok W) (hm : s.len ≤ maxLen) :
    Calls Try.prog 4 #[.int .i64 p0, s.v] W (R4 fun r w' => r = true ∧ Below W.heap.size W w') := by
  unfold maxLen at hm
  have hl := rows_len as6 (by omega) hs
  refine F4_ok ((within_c p0 0 10 (by omega) (by omega) (by omega)).mono fun e w1 g => ?_)
  obtain ⟨room, rfl, hr0, hr1, hr2, hw⟩ := g
  obtain rfl := hw.symm
  refine ⟨_, rfl, (fnew_c room).mono fun e w1 g => ?_⟩
  obtain ⟨r, e', rfl, g, k1⟩ := g
  rw [if_pos (by omega)] at g
  obtain ⟨p, X, rfl, rfl, F1, hX⟩ := g
  refine ⟨_, _, rfl, M.join_by (fun (J : Bool → World → Prop) => J false w1) (M.ite_ff ?_) fun J hJ => M.ite_ff hJ⟩
  refine M.loop1_by (fun x w => ∃ (i : Nat) (X : List Nat) (S : FS), x = i ∧ i ≤ 50 ∧ Aft W w ∧ FibAt w X p room S ∧ (∀ y ∈ X, W.heap.size ≤ y) ∧ (S.L.length : Int) ≤ room ∧ S.n ≤ 2 * i) (fun x _ => (50 - x).toNat)
    ⟨0, X, FS.zero, rfl, by omega, (Aft.refl W).new k1, F1, hX, by simp [FS.zero]; omega, by simp [FS.zero]⟩ ?_
  rintro x w J ⟨i, X, S, rfl, hi, ha, F, hX, hSl, hSn⟩ hJ
  refine M.join_lt (fun hx1 hx2 => ?_) (fun hend => ?_)
  · have il : i < l.length := by omega
    have ei := List.getElem?_eq_getElem il
    obtain ⟨hA, hr, hN⟩ := hok _ (List.getElem_mem il)
    generalize l[i] = x at *
    have hs' := hs.arg ha.1
    obtain ⟨ax, hax⟩ := hs'.some (by omega)
    refine M.join_by (fun (J2 : World → Prop) => ∀ w' X' S', Aft W w' → FibAt w' X' p room S' → (∀ y ∈ X', W.heap.size ≤ y) → (S'.L.length : Int) ≤ room → S'.n ≤ 2 * (i + 1) → J2 w') (fun w' X' S' h1 h2 h3 h4 h5 => ?_) fun J2 hJ2 => ⟨ax, hax, by omega, by omega, _, _, _, _, _, _, rows_cs as6 hs' hax ei, M.new_blk fun b2 w2 hb2 B2 k2 => M.stA_blk B2 rfl fun w3 B3 k3 => M.st_blk B3 (by simp) fun w4 B4 k4 => ⟨_, _, _, _, _, _, B4.cs 0 _ rfl, ?_⟩⟩
    · rw [w64 (by omega) (by omega)]
      exact hJ _ _ ⟨i + 1, X', S', by omega, by omega, h1, h2, h3, h4, h5⟩ (by omega)
    have k04 : Keeps [] w w4 := (k2.trans k3 (by simp; omega)).trans k4 (by simp; omega)
    have a4 := ha.new k04
    refine (fentry_c x.kind x.N x.Ln x.A true (hr.arg a4.1)).mono fun e w5 g => ?_
    obtain ⟨x5, y5, t5, rfl, rfl, rfl, rd5, f5, k5⟩ := g
    have k05 := k04.trans k5 (by simp)
    obtain ⟨q1, q2, q3, q4⟩ := few_right x.N x.Ln x.A x.l
    generalize askEn true x.N x.Ln x.A x.l = en at *
    have hXl := F.lt
    have hh5 : ∀ y ∈ t5.blk, w4.heap.size ≤ y := fun y hy => by
      rcases f5 y hy with h | h
      · cases h.1
      · exact h
    have hs4 := k04.size
    refine ⟨_, _, _, rfl, M.new_blk fun b6 w6 hb6 B6 k6 => M.stA_blk B6 rfl fun w7 B7 k7 => ?_⟩
    have k57 : Keeps [] w5 w7 := k6.trans k7 (by simp; omega)
    have k07 := k05.trans k57 (by simp)
    have B47 := (B4.keep k5 (by simp)).keep k57 (by simp)
    have F7 := F.keep k07 (by simp)
    have rd7 := rd5.keep k57 (by simp)
    -- what was there
    refine (fall_c F7).mono fun e w8 g => ?_
    obtain ⟨r8, rfl, ⟨was, E8, hwas, hwf⟩, f8, k8⟩ := g
    have hwl : r8.len = S.L.length := by rw [E8.len]; have := congrArg List.length hwas; rw [List.length_map, FS.all_len] at this; exact this
    have F8 := F7.keep k8 (by simp)
    refine ⟨_, rfl, (fwrites_c F8).mono fun e w9 g => ?_⟩
    obtain ⟨r9, rfl, rfl, rfl⟩ := g
    have B8 := B7.keep k8 (by simp)
    refine ⟨_, rfl, _, B8.cell 0, _, B8.cell 1, (fget_c F8 en.1.1 en.1.2).mono fun e w10 g => ?_⟩
    obtain ⟨r10, ok10, rfl, rd10, rfl, f10, k10⟩ := g
    have k810 : Keeps [] w7 w10 := k8.trans k10 (by simp)
    have B10 := B8.keep k10 (by simp)
    have F10 := F8.keep k10 (by simp)
    have hs10 := k810.size
    have hs7 := k07.size
    refine ⟨_, _, rfl, _, _, _, B10.cs 0 _ rfl, (fset_c F10 (by omega) (by omega) q1 en.1.2 (rd7.keep k810 (by simp)) ?_ (by omega)).mono fun e w11 g => ?_⟩
    · intro _ y hy h
      have := hh5 y hy; have := hXl y h; omega
    obtain ⟨r11, rfl, rfl, X11, F11, k11, f11⟩ := g
    rw [show ((en.1.1, en.1.2) : Key) = en.1 from rfl] at F11 ⊢
    refine ⟨_, rfl, ?_⟩
    have k010 := k07.trans k810 (by simp)
    have a10 := ha.new k010
    have a11 := a10.step k11 hX
    have hX11 := f11.old hX a10.2
    have hb2X : b2 ∉ X := fun h => by have := hXl _ h; omega
    have hb6X : b6 ∉ X := fun h => by have := hXl _ h; have := k05.size; omega
    have B11 := B10.keep k11 hb6X
    have B411 := (B47.keep k810 (by simp)).keep k11 hb2X
    have hwlen : was.length = S.L.length := by rw [← E8.len]; exact hwl
    have E11 : EnAt w11 r8 was := ⟨(E8.1.keep k10 (by simp)).keep' k11 (fun _ y hy h => by have := f8 y hy; have := hXl y h; omega), fun z hz => ⟨((E8.2 z hz).1.keep k10 (by simp)).keep' k11 (fun _ y hy h => by have := hwf z hz y hy; have := hXl y h; omega), (E8.2 z hz).2⟩⟩
    have hset : (S.set room en.1 en.2 = (0, ⟨tput S.L en.1 0, fun k' => if k' = en.1 then en.2 else S.h k', S.n + 1⟩) ∧ ((tget S.L en.1).isSome = true ∨ (S.L.length : Int) < room)) ∨ (S.set room en.1 en.2 = (13, S) ∧ (tget S.L en.1).isSome = false ∧ room ≤ (S.L.length : Int)) := by
      by_cases h1 : (tget S.L en.1).isSome = true ∨ (S.L.length : Int) < room
      · exact .inl ⟨FS.set_ok S q2 q3 h1, h1⟩
      · right
        have h2 : (tget S.L en.1).isSome = false := by cases hh : (tget S.L en.1).isSome <;> simp [hh] at h1 ⊢
        exact ⟨FS.set_full S q2 q3 h2 (by omega), h2, by omega⟩
    have rd11 : Rd 2 w11 t5 (hvs en.2) := (rd7.keep k810 (by simp)).keep' k11 (fun _ y hy h => by have := hh5 y hy; have := hXl y h; omega)
    -- the table behind the write
    refine M.join_by (fun (J3 : Bool → World → Prop) => ∀ w', Keeps [] w11 w' → J3 false w') (fun w12 k12 => M.ite_ff ?_) fun J3 hJ3 => ?_
    rotate_left
    · rcases hset with ⟨hset, _⟩ | ⟨hset, h2, h3⟩
      · rw [hset]; exact M.ite_ff (hJ3 _ (Keeps.refl _ _))
      · rw [hset] at F11 ⊢
        refine M.ite_tt (M.ite_ff ?_)
        rw [h2]
        refine M.ite_ff (M.ite_n (by rw [hwl]; exact decide_eq_false (by omega)) ((fall_c F11).mono fun e w12 g => ?_))
        obtain ⟨r12, rfl, ⟨now, E12, hnow, hnf⟩, f12, k12⟩ := g
        have F12 := F11.keep k12 (by simp)
        refine ⟨_, rfl, (ents_c (E11.new k12) E12 (by omega)).mono fun e w13 g => ?_⟩
        obtain ⟨r13, rfl, rfl, k13⟩ := g
        have F13 := F12.keep k13 (by simp)
        refine ⟨_, rfl, M.ite_n (by rw [hwas, hnow]; simp) ((fwrites_c F13).mono fun e w14 g => ?_)⟩
        obtain ⟨r14, rfl, rfl, rfl⟩ := g
        refine ⟨_, rfl, ?_⟩
        have := hJ3 _ (k12.trans k13 (by simp))
        simpa using this
    have F12 := F11.keep k12 (by simp)
    have e1 : IntKind.i64.wrap ((S.n : Int) + 1) = ((S.n + 1 : Nat) : Int) := by rw [w64 (by omega) (by omega)]; omega
    refine M.join_by (fun (J3 : Bool → World → Prop) => ∀ w', Keeps [] w12 w' → J3 false w') (fun w13 k13 => M.ite_ff ?_) fun J3 hJ3 => ?_
    rotate_left
    · rcases hset with ⟨hset, h2⟩ | ⟨hset, h2, h3⟩
      · rw [hset] at F12 ⊢
        have hw : Calls Try.prog 17 #[.pointer (some ⟨p, 0, none⟩)] w12 (R17 fun r w' => J3 (r != IntKind.i64.wrap ((S.n : Int) + 1)) w') := (fwrites_c F12).mono fun e w14 g => by
          obtain ⟨r14, rfl, rfl, rfl⟩ := g
          refine ⟨_, rfl, ?_⟩
          rw [e1]
          have := hJ3 _ (Keeps.refl _ _)
          simpa using this
        refine M.ite_tt ?_
        cases hh : (tget S.L en.1).isSome with
        | true => exact M.ite_ff hw
        | false =>
          rw [hh] at h2
          refine M.ite_tt (M.ite_n (by rw [hwl]; exact decide_eq_false (by rcases h2 with h | h; cases h; omega)) hw)
      · rw [hset]; exact M.ite_ff (hJ3 _ (Keeps.refl _ _))
    have k113 := k12.trans k13 (by simp)
    have F13 := F12.keep k13 (by simp)
    have B13 := B11.keep k113 (by simp)
    have B413 := B411.keep k113 (by simp)
    refine ⟨_, B13.cell 0, _, B13.cell 1, (fget_c F13 en.1.1 en.1.2).mono fun e w14 g => ?_⟩
    obtain ⟨r14, ok14, rfl, rd14, rfl, f14, k14⟩ := g
    rw [show ((en.1.1, en.1.2) : Key) = en.1 from rfl] at rd14 ⊢
    have F14 := F13.keep k14 (by simp)
    have k114 := k113.trans k14 (by simp)
    have B14 := B13.keep k14 (by simp)
    have B414 := B413.keep k14 (by simp)
    have hTab : Tab S.L := by
      obtain ⟨t, r, D, es, F⟩ := F
      obtain ⟨_, _, _, _, _, _, h⟩ := F.trie
      exact h
    have hroomL : ((S.set room en.1 en.2).2.L.length : Int) ≤ room := by
      rcases hset with ⟨hset, h2⟩ | ⟨hset, h2, h3⟩
      · rw [hset]
        show ((tput S.L en.1 0).length : Int) ≤ room
        rw [tput_len hTab.sorted]
        split
        · exact hSl
        · rename_i h3
          rcases h2 with h | h
          · exact absurd h h3
          · omega
      · rw [hset]; exact hSl
    have hn2 : (S.set room en.1 en.2).2.n ≤ 2 * i + 1 := by
      rcases hset with ⟨hset, h2⟩ | ⟨hset, h2, h3⟩
      · rw [hset]; show S.n + 1 ≤ _; omega
      · rw [hset]; show S.n ≤ _; omega
    refine ⟨_, _, rfl, M.join_by (fun (J3 : Bool → World → Prop) => ∀ w', Keeps [] w14 w' → J3 false w') (fun w15 k15 => M.ite_ff ?_) fun J3 hJ3 => ?_⟩
    rotate_left
    · have hlen : ∀ w', Keeps [] w14 w' → Calls Try.prog 19 #[.pointer (some ⟨p, 0, none⟩)] w' (R19 fun r w' => J3 (decide (room < r)) w') := fun w' k' => (flen_c (F14.keep k' (by simp))).mono fun e w16 g => by
        obtain ⟨r16, rfl, rfl, rfl⟩ := g
        refine ⟨_, rfl, ?_⟩
        show J3 (decide (room < _)) w16
        rw [decide_eq_false (by omega)]
        exact hJ3 _ k'
      rcases hset with ⟨hset, h2⟩ | ⟨hset, h2, h3⟩
      · rw [hset] at rd14 ⊢
        have hg : tget (tput S.L en.1 0) en.1 = some 0 := by rw [tget_tput, if_pos rfl]
        have hg2 : FS.get ⟨tput S.L en.1 0, fun k' => if k' = en.1 then en.2 else S.h k', S.n + 1⟩ en.1 = en.2 := by
          unfold FS.get
          show (if (tget (tput S.L en.1 0) en.1).isSome = true then (if en.1 = en.1 then en.2 else S.h en.1) else []) = en.2
          rw [hg]; simp
        rw [hg2] at rd14
        refine M.ite_tt (M.ite_n (by show (!(tget (tput S.L en.1 0) en.1).isSome) = false; rw [hg]; rfl) ⟨_, B14.cell 2, (hsame_c rd14 (rd11.keep k114 (by simp)) (by omega)).mono fun e w15 g => ?_⟩)
        obtain ⟨r15, rfl, rfl, k15⟩ := g
        exact ⟨_, rfl, M.ite_n (by simp) (hlen _ k15)⟩
      · rw [hset]
        exact M.ite_ff (hlen _ (Keeps.refl _ _))
    have F15 := F14.keep k15 (by simp)
    have k115 := k114.trans k15 (by simp)
    have B415 := B414.keep k15 (by simp)
    have a15 := a11.new k115
    -- each fifth: one is cut
    refine M.join_by (fun (J3 : Bool → World → Prop) => (∀ w', Keeps [] w15 w' → J3 (decide (0 < ((S.set room en.1 en.2).2.L.length : Int))) w') ∧ (∀ w', Keeps [] w15 w' → J3 false w')) ⟨fun w16 k16 => ?_, fun w16 k16 => M.ite_ff (hJ2 _ _ _ (a15.new k16) (F15.keep k16 (by simp)) hX11 hroomL (by omega))⟩ fun J3 hJ3 => ?_
    rotate_left
    · refine M.ite_by (fun c => ?_) (fun c => hJ3.2 _ (Keeps.refl _ _))
      refine (flen_c F15).mono fun e w16 g => ?_
      obtain ⟨r16, rfl, rfl, rfl⟩ := g
      exact ⟨_, rfl, hJ3.1 _ (Keeps.refl _ _)⟩
    have F16 := F15.keep k16 (by simp)
    have a16 := a15.new k16
    refine M.ite_by (fun c => ?_) (fun c => hJ2 _ _ _ a16 F16 hX11 hroomL (by omega))
    have c := of_decide_eq_true c
    generalize (S.set room en.1 en.2).2 = S2 at *
    refine (fall_c F16).mono fun e w17 g => ?_
    obtain ⟨r17, rfl, ⟨now, E17, hnow, _⟩, f17, k17⟩ := g
    have hnl : r17.len = S2.L.length := by rw [E17.len]; have := congrArg List.length hnow; rw [List.length_map, FS.all_len] at this; exact this
    have hnowl : now.length = S2.L.length := by rw [← E17.len]; exact hnl
    have F17 := F16.keep k17 (by simp)
    have k117 := (k115.trans k16 (by simp)).trans k17 (by simp)
    have B417 := (B415.keep k16 (by simp)).keep k17 (by simp)
    have e2 : IntKind.i64.wrap ((r17.len : Int) - 1) = (r17.len : Int) - 1 := w64 (by omega) (by omega)
    refine ⟨_, rfl, M.ite_n (by simp only [beq_eq_false_iff_ne]; omega) ⟨_, B417.cell 1, ?_⟩⟩
    rw [e2]
    refine (within_c x.N 0 _ (by omega) (by omega) (by omega)).mono fun e w18 g => ?_
    obtain ⟨q, rfl, -, hq0, hq1, hw⟩ := g
    obtain rfl := hw.symm
    obtain ⟨q, rfl⟩ := Int.eq_ofNat_of_zero_le hq0
    have ql : q < now.length := by omega
    have eq := List.getElem?_eq_getElem ql
    have hmem : enf now[q] ∈ S2.all := by rw [← hnow]; exact List.mem_map.2 ⟨_, List.getElem_mem ql, rfl⟩
    obtain ⟨ay, hay⟩ := E17.1.some (by omega)
    have g0 := rows_at0 env3 E17.1 hay eq (v := .int .u32 (now[q].1.1 : Int)) rfl
    have g1 := rows_at env3 E17.1 hay eq (j := 1) (v := .int .i64 now[q].1.2) rfl
    have hk : (tget S2.L now[q].1).isSome = true ∧ now[q].1.1 < 4294967296 := by
      unfold FS.all at hmem
      obtain ⟨z, hz, hze⟩ := List.mem_map.1 hmem
      have : z.1 = now[q].1 := congrArg Prod.fst hze
      obtain ⟨t, r, D, es, F⟩ := F17
      obtain ⟨_, _, _, _, _, _, h⟩ := F.trie
      exact ⟨tget_isSome.2 ⟨z, hz, this⟩, by rw [← this]; exact (h.right z hz).1⟩
    generalize now[q].1 = kq at *
    refine ⟨_, rfl, ay, hay, by omega, by omega, _, g0, _, g1, M.new_blk fun b19 w19 hb19 B19 k19 => M.stA_blk B19 rfl fun w20 B20 k20 => ?_⟩
    have k1720 : Keeps [] w17 w20 := k19.trans k20 (by simp; omega)
    have F20 := F17.keep k1720 (by simp)
    have a20 := (a16.new k17).new k1720
    have hb19X : b19 ∉ X11 := fun h => by have := F17.lt _ h; omega
    refine M.join_by (fun (J4 : Bool → World → Prop) => ∀ w' X' S', Aft W w' → FibAt w' X' p room S' → (∀ y ∈ X', W.heap.size ≤ y) → (S'.L.length : Int) ≤ room → S'.n ≤ 2 * (i + 1) → J4 false w') (fun w21 X' S' h1 h2 h3 h4 h5 => M.ite_ff (hJ2 _ _ _ h1 h2 h3 h4 h5)) fun J4 hJ4 => ?_
    refine ⟨_, B20.cell 0, _, B20.cell 1, (fcut_c F20 (by omega) hk.2 kq.2).mono fun e w21 g => ?_⟩
    obtain ⟨r21, rfl, rfl, X21, F21, k21, f21⟩ := g
    rw [show ((kq.1, kq.2) : Key) = kq from rfl] at F21 ⊢
    have B21 := B20.keep k21 hb19X
    have hX21 := f21.old hX11 a20.2
    have a21 := a20.step k21 hX11
    have hcut : S2.cut kq = ⟨tcut S2.L kq, S2.h, S2.n + 1⟩ := by unfold FS.cut; rw [if_pos hk.1]
    rw [hcut] at F21
    refine ⟨_, rfl, M.ite_n (by rw [hk.1]; rfl) ⟨_, B21.cell 0, _, B21.cell 1, (fcut_c F21 (by show S2.n + 1 ≤ _; omega) hk.2 kq.2).mono fun e w22 g => ?_⟩⟩
    obtain ⟨r22, rfl, rfl, X22, F22, k22, f22⟩ := g
    rw [show ((kq.1, kq.2) : Key) = kq from rfl] at F22 ⊢
    have hg2 : tget (tcut S2.L kq) kq = none := by rw [tget_tcut, if_pos rfl]
    have hcut2 : FS.cut ⟨tcut S2.L kq, S2.h, S2.n + 1⟩ kq = ⟨tcut S2.L kq, S2.h, S2.n + 1⟩ := by
      unfold FS.cut
      rw [if_neg]
      show ¬ (tget (tcut S2.L kq) kq).isSome = true
      rw [hg2]; simp
    rw [hcut2] at F22
    refine ⟨_, rfl, ?_⟩
    show J4 (tget (tcut S2.L kq) kq).isSome w22
    rw [hg2]
    exact hJ4 _ _ _ (a21.step k22 hX21) F22 (f22.old hX21 a21.2) (by
      show ((tcut S2.L kq).length : Int) ≤ room
      have := List.length_filter_le (fun x => !(x.1 == kq)) S2.L
      unfold tcut; omega) (by show S2.n + 1 ≤ _; omega)
  · refine (fknown_a ha).mono fun e w7 g => ?_
    obtain ⟨r7, rfl, rfl, a7⟩ := g
    exact ⟨_, rfl, rfl, a7.1⟩
theorem frlaw_law (W : World) (args : List Value) (h : GdArgs W [(false, .cons (.int .i64) .nil), (false, .cons (.slice askSh) .nil)] args) : Calls Try.prog 4 args.toArray W fun e W' => e = .returned (.bool true) ∧ Below W.heap.size W W' := by
  obtain ⟨v0, r, rfl, h0, h⟩ := h.one
  obtain ⟨v1, r, rfl, h1, h⟩ := h.one
  cases h
  obtain ⟨n0, rfl, hn0⟩ := good_int h0
  obtain ⟨s, l, rfl, hs, _, hm, hok⟩ := asks_of h1
  exact (frlaw_c hn0 hs hok hm).mono fun e w' ⟨b, he, hb, hw⟩ => by subst hb; exact ⟨he, hw⟩
end Go.Proofs.Ytnfmkedblnajlaa
