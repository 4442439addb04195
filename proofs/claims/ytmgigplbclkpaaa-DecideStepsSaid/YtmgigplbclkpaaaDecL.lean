/-
  Candidates out of raw ones.
-/
import Derived.Test.YtmgigplbclkpaaaDecE
import Derived.Test.YtmgigplbclkpaaaBookC
import Derived.Test.YtmgigplbclkpaaaSpDecA
namespace Go.Proofs.Ytmgigplbclkpaaa
set_option linter.unusedVariables false
set_option linter.unusedSimpArgs false
open Go.Sp
open Go.RowKit (Below)

theorem segEl : elemB Try.prog 50 2 32 = true := by kernel_rfl
theorem segSl : sliceB Try.prog 29 50 2 = true := by kernel_rfl
theorem u32El : elemB Try.prog 28 1 4 = true := by kernel_rfl
theorem u32Sl : sliceB Try.prog 30 28 1 = true := by kernel_rfl
theorem uv_one (l : List Int) : ∀ u ∈ uv l, u.oneCell' = true := by
  intro u hu
  obtain ⟨x, _, rfl⟩ := List.mem_map.1 hu
  rfl
theorem uv_app (a b : List Int) : uv (a ++ b) = uv a ++ uv b := by simp [uv]
theorem uv_len {w : World} {s : SV} {l : List Int} (h : Rd 1 w s (uv l)) : s.len = l.length := by
  have := h.len
  simp only [uv, List.length_map] at this; omega
theorem uv_at {w : World} {s : SV} {l : List Int} (h : Rd 1 w s (uv l)) {a : Addr} (ha : s.a = some a) {i : Nat} {x : Int} (hx : l[i]? = some x) : w.cell? (a.add (i * 1)) = some (.int .u32 x) := by
  rw [Nat.mul_one]
  exact h.at ha (i := i) (by simp [uv, hx])
theorem next_c {w : World} (a : Int) : Calls Try.prog 32 #[.int .u32 a] w (R32 fun r w' => w' = w) := F32_ok rfl
theorem cput_c {w : World} {s : SV} {l : List Int} (hs : Rd 1 w s (uv l)) (hb : l.length ≤ 1000) (p : Int) :
    Calls Try.prog 33 #[s.v, .int .u32 p] w (R33 fun r w' => (∃ l', Rd 1 w' r (uv l') ∧ l'.length ≤ l.length + 1) ∧ (∀ y ∈ r.blk, y ∈ s.blk ∨ w.heap.size ≤ y) ∧ Keeps [] w w') := by
  have hl := uv_len hs
  have hcap := hs.cap
  refine F33_ok ?_
  refine M.loop1_by (fun x w' => ∃ i : Nat, x = i ∧ i ≤ l.length ∧ Keeps [] w w') (fun x _ => l.length - x.toNat) ⟨0, rfl, by omega, Keeps.refl _ _⟩ ?_
  rintro x w1 J ⟨i, rfl, hi, k1⟩ hJ
  have hs1 := hs.keep k1 (by simp)
  refine M.join_by (fun (J : Bool → World → Prop) => (i < l.length → J true w1) ∧ J false w1) ⟨fun il => M.ite_tt ?_, M.ite_ff ?_⟩ fun J2 hJ2 => M.ite_by (fun c => ?_) (fun c => ?_)
  · rw [w64 (by omega) (by omega)]
    exact hJ _ _ ⟨i + 1, by omega, by omega, k1⟩ (by omega)
  · refine M.join_by (fun (J : Bool → World → Prop) => J true w1 ∧ J false w1) ⟨M.ite_tt ⟨⟨l, hs1, by omega⟩, fun y hy => .inl hy, k1⟩, M.ite_ff ?_⟩ fun J3 hJ3 => M.ite_by (fun c => ?_) (fun c => ?_)
    · have kd := Keeps.drew [] w1
      have k2 := k1.trans kd (by simp)
      have hs2 := hs1.keep kd (by simp)
      have r1 : Rd 1 w1.drew (SV.sub s 0 i 1) (uv (l.take i)) := by
        have := hs2.sub (l := 0) (u := i) (by omega) (by omega)
        rw [Nat.zero_mul, List.drop_zero, Nat.sub_zero, Nat.mul_one] at this
        simpa [uv] using this
      have r2 : Rd 1 w1.drew (SV.sub s i s.len 1) (uv (l.drop i)) := by
        have := hs2.sub (l := i) (u := s.len) (by omega) (by omega)
        rw [List.take_of_length_le (by simp [uv]; omega)] at this
        simpa [uv] using this
      refine M.join_by (fun (J : SV → World → Prop) => ∀ r w', Own 28 1 w' r ((([] ++ uv (l.take i)) ++ uv [p]) ++ uv (l.drop i)) → (∀ y ∈ r.blk, w1.drew.heap.size ≤ y) → Keeps [] w1.drew w' → J r w') (fun r w' h1 h3 h2 => ⟨⟨l.take i ++ [p] ++ l.drop i, by rw [uv_app, uv_app]; exact h1.rd, by simp; omega⟩, fun y hy => .inr (Nat.le_trans k2.size (h3 y hy)), k2.trans h2 (by simp)⟩) fun J4 hJ4 => M.drew_by ⟨by omega, by omega, by omega, by omega, by omega, by omega, new0_k (sz := 1) (Keeps.refl _ _) fun b3 w3 g1 g2 hb3 o3 k3 k03 => ⟨?_, ?_⟩, ?_⟩
      · refine app_k u32Sl u32El k03 hb3 o3 (r1.keep k03 (by simp)) (uv_one _) (by simp only [SV.sub, Int.toNat_natCast, Int.toNat_zero]; omega) fun r4 w4 o4 n4 f4 k34 k04 => new1_k (sz := 1) rfl k04 fun b5 w5 g3 g4 x5 k5 k05 => ?_
        refine app_k u32Sl u32El k05 f4 (o4.keep k5 (by simp)) x5 (uv_one [p]) (by simp only [n4, SV.sub, Int.toNat_natCast, Int.toNat_zero]; omega) fun r6 w6 o6 n6 f6 k56 k06 => ?_
        exact app_k u32Sl u32El k06 f6 o6 (r2.keep k06 (by simp)) (uv_one _) (by simp only [n6, n4, SV.sub, Int.toNat_natCast, Int.toNat_zero]; omega) fun r7 w7 o7 n7 f7 k67 k07 => hJ4 r7 w7 o7 f7 k07
      · refine new1_k (sz := 1) rfl k03 fun b5 w5 g3 g4 x5 k5 k05 => ?_
        refine app_k u32Sl u32El k05 hb3 (o3.keep k5 (by simp)) (r1.keep k05 (by simp)) (uv_one _) (by simp only [SV.sub, Int.toNat_natCast, Int.toNat_zero]; omega) fun r4 w4 o4 n4 f4 k34 k04 => ?_
        refine app_k u32Sl u32El k04 f4 o4 (x5.keep k34 (by intro y hy hz; simp [SV.blk] at hy hz; omega)) (uv_one [p]) (by simp only [n4, SV.sub, Int.toNat_natCast, Int.toNat_zero]; omega) fun r6 w6 o6 n6 f6 k56 k06 => ?_
        exact app_k u32Sl u32El k06 f6 o6 (r2.keep k06 (by simp)) (uv_one _) (by simp only [n6, n4, SV.sub, Int.toNat_natCast, Int.toNat_zero]; omega) fun r7 w7 o7 n7 f7 k67 k07 => hJ4 r7 w7 o7 f7 k07
      · refine new1_k (sz := 1) rfl (Keeps.refl _ _) fun b5 w5 g3 g4 x5 k5 k05 => new0_k (sz := 1) k05 fun b3 w3 g1 g2 hb3 o3 k3 k03 => ?_
        refine app_k u32Sl u32El k03 hb3 o3 (r1.keep k03 (by simp)) (uv_one _) (by simp only [SV.sub, Int.toNat_natCast, Int.toNat_zero]; omega) fun r4 w4 o4 n4 f4 k34 k04 => ?_
        refine app_k u32Sl u32El k04 f4 o4 ((x5.keep k3 (by simp)).keep k34 (by intro y hy hz; simp [SV.blk] at hy hz; omega)) (uv_one [p]) (by simp only [n4, SV.sub, Int.toNat_natCast, Int.toNat_zero]; omega) fun r6 w6 o6 n6 f6 k56 k06 => ?_
        exact app_k u32Sl u32El k06 f6 o6 (r2.keep k06 (by simp)) (uv_one _) (by simp only [n6, n4, SV.sub, Int.toNat_natCast, Int.toNat_zero]; omega) fun r7 w7 o7 n7 f7 k67 k07 => hJ4 r7 w7 o7 f7 k07
    · have c := of_decide_eq_true c
      have il : i < l.length := by omega
      obtain ⟨ax, hax⟩ := hs1.some (by omega)
      refine ⟨ax, hax, by omega, c, _, uv_at hs1 hax (List.getElem?_eq_getElem il), ?_⟩
      dsimp only
      cases hh : (l[i] == p)
      · exact hJ3.2
      · exact hJ3.1
    · exact hJ3.2
  · have c := of_decide_eq_true c
    have il : i < l.length := by omega
    obtain ⟨ax, hax⟩ := hs1.some (by omega)
    refine ⟨ax, hax, by omega, c, _, uv_at hs1 hax (List.getElem?_eq_getElem il), ?_⟩
    dsimp only
    cases hh : (decide (l[i] < p))
    · exact hJ2.2
    · exact hJ2.1 il
  · exact hJ2.2
/-- A path that is short, and stays where it is, whatever these blocks hold. -/
def PathX (W w w' : World) (p : SV) (l : List Sg) : Prop := l.length ≤ 18 ∧ countA l ≤ 1000 ∧ ∀ D w'', (∀ x ∈ D, W.heap.size ≤ x ∧ x < w.heap.size) → Keeps D w' w'' → Segs w'' p l
def cutSg (x : Sg) : Sg := if 6 < x.2.2.length then (x.1, x.2.1.sub 0 6 1, x.2.2.take 6) else x
theorem cutSg_rd {w : World} {x : Sg} (h : Rd 1 w x.2.1 (uv x.2.2)) : Rd 1 w (cutSg x).2.1 (uv (cutSg x).2.2) := by
  unfold cutSg
  split
  · have hl := uv_len h
    have := h.sub (l := 0) (u := 6) (by omega) (by omega)
    rw [Nat.zero_mul, List.drop_zero, Nat.sub_zero] at this
    simpa [uv] using this
  · exact h
theorem cutSg_count (x : Sg) : sgCount (cutSg x) ≤ 6 := by
  unfold cutSg sgCount
  split <;> split <;> (try split) <;> simp_all <;> omega
theorem cut_count (l : List Sg) (h : l.length ≤ 18) : countA (l.map cutSg) ≤ 108 := by
  have : ∀ l : List Sg, countA (l.map cutSg) ≤ 6 * l.length := by
    intro l
    induction l with
    | nil => simp [countA]
    | cons x l ih =>
      have := cutSg_count x
      simp only [countA, List.map_cons, List.sum_cons, List.length_cons] at *
      omega
  have := this l
  omega
theorem short_c {W w : World} {c : Cn} (ha : Aft W w) (hp : ∀ w, Below W.heap.size W w → Segs w c.path c.segs) (hcm : ∀ w, Below W.heap.size W w → ∃ l, Rd 1 w c.comms (uv l)) :
    Calls Try.prog 26 #[c.aagg] w (R26 fun o p n hm m hp pr av cm w' => (∃ l, PathX W w w' p l) ∧ Keeps [] w w') := by
  refine F26_ok (M.new_blk fun b2 w1 hb2 B k1 => M.new_blk fun b4 w2 hb4 C k2 => ?_)
  have hb21 := B.lt
  have B := B.keep k2 (by simp)
  have k02 := k1.trans k2 (by simp)
  have hs1 := k1.size
  have hs2 := k2.size
  refine M.join_by (fun (J : World → Prop) => ∀ (s : SV) w', Blk w' b2 32 [.int .i64 c.origin, s.v, .int .u32 c.next, .bool c.hasMed, .int .u32 c.med, .bool c.hasPref, .int .u32 c.pref, .bool c.atomic, c.comms.v] → Keeps [b2] w2 w' → (∀ w, Below W.heap.size W w → Segs w s (c.segs.take 18)) → J w') (fun s w3 B3 k3 hs => ?_) fun J hJ => ⟨_, B.cell 1, M.ite_by (fun c1 => ?_) (fun c1 => ?_)⟩
  rotate_left
  · have c1 := of_decide_eq_true c1
    have h0 := hp _ ha.1
    have hl := h0.len
    have hcap := h0.1.cap
    refine ⟨_, B.cell 1, by omega, by omega, by omega, M.st_blk B (by simp) fun w3 B3 k3 => hJ _ w3 B3 k3 fun w hw => (hp w hw).sub (by omega)⟩
  · have c1 := of_decide_eq_false c1
    have h0 := hp _ ha.1
    have hl := h0.len
    refine hJ _ w2 B (Keeps.refl _ _) fun w hw => ?_
    rw [List.take_of_length_le (by omega)]
    exact hp w hw
  · have k03 : Keeps [] w w3 := k02.trans k3 (by simp; omega)
    have C3 : Blk w3 b4 _ _ := C.keep k3 (by simp; omega)
    have hl18 : (c.segs.take 18).length ≤ 18 := by simp; omega
    generalize hsg : c.segs.take 18 = sg at *
    have hs3 := hs _ ((ha.new k03).1)
    have hsl := hs3.len
    refine M.loop2_by (fun o x w' => ∃ i : Nat, x = i ∧ i ≤ sg.length ∧ Own 50 2 w' o (sgvs ((sg.map cutSg).take i)) ∧ (∀ y ∈ o.blk, w3.heap.size ≤ y) ∧ Keeps [] w3 w') (fun _ x _ => sg.length - x.toNat)
      ⟨0, rfl, by omega, Own.nil _ _ _, by simp [SV.blk], Keeps.refl _ _⟩ ?_
    rintro o x w4 J ⟨i, rfl, hi, o4, f4, k4⟩ hJ
    have B4 := B3.keep k4 (by simp)
    have k04 := k03.trans k4 (by simp)
    have ha4 := ha.new k04
    have hs04 := k04.size
    refine ⟨_, B4.cell 1, M.ite_by (fun c2 => ?_) (fun c2 => ?_)⟩
    · have c2 := of_decide_eq_true c2
      have il : i < sg.length := by omega
      have ei := List.getElem?_eq_getElem il
      have hmem := List.getElem_mem il
      have htk : (sg.map cutSg).take (i + 1) = (sg.map cutSg).take i ++ [cutSg sg[i]] := by rw [List.take_add_one]; simp [il]
      generalize sg[i] = x at *
      obtain ⟨k, t, ns⟩ := x
      have hs4 := hs _ ha4.1
      obtain ⟨ax, hax⟩ := hs4.1.some (by omega)
      have e4 := sg_at hs4.1 hax ei
      have ht4 : Rd 1 w4 t (uv ns) := hs4.2 _ hmem
      have htl := uv_len ht4
      have htc := ht4.cap
      refine ⟨_, B4.cell 1, ax, hax, by omega, c2, _, e4.1, t, e4.2, M.new_blk fun b5 w5 hb5 B5 k5 => M.stA_blk B5 rfl fun w6 B6 k6 => ?_⟩
      have k46 : Keeps [] w4 w6 := k5.trans k6 (by simp; omega)
      refine M.join_by (fun (J : World → Prop) => ∀ w', Blk w' b5 50 (sgv (cutSg (k, t, ns))) → Keeps [] w4 w' → J w') (fun w7 B7 k7 => ?_) fun J3 hJ3 => ⟨t, B6.cell 1, M.ite_by (fun c3 => ?_) (fun c3 => ?_)⟩
      · have hol := o4.rd.len
        rw [sgvs_len] at hol
        have htl := List.length_take_le i (sg.map cutSg)
        refine ⟨_, B7.cell 0, _, B7.cell 1, new1_k (cs := sgv (cutSg (k, t, ns))) (sz := 2) rfl (k4.trans k7 (by simp)) fun b8 w8 g1 g2 x8 k8 k08 => app_k segSl segEl k08 f4 ((o4.keep k7 (by simp)).keep k8 (by simp)) (news := sgvs [cutSg (k, t, ns)]) (by simpa [sgvs] using x8) (sgvs_one _) (by simp only []; omega) fun r w9 o9 n9 f9 k89 k9 => ?_⟩
        rw [w64 (by omega) (by omega)]
        refine hJ _ _ _ ⟨i + 1, by omega, by omega, by rw [htk, sgvs_app]; exact o9, f9, k9⟩ (by omega)
      · have c3 := of_decide_eq_true c3
        refine ⟨t, B6.cell 1, by omega, by omega, by omega, M.st_blk B6 (by simp) fun w7 B7 k7 => hJ3 w7 ?_ (k46.trans k7 (by simp; omega))⟩
        have e : cutSg (k, t, ns) = (k, t.sub 0 6 1, ns.take 6) := by unfold cutSg; rw [if_pos (by show 6 < ns.length; omega)]
        rw [e]; exact B7
      · have c3 := of_decide_eq_false c3
        refine hJ3 w6 ?_ k46
        have e : cutSg (k, t, ns) = (k, t, ns) := by unfold cutSg; rw [if_neg (by show ¬ 6 < ns.length; omega)]
        rw [e]; exact B6
    · have c2 := of_decide_eq_false c2
      rw [List.take_of_length_le (by simp; omega)] at o4
      have hb2lt := B4.lt
      have C4 := C3.keep k4 (by simp)
      have hs3w := k03.size
      have hb42 : b4 ≠ b2 := by omega
      have hb2w : w.heap.size ≤ b2 := by omega
      have hob : ∀ y ∈ o.blk, y ≠ b2 ∧ y ≠ b4 := fun y hy => by
        have := f4 y hy; have := B3.lt; have := C3.lt; omega
      refine M.st_blk B4 (by simp) fun w5 B5 k5 => ?_
      have C5 := C4.keep k5 (by simpa using hb42)
      have k35 : Keeps [b2] w3 w5 := k4.up.and k5
      refine M.join_by (fun (J : World → Prop) => ∀ (cm : SV) w', Blk w' b2 32 [.int .i64 c.origin, o.v, .int .u32 c.next, .bool c.hasMed, .int .u32 c.med, .bool c.hasPref, .int .u32 c.pref, .bool c.atomic, cm.v] → Keeps [b2] w4 w' → J w') (fun cm w6 B6 k6 => ?_) fun J3 hJ3 => ⟨_, B5.cell 8, M.ite_by (fun c3 => ?_) (fun c3 => ?_)⟩
      · have C6 := C4.keep k6 (by simpa using hb42)
        refine ⟨_, _, _, _, _, _, _, _, _, B6.cs 0 _ rfl, M.stA_blk C6 rfl fun w7 C7 k7 => ⟨_, _, _, _, _, _, _, _, _, C7.cs 0 _ rfl, ⟨sg.map cutSg, by simp; omega, Nat.le_trans (cut_count sg hl18) (by omega), fun D w8 hD k8 => ⟨?_, fun x hx => ?_⟩⟩, ?_⟩⟩
        · have o7 : Own 50 2 w7 o (sgvs (sg.map cutSg)) := (o4.keep k6 (by intro y hy hz; simp at hz; exact (hob y hy).1 hz)).keep k7 (by intro y hy hz; simp at hz; exact (hob y hy).2 hz)
          exact (o7.keep k8 (fun y hy hz => by have := f4 y hy; have := (hD y hz).2; omega)).rd
        · obtain ⟨z, hz, rfl⟩ := List.mem_map.1 hx
          have hbel : Below W.heap.size W w8 := ((ha4.step k6 (by have := ha.2; simp; omega)).step k7 (by have := ha.2; simp; omega)).step k8 (fun x hx => (hD x hx).1) |>.1
          exact cutSg_rd ((hs _ hbel).2 _ hz)
        · exact (k04.trans k6 (by simp; omega)).trans k7 (by simp; omega)
      · have c3 := of_decide_eq_true c3
        obtain ⟨cl, hcl⟩ := hcm _ ha4.1
        have := hcl.cap
        refine ⟨_, B5.cell 8, by omega, by omega, by omega, M.st_blk B5 (by simp) fun w6 B6 k6 => hJ3 _ w6 B6 (k5.and k6)⟩
      · exact hJ3 _ w5 B5 k5
/-- A place that holds attributes, with this path and these communities. -/
def AtB (w : World) (x : Nat) (p cm : SV) : Prop := ∃ o n hm m hp pr av, Blk w x 32 [.int .i64 o, p.v, .int .u32 n, .bool hm, .int .u32 m, .bool hp, .int .u32 pr, .bool av, cm.v]
theorem AtB.keep {w w' : World} {x : Nat} {p cm : SV} {D : List Nat} (h : AtB w x p cm) (k : Keeps D w w') (hn : x ∉ D) : AtB w' x p cm := by
  obtain ⟨o, n, hm, m, hp, pr, av, B⟩ := h
  exact ⟨o, n, hm, m, hp, pr, av, B.keep k hn⟩
theorem AtB.lt {w : World} {x : Nat} {p cm : SV} (h : AtB w x p cm) : x < w.heap.size := by
  obtain ⟨o, n, hm, m, hp, pr, av, B⟩ := h
  exact B.lt
theorem tame_c {W w : World} {c : Cn} (ha : Aft W w) (hp : ∀ w, Below W.heap.size W w → Segs w c.path c.segs) (hcm : ∀ w, Below W.heap.size W w → ∃ l, Rd 1 w c.comms (uv l)) (a : Int) :
    Calls Try.prog 27 #[c.aagg, .int .u32 a] w (R27 fun o p n hm m hp pr av cm w' => (∃ l, PathX W w w' p l) ∧ Keeps [] w w') := by
  refine F27_ok (M.new_blk fun b2 w1 hb2 B k1 => M.new_blk fun b4 w2 hb4 C k2 => ?_)
  have hb21 := B.lt
  have B := B.keep k2 (by simp)
  have k02 := k1.trans k2 (by simp)
  have hs1 := k1.size
  have hs2 := k2.size
  have hb42 : b4 ≠ b2 := by omega
  refine M.join_by (fun (J : Addr → World → Prop) => ∀ x w', w2.heap.size ≤ x → AtB w' x SV.nil SV.nil → Keeps [] w2 w' → J ⟨x, 0, none⟩ w') (fun x6 w3 hx6 A3 k3 => ?_) fun J hJ => ?_
  rotate_left
  · have kd := Keeps.drew [] w2
    have B3 := B.keep kd (by simp)
    have hdr : w2.drew.heap.size = w2.heap.size := rfl
    refine M.drew_by ⟨_, B3.cell 0, _, B3.cell 2, _, B3.cell 3, _, B3.cell 5, (within_c c.origin 0 2 (by omega) (by omega) (by omega)).mono fun e w4 g => ?_, M.new_blk fun x w4 hx X k4 => ?_⟩
    · obtain ⟨r4, rfl, hr4, _, _, rfl⟩ := g
      refine ⟨_, rfl, B3.cell 5, B3.cell 3, B3.cell 2, (next_c c.next).mono fun e w5 g => ?_, M.new_blk fun x w4 hx X k4 => ?_⟩
      · obtain ⟨r5, rfl, rfl⟩ := g
        refine ⟨_, rfl, B3.cell 5, B3.cell 3, M.new_blk fun x w4 hx X k4 => ?_⟩
        have B4 := B3.keep k4 (by simp)
        exact ⟨B4.cell 5, B4.cell 3, B4.cell 2, B4.cell 0, M.stA_blk X rfl fun w5 X5 k5 => hJ x w5 (by omega) ⟨_, _, _, _, _, _, _, X5⟩ ((kd.trans k4 (by simp)).trans k5 (by simp; omega))⟩
      · have B4 := B3.keep k4 (by simp)
        refine ⟨B4.cell 5, B4.cell 3, B4.cell 2, B4.cell 0, (next_c c.next).mono fun e w5 g => ?_⟩
        obtain ⟨r5, rfl, rfl⟩ := g
        exact ⟨_, rfl, B4.cell 5, B4.cell 3, M.stA_blk X rfl fun w5 X5 k5 => hJ x w5 (by omega) ⟨_, _, _, _, _, _, _, X5⟩ ((kd.trans k4 (by simp)).trans k5 (by simp; omega))⟩
    · have B4 := B3.keep k4 (by simp)
      refine ⟨B4.cell 5, B4.cell 3, B4.cell 2, B4.cell 0, (within_c c.origin 0 2 (by omega) (by omega) (by omega)).mono fun e w5 g => ?_⟩
      obtain ⟨r5, rfl, hr5, _, _, rfl⟩ := g
      refine ⟨_, rfl, B4.cell 5, B4.cell 3, B4.cell 2, (next_c c.next).mono fun e w6 g => ?_⟩
      obtain ⟨r6, rfl, rfl⟩ := g
      exact ⟨_, rfl, B4.cell 5, B4.cell 3, M.stA_blk X rfl fun w5 X5 k5 => hJ x w5 (by omega) ⟨_, _, _, _, _, _, _, X5⟩ ((kd.trans k4 (by simp)).trans k5 (by simp; omega))⟩
  · have hx62 : x6 ≠ b2 := by have := B.lt; omega
    have hx64 : x6 ≠ b4 := by have := C.lt; omega
    have B3 := B.keep k3 (by simp)
    have C3 : Blk w3 b4 _ _ := C.keep k3 (by simp)
    have hb4lt := C.lt
    refine M.join_by (fun (J : World → Prop) => ∀ w', AtB w' x6 SV.nil SV.nil → Keeps [x6] w3 w' → J w') (fun w4 A4 k4 => ?_) fun J2 hJ2 => ⟨_, B3.cell 3, M.ite_by (fun c1 => ?_) (fun c1 => ?_)⟩
    rotate_left
    · obtain ⟨o, n, hm, m, hp', pr, av, X⟩ := A3
      exact ⟨_, B3.cell 4, M.st_blk X (by simp) fun w4 X4 k4 => hJ2 w4 ⟨_, _, _, _, _, _, _, X4⟩ k4⟩
    · exact hJ2 w3 A3 (Keeps.refl _ _)
    have B4 := B3.keep k4 (by simpa using hx62.symm)
    have C4 := C3.keep k4 (by simpa using hx64.symm)
    refine M.join_by (fun (J : World → Prop) => ∀ w', AtB w' x6 SV.nil SV.nil → Keeps [x6] w4 w' → J w') (fun w5 A5 k5 => ?_) fun J2 hJ2 => ⟨_, B4.cell 5, M.ite_by (fun c1 => ?_) (fun c1 => ?_)⟩
    rotate_left
    · obtain ⟨o, n, hm, m, hp', pr, av, X⟩ := A4
      exact ⟨_, B4.cell 6, M.st_blk X (by simp) fun w5 X5 k5 => hJ2 w5 ⟨_, _, _, _, _, _, _, X5⟩ k5⟩
    · exact hJ2 w4 A4 (Keeps.refl _ _)
    have B5 := B4.keep k5 (by simpa using hx62.symm)
    have C5 := C4.keep k5 (by simpa using hx64.symm)
    have k05 : Keeps [] w w5 := (k02.trans k3 (by simp)).trans (k4.and k5) (by simp; omega)
    have hx6lt := A5.lt
    refine newn_k (e := 28) (sz := 1) (n := 1) (cs := [.int .u32 a]) rfl (by omega) (Keeps.refl [] w5) fun b6 w6 g1 g2 o6 k6 _ => M.new_blk fun b7 w7 hb7 D k7 => M.stA_blk D rfl fun w8 D8 k8 => ?_
    have k58 : Keeps [] w5 w8 := (k6.trans k7 (by simp)).trans k8 (by have := k6.size; simp; omega)
    have k08 := k05.trans k58 (by simp)
    have hs05 := k05.size
    have hs58 := k58.size
    have hs6 := k6.size
    have o8 : Own 28 1 w8 ⟨some ⟨b6, 0, none⟩, 1, 1⟩ (uv [a]) := (o6.keep k7 (by simp)).keep k8 (by intro y hy hz; simp [SV.blk] at hy hz; omega)
    have hb5lt := B5.lt
    have hc5lt := C5.lt
    have ha8 := ha.new k08
    refine M.loop1_by (fun x w' => ∃ (i : Nat) (s : SV) (ns : List Int), x = i ∧ i ≤ 2 ∧ Blk w' b2 32 _ ∧ Blk w' b4 32 _ ∧ AtB w' x6 SV.nil SV.nil ∧ Blk w' b7 50 [.int .i64 2, s.v] ∧ Own 28 1 w' s (uv ns) ∧ ns.length = i + 1 ∧ (∀ y ∈ s.blk, w5.heap.size ≤ y ∧ y ≠ b7) ∧ w5.heap.size ≤ w'.heap.size ∧ Keeps [] w w') (fun x _ => (2 - x).toNat)
      ⟨0, _, [a], rfl, by omega, B5.keep k58 (by simp), C5.keep k58 (by simp), A5.keep k58 (by simp), D8, o8, rfl, ?_, hs58, k08⟩ ?_
    · intro y hy
      simp [SV.blk] at hy
      omega
    rintro x w9 J ⟨i, s, ns, rfl, hi, B9, C9, A9, D9, o9, hns, f9, hw59, k09⟩ hJ
    have ha9 := ha.new k09
    have hp9 := hp _ ha9.1
    have hpl := hp9.len
    have hs9 := k09.size
    have hb7lt := D9.lt
    have hx6lt9 := A9.lt
    refine M.join_by (fun (J : Bool → World → Prop) => (i < 2 → i < c.segs.length → J true w9) ∧ J false w9) ⟨fun c2 il => M.ite_tt ?_, M.ite_ff ?_⟩ fun J2 hJ2 => ⟨c.path, B9.cell 1, M.ite_by (fun c1 => ?_) (fun c1 => ?_)⟩
    · have ei := List.getElem?_eq_getElem il
      have kd := Keeps.drew [] w9
      have D10 := D9.keep kd (by simp)
      have B10 := B9.keep kd (by simp)
      have hp10 := hp _ (ha9.new kd).1
      obtain ⟨ax, hax⟩ := hp10.1.some (by omega)
      have e := sg_at hp10.1 hax ei
      refine M.drew_by ⟨s, D10.cell 1, c.path, B10.cell 1, ax, hax, by omega, by omega, _, e.2, newn_k (e := 28) (sz := 1) (n := 1) (cs := [.int .u32 _]) rfl (by omega) (Keeps.refl [] w9.drew) fun b11 w11 g1 g2 o11 k11 _ => ?_⟩
      have k9_11 : Keeps [] w9 w11 := kd.trans k11 (by simp)
      have D11 := D10.keep k11 (by simp)
      have o9' := o9.keep k9_11 (by simp)
      have hsl := uv_len o9.rd
      obtain ⟨r, w12, v1, v2, v3, v4, v5⟩ := app_own (P := Try.prog) (ty := 30) u32Sl u32El o9' o11.rd (uv_one [_]) (by simp only []; omega)
      have hs9_11 := k9_11.size
      have D12 := D11.keep v4 (fun h => (f9 _ h).2 rfl)
      refine ⟨D11.cell 1, r, w12, v1, M.st_blk D12 (by simp) fun w13 D13 k13 => ?_⟩
      have hs59 : w5.heap.size ≤ w9.heap.size := hw59
      have fr : ∀ y ∈ r.blk, w5.heap.size ≤ y ∧ y ≠ b7 := fun y hy => by
        rcases v5 y hy with h | h
        · exact f9 y h
        · omega
      have n6 : ∀ z, z < w5.heap.size → z ∉ s.blk := fun z hz h => by have := (f9 z h).1; omega
      have b7w5 : w5.heap.size ≤ b7 := by omega
      have n7 : ∀ z, z < w5.heap.size → z ∉ [b7] := fun z hz h => by simp at h; omega
      have k9_13 : Keeps (b7 :: s.blk) w9 w13 := (k9_11.up.and (v4.mono (D' := b7 :: s.blk) (fun x hx => .inl (by simp [hx])))).and (k13.mono (D' := b7 :: s.blk) (fun x hx => .inl (by simp at hx; simp [hx])))
      have nn : ∀ z, z < w5.heap.size → z ∉ b7 :: s.blk := fun z hz h => by
        rcases List.mem_cons.1 h with h | h
        · omega
        · exact n6 z hz h
      rw [w64 (by omega) (by omega)]
      refine hJ _ _ ⟨i + 1, r, ns ++ [_], by omega, by omega, B9.keep k9_13 (nn _ hb5lt), C9.keep k9_13 (nn _ hc5lt), A9.keep k9_13 (nn _ hx6lt), D13, (by rw [uv_app]; exact v2.keep k13 (by intro y hy hz; simp at hz; exact (fr y hy).2 hz)), by simp; omega, fr, by have := k9_13.size; omega, k09.trans k9_13 (fun x hx => ?_)⟩ (by omega)
      right
      rcases List.mem_cons.1 hx with h | h
      · omega
      · have := (f9 _ h).1; omega
    · have hsl := uv_len o9.rd
      refine ⟨_, D9.cell 0, _, D9.cell 1, newn_k (e := 50) (sz := 2) (n := 1) (cs := [.int .i64 2, s.v]) rfl (by omega) (Keeps.refl [] w9) fun b10 w10 g1 g2 o10 k10 _ => ?_⟩
      obtain ⟨o, n, hm, m, hp', pr, av, X⟩ := A9
      have X10 := X.keep k10 (by simp)
      refine M.st_blk X10 (by simp) fun w11 X11 k11 => ?_
      have hs10 := k10.size
      have A11 : AtB w11 x6 ⟨some ⟨b10, 0, none⟩, 1, 1⟩ SV.nil := ⟨_, _, _, _, _, _, _, X11⟩
      have k9_11 : Keeps [x6] w9 w11 := k10.up.and k11
      have B11 := B9.keep k9_11 (by simpa using hx62.symm)
      have C11 := C9.keep k9_11 (by simpa using hx64.symm)
      have hs59 : w5.heap.size ≤ w9.heap.size := hw59
      have x6s : x6 ∉ s.blk := fun h => by have := (f9 _ h).1; omega
      have s9 : ∀ y ∈ s.blk, y < w9.heap.size := o9.lt
      have hx6w : w.heap.size ≤ x6 := by omega
      refine M.loop1_by (fun x w' => ∃ (i : Nat) (cm : SV) (cl : List Int), x = i ∧ i ≤ 2 ∧ Blk w' b2 32 _ ∧ Blk w' b4 32 _ ∧ AtB w' x6 ⟨some ⟨b10, 0, none⟩, 1, 1⟩ cm ∧ Rd 1 w' cm (uv cl) ∧ cl.length ≤ i ∧ x6 ∉ cm.blk ∧ Keeps [x6] w10 w') (fun x _ => (2 - x).toNat)
        ⟨0, SV.nil, [], rfl, by omega, B11, C11, A11, Rd.nil _ _, by simp, by simp [SV.blk], k11⟩ ?_
      rintro x w12 J3 ⟨i2, cm, cl, rfl, hi2, B12, C12, A12, R12, hcl, hcmx, k10_12⟩ hJ3
      have k9_12 : Keeps [x6] w9 w12 := k10.up.and k10_12
      have ha12 := ha9.step k9_12 (by have := ha.2; simp; omega)
      obtain ⟨al, hal⟩ := hcm _ ha12.1
      have hall := uv_len hal
      refine M.join_by (fun (J : Bool → World → Prop) => (i2 < 2 → i2 < al.length → J true w12) ∧ J false w12) ⟨fun c2 il => M.ite_tt ?_, M.ite_ff ?_⟩ fun J4 hJ4 => ⟨_, B12.cell 8, M.ite_by (fun c1 => ?_) (fun c1 => ?_)⟩
      · obtain ⟨ax, hax⟩ := hal.some (by omega)
        have e := uv_at hal hax (List.getElem?_eq_getElem il)
        refine ⟨_, B12.cell 8, ax, hax, by omega, by omega, _, e, M.join_by (fun (J : Int → World → Prop) => ∀ z, J z w12) (fun z => ?_) fun J5 hJ5 => M.ite_by (fun c3 => ⟨_, B12.cell 8, ax, hax, by omega, by omega, _, e, hJ5 _⟩) (fun c3 => hJ5 _)⟩
        obtain ⟨o2, n2, hm2, m2, hp2, pr2, av2, X12⟩ := A12
        refine ⟨_, X12.cell 8, (cput_c R12 (by omega) _).mono fun e w13 g => ?_⟩
        obtain ⟨r13, rfl, ⟨l13, R13, hl13⟩, hb13, k13⟩ := g
        have X13 := X12.keep k13 (by simp)
        have hx13 : x6 ∉ r13.blk := fun h => by
          rcases hb13 _ h with h | h
          · exact hcmx h
          · have := X12.lt; omega
        refine ⟨_, rfl, M.st_blk X13 (by simp) fun w14 X14 k14 => ?_⟩
        have k12_14 : Keeps [x6] w12 w14 := k13.up.and k14
        rw [w64 (by omega) (by omega)]
        exact hJ3 _ _ ⟨i2 + 1, r13, l13, by omega, by omega, B12.keep k12_14 (by simpa using hx62.symm), C12.keep k12_14 (by simpa using hx64.symm), ⟨_, _, _, _, _, _, _, X14⟩, R13.keep k14 (by intro y hy hz; simp at hz; subst hz; exact hx13 hy), by omega, hx13, k10_12.and k12_14⟩ (by omega)
      · obtain ⟨o2, n2, hm2, m2, hp2, pr2, av2, X12⟩ := A12
        refine ⟨_, _, _, _, _, _, _, _, _, X12.cs 0 _ rfl, M.stA_blk C12 rfl fun w13 C13 k13 => ⟨_, _, _, _, _, _, _, _, _, C13.cs 0 _ rfl, ⟨[(2, s, ns)], by simp, ?_, fun D w14 hD k14 => ?_⟩, ?_⟩⟩
        · simp [countA, sgCount]; omega
        · have hb4w : w.heap.size ≤ b4 := by omega
          have nb : ∀ y, w9.heap.size ≤ y ∨ w5.heap.size ≤ y → y ∉ D := fun y hy hz => by have := (hD y hz).2; omega
          have o10' : Rd 2 w14 ⟨some ⟨b10, 0, none⟩, 1, 1⟩ (sgvs [(2, s, ns)]) := by
            have h2 : Rd 2 w12 ⟨some ⟨b10, 0, none⟩, 1, 1⟩ [.int .i64 2, s.v] := o10.rd.keep k10_12 (by intro y hy hz; simp [SV.blk] at hy hz; omega)
            exact (h2.keep k13 (by intro y hy hz; simp [SV.blk] at hy hz; omega)).keep k14 (by intro y hy hz; simp [SV.blk] at hy; exact nb y (by omega) hz)
          refine ⟨o10', fun x hx => ?_⟩
          simp at hx; subst hx
          exact (((o9.rd.keep k9_12 (by intro y hy hz; simp at hz; subst hz; exact x6s hy)).keep k13 (by intro y hy hz; simp at hz; subst hz; have := (f9 _ hy).1; omega)).keep k14 (by intro y hy hz; exact nb y (.inr (f9 _ hy).1) hz))
        · exact (k09.trans k9_12 (by simp; omega)).trans k13 (by simp; omega)
      · by_cases h : i2 < 2
        · rw [decide_eq_true (by omega)]
          exact hJ4.1 h (by have := of_decide_eq_true c1; omega)
        · rw [decide_eq_false (by omega)]; exact hJ4.2
      · exact hJ4.2
    · by_cases h : i < 2
      · rw [decide_eq_true (by omega)]
        exact hJ2.1 h (by have := of_decide_eq_true c1; omega)
      · rw [decide_eq_false (by omega)]; exact hJ2.2
    · exact hJ2.2
end Go.Proofs.Ytmgigplbclkpaaa
