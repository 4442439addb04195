/-
  DecideNumbers: each step by itself, and costs at their edges.
-/
import Derived.Test.YtmgigplbclkpaaaDecTells
namespace Go.Proofs.Ytmgigplbclkpaaa
set_option linter.unusedVariables false
set_option linter.unusedSimpArgs false
open Go.Sp
open Go.RowKit (Below)

theorem nan_c {w : World} : Calls Try.prog 18 #[] w (R18 fun r w' => r = 9221120237041090561 ∧ w' = w) := F18_ok ⟨rfl, rfl⟩
theorem copysign_c {w : World} (a b : Nat) : Calls Try.prog 20 #[.float .f64 a, .float .f64 b] w (R20 fun r w' => r < 18446744073709551616 ∧ w' = w) := by
  refine F20_ok ⟨?_, rfl⟩
  unfold bOr
  rw [IntKind.wrap_u64]
  omega
theorem blk_cns {w : World} {b : Nat} {T : TypeId} {cs : List Cn} (h : Blk w b T (cnv cs)) (hs : ∀ c ∈ cs, Segs w c.path c.segs) : Cns w ⟨some ⟨b, 0, none⟩, cs.length, cs.length⟩ cs := by
  refine ⟨⟨cnv_len cs, Nat.le_refl _, (fun h => nomatch h), fun a ha i v hv => ?_⟩, hs⟩
  cases ha
  rw [add_mk, Nat.zero_add, h.cell]
  exact hv
theorem one_path {w0 w1 : World} {ns : List Int} {k : Int} {b b2 : Nat} {s : SV} (h1 : Own 28 1 w1 s (uv ns)) (hs : s.blk = [b]) (h2 : Blk w1 b2 50 [.int .i64 k, s.v]) {D : List Nat} (hD : b ∉ D ∧ b2 ∉ D) (kp : Keeps D w1 w0) : Segs w0 ⟨some ⟨b2, 0, none⟩, 1, 1⟩ [(k, s, ns)] := by
  have h2' := h2.keep kp hD.2
  refine ⟨⟨rfl, Nat.le_refl _, (fun h => nomatch h), fun a ha i v hv => ?_⟩, fun x hx => ?_⟩
  · cases ha
    rw [add_mk, Nat.zero_add, h2'.cell]
    exact hv
  · simp at hx
    subst hx
    exact (h1.keep kp (by intro y hy; rw [hs] at hy; simp at hy; subst hy; exact hD.1)).rd
theorem numbers_c {W : World} : Calls Try.prog 8 #[] W (R8 fun r w' => r = true ∧ Below W.heap.size W w') := by
  refine F8_ok (newn_k (e := 28) (sz := 1) (n := 2) (cs := uv [9, 9]) rfl (by omega) (Keeps.refl [] W) fun b3 w1 g1 g2 o1 k1 _ => M.new_blk fun b6 w4 hb6 B4 k4 => M.new_blk fun b8 w7 hb8 P7 k7 => M.stA_blk P7 rfl fun w9 P9 k9 => ?_)
  have k04 := k1.trans k4 (by simp)
  have k09 : Keeps [] W w9 := (k04.trans k7 (by simp)).trans k9 (by have := k04.size; simp; omega)
  have hs4 := k4.size
  have hs7 := k7.size
  have hs9 := k9.size
  have hs1 := k1.size
  have hb6lt := B4.lt
  have o9 : Own 28 1 w9 ⟨some ⟨b3, 0, none⟩, 2, 2⟩ (uv [9, 9]) := ((o1.keep k4 (by simp)).keep k7 (by simp)).keep k9 (by intro y hy hz; simp [SV.blk] at hy hz; omega)
  have B9 : Blk w9 b6 50 [.int .i64 2, (SV.mk (some ⟨b3, 0, none⟩) 2 2).v] := (B4.keep k7 (by simp)).keep k9 (by simp; omega)
  have hb8lt := P9.lt
  refine M.loop2_by (fun o x w' => ∃ (i : Nat) (cs : List Cn), x = i ∧ i ≤ 17 ∧ Own 37 14 w' o (cnv cs) ∧ cs.length = i ∧ (∀ c ∈ cs, OkD c ∧ ∀ w'', Keeps o.blk w' w'' → Segs w'' c.path c.segs) ∧ (∀ y ∈ o.blk, w9.heap.size ≤ y) ∧ Keeps [] w9 w') (fun _ x _ => (17 - x).toNat)
    ⟨0, [], rfl, by omega, Own.nil _ _ _, rfl, by simp, by simp [SV.blk], Keeps.refl _ _⟩ ?_
  rintro o x w14 J ⟨i, cs, rfl, hi, ho, hcs, hseg, hof, k14⟩ hJ
  have k014 := k09.trans k14 (by simp)
  refine M.ite_by (fun c => ?_) (fun c => ?_)
  · have c := of_decide_eq_true c
    have P14 := P9.keep k14 (by simp)
    refine ⟨_, _, _, _, _, _, _, _, _, _, _, _, _, P14.cs 0 _ rfl, M.new_blk fun b w15 hb X15 k15 => M.stA_blk X15 rfl fun w16 X16 k16 => ?_⟩
    have k146 : Keeps [] w14 w16 := k15.trans k16 (by simp; omega)
    have hs14 := k14.size
    have hs146 := k146.size
    have hob : ∀ y ∈ o.blk, y < w14.heap.size := ho.lt
    have hbo : b ∉ o.blk := fun h => by have := hob _ h; omega
    obtain ⟨cB, hcB⟩ : ∃ cB : Cn, cB = ⟨0, 5, 5, true, 1, ⟨some ⟨b6, 0, none⟩, 1, 1⟩, 0, true, 5, true, 100, false, SV.nil, 4617315517961601024, [(2, ⟨some ⟨b3, 0, none⟩, 2, 2⟩, [9, 9])]⟩ := ⟨_, rfl⟩
    have X : Blk w16 b 37 cB.cells := by rw [hcB]; exact X16
    have base : ∀ w w'', Keeps [] w9 w → Keeps o.blk w w'' → Segs w'' cB.path cB.segs := fun w w'' k k2 => by
      rw [hcB]
      exact one_path (b := b3) (D := o.blk) (o9.keep k (by simp)) rfl (B9.keep k (by simp)) ⟨fun h => by have := hof _ h; omega, fun h => by have := hof _ h; omega⟩ k2
    have hcost : cB.cost < 18446744073709551616 := by rw [hcB]; show 4617315517961601024 < 18446744073709551616; omega
    have hcnt : countA cB.segs ≤ 1099511627776 := by rw [hcB]; show 2 ≤ 1099511627776; omega
    have hlen : cB.segs.length ≤ 1099511627776 := by rw [hcB]; show 1 ≤ 1099511627776; omega
    refine M.join_by (fun (J : World → Prop) => ∀ (c : Cn) w', Blk w' b 37 c.cells → OkD c → (∀ w'', Keeps o.blk w' w'' → Segs w'' c.path c.segs) → Keeps [] w14 w' → J w') (fun c w17 X17 okc hsc k17 => ?_) fun J2 hJ2 => ?_
    · have hs17 := k17.size
      have hol := ho.rd.len
      rw [cnv_len] at hol
      refine ⟨_, _, _, _, _, _, _, _, _, _, _, _, _, _, X17.cs 0 c.cells rfl, newn_k (e := 37) (sz := 14) (n := 1) (cs := c.cells) rfl (by omega) (Keeps.refl [] w17) fun b9 w18 g5 g6 o18 k18 _ => ?_⟩
      have ho' := (ho.keep k17 (by simp)).keep k18 (by simp)
      obtain ⟨r, w19, v1, v2, v3, v4, v5⟩ := app_own (P := Try.prog) (ty := 24) (news := cnv [c]) cSl cEl ho' (by simpa [cnv] using o18.rd) (cnv_one _) (by simp only []; omega)
      refine ⟨r, w19, v1, ?_⟩
      rw [w64 (by omega) (by omega)]
      have k1418 := k17.trans k18 (by simp)
      have hs18 := k18.size
      refine hJ _ _ _ ⟨i + 1, cs ++ [c], by omega, by omega, by rw [cnv_app]; exact v2, by simp; omega, fun d hd => ?_, fun y hy => ?_, (k14.trans k1418 (by simp)).trans v4 (fun y hy => .inr (hof y hy))⟩ (by omega)
      · have chain : ∀ w'', Keeps r.blk w19 w'' → Keeps o.blk w18 w'' := fun w'' k => v4.trans k v5
        rcases List.mem_append.1 hd with hd | hd
        · exact ⟨(hseg d hd).1, fun w'' k => (hseg d hd).2 w'' (k1418.up.and (chain w'' k))⟩
        · simp at hd; subst hd
          exact ⟨okc, fun w'' k => hsc w'' (k18.up.and (chain w'' k))⟩
      · rcases v5 y hy with h | h
        · exact hof y h
        · omega
    · -- one cell turned
      have turn : ∀ (c : Cn) w', Keeps [] w14 w' → c.path = cB.path → c.segs = cB.segs → c.cost < 18446744073709551616 → Blk w' b 37 c.cells → J2 w' := fun c w' k hp hs hc X' => hJ2 c w' X' ⟨⟨by rw [hs]; exact hcnt, by rw [hs]; exact hlen⟩, hc⟩ (fun w'' k2 => by rw [hp, hs]; exact base w' w'' (k14.trans k (by simp)) k2) k
      have one : ∀ {j : Nat} {v : Value} {w : World} (c c' : Cn) (a : Addr), Keeps [] w14 w → Blk w b 37 c.cells → j < 14 → (⟨b, 0, none⟩ : Addr).add j = a → c'.cells = c.cells.set j v → c'.path = cB.path → c'.segs = cB.segs → c'.cost < 18446744073709551616 → M.st a v w fun w' => J2 w' := fun {j v w} c c' a k X hj ha he hp hs hc => by
        subst ha
        exact M.st_blk X (by simpa using hj) fun w' X' k' => turn c' w' (k.trans k' (by simp; omega)) hp hs hc (by rw [he]; exact X')
      -- another path
      have path : ∀ {w w' : World} (c' : Cn) {ns : List Int} {k : Int} {n : Nat} {b1 b2 : Nat} (_ : Own 28 1 w ⟨some ⟨b1, 0, none⟩, n, n⟩ (uv ns)) (_ : Blk w b2 50 [.int .i64 k, (SV.mk (some ⟨b1, 0, none⟩) n n).v]), w14.heap.size ≤ b1 → w14.heap.size ≤ b2 → b1 ≠ b → b2 ≠ b → Keeps [] w14 w → Keeps [b] w w' → Blk w' b 37 c'.cells → c'.path = ⟨some ⟨b2, 0, none⟩, 1, 1⟩ → c'.segs = [(k, ⟨some ⟨b1, 0, none⟩, n, n⟩, ns)] → ns.length ≤ 100 → c'.cost < 18446744073709551616 → J2 w' := fun {w w'} c' {ns k n b1 b2} ho hB h1 h2 n1 n2 kw kw' X' hp hs hn hc =>
        hJ2 c' w' X' ⟨⟨by rw [hs]; simp [countA, sgCount]; split <;> (try split) <;> omega, by rw [hs]; simp⟩, hc⟩ (fun w'' k2 => by
          rw [hp, hs]
          exact one_path (b := b1) (D := b :: o.blk) ho rfl hB ⟨fun h => by rcases List.mem_cons.1 h with h | h; exact n1 h; have := hob _ h; omega, fun h => by rcases List.mem_cons.1 h with h | h; exact n2 h; have := hob _ h; omega⟩ ((kw'.mono (fun y hy => .inl (by simp at hy; simp [hy]))).and (k2.mono (fun y hy => .inl (by simp [hy]))))) (kw.trans kw' (by simp; omega))
      refine M.ite_by (fun _ => one (j := 10) cB { cB with pref := 101 } _ k146 X (by omega) rfl rfl rfl rfl hcost) fun _ => ?_
      refine M.ite_by (fun _ => ?_) fun _ => ?_
      · refine (show M.st ((⟨b, 0, none⟩ : Addr).add 9) _ _ _ from M.st_blk X (by simp) fun w17 X17 k17 => ?_)
        exact one (j := 10) { cB with hasPref := false } { cB with hasPref := false, pref := 500 } _ (k146.trans k17 (by simp; omega)) X17 (by omega) rfl rfl rfl rfl hcost
      refine M.ite_by (fun _ => ?_) fun _ => ?_
      · refine newn_k (e := 28) (sz := 1) (n := 1) (cs := uv [9]) rfl (by omega) k146 fun b1 w17 g5 g6 o17 k17 k17' => M.new_blk fun b2 w18 hb2 B18 k18 => ?_
        have hs17 := k17.size
        refine (show M.st ((⟨b, 0, none⟩ : Addr).add 5) _ _ _ from M.st_blk ((X.keep k17 (by simp)).keep k18 (by simp)) (by simp) fun w19 X19 k19 => ?_)
        have hblt := X.lt
        exact path { cB with path := ⟨some ⟨b2, 0, none⟩, 1, 1⟩, segs := [(2, ⟨some ⟨b1, 0, none⟩, 1, 1⟩, [9])] } (o17.keep k18 (by simp)) B18 (by omega) (by omega) (by omega) (by omega) (k17'.trans k18 (by simp)) k19 X19 rfl rfl (by simp) hcost
      refine M.ite_by (fun _ => ?_) fun _ => ?_
      · refine newn_k (e := 28) (sz := 1) (n := 3) (cs := uv [9, 8, 7]) rfl (by omega) k146 fun b1 w17 g5 g6 o17 k17 k17' => M.new_blk fun b2 w18 hb2 B18 k18 => ?_
        have hs17 := k17.size
        refine (show M.st ((⟨b, 0, none⟩ : Addr).add 5) _ _ _ from M.st_blk ((X.keep k17 (by simp)).keep k18 (by simp)) (by simp) fun w19 X19 k19 => ?_)
        have hblt := X.lt
        exact path { cB with path := ⟨some ⟨b2, 0, none⟩, 1, 1⟩, segs := [(1, ⟨some ⟨b1, 0, none⟩, 3, 3⟩, [9, 8, 7])] } (o17.keep k18 (by simp)) B18 (by omega) (by omega) (by omega) (by omega) (k17'.trans k18 (by simp)) k19 X19 rfl rfl (by simp) hcost
      refine M.ite_by (fun _ => one (j := 4) cB { cB with origin := 0 } _ k146 X (by omega) rfl rfl rfl rfl hcost) fun _ => ?_
      refine M.ite_by (fun _ => one (j := 8) cB { cB with med := 4 } _ k146 X (by omega) rfl rfl rfl rfl hcost) fun _ => ?_
      refine M.ite_by (fun _ => one (j := 7) cB { cB with hasMed := false } _ k146 X (by omega) rfl rfl rfl rfl hcost) fun _ => ?_
      refine M.ite_by (fun _ => ?_) fun _ => ?_
      · refine newn_k (e := 28) (sz := 1) (n := 2) (cs := uv [8, 9]) rfl (by omega) k146 fun b1 w17 g5 g6 o17 k17 k17' => M.new_blk fun b2 w18 hb2 B18 k18 => ?_
        have hs17 := k17.size
        refine (show M.st ((⟨b, 0, none⟩ : Addr).add 5) _ _ _ from M.st_blk ((X.keep k17 (by simp)).keep k18 (by simp)) (by simp) fun w19 X19 k19 => ?_)
        refine (show M.st ((⟨b, 0, none⟩ : Addr).add 8) _ _ _ from M.st_blk X19 (by simp) fun w20 X20 k20 => ?_)
        have hblt := X.lt
        exact path { cB with path := ⟨some ⟨b2, 0, none⟩, 1, 1⟩, segs := [(2, ⟨some ⟨b1, 0, none⟩, 2, 2⟩, [8, 9])], med := 1 } (o17.keep k18 (by simp)) B18 (by omega) (by omega) (by omega) (by omega) (k17'.trans k18 (by simp)) (k19.and k20) X20 rfl rfl (by simp) hcost
      refine M.ite_by (fun _ => one (j := 3) cB { cB with inner := false } _ k146 X (by omega) rfl rfl rfl rfl hcost) fun _ => ?_
      refine M.ite_by (fun _ => one (j := 13) cB { cB with cost := 4616189618054758400 } _ k146 X (by omega) rfl rfl rfl rfl (by show 4616189618054758400 < 18446744073709551616; omega)) fun _ => ?_
      refine M.ite_by (fun _ => nan_c.mono fun e w17 g => ?_) fun _ => ?_
      · obtain ⟨r, rfl, rfl, rfl⟩ := g
        exact ⟨_, rfl, one (j := 13) cB { cB with cost := 9221120237041090561 } _ k146 X (by omega) rfl rfl rfl rfl (by show 9221120237041090561 < 18446744073709551616; omega)⟩
      refine M.ite_by (fun _ => inf_c.mono fun e w17 g => ?_) fun _ => ?_
      · obtain ⟨r, rfl, rfl, rfl⟩ := g
        exact ⟨_, rfl, one (j := 13) cB { cB with cost := 9218868437227405312 } _ k146 X (by omega) rfl rfl rfl rfl (by show 9218868437227405312 < 18446744073709551616; omega)⟩
      refine M.ite_by (fun _ => (copysign_c _ _).mono fun e w17 g => ?_) fun _ => ?_
      · obtain ⟨r, rfl, hr, rfl⟩ := g
        exact ⟨_, rfl, one (j := 13) cB { cB with cost := r } _ k146 X (by omega) rfl rfl rfl rfl hr⟩
      refine M.ite_by (fun _ => one (j := 13) cB { cB with cost := 0 } _ k146 X (by omega) rfl rfl rfl rfl (by show 0 < 18446744073709551616; omega)) fun _ => ?_
      refine M.ite_by (fun _ => one (j := 1) cB { cB with id := 4 } _ k146 X (by omega) rfl rfl rfl rfl hcost) fun _ => ?_
      refine M.ite_by (fun _ => one (j := 2) cB { cB with addr := 4 } _ k146 X (by omega) rfl rfl rfl rfl hcost) fun _ => ?_
      exact turn cB w16 k146 rfl rfl hcost X
  · have c := of_decide_eq_false c
    obtain rfl : i = 17 := by omega
    have hc14 : Cns w14 o cs := cns_of ho hseg
    have hok : ∀ c ∈ cs, OkD c := fun c h => (hseg c h).1
    have hol := hc14.len
    refine M.loop1_by (fun x w' => ∃ i : Nat, x = i ∧ i ≤ 17 ∧ Keeps [] w14 w') (fun x _ => 17 - x.toNat) ⟨0, rfl, by omega, Keeps.refl _ _⟩ ?_
    rintro x w15 J1 ⟨i, rfl, hi, k15⟩ hJ1
    have hc15 := hc14.new k15
    refine M.ite_by (fun c1 => ?_) (fun c1 => ?_)
    · have c1 := of_decide_eq_true c1
      refine M.loop1_by (fun x w' => ∃ k : Nat, x = k ∧ k ≤ 17 ∧ Keeps [] w14 w') (fun x _ => 17 - x.toNat) ⟨0, rfl, by omega, k15⟩ ?_
      rintro x w16 J2 ⟨k, rfl, hk, k16⟩ hJ2
      refine M.ite_by (fun c2 => ?_) (fun c2 => ?_)
      · have c2 := of_decide_eq_true c2
        have il : i < cs.length := by omega
        have kl : k < cs.length := by omega
        have ml : (i + k) % 17 < cs.length := by omega
        have zl : 0 < cs.length := by omega
        have ei := List.getElem?_eq_getElem il
        have ek := List.getElem?_eq_getElem kl
        have em := List.getElem?_eq_getElem ml
        have ez := List.getElem?_eq_getElem zl
        have mi := List.getElem_mem il
        have mk := List.getElem_mem kl
        have mm := List.getElem_mem ml
        have mz := List.getElem_mem zl
        generalize cs[i] = ci at *
        generalize cs[k] = ck at *
        generalize cs[(i + k) % 17] = cm at *
        generalize cs[0] = cz at *
        have kd := Keeps.drew [] w16
        have k17 := k16.trans kd (by simp)
        have hc17 := hc14.new k17
        obtain ⟨ac, hac⟩ := hc17.1.some (by omega)
        refine M.join_by (fun (J : Bool → World → Prop) => ∀ w', Keeps [] w14 w' → J false w') (fun w' k' => M.ite_ff ?_) fun J3 hJ3 => M.drew_by ⟨ac, hac, by omega, by omega, ac, hac, by omega, by omega, _, _, _, _, _, _, _, _, _, _, _, _, _, _, hc17.at hac ei, _, _, _, _, _, _, _, _, _, _, _, _, _, _, hc17.at hac ek, M.new_blk (cs := ci.cells ++ ck.cells) fun b3 w18 hb3 E k18 => ?_⟩
        · rw [w64 (by omega) (by omega)]
          exact hJ2 _ _ ⟨k + 1, by omega, by omega, k'⟩ (by omega)
        · have k1418 := k17.trans k18 (by simp)
          have hc18 := hc14.new k1418
          refine (same_c (two_cns E (hc18.2 _ mi) (hc18.2 _ mk)) (by intro x hx; simp at hx; rcases hx with rfl | rfl; exact hok _ mi; exact hok _ mk) (by simp)).mono fun e w19 g => ?_
          obtain ⟨r19, rfl, rfl, k19⟩ := g
          have k1419 := k1418.trans k19 (by simp)
          have hc19 := hc14.new k1419
          refine ⟨_, rfl, M.ite_n rfl ?_⟩
          rw [w64 (show (-9223372036854775808 : Int) ≤ (i : Int) + (k : Int) by omega) (by omega)]
          have etm : Int.tmod ((i : Int) + (k : Int)) (o.len : Int) = (((i + k) % 17 : Nat) : Int) := by
            rw [show (o.len : Int) = 17 by omega, Int.tmod_eq_emod_of_nonneg (by omega)]; omega
          rw [etm]
          refine ⟨ac, hac, by omega, by omega, ac, hac, by omega, by omega, ac, hac, by omega, by omega, by omega, ac, hac, by omega, by omega, _, _, _, _, _, _, _, _, _, _, _, _, _, _, hc19.at hac ei, _, _, _, _, _, _, _, _, _, _, _, _, _, _, hc19.at hac ez, _, _, _, _, _, _, _, _, _, _, _, _, _, _, hc19.at hac ek, _, _, _, _, _, _, _, _, _, _, _, _, _, _, hc19.at hac em, M.new_blk (cs := cnv [ci, cz, ck, cm]) fun b4 w20 hb4 E4 k20 => ?_⟩
          have k1420 := k1419.trans k20 (by simp)
          have hc20 := hc14.new k1420
          refine (same_c (blk_cns E4 (by intro x hx; simp at hx; rcases hx with rfl | rfl | rfl | rfl; exact hc20.2 _ mi; exact hc20.2 _ mz; exact hc20.2 _ mk; exact hc20.2 _ mm)) (by intro x hx; simp at hx; rcases hx with rfl | rfl | rfl | rfl; exact hok _ mi; exact hok _ mz; exact hok _ mk; exact hok _ mm) (by simp)).mono fun e w21 g => ?_
          obtain ⟨r21, rfl, rfl, k21⟩ := g
          exact ⟨_, rfl, hJ3 _ (k1420.trans k21 (by simp))⟩
      · rw [w64 (by omega) (by omega)]
        exact hJ1 _ _ ⟨i + 1, by omega, by omega, k16⟩ (by omega)
    · refine M.join_by (fun (J : Bool → World → Prop) => ∀ w', Keeps [] w14 w' → J true w') (fun w' k' => ⟨rfl, ((Aft.refl W).new (k014.trans k' (by simp))).1⟩) fun J3 hJ3 => (same_c hc15 hok (by omega)).mono fun e w16 g => ?_
      obtain ⟨r16, rfl, rfl, k16⟩ := g
      refine ⟨_, rfl, M.ite_tt ((same_c (cs := []) ⟨Rd.nil _ _, by simp⟩ (by simp) (by simp)).mono fun e w17 g => ?_)⟩
      obtain ⟨r17, rfl, rfl, k17⟩ := g
      refine ⟨_, rfl, M.ite_tt (known_c.mono fun e w18 g => ?_)⟩
      obtain ⟨r18, rfl, rfl, k18⟩ := g
      exact ⟨_, rfl, hJ3 _ (((k15.trans k16 (by simp)).trans k17 (by simp)).trans k18 (by simp))⟩
theorem numbers_law (W : World) (args : List Value) (h : GdArgs W [] args) : Calls Try.prog 8 args.toArray W fun e W' => e = .returned (.bool true) ∧ Below W.heap.size W W' := by
  cases h
  exact numbers_c.mono fun e w' ⟨b, he, hb, hw⟩ => by subst hb; exact ⟨he, hw⟩
end Go.Proofs.Ytmgigplbclkpaaa
