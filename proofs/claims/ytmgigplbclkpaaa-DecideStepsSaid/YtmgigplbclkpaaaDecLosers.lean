/-
  DecideLosers: without one that is behind the best one at once, the best one is the same.
-/
import Derived.Test.YtmgigplbclkpaaaDecRules
namespace Go.Proofs.Ytmgigplbclkpaaa
set_option linter.unusedVariables false
set_option linter.unusedSimpArgs false
open Go.Sp
open Go.RowKit (Below)

/-- Its attributes, in the midst of a row. -/
theorem cns_ac {w : World} {s : SV} {l : List Cn} (h : Cns w s l) {a : Addr} (ha : s.a = some a) {i : Nat} {c : Cn} (hc : l[i]? = some c) : Cs w ((a.add (i * 14)).add 4) 0 c.ac := by
  apply cs_of
  intro j v hj
  have hjl : j < 9 := (List.getElem?_eq_some_iff.1 hj).1
  have h1 := (h.at ha hc).get (4 + j) (v := v) (by
    have : (c.cells.drop 4)[j]? = c.ac[j]? := by
      have e : c.cells.drop 4 = c.ac ++ [.float .f64 c.cost] := rfl
      rw [e, List.getElem?_append_left (show j < c.ac.length from hjl)]
    rw [List.getElem?_drop] at this
    rw [this]; exact hj)
  rw [Nat.zero_add] at h1 ⊢
  rw [add_add]; exact h1
theorem cpath_at {w : World} {s : SV} {l : List Cn} (h : Cns w s l) {a : Addr} (ha : s.a = some a) {i : Nat} {c : Cn} (hc : l[i]? = some c) : w.cell? (((a.add (i * 14)).add 4).add 1) = some c.path.v := by
  have := (cns_ac h ha hc).get 1 (v := c.path.v) rfl
  rwa [Nat.zero_add] at this
theorem without {cs : List Cn} {i : Nat} {x : Cn} (hx : cs[i]? = some x) (h : Ids (Cn.vws cs)) : Ids (Cn.vws (cs.take i ++ cs.drop (i + 1))) ∧ (∀ v, v ∈ Cn.vws (cs.take i ++ cs.drop (i + 1)) ↔ v ∈ Cn.vws cs ∧ v ≠ x.vw) := by
  obtain ⟨hi, rfl⟩ := List.getElem?_eq_some_iff.1 hx
  have hd : cs.drop i = cs[i] :: cs.drop (i + 1) := List.drop_eq_getElem_cons hi
  have e : cs = cs.take i ++ cs[i] :: cs.drop (i + 1) := by rw [← hd, List.take_append_drop]
  have hs : (cs.take i ++ cs.drop (i + 1)).Sublist cs := by
    conv => rhs; rw [e]
    exact List.Sublist.append (List.Sublist.refl _) (List.sublist_cons_self _ _)
  refine ⟨h.sublist (hs.map Cn.vw), fun v => ?_⟩
  constructor
  · intro hv
    have hv0 := hv
    unfold Cn.vws at hv
    rw [List.mem_map] at hv
    obtain ⟨c, hc, rfl⟩ := hv
    have hcm : c ∈ cs := hs.subset hc
    refine ⟨List.mem_map.2 ⟨c, hcm, rfl⟩, fun hve => ?_⟩
    have hide : c.id = cs[i].id := congrArg Vw.id hve
    rcases List.mem_append.1 hc with hc | hc
    · obtain ⟨j, hj, rfl⟩ := List.getElem_of_mem hc
      rw [List.getElem_take] at hide
      have hjl : j < i := by rw [List.length_take] at hj; omega
      have := h.at (i := j) (j := i) (vws_at (List.getElem?_eq_getElem (show j < cs.length by omega))) (vws_at (List.getElem?_eq_getElem hi)) hide
      omega
    · obtain ⟨j, hj, rfl⟩ := List.getElem_of_mem hc
      rw [List.getElem_drop] at hide
      rw [List.length_drop] at hj
      have := h.at (i := i + 1 + j) (j := i) (vws_at (List.getElem?_eq_getElem (show i + 1 + j < cs.length by omega))) (vws_at (List.getElem?_eq_getElem hi)) hide
      omega
  · rintro ⟨hv, hne⟩
    unfold Cn.vws at hv ⊢
    rw [List.mem_map] at hv ⊢
    obtain ⟨c, hc, rfl⟩ := hv
    refine ⟨c, ?_, rfl⟩
    rw [e] at hc
    rcases List.mem_append.1 hc with hc | hc
    · exact List.mem_append.2 (.inl hc)
    · rcases List.mem_cons.1 hc with hc | hc
      · subst hc; exact absurd rfl hne
      · exact List.mem_append.2 (.inr hc)
theorem losers_c {W : World} {s : SV} {l : List Cn} (hl : l.length = s.len) (hp : ∀ i x, l[i]? = some x → RawAt W s i x) :
    Calls Try.prog 5 #[s.v] W (R5 fun r w' => r = true ∧ Below W.heap.size W w') := by
  refine F5_ok ((cands_c (Aft.refl W) hl hp true).mono fun e w1 g => ?_)
  obtain ⟨r1, rfl, cs0, o1, n1, s1, f1, w1', k1⟩ := g
  refine ⟨_, rfl, ids_loop (cs := cs0) ⟨o1, s1⟩ (by omega) fun w5 cs oc hcl hid k15 => ?_⟩
  have a1 := (Aft.refl W).new k1
  have a5 : Aft W w5 := a1.step k15 f1
  have hc5 := oc.cns
  have hn12 : cs.length ≤ 12 := by omega
  have hok : ∀ c ∈ cs, OkD c := fun c h => (oc.2 c h).1
  have hok1 : ∀ c ∈ cs, OkC c := fun c h => (hok c h).1
  have hv := okV hok
  have hids := ids_of hid
  have hrl := hc5.len
  refine (best_c hc5 hok (by omega)).mono fun e w8 g => ?_
  obtain ⟨x8, y8, rfl, h8, k8⟩ := g
  have a8 : Aft W w8 := a5.new k8
  by_cases hcs : cs = []
  · subst hcs
    have hb : bestA (Cn.vws []) = (0, false) := by decide +kernel
    rw [hb] at h8
    cases h8
    exact ⟨_, _, rfl, M.ite_tt (known_aft a8 (fun w' h => ⟨rfl, h.1⟩))⟩
  · have hvn : Cn.vws cs ≠ [] := by intro h2; have := congrArg List.length h2; rw [vws_len] at this; simp at this; exact hcs this
    have hlen : 0 < cs.length := List.length_pos_iff.2 hcs
    obtain ⟨n, v, hR, hA, hB, hnv, hsv, huniq⟩ := one_left hv hvn hids
    rw [hB] at h8
    cases h8
    obtain ⟨b, hbn, hbv⟩ := vws_some hnv
    subst hbv
    have hnl := (List.getElem?_eq_some_iff.1 hbn).1
    have hbm := List.mem_of_getElem? hbn
    refine ⟨_, _, rfl, M.ite_ff ?_⟩
    refine M.loop1_by (fun x w' => ∃ i : Nat, x = i ∧ i ≤ cs.length ∧ Keeps [] w5 w') (fun x _ => cs.length - x.toNat) ⟨0, rfl, by omega, k8⟩ ?_
    rintro x w9 J ⟨i, rfl, hi, k9⟩ hJ
    have a9 := a5.new k9
    refine M.ite_by (fun c => ?_) (fun c => ?_)
    · have c := of_decide_eq_true c
      have il : i < cs.length := by omega
      have ei := List.getElem?_eq_getElem il
      have hxm := List.getElem_mem il
      generalize cs[i] = x at *
      refine M.join_by (fun (J : World → Prop) => ∀ w', Keeps [] w5 w' → J w') (fun w' k => ?_) fun J2 hJ2 => ?_
      · rw [w64 (by omega) (by omega)]
        exact hJ _ _ ⟨i + 1, by omega, by omega, k⟩ (by omega)
      · refine M.join_by (fun (J : Bool → World → Prop) => ∀ t w', Keeps [] w5 w' → (t = false → x.prefA < b.prefA ∨ (countA b.segs : Int) < countA x.segs) → J t w') (fun t w10 k10 ht => M.ite_by (fun c1 => hJ2 _ k10) (fun c1 => ?_)) fun J3 hJ3 => ?_
        · have hlose := ht c1
          have hc10 := hc5.new k10
          have kd := Keeps.drew [] w10
          have hc11 := hc10.new kd
          have hcap := hc11.1.cap
          have k5_11 := k10.trans kd (by simp)
          have hl1 : (cs.take i).length = i := by simp; omega
          have e1 : IntKind.i64.wrap ((i : Int) + 1) = ((i + 1 : Nat) : Int) := by rw [w64 (by omega) (by omega)]; omega
          refine M.drew_by ⟨by omega, by omega, by omega, ?_⟩
          rw [e1]
          refine ⟨by omega, by omega, by omega, parts_k' (a := i) (b := i + 1) hc11 hn12 _ _ (sub_take hc11 (by omega)) (by show i - 0 ≤ 12; omega) (sub_drop hc11 (by omega)) (by show r1.len - (i + 1) ≤ 12; omega) fun s12 w12 h12 k12 => ?_⟩
          obtain ⟨hids2, hmem⟩ := without ei hids
          have hokd : ∀ c ∈ cs.take i ++ cs.drop (i + 1), OkD c := fun c h => by
            rcases List.mem_append.1 h with h | h
            · exact hok c (List.mem_of_mem_take h)
            · exact hok c (List.mem_of_mem_drop h)
          have hbx : b.vw ≠ x.vw := by
            intro h
            have h1 : b.prefA = x.prefA := congrArg Vw.pref h
            have h2 : (countA b.segs : Int) = countA x.segs := congrArg Vw.count h
            omega
          have hbw : b.vw ∈ Cn.vws (cs.take i ++ cs.drop (i + 1)) := (hmem _).2 ⟨List.mem_map.2 ⟨b, hbm, rfl⟩, hbx⟩
          have hwn : Cn.vws (cs.take i ++ cs.drop (i + 1)) ≠ [] := by
            intro h; rw [h] at hbw; simp at hbw
          obtain ⟨n', m', v', hb1, hb2, hv1, hv2⟩ := best_same hv (okV hokd) hvn hwn hids hids2 (Sv_without (x := x.vw) (b := b.vw) (List.mem_map.2 ⟨x, hxm, rfl⟩) hsv hmem hlose)
          rw [hB] at hb1
          have hn' : n' = n := by
            have := congrArg Prod.fst hb1
            simp at this; omega
          subst hn'
          have hld : (cs.take i ++ cs.drop (i + 1)).length ≤ 12 := by simp; omega
          refine (best_c h12 hokd (by omega)).mono fun e w13 g => ?_
          obtain ⟨x13, y13, rfl, h13, k13⟩ := g
          rw [hb2] at h13
          cases h13
          have kd13 := Keeps.drew [] w13
          have k11_13 := (k12.trans k13 (by simp)).trans kd13 (by simp)
          have hd13 := (h12.new k13).new kd13
          have hc13 := hc11.new k11_13
          obtain ⟨c2, hc2, hcv2⟩ := vws_some hv2
          have hl2 := (List.getElem?_eq_some_iff.1 hc2).1
          obtain ⟨ad, had⟩ := hd13.1.some (by have := hd13.len; omega)
          obtain ⟨ac, hac⟩ := hc13.1.some (by omega)
          rw [hnv] at hv1
          have hid12 : c2.id = b.id := by
            have : c2.vw = b.vw := by rw [hcv2]; exact (Option.some.inj hv1).symm
            exact congrArg Vw.id this
          refine ⟨_, _, rfl, M.join_by (fun (J : Bool → World → Prop) => J false w13.drew) (M.ite_ff (hJ2 _ (k5_11.trans k11_13 (by simp)))) fun J4 hJ4 => M.drew_by (M.ite_ff ⟨ad, had, by omega, by have := hd13.len; omega, ac, hac, by omega, by omega, _, cid_at hd13 had hc2, _, cid_at hc13 hac hbn, ?_⟩)⟩
          dsimp only
          rw [hid12, show (b.id != b.id) = false by simp]; exact hJ4
        · have kd := Keeps.drew [] w9
          have k10 := k9.trans kd (by simp)
          have hc10 := hc5.new k10
          obtain ⟨ac, hac⟩ := hc10.1.some (by omega)
          have hx10 := cns_ac hc10 hac ei
          have hb10 := cns_ac hc10 hac hbn
          refine M.drew_by ⟨ac, hac, by omega, c, ac, hac, by omega, by omega, _, _, _, _, _, _, _, _, _, hx10, _, _, _, _, _, _, _, _, _, hb10, (pref_c x).mono fun e w11 g => ?_⟩
          obtain ⟨r11, rfl, rfl, k11⟩ := g
          have k511 := k10.trans k11 (by simp)
          have hc11 := hc5.new k511
          refine ⟨_, rfl, cns_ac hc11 hac hbn, (pref_c b).mono fun e w12 g => ?_⟩
          obtain ⟨r12, rfl, rfl, k12⟩ := g
          have k512 := k511.trans k12 (by simp)
          have hc12 := hc5.new k512
          refine ⟨_, rfl, M.ite_by (fun c1 => ?_) (fun c1 => ?_)⟩
          · have c1 := of_decide_eq_true c1
            refine ⟨ac, hac, by omega, c, ac, hac, by omega, by omega, _, cpath_at hc12 hac ei, _, cpath_at hc12 hac hbn, (rcount_c (hc12.2 _ hxm) (hok1 _ hxm).1 (hok1 _ hxm).2).mono fun e w13 g => ?_⟩
            obtain ⟨r13, rfl, rfl, k13⟩ := g
            have hc13 := hc12.new k13
            refine ⟨_, rfl, cpath_at hc13 hac hbn, (rcount_c (hc13.2 _ hbm) (hok1 _ hbm).1 (hok1 _ hbm).2).mono fun e w14 g => ?_⟩
            obtain ⟨r14, rfl, rfl, k14⟩ := g
            exact ⟨_, rfl, hJ3 _ _ ((k512.trans k13 (by simp)).trans k14 (by simp)) fun h => .inr (by have := of_decide_eq_false h; omega)⟩
          · have c1 := of_decide_eq_false c1
            exact hJ3 _ _ k512 fun _ => .inl (by omega)
    · exact known_aft a9 (fun w' h => ⟨rfl, h.1⟩)
theorem losers_law (W : World) (args : List Value) (h : GdArgs W [(false, .cons (.slice rawSh) .nil)] args) : Calls Try.prog 5 args.toArray W fun e W' => e = .returned (.bool true) ∧ Below W.heap.size W W' := by
  obtain ⟨v0, r, rfl, h0, h⟩ := h.one
  cases h
  obtain ⟨s, l, rfl, hl, hm, hp⟩ := good_raws h0
  exact (losers_c hl hp).mono fun e w' ⟨b, he, hb, hw⟩ => by subst hb; exact ⟨he, hw⟩
end Go.Proofs.Ytmgigplbclkpaaa
