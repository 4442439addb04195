/-
  DecideRules and DecideLosers: each step leaves some of those ahead; the best one does not hang on the order, nor on those behind it.
-/
import Derived.Test.YtmgigplbclkpaaaDecTells
import Derived.Test.YtmgigplbclkpaaaSpDecS
namespace Go.Proofs.Ytmgigplbclkpaaa
set_option linter.unusedVariables false
set_option linter.unusedSimpArgs false
open Go.Sp
open Go.RowKit (Below)

theorem cnv_set {cs : List Cn} {i : Nat} {c : Cn} (h : cs[i]? = some c) (k : Int) : (cnv cs).set (i * 14 + 1) (.int .u32 k) = cnv (cs.set i { c with id := k }) := by
  induction cs generalizing i with
  | nil => simp at h
  | cons x l ih =>
    cases i with
    | zero => simp at h; subst h; rfl
    | succ i =>
      have := ih (i := i) (by simpa using h)
      rw [show (i + 1) * 14 + 1 = (i * 14 + 1) + 14 by omega]
      show x.cells ++ (cnv l).set (i * 14 + 1) (.int .u32 k) = _
      rw [this]; rfl
/-- Candidates, each with its own ID. -/
def Own17 (w : World) (r : SV) (cs : List Cn) : Prop := Own 37 14 w r (cnv cs) ∧ ∀ c ∈ cs, OkD c ∧ ∀ w'', Keeps r.blk w w'' → Segs w'' c.path c.segs
theorem ids_loop {w1 : World} {r : SV} {cs : List Cn} {E : World → Prop} (o : Own17 w1 r cs) (hn : cs.length ≤ 12)
    (hE : ∀ w' cs', Own17 w' r cs' → cs'.length = cs.length → (∀ (j : Nat) (c : Cn), cs'[j]? = some c → c.id = 10 + (j : Int)) → Keeps r.blk w1 w' → E w') :
    M.loop1 (fun (J : Int → World → Prop) (x : Int) (w : World) => M.ite (decide (x < (r.len : Int))) (
      M.idx r x 14 fun a => M.st ((a.add (x.toNat * 14)).add 1) (Value.int .u32 (IntKind.u32.wrap (IntKind.i64.wrap ((10 : Int) + x)))) w fun w' => J (IntKind.i64.wrap (x + (1 : Int))) w') (E w)) (0 : Int) w1 := by
  refine M.loop1_by (fun x w => ∃ (i : Nat) (cs' : List Cn), x = i ∧ i ≤ cs.length ∧ Own17 w r cs' ∧ cs'.length = cs.length ∧ (∀ (j : Nat) (c : Cn), j < i → cs'[j]? = some c → c.id = 10 + (j : Int)) ∧ Keeps r.blk w1 w) (fun x _ => cs.length - x.toNat)
    ⟨0, cs, rfl, by omega, o, rfl, fun j c h => by omega, Keeps.refl _ _⟩ ?_
  rintro x w J ⟨i, cs', rfl, hi, ⟨o', s'⟩, hl, hid, k⟩ hJ
  have hrl := o'.rd.len
  rw [cnv_len] at hrl
  refine M.ite_by (fun c => ?_) (fun c => ?_)
  · have c := of_decide_eq_true c
    have il : i < cs'.length := by omega
    have ei := List.getElem?_eq_getElem il
    have hm := List.getElem_mem il
    generalize cs'[i] = z at *
    obtain ⟨ax, hax⟩ := o'.rd.some (by omega)
    rw [w64 (by omega) (by omega), wu32 (by omega) (by omega), w64 (by omega) (by omega)]
    obtain ⟨h1, h2, h3, h4⟩ := o'.put hax (j := i * 14 + 1) (by rw [cnv_len]; omega) (.int .u32 (10 + (i : Int)))
    rw [cnv_set ei] at h3
    have ea : (ax.add (((i : Nat) : Int).toNat * 14)).add 1 = ax.add (i * 14 + 1) := by rw [add_add]; rfl
    refine ⟨ax, hax, by omega, c, ?_⟩
    dsimp only
    rw [ea]
    refine ⟨h1, h2, hJ _ _ ⟨i + 1, _, by omega, by omega, ⟨h3, fun d hd => ?_⟩, by simp; omega, fun j d hj hd => ?_, k.and h4⟩ (by omega)⟩
    · rcases List.mem_or_eq_of_mem_set hd with hd | hd
      · exact ⟨(s' d hd).1, fun w'' k2 => (s' d hd).2 w'' (h4.and k2)⟩
      · subst hd
        exact ⟨(s' z hm).1, fun w'' k2 => (s' z hm).2 w'' (h4.and k2)⟩
    · rw [List.getElem?_set] at hd
      split at hd
      · rename_i he
        subst he
        have hd := Option.some.inj (by simpa [il] using hd)
        rw [← hd]
      · exact hid j d (by omega) hd
  · have c := of_decide_eq_false c
    exact hE w cs' ⟨o', s'⟩ hl (fun j d hd => hid j d (by have := (List.getElem?_eq_some_iff.1 hd).1; omega) hd) k
theorem Own17.cns {w : World} {r : SV} {cs : List Cn} (h : Own17 w r cs) : Cns w r cs := cns_of h.1 h.2
theorem ids_of {cs : List Cn} (h : ∀ (j : Nat) (c : Cn), cs[j]? = some c → c.id = 10 + (j : Int)) : Ids (Cn.vws cs) := by
  unfold Ids
  rw [List.pairwise_iff_getElem]
  intro i j hi hj hlt
  rw [vws_len] at hi hj
  have e1 := h i _ (List.getElem?_eq_getElem hi)
  have e2 := h j _ (List.getElem?_eq_getElem hj)
  simp only [Cn.vws, List.getElem_map]
  show (cs[i]).id ≠ (cs[j]).id
  omega
theorem sub_skip {a b : Nat} {l m : List Nat} (h : (a :: l).Sublist (b :: m)) (hne : b ≠ a) : (a :: l).Sublist m := by
  cases h with
  | cons _ h => exact h
  | cons_cons _ h => exact absurd rfl hne
theorem nat_bne (u v : Nat) : ((u : Int) != (v : Int)) = decide (u ≠ v) := by
  by_cases h : u = v
  · simp [h]
  · have : (u : Int) ≠ (v : Int) := by omega
    simp [h, this]
theorem siftA_7 (vs : List Vw) : (leftA vs 7).length ≤ 1 := by
  rw [leftR_7]; simp; omega
theorem rotated {cs : List Cn} {n : Nat} (h : Ids (Cn.vws cs)) : Ids (Cn.vws (cs.drop n ++ cs.take n)) := by
  have hp : (cs.drop n ++ cs.take n).Perm cs := by
    have := List.perm_append_comm (l₁ := cs.drop n) (l₂ := cs.take n)
    rwa [List.take_append_drop] at this
  exact ((hp.map Cn.vw).pairwise_iff (fun {a b} h => Ne.symm h)).2 h
/-- A new list out of two parts of one. -/
theorem parts_k {w : World} {r : SV} {cs : List Cn} (hc : Cns w r cs) (hn : cs.length ≤ 12) {a b : Nat} (hab : a ≤ cs.length) (hbb : b ≤ cs.length) {K : SV → World → Prop}
    (x y : SV) (hx : Rd 14 w x (cnv (cs.drop a))) (hxl : x.len ≤ 12) (hy : Rd 14 w y (cnv (cs.take b))) (hyl : y.len ≤ 12) (hK : ∀ s w', Cns w' s (cs.drop a ++ cs.take b) → Keeps [] w w' → K s w') :
    M.new (.cells #[] 37) w fun b w' => M.app Try.prog 24 24 24 (SV.mk (some b) 0 0) x.v w' fun s w' => M.app Try.prog 24 24 24 s y.v w' K := by
  refine new0_k (sz := 14) (Keeps.refl _ _) fun b3 w3 g1 g2 hb3 o3 k3 k03 => app_k cSl cEl k03 hb3 o3 (hx.keep k03 (by simp)) (cnv_one _) (by simp only []; omega) fun s4 w4 o4 n4 f4 _ k04 => app_k cSl cEl k04 f4 o4 (hy.keep k04 (by simp)) (cnv_one _) (by simp only [n4]; omega) fun s5 w5 o5 n5 f5 _ k05 => hK s5 w5 ⟨by rw [cnv_app]; exact o5.rd, fun c hm => ?_⟩ k05
  rcases List.mem_append.1 hm with h | h
  · exact (hc.2 c (List.mem_of_mem_drop h)).new k05
  · exact (hc.2 c (List.mem_of_mem_take h)).new k05
theorem parts_k' {w : World} {r : SV} {cs : List Cn} (hc : Cns w r cs) (hn : cs.length ≤ 12) {a b : Nat} {K : SV → World → Prop}
    (x y : SV) (hx : Rd 14 w x (cnv (cs.take a))) (hxl : x.len ≤ 12) (hy : Rd 14 w y (cnv (cs.drop b))) (hyl : y.len ≤ 12) (hK : ∀ s w', Cns w' s (cs.take a ++ cs.drop b) → Keeps [] w w' → K s w') :
    M.new (.cells #[] 37) w fun b w' => M.app Try.prog 24 24 24 (SV.mk (some b) 0 0) x.v w' fun s w' => M.app Try.prog 24 24 24 s y.v w' K := by
  refine new0_k (sz := 14) (Keeps.refl _ _) fun b3 w3 g1 g2 hb3 o3 k3 k03 => app_k cSl cEl k03 hb3 o3 (hx.keep k03 (by simp)) (cnv_one _) (by simp only []; omega) fun s4 w4 o4 n4 f4 _ k04 => app_k cSl cEl k04 f4 o4 (hy.keep k04 (by simp)) (cnv_one _) (by simp only [n4]; omega) fun s5 w5 o5 n5 f5 _ k05 => hK s5 w5 ⟨by rw [cnv_app]; exact o5.rd, fun c hm => ?_⟩ k05
  rcases List.mem_append.1 hm with h | h
  · exact (hc.2 c (List.mem_of_mem_take h)).new k05
  · exact (hc.2 c (List.mem_of_mem_drop h)).new k05
theorem cnv_take (l : List Cn) (i : Nat) : (cnv l).take (i * 14) = cnv (l.take i) := by
  have h := List.take_append_drop i l
  have h2 : cnv l = cnv (l.take i) ++ cnv (l.drop i) := by rw [← cnv_app, h]
  by_cases hi : i ≤ l.length
  · rw [h2, List.take_append_of_le_length (by rw [cnv_len]; simp; omega), List.take_of_length_le (by rw [cnv_len]; simp; omega)]
  · rw [List.take_of_length_le (by rw [cnv_len]; omega), List.take_of_length_le (by omega)]
theorem sub_drop {w : World} {s : SV} {cs : List Cn} (h : Cns w s cs) {i : Nat} (hi : i ≤ cs.length) : Rd 14 w (s.sub i s.len 14) (cnv (cs.drop i)) := by
  have hl := h.len
  have := h.1.sub (l := i) (u := s.len) (by omega) (by omega)
  rw [cnv_drop, cnv_take, List.take_of_length_le (by simp; omega)] at this
  exact this
theorem sub_take {w : World} {s : SV} {cs : List Cn} (h : Cns w s cs) {i : Nat} (hi : i ≤ cs.length) : Rd 14 w (s.sub 0 i 14) (cnv (cs.take i)) := by
  have hl := h.len
  have := h.1.sub (l := 0) (u := i) (by omega) (by omega)
  rw [Nat.zero_mul, List.drop_zero, Nat.sub_zero, cnv_take] at this
  exact this
theorem cid_at {w : World} {s : SV} {cs : List Cn} (h : Cns w s cs) {a : Addr} (ha : s.a = some a) {i : Nat} {c : Cn} (hc : cs[i]? = some c) : w.cell? ((a.add (i * 14)).add 1) = some (.int .u32 c.id) := by
  have := (h.at ha hc).get 1 (v := .int .u32 c.id) rfl
  rwa [Nat.zero_add] at this
theorem vws_some {cs : List Cn} {n : Nat} {v : Vw} (h : (Cn.vws cs)[n]? = some v) : ∃ c, cs[n]? = some c ∧ c.vw = v := by
  simp [Cn.vws] at h
  obtain ⟨c, h1, h2⟩ := h
  exact ⟨c, h1, h2⟩
theorem known_aft {W w : World} (ha : Aft W w) {J : Bool → World → Prop} (hJ : ∀ w', Aft W w' → J true w') : Calls Try.prog 11 #[] w (R11 J) := known_c.mono fun e w' g => by
  obtain ⟨r, rfl, rfl, k⟩ := g
  exact ⟨_, rfl, hJ _ (ha.new k)⟩
theorem rules_c {W : World} {s : SV} {l : List Cn} {p1 : Int} (hl : l.length = s.len) (hp : ∀ i x, l[i]? = some x → RawAt W s i x) :
    Calls Try.prog 4 #[s.v, .int .i64 p1] W (R4 fun r w' => r = true ∧ Below W.heap.size W w') := by
  refine F4_ok ((cands_c (Aft.refl W) hl hp true).mono fun e w1 g => ?_)
  obtain ⟨r1, rfl, cs0, o1, n1, s1, f1, w1', k1⟩ := g
  refine ⟨_, rfl, ids_loop (cs := cs0) ⟨o1, s1⟩ (by omega) fun w5 cs oc hcl hid k15 => ?_⟩
  have a1 := (Aft.refl W).new k1
  have a5 : Aft W w5 := a1.step k15 f1
  have hc5 := oc.cns
  have hn12 : cs.length ≤ 12 := by omega
  have hok : ∀ c ∈ cs, OkD c := fun c h => (oc.2 c h).1
  have hok1 : ∀ c ∈ cs, OkC c := fun c h => (hok c h).1
  have hv := okV hok
  have hids := ids_of hid
  have hrl := hc5.len
  refine (left_c hc5 hok1 (by omega) 0).mono fun e w6 g => ?_
  obtain ⟨r6, rfl, h6, k6⟩ := g
  have e0 : stepsN 0 = 0 := rfl
  rw [e0] at h6
  have hl6 := iv_len h6
  rw [pl_len, leftA, List.length_range, vws_len] at hl6
  refine ⟨_, rfl, M.ite_n (by simp; omega) ?_⟩
  refine M.loop2_by (fun o x w' => ∃ k : Nat, x = (k : Int) + 1 ∧ k ≤ 7 ∧ Rd 1 w' o (iv (pl (leftA (Cn.vws cs) k))) ∧ Keeps [] w5 w') (fun _ x _ => (8 - x).toNat)
    ⟨0, rfl, by omega, h6, k6⟩ ?_
  rintro o x w7 J7 ⟨k, rfl, hk, o7, k57⟩ hJ7
  have hc7 := hc5.new k57
  have hol := iv_len o7
  rw [pl_len] at hol
  have hll := leftA_len (Cn.vws cs) k
  rw [vws_len] at hll
  refine M.ite_by (fun c => ?_) (fun c => ?_)
  · have c := of_decide_eq_true c
    refine (left_c hc7 hok1 (by omega) _).mono fun e w8 g => ?_
    obtain ⟨r8, rfl, h8, k8⟩ := g
    have e8 : stepsN ((k : Int) + 1) = k + 1 := by unfold stepsN; omega
    rw [e8] at h8
    have hl8 := iv_len h8
    rw [pl_len] at hl8
    have hsub : (leftA (Cn.vws cs) (k + 1)).Sublist (leftA (Cn.vws cs) k) := siftA_sub _ _ _
    have hne : cs ≠ [] → leftA (Cn.vws cs) (k + 1) ≠ [] := fun h => leftA_ne hv (by intro h2; have := congrArg List.length h2; rw [vws_len] at this; simp at this; exact h this) _
    have h7 : k + 1 = 7 → (leftA (Cn.vws cs) (k + 1)).length ≤ 1 := fun h => by rw [h]; exact siftA_7 _
    have hlen8 := leftA_len (Cn.vws cs) (k + 1)
    rw [vws_len] at hlen8
    have o8 := o7.keep k8 (by simp)
    have k58 := k57.trans k8 (by simp)
    generalize hla : leftA (Cn.vws cs) k = la at *
    generalize hlb : leftA (Cn.vws cs) (k + 1) = lb at *
    refine ⟨_, rfl, M.join_by (fun (J : Bool → World → Prop) => J false w8) (M.ite_ff ?_) fun J9 hJ9 => ?_⟩
    rotate_left
    · have f7 : ∀ {T : Prop}, J9 false w8 → M.ite (((k : Int) + 1) == (7 : Int)) (J9 (decide ((1 : Int) < (r8.len : Int))) w8) (J9 false w8) := fun {T} h => M.ite_by (fun c7 => by
          have c7 : k + 1 = 7 := by simp at c7; omega
          rw [decide_eq_false (by have := h7 c7; omega)]; exact h) (fun _ => h)
      refine M.ite_by (fun c0 => M.ite_n ?_ (f7 (T := True) hJ9)) (fun _ => f7 (T := True) hJ9)
      have c0 := of_decide_eq_true c0
      have : lb ≠ [] := hne (by intro h; subst h; simp at hrl; omega)
      have : lb.length ≠ 0 := fun h => this (List.eq_nil_of_length_eq_zero h)
      simp; omega
    · refine M.loop2_by (fun x y w' => ∃ p i : Nat, x = p ∧ y = i ∧ p ≤ la.length ∧ i ≤ lb.length ∧ (lb.drop i).Sublist (la.drop p) ∧ Keeps [] w8 w') (fun _ y _ => lb.length - y.toNat)
        ⟨0, 0, rfl, rfl, by omega, by omega, by simpa using hsub, Keeps.refl _ _⟩ ?_
      rintro x y w9 J10 ⟨p, i, rfl, rfl, hpl, hil, hs9, k9⟩ hJ10
      refine M.ite_by (fun c => ?_) (fun c => ?_)
      · have c := of_decide_eq_true c
        have il : i < lb.length := by omega
        have ei := List.getElem?_eq_getElem il
        have hdi : lb.drop i = lb[i] :: lb.drop (i + 1) := List.drop_eq_getElem_cons il
        refine M.loop1_by (fun x w' => ∃ p : Nat, x = p ∧ p ≤ la.length ∧ (lb.drop i).Sublist (la.drop p) ∧ Keeps [] w8 w') (fun x _ => la.length + 1 - x.toNat) ⟨p, rfl, hpl, hs9, k9⟩ ?_
        rintro x w10 J11 ⟨p, rfl, hpl, hs10, k10⟩ hJ11
        have kd := Keeps.drew [] w10
        have k11 := k10.trans kd (by simp)
        have o11 := o8.keep k11 (by simp)
        have h11 := h8.keep k11 (by simp)
        have plt : p < la.length := by
          refine Classical.byContradiction fun h => ?_
          have : la.drop p = [] := List.drop_eq_nil_of_le (by omega)
          rw [this, hdi] at hs10
          cases hs10
        have ep := List.getElem?_eq_getElem plt
        have hdp : la.drop p = la[p] :: la.drop (p + 1) := List.drop_eq_getElem_cons plt
        obtain ⟨ax, hax⟩ := o11.some (by omega)
        obtain ⟨ay, hay⟩ := h11.some (by omega)
        refine M.join_by (fun (J : Bool → World → Prop) => J (decide (la[p] ≠ lb[i])) w10.drew) (M.ite_by (fun c3 => ?_) (fun c3 => ?_)) fun J12 hJ12 => M.drew_by (M.ite_y (decide_eq_true (by omega)) ⟨ax, hax, by omega, by omega, ay, hay, by omega, by omega, _, iv_at o11 hax (pl_at ep), _, iv_at h11 hay (pl_at ei), ?_⟩)
        · have c3 := of_decide_eq_true c3
          rw [w64 (by omega) (by omega)]
          refine hJ11 _ _ ⟨p + 1, by omega, by omega, ?_, k11⟩ (by omega)
          rw [hdp, hdi] at hs10
          rw [hdi]
          exact sub_skip hs10 c3
        · refine M.ite_n (by simp; omega) ?_
          rw [w64 (by omega) (by omega)]
          refine hJ10 _ _ _ ⟨p, i + 1, rfl, by omega, hpl, by omega, ?_, k11⟩ (by omega)
          rw [hdi] at hs10
          exact (List.sublist_cons_self _ _).trans hs10
        · have : (((la[p] : Nat) : Int) != ((lb[i] : Nat) : Int)) = decide (la[p] ≠ lb[i]) := by
            exact nat_bne _ _
          dsimp only
          rw [this]; exact hJ12
      · rw [w64 (by omega) (by omega)]
        exact hJ7 _ _ _ ⟨k + 1, by omega, by omega, by rw [hlb]; exact h8.keep k9 (by simp), k58.trans k9 (by simp)⟩ (by omega)
  · have c := of_decide_eq_false c
    obtain rfl : k = 7 := by omega
    refine (best_c hc7 hok (by omega)).mono fun e w8 g => ?_
    obtain ⟨x8, y8, rfl, h8, k8⟩ := g
    have a8 : Aft W w8 := (a5.new k57).new k8
    have k58 := k57.trans k8 (by simp)
    by_cases hcs : cs = []
    · subst hcs
      have hb : bestA (Cn.vws []) = (0, false) := by decide +kernel
      rw [hb] at h8
      cases h8
      refine ⟨_, _, rfl, M.ite_tt (M.join_by (fun (J : Bool → World → Prop) => ∀ w', Aft W w' → J true w') (fun w' h => ⟨rfl, h.1⟩) fun J hJ => M.ite_y (by simp at hrl; simp [hrl]) (known_aft a8 hJ))⟩
    · have hvn : Cn.vws cs ≠ [] := by intro h2; have := congrArg List.length h2; rw [vws_len] at this; simp at this; exact hcs this
      have hlen : 0 < cs.length := List.length_pos_iff.2 hcs
      obtain ⟨n, v, hR, hA, hB, hnv, hsv, huniq⟩ := one_left hv hvn hids
      rw [hB] at h8
      cases h8
      refine ⟨_, _, rfl, M.ite_ff ?_⟩
      rw [w64 (by omega) (by omega)]
      refine (within_c p1 0 ((r1.len : Int) - 1) (by omega) (by omega) (by omega)).mono fun e w9 g => ?_
      obtain ⟨r9, rfl, _, hr90, hr91, rfl⟩ := g
      obtain ⟨m, rfl⟩ := Int.eq_ofNat_of_zero_le hr90
      have kd := Keeps.drew [] w9
      have hc9 := (hc7.new k8).new kd
      have hcap := hc9.1.cap
      have hm : m ≤ cs.length := by omega
      refine ⟨_, rfl, M.drew_by ⟨by omega, by omega, by omega, by omega, by omega, by omega, parts_k (a := m) (b := m) hc9 hn12 hm hm _ _ (sub_drop hc9 hm) (by show r1.len - m ≤ 12; omega) (sub_take hc9 hm) (by show m - 0 ≤ 12; omega) fun s10 w10 h10 k10 => ?_⟩⟩
      have hmem : ∀ c, c ∈ cs.drop m ++ cs.take m ↔ c ∈ cs := by
        intro c
        rw [List.mem_append, Or.comm, ← List.mem_append, List.take_append_drop]
      have hokd : ∀ c ∈ cs.drop m ++ cs.take m, OkD c := fun c h => hok c ((hmem c).1 h)
      have hld : (cs.drop m ++ cs.take m).length = cs.length := by simp; omega
      have hwn : Cn.vws (cs.drop m ++ cs.take m) ≠ [] := by
        intro h2
        have := congrArg List.length h2
        rw [vws_len, hld] at this
        simp at this
        exact hcs this
      obtain ⟨n', m', v', hb1, hb2, hv1, hv2⟩ := best_same hv (okV hokd) hvn hwn hids (rotated hids) (fun v => Sv_from (j := 0) (fun v => by
        show v ∈ Cn.vws cs ↔ v ∈ Cn.vws (cs.drop m ++ cs.take m)
        unfold Cn.vws
        rw [List.mem_map, List.mem_map]
        constructor
        · rintro ⟨c, h, e⟩; exact ⟨c, (hmem c).2 h, e⟩
        · rintro ⟨c, h, e⟩; exact ⟨c, (hmem c).1 h, e⟩) 7 (by omega) v)
      rw [hB] at hb1
      have hn' : n' = n := by
        have := congrArg Prod.fst hb1
        simp at this; omega
      subst hn'
      refine (best_c h10 hokd (by omega)).mono fun e w11 g => ?_
      obtain ⟨x11, y11, rfl, h11, k11⟩ := g
      rw [hb2] at h11
      cases h11
      have kd11 := Keeps.drew [] w11
      have k811 := ((kd.trans k10 (by simp)).trans k11 (by simp)).trans kd11 (by simp)
      have k7_11 := k8.trans k811 (by simp)
      have a11 := a8.new k811
      have o11 := o7.keep k7_11 (by simp)
      have hc11 := hc7.new k7_11
      have hd11 := (h10.new k11).new kd11
      rw [hA] at o11 hol
      simp at hol
      obtain ⟨ax, hax⟩ := o11.some (by omega)
      obtain ⟨ad, had⟩ := hd11.1.some (by have := hd11.len; omega)
      obtain ⟨ac, hac⟩ := hc11.1.some (by omega)
      obtain ⟨c1, hc1, hcv1⟩ := vws_some hv1
      obtain ⟨c2, hc2, hcv2⟩ := vws_some hv2
      have hl1 := (List.getElem?_eq_some_iff.1 hc1).1
      have hl2 := (List.getElem?_eq_some_iff.1 hc2).1
      have hid12 : c2.id = c1.id := by
        have : c2.vw.id = c1.vw.id := by rw [hcv1, hcv2]
        exact this
      refine ⟨_, _, rfl, M.join_by (fun (J : Bool → World → Prop) => ∀ w', Aft W w' → J true w') (fun w' h => ⟨rfl, h.1⟩) fun J hJ => M.drew_by (M.ite_tt ⟨ax, hax, by omega, by omega, _, iv_at o11 hax (i := 0) (x := (n' : Int)) rfl, M.ite_y (by simp) ⟨ad, had, by omega, by have := hd11.len; omega, ac, hac, by omega, by omega, _, cid_at hd11 had hc2, _, cid_at hc11 hac hc1, M.ite_y (by simp [hid12]) (known_aft a11 hJ)⟩⟩)⟩
theorem rules_law (W : World) (args : List Value) (h : GdArgs W [(false, .cons (.slice rawSh) .nil), (false, .cons (.int .i64) .nil)] args) : Calls Try.prog 4 args.toArray W fun e W' => e = .returned (.bool true) ∧ Below W.heap.size W W' := by
  obtain ⟨v0, r, rfl, h0, h⟩ := h.one
  obtain ⟨v1, r, rfl, h1, h⟩ := h.one
  cases h
  obtain ⟨s, l, rfl, hl, hm, hp⟩ := good_raws h0
  obtain ⟨n1, rfl, _⟩ := good_int h1
  exact (rules_c hl hp).mono fun e w' ⟨b, he, hb, hw⟩ => by subst hb; exact ⟨he, hw⟩
end Go.Proofs.Ytmgigplbclkpaaa
