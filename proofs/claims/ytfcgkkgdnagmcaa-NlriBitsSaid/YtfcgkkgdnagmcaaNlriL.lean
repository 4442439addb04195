/-
  What the laws of package nlri share.
-/
import Derived.Test.YtfcgkkgdnagmcaaNlriC
namespace Go.Proofs.Ytfcgkkgdnagmcaa
set_option linter.unusedVariables false
set_option linter.unusedSimpArgs false
open Go.Sp
open Go.RowKit (Below)

theorem prefixes_c {w : World} {s0 s1 : SV} {zs ns : List Int} (h0 : Rd 1 w s0 (zs.map (Value.int .u32))) (hz : ∀ z ∈ zs, 0 ≤ z ∧ z < 4294967296) (h1 : Rd 1 w s1 (ns.map (Value.int .i64))) :
    Calls Try.prog 11 #[s0.v, s1.v] w (R11 fun r w' => ∃ l : List (Nat × Int), Own 24 2 w' r (pvs l) ∧ l.length ≤ 40 ∧ (∀ x ∈ l, x.1 < 4294967296) ∧ (∀ x ∈ r.blk, w.heap.size ≤ x) ∧ Keeps [] w w') := by
  have l0 := h0.len
  have l1 := h1.len
  rw [List.length_map, Nat.mul_one] at l0 l1
  refine F11_ok ?_
  refine M.loop2_by (fun o y w' => ∃ (i : Nat) (l : List (Nat × Int)), y = i ∧ l.length = i ∧ i ≤ 40 ∧ Own 24 2 w' o (pvs l) ∧ (∀ x ∈ l, x.1 < 4294967296) ∧ (∀ x ∈ o.blk, w.heap.size ≤ x) ∧ Keeps [] w w') (fun _ y _ => (40 - y).toNat)
    ⟨0, [], rfl, rfl, by omega, Own.nil _ _ _, by simp, by simp [SV.blk], Keeps.refl _ _⟩ ?_
  rintro o y w2 J ⟨i, l, rfl, hl, hi, ho, hlt, hob, hk⟩ hJ
  refine M.join_lt3 (fun c1 c2 c3 => ?_) (fun hend => ?_)
  · have i0 : i < zs.length := by omega
    have i1 : i < ns.length := by omega
    obtain ⟨a, ha⟩ := h0.some (by omega)
    obtain ⟨b, hb⟩ := h1.some (by omega)
    have kd := Keeps.drew [] w2
    have hk2 := hk.trans kd (by simp)
    have e0 := (h0.keep hk2 (by simp)).at ha (i := i) (v := .int .u32 zs[i]) (by simp [List.getElem?_eq_getElem i0])
    have e1 := (h1.keep hk2 (by simp)).at hb (i := i) (v := .int .i64 ns[i]) (by simp [List.getElem?_eq_getElem i1])
    have hz' := hz zs[i] (List.getElem_mem i0)
    generalize zs[i] = z at *
    generalize ns[i] = n at *
    obtain ⟨z, rfl⟩ := Int.eq_ofNat_of_zero_le hz'.1
    obtain ⟨r3, w3, v1, v2, v3, v4⟩ := app_p (z, n) (ho.keep kd (by simp)) (by omega)
    refine M.drew_by ⟨a, ha, by omega, c1, b, hb, by omega, c2, _, by simpa using e0, _, by simpa using e1, M.new_by ⟨r3, w3, v1, ?_⟩⟩
    rw [w64 (by omega) (by omega)]
    refine hJ _ _ _ ⟨i + 1, l ++ [(z, n)], by omega, by simp [hl], by omega, v2, ?_, fun y hy => ?_, hk2.trans v3 (fun y hy => .inr (hob y hy))⟩ (by omega)
    · intro x hx
      rcases List.mem_append.1 hx with h | h
      · exact hlt x h
      · simp at h; subst h; show z < _; omega
    · rcases v4 y hy with h | h
      · exact hob y h
      · have := hk2.size; omega
  · exact ⟨l, ho, by omega, hlt, hob, hk⟩
theorem rightP_top {a k : Nat} (hk : k ≤ 32) : rightP (topN a k) (k : Int) = true := by
  rw [rightP_iff]
  refine ⟨by omega, by omega, ?_⟩
  rw [Int.toNat_natCast]; exact lowN_top a k
theorem tame_c {w : World} {s : SV} {l : List (Nat × Int)} (h : Rd 2 w s (pvs l)) (hlt : ∀ x ∈ l, x.1 < 4294967296) (hb : l.length ≤ 1000000) :
    Calls Try.prog 12 #[s.v] w (R12 fun r w' => ∃ m : List (Nat × Int), Own 24 2 w' r (pvs m) ∧ m.length = l.length ∧ (∀ x ∈ m, x.1 < 4294967296 ∧ rightP x.1 x.2 = true) ∧ (∀ x ∈ r.blk, w.heap.size ≤ x) ∧ Keeps [] w w') := by
  have hl := pf_len h
  refine F12_ok ?_
  refine M.loop2_by (fun o y w' => ∃ (i : Nat) (m : List (Nat × Int)), y = i ∧ m.length = i ∧ i ≤ l.length ∧ Own 24 2 w' o (pvs m) ∧ (∀ x ∈ m, x.1 < 4294967296 ∧ rightP x.1 x.2 = true) ∧ (∀ x ∈ o.blk, w.heap.size ≤ x) ∧ Keeps [] w w') (fun _ y _ => l.length - y.toNat)
    ⟨0, [], rfl, rfl, by omega, Own.nil _ _ _, by simp, by simp [SV.blk], Keeps.refl _ _⟩ ?_
  rintro o y w2 J ⟨i, m, rfl, hm, hi, ho, hmt, hob, hk⟩ hJ
  refine M.ite_by (fun c => ?_) (fun c => ?_)
  · have c := of_decide_eq_true c
    have il : i < l.length := by omega
    obtain ⟨a, ha⟩ := h.some (by omega)
    have kd := Keeps.drew [] w2
    have hk2 := hk.trans kd (by simp)
    have e1 := pf_at (h.keep hk2 (by simp)) ha (List.getElem?_eq_getElem il)
    refine M.drew_by ⟨a, ha, by omega, c, a, ha, by omega, c, _, e1.1, _, e1.2, (any_c (hlt _ (List.getElem_mem il)) _).mono fun e w3 g => ?_⟩
    obtain ⟨x3, y3, rfl, k, hk32, _, rfl, rfl, k3⟩ := g
    obtain ⟨r4, w4, v1, v2, v3, v4⟩ := app_p (topN l[i].1 k, (k : Int)) ((ho.keep kd (by simp)).keep k3 (by simp)) (by omega)
    refine ⟨_, _, rfl, M.new_by ⟨r4, w4, v1, ?_⟩⟩
    rw [w64 (by omega) (by omega)]
    have hk3 := hk2.trans k3 (by simp)
    refine hJ _ _ _ ⟨i + 1, _, by omega, by simp [hm], by omega, v2, ?_, fun y hy => ?_, hk3.trans v3 (fun y hy => .inr (hob y hy))⟩ (by omega)
    · intro x hx
      rcases List.mem_append.1 hx with h | h
      · exact hmt x h
      · simp at h; subst h
        exact ⟨topN_lt (hlt _ (List.getElem_mem il)), rightP_top hk32⟩
    · rcases v4 y hy with h | h
      · exact hob y h
      · have := hk3.size; omega
  · have c := of_decide_eq_false c
    exact ⟨m, ho, by omega, hmt, hob, hk⟩
theorem read_c {w : World} {s : SV} {bs : List UInt8} (hs : Rd 1 w s (bv bs)) (hb : bs.length ≤ 1000000) :
    Calls Try.prog 9 #[s.v] w (R9 fun r w' => r = true ∧ Keeps [] w w') := by
  refine F9_ok ((dec_c hs hb).mono fun e w1 g => ?_)
  obtain ⟨r1, ok1, rfl, h1, k1⟩ := g
  refine ⟨_, _, rfl, (rdec_c (hs.keep k1 (by simp)) hb).mono fun e w2 g => ?_⟩
  obtain ⟨r2, ok2, rfl, h2, k2⟩ := g
  have k02 := k1.trans k2 (by simp)
  refine ⟨_, _, rfl, M.join_by (fun J => ∀ w, Keeps [] w2 w → J true w) (fun w k => ⟨rfl, k02.trans k (by simp)⟩) fun J hJ => ?_⟩
  have hlen : ∀ l, decB bs = some l → l.length ≤ 1000000 := by
    have key : ∀ n : Nat, ∀ bs : List UInt8, bs.length ≤ n → ∀ l, decB bs = some l → l.length ≤ n := by
      intro n
      induction n with
      | zero =>
        intro bs h l hd
        obtain rfl := List.eq_nil_of_length_eq_zero (Nat.le_zero.1 h)
        rw [decB_nil] at hd; cases hd; simp
      | succ n ih =>
        intro bs h l hd
        cases bs with
        | nil => rw [decB_nil] at hd; cases hd; simp
        | cons x rest =>
          rw [decB_cons] at hd
          split at hd
          · cases hd
          split at hd
          · cases hd
          · obtain ⟨l', h', rfl⟩ := Option.map_eq_some_iff.1 hd
            have := ih _ (by rw [List.length_drop]; simp at h; omega) _ h'
            simp; omega
    exact key 1000000 bs hb
  cases hd : decB bs with
  | none =>
    rw [hd] at h1 h2
    obtain ⟨rfl, rfl⟩ := h1
    obtain ⟨rfl, rfl⟩ := h2
    refine (samep_c (l := []) (m := []) (Rd.nil 2 w2) (Rd.nil 2 w2) (by simp)).mono fun e w3 g => ?_
    obtain ⟨r3, rfl, rfl, k3⟩ := g
    exact ⟨_, rfl, M.ite_y (by simp) (hJ _ k3)⟩
  | some l =>
    rw [hd] at h1 h2
    obtain ⟨rfl, o1, _⟩ := h1
    obtain ⟨rfl, o2, _⟩ := h2
    refine (samep_c (o1.keep k2 (by simp)).rd o2.rd (by have := hlen l hd; omega)).mono fun e w3 g => ?_
    obtain ⟨r3, rfl, rfl, k3⟩ := g
    exact ⟨_, rfl, M.ite_y (by simp) (hJ _ k3)⟩
theorem same_c {w : World} {s : SV} {l : List (Nat × Int)} (h : Rd 2 w s (pvs l)) (hlt : ∀ x ∈ l, x.1 < 4294967296) (hb : l.length ≤ 1000000) :
    Calls Try.prog 8 #[s.v] w (R8 fun r w' => r = true ∧ Keeps [] w w') := by
  have hl := pf_len h
  refine F8_ok ((enc_c h hlt (by omega)).mono fun e w1 g => ?_)
  obtain ⟨r1, e1, rfl, h1, h1', k1⟩ := g
  refine ⟨_, _, rfl, (renc_c (h.keep k1 (by simp)) hlt (by omega)).mono fun e w2 g => ?_⟩
  obtain ⟨r2, ok2, rfl, h2, h2', k2⟩ := g
  have k02 := k1.trans k2 (by simp)
  refine ⟨_, _, rfl, ?_⟩
  refine M.loop1_by (fun y w' => ∃ i : Nat, y = i ∧ i ≤ l.length ∧ Keeps [] w2 w') (fun y _ => l.length - y.toNat) ⟨0, rfl, by omega, Keeps.refl _ _⟩ ?_
  rintro y w3 J ⟨i, rfl, hi, hk⟩ hJ
  refine M.ite_by (fun c => ?_) (fun c => ?_)
  · have c := of_decide_eq_true c
    have il : i < l.length := by omega
    obtain ⟨a, ha⟩ := h.some (by omega)
    have kd := Keeps.drew [] w3
    have hk3 := hk.trans kd (by simp)
    have at_ : ∀ {wx : World}, Keeps [] w2 wx → _ := fun {wx} k => pf_at (h.keep (k02.trans k (by simp)) (by simp)) ha (List.getElem?_eq_getElem il)
    have hx := hlt _ (List.getElem_mem il)
    refine M.drew_by ⟨a, ha, by omega, c, a, ha, by omega, c, _, (at_ hk3).1, _, (at_ hk3).2, _, (at_ hk3).1, _, (at_ hk3).2, (size_c hx).mono fun e w4 g => ?_⟩
    obtain ⟨r4, rfl, rfl, k4⟩ := g
    have hk4 := hk3.trans k4 (by simp)
    refine ⟨_, rfl, (at_ hk4).1, (at_ hk4).2, (rsize_c hx).mono fun e w5 g => ?_⟩
    obtain ⟨r5, rfl, rfl, k5⟩ := g
    refine ⟨_, rfl, M.ite_n (by simp) ?_⟩
    rw [w64 (by omega) (by omega)]
    exact hJ _ _ ⟨i + 1, by omega, by omega, hk4.trans k5 (by simp)⟩ (by omega)
  · refine M.join_by (fun J => J true w3) ⟨rfl, k02.trans hk (by simp)⟩ fun J2 hJ2 => ?_
    by_cases hR : ∀ x ∈ l, rightP x.1 x.2 = true
    · obtain ⟨rfl, o1, _⟩ := h1 hR
      obtain ⟨rfl, o2, _⟩ := h2 hR
      exact ⟨_, b2s_c ((o1.keep k2 (by simp)).keep hk (by simp)).rd, _, b2s_c (o2.keep hk (by simp)).rd, M.ite_y (by simp) (M.ite_y rfl (M.ite_tt hJ2))⟩
    · obtain ⟨rfl, rfl⟩ := h1' hR
      obtain ⟨rfl, rfl⟩ := h2' hR
      exact ⟨_, b2s_c (bs := []) (Rd.nil _ _), _, b2s_c (bs := []) (Rd.nil _ _), M.ite_y (by simp) (M.ite_y rfl (M.ite_ff hJ2))⟩
theorem known_c {w : World} : Calls Try.prog 10 #[] w (R10 fun r w' => r = true ∧ Keeps [] w w') := by
  refine F10_ok (M.new_by ?_)
  have kal := Keeps.alloc [] w (.cells (pvs [(167772160, 8), (0, 0)]).toArray 24)
  have hr : Rd 2 (w.alloc (.cells (pvs [(167772160, 8), (0, 0)]).toArray 24)) (SV.mk (some ⟨w.heap.size, 0, none⟩) 2 2) (pvs [(167772160, 8), (0, 0)]) := (Own.new w 24 2 2 _ rfl (by decide)).rd
  refine (enc_c hr (by decide) (by simp)).mono fun e w1 g => ?_
  obtain ⟨r1, e1, rfl, h1, _, k1⟩ := g
  obtain ⟨rfl, o1, _⟩ := h1 (by decide +kernel)
  have k01 := kal.trans k1 (by simp)
  refine ⟨_, _, rfl, M.new_by ?_⟩
  have kal2 := Keeps.alloc [] w1 (.cells (bv [8, 10]).toArray 5)
  refine (dec_c (new_b w1 [8, 10] (by simp)) (by simp)).mono fun e w2 g => ?_
  obtain ⟨r2, ok2, rfl, h2, k2⟩ := g
  have hd2 : decB [8, 10] = some [(167772160, 8)] := by
    rw [decB_cons, if_neg (by decide), if_neg (by decide)]
    show (decB []).map _ = _
    rw [decB_nil]
    decide +kernel
  rw [hd2] at h2
  obtain ⟨rfl, o2, _⟩ := h2
  have k12 := kal2.trans k2 (by simp)
  refine ⟨_, _, rfl, M.new_by ?_⟩
  have kal3 := Keeps.alloc [] w2 (.cells (bv [33, 1, 2, 3, 4, 5]).toArray 5)
  refine (dec_c (new_b w2 [33, 1, 2, 3, 4, 5] (by simp)) (by simp)).mono fun e w3 g => ?_
  obtain ⟨r3, ok3, rfl, h3, k3⟩ := g
  have hd3 : decB [33, 1, 2, 3, 4, 5] = none := by
    rw [decB_cons, if_pos (by decide)]
  rw [hd3] at h3
  obtain ⟨rfl, rfl⟩ := h3
  have k23 := kal3.trans k3 (by simp)
  have k13 := k12.trans k23 (by simp)
  have o2' := o2.keep k23 (by simp)
  have hl2 := pf_len o2'.rd
  refine ⟨_, _, rfl, M.join_by (fun J => J true w3) ⟨rfl, k01.trans k13 (by simp)⟩ fun J hJ => ?_⟩
  have hs : (baOf (encB [(167772160, 8), (0, 0)])).toList == str0.toList := by decide +kernel
  obtain ⟨a, ha⟩ := o2'.rd.some (by rw [hl2]; simp)
  have e := pf_at o2'.rd ha (i := 0) rfl
  exact ⟨_, b2s_c (o1.keep k13 (by simp)).rd, M.ite_y hs (M.ite_y rfl (M.ite_tt (M.ite_y (by rw [hl2]; rfl) ⟨a, ha, by omega, by rw [hl2]; simp, _, e.1, _, e.2, M.ite_y rfl hJ⟩)))⟩
end Go.Proofs.Ytfcgkkgdnagmcaa
