/-
  TrieParts: what is below a prefix is below one of its halves, or it itself; above and below are one relation.
-/
import Derived.Test.YtjjjomeemfmihaaTriePartsC
namespace Go.Proofs.Ytjjjomeemfmihaa
set_option linter.unusedVariables false
set_option linter.unusedSimpArgs false
open Go.Sp
open Go.RowKit (Below)

/-- The table that asks' prefixes make. -/
theorem parts_c {W : World} {s : SV} {l : List (Int × Int × Int × Nat × Bool)} (q0 q1 q2 q3 : Int) (q4 : Bool) (hl : l.length = s.len) (hm : s.len ≤ maxLen) (hp : ∀ i x, l[i]? = some x → AskAt W s i x) :
    Calls Try.prog 5 #[s.v, .agg #[.int .i64 q0, .int .i64 q1, .int .i64 q2, .int .u32 q3, .bool q4]] W (R5 fun r w' => r = true ∧ Below W.heap.size W w') := by
  unfold maxLen at hm
  refine F5_ok (M.new_blk fun b2 w0 hb2 B2 k0 => tnew_c.mono fun e w1 g => ?_)
  obtain ⟨r, rfl, p, rfl, h1, k1, hpB⟩ := g
  have hb2lt := B2.lt
  have a1 := ((Aft.refl W).new k0).new k1
  have hk0 := k0.size
  refine ⟨_, rfl, M.ite_n rfl ?_⟩
  refine M.loop1_by (fun x w => ∃ (i : Nat) (D : List Nat) (L : Tbl), x = i ∧ i ≤ 60 ∧ Aft W w ∧ L.length ≤ i ∧ TrieAt w D p L ∧ (∀ y ∈ D, w0.heap.size ≤ y) ∧ w0.heap.size ≤ w.heap.size ∧ w.cell? ((⟨b2, 0, none⟩ : Addr).add 3) = some (.int .u32 q3) ∧ w.cell? ((⟨b2, 0, none⟩ : Addr).add 1) = some (.int .i64 q1)) (fun x _ => (60 - x).toNat)
    ⟨0, [p], [], rfl, by omega, a1, by simp, h1, by intro y hy; simp at hy; omega, k1.size, (B2.keep k1 (by simp)).cell 3, (B2.keep k1 (by simp)).cell 1⟩ ?_
  rintro x w J ⟨i, D, L, rfl, hi, ha, hLi, hT, hDB, hw0, hc3, hc1⟩ hJ
  have hDW : ∀ y ∈ D, W.heap.size ≤ y := fun y hy => Nat.le_trans hk0 (hDB y hy)
  refine M.join_lt (fun hx1 hx2 => ?_) (fun hend => ?_)
  · have hil : i < l.length := by omega
    obtain ⟨a, hsa, hau, hat⟩ := hp i l[i] (List.getElem?_eq_getElem hil)
    have kd := Keeps.drew [] w
    have ad := ha.new kd
    obtain ⟨c0, c1, c2, c3, c4⟩ := hat _ ad.1
    refine M.drew_by ⟨a, hsa, by omega, hx1, a, hsa, by omega, hx1, _, c3, _, c1, (kprefix_c _ _).mono fun e w2 g => ?_⟩
    obtain ⟨x2, y2, rfl, rfl, rfl, k2⟩ := g
    have k12 := kd.trans k2 (by simp)
    refine ⟨_, _, rfl, (put_c (hT.keep k12 (by simp)) (kp_lt _ _) _ _ (by omega)).mono fun e w3 g => ?_⟩
    obtain ⟨r3, rfl, _, D3, h3, k3, f3⟩ := g
    rw [kp_right, if_pos rfl] at h3
    have a2 := ha.new k12
    have hb2D : (⟨b2, 0, none⟩ : Addr).block ∉ D := fun hx => by have := hDB _ hx; simp at this; omega
    refine ⟨_, rfl, ?_⟩
    rw [w64 (by omega) (by omega)]
    refine hJ _ _ ⟨i + 1, D3, _, by omega, by omega, a2.step k3 hDW, ?_, h3, fun y hy => ?_, ?_, ?_, ?_⟩ (by omega)
    · exact Nat.le_trans (tput_len_le L _ _) (by omega)
    · rcases f3 y hy with h | h
      · exact hDB y h
      · have := k12.size; omega
    · have := k12.size; have := k3.size; omega
    · exact k3.cell (k12.cell hc3 (by simp)) (by rw [add_block]; exact hb2D)
    · exact k3.cell (k12.cell hc1 (by simp)) (by rw [add_block]; exact hb2D)
  · have hLt : Tab L := by obtain ⟨_, _, _, _, _, _, h⟩ := hT; exact h
    refine ⟨_, hc3, _, hc1, (kprefix_c _ _).mono fun e w2 g => ?_⟩
    obtain ⟨x2, y2, rfl, rfl, rfl, k2⟩ := g
    obtain ⟨P, n, hP, hn, hPlt, hlow, hR⟩ : ∃ P n : Nat, kp q3 q1 = (P, (n : Int)) ∧ n < 32 ∧ P < 4294967296 ∧ lowN P n = 0 ∧ rightP P (n : Int) = true :=
      ⟨_, _, rfl, by have := kpN_le q1; omega, kp_lt q3 q1, lowN_top _ _, kp_right q3 q1⟩
    rw [hP]
    refine ⟨_, _, rfl, M.new_blk fun b56 w3 hb56 B56 k3 => M.stA_blk B56 rfl fun w4 C56 k4 => ⟨_, C56.cell 0, _, C56.cell 1, (rhalf_c hPlt hn hlow false).mono fun e w5 g => ?_⟩⟩
    obtain ⟨x5, y5, ok5, rfl, rfl, rfl, rfl, k5⟩ := g
    refine ⟨_, _, _, rfl, M.new_blk fun b68 w6 hb68 B68 k6 => M.stA_blk B68 rfl fun w7 C68 k7 => ?_⟩
    have k24 : Keeps [] w2 w4 := k3.trans k4 (by simp; omega)
    have k57 : Keeps [] w5 w7 := k6.trans k7 (by simp; omega)
    have C56 := (C56.keep k5 (by simp)).keep k57 (by simp)
    refine ⟨_, C56.cell 0, _, C56.cell 1, (rhalf_c hPlt hn hlow true).mono fun e w8 g => ?_⟩
    obtain ⟨x8, y8, ok8, rfl, rfl, rfl, rfl, k8⟩ := g
    refine ⟨_, _, _, rfl, M.new_blk fun b80 w9 hb80 B80 k9 => M.stA_blk B80 rfl fun w10 C80 k10 => ?_⟩
    have k810 : Keeps [] w8 w10 := k9.trans k10 (by simp; omega)
    have C56 := (C56.keep k8 (by simp)).keep k810 (by simp)
    have C68 := (C68.keep k8 (by simp)).keep k810 (by simp)
    have k010 : Keeps [] w w10 := ((((k2.trans k24 (by simp)).trans k5 (by simp)).trans k57 (by simp)).trans k8 (by simp)).trans k810 (by simp)
    have a10 := ha.new k010
    have hT10 := hT.keep k010 (by simp)
    have hlh := lowN_half hlow hn
    have hhl := half_lt hPlt hlow hn
    have hRl : rightP P ((n + 1 : Nat) : Int) = true := by rw [rightP_iff]; exact ⟨by omega, by omega, by rw [Int.toNat_natCast]; exact hlh.1⟩
    have hRh : rightP (P + 2 ^ (31 - n)) ((n + 1 : Nat) : Int) = true := by rw [rightP_iff]; exact ⟨by omega, by omega, by rw [Int.toNat_natCast]; exact hlh.2⟩
    have hck := cov_keys hLt hn hlow
    have hL60 : L.length ≤ 60 := by omega
    have hkl0 := keysCov_len L (P, (n : Int))
    have hkl1 := keysCov_len L (P, ((n + 1 : Nat) : Int))
    have hkl2 := keysCov_len L (P + 2 ^ (31 - n), ((n + 1 : Nat) : Int))
    refine M.join_by (fun (J : SV → World → Prop) => ∀ x w', Own 27 2 w' x (pvs (if (tget L (P, (n : Int))).isSome then [(P, (n : Int))] else [])) → (∀ y ∈ x.blk, w10.heap.size ≤ y) → Keeps [] w10 w' → J x w') ?_ ?_
    rotate_left
    · intro J2 hJ2
      refine ⟨_, C56.cell 0, _, C56.cell 1, (get_c hT10 hPlt (n : Int)).mono fun e w11 g => ?_⟩
      obtain ⟨r11, ok11, rfl, rfl, rfl, k11⟩ := g
      have C56' := C56.keep k11 (by simp)
      refine ⟨_, _, rfl, ?_⟩
      cases hs : (tget L (P, (n : Int))).isSome with
      | false =>
        rw [hs] at hJ2
        exact M.ite_ff (hJ2 _ _ (Own.nil _ _ _) (by simp [SV.blk]) k11)
      | true =>
        rw [hs] at hJ2
        obtain ⟨r12, w12, v1, v2, v3, v4⟩ := app_p (l := []) (P, (n : Int)) (Own.nil 27 2 w11) (by simp)
        exact M.ite_tt ⟨_, C56'.cell 0, _, C56'.cell 1, M.new_by ⟨r12, w12, v1, hJ2 _ _ v2 (fun y hy => by
          rcases v4 y hy with h | h
          · simp [SV.blk] at h
          · have := k11.size; omega) (k11.trans v3 (by simp [SV.blk]))⟩⟩
    · intro x11 w11 o11 f11 k11
      have hS1 : (if (tget L (P, (n : Int))).isSome then [(P, (n : Int))] else ([] : List Key)).length ≤ 1 := by split <;> simp
      generalize hSS : (if (tget L (P, (n : Int))).isSome then [(P, (n : Int))] else ([] : List Key)) = S at *
      have kd := Keeps.drew [] w11
      have k12 := k11.trans kd (by simp)
      have D68 := C68.keep k12 (by simp)
      have D80 := C80.keep k12 (by simp)
      have hb80 := C80.lt
      refine M.drew_by ⟨_, D68.cell 0, _, D68.cell 1, _, D80.cell 0, _, D80.cell 1, (tbelow_c (hT10.keep k12 (by simp)) hPlt ((n + 1 : Nat) : Int) (by omega)).mono fun e w13 g => ?_⟩
      obtain ⟨r13, rfl, o13, f13, k13⟩ := g
      rw [hRl, if_pos rfl] at o13
      have D80b := D80.keep k13 (by simp)
      obtain ⟨r14, w14, v1, v2, v3, v4⟩ := app_ps (((o11.keep kd (by simp)).keep k13 (by simp))) o13.rd (by omega)
      have hx11 : ∀ y ∈ x11.blk, w10.heap.size ≤ y := f11
      have k1014 : Keeps [] w10 w14 := (k12.trans k13 (by simp)).trans v3 (fun y hy => .inr (f11 y hy))
      have D80c := C80.keep k1014 (by simp)
      have f14 : ∀ y ∈ r14.blk, w10.heap.size ≤ y := fun y hy => by
        rcases v4 y hy with h | h
        · exact f11 y h
        · have := k12.size; have := k13.size; omega
      refine ⟨_, rfl, D80b.cell 0, D80b.cell 1, r14, w14, v1, D80c.cell 0, D80c.cell 1, (tbelow_c (hT10.keep k1014 (by simp)) hhl ((n + 1 : Nat) : Int) (by omega)).mono fun e w15 g => ?_⟩
      obtain ⟨r15, rfl, o15, f15, k15⟩ := g
      rw [hRh, if_pos rfl] at o15
      obtain ⟨r16, w16, u1, u2, u3, u4⟩ := app_ps (v2.keep k15 (by simp)) o15.rd (by rw [List.length_append]; omega)
      have k1016 : Keeps [] w10 w16 := (k1014.trans k15 (by simp)).trans u3 (fun y hy => .inr (f14 y hy))
      have C56d := C56.keep k1016 (by simp)
      have e56 : keysCov L (P, (n : Int)) = S ++ keysCov L (P, ((n + 1 : Nat) : Int)) ++ keysCov L (P + 2 ^ (31 - n), ((n + 1 : Nat) : Int)) := by rw [hck, List.append_assoc]
      refine ⟨_, rfl, r16, w16, u1, _, C56d.cell 0, _, C56d.cell 1, (tbelow_c (hT10.keep k1016 (by simp)) hPlt (n : Int) (by omega)).mono fun e w17 g => ?_⟩
      obtain ⟨r17, rfl, o17, f17, k17⟩ := g
      rw [hR, if_pos rfl] at o17
      refine ⟨_, rfl, (samep_c o17.rd (u2.keep k17 (by simp)).rd (by omega)).mono fun e w18 g => ?_⟩
      obtain ⟨r18, rfl, rfl, k18⟩ := g
      rw [← e56]
      have k1018 := (k1016.trans k17 (by simp)).trans k18 (by simp)
      have C56e := C56.keep k1018 (by simp)
      refine ⟨_, rfl, M.ite_n (by simp) ⟨_, C56e.cell 0, _, C56e.cell 1, (get_c (hT10.keep k1018 (by simp)) hPlt (n : Int)).mono fun e w19 g => ?_⟩⟩
      obtain ⟨r19, ok19, rfl, rfl, rfl, k19⟩ := g
      have k1019 := k1018.trans k19 (by simp)
      have o19 := (o17.keep k18 (by simp)).keep k19 (by simp)
      have hl19 := pf_len o19.rd
      refine ⟨_, _, rfl, ?_⟩
      have hmemK : ∀ k ∈ keysCov L (P, (n : Int)), k.1 < 4294967296 ∧ rightP k.1 k.2 = true ∧ covB (P, (n : Int)) k = true := by
        intro k hk
        unfold keysCov at hk
        obtain ⟨z, hz, rfl⟩ := List.mem_map.1 hk
        obtain ⟨hz1, hz2⟩ := List.mem_filter.1 hz
        exact ⟨(hLt.right z hz1).1, (hLt.right z hz1).2, hz2⟩
      generalize hKK : keysCov L (P, (n : Int)) = ks at *
      refine M.loop1_by (fun y w' => ∃ j : Nat, y = j ∧ j ≤ ks.length ∧ Keeps [] w19 w') (fun y _ => ks.length - y.toNat) ⟨0, rfl, by omega, Keeps.refl _ _⟩ ?_
      rintro y w20 J3 ⟨j, rfl, hj, k20⟩ hJ3
      have k1020 := k1019.trans k20 (by simp)
      refine M.ite_by (fun c => ?_) (fun c => ?_)
      · have c := of_decide_eq_true c
        have jl : j < ks.length := by omega
        have ej := List.getElem?_eq_getElem jl
        obtain ⟨hk1, hk2, hk3⟩ := hmemK _ (List.getElem_mem jl)
        obtain ⟨a, ha5⟩ := (o19.keep k20 (by simp)).rd.some (by omega)
        have e5 := pf_at (o19.keep k20 (by simp)).rd ha5 ej
        refine ⟨a, ha5, by omega, c, _, e5.1, _, e5.2, (above_c (hT10.keep k1020 (by simp)) hk1 ks[j].2).mono fun e w21 g => ?_⟩
        obtain ⟨r21, rfl, o21, f21, k21⟩ := g
        rw [hk2, if_pos rfl] at o21
        have hon := onWay_cov (L := L) hR hk2 hk3
        have hol := onWay_len L ks[j].1 (ks[j].2.toNat + 1)
        obtain ⟨hk20, hk32, _⟩ := (rightP_iff _ _).1 hk2
        have k1021 := k1020.trans k21 (by simp)
        have hl21 := pf_len o21.rd
        generalize hOO : onWay L ks[j].1 (ks[j].2.toNat + 1) = os at *
        refine ⟨_, rfl, ?_⟩
        refine M.loop2_by (fun x y w' => ∃ m : Nat, y = m ∧ m ≤ os.length ∧ x = decide ((P, (n : Int)) ∈ os.take m) ∧ Keeps [] w21 w') (fun _ y _ => os.length - y.toNat) ⟨0, rfl, by omega, by simp, Keeps.refl _ _⟩ ?_
        rintro x y w22 J4 ⟨m, rfl, hm', hx, k22⟩ hJ4
        refine M.ite_by (fun d => ?_) (fun d => ?_)
        · have d := of_decide_eq_true d
          have ml : m < os.length := by omega
          have em := List.getElem?_eq_getElem ml
          have kd := Keeps.drew [] w22
          have k23 := k22.trans kd (by simp)
          have htk := List.take_succ_eq_append_getElem ml
          refine M.join_by (fun (J : Bool → World → Prop) => ∀ w', Keeps [] w21 w' → J (decide ((P, (n : Int)) ∈ os.take (m + 1))) w') ?_ ?_
          · intro w24 k24
            rw [w64 (by omega) (by omega)]
            exact hJ4 _ _ _ ⟨m + 1, by omega, by omega, rfl, k24⟩ (by omega)
          · intro J5 hJ5
            refine M.drew_by (M.ite_by (fun cx => ?_) (fun cx => ?_))
            · have hin : (P, (n : Int)) ∈ os.take m := by rw [cx] at hx; exact of_decide_eq_true hx.symm
              have := hJ5 _ k23
              rw [htk, decide_eq_true (List.mem_append_left _ hin)] at this
              exact this
            · have hnin : (P, (n : Int)) ∉ os.take m := by rw [cx] at hx; exact of_decide_eq_false hx.symm
              obtain ⟨a6, ha6⟩ := (o21.keep k23 (by simp)).rd.some (by omega)
              have e6 := pf_at (o21.keep k23 (by simp)).rd ha6 em
              have C56f := C56.keep ((k1021.trans k23 (by simp))) (by simp)
              refine ⟨a6, ha6, by omega, by omega, _, e6.1, _, e6.2, _, C56f.cell 0, _, C56f.cell 1, ?_⟩
              have := hJ5 _ k23
              have ee : decide ((P, (n : Int)) ∈ os.take (m + 1)) = (((os[m].1 : Int) == (P : Int)) && (os[m].2 == (n : Int))) := by
                rw [htk]
                by_cases hq : os[m] = (P, (n : Int))
                · rw [decide_eq_true (List.mem_append_right _ (by rw [hq]; simp)), hq]; simp
                · rw [decide_eq_false (by
                    intro hmm
                    rcases List.mem_append.1 hmm with h | h
                    · exact hnin h
                    · simp at h; exact hq h.symm)]
                  symm
                  rw [Bool.and_eq_false_iff]
                  by_cases h1 : os[m].1 = P
                  · right
                    have : os[m].2 ≠ (n : Int) := fun h2 => hq (Prod.ext h1 h2)
                    simpa using this
                  · left; simp; omega
              rw [ee] at this
              exact this
        · have d := of_decide_eq_false d
          have hml : m = os.length := by omega
          subst hml
          rw [List.take_length] at hx
          have hxx : x = (tget L (P, (n : Int))).isSome := by
            rw [hx]
            cases hs : (tget L (P, (n : Int))).isSome with
            | true => exact decide_eq_true (hon.2 hs)
            | false => exact decide_eq_false (fun h => by rw [hon.1 h] at hs; cases hs)
          refine M.ite_n (by rw [hxx]; simp) ?_
          rw [w64 (by omega) (by omega)]
          exact hJ3 _ _ ⟨j + 1, by omega, by omega, (k20.trans k21 (by simp)).trans k22 (by simp)⟩ (by omega)
      · refine M.join_by (fun (J : Bool → World → Prop) => ∀ w', Aft W w' → J true w') (fun w' h => ⟨rfl, h.1⟩) fun J5 hJ5 => ?_
        refine (tbelow_c (hT10.keep k1020 (by simp)) (a := 0) (by omega) 0 (by omega)).mono fun e w21 g => ?_
        obtain ⟨r21, rfl, o21, f21, k21⟩ := g
        rw [show rightP 0 0 = true from rfl, if_pos rfl] at o21
        have e0 := keysCov_all hLt
        rw [show (((0 : Nat) : Int)) = 0 from rfl] at e0
        rw [e0] at o21
        refine ⟨_, rfl, (tall_c (hT10.keep (k1020.trans k21 (by simp)) (by simp)) (by omega)).mono fun e w22 g => ?_⟩
        obtain ⟨r22, rfl, o22, f22, k22⟩ := g
        refine ⟨_, rfl, (samep_c (o21.keep k22 (by simp)).rd o22.rd (by simp; omega)).mono fun e w23 g => ?_⟩
        obtain ⟨r23, rfl, rfl, k23⟩ := g
        refine ⟨_, rfl, M.ite_y (by simp) (known_c.mono fun e w24 g => ?_)⟩
        obtain ⟨r24, rfl, rfl, k24⟩ := g
        exact ⟨_, rfl, hJ5 _ (a10.new (((k1020.trans k21 (by simp)).trans k22 (by simp)).trans (k23.trans k24 (by simp)) (by simp)))⟩
theorem parts_law (W : World) (args : List Value) (h : GdArgs W [(false, .cons (.slice askSh) .nil), (true, askSh)] args) : Calls Try.prog 5 args.toArray W fun e W' => e = .returned (.bool true) ∧ Below W.heap.size W W' := by
  obtain ⟨v0, r, rfl, h0, h⟩ := h.one
  obtain ⟨v1, r, rfl, _, hagg, hg, h⟩ := h
  cases h
  obtain ⟨cs, rfl⟩ := hagg rfl
  obtain ⟨s, l, rfl, hl, hm, hp⟩ := asks_of h0
  simp only [askSh, GdL, Value.cells] at hg
  obtain ⟨w1, r1, h2, ⟨k, rfl, _⟩, w2, r2, rfl, ⟨n, rfl, _⟩, w3, r3, rfl, ⟨t, rfl, _⟩, w4, r4, rfl, ⟨u, rfl, g1, g2⟩, w5, r5, rfl, ⟨f, rfl⟩, rfl⟩ := hg
  have hcs : cs = #[.int .i64 k, .int .i64 n, .int .i64 t, .int .u32 u, .bool f] := Array.ext' (by simpa using h2)
  subst hcs
  exact (parts_c k n t u f hl hm hp).mono fun e w' ⟨b, he, hb, hw⟩ => by subst hb; exact ⟨he, hw⟩
end Go.Proofs.Ytjjjomeemfmihaa
