/-
  OpenNumbers: the closed sentence of chapter 10.
-/
import Derived.Test.YtdlefnpnnpohmaaOpenN
namespace Go.Proofs.Ytdlefnpnnpohmaa
set_option linter.unusedVariables false
set_option linter.unusedSimpArgs false
open Go.Sp
open Go.RowKit (Below)

theorem numbers_c {W : World} : Calls Try.prog 6 #[] W (R6 fun r w' => r = true ∧ Below W.heap.size W w') := by
  refine F6_ok (M.new_blk fun b w1 hb B k1 => ?_)
  have a1 := (Aft.refl W).new k1
  refine M.loop1_by (fun x w => ∃ (i : Nat) (l : List Int), x = i ∧ i ≤ 8 ∧ l.length = 8 ∧ Blk w b 3 (l.map (Value.int .i64)) ∧ Aft W w) (fun x _ => (8 - x).toNat)
    ⟨0, [-1, 0, 1, 2, 3, 4, 65535, 65536], rfl, by omega, rfl, B, a1⟩ ?_
  rintro x w J ⟨i, l, rfl, hi, hl, Bl, ha⟩ hJ
  refine M.ite_by (fun c => ?_) (fun c => ?_)
  · have c : (i : Int) < 8 := of_decide_eq_true c
    have il : i < l.length := by omega
    refine ⟨_, rfl, by omega, c, l[i], ?_, ?_⟩
    · rw [add_mk, Bl.cell]
      simp [List.getElem?_eq_getElem il]
    generalize l[i] = z
    refine M.join_by (fun J => ∀ w', Keeps [] w w' → J false w') (fun w' k => ?_) fun J2 hJ2 => ?_
    · refine M.ite_ff ?_
      rw [w64 (by omega) (by omega)]
      exact hJ _ _ ⟨i + 1, l, by omega, by omega, hl, Bl.keep k (by simp), ha.new k⟩ (by omega)
    · refine (same_c z 90 1).mono fun e w2 g => ?_
      obtain ⟨r2, rfl, rfl, k2⟩ := g
      refine ⟨_, rfl, M.ite_n rfl ((same_c 1 z 1).mono fun e w3 g => ?_)⟩
      obtain ⟨r3, rfl, rfl, k3⟩ := g
      refine ⟨_, rfl, M.ite_n rfl ((same_c z z _).mono fun e w4 g => ?_)⟩
      obtain ⟨r4, rfl, rfl, k4⟩ := g
      exact ⟨_, rfl, hJ2 _ ((k2.trans k3 (by simp)).trans k4 (by simp))⟩
  · refine (renc_c 1 3 1).mono fun e w2 g => ?_
    obtain ⟨r2, rfl, o2, f2, k2⟩ := g
    have a2 := ha.new k2
    have hlen := helloB_len 1 3 1
    generalize helloB 1 3 1 = good at *
    have hr2 := o2.rd.len
    have hc2 := o2.rd.cap
    rw [bv_length, Nat.mul_one] at hr2
    refine ⟨_, rfl, ?_⟩
    refine M.loop1_by (fun x w3 => ∃ at_ : Nat, x = at_ ∧ at_ ≤ 10 ∧ Keeps [] w2 w3) (fun x _ => (10 - x).toNat) ⟨0, rfl, by omega, Keeps.refl _ _⟩ ?_
    rintro x w3 J2 ⟨at_, rfl, hat, k3⟩ hJ2
    refine M.ite_by (fun c1 => ?_) (fun c1 => ?_)
    · have c1 := of_decide_eq_true c1
      refine M.new_blk fun bt w4 hbt Bt k4 => ?_
      have k34 := k3.trans k4 (by simp)
      refine M.loop1_by (fun x w5 => ∃ (j : Nat) (tl : List UInt8), x = j ∧ j ≤ 7 ∧ tl.length = 7 ∧ Blk w5 bt 5 (bv tl) ∧ Keeps [] w2 w5) (fun x _ => (7 - x).toNat)
        ⟨0, [0, 1, 2, 3, 4, 5, 255], rfl, by omega, rfl, Bt, k34⟩ ?_
      rintro x w5 J3 ⟨j, tl, rfl, hj, htl, Bt, k5⟩ hJ3
      refine M.ite_by (fun c3 => ?_) (fun c3 => ?_)
      · have c3 : (j : Int) < 7 := of_decide_eq_true c3
        have jl : j < tl.length := by omega
        refine ⟨_, rfl, by omega, c3, (tl[j].toNat : Int), ?_, ?_⟩
        · rw [add_mk, Nat.zero_add, Bt.cell]
          rw [show ((j : Nat) : Int).toNat * 1 = j by omega]
          exact bv_get (List.getElem?_eq_getElem jl)
        generalize tl[j] = to_
        have o5 := o2.keep k5 (by simp)
        obtain ⟨r6, w6, v1, v2, v3, v4⟩ := copy_b o5.rd (by omega)
        have hr6 := v2.rd.len
        rw [bv_length, Nat.mul_one] at hr6
        obtain ⟨a, haa⟩ := v2.rd.some (by omega)
        obtain ⟨u1, u2, u3, u4⟩ := v2.put haa (j := at_) (by rw [bv_length]; omega) (Value.int .u8 (to_.toNat : Int))
        rw [bv_set] at u3
        refine M.new_by ⟨r6, w6, v1, a, haa, by omega, by omega, ?_⟩
        dsimp only
        rw [show ((at_ : Nat) : Int).toNat * 1 = at_ by omega]
        refine ⟨u1, u2, ?_⟩
        have k57 : Keeps [] w5 (w6.setCell (a.add at_) (Value.int .u8 (to_.toNat : Int))) := v3.trans u4 (fun y hy => .inr (v4 y hy))
        generalize w6.setCell (a.add at_) (Value.int .u8 (to_.toNat : Int)) = w7 at *
        have hset : (good.set at_ to_).length = 10 := by simp [hlen]
        generalize good.set at_ to_ = bb at *
        refine M.loop1_by (fun x w8 => ∃ k : Nat, x = k ∧ k ≤ 14 ∧ Keeps [] w7 w8) (fun x _ => (14 - x).toNat) ⟨0, rfl, by omega, Keeps.refl _ _⟩ ?_
        rintro x w8 J4 ⟨k, rfl, hk, k8⟩ hJ4
        refine M.ite_by (fun c4 => ?_) (fun c4 => ?_)
        · have c4 := of_decide_eq_true c4
          obtain ⟨r9, w9, t1, t2, t3, t4⟩ := copy_b (u3.keep k8 (by simp)).rd (by omega)
          obtain ⟨r10, w10, s1, s2, s3, s4, s5⟩ := zeros_b t2 k (by omega)
          refine M.new_by ⟨r9, w9, t1, r10, w10, s1, (read_c s2.rd (by simp; omega)).mono fun e w11 g => ?_⟩
          obtain ⟨r11, rfl, rfl, k11⟩ := g
          refine ⟨_, rfl, M.ite_n rfl ?_⟩
          rw [w64 (by omega) (by omega)]
          exact hJ4 _ _ ⟨k + 1, by omega, by omega, (k8.trans (t3.trans s4 (fun y hy => .inr (t4 y hy))) (by simp)).trans k11 (by simp)⟩ (by omega)
        · rw [w64 (by omega) (by omega)]
          exact hJ3 _ _ ⟨j + 1, tl, by omega, by omega, htl, (Bt.keep k57 (by simp)).keep k8 (by simp), (k5.trans k57 (by simp)).trans k8 (by simp)⟩ (by omega)
      · have o5 := o2.keep k5 (by simp)
        have s10 := o5.rd.sub (l := 0) (u := at_) (by omega) (by omega)
        simp only [Nat.zero_mul, List.drop_zero, Nat.sub_zero, Nat.mul_one, bv_take] at s10
        refine ⟨by omega, by omega, by omega, (read_c s10 (by rw [List.length_take]; omega)).mono fun e w6 g => ?_⟩
        obtain ⟨r6, rfl, rfl, k6⟩ := g
        refine ⟨_, rfl, M.ite_n rfl ?_⟩
        rw [w64 (by omega) (by omega)]
        exact hJ2 _ _ ⟨at_ + 1, by omega, by omega, k5.trans k6 (by simp)⟩ (by omega)
    · refine M.new_by ?_
      have kal := Keeps.alloc [] w3 (.cells (bv [6, 1, 9]).toArray 5)
      refine (decn_c (new_b w3 [6, 1, 9] (by simp)) (by simp)).mono fun e w4 g => ?_
      obtain ⟨c4, x4, d4, ok4, rfl, hm4, k4⟩ := g
      obtain ⟨rfl, rfl, rfl, rd4⟩ := hm4
      refine ⟨_, _, _, _, rfl, M.new_blk fun p w5 hp P k5 => M.stA_blk P rfl fun w6 P6 k6 => M.new_by ?_⟩
      have kal2 := Keeps.alloc [] w6 (.cells (bv [6]).toArray 5)
      have k46 : Keeps [] w4 w6 := k5.trans k6 (by simp; omega)
      refine (decn_c (new_b w6 [6] (by simp)) (by simp)).mono fun e w7 g => ?_
      obtain ⟨c7, x7, d7, ok7, rfl, hm7, k7⟩ := g
      obtain ⟨rfl, rfl, rfl, rfl⟩ := hm7
      refine ⟨_, _, _, _, rfl, M.new_blk fun q w8 hq Q k8 => M.stA_blk Q rfl fun w9 Q9 k9 => ?_⟩
      have k69 : Keeps [] w6 w9 := ((kal2.trans k7 (by simp)).trans k8 (by simp)).trans k9 (by have := k7.size; have := kal2.size; simp; omega)
      have P9 := P6.keep k69 (by simp)
      have a9 : Aft W w9 := ((((a2.new k3).new kal).new k4).new k46).new k69
      refine M.join_by (fun J => ∀ w, Aft W w → J true w) (fun w h => ⟨rfl, h.1⟩) fun J hJ => M.ite_tt ⟨_, P9.cell 0, _, P9.cell 1, _, P9.cell 2, M.new_by ?_⟩
      have kal3 := Keeps.alloc [] w9 (.cells (bv [9]).toArray 5)
      refine (knote_c (((rd4.keep k46 (by simp)).keep k69 (by simp)).keep kal3 (by simp)) (new_b w9 [9] (by simp))).mono fun e w10 g => ?_
      obtain ⟨r10, rfl, hr, k10⟩ := g
      have : r10 = true := by rw [hr]; rfl
      subst this
      refine ⟨_, rfl, M.ite_tt (M.ite_tt ((encn_c (ds := []) 257 (-1) (Rd.nil 1 w10) (by simp)).mono fun e w11 g => ?_))⟩
      obtain ⟨r11, rfl, o11, f11, k11⟩ := g
      have hs : (baOf (lowB 257 1 ++ lowB (-1) 1 ++ [])).toList == str0.toList := by decide +kernel
      refine ⟨_, rfl, _, b2s_c o11.rd, M.ite_y hs (known_c.mono fun e w12 g => ?_)⟩
      obtain ⟨r12, rfl, rfl, k12⟩ := g
      exact ⟨_, rfl, hJ _ (((a9.new kal3).new k10).new (k11.trans k12 (by simp)))⟩
theorem numbers_law (W : World) (args : List Value) (h : GdArgs W [] args) : Calls Try.prog 6 args.toArray W fun e W' => e = .returned (.bool true) ∧ Below W.heap.size W W' := by
  cases h
  exact numbers_c.mono fun e w' ⟨b, he, hb, hw⟩ => by subst hb; exact ⟨he, hw⟩
end Go.Proofs.Ytdlefnpnnpohmaa
