/-
  Candidates out of raw ones: the whole list.
-/
import Derived.Test.YtmgigplbclkpaaaDecL
namespace Go.Proofs.Ytmgigplbclkpaaa
set_option linter.unusedVariables false
set_option linter.unusedSimpArgs false
open Go.Sp
open Go.RowKit (Below)

/-- A path that is short, and stays where it is, whatever the blocks below n, and x, hold. -/
def PathZ (W : World) (n x : Nat) (w : World) (p : SV) (l : List Sg) : Prop := l.length ≤ 18 ∧ countA l ≤ 1000 ∧ ∀ D w'', (∀ y ∈ D, W.heap.size ≤ y ∧ (y < n ∨ y = x)) → Keeps D w w'' → Segs w'' p l
theorem PathZ.keep {W w w' : World} {n x : Nat} {p : SV} {l : List Sg} (h : PathZ W n x w p l) (hx : W.heap.size ≤ x) (k : Keeps [x] w w') : PathZ W n x w' p l :=
  ⟨h.1, h.2.1, fun D w'' hD k2 => h.2.2 (x :: D) w'' (fun y hy => by
    rcases List.mem_cons.1 hy with rfl | hy
    · exact ⟨hx, .inr rfl⟩
    · exact hD y hy) ((k.mono (fun y hy => .inl (by simp at hy; simp [hy]))).and (k2.mono (fun y hy => .inl (by simp [hy]))))⟩
theorem fOfInt_lt (n : Int) : fOfInt n < 18446744073709551616 := by
  have h := Ieee.double.write_lt (.number (n < 0) n.natAbs 0)
  exact h
theorem small_geq {a : Int} (h : 0 ≤ a) : fGeq (fOfInt (Int.tmod a 3)) 0 = true := by
  rw [Int.tmod_eq_emod_of_nonneg h]
  rcases (show a % 3 = 0 ∨ a % 3 = 1 ∨ a % 3 = 2 by omega) with h | h | h <;> rw [h] <;> decide +kernel
theorem cands_c {W w : World} {s : SV} {l : List Cn} (ha : Aft W w) (hl : l.length = s.len) (hp : ∀ i x, l[i]? = some x → RawAt W s i x) (few : Bool) :
    Calls Try.prog 10 #[s.v, .bool few] w (R10 fun r w' => ∃ cs : List Cn, Own 37 14 w' r (cnv cs) ∧ cs.length = min l.length 12 ∧ (∀ c ∈ cs, OkD c ∧ ∀ w'', Keeps r.blk w' w'' → Segs w'' c.path c.segs) ∧ (∀ y ∈ r.blk, w.heap.size ≤ y) ∧ (few = true → ∀ c ∈ cs, fGeq c.cost 0 = true) ∧ Keeps [] w w') := by
  refine F10_ok ?_
  refine M.loop2_by (fun o x w' => ∃ (i : Nat) (cs : List Cn), x = i ∧ i ≤ min l.length 12 ∧ Own 37 14 w' o (cnv cs) ∧ cs.length = i ∧ (∀ c ∈ cs, OkD c ∧ ∀ w'', Keeps o.blk w' w'' → Segs w'' c.path c.segs) ∧ (∀ y ∈ o.blk, w.heap.size ≤ y) ∧ (few = true → ∀ c ∈ cs, fGeq c.cost 0 = true) ∧ Keeps [] w w') (fun _ x _ => (12 - x).toNat)
    ⟨0, [], rfl, by omega, Own.nil _ _ _, rfl, by simp, by simp [SV.blk], by simp, Keeps.refl _ _⟩ ?_
  rintro o x w4 J ⟨i, cs, rfl, hi, o4, hcs, hseg, f4, hfew, k4⟩ hJ
  have ha4 := ha.new k4
  refine M.join_lt (fun c1 c2 => ?_) (fun hend => ?_)
  · have il : i < l.length := by omega
    obtain ⟨ax, hax, ⟨hcost, haddr⟩, hat⟩ := hp i l[i] (List.getElem?_eq_getElem il)
    generalize l[i] = z at *
    have hz4 := (hat _ ha4.1).1
    have hzs : ∀ w, Below W.heap.size W w → Segs w z.path z.segs := fun w hw => (hat w hw).2.1
    have hzc : ∀ w, Below W.heap.size W w → ∃ l, Rd 1 w z.comms (uv l) := fun w hw => (hat w hw).2.2
    have e13 : ((i : Nat) : Int).toNat * 13 = i * 13 := by omega
    have hs4 := k4.size
    refine ⟨ax, hax, by omega, c1, _, _, _, _, _, _, _, _, _, _, _, _, _, (by rw [e13]; exact hz4), M.new_blk fun b5 w5 hb5 B5 k5 => M.stA_blk (vs := z.raw) B5 rfl fun w6 B6 k6 => ?_⟩
    have k46 : Keeps [] w4 w6 := k5.trans k6 (by simp; omega)
    have hs46 := k46.size
    have ha6 := ha4.new k46
    have hb5lt := B6.lt
    refine M.join_by (fun (J : Addr → World → Prop) => ∀ (x : Nat) (c : Cn) w', w4.heap.size ≤ x → x ≠ b5 → Blk w' b5 47 z.raw → Blk w' x 37 c.cells → c.cost = z.cost → PathZ W w4.heap.size x w' c.path c.segs → Keeps [] w4 w' → J ⟨x, 0, none⟩ w') (fun x c w7 hx hxb B7 X7 hcz hp7 k47 => ?_) fun J2 hJ2 => ?_
    · have hW4 := ha4.2
      have hc7 : c.cost < 18446744073709551616 := by rw [hcz]; exact hcost
      refine M.join_by (fun (J : World → Prop) => ∀ (c : Cn) w', Blk w' x 37 c.cells → c.cost < 18446744073709551616 → (few = true → fGeq c.cost 0 = true) → PathZ W w4.heap.size x w' c.path c.segs → Keeps [] w4 w' → J w') (fun c w8 X8 hc8 hg8 hp8 k48 => ?_) fun J3 hJ3 => M.ite_by (fun c3 => ?_) (fun c3 => ?_)
      · have hol := o4.rd.len
        rw [cnv_len] at hol
        have hs48 := k48.size
        refine ⟨_, _, _, _, _, _, _, _, _, _, _, _, _, _, X8.cs 0 c.cells rfl, newn_k (e := 37) (sz := 14) (n := 1) (cs := c.cells) rfl (by omega) (Keeps.refl [] w8) fun b9 w9 g1 g2 o9 k9 _ => ?_⟩
        have o4' := (o4.keep k48 (by simp)).keep k9 (by simp)
        obtain ⟨r, w10, v1, v2, v3, v4, v5⟩ := app_own (P := Try.prog) (ty := 24) (news := cnv [c]) cSl cEl o4' (by simpa [cnv] using o9.rd) (cnv_one _) (by simp only []; omega)
        refine ⟨r, w10, v1, ?_⟩
        rw [w64 (by omega) (by omega)]
        have k49 := k48.trans k9 (by simp)
        have hs89 := k9.size
        refine hJ _ _ _ ⟨i + 1, cs ++ [c], by omega, by omega, by rw [cnv_app]; exact v2, by simp; omega, fun d hd => ?_, fun y hy => ?_, fun hf d hd => ?_, (k4.trans k49 (by simp)).trans v4 (fun y hy => .inr (f4 y hy))⟩ (by omega)
        · have chain : ∀ w'', Keeps r.blk w10 w'' → Keeps o.blk w9 w'' := fun w'' k => v4.trans k v5
          rcases List.mem_append.1 hd with hd | hd
          · exact ⟨(hseg d hd).1, fun w'' k => (hseg d hd).2 w'' (k49.up.and (chain w'' k))⟩
          · simp at hd; subst hd
            refine ⟨⟨⟨by have := hp8.2.1; omega, by have := hp8.1; omega⟩, hc8⟩, fun w'' k => hp8.2.2 o.blk w'' (fun y hy => ⟨by have := f4 y hy; have := ha.2; omega, .inl (o4.lt y hy)⟩) (k9.up.and (chain w'' k))⟩
        · rcases v5 y hy with h | h
          · exact f4 y h
          · omega
        · rcases List.mem_append.1 hd with hd | hd
          · exact hfew hf d hd
          · simp at hd; subst hd; exact hg8 hf
      · have hxW : W.heap.size ≤ x := by omega
        refine ⟨_, B7.cell 0, M.st_blk X7 (by simp) fun w8 X8 k8 => ?_⟩
        have B8 := B7.keep k8 (by simpa using hxb.symm)
        refine ⟨_, B8.cell 1, M.st_blk X8 (by simp) fun w9 X9 k9 => ?_⟩
        have B9 := B8.keep k9 (by simpa using hxb.symm)
        have k49 : Keeps [] w4 w9 := (k47.trans k8 (by simp; omega)).trans k9 (by simp; omega)
        have ha9 := ha4.new k49
        have hxlt := X9.lt
        refine ⟨_, _, _, _, _, _, _, _, _, B9.cs 3 z.ac rfl, _, B9.cell 0, (tame_c ha9 hzs hzc _).mono fun e w10 g => ?_⟩
        obtain ⟨o10, p10, n10, hm10, m10, hp10, pr10, av10, cm10, rfl, ⟨l10, hx10⟩, k10⟩ := g
        have X10 := X9.keep k10 (by simp)
        have B10 := B9.keep k10 (by simp)
        have k410 := k49.trans k10 (by simp)
        have hs49 := k49.size
        refine ⟨_, _, _, _, _, _, _, _, _, rfl, ?_⟩
        have hpz : PathZ W w4.heap.size x w10 p10 l10 := ⟨hx10.1, hx10.2.1, fun D w'' hD k => hx10.2.2 D w'' (fun y hy => ⟨(hD y hy).1, by rcases (hD y hy).2 with h | h <;> omega⟩) k⟩
        refine M.stA_part X10 (pre := [.int .i64 c.peer, .int .u32 _, .int .u32 _, .bool c.inner]) (old := c.ac) (post := [.float .f64 c.cost]) rfl rfl rfl fun w11 X11 k11 => ?_
        have B11 := B10.keep k11 (by simpa using hxb.symm)
        have k411 : Keeps [] w4 w11 := k410.trans k11 (by simp; omega)
        refine M.join_by (fun (J : Bool → World → Prop) => ∀ b, (b = false → fGeq z.cost 0 = true) → J b w11) (fun b hb => M.ite_by (fun c5 => ?_) (fun c5 => ?_)) fun J4 hJ4 => ⟨_, B11.cell 12, M.ite_by (fun c5 => ⟨_, B11.cell 12, hJ4 _ fun _ => c5⟩) (fun c5 => hJ4 _ fun h => by simp at h)⟩
        · exact ⟨_, B11.cell 1, M.st_blk X11 (by simp) fun w12 X12 k12 => hJ3 ⟨c.peer, _, _, c.inner, o10, p10, n10, hm10, m10, hp10, pr10, av10, cm10, _, l10⟩ w12 X12 (fOfInt_lt _) (fun _ => small_geq haddr) ((hpz.keep hxW k11).keep hxW k12) (k411.trans k12 (by simp; omega))⟩
        · exact hJ3 ⟨c.peer, _, _, c.inner, o10, p10, n10, hm10, m10, hp10, pr10, av10, cm10, c.cost, l10⟩ w11 X11 hc7 (fun _ => by show fGeq c.cost 0 = true; rw [hcz]; exact hb c5) (hpz.keep hxW k11) k411
      · exact hJ3 c w7 X7 hc7 (fun h => by rw [h] at c3; cases c3) hp7 k47
    · have kd := Keeps.drew [] w6
      have B7 := B6.keep kd (by simp)
      have k47 := k46.trans kd (by simp)
      have ha7 := ha6.new kd
      have hdr : w6.drew.heap.size = w6.heap.size := rfl
      refine M.drew_by ⟨_, B7.cell 0, _, B7.cell 1, _, B7.cell 2, _, _, _, _, _, _, _, _, _, B7.cs 3 z.ac rfl, _, B7.cell 12, (short_c ha7 hzs hzc).mono fun e w8 g => ?_, M.new_blk fun x w8 hx X8 k8 => ?_⟩
      · obtain ⟨o8, p8, n8, hm8, m8, hp8, pr8, av8, cm8, rfl, ⟨l8, hx8⟩, k8⟩ := g
        have B8 := B7.keep k8 (by simp)
        have hs78 := k8.size
        refine ⟨_, _, _, _, _, _, _, _, _, rfl, B8.cell 12, B8.cell 2, B8.cell 1, B8.cell 0, M.new_blk fun x w9 hx X9 k9 => ?_⟩
        have B9 := B8.keep k9 (by simp)
        refine ⟨B9.cell 12, B9.cs 3 z.ac rfl, B9.cell 2, B9.cell 1, B9.cell 0, M.stA_blk X9 rfl fun w10 X10 k10 => ?_⟩
        have hxb : x ≠ b5 := by have := B8.lt; omega
        have k810 : Keeps [] w8 w10 := k9.trans k10 (by simp; omega)
        refine hJ2 x ⟨(i : Int), z.id, z.addr, z.inner, o8, p8, n8, hm8, m8, hp8, pr8, av8, cm8, z.cost, l8⟩ w10 (by omega) hxb (B9.keep k10 (by simpa using hxb.symm)) X10 rfl ⟨hx8.1, hx8.2.1, fun D w'' hD k => hx8.2.2 (D.filter (· < w4.heap.size)) w'' (fun y hy => ?_) ?_⟩ ((k47.trans k8 (by simp)).trans k810 (by simp))
        · have := List.mem_filter.1 hy
          have h2 := this.2
          simp at h2
          exact ⟨(hD y this.1).1, by omega⟩
        · refine (k810.up.and k).mono fun y hy => ?_
          rcases (hD y hy).2 with h | h
          · exact .inl (List.mem_filter.2 ⟨hy, by simpa using h⟩)
          · right; omega
      · have B8 := B7.keep k8 (by simp)
        have ha8 := ha7.new k8
        have hxb : x ≠ b5 := by have := B7.lt; omega
        refine ⟨B8.cell 12, B8.cs 3 z.ac rfl, B8.cell 2, B8.cell 1, B8.cell 0, (short_c ha8 hzs hzc).mono fun e w9 g => ?_⟩
        obtain ⟨o8, p8, n8, hm8, m8, hp8, pr8, av8, cm8, rfl, ⟨l8, hx8⟩, k9⟩ := g
        have B9 := B8.keep k9 (by simp)
        have hxlt := X8.lt
        have hs8 := k8.size
        refine ⟨_, _, _, _, _, _, _, _, _, rfl, B9.cell 12, B9.cell 2, B9.cell 1, B9.cell 0, M.stA_blk (X8.keep k9 (by simp)) rfl fun w10 X10 k10 => ?_⟩
        have hpz : PathZ W w4.heap.size x w9 p8 l8 := ⟨hx8.1, hx8.2.1, fun D w'' hD k => hx8.2.2 D w'' (fun y hy => ⟨(hD y hy).1, by rcases (hD y hy).2 with h | h <;> omega⟩) k⟩
        have hW4 := ha4.2
        exact hJ2 x ⟨(i : Int), z.id, z.addr, z.inner, o8, p8, n8, hm8, m8, hp8, pr8, av8, cm8, z.cost, l8⟩ w10 (by omega) hxb (B9.keep k10 (by simpa using hxb.symm)) X10 rfl (hpz.keep (by omega) k10) (((k47.trans k8 (by simp)).trans k9 (by simp)).trans k10 (by simp; omega))
  · exact ⟨cs, o4, by omega, hseg, f4, hfew, k4⟩
end Go.Proofs.Ytmgigplbclkpaaa
