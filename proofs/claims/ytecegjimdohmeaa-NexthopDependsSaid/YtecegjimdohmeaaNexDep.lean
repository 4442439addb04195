/-
  NexthopDepends: a way that is put, or cut, where an address does not depend on it changes nothing of where that leads.
-/
import Derived.Test.YtecegjimdohmeaaNexDirect
namespace Go.Proofs.Ytecegjimdohmeaa
set_option linter.unusedVariables false
set_option linter.unusedSimpArgs false
open Go.Sp
open Go.RowKit (Below)

theorem trail2_c {w : World} {X : List Nat} {p : Nat} {S : IS} (F : IgpAt w X p S) {A : Nat} (hA : A < 4294967296) {d : Nat} (hd : 1 ≤ d ∧ d ≤ 8) :
    Calls Try.prog 11 #[.pointer (some ⟨p, 0, none⟩), .int .u32 (A : Int), .int .i64 (d : Int)] w (R11 fun t w' => Rd 2 w' t (pvs (folA S.tell d (d + 1) [] 0 A).2.2.1) ∧ (∀ y ∈ t.blk, w.heap.size ≤ y) ∧ Keeps [] w w') := by
  refine F11_ok ((follow_c F hA hd).mono fun e w2 g => ?_)
  obtain ⟨ln, c, t, s, er, rfl, ⟨e1, e2, e3, e4⟩, f, k2, _⟩ := g
  refine ⟨_, _, _, _, _, rfl, M.new_blk fun b3 w3 hb3 B3 k3 => M.stA_blk B3 rfl fun w4 B4 k4 => ?_⟩
  have k24 : Keeps [] w2 w4 := k3.trans k4 (by simp; omega)
  exact ⟨_, B4.cell 2, e3.keep k24 (by simp), f, k2.trans k24 (by simp)⟩
theorem nv_at {w : World} {s : SV} {l : List Nat} (h : Rd 1 w s (nv l)) {a : Addr} (ha : s.a = some a) {i : Nat} {x : Nat} (hx : l[i]? = some x) : w.cell? (a.add (i * 1)) = some (.int .u32 (x : Int)) := by
  rw [Nat.mul_one]
  exact h.at ha (i := i) (by simp [nv, hx])
theorem nv_len {w : World} {s : SV} {l : List Nat} (h : Rd 1 w s (nv l)) : s.len = l.length := by
  have := h.len
  simp only [nv, List.length_map] at this; omega
theorem ahas_c {w : World} {p : Key} (hp : p.1 < 4294967296) {a : Nat} (ha : a < 4294967296) : Calls Try.prog 34 #[.agg #[.int .u32 (p.1 : Int), .int .i64 p.2], .int .u32 (a : Int)] w (R34 fun r w' => r = hasB p a ∧ Keeps [] w w') := by
  refine F34_ok (M.new_blk fun b w1 hb B k1 => ?_)
  have kd := Keeps.drew [] w1
  have B2 := B.keep kd (by simp)
  have k2 := k1.trans kd (by simp)
  refine M.join_by (fun J => ∀ w', Keeps [] w w' → J (hasB p a) w') (fun w' h => ⟨rfl, h⟩) fun J hJ => M.drew_by ⟨_, B2.cell 0, _, B2.cell 1, (right_c hp p.2).mono fun e w3 g => ?_⟩
  obtain ⟨r, rfl, rfl, k3⟩ := g
  have B3 := B2.keep k3 (by simp)
  have k03 := k2.trans k3 (by simp)
  refine ⟨_, rfl, M.ite_by (fun c => ?_) (fun c => ?_)⟩
  · obtain ⟨c0, c1, c2⟩ := (rightP_iff _ _).1 c
    refine ⟨_, B3.cell 1, _, B3.cell 0, (mask_c p.2).mono fun e w4 g => ?_⟩
    obtain ⟨r4, rfl, rfl, rfl⟩ := g
    refine ⟨_, rfl, B3.cell 0, ?_⟩
    rw [bAnd_top ha (clampN_le _)]
    have e : clampN p.2 = p.2.toNat := by unfold clampN; omega
    have := hJ _ k03
    unfold hasB at this
    rw [c, Bool.true_and] at this
    rw [e]
    have e2 : ((topN a p.2.toNat : Int) == (p.1 : Int)) = (topN a p.2.toNat == p.1) := by
      cases h : topN a p.2.toNat == p.1 <;> simp at h <;> simp [h]
      exact_mod_cast h
    rw [e2]; exact this
  · have := hJ _ k03
    unfold hasB at this
    rw [c, Bool.false_and] at this
    exact this
/-- Does one of the addresses that were asked lie in a prefix? -/
theorem ifunc_c {w : World} {s : SV} {l : List Nat} {k : Key} {b : Nat} (hs : Rd 1 w s (nv l)) (hl : ∀ a ∈ l, a < 4294967296) (hn : l.length ≤ 1000) (hk : k.1 < 4294967296) (B : Blk w b 28 [.int .u32 (k.1 : Int), .int .i64 k.2]) :
    Calls Try.prog 53 #[s.v, (FV.mk 33 [Value.pointer (some ⟨b, 0, none⟩)]).v] w (R53 fun r w' => decide (0 ≤ r) = l.any (hasB k) ∧ Keeps [] w w') := by
  have hlen := nv_len hs
  refine F53_ok (M.loop1_by (fun x w' => ∃ i : Nat, x = i ∧ i ≤ l.length ∧ Keeps [] w w' ∧ (l.take i).any (hasB k) = false) (fun x _ => l.length - x.toNat) ⟨0, rfl, by omega, Keeps.refl _ _, by simp⟩ ?_)
  rintro x w2 J ⟨i, rfl, hi, k2, hno⟩ hJ
  refine M.ite_by (fun c => ?_) (fun c => ?_)
  · have c := of_decide_eq_true c
    have il : i < l.length := by omega
    have ei := List.getElem?_eq_getElem il
    have hm := List.getElem_mem il
    have htk : l.take (i + 1) = l.take i ++ [l[i]] := by rw [List.take_add_one, ei]; rfl
    have hA := hl _ hm
    generalize l[i] = A at *
    have rd2 := hs.keep k2 (by simp)
    have B2 := B.keep k2 (by simp)
    obtain ⟨a, ha⟩ := rd2.some (by omega)
    refine ⟨a, ha, by omega, by omega, _, nv_at rd2 ha ei, rfl, F33_ok ⟨_, B2.cell 0, _, B2.cell 1, (ahas_c hk hA).mono fun e w3 g => ?_⟩⟩
    obtain ⟨r, rfl, rfl, k3⟩ := g
    have k03 := k2.trans k3 (by simp)
    refine ⟨_, rfl, M.ite_by (fun c1 => ?_) (fun c1 => ?_)⟩
    · refine ⟨?_, k03⟩
      rw [decide_eq_true (by omega)]
      exact (List.any_eq_true.2 ⟨A, hm, c1⟩).symm
    · have c1 : hasB k A = false := c1
      rw [w64 (by omega) (by omega)]
      refine hJ _ _ ⟨i + 1, by omega, by omega, k03, ?_⟩ (by omega)
      rw [htk, List.any_append, hno]
      simp [c1]
  · have c := of_decide_eq_false c
    obtain rfl : i = l.length := by omega
    rw [List.take_length] at hno
    refine ⟨?_, k2⟩
    rw [hno, decide_eq_false (by omega)]
/-- Does where an address leads depend on a prefix? -/
def depB (tell : Nat → Option Wy) (d A : Nat) (k : Key) : Bool := rightP k.1 k.2 && (decide (k ∈ (folA tell d (d + 1) [] 0 A).2.2.1) || (folQ tell d (d + 1) [] A).any (hasB k))
theorem folQ_lt {S : IS} (g : S.good) {d : Nat} : ∀ (f : Nat) (T : List Key) (A : Nat), A < 4294967296 → ∀ a ∈ folQ S.tell d f T A, a < 4294967296 := by
  intro f
  induction f with
  | zero => intro T A hA a h; simp [folQ] at h
  | succ f ih =>
    intro T A hA a h
    unfold folQ at h
    rcases List.mem_cons.1 h with rfl | h
    · exact hA
    · cases ht : S.tell A with
      | none => rw [ht] at h; simp at h
      | some w =>
        rw [ht] at h
        dsimp only at h
        split at h
        · simp at h
        · split at h
          · simp at h
          · split at h
            · simp at h
            · exact ih _ _ (tell_ok g ht).ty.2.1 a h
theorem folQ_len (tell : Nat → Option Wy) {d : Nat} : ∀ (f : Nat) (T : List Key) (A : Nat), (folQ tell d f T A).length ≤ f := by
  intro f
  induction f with
  | zero => intro T A; simp [folQ]
  | succ f ih =>
    intro T A
    unfold folQ
    cases ht : tell A with
    | none => simp
    | some w =>
      dsimp only
      rw [List.length_cons]
      split
      · simp
      · split
        · simp
        · split
          · simp
          · have := ih (T ++ [w.pf]) w.next; omega
theorem folA_err (tell : Nat → Option Wy) {d : Nat} : ∀ (f : Nat) (T : List Key) (c A : Nat), (folA tell d f T c A).2.2.2 ≠ 1 := by
  intro f
  induction f with
  | zero => intro T c A; simp [folA]
  | succ f ih =>
    intro T c A
    unfold folA
    cases ht : tell A with
    | none => simp
    | some w =>
      dsimp only
      split
      · simp
      · split
        · simp
        · split
          · dsimp only; split <;> simp
          · exact ih _ _ _
theorem folA_len (tell : Nat → Option Wy) {d : Nat} : ∀ (f : Nat) (T : List Key) (c A : Nat), (folA tell d f T c A).2.2.1.length ≤ T.length + f := by
  intro f
  induction f with
  | zero => intro T c A; simp [folA]
  | succ f ih =>
    intro T c A
    unfold folA
    cases ht : tell A with
    | none => simp
    | some w =>
      dsimp only
      split
      · simp
      · split
        · simp
        · split
          · simp
          · have := ih (T ++ [w.pf]) (addB c w.cost) w.next
            simp only [List.length_append, List.length_cons, List.length_nil] at this; omega
theorem fol_same {t1 t2 : Nat → Option Wy} {k : Key} (ht : ∀ A, hasB k A = false → t1 A = t2 A) {d : Nat} : ∀ (f : Nat) (T : List Key) (c A : Nat), (folQ t1 d f T A).any (hasB k) = false →
    folA t1 d f T c A = folA t2 d f T c A ∧ folQ t1 d f T A = folQ t2 d f T A := by
  intro f
  induction f with
  | zero => intro T c A h; exact ⟨rfl, rfl⟩
  | succ f ih =>
    intro T c A h
    unfold folQ at h
    rw [List.any_cons, Bool.or_eq_false_iff] at h
    have hA := ht A h.1
    have h2 := h.2
    unfold folA folQ
    rw [← hA]
    cases h1 : t1 A with
    | none => exact ⟨rfl, rfl⟩
    | some w =>
      rw [h1] at h2
      dsimp only at h2 ⊢
      by_cases c1 : w.pf ∈ T
      · constructor <;> simp only [if_pos c1]
      simp only [if_neg c1] at h2 ⊢
      by_cases c2 : T.length = d
      · constructor <;> simp only [if_pos c2]
      simp only [if_neg c2] at h2 ⊢
      by_cases c3 : w.direct = true
      · constructor <;> simp only [if_pos c3]
      simp only [if_neg c3] at h2 ⊢
      obtain ⟨q1, q2⟩ := ih (T ++ [w.pf]) (addB c w.cost) w.next h2
      rw [q1, q2]
      exact ⟨rfl, rfl⟩
theorem dep_same {t1 t2 : Nat → Option Wy} {k : Key} (ht : ∀ A, hasB k A = false → t1 A = t2 A) {d A : Nat} (hk : rightP k.1 k.2 = true) (h : depB t1 d A k = false) :
    folA t1 d (d + 1) [] 0 A = folA t2 d (d + 1) [] 0 A ∧ depB t2 d A k = false := by
  have h0 := h
  unfold depB at h
  rw [hk, Bool.true_and, Bool.or_eq_false_iff] at h
  obtain ⟨q1, q2⟩ := fol_same ht (d + 1) [] 0 A h.2
  refine ⟨q1, ?_⟩
  unfold depB at h0 ⊢
  rw [← q1, ← q2]; exact h0
/-- Two tables that are alike but at one prefix tell the same of addresses beside it. -/
theorem tell_beside {S U : IS} {k : Key} (h1 : ∀ j, j ≠ k → S.opn j = U.opn j) (h2 : ∀ j, j ≠ k → S.opn j = true → S.h j = U.h j) {A : Nat} (hA : hasB k A = false) : S.tell A = U.tell A := by
  have hne : ∀ {j}, hasB j A = true → j ≠ k := fun h e => by rw [e, hA] at h; cases h
  have hb : ∀ {j}, S.best A j ↔ U.best A j := fun {j} => by
    constructor
    · rintro ⟨a, b, c⟩
      exact ⟨by rw [← h1 j (hne b)]; exact a, b, fun k' x y => c k' (by rw [h1 k' (hne y)]; exact x) y⟩
    · rintro ⟨a, b, c⟩
      exact ⟨by rw [h1 j (hne b)]; exact a, b, fun k' x y => c k' (by rw [← h1 k' (hne y)]; exact x) y⟩
  by_cases he : ∃ j, S.best A j
  · obtain ⟨j, hj⟩ := he
    rw [tell_best hj, tell_best (hb.1 hj), h2 j (hne hj.2.1) hj.1]
  · unfold IS.tell
    rw [dif_neg he, dif_neg (fun ⟨j, hj⟩ => he ⟨j, hb.2 hj⟩)]
theorem tell_set {S : IS} {x : Wy} {A : Nat} (hA : hasB x.pf A = false) : S.tell A = (S.set x).tell A :=
  tell_beside (k := x.pf) (fun j hj => by
    unfold IS.opn
    rw [IS.set_some, if_neg (Ne.symm hj), IS.set_h, if_neg hj]) (fun j hj _ => by rw [IS.set_h, if_neg hj]) hA
theorem tell_cut {S : IS} (hT : Tab S.L) {k : Key} {A : Nat} (hA : hasB k A = false) : S.tell A = (S.cut k).tell A :=
  tell_beside (S := S) (U := S.cut k) (k := k) (fun j hj => by
    unfold IS.opn
    show _ = ((tget (tcut S.L k) j).isSome && !infB (S.h j).cost)
    rw [tget_tcut, if_neg (Ne.symm hj)]) (fun j hj _ => rfl) hA
theorem depends_c {w : World} {X : List Nat} {p : Nat} {S : IS} (F : IgpAt w X p S) {A : Nat} (hA : A < 4294967296) {d : Nat} (hd : 1 ≤ d ∧ d ≤ 8) {k : Key} (hk : k.1 < 4294967296) :
    Calls Try.prog 16 #[.pointer (some ⟨p, 0, none⟩), .int .u32 (A : Int), .int .i64 (d : Int), .agg #[.int .u32 (k.1 : Int), .int .i64 k.2]] w (R16 fun r w' => r = depB S.tell d A k ∧ Keeps [] w w') := by
  refine F16_ok (M.new_blk fun b2 w1 hb2 B2 k1 => (follow_c (F.keep k1 (by simp)) hA hd).mono fun e w2 g => ?_)
  obtain ⟨ln, c, t, s, er, rfl, ⟨e1, e2, e3, e4⟩, f, k2, rq⟩ := g
  refine ⟨_, _, _, _, _, rfl, M.new_blk fun b3 w3 hb3 B3 k3 => M.stA_blk B3 rfl fun w4 B4 k4 => ?_⟩
  have k24 : Keeps [] w2 w4 := k3.trans k4 (by simp; omega)
  have B24 := (B2.keep k2 (by simp)).keep k24 (by simp)
  have e3 := e3.keep k24 (by simp)
  have rq := rq.keep k24 (by simp)
  have k04 := (k1.trans k2 (by simp)).trans k24 (by simp)
  have hlen := folA_len S.tell (d := d) (d + 1) [] 0 A
  have hql := folQ_len S.tell (d := d) (d + 1) [] A
  have hqlt := folQ_lt F.good (d := d) (d + 1) [] A hA
  unfold depB
  generalize (folA S.tell d (d + 1) [] 0 A).2.2.1 = T at *
  generalize folQ S.tell d (d + 1) [] A = Q at *
  refine M.join_by (fun (J : Bool → World → Prop) => ∀ w', Keeps [] w4 w' → J (!rightP k.1 k.2) w') (fun w' k' => ?_) fun J hJ => M.ite_n (by rw [e4]; simpa using folA_err _ _ _ _ _) ⟨_, B24.cell 0, _, B24.cell 1, (right_c hk k.2).mono fun e w5 g => ?_⟩
  · refine M.ite_by (fun c => ?_) (fun c => ?_)
    · have c : rightP k.1 k.2 = false := by simpa using c
      rw [c]
      exact ⟨rfl, k04.trans k' (by simp)⟩
    · have c : rightP k.1 k.2 = true := by simpa using c
      have B2' := B24.keep k' (by simp)
      have B4' := B4.keep k' (by simp)
      have k0' := k04.trans k' (by simp)
      rw [c, Bool.true_and]
      refine M.join_by (fun (J : Bool → World → Prop) => ∀ w', Keeps [] w w' → J (decide (k ∈ T) || Q.any (hasB k)) w') (fun w' k'' => ⟨rfl, k''⟩) fun J hJ => ⟨_, B4'.cell 2, _, B2'.cell 0, _, B2'.cell 1, (contains_c (e3.keep k' (by simp)) (by simp at hlen; omega) k).mono fun e w6 g => ?_⟩
      obtain ⟨r6, rfl, rfl, k6⟩ := g
      refine ⟨_, rfl, M.ite_by (fun c1 => ?_) (fun c1 => ?_)⟩
      · rw [c1] at hJ
        exact hJ w6 (k0'.trans k6 (by simp))
      · have c1 : decide (k ∈ T) = false := c1
        rw [c1, Bool.false_or] at hJ
        have k46 := k'.trans k6 (by simp)
        refine ⟨_, (B4.keep k46 (by simp)).cell 3, F32_ok ((ifunc_c (rq.keep k46 (by simp)) hqlt (by omega) hk (B24.keep k46 (by simp))).mono fun e w7 g => ?_)⟩
        obtain ⟨r7, rfl, h7, k7⟩ := g
        refine ⟨_, rfl, ?_⟩
        dsimp only
        rw [h7]
        exact hJ w7 ((k0'.trans k6 (by simp)).trans k7 (by simp))
  · obtain ⟨r5, rfl, rfl, k5⟩ := g
    exact ⟨_, rfl, hJ w5 k5⟩
theorem ndep_c {W : World} {s : SV} {l : List Wy} {x0 : Wy} {p1 p2 : Int} {cut : Bool} (hs : Rd 6 W s (l.flatMap Wy.cells)) (hok : ∀ x ∈ l, x.ty) (hm : s.len ≤ maxLen) (hx0 : x0.ty) :
    Calls Try.prog 5 #[s.v, .int .u32 p1, .int .i64 p2, x0.agg, .bool cut] W (R5 fun r w' => r = true ∧ Below W.heap.size W w') := by
  refine F5_ok (M.new_blk fun b2 w1 hb2 B1 k1 => (tables_c true (hs.keep k1 (by simp)) hok hm).mono fun e w2 g => ?_)
  obtain ⟨r1, r2, rfl, p, q, X, E, S, rfl, rfl, F, R, gd, hSl, hX, hE, _, k2⟩ := g
  have hb2l := B1.lt
  have B2 := B1.keep k2 (by simp)
  have a2 : Aft W w2 := ((Aft.refl W).new k1).new k2
  have hn1 := k1.size
  refine ⟨_, _, rfl, M.ite_n rfl ((within_c p2 1 8 (by omega) (by omega) (by omega)).mono fun e w3 g => ?_)⟩
  obtain ⟨r7, rfl, _, hd0, hd1, hw⟩ := g
  obtain rfl := hw.symm
  obtain ⟨d, rfl⟩ : ∃ d : Nat, r7 = (d : Int) := ⟨r7.toNat, by omega⟩
  have hd : 1 ≤ d ∧ d ≤ 8 := by omega
  refine ⟨_, rfl, (knext_c p1).mono fun e w3 g => ?_⟩
  obtain ⟨r9, rfl, ⟨A, rfl, hA⟩, hw⟩ := g
  obtain rfl := hw.symm
  refine ⟨_, rfl, _, _, _, _, _, _, B2.cs 0 _ rfl, (kway_c hx0).mono fun e w4 g => ?_⟩
  obtain ⟨y1, y2, y3, y4, y5, y6, rfl, ⟨y, hy, hyt, rfl, rfl, rfl, rfl, rfl, rfl⟩, k4⟩ := g
  have hyr : rightP y.pf.1 y.pf.2 = true := right_pf hy
  refine ⟨_, _, _, _, _, _, rfl, M.stA_blk (B2.keep k4 (by simp)) rfl fun w5 B5 k5 => ?_⟩
  have B5 : Blk w5 b2 32 y.cells := B5
  have hXb : ∀ x ∈ X, x ∉ [b2] := fun x hx h => by have := hX x hx; simp at h; omega
  have F5 := (F.keep k4 (by simp)).keep k5 hXb
  have a5 : Aft W w5 := (a2.new k4).step k5 (by simp; omega)
  refine (resolve_c F5 hA hd).mono fun e w6 g => ?_
  obtain ⟨ln6, c6, e6, rfl, he6, hc6, k6⟩ := g
  refine ⟨_, _, _, rfl, M.new_blk fun b32 w7 hb7 B7 k7 => M.stA_blk B7 rfl fun w8 B8 k8 => ?_⟩
  have B8 : Blk w8 b32 37 [.int .i64 ln6, .float .f64 c6] := B8
  have k58 : Keeps [] w5 w8 := (k6.trans k7 (by simp)).trans k8 (by have := k6.size; simp; omega)
  have F8 := F5.keep k58 (by simp)
  refine (trail2_c F8 hA hd).mono fun e w9 g => ?_
  obtain ⟨t9, rfl, rd9, f9, k9⟩ := g
  have k59 := k58.trans k9 (by simp)
  have B59 := B5.keep k59 (by simp)
  have F9 := F8.keep k9 (by simp)
  refine ⟨_, rfl, _, B59.cell 0, _, B59.cell 1, (depends_c F9 hA hd hyt.1).mono fun e w10 g => ?_⟩
  obtain ⟨r10, rfl, rfl, k10⟩ := g
  have k510 := k59.trans k10 (by simp)
  have F10 := F9.keep k10 (by simp)
  have a10 := a5.new k510
  have B510 := B5.keep k510 (by simp)
  have B810 := B8.keep (k9.trans k10 (by simp)) (by simp)
  have rd10 := rd9.keep k10 (by simp)
  have hX5 := F5.lt
  have hb32 : w5.heap.size ≤ b32 := by have := k6.size; omega
  have h58 := k58.size
  have hb2w : b2 < w1.heap.size := hb2l
  refine ⟨_, rfl, M.join_by (fun (J : World → Prop) => ∀ (X' : List Nat) (S' : IS) (w' : World), IgpAt w' X' p S' → (∀ A, hasB y.pf A = false → S.tell A = S'.tell A) → Keeps X w10 w' → J w') (fun X' S' w11 G ht k11 => ?_) fun J hJ => M.ite_by (fun c => ?_) (fun c => ?_)⟩
  · have a11 : Aft W w11 := a10.step k11 (fun x hx => by have := hX x hx; omega)
    have B511 := B510.keep k11 (fun h => by have := hX _ h; omega)
    have B811 := B810.keep k11 (fun h => by have := hX5 _ h; omega)
    have rd11 := rd10.keep k11 (fun x hx h => by have := f9 x hx; have := hX5 _ h; omega)
    refine (resolve_c G hA hd).mono fun e w12 g => ?_
    obtain ⟨ln12, c12, e12, rfl, he12, hc12, k12⟩ := g
    refine ⟨_, _, _, rfl, M.new_blk fun b76 w13 hb13 B13 k13 => M.stA_blk B13 rfl fun w14 B14 k14 => ?_⟩
    have B14 : Blk w14 b76 37 [.int .i64 ln12, .float .f64 c12] := B14
    have k1114 : Keeps [] w11 w14 := (k12.trans k13 (by simp)).trans k14 (by have := k12.size; simp; omega)
    have G14 := G.keep k1114 (by simp)
    have B514 := B511.keep k1114 (by simp)
    have B814 := B811.keep k1114 (by simp)
    have rd14 := rd11.keep k1114 (by simp)
    have a14 := a11.new k1114
    refine M.ite_by (fun c1 => ?_) (fun c1 => ?_)
    · have hdep : depB S'.tell d A y.pf = true := by
        cases hh : depB S'.tell d A y.pf with
        | true => rfl
        | false =>
          have := (dep_same (fun B hB => (ht B hB).symm) hyr hh).2
          rw [this] at c1; cases c1
      refine M.join_by (fun (J : Bool → World → Prop) => ∀ w', Aft W w' → J true w') (fun w' h => ⟨rfl, h.1⟩) fun J hJ => ⟨_, B514.cell 0, _, B514.cell 1, (depends_c G14 hA hd hyt.1).mono fun e w15 g => ?_⟩
      obtain ⟨r15, rfl, rfl, k15⟩ := g
      refine ⟨_, rfl, M.ite_y hdep ((nknown_a (a14.new k15)).mono fun e w16 g => ?_)⟩
      obtain ⟨r16, rfl, rfl, a16⟩ := g
      exact ⟨_, rfl, hJ _ a16⟩
    · have c1 : depB S.tell d A y.pf = false := c1
      obtain ⟨hsame, hdep⟩ := dep_same ht hyr c1
      rw [hsame] at he6 hc6 rd14
      have kd := Keeps.drew [] w14
      have a15 := a14.new kd
      have B515 := B514.keep kd (by simp)
      have B815 := B814.keep kd (by simp)
      have B1415 := B14.keep kd (by simp)
      have rd15 := rd14.keep kd (by simp)
      have G15 := G14.keep kd (by simp)
      subst he6 he12
      have hln : ln6 = ln12 ∧ c6 = c12 := by
        split at hc6
        · rename_i h; rw [if_pos h] at hc12; exact ⟨hc6.1.trans hc12.1.symm, hc6.2.trans hc12.2.symm⟩
        · rename_i h; rw [if_neg h] at hc12; exact ⟨hc6.1.trans hc12.1.symm, hc6.2.trans hc12.2.symm⟩
      obtain ⟨rfl, rfl⟩ := hln
      refine M.join_by (fun (J : Bool → World → Prop) => ∀ w', Aft W w' → J true w') (fun w' h => ⟨rfl, h.1⟩) fun J hJ => M.drew_by ⟨_, B815.cell 0, _, B1415.cell 0, M.ite_y (by simp) ⟨_, B815.cell 1, _, B1415.cell 1, M.ite_y (by simp) (M.ite_y (by simp) ((trail_c G15 hA hd).mono fun e w16 g => ?_))⟩⟩
      obtain ⟨t16, rfl, rd16, k16⟩ := g
      refine ⟨_, rfl, (samep_c (rd15.keep k16 (by simp)) rd16 (by have := folA_len S'.tell (d := d) (d + 1) [] 0 A; simp at this; omega)).mono fun e w17 g => ?_⟩
      obtain ⟨r17, rfl, rfl, k17⟩ := g
      have k1517 := k16.trans k17 (by simp)
      refine ⟨_, rfl, M.ite_y (by simp) ⟨_, (B515.keep k1517 (by simp)).cell 0, _, (B515.keep k1517 (by simp)).cell 1, (depends_c (G15.keep k1517 (by simp)) hA hd hyt.1).mono fun e w18 g => ?_⟩⟩
      obtain ⟨r18, rfl, rfl, k18⟩ := g
      have hdep : depB S'.tell d A y.pf = false := hdep
      refine ⟨_, rfl, M.ite_y (by rw [hdep]; rfl) ((nknown_a ((a15.new k1517).new k18)).mono fun e w19 g => ?_)⟩
      obtain ⟨r19, rfl, rfl, a19⟩ := g
      exact ⟨_, rfl, hJ _ a19⟩
  · refine ⟨_, B510.cell 0, _, B510.cell 1, (icut_c F10 hyt.1 y.pf.2).mono fun e w11 g => ?_⟩
    obtain ⟨r11, rfl, _, G, k11⟩ := g
    exact ⟨_, rfl, hJ X _ w11 G (fun B hB => tell_cut F.tab hB) k11⟩
  · have hcall := iput_c F10 hyt
    rw [IS.put_fst hy (by omega)] at hcall
    refine ⟨_, _, _, _, _, _, B510.cs 0 _ rfl, hcall.mono fun e w11 g => ?_⟩
    obtain ⟨a11, e11, rfl, _, _, X11, G, k11, _⟩ := g
    exact ⟨_, _, rfl, hJ X11 _ w11 G (fun B hB => tell_set hB) k11⟩
theorem ndep_law (W : World) (args : List Value) (h : GdArgs W [(false, .cons (.slice waySh) .nil), (false, .cons (.int .u32) .nil), (false, .cons (.int .i64) .nil), (true, waySh), (false, .cons .bool .nil)] args) : Calls Try.prog 5 args.toArray W fun e W' => e = .returned (.bool true) ∧ Below W.heap.size W W' := by
  obtain ⟨v0, r, rfl, h0, h⟩ := h.one
  obtain ⟨v1, r, rfl, h1, h⟩ := h.one
  obtain ⟨v2, r, rfl, h2, h⟩ := h.one
  obtain ⟨v3, r, rfl, _, hg, h3, h'⟩ := h
  obtain ⟨cs, rfl⟩ := hg rfl
  obtain ⟨x0, hx, hx0⟩ := way_of h3
  have hv : (Value.agg cs) = x0.agg := by
    have : cs = x0.cells.toArray := by rw [← hx]; simp [Value.cells]
    rw [this]
  obtain ⟨v4, r, rfl, h4, h'⟩ := GdArgs.one h'
  cases h'
  obtain ⟨s, l, rfl, hs, _, hm, hok⟩ := ways_of h0
  obtain ⟨n1, rfl, _⟩ := good_int h1
  obtain ⟨n2, rfl, _⟩ := good_int h2
  obtain ⟨n4, rfl⟩ := h4
  rw [hv]
  exact (ndep_c hs hok hm hx0).mono fun e w' ⟨b, he, hb, hw⟩ => by subst hb; exact ⟨he, hw⟩
end Go.Proofs.Ytecegjimdohmeaa
