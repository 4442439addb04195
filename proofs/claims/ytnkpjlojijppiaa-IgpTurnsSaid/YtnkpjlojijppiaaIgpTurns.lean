/-
  IgpTurns: a way that is put again turns nothing; one that is refused changes nothing; a cost without an end is as if the way were not there.
-/
import Derived.Test.YtnkpjlojijppiaaIgpM
namespace Go.Proofs.Ytnkpjlojijppiaa
set_option linter.unusedVariables false
set_option linter.unusedSimpArgs false
open Go.Sp
open Go.RowKit (Below)

/-- Two tables, alike but for one prefix. -/
def Ap (S U : IS) (k0 : Key) : Prop := (tget U.L k0).isSome = false ∧ ∀ k, k ≠ k0 → (tget S.L k).isSome = (tget U.L k).isSome ∧ ((tget U.L k).isSome = true → S.h k = U.h k)
theorem set_some (S : IS) (x : Wy) (k : Key) : (tget (S.set x).L k).isSome = if x.pf = k then true else (tget S.L k).isSome := by
  show (tget (tput S.L x.pf 0) k).isSome = _
  rw [tget_tput]
  split <;> rfl
theorem set_h (S : IS) (x : Wy) (k : Key) : (S.set x).h k = if k = x.pf then x.fix else S.h k := rfl
theorem Ap.left {S U : IS} {k0 : Key} {x : Wy} (h : Ap S U k0) (hx : x.pf = k0) : Ap (S.set x) U k0 :=
  ⟨h.1, fun k hk => by
    rw [set_some, if_neg (fun e => hk (by rw [← e, hx])), set_h, if_neg (fun e => hk (by rw [e, hx]))]
    exact h.2 k hk⟩
theorem Ap.both {S U : IS} {k0 : Key} {x : Wy} (h : Ap S U k0) (hx : x.pf ≠ k0) : Ap (S.set x) (U.set x) k0 :=
  ⟨by rw [set_some, if_neg hx]; exact h.1, fun k hk => by
    rw [set_some, set_some, set_h, set_h]
    by_cases he : x.pf = k
    · rw [if_pos he, if_pos he, if_pos he.symm, if_pos he.symm]; exact ⟨rfl, fun _ => rfl⟩
    · rw [if_neg he, if_neg he, if_neg (fun e => he e.symm), if_neg (fun e => he e.symm)]; exact h.2 k hk⟩
theorem Ap.again {S U : IS} {k0 : Key} {x : Wy} (h : Ap (S.set x) U k0) : Ap ((S.set x).set x) U k0 :=
  ⟨h.1, fun k hk => by
    have h1 := h.2 k hk
    rw [set_some] at h1 ⊢
    rw [set_h] at h1 ⊢
    by_cases he : x.pf = k
    · rw [if_pos he] at h1 ⊢
      rw [if_pos he.symm] at h1 ⊢
      exact h1
    · rw [if_neg he] at h1 ⊢
      rw [if_neg (fun e => he e.symm)] at h1 ⊢
      rw [set_some, if_neg he, set_h, if_neg (fun e => he e.symm)]
      exact h1⟩
theorem same_fix {x : Wy} (hx : x.ty) : sameW x.fix x.fix = true := by
  unfold sameW likeW
  have h1 : cleanN x.fix.cost ≤ fInf := by
    rw [show x.fix.cost = cleanN x.cost from rfl, clean_clean]; exact cleanN_le hx.2.2
  rw [fEql_pos h1 h1]; simp
theorem put_again {S : IS} {x : Wy} (hx : x.ty) (hr : rightW x = true) (hl : (S.set x).L.length < 64) : (S.set x).put x = (false, 0, (S.set x).set x) := by
  rw [IS.put_fst hr hl, set_some, if_pos rfl, set_h, if_pos rfl, same_fix hx]; rfl
theorem set_len (S : IS) (x : Wy) : (S.set x).L.length ≤ S.L.length + 1 := by
  have h : ∀ (L : Tbl) (k : Key) (v : Int), (tput L k v).length ≤ L.length + 1 := by
    intro L k v
    induction L with
    | nil => simp [tput]
    | cons x l ih =>
      simp only [tput]
      split
      · simp
      · split
        · simp
        · simp; omega
  exact h _ _ _
theorem set_set_len {S : IS} {x : Wy} (hT : Tab S.L) (hx : x.ty) (hr : rightW x = true) : ((S.set x).set x).L.length = (S.set x).L.length := by
  have hRP : rightP x.pf.1 x.pf.2 = true := by
    unfold rightW at hr
    simp only [Bool.and_eq_true] at hr
    exact hr.1.1
  have h1 : Tab (S.set x).L := hT.put ⟨hx.1, hRP⟩ 0
  show (tput (S.set x).L x.pf 0).length = _
  rw [tput_len h1.sorted, set_some, if_pos rfl, if_pos rfl]
/-- Both tables in memory. -/
structure Two (n : Nat) (w : World) (X Y : List Nat) (p q : Nat) (S U : IS) : Prop where
  a : IgpAt w X p S
  b : IgpAt w Y q U
  dis : ∀ x ∈ X, x ∉ Y
  ax : ∀ x ∈ X, n ≤ x
  ay : ∀ x ∈ Y, n ≤ x
  sz : n ≤ w.heap.size
theorem Two.new {n : Nat} {w w' : World} {X Y : List Nat} {p q : Nat} {S U : IS} (h : Two n w X Y p q S U) (k : Keeps [] w w') : Two n w' X Y p q S U :=
  ⟨h.a.keep k (by simp), h.b.keep k (by simp), h.dis, h.ax, h.ay, Nat.le_trans h.sz k.size⟩
theorem Two.left {n : Nat} {w w' : World} {X X' Y : List Nat} {p q : Nat} {S S' U : IS} (h : Two n w X Y p q S U) (k : Keeps X w w') (f : From X w X') (a : IgpAt w' X' p S') : Two n w' X' Y p q S' U :=
  ⟨a, h.b.keep k (fun x hx hX => h.dis x hX hx), fun x hx hy => by
    rcases f x hx with h1 | h1
    · exact h.dis x h1 hy
    · have := h.b.lt x hy; omega, f.old h.ax h.sz, h.ay, Nat.le_trans h.sz k.size⟩
theorem Two.right {n : Nat} {w w' : World} {X Y Y' : List Nat} {p q : Nat} {S U U' : IS} (h : Two n w X Y p q S U) (k : Keeps Y w w') (f : From Y w Y') (b : IgpAt w' Y' q U') : Two n w' X Y' p q S U' :=
  ⟨h.a.keep k h.dis, b, fun x hx hy => by
    rcases f x hy with h1 | h1
    · exact h.dis x hx h1
    · have := h.a.lt x hx; omega, h.ax, f.old h.ay h.sz, Nat.le_trans h.sz k.size⟩
theorem aft_low {W w w' : World} {X : List Nat} {n : Nat} (a : Aft W w) (k : Keeps X w w') (hX : ∀ x ∈ X, n ≤ x) (hn : W.heap.size ≤ n) : Aft W w' := a.step k (fun x hx => Nat.le_trans hn (hX x hx))
theorem itlaw_c {W : World} {s : SV} {l : List As} {x0 : Wy} {p1 : Int} (hs : Rd 9 W s (l.flatMap asv)) (hok : ∀ x ∈ l, x.ok) (hm : s.len ≤ maxLen) (hx0 : x0.ty) :
    Calls Try.prog 5 #[s.v, x0.agg, .int .u32 p1] W (R5 fun r w' => r = true ∧ Below W.heap.size W w') := by
  unfold maxLen at hm
  have hl := rows_len as9 (by omega) hs
  refine F5_ok (M.new_blk fun b2 w1 hb2 B1 k1 => inew_c.mono fun e w2 g => ?_)
  obtain ⟨r2, rfl, p, X, rfl, F2, hX, k2⟩ := g
  refine ⟨_, rfl, inew_c.mono fun e w3 g => ?_⟩
  obtain ⟨r3, rfl, q, Y, rfl, G3, hY, k3⟩ := g
  have hb2l := B1.lt
  have hXl := F2.lt
  have hT : Two w1.heap.size w3 X Y p q IS.zero IS.zero := ⟨F2.keep k3 (by simp), G3, fun x hx hy => by have := hXl x hx; have := hY x hy; omega, hX, fun x hx => by have := hY x hx; have := k2.size; omega, by have := k2.size; have := k3.size; omega⟩
  have B3 := (B1.keep k2 (by simp)).keep k3 (by simp)
  have hn : W.heap.size ≤ w1.heap.size := k1.size
  have a3 : Aft W w3 := (((Aft.refl W).new k1).new k2).new k3
  refine ⟨_, rfl, M.join_by (fun (J : Bool → World → Prop) => J false w3) (M.ite_ff ?_) fun J hJ => M.ite_ff hJ⟩
  refine ⟨_, _, _, _, _, _, B3.cs 0 _ rfl, (kway_c hx0).mono fun e w4 g => ?_⟩
  obtain ⟨y1, y2, y3, y4, y5, y6, rfl, ⟨y, hy, hyt, rfl, rfl, rfl, rfl, rfl, rfl⟩, k4⟩ := g
  refine ⟨_, _, _, _, _, _, rfl, M.stA_blk (B3.keep k4 (by simp)) rfl fun w5 B5 k5 => ?_⟩
  have B5 : Blk w5 b2 33 y.cells := B5
  have k35 : Keeps [b2] w3 w5 := k4.up.and k5
  have a5 : Aft W w5 := a3.step k35 (by simp; omega)
  have hT5 : Two w1.heap.size w5 X Y p q IS.zero IS.zero := ⟨(hT.a.keep k4 (by simp)).keep k5 (fun x hx h => by have := hX x hx; simp at h; omega), (hT.b.keep k4 (by simp)).keep k5 (fun x hx h => by have := hT.ay x hx; simp at h; omega), hT.dis, hT.ax, hT.ay, Nat.le_trans hT.sz k35.size⟩
  have hYR : rightP y.pf.1 y.pf.2 = true := by
    unfold rightW at hy
    simp only [Bool.and_eq_true] at hy
    exact hy.1.1
  refine M.loop1_by (fun x w => ∃ (i : Nat) (X Y : List Nat) (S U : IS), x = i ∧ i ≤ 30 ∧ Aft W w ∧ Blk w b2 33 y.cells ∧ Two w1.heap.size w X Y p q S U ∧ Ap S U y.pf ∧ S.L.length ≤ i ∧ U.L.length ≤ i) (fun x _ => (30 - x).toNat)
    ⟨0, X, Y, IS.zero, IS.zero, rfl, by omega, a5, B5, hT5, ⟨rfl, fun k _ => ⟨rfl, fun _ => rfl⟩⟩, by simp [IS.zero], by simp [IS.zero]⟩ ?_
  clear hT5 B5 k5 k35 a5 k4 B3 hT hX hY F2 G3 a3 hXl
  rintro x w J ⟨i, X, Y, S, U, rfl, hi, ha, B, T, hap, hSl, hUl⟩ hJ
  have hb2X : ∀ {X : List Nat}, (∀ x ∈ X, w1.heap.size ≤ x) → b2 ∉ X := fun hX h => by have := hX _ h; omega
  refine M.join_lt (fun hx1 hx2 => ?_) (fun hend => ?_)
  · have il : i < l.length := by omega
    have ei := List.getElem?_eq_getElem il
    have hx := (hok _ (List.getElem_mem il)).1
    generalize l[i] = x at *
    have hs' := hs.arg ha.1
    obtain ⟨ax, hax⟩ := hs'.some (by omega)
    refine ⟨ax, hax, by omega, by omega, _, _, _, _, _, _, rows_part as9 hs' hax ei 1 (vs := x.x.cells) rfl, (kway_c hx).mono fun e w2 g => ?_⟩
    obtain ⟨z1, z2, z3, z4, z5, z6, rfl, ⟨z, hz, hzt, rfl, rfl, rfl, rfl, rfl, rfl⟩, k2⟩ := g
    refine ⟨_, _, _, _, _, _, rfl, M.new_blk fun b3 w3 hb3 B3 k3 => M.stA_blk B3 rfl fun w4 C4 k4 => ⟨_, _, _, _, _, _, C4.cs 0 _ rfl, ?_⟩⟩
    have C4 : Blk w4 b3 33 z.cells := C4
    have k04 : Keeps [] w w4 := (k2.trans k3 (by simp)).trans k4 (by have := k2.size; simp; omega)
    have T4 := T.new k04
    have a4 := ha.new k04
    have B4 := B.keep k04 (by simp)
    have hTab := T.a.tab
    have hb3w : w.heap.size ≤ b3 := by have := k2.size; omega
    have hb3l := C4.lt
    have hb3X : b3 ∉ X := fun h => by have := T.a.lt _ h; omega
    have hb3Y : b3 ∉ Y := fun h => by have := T.b.lt _ h; omega
    have hput := IS.put_fst (S := S) hz (by omega)
    refine (iput_c T4.a hzt).mono fun e w5 g => ?_
    obtain ⟨a5, e5, rfl, rfl, rfl, X5, F5, k5, f5⟩ := g
    rw [hput] at F5
    have T5 := T4.left k5 f5 F5
    have a5 := aft_low a4 k5 T4.ax hn
    have B5 := B4.keep k5 (hb2X T4.ax)
    have C5 := C4.keep k5 hb3X
    have hb35 : b3 ∉ X5 := fun h => by
      rcases f5 _ h with h | h
      · exact hb3X h
      · omega
    have hsl := set_len S z
    have hul := set_len U z
    refine ⟨_, _, rfl, M.join_by (fun (J3 : World → Prop) => ∀ w' Y' U', Aft W w' → Blk w' b2 33 y.cells → Blk w' b3 33 z.cells → Two w1.heap.size w' X5 Y' p q (S.set z) U' → Ap (S.set z) U' y.pf → U'.L.length ≤ i + 1 → J3 w') (fun w6 Y6 U6 a6 B6 C6 T6 hap6 hu6 => ?_) fun J3 hJ3 => ?_⟩
    · have hput2 := put_again (S := S) hzt hz (by omega)
      have hb36 : b3 ∉ X5 := hb35
      refine ⟨_, _, _, _, _, _, C6.cs 0 _ rfl, (iput_c T6.a hzt).mono fun e w7 g => ?_⟩
      obtain ⟨a7, e7, rfl, rfl, rfl, X7, F7, k7, f7⟩ := g
      rw [hput2] at F7 ⊢
      have T7 := T6.left k7 f7 F7
      have h7 := set_set_len hTab hzt hz
      refine ⟨_, _, rfl, M.join_by (fun (J4 : Bool → World → Prop) => J4 false w7) (M.ite_ff ?_) fun J4 hJ4 => M.ite_ff hJ4⟩
      rw [w64 (by omega) (by omega)]
      exact hJ _ _ ⟨i + 1, X7, Y6, (S.set z).set z, U6, by omega, by omega, aft_low a6 k7 T6.ax hn, B6.keep k7 (hb2X T6.ax), T7, hap6.again, by omega, by omega⟩ (by omega)
    · refine ⟨_, C5.cell 0, _, C5.cell 1, _, B5.cell 0, _, B5.cell 1, ?_⟩
      have hkb := key_beq z.pf y.pf
      try dsimp only
      rw [hkb]
      refine M.ite_by (fun c => ?_) (fun c => ?_)
      · have c : z.pf ≠ y.pf := by simpa using c
        have hputU := IS.put_fst (S := U) hz (by omega)
        refine ⟨_, _, _, _, _, _, C5.cs 0 _ rfl, (iput_c T5.b hzt).mono fun e w6 g => ?_⟩
        obtain ⟨a6, e6, rfl, rfl, rfl, Y6, G6, k6, f6⟩ := g
        rw [hputU] at G6
        exact ⟨_, _, rfl, hJ3 _ Y6 (U.set z) (aft_low a5 k6 T5.ay hn) (B5.keep k6 (hb2X T5.ay)) (C5.keep k6 hb3Y) (T5.right k6 f6 G6) (hap.both c) (by omega)⟩
      · have c : z.pf = y.pf := by simpa using c
        exact hJ3 _ Y _ a5 B5 C5 T5 (hap.left c) (by omega)
  · clear hJ
    -- one that is refused
    refine ⟨_, _, _, _, _, _, B.cs 0 _ rfl, M.new_blk fun b3 w2 hb3 B2 k2 => M.stA_blk B2 rfl fun w3 C3 k3 => M.st_blk C3 (by simp) fun w4 C4 k4 => ?_⟩
    have C4 : Blk w4 b3 33 (Wy.mk y.pf y.direct y.link y.next 13830554455654793216).cells := C4
    have k04 : Keeps [] w w4 := (k2.trans k3 (by simp; omega)).trans k4 (by simp; omega)
    have T4 := T.new k04
    have a4 := ha.new k04
    have B4 := B.keep k04 (by simp)
    have hb3w : w.heap.size ≤ b3 := by omega
    refine (iall_c T4.a).mono fun e w5 g => ?_
    obtain ⟨r5, rfl, rd5, f5, k5⟩ := g
    have hl5 := rows_len wy6 (by omega) rd5
    have T5 := T4.new k5
    have hbad : rightW ⟨y.pf, y.direct, y.link, y.next, 13830554455654793216⟩ = false := by
      unfold rightW
      rw [show fGeq 13830554455654793216 0 = false by decide +kernel, Bool.and_false, Bool.false_and]
    have hpb : S.put ⟨y.pf, y.direct, y.link, y.next, 13830554455654793216⟩ = (false, 12, S) := by
      unfold IS.put; rw [hbad]; rfl
    refine ⟨_, rfl, _, _, _, _, _, _, (C4.keep k5 (by simp)).cs 0 _ rfl, (iput_c T5.a (x := ⟨y.pf, y.direct, y.link, y.next, 13830554455654793216⟩) ⟨hyt.1, hyt.2.1, by show 13830554455654793216 < _; omega⟩).mono fun e w6 g => ?_⟩
    obtain ⟨a6, e6, rfl, rfl, rfl, X6, F6, k6, f6⟩ := g
    rw [hpb] at F6 ⊢
    have T6 := T5.left k6 f6 F6
    have a6 := aft_low (a4.new k5) k6 T5.ax hn
    have B6 := (B4.keep k5 (by simp)).keep k6 (hb2X T5.ax)
    refine ⟨_, _, rfl, M.join_by (fun (J4 : Bool → World → Prop) => ∀ w', Keeps [] w6 w' → J4 false w') (fun w7 k7 => M.ite_ff ?_) fun J4 hJ4 => M.ite_ff (M.ite_ff ((iall_c T6.a).mono fun e w7 g => ?_))⟩
    rotate_left
    · obtain ⟨r7, rfl, rd7, f7, k7⟩ := g
      have hl7 := rows_len wy6 (by omega) rd7
      refine ⟨_, rfl, ?_⟩
      dsimp only
      rw [hl5, hl7]
      have := hJ4 _ k7
      simpa using this
    have T7 := T6.new k7
    have a7 := a6.new k7
    have B7 := B6.keep k7 (by simp)
    -- a cost without an end
    refine inf_c.mono fun e w8 g => ?_
    obtain ⟨r8, rfl, rfl, hw⟩ := g
    obtain rfl := hw.symm
    refine ⟨_, rfl, M.st_blk B7 (by simp) fun w9 B9 k9 => ?_⟩
    have B9 : Blk w9 b2 33 (Wy.mk y.pf y.direct y.link y.next 9218868437227405312).cells := B9
    have hb2XX : ∀ x ∈ X6, x ∉ [b2] := fun x hx h => by have := T7.ax x hx; simp at h; omega
    have hb2YY : ∀ x ∈ Y, x ∉ [b2] := fun x hx h => by have := T7.ay x hx; simp at h; omega
    have T9 : Two w1.heap.size w9 X6 Y p q S U := ⟨T7.a.keep k9 hb2XX, T7.b.keep k9 hb2YY, T7.dis, T7.ax, T7.ay, Nat.le_trans T7.sz k9.size⟩
    have a9 : Aft W w9 := a7.step k9 (by simp; omega)
    generalize hyi : (Wy.mk y.pf y.direct y.link y.next 9218868437227405312) = yi at *
    have hyp : yi.pf = y.pf := by rw [← hyi]
    have hyit : yi.ty := by rw [← hyi]; exact ⟨hyt.1, hyt.2.1, by show 9218868437227405312 < _; omega⟩
    have hyir : rightW yi = true := by
      rw [← hyi]
      unfold rightW at hy ⊢
      simp only [Bool.and_eq_true] at hy ⊢
      exact ⟨⟨hy.1.1, by decide +kernel⟩, hy.2⟩
    have hyinf : infB yi.fix.cost = true := by rw [← hyi]; simp only [Wy.fix]; decide +kernel
    have hputi := IS.put_fst (S := S) hyir (by omega)
    refine ⟨_, _, _, _, _, _, B9.cs 0 _ rfl, (iput_c T9.a hyit).mono fun e w10 g => ?_⟩
    obtain ⟨a10, e10, rfl, rfl, rfl, X10, F10, k10, f10⟩ := g
    rw [hputi] at F10 ⊢
    have T10 := T9.left k10 f10 F10
    have a10 := aft_low a9 k10 T9.ax hn
    have B10 := B9.keep k10 (hb2X T9.ax)
    have hap10 : Ap (S.set yi) U y.pf := hap.left hyp
    have hop : ∀ k, (S.set yi).opn k = U.opn k := by
      intro k
      unfold IS.opn
      by_cases hk : k = y.pf
      · rw [hk, hap10.1, set_h, if_pos hyp.symm, hyinf]; simp
      · obtain ⟨h1, h2⟩ := hap10.2 k hk
        rw [h1]
        cases hh : (tget U.L k).isSome with
        | false => rfl
        | true => rw [h2 hh]
    have hhs : ∀ k, U.opn k = true → (S.set yi).h k = U.h k := by
      intro k hk
      by_cases hk2 : k = y.pf
      · unfold IS.opn at hk
        rw [hk2, hap10.1] at hk; simp at hk
      · unfold IS.opn at hk
        simp only [Bool.and_eq_true] at hk
        exact (hap10.2 k hk2).2 hk.1
    obtain ⟨A, hAe, hA32⟩ := bOr_u32 (3221225984 : Int) (Int.tmod p1 (16 : Int))
    refine ⟨_, _, rfl, M.ite_ff ?_⟩
    rw [hAe]
    refine (imatch_c T10.a hA32).mono fun e w11 g => ?_
    obtain ⟨u1, u2, u3, u4, u5, u6, ok11, rfl, ⟨u, hu, rfl, rfl, rfl, rfl, rfl, rfl⟩, k11⟩ := g
    refine ⟨_, _, _, _, _, _, _, rfl, M.new_blk fun b12 w12 hb12 B12 k12 => M.stA_blk B12 rfl fun w13 C13 k13 => ?_⟩
    have k1113 : Keeps [] w11 w13 := k12.trans k13 (by simp; omega)
    have T13 := (T10.new k11).new k1113
    have a13 := (a10.new k11).new k1113
    have B13 := (B10.keep k11 (by simp)).keep k1113 (by simp)
    refine (imatch_c T13.b hA32).mono fun e w14 g => ?_
    obtain ⟨v1, v2, v3, v4, v5, v6, ok14, rfl, ⟨v, hv, rfl, rfl, rfl, rfl, rfl, rfl⟩, k14⟩ := g
    refine ⟨_, _, _, _, _, _, _, rfl, M.new_blk fun b15 w15 hb15 B15 k15 => M.stA_blk B15 rfl fun w16 C16 k16 => ?_⟩
    have k1416 : Keeps [] w14 w16 := k15.trans k16 (by simp; omega)
    have T16 := (T13.new k14).new k1416
    have a16 := (a13.new k14).new k1416
    have B16 := (B13.keep k14 (by simp)).keep k1416 (by simp)
    have C13 := (C13.keep k14 (by simp)).keep k1416 (by simp)
    have huv : ok11 = ok14 ∧ u = v := by
      rcases hu with ⟨k, hk, rfl, rfl⟩ | ⟨hno, rfl, rfl⟩
      · have hk' : U.best A k := ⟨by rw [← hop]; exact hk.1, hk.2.1, fun k' h1 h2 => hk.2.2 k' (by rw [hop]; exact h1) h2⟩
        obtain ⟨rfl, rfl⟩ := told_best hk' hv
        exact ⟨rfl, hhs k hk'.1⟩
      · obtain ⟨rfl, rfl⟩ := told_no (fun k hk => hno k (by rw [hop]; exact hk)) hv
        exact ⟨rfl, rfl⟩
    obtain ⟨rfl, rfl⟩ := huv
    refine M.join_by (fun (J4 : Bool → World → Prop) => ∀ w', Keeps [] w16 w' → J4 false w') (fun w17 k17 => M.ite_ff ?_) fun J4 hJ4 => M.ite_n (by simp) ?_
    rotate_left
    · cases ok11 with
      | false => exact M.ite_ff (hJ4 _ (Keeps.refl _ _))
      | true =>
        refine M.ite_tt ⟨_, _, _, _, _, _, C13.cs 0 _ rfl, _, _, _, _, _, _, C16.cs 0 _ rfl, (ibits_c u u).mono fun e w17 g => ?_⟩
        obtain ⟨r17, rfl, rfl, k17⟩ := g
        refine ⟨_, rfl, ?_⟩
        have := hJ4 _ k17
        rw [show bitsW u u = true by simp [bitsW, likeW]]
        exact this
    have T17 := T16.new k17
    have a17 := a16.new k17
    have B17 := B16.keep k17 (by simp)
    have hsm : (tget (S.set yi).L yi.pf).isSome = true := by rw [set_some, if_pos rfl]
    refine M.join_by (fun (J4 : Bool → World → Prop) => ∀ w', Aft W w' → Blk w' b2 33 yi.cells → Two w1.heap.size w' X10 Y p q (((S.set yi).cut yi.pf).cut yi.pf) U → J4 false w') (fun w18 a18 B18 T18 => M.ite_ff ?_) fun J4 hJ4 => ⟨_, B17.cell 0, _, B17.cell 1, (icut_c T17.a hyit.1 yi.pf.2).mono fun e w18 g => ?_⟩
    rotate_left
    · obtain ⟨r18, rfl, rfl, F18, k18⟩ := g
      have T18 := T17.left k18 (From.refl _ _) F18
      have B18 := B17.keep k18 (hb2X T17.ax)
      have a18 := aft_low a17 k18 T17.ax hn
      refine ⟨_, rfl, M.ite_n (by rw [show ((yi.pf.1, yi.pf.2) : Key) = yi.pf from rfl, hsm]; rfl) ⟨_, B18.cell 0, _, B18.cell 1, (icut_c T18.a hyit.1 yi.pf.2).mono fun e w19 g => ?_⟩⟩
      obtain ⟨r19, rfl, rfl, F19, k19⟩ := g
      have T19 := T18.left k19 (From.refl _ _) F19
      refine ⟨_, rfl, ?_⟩
      have hc : (tget ((S.set yi).cut (yi.pf.1, yi.pf.2)).L (yi.pf.1, yi.pf.2)).isSome = false := by
        show (tget (tcut (S.set yi).L (yi.pf.1, yi.pf.2)) (yi.pf.1, yi.pf.2)).isSome = false
        rw [tget_tcut, if_pos rfl]; rfl
      dsimp only
      rw [hc]
      exact hJ4 _ (aft_low a18 k19 T18.ax hn) (B18.keep k19 (hb2X T18.ax)) T19
    have hcut : ∀ k, (tget (((S.set yi).cut yi.pf).cut yi.pf).L k).isSome = if k = yi.pf then false else (tget (S.set yi).L k).isSome := by
      intro k
      show (tget (tcut (tcut (S.set yi).L yi.pf) yi.pf) k).isSome = _
      rw [tget_tcut, tget_tcut]
      by_cases hk : yi.pf = k
      · rw [if_pos hk, if_pos hk.symm]; rfl
      · rw [if_neg hk, if_neg hk, if_neg (fun e => hk e.symm)]
    refine ⟨_, B18.cell 0, _, B18.cell 1, (iget_c T18.a yi.pf.1 yi.pf.2).mono fun e w19 g => ?_⟩
    obtain ⟨z1, z2, z3, z4, z5, z6, ok19, rfl, ⟨rfl, rfl, rfl, rfl, rfl, rfl⟩, rfl, k19⟩ := g
    refine ⟨_, _, _, _, _, _, _, rfl, M.new_blk fun b20 w20 hb20 B20 k20 => M.stA_blk B20 rfl fun w21 C21 k21 => ?_⟩
    have k1821 : Keeps [] w18 w21 := (k19.trans k20 (by simp)).trans k21 (by have := k19.size; simp; omega)
    have T21 := T18.new k1821
    have a21 := a18.new k1821
    refine M.join_by (fun (J4 : Bool → World → Prop) => ∀ w', Aft W w' → J4 true w') (fun w' h => ⟨rfl, h.1⟩) fun J4 hJ4 => M.ite_y (by rw [show ((yi.pf.1, yi.pf.2) : Key) = yi.pf from rfl, hcut, if_pos rfl]; rfl) ((iall_c T21.a).mono fun e w22 g => ?_)
    obtain ⟨r22, rfl, rd22, f22, k22⟩ := g
    have T22 := T21.new k22
    have hl22 := rows_len wy6 (by omega) rd22
    refine ⟨_, rfl, (iall_c T22.b).mono fun e w23 g => ?_⟩
    obtain ⟨r23, rfl, rd23, f23, k23⟩ := g
    have hl23 := rows_len wy6 (by omega) rd23
    have hlen : (((S.set yi).cut yi.pf).cut yi.pf).L.length = U.L.length := by
      apply Nat.le_antisymm
      · refine tab_sub T22.a.tab fun k hk => ?_
        rw [hcut] at hk
        by_cases he : k = yi.pf
        · rw [if_pos he] at hk; cases hk
        · rw [if_neg he] at hk
          rw [← (hap10.2 k (by rw [← hyp]; exact he)).1]; exact hk
      · refine tab_sub T22.b.tab fun k hk => ?_
        have he : k ≠ yi.pf := fun e => by rw [e, hyp, hap10.1] at hk; cases hk
        rw [hcut, if_neg he, (hap10.2 k (by rw [← hyp]; exact he)).1]; exact hk
    refine ⟨_, rfl, M.ite_y (by rw [hl22, hl23]; simp [IS.all]; exact_mod_cast hlen) ((iknown_a ((a21.new k22).new k23)).mono fun e w24 g => ?_)⟩
    obtain ⟨r24, rfl, rfl, a24⟩ := g
    exact ⟨_, rfl, hJ4 _ a24⟩
theorem itlaw_law (W : World) (args : List Value) (h : GdArgs W [(false, .cons (.slice askSh) .nil), (true, waySh), (false, .cons (.int .u32) .nil)] args) : Calls Try.prog 5 args.toArray W fun e W' => e = .returned (.bool true) ∧ Below W.heap.size W W' := by
  obtain ⟨v0, r, rfl, h0, h⟩ := h.one
  obtain ⟨v1, r, rfl, _, hg, h1, h'⟩ := h
  obtain ⟨cs, rfl⟩ := hg rfl
  obtain ⟨x, hx, hxt⟩ := way_of h1
  have hv : (Value.agg cs) = x.agg := by
    have : cs = x.cells.toArray := by rw [← hx]; simp [Value.cells]
    rw [this]
  obtain ⟨v2, r, rfl, h2, h'⟩ := GdArgs.one h'
  cases h'
  obtain ⟨s, l, rfl, hs, _, hm, hok⟩ := asks_of h0
  obtain ⟨n1, rfl, _⟩ := good_int h2
  rw [hv]
  exact (itlaw_c hs hok hm hxt).mono fun e w' ⟨b, he, hb, hw⟩ => by subst hb; exact ⟨he, hw⟩
end Go.Proofs.Ytnkpjlojijppiaa
