/-
  NexthopChain: a chain of so many ways needs just that depth; its cost is the sum; one that leads back to its beginning is a loop.
-/
import Derived.Test.YtecegjimdohmeaaNexDirect
namespace Go.Proofs.Ytecegjimdohmeaa
set_option linter.unusedVariables false
set_option linter.unusedSimpArgs false
open Go.Sp
open Go.RowKit (Below)

/-- The prefix of a chain's link. -/
def ck (i : Nat) : Key := (i * 16777216, 8)
/-- A chain's way. -/
def cw (n : Nat) (c : Nat) (lp : Bool) (i : Nat) : Wy :=
  if i = n then (if lp then ⟨ck i, false, 0, 16777216, c⟩ else ⟨ck i, true, 9, 0, c⟩) else ⟨ck i, false, 0, (i + 1) * 16777216, c⟩
theorem cw_pf (n c : Nat) (lp : Bool) (i : Nat) : (cw n c lp i).pf = ck i := by
  unfold cw; split
  · split <;> rfl
  · rfl
theorem cw_cost (n c : Nat) (lp : Bool) (i : Nat) : (cw n c lp i).cost = c := by
  unfold cw; split
  · split <;> rfl
  · rfl
/-- So much of a chain is there. -/
structure Cn (S : IS) (n c : Nat) (lp : Bool) (m : Nat) : Prop where
  there : ∀ k, (tget S.L k).isSome = true → ∃ i, 1 ≤ i ∧ i ≤ m ∧ k = ck i
  has : ∀ i, 1 ≤ i → i ≤ m → (tget S.L (ck i)).isSome = true
  way : ∀ i, 1 ≤ i → i ≤ m → S.h (ck i) = (cw n c lp i).fix
theorem Cn.zero (n c : Nat) (lp : Bool) : Cn IS.zero n c lp 0 := ⟨fun k h => by simp [IS.zero, tget] at h, fun i h1 h2 => by omega, fun i h1 h2 => by omega⟩
theorem ck_inj {i j : Nat} (h : ck i = ck j) : i = j := by
  have := congrArg Prod.fst h
  simp only [ck] at this
  omega
theorem Cn.set {S : IS} {n c : Nat} {lp : Bool} {m : Nat} (h : Cn S n c lp m) : Cn (S.set (cw n c lp (m + 1))) n c lp (m + 1) where
  there := fun k hk => by
    rw [IS.set_some, cw_pf] at hk
    by_cases he : ck (m + 1) = k
    · exact ⟨m + 1, by omega, by omega, he.symm⟩
    · rw [if_neg he] at hk
      obtain ⟨i, h1, h2, h3⟩ := h.there k hk
      exact ⟨i, h1, by omega, h3⟩
  has := fun i h1 h2 => by
    rw [IS.set_some, cw_pf]
    by_cases he : ck (m + 1) = ck i
    · rw [if_pos he]
    · rw [if_neg he]
      exact h.has i h1 (by
        apply Classical.byContradiction
        intro hc
        exact he (by rw [show i = m + 1 by omega]))
  way := fun i h1 h2 => by
    rw [IS.set_h, cw_pf]
    by_cases he : i = m + 1
    · rw [he, if_pos rfl]
    · rw [if_neg (fun e => he (ck_inj e))]
      exact h.way i h1 (by omega)
theorem ck_right (i : Nat) : rightP (ck i).1 (ck i).2 = true := (rightP_iff _ _).2 ⟨by simp [ck], by simp [ck], by show lowN (i * 16777216) 8 = 0; unfold lowN; rw [show 2 ^ (32 - 8) = 16777216 by decide]; omega⟩
theorem ck_has (i A : Nat) : hasB (ck i) A = decide (A / 16777216 = i) := by
  unfold hasB
  rw [ck_right, Bool.true_and]
  show (topN A 8 == i * 16777216) = _
  unfold topN
  rw [show 2 ^ (32 - 8) = 16777216 by decide, Bool.eq_iff_iff]
  simp only [beq_iff_eq, decide_eq_true_eq]
  omega
theorem Cn.tell {S : IS} {n c : Nat} {lp : Bool} {m : Nat} (h : Cn S n c lp m) (hc : Fin c) {i A : Nat} (h1 : 1 ≤ i) (h2 : i ≤ m) (hA : A / 16777216 = i) : S.tell A = some (cw n c lp i).fix := by
  have hb : S.best A (ck i) := by
    refine ⟨?_, ?_, fun k' h3 h4 => ?_⟩
    · unfold IS.opn
      rw [h.has i h1 h2, h.way i h1 h2]
      have : (cw n c lp i).fix.cost = cleanN c := by show cleanN (cw n c lp i).cost = _; rw [cw_cost]
      rw [this, hc.inf]; rfl
    · rw [ck_has, decide_eq_true hA]
    · unfold IS.opn at h3
      simp only [Bool.and_eq_true] at h3
      obtain ⟨j, _, _, rfl⟩ := h.there k' h3.1
      exact Int.le_refl _
  rw [tell_best hb, h.way i h1 h2]
/-- The first so many links. -/
def cks (j : Nat) : List Key := (List.range j).map fun i => ck (i + 1)
theorem cks_len (j : Nat) : (cks j).length = j := by simp [cks]
theorem cks_snoc (j : Nat) : cks (j + 1) = cks j ++ [ck (j + 1)] := by simp [cks, List.range_succ]
theorem mem_cks {i j : Nat} : ck i ∈ cks j ↔ 1 ≤ i ∧ i ≤ j := by
  unfold cks
  simp only [List.mem_map, List.mem_range]
  constructor
  · rintro ⟨k, hk, he⟩
    have := ck_inj he
    omega
  · rintro ⟨h1, h2⟩
    exact ⟨i - 1, by omega, by rw [show i - 1 + 1 = i by omega]⟩
/-- So many costs together. -/
def sumC (c : Nat) : Nat → Nat
  | 0 => 0
  | j + 1 => addB (sumC c j) c
theorem sumC_le {c : Nat} (j : Nat) : sumC c j ≤ c + j * 4503599627370496 := by
  induction j with
  | zero => simp [sumC]
  | succ j ih =>
    have := addB_le2 (a := sumC c j) (b := c) (m := c + j * 4503599627370496) ih (by omega)
    exact Nat.le_trans this (Nat.le_of_eq (by rw [Nat.add_mul, Nat.one_mul, Nat.add_assoc]))
theorem chain_fol {S : IS} {n c : Nat} {lp : Bool} (h : Cn S n c lp n) (hc : Fin c) (hn : 1 ≤ n) (hs : cleanN c ≤ 4696837146684686336) (hn2 : n ≤ 10) {d : Nat} (hd : d ≤ 8) : ∀ (f j A : Nat), f + j = d + 1 → j ≤ d → j < n → A / 16777216 = j + 1 →
    folA S.tell d f (cks j) (sumC (cleanN c) j) A = if d < n then (0, sumC (cleanN c) d, cks d, 27) else if lp then (0, sumC (cleanN c) n, cks n, 26) else (9, sumC (cleanN c) n, cks n, 0) := by
  intro f
  induction f with
  | zero => intro j A h1 h2; omega
  | succ f ih =>
    intro j A h1 h2 h3 hA
    unfold folA
    rw [h.tell hc (by omega) (by omega) hA]
    have e1 : (cw n c lp (j + 1)).fix.pf = ck (j + 1) := by show (cw n c lp (j + 1)).pf = _; rw [cw_pf]
    have e2 : (cw n c lp (j + 1)).fix.cost = cleanN c := by show cleanN (cw n c lp (j + 1)).cost = _; rw [cw_cost]
    dsimp only
    rw [e1, if_neg (fun hm => by have := mem_cks.1 hm; omega), cks_len]
    by_cases hj : j = d
    · subst hj
      rw [if_pos rfl, if_pos h3]
    rw [if_neg hj, e2]
    have esum : addB (sumC (cleanN c) j) (cleanN c) = sumC (cleanN c) (j + 1) := rfl
    rw [esum, ← cks_snoc]
    by_cases hlast : j + 1 = n
    · rw [if_neg (show ¬ d < n by omega)]
      cases lp with
      | false =>
        have hdir : (cw n c false (j + 1)).fix.direct = true := by simp [cw, hlast, Wy.fix]
        have hlk : (cw n c false (j + 1)).fix.link = 9 := by simp [cw, hlast, Wy.fix]
        have hle := sumC_le (c := cleanN c) (j + 1)
        have : (j + 1) * 4503599627370496 ≤ 10 * 4503599627370496 := Nat.mul_le_mul_right _ (by omega)
        rw [if_pos hdir, hlk, infB_lt (by omega), hlast]
        rfl
      | true =>
        have hdir : (cw n c true (j + 1)).fix.direct = false := by simp [cw, hlast, Wy.fix]
        have hnx : (cw n c true (j + 1)).fix.next = 16777216 := by simp [cw, hlast, Wy.fix]
        rw [if_neg (by rw [hdir]; simp), hnx, hlast]
        cases f with
        | zero => omega
        | succ f =>
          unfold folA
          rw [h.tell hc (i := 1) (by omega) (by omega) (by omega)]
          have e3 : (cw n c true 1).fix.pf = ck 1 := by show (cw n c true 1).pf = _; rw [cw_pf]
          dsimp only
          rw [e3, if_pos (mem_cks.2 ⟨by omega, by omega⟩), if_pos rfl]
    · have hdir : (cw n c lp (j + 1)).fix.direct = false := by simp [cw, hlast, Wy.fix]
      have hnx : (cw n c lp (j + 1)).fix.next = (j + 2) * 16777216 := by simp [cw, hlast, Wy.fix]
      rw [if_neg (by rw [hdir]; simp), hnx]
      exact ih (j + 1) _ (by omega) (by omega) (by omega) (by omega)
theorem shl24 {i : Nat} (h : i < 256) : bShl .u32 (IntKind.u32.wrap (i : Int)) (24 : Int) = ((i * 16777216 : Nat) : Int) := by
  unfold bShl
  rw [show min (24 : Int).toNat IntKind.u32.bits = 24 from rfl, wu32 (n := (i : Int)) (by omega) (by omega), show (2 : Int) ^ 24 = 16777216 by decide, wu32 (n := (i : Int) * 16777216) (by omega) (by omega)]
  omega
theorem nclaw_c {W : World} {p0 p1 : Int} {p2 : Nat} {lp : Bool} (h2 : p2 < 18446744073709551616) :
    Calls Try.prog 3 #[.int .i64 p0, .int .i64 p1, .float .f64 p2, .bool lp] W (R3 fun r w' => r = true ∧ Below W.heap.size W w') := by
  refine F3_ok ((within_c p0 0 9 (by omega) (by omega) (by omega)).mono fun e w1 g => ?_)
  obtain ⟨r1, rfl, _, hr0, hr1, hw⟩ := g
  obtain rfl := hw.symm
  obtain ⟨n', rfl⟩ : ∃ n' : Nat, r1 = (n' : Int) := ⟨r1.toNat, by omega⟩
  have hnw : IntKind.i64.wrap ((1 : Int) + (n' : Int)) = ((n' + 1 : Nat) : Int) := by rw [w64 (by omega) (by omega)]; omega
  refine ⟨_, rfl, ?_⟩
  try dsimp only
  rw [hnw]
  clear hnw
  generalize hn : n' + 1 = n at *
  have hn10 : 1 ≤ n ∧ n ≤ 10 := by omega
  clear hn hr0 hr1
  refine inew_c.mono fun e w2 g => ?_
  obtain ⟨r3, rfl, p, X, rfl, F2, hX, k2⟩ := g
  refine ⟨_, rfl, M.ite_n rfl (M.join_by (fun (J : Nat → World → Prop) => ∀ c, Fin c → cleanN c ≤ 4696837146684686336 → J c w2) (fun c hc hcs => ?_) fun J hJ => ?_)⟩
  · refine M.loop2_by (fun x y w' => ∃ (m : Nat) (X : List Nat) (S : IS), y = ((m + 1 : Nat) : Int) ∧ m ≤ n ∧ IgpAt w' X p S ∧ Cn S n c lp m ∧ S.L.length ≤ m ∧ x = sumC (cleanN c) m ∧ Aft W w' ∧ (∀ y ∈ X, W.heap.size ≤ y)) (fun _ y _ => (20 - y).toNat)
      ⟨0, X, IS.zero, rfl, by omega, F2, Cn.zero _ _ _, by simp [IS.zero], rfl, (Aft.refl W).new k2, hX⟩ ?_
    rintro x y w3 J ⟨m, X, S, rfl, hm, F, C, hSl, rfl, ha, hX⟩ hJ
    refine M.ite_by (fun c1 => ?_) (fun c1 => ?_)
    · have c1 := of_decide_eq_true c1
      have hm1 : m + 1 ≤ n := by omega
      have e1 : IntKind.i64.wrap (((m + 1 : Nat) : Int) + 1) = ((m + 2 : Nat) : Int) := by rw [w64 (by omega) (by omega)]; omega
      rw [e1, shl24 (show m + 1 < 256 by omega), shl24 (show m + 2 < 256 by omega)]
      refine (any_c (show (m + 1) * 16777216 < 4294967296 by omega) 8).mono fun e w4 g => ?_
      obtain ⟨x1, x2, rfl, k, hk, hk8, rfl, rfl, k4⟩ := g
      obtain rfl : k = 8 := by omega
      have htop : topN ((m + 1) * 16777216) 8 = (m + 1) * 16777216 := topN_of_low (by unfold lowN; rw [show 2 ^ (32 - 8) = 16777216 by decide]; omega)
      rw [htop]
      refine ⟨_, _, rfl, M.new_blk fun b w5 hb B5 k5 => M.stA_blk B5 rfl fun w6 B6 k6 => ?_⟩
      have B6 : Blk w6 b 32 (⟨ck (m + 1), false, 0, (m + 2) * 16777216, c⟩ : Wy).cells := B6
      have k36 : Keeps [] w3 w6 := (k4.trans k5 (by simp)).trans k6 (by have := k4.size; simp; omega)
      have hbw : w3.heap.size ≤ b := by have := k4.size; omega
      have hbl := B6.lt
      refine M.join_by (fun (J : World → Prop) => ∀ w', Blk w' b 32 (⟨ck (m + 1), false, 0, if m + 1 = n ∧ lp = true then 16777216 else (m + 2) * 16777216, c⟩ : Wy).cells → Keeps [] w3 w' → J w') (fun w7 B7 k7 => ?_) fun J hJ => ?_
      · refine M.join_by (fun (J : World → Prop) => ∀ w', Blk w' b 32 (cw n c lp (m + 1)).cells → Keeps [] w3 w' → J w') (fun w8 B8 k8 => ?_) fun J hJ => ?_
        · have hxt : (cw n c lp (m + 1)).ty := by
            refine ⟨?_, ?_, by rw [cw_cost]; exact hc.lt⟩
            · rw [cw_pf]; show (m + 1) * 16777216 < _; omega
            · unfold cw
              split
              · split
                · show 16777216 < _; omega
                · show 0 < _; omega
              · show (m + 1 + 1) * 16777216 < _; omega
          have hxr : rightW (cw n c lp (m + 1)) = true := by
            unfold rightW
            rw [cw_pf, ck_right, cw_cost, hc.geq]
            unfold cw
            split
            · split <;> rfl
            · rfl
          have hcall := iput_c (F.keep k8 (by simp)) hxt
          rw [IS.put_fst hxr (by omega)] at hcall
          refine ⟨_, _, _, _, _, _, B8.cs 0 _ rfl, hcall.mono fun e w9 g => ?_⟩
          obtain ⟨a9, e9, rfl, rfl, rfl, X9, F9, k9, f9⟩ := g
          have hfl : floatBits .add .f64 (sumC (cleanN c) m) c = some (sumC (cleanN c) (m + 1)) := by
            have hsl : sumC (cleanN c) m ≤ fInf := by
              have := sumC_le (c := cleanN c) m
              have : m * 4503599627370496 ≤ 10 * 4503599627370496 := Nat.mul_le_mul_right _ (by omega)
              unfold fInf; omega
            rcases geq_zero hc.lt hc.geq with h1 | rfl
            · rw [fl_add hsl h1]
              show _ = some (addB _ (cleanN c))
              rw [cleanN_id h1]
            · have h0 : cleanN 9223372036854775808 = 0 := by decide +kernel
              rw [h0]
              have hz : ∀ m, sumC 0 m = 0 := fun m => by
                induction m with
                | zero => rfl
                | succ m ih => show addB (sumC 0 m) 0 = 0; rw [ih]; decide +kernel
              rw [hz, hz]
              decide +kernel
          refine ⟨_, _, rfl, M.ite_ff ⟨_, hfl, ?_⟩⟩
          exact hJ _ _ _ ⟨m + 1, X9, _, rfl, hm1, F9, C.set, Nat.le_trans (set_len1 _ _) (by omega), rfl, (ha.new k8).step k9 hX, f9.old hX (Nat.le_trans ha.2 k8.size)⟩ (by omega)
        · refine M.join_by (fun (J : Bool → World → Prop) => J (decide (m + 1 = n) && !lp) w7) ?_ fun J hJ' => M.ite_by (fun c => ?_) (fun c => ?_)
          · refine M.ite_by (fun c => ?_) (fun c => ?_)
            · simp only [Bool.and_eq_true, decide_eq_true_eq, Bool.not_eq_true'] at c
              obtain ⟨c1, rfl⟩ := c
              refine M.st_blk B7 (by simp) fun w8 B8 k8 => M.st_blk B8 (by simp) fun w9 B9 k9 => M.st_blk B9 (by simp) fun w10 B10 k10 => hJ w10 ?_ (((k7.trans k8 (by simp; omega)).trans k9 (by simp; omega)).trans k10 (by simp; omega))
              unfold cw
              rw [if_pos c1]
              exact B10
            · refine hJ w7 ?_ k7
              unfold cw
              by_cases hq : m + 1 = n
              · have hlp : lp = true := by cases lp <;> simp [hq] at c ⊢
                subst hlp
                rw [if_pos hq, if_pos rfl]
                rw [if_pos ⟨hq, rfl⟩] at B7
                exact B7
              · rw [if_neg hq]
                rw [if_neg (fun h => hq h.1)] at B7
                exact B7
          · have c : m + 1 = n := by simp at c; omega
            rw [decide_eq_true c, Bool.true_and] at hJ'; exact hJ'
          · have c : ¬ m + 1 = n := by simp at c; omega
            rw [decide_eq_false c, Bool.false_and] at hJ'; exact hJ'
      · refine M.join_by (fun (J : Bool → World → Prop) => J (decide (m + 1 = n) && lp) w6) ?_ fun J hJ' => M.ite_by (fun c => ?_) (fun c => ?_)
        · refine M.ite_by (fun c => ?_) (fun c => ?_)
          · simp only [Bool.and_eq_true, decide_eq_true_eq] at c
            refine M.st_blk B6 (by simp) fun w7 B7 k7 => hJ w7 ?_ (k36.trans k7 (by simp; omega))
            rw [if_pos c]
            exact B7
          · refine hJ w6 ?_ k36
            rw [if_neg (fun h => by simp [h.1, h.2] at c)]
            exact B6
        · have c : m + 1 = n := by simp at c; omega
          rw [decide_eq_true c, Bool.true_and] at hJ'; exact hJ'
        · have c : ¬ m + 1 = n := by simp at c; omega
          rw [decide_eq_false c, Bool.false_and] at hJ'; exact hJ'
    · have c1 := of_decide_eq_false c1
      obtain rfl : m = n := by omega
      refine (within_c p1 1 8 (by omega) (by omega) (by omega)).mono fun e w4 g => ?_
      obtain ⟨r129, rfl, _, hd0, hd1, hw⟩ := g
      obtain rfl := hw.symm
      obtain ⟨d, rfl⟩ : ∃ d : Nat, r129 = (d : Int) := ⟨r129.toNat, by omega⟩
      have hfol := chain_fol C hc hn10.1 hcs hn10.2 (d := d) (by omega) (d + 1) 0 16777221 (by omega) (by omega) (by omega) (by omega)
      have hfol : folA S.tell d (d + 1) [] 0 16777221 = _ := hfol
      refine ⟨_, rfl, (resolve_c F (A := 16777221) (by omega) (d := d) (by omega)).mono fun e w6 g => ?_⟩
      obtain ⟨ln, cc, er, rfl, her, hcc, k6⟩ := g
      refine ⟨_, _, _, rfl, M.new_blk fun b w7 hb B7 k7 => M.stA_blk B7 rfl fun w8 B8 k8 => ?_⟩
      have k68 : Keeps [] w6 w8 := k7.trans k8 (by simp; omega)
      refine (trail_c ((F.keep k6 (by simp)).keep k68 (by simp)) (A := 16777221) (by omega) (d := d) (by omega)).mono fun e w9 g => ?_
      obtain ⟨t9, rfl, rd9, k9⟩ := g
      have a9 := ((ha.new k6).new k68).new k9
      have B9 := B8.keep k9 (by simp)
      have hl := pf_len rd9
      rw [hfol] at her hcc hl
      clear hfol rd9
      refine ⟨_, rfl, M.ite_by (fun c2 => ?_) (fun c2 => ?_)⟩
      · have c2 := of_decide_eq_true c2
        rw [if_pos (show d < m by omega)] at her hcc hl
        have her : er = 27 := her
        subst her
        rw [if_neg (by omega)] at hcc
        obtain ⟨rfl, rfl⟩ := hcc
        refine M.join_by (fun (J : Bool → World → Prop) => ∀ w', Aft W w' → J true w') (fun w' h => ⟨rfl, h.1⟩) fun J hJ => M.ite_y rfl (M.ite_y (by rw [hl, cks_len]; simp) ⟨_, B9.cell 0, M.ite_y rfl ((nknown_a a9).mono fun e w10 g => ?_)⟩)
        obtain ⟨r10, rfl, rfl, a10⟩ := g
        exact ⟨_, rfl, hJ _ a10⟩
      · have c2 := of_decide_eq_false c2
        rw [if_neg (show ¬ d < m by omega)] at her hcc hl
        refine M.ite_by (fun c3 => ?_) (fun c3 => ?_)
        · rw [if_pos c3] at her hcc hl
          have her : er = 26 := her
          subst her
          rw [if_neg (by omega)] at hcc
          obtain ⟨rfl, rfl⟩ := hcc
          refine M.join_by (fun (J : Bool → World → Prop) => ∀ w', Aft W w' → J true w') (fun w' h => ⟨rfl, h.1⟩) fun J hJ => M.ite_y rfl (M.ite_y (by rw [hl, cks_len]; simp) ((nknown_a a9).mono fun e w10 g => ?_))
          obtain ⟨r10, rfl, rfl, a10⟩ := g
          exact ⟨_, rfl, hJ _ a10⟩
        · have c3 : lp = false := c3
          rw [if_neg (show ¬ lp = true by rw [c3]; simp)] at her hcc hl
          have her : er = 0 := her
          subst her
          rw [if_pos rfl] at hcc
          obtain ⟨rfl, rfl⟩ := hcc
          have hle : sumC (cleanN c) m ≤ fInf := by
            have := sumC_le (c := cleanN c) m
            have : m * 4503599627370496 ≤ 10 * 4503599627370496 := Nat.mul_le_mul_right _ (by omega)
            unfold fInf; omega
          refine M.join_by (fun (J : Bool → World → Prop) => ∀ w', Aft W w' → J true w') (fun w' h => ⟨rfl, h.1⟩) fun J hJ => M.ite_y rfl (M.ite_y (by rw [hl, cks_len]; simp) ⟨_, B9.cell 0, M.ite_y rfl ⟨_, B9.cell 1, M.ite_y (by rw [fEql_pos hle hle]; simp) ((nknown_a a9).mono fun e w10 g => ?_)⟩⟩)
          obtain ⟨r10, rfl, rfl, a10⟩ := g
          exact ⟨_, rfl, hJ _ a10⟩
  · have h4 : Fin 4611686018427387904 := Fin.of (by omega) (by decide +kernel) (fun _ => by omega)
    have h5 : cleanN 4611686018427387904 ≤ 4696837146684686336 := by decide +kernel
    refine M.join_by (fun (J : Bool → World → Prop) => J (!(fGeq p2 0 && fLeq p2 4696837146684686336)) w2) ?_ fun J hJ' => M.ite_by (fun c => ?_) (fun c => ?_)
    · refine M.ite_by (fun c => hJ _ h4 h5) (fun c => ?_)
      have c : fGeq p2 0 = true ∧ fLeq p2 4696837146684686336 = true := by
        cases h1 : fGeq p2 0 <;> cases h2 : fLeq p2 4696837146684686336 <;> simp [h1, h2] at c ⊢
      have hle : p2 ≤ fInf → p2 ≤ 4696837146684686336 := fun hle => by
        have := c.2
        rw [fLeq_pos hle (by unfold fInf; omega)] at this
        exact of_decide_eq_true this
      refine hJ _ (Fin.of h2 c.1 fun h => by have := hle h; omega) ?_
      rcases geq_zero h2 c.1 with h1 | rfl
      · rw [cleanN_id h1]; exact hle h1
      · decide +kernel
    · rw [c, Bool.true_and] at hJ'; exact hJ'
    · have c : fGeq p2 0 = false := c
      rw [c, Bool.false_and] at hJ'; exact hJ'
theorem nclaw_law (W : World) (args : List Value) (h : GdArgs W [(false, .cons (.int .i64) .nil), (false, .cons (.int .i64) .nil), (false, .cons .flo .nil), (false, .cons .bool .nil)] args) : Calls Try.prog 3 args.toArray W fun e W' => e = .returned (.bool true) ∧ Below W.heap.size W W' := by
  obtain ⟨v0, r, rfl, h0, h⟩ := h.one
  obtain ⟨v1, r, rfl, h1, h⟩ := h.one
  obtain ⟨v2, r, rfl, h2, h⟩ := h.one
  obtain ⟨v3, r, rfl, h3, h⟩ := h.one
  cases h
  obtain ⟨n0, rfl, _⟩ := good_int h0
  obtain ⟨n1, rfl, _⟩ := good_int h1
  obtain ⟨n2, rfl, hn2⟩ := h2
  obtain ⟨n3, rfl⟩ := h3
  exact (nclaw_c hn2).mono fun e w' ⟨b, he, hb, hw⟩ => by subst hb; exact ⟨he, hw⟩
end Go.Proofs.Ytecegjimdohmeaa
