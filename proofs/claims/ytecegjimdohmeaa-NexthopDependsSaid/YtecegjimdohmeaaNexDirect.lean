/-
  NexthopDirect: an address that has a way with a link of its own is led there, at its cost, whatever other ways there are.
-/
import Derived.Test.YtecegjimdohmeaaNexL
import Derived.Test.YtecegjimdohmeaaSpDiv
namespace Go.Proofs.Ytecegjimdohmeaa
set_option linter.unusedVariables false
set_option linter.unusedSimpArgs false
open Go.Sp
open Go.RowKit (Below)

/-- A cost that is one and has an end. -/
structure Fin (c : Nat) : Prop where
  lt : c < 18446744073709551616
  geq : fGeq c 0 = true
  inf : infB (cleanN c) = false
  eq : fEql (cleanN c) c = true
  le : cleanN c ≤ fInf
theorem infB_lt {x : Nat} (h : x < 9218868437227405312) : infB x = false := by
  unfold infB
  rw [fGtr_pos (by unfold fInf; omega) (by unfold fInf; omega), decide_eq_false (by omega)]
theorem Fin.of {c : Nat} (hc : c < 18446744073709551616) (h : fGeq c 0 = true) (hl : c ≤ fInf → c < 9218868437227405312) : Fin c := by
  rcases geq_zero hc h with h1 | rfl
  · have h2 := hl h1
    exact ⟨hc, h, by rw [cleanN_id h1]; exact infB_lt h2, by rw [cleanN_id h1, fEql_pos h1 h1]; simp, by rw [cleanN_id h1]; exact h1⟩
  · exact ⟨hc, h, by decide +kernel, by decide +kernel, by decide +kernel⟩
theorem ndlaw_c {W : World} {s : SV} {l : List Wy} {p1 p2 p4 : Int} {p3 : Nat} (hs : Rd 6 W s (l.flatMap Wy.cells)) (hok : ∀ x ∈ l, x.ty) (hm : s.len ≤ maxLen) (h3 : p3 < 18446744073709551616) :
    Calls Try.prog 4 #[s.v, .int .u32 p1, .int .i64 p2, .float .f64 p3, .int .i64 p4] W (R4 fun r w' => r = true ∧ Below W.heap.size W w') := by
  refine F4_ok ((tables_c true hs hok hm).mono fun e w1 g => ?_)
  obtain ⟨r1, r2, rfl, p, q, X, E, S, rfl, rfl, F, R, gd, hSl, hX, hE, _, k1⟩ := g
  refine ⟨_, _, rfl, M.ite_n rfl ((knext_c p1).mono fun e w2 g => ?_)⟩
  obtain ⟨r5, rfl, ⟨A, rfl, hA⟩, hw⟩ := g
  obtain rfl := hw.symm
  refine ⟨_, rfl, (within_c p2 0 255 (by omega) (by omega) (by omega)).mono fun e w3 g => ?_⟩
  obtain ⟨r7, rfl, _, hr0, hr1, hw⟩ := g
  obtain rfl := hw.symm
  have a1 : Aft W w1 := (Aft.refl W).new k1
  refine ⟨_, rfl, M.join_by (fun (J : Nat → World → Prop) => ∀ c, Fin c → J c w1) (fun c hc => ?_) fun J hJ => ?_⟩
  · generalize hx : (⟨(A, 32), true, r7, 0, c⟩ : Wy) = x
    have hrp : rightP A 32 = true := (rightP_iff _ _).2 ⟨by omega, by omega, by unfold lowN; simp [Nat.mod_one]⟩
    have hxt : x.ty := by subst hx; exact ⟨hA, by show 0 < _; omega, hc.lt⟩
    have hxr : rightW x = true := by
      subst hx
      unfold rightW
      dsimp only
      rw [hrp, hc.geq, decide_eq_true hr0, decide_eq_true hr1]; rfl
    have hput := IS.put_fst (S := S) hxr (by omega)
    have hcall := iput_c F hxt
    rw [hput] at hcall
    subst hx
    refine hcall.mono fun e w4 g => ?_
    obtain ⟨a4, e4, rfl, rfl, rfl, X4, F4, k4, f4⟩ := g
    have a4 := a1.step k4 hX
    refine ⟨_, _, rfl, M.ite_ff ?_⟩
    generalize hx : (⟨(A, 32), true, r7, 0, c⟩ : Wy) = x at *
    have hpf : x.pf = (A, 32) := by subst hx; rfl
    have hbst : (S.set x).best A (A, 32) := by
      refine ⟨?_, ?_, fun k' h1 h2 => ?_⟩
      · unfold IS.opn
        rw [IS.set_some, if_pos hpf, IS.set_h, if_pos hpf.symm]
        have : x.fix.cost = cleanN c := by subst hx; rfl
        rw [this, hc.inf]; rfl
      · unfold hasB
        rw [hrp]
        have : topN A 32 = A := topN_of_low (by unfold lowN; simp [Nat.mod_one])
        simp [this]
      · unfold hasB at h2
        simp only [Bool.and_eq_true] at h2
        exact ((rightP_iff _ _).1 h2.1).2.1
    have htell := tell_best hbst
    rw [IS.set_h, if_pos hpf.symm] at htell
    have hfol : ∀ (d f : Nat), 1 ≤ d → folA (S.set x).tell d (f + 1) [] 0 A = (r7, cleanN c, [(A, 32)], 0) := by
      intro d f hd
      unfold folA
      simp only [htell]
      have e1 : x.fix.direct = true := by subst hx; rfl
      have e2 : x.fix.cost = cleanN c := by subst hx; rfl
      have e3 : x.fix.link = r7 := by subst hx; rfl
      have e4 : x.fix.pf = (A, 32) := by subst hx; rfl
      rw [if_neg (by simp), if_neg (by simp; omega), if_pos e1, e2, e3, e4, addB_zero hc.le, hc.inf]
      rfl
    refine (within_c p4 1 8 (by omega) (by omega) (by omega)).mono fun e w5 g => ?_
    obtain ⟨r34, rfl, _, hd0, hd1, hw⟩ := g
    obtain rfl := hw.symm
    obtain ⟨d, rfl⟩ : ∃ d : Nat, r34 = (d : Int) := ⟨r34.toNat, by omega⟩
    refine ⟨_, rfl, (resolve_c F4 hA (d := d) (by omega)).mono fun e w6 g => ?_⟩
    obtain ⟨ln, cc, er, rfl, her, hcc, k6⟩ := g
    rw [hfol d d (by omega)] at her hcc
    subst her
    obtain ⟨rfl, rfl⟩ := hcc
    have a6 := a4.new k6
    refine ⟨_, _, _, rfl, M.new_blk fun b w7 hb B7 k7 => M.stA_blk B7 rfl fun w8 B8 k8 => ?_⟩
    have k68 : Keeps [] w6 w8 := k7.trans k8 (by simp; omega)
    have F8 := (F4.keep k6 (by simp)).keep k68 (by simp)
    refine (trail_c F8 hA (d := 1) (by omega)).mono fun e w9 g => ?_
    obtain ⟨t9, rfl, rd9, k9⟩ := g
    rw [hfol 1 1 (by omega)] at rd9
    have hl := pf_len rd9
    have hl1 : t9.len = 1 := by rw [hl]; rfl
    have a9 := (a6.new k68).new k9
    have B9 := B8.keep k9 (by simp)
    obtain ⟨a, ha⟩ := rd9.some (by omega)
    have e9 := pf_at rd9 ha (i := 0) (x := (A, 32)) rfl
    refine ⟨_, rfl, M.join_by (fun (J : Bool → World → Prop) => ∀ w', Aft W w' → J true w') (fun w' h => ⟨rfl, h.1⟩) fun J hJ => M.ite_y rfl ⟨_, B9.cell 0, M.ite_y (by simp) ⟨_, B9.cell 1, M.ite_y hc.eq (M.ite_y (by rw [hl1]; rfl) ⟨a, ha, by omega, by omega, _, e9.1, _, e9.2, M.ite_y (by simp) ((nknown_a a9).mono fun e w10 g => ?_)⟩)⟩⟩⟩
    obtain ⟨r10, rfl, rfl, a10⟩ := g
    exact ⟨_, rfl, hJ _ a10⟩
  · have h4 : Fin 4616189618054758400 := Fin.of (by omega) (by decide +kernel) (fun _ => by omega)
    refine M.join_by (fun (J : Bool → World → Prop) => J (!(fGeq p3 0 && fLss p3 9094988921128908188)) w1) ?_ fun J hJ' => M.ite_by (fun c => ?_) (fun c => ?_)
    · refine M.ite_by (fun c => hJ _ h4) (fun c => ?_)
      have c : fGeq p3 0 = true ∧ fLss p3 9094988921128908188 = true := by
        cases h1 : fGeq p3 0 <;> cases h2 : fLss p3 9094988921128908188 <;> simp [h1, h2] at c ⊢
      refine hJ _ (Fin.of h3 c.1 fun hle => ?_)
      have := c.2
      rw [fLss_pos hle (by unfold fInf; omega)] at this
      have := of_decide_eq_true this
      omega
    · rw [c, Bool.true_and] at hJ'; exact hJ'
    · have c : fGeq p3 0 = false := c
      rw [c, Bool.false_and] at hJ'; exact hJ'
theorem ways_of {W : World} {v : Value} (h : Gd W (.slice waySh) v) : ∃ (s : SV) (l : List Wy), v = s.v ∧ Rd 6 W s (l.flatMap Wy.cells) ∧ l.length = s.len ∧ s.len ≤ maxLen ∧ ∀ x ∈ l, x.ty :=
  rows_of (cells := Wy.cells) (sz := 6) (ok := Wy.ty) rfl wy6 (fun vs hv => way_of hv) h
theorem ndlaw_law (W : World) (args : List Value) (h : GdArgs W [(false, .cons (.slice waySh) .nil), (false, .cons (.int .u32) .nil), (false, .cons (.int .i64) .nil), (false, .cons .flo .nil), (false, .cons (.int .i64) .nil)] args) : Calls Try.prog 4 args.toArray W fun e W' => e = .returned (.bool true) ∧ Below W.heap.size W W' := by
  obtain ⟨v0, r, rfl, h0, h⟩ := h.one
  obtain ⟨v1, r, rfl, h1, h⟩ := h.one
  obtain ⟨v2, r, rfl, h2, h⟩ := h.one
  obtain ⟨v3, r, rfl, h3, h⟩ := h.one
  obtain ⟨v4, r, rfl, h4, h⟩ := h.one
  cases h
  obtain ⟨s, l, rfl, hs, _, hm, hok⟩ := ways_of h0
  obtain ⟨n1, rfl, _⟩ := good_int h1
  obtain ⟨n2, rfl, _⟩ := good_int h2
  obtain ⟨n3, rfl, hn3⟩ := h3
  obtain ⟨n4, rfl, _⟩ := good_int h4
  exact (ndlaw_c hs hok hm hn3).mono fun e w' ⟨b, he, hb, hw⟩ => by subst hb; exact ⟨he, hw⟩
end Go.Proofs.Ytecegjimdohmeaa
