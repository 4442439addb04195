/-
  Paths: which may be, what is in them; copies, and what is put ahead of them.
-/
import Derived.Test.YtflffabmfoldeaaAspI
namespace Go.Proofs.Ytflffabmfoldeaa
set_option linter.unusedVariables false
set_option linter.unusedSimpArgs false
open Go.Sp

def uval (l : List Int) : List Value := l.map (Value.int .u32)
theorem uval_one (l : List Int) : ∀ u ∈ uval l, u.oneCell' = true := by
  intro u hu
  obtain ⟨x, _, rfl⟩ := List.mem_map.1 hu
  rfl
theorem uval_len {w : World} {s : SV} {l : List Int} (h : Rd 1 w s (uval l)) : s.len = l.length := by
  have := h.len
  simp only [uval, List.length_map] at this; omega
theorem uval_get {l : List Int} {i : Nat} {x : Int} (h : l[i]? = some x) : (uval l)[i]? = some (Value.int .u32 x) := by simp [uval, h]
/-- What a part says. -/
def pt (x : Sg) : Int × List Int := (x.1, x.2.2)
def okS (k : Int) (n : Nat) : Bool := (k == 1 || k == 2) && (decide (1 ≤ n) && decide (n ≤ 255))
def rightL (L : List Sg) : Bool := L.all (fun x => okS x.1 x.2.2.length) && decide (L.length ≤ 16)
def hasL (L : List Sg) (a : Int) : Bool := L.any fun x => x.2.2.any fun n => n == a
theorem right1_c {w : World} (k : Int) (s : SV) : Calls Try.prog 30 #[.agg #[.int .i64 k, s.v]] w (R30 fun r w' => r = okS k s.len ∧ Keeps [] w w') := by
  refine F30_ok (M.new_blk fun b w1 hb B k1 => M.join_by (fun (J : Bool → World → Prop) => J (okS k s.len) w1) ⟨rfl, k1⟩ fun J hJ => ⟨_, B.cell 0, ?_⟩)
  unfold okS at hJ
  have e1 : decide ((1 : Int) ≤ (s.len : Int)) = decide (1 ≤ s.len) := by apply decide_eq_decide.2; omega
  have e2 : decide ((s.len : Int) ≤ (255 : Int)) = decide (s.len ≤ 255) := by apply decide_eq_decide.2; omega
  refine M.ite_by (fun c => ?_) (fun c => ?_)
  · rw [c, Bool.true_or, Bool.true_and] at hJ
    refine ⟨_, B.cell 1, ?_⟩
    try dsimp only
    rw [e1]
    refine M.ite_by (fun c1 => ⟨_, B.cell 1, ?_⟩) (fun c1 => ?_)
    · rw [c1, Bool.true_and] at hJ
      try dsimp only
      rw [e2]; exact hJ
    · rw [c1, Bool.false_and] at hJ; exact hJ
  · rw [c, Bool.false_or] at hJ
    refine ⟨_, B.cell 0, M.ite_by (fun c1 => ?_) (fun c1 => ?_)⟩
    · rw [c1, Bool.true_and] at hJ
      refine ⟨_, B.cell 1, ?_⟩
      try dsimp only
      rw [e1]
      refine M.ite_by (fun c1 => ⟨_, B.cell 1, ?_⟩) (fun c1 => ?_)
      · rw [c1, Bool.true_and] at hJ
        try dsimp only
        rw [e2]; exact hJ
      · rw [c1, Bool.false_and] at hJ; exact hJ
    · rw [c1, Bool.false_and] at hJ; exact hJ
theorem segs_inn {w : World} {s : SV} {L : List Sg} (h : Segs w s L) {i : Nat} {x : Sg} (hx : L[i]? = some x) : Rd 1 w x.2.1 (uval x.2.2) := h.2 x (List.mem_of_getElem? hx)
theorem apright_c {w : World} {s : SV} {L : List Sg} (h : Segs w s L) (hn : L.length ≤ 1000000) : Calls Try.prog 12 #[s.v] w (R12 fun r w' => r = rightL L ∧ Keeps [] w w') := by
  have hl := h.len
  refine F12_ok (M.loop1_by (fun x w' => ∃ i : Nat, x = i ∧ i ≤ L.length ∧ (L.take i).all (fun x => okS x.1 x.2.2.length) = true ∧ Keeps [] w w') (fun x _ => L.length - x.toNat) ⟨0, rfl, by omega, by simp, Keeps.refl _ _⟩ ?_)
  rintro x w1 J ⟨i, rfl, hi, hall, k1⟩ hJ
  refine M.ite_by (fun c => ?_) (fun c => ?_)
  · have c := of_decide_eq_true c
    have il : i < L.length := by omega
    have ei := List.getElem?_eq_getElem il
    have hm := List.getElem_mem il
    have htk : L.take (i + 1) = L.take i ++ [L[i]] := by rw [List.take_add_one, ei]; rfl
    generalize L[i] = x at *
    have h1 := h.new k1
    obtain ⟨a, ha⟩ := h1.1.some (by omega)
    have e := sg_at h1.1 ha ei
    have hxl := uval_len (segs_inn h1 ei)
    refine ⟨a, ha, by omega, by omega, _, e.1, x.2.1, e.2, M.new_blk fun b w2 hb B2 k2 => M.stA_blk B2 rfl fun w3 B3 k3 => ⟨_, B3.cell 0, _, B3.cell 1, (right1_c x.1 x.2.1).mono fun e w4 g => ?_⟩⟩
    obtain ⟨r, rfl, rfl, k4⟩ := g
    rw [hxl]
    have k04 := ((k1.trans k2 (by simp)).trans k3 (by have := k1.size; simp; omega)).trans k4 (by simp)
    refine ⟨_, rfl, M.ite_by (fun c2 => ?_) (fun c2 => ?_)⟩
    · have c2 : okS x.1 x.2.2.length = false := by simpa using c2
      refine ⟨?_, k04⟩
      unfold rightL
      have : L.all (fun x => okS x.1 x.2.2.length) = false := List.all_eq_false.2 ⟨x, hm, by rw [c2]; simp⟩
      rw [this]; rfl
    · have c2 : okS x.1 x.2.2.length = true := by simpa using c2
      rw [w64 (by omega) (by omega)]
      exact hJ _ _ ⟨i + 1, by omega, by omega, by rw [htk, List.all_append, hall]; simp [c2], k04⟩ (by omega)
  · have c := of_decide_eq_false c
    obtain rfl : i = L.length := by omega
    rw [List.take_length] at hall
    refine ⟨?_, k1⟩
    unfold rightL
    rw [hall, Bool.true_and]
    apply decide_eq_decide.2; omega
theorem aphas_c {w : World} {s : SV} {L : List Sg} (h : Segs w s L) (hn : L.length ≤ 1000000) (hin : ∀ x ∈ L, x.2.2.length ≤ 1000000) (av : Int) : Calls Try.prog 16 #[s.v, .int .u32 av] w (R16 fun r w' => r = hasL L av ∧ Keeps [] w w') := by
  have hl := h.len
  refine F16_ok (M.join_by (fun (J : Bool → World → Prop) => ∀ w', Keeps [] w w' → J (hasL L av) w') (fun w' k' => ⟨rfl, k'⟩) fun J1 hJ1 => M.loop2_by (fun b x w' => ∃ i : Nat, x = i ∧ i ≤ L.length ∧ b = false ∧ hasL (L.take i) av = false ∧ Keeps [] w w') (fun _ x _ => L.length - x.toNat) ⟨0, rfl, by omega, rfl, by simp [hasL], Keeps.refl _ _⟩ ?_)
  rintro b x w1 J ⟨i, rfl, hi, rfl, hno, k1⟩ hJ
  refine M.ite_by (fun c => ?_) (fun c => ?_)
  · have c := of_decide_eq_true c
    have il : i < L.length := by omega
    have ei := List.getElem?_eq_getElem il
    have hm := List.getElem_mem il
    have htk : L.take (i + 1) = L.take i ++ [L[i]] := by rw [List.take_add_one, ei]; rfl
    have hxn := hin _ hm
    generalize L[i] = x at *
    have h1 := h.new k1
    obtain ⟨a, ha⟩ := h1.1.some (by omega)
    have e := sg_at h1.1 ha ei
    have hxl := uval_len (segs_inn h1 ei)
    refine ⟨a, ha, by omega, by omega, _, e.1, x.2.1, e.2, M.new_blk fun b w2 hb B2 k2 => M.stA_blk B2 rfl fun w3 B3 k3 => ⟨_, B3.cell 1, ?_⟩⟩
    have k13 : Keeps [] w1 w3 := k2.trans k3 (by simp; omega)
    have h3 := segs_inn (h1.new k13) ei
    refine M.loop2_by (fun b y w' => ∃ j : Nat, y = j ∧ j ≤ x.2.2.length ∧ b = false ∧ ((x.2.2.take j).any fun n => n == av) = false ∧ w' = w3) (fun _ y _ => x.2.2.length - y.toNat) ⟨0, rfl, by omega, rfl, by simp, rfl⟩ ?_
    rintro b' y w4 J2 ⟨j, rfl, hj, rfl, hno2, hw⟩ hJ2
    obtain rfl := hw.symm
    refine M.ite_by (fun c2 => ?_) (fun c2 => ?_)
    · have c2 := of_decide_eq_true c2
      have jl : j < x.2.2.length := by omega
      have ej := List.getElem?_eq_getElem jl
      have hmj := List.getElem_mem jl
      have htj : x.2.2.take (j + 1) = x.2.2.take j ++ [x.2.2[j]] := by rw [List.take_add_one, ej]; rfl
      generalize x.2.2[j] = n at *
      refine M.idx_ld h3 (uval_get ej) (M.ite_by (fun c3 => ?_) (fun c3 => ?_))
      · have : hasL L av = true := List.any_eq_true.2 ⟨x, hm, List.any_eq_true.2 ⟨n, hmj, c3⟩⟩
        have := hJ1 w3 (k1.trans k13 (by simp))
        rw [‹hasL L av = true›] at this
        exact this
      · have c3 : (n == av) = false := c3
        rw [w64 (by omega) (by omega)]
        exact hJ2 _ _ _ ⟨j + 1, by omega, by omega, rfl, by rw [htj, List.any_append, hno2]; simp [c3], rfl⟩ (by omega)
    · have c2 := of_decide_eq_false c2
      obtain rfl : j = x.2.2.length := by omega
      rw [List.take_length] at hno2
      rw [w64 (by omega) (by omega)]
      refine hJ _ _ _ ⟨i + 1, by omega, by omega, rfl, ?_, k1.trans k13 (by simp)⟩ (by omega)
      unfold hasL at hno ⊢
      rw [htk, List.any_append, hno]
      simp only [List.any_cons, List.any_nil, Bool.or_false, Bool.false_or]
      exact hno2
  · have c := of_decide_eq_false c
    obtain rfl : i = L.length := by omega
    rw [List.take_length] at hno
    have := hJ1 w1 k1
    rw [hno] at this
    exact this
theorem cloneu_c {w : World} {s : SV} {l : List Int} (h : Rd 1 w s (uval l)) (hb : l.length ≤ 1000000) :
    Calls Try.prog 49 #[s.v] w (R49 fun r w' => Own 23 1 w' r (uval l) ∧ (∀ y ∈ r.blk, w.heap.size ≤ y) ∧ Keeps [] w w') := by
  have hl := uval_len h
  refine F49_ok (M.ite_by (fun c => ?_) (fun c => ?_))
  · have hn : s.a = none := by cases hs : s.a <;> simp [hs] at c ⊢
    have := (h.none hn).1
    have hle : l = [] := List.eq_nil_of_length_eq_zero (by omega)
    subst hle
    exact ⟨Own.nil _ _ _, by simp [SV.blk], Keeps.refl _ _⟩
  · refine new0_k (Keeps.refl [] w) fun b w1 g1 g2 f1 o1 k1 k01 => app_k insuSl insuEl k01 f1 o1 (h.keep k1 (by simp)) (uval_one _) (by simp only []; omega) fun r w2 o2 n2 f2 _ k02 => ?_
    exact ⟨by simpa using o2, f2, k02⟩
/-- A path that lies in memory of its own, from block n on. -/
structure OwnP (n : Nat) (w : World) (s : SV) (L : List Sg) : Prop where
  out : Own 27 2 w s (sgvs L)
  inn : ∀ x ∈ L, Own 23 1 w x.2.1 (uval x.2.2)
  low : ∀ y ∈ s.blk, n ≤ y
  lowi : ∀ x ∈ L, ∀ y ∈ x.2.1.blk, n ≤ y
  apart : ∀ x ∈ L, ∀ y ∈ x.2.1.blk, y ∉ s.blk
  pair : L.Pairwise fun a b => ∀ y ∈ a.2.1.blk, y ∉ b.2.1.blk
theorem OwnP.nil (n : Nat) (w : World) : OwnP n w SV.nil [] := ⟨Own.nil _ _ _, by simp, by simp [SV.blk], by simp, by simp, List.Pairwise.nil⟩
theorem OwnP.segs {n : Nat} {w : World} {s : SV} {L : List Sg} (h : OwnP n w s L) : Segs w s L := ⟨h.out.rd, fun x hx => (h.inn x hx).rd⟩
theorem OwnP.new {n : Nat} {w w' : World} {s : SV} {L : List Sg} (h : OwnP n w s L) (k : Keeps [] w w') : OwnP n w' s L :=
  ⟨h.out.keep k (by simp), fun x hx => (h.inn x hx).keep k (by simp), h.low, h.lowi, h.apart, h.pair⟩
theorem OwnP.mem {n : Nat} {w : World} {s : SV} {L : List Sg} (h : OwnP n w s L) {x : Sg} (hx : x ∈ L) : ∀ y ∈ x.2.1.blk, y < w.heap.size := (h.inn x hx).lt
theorem OwnP.lower {n m : Nat} {w : World} {s : SV} {L : List Sg} (h : OwnP n w s L) (hm : m ≤ n) : OwnP m w s L :=
  ⟨h.out, h.inn, fun y hy => Nat.le_trans hm (h.low y hy), fun x hx y hy => Nat.le_trans hm (h.lowi x hx y hy), h.apart, h.pair⟩
theorem OwnP.len {n : Nat} {w : World} {s : SV} {L : List Sg} (h : OwnP n w s L) : s.len = L.length := h.segs.len
/-- One part more. -/
theorem OwnP.snoc {n : Nat} {w0 w : World} {s : SV} {L : List Sg} (h : OwnP n w s L) (k0 : Keeps [] w0 w) (hn : n = w0.heap.size) {x : Sg} (ho : Own 23 1 w x.2.1 (uval x.2.2)) (hl : ∀ y ∈ x.2.1.blk, n ≤ y) (h1 : ∀ y ∈ x.2.1.blk, y ∉ s.blk) (h2 : ∀ z ∈ L, ∀ y ∈ z.2.1.blk, y ∉ x.2.1.blk) (hb : L.length ≤ 1000000)
    {K : SV → World → Prop} (hK : ∀ r w', OwnP n w' r (L ++ [x]) → Keeps [] w0 w' → K r w') :
    M.new (.cells #[Value.int .i64 x.1, x.2.1.v] 27) w fun b w' => M.app Try.prog 24 24 24 s (SV.v (SV.mk (some b) 1 1)) w' K := by
  have hsl := h.len
  refine M.new_by ?_
  have ka := Keeps.alloc [] w (.cells #[Value.int .i64 x.1, x.2.1.v] 27)
  have hr := (Own.new w 27 2 1 (sgvs [x]) rfl (by decide)).rd
  obtain ⟨r, w', v1, v2, v3, v4, v5⟩ := app_own (P := Try.prog) (ty := 24) insgSl insgEl (h.out.keep ka (by simp)) (x := ⟨some ⟨w.heap.size, 0, none⟩, 1, 1⟩) (news := sgvs [x]) hr (sgvs_one _) (by simp only []; omega)
  have hsz : (w.alloc (.cells #[Value.int .i64 x.1, x.2.1.v] 27)).heap.size = w.heap.size + 1 := by simp
  have k1 : Keeps s.blk w w' := ka.up.and v4
  have hkeep : ∀ {t : SV} {l : List Int}, Own 23 1 w t (uval l) → (∀ y ∈ t.blk, y ∉ s.blk) → Own 23 1 w' t (uval l) := fun ho hd => ho.keep k1 hd
  have hrb : ∀ {t : SV} {l : List Int}, Own 23 1 w t (uval l) → (∀ y ∈ t.blk, y ∉ s.blk) → ∀ y ∈ t.blk, y ∉ r.blk := fun ho hd y hy hr => by
    rcases v5 y hr with h3 | h3
    · exact hd y hy h3
    · have := ho.lt y hy; omega
  refine ⟨r, w', v1, hK r w' ⟨by rw [sgvs_app]; exact v2, ?_, ?_, ?_, ?_, ?_⟩ (k0.trans k1 (fun y hy => .inr (by have := h.low y hy; omega)))⟩
  · intro z hz
    rcases List.mem_append.1 hz with hz | hz
    · exact hkeep (h.inn z hz) (h.apart z hz)
    · obtain rfl := List.mem_singleton.1 hz
      exact hkeep ho h1
  · intro y hy
    rcases v5 y hy with h3 | h3
    · exact h.low y h3
    · have := k0.size; omega
  · intro z hz
    rcases List.mem_append.1 hz with hz | hz
    · exact h.lowi z hz
    · obtain rfl := List.mem_singleton.1 hz
      exact hl
  · intro z hz
    rcases List.mem_append.1 hz with hz | hz
    · exact hrb (h.inn z hz) (h.apart z hz)
    · obtain rfl := List.mem_singleton.1 hz
      exact hrb ho h1
  · rw [List.pairwise_append]
    refine ⟨h.pair, List.pairwise_singleton _ _, fun a ha b hb => ?_⟩
    obtain rfl := List.mem_singleton.1 hb
    exact h2 a ha
theorem apcopy_c {w : World} {s : SV} {L : List Sg} (h : Segs w s L) (hn : L.length ≤ 100000) (hin : ∀ x ∈ L, x.2.2.length ≤ 1000000) :
    Calls Try.prog 27 #[s.v] w (R27 fun r w' => ∃ L' : List Sg, OwnP w.heap.size w' r L' ∧ L'.map pt = L.map pt ∧ Keeps [] w w') := by
  have hl := h.len
  refine F27_ok (M.loop2_by (fun o x w' => ∃ (i : Nat) (L' : List Sg), x = i ∧ i ≤ L.length ∧ OwnP w.heap.size w' o L' ∧ L'.map pt = (L.take i).map pt ∧ Keeps [] w w') (fun _ x _ => L.length - x.toNat) ⟨0, [], rfl, by omega, OwnP.nil _ _, rfl, Keeps.refl _ _⟩ ?_)
  rintro o x w1 J ⟨i, L', rfl, hi, hP, hL', k1⟩ hJ
  refine M.ite_by (fun c => ?_) (fun c => ?_)
  · have c := of_decide_eq_true c
    have il : i < L.length := by omega
    have ei := List.getElem?_eq_getElem il
    have hm := List.getElem_mem il
    have htk : L.take (i + 1) = L.take i ++ [L[i]] := by rw [List.take_add_one, ei]; rfl
    have hxn := hin _ hm
    generalize L[i] = x at *
    have h1 := h.new k1
    obtain ⟨a, ha⟩ := h1.1.some (by omega)
    have e := sg_at h1.1 ha ei
    refine ⟨a, ha, by omega, by omega, _, e.1, x.2.1, e.2, M.new_blk fun b w2 hb B2 k2 => M.stA_blk B2 rfl fun w3 B3 k3 => M.drew_by ?_⟩
    have kd := Keeps.drew [] w3
    have k13 : Keeps [] w1 w3.drew := (k2.trans k3 (by simp; omega)).trans kd (by simp)
    have B4 := B3.keep kd (by simp)
    refine ⟨_, B4.cell 0, _, B4.cell 1, (cloneu_c (segs_inn (h1.new k13) ei) hxn).mono fun e w5 g => ?_⟩
    obtain ⟨r5, rfl, o5, f5, k5⟩ := g
    have k15 := k13.trans k5 (by simp)
    have hsz := k13.size
    have hP5 := hP.new k15
    refine ⟨_, rfl, (B4.keep k5 (by simp)).cell 0, hP5.snoc (k1.trans k15 (by simp)) rfl (x := (x.1, r5, x.2.2)) o5 (fun y hy => by have := f5 y hy; have := k1.size; omega) (fun y hy h => by have := f5 y hy; have := hP.out.lt y h; omega) (fun z hz y hy h => by have := f5 y h; have := hP.mem hz y hy; omega) (by
      have : L'.length = i := by
        have := congrArg List.length hL'
        simp at this; omega
      omega) fun r w6 hP6 k06 => ?_⟩
    rw [w64 (by omega) (by omega)]
    refine hJ _ _ _ ⟨i + 1, _, by omega, by omega, hP6, ?_, k06⟩ (by omega)
    rw [htk, List.map_append, List.map_append, hL']; rfl
  · have c := of_decide_eq_false c
    obtain rfl : i = L.length := by omega
    rw [List.take_length] at hL'
    exact ⟨L', hP, hL', k1⟩
end Go.Proofs.Ytflffabmfoldeaa
