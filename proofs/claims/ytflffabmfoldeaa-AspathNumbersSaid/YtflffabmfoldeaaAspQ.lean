/-
  The reference's paths: which may be, what is in them, copies, what is put ahead.
-/
import Derived.Test.YtflffabmfoldeaaAspJoins
namespace Go.Proofs.Ytflffabmfoldeaa
set_option linter.unusedVariables false
set_option linter.unusedSimpArgs false
open Go.Sp

theorem rright_c {w : World} {s : SV} {L : List Sg} (h : Segs w s L) (hn : L.length ≤ 1000000) : Calls Try.prog 43 #[s.v] w (R43 fun r w' => r = rightL L ∧ Keeps [] w w') := by
  have hl := h.len
  refine F43_ok (M.loop1_by (fun x w' => ∃ i : Nat, x = i ∧ i ≤ L.length ∧ (L.take i).all (fun x => okS x.1 x.2.2.length) = true ∧ w' = w) (fun x _ => L.length - x.toNat) ⟨0, rfl, by omega, by simp, rfl⟩ ?_)
  rintro x w1 J ⟨i, rfl, hi, hall, hw⟩ hJ
  obtain rfl := hw.symm
  refine M.ite_by (fun c => ?_) (fun c => ?_)
  · have c := of_decide_eq_true c
    have il : i < L.length := by omega
    have ei := List.getElem?_eq_getElem il
    have hm := List.getElem_mem il
    have htk : L.take (i + 1) = L.take i ++ [L[i]] := by rw [List.take_add_one, ei]; rfl
    generalize L[i] = x at *
    obtain ⟨a, ha⟩ := h.1.some (by omega)
    have e := sg_at h.1 ha ei
    have hxl := uval_len (segs_inn h ei)
    refine M.join_by (fun (J : Bool → World → Prop) => J (!okS x.1 x.2.2.length) w) (M.ite_by (fun c2 => ?_) (fun c2 => ?_)) fun J2 hJ2 => ⟨a, ha, by omega, by omega, _, e.1, ?_⟩
    · have c2 : okS x.1 x.2.2.length = false := by simpa using c2
      refine ⟨?_, Keeps.refl _ _⟩
      unfold rightL
      have : L.all (fun x => okS x.1 x.2.2.length) = false := List.all_eq_false.2 ⟨x, hm, by rw [c2]; simp⟩
      rw [this]; rfl
    · have c2 : okS x.1 x.2.2.length = true := by simpa using c2
      rw [w64 (by omega) (by omega)]
      exact hJ _ _ ⟨i + 1, by omega, by omega, by rw [htk, List.all_append, hall]; simp [c2], rfl⟩ (by omega)
    · have hlen : x.1 = 1 ∨ x.1 = 2 → (M.idx s (i : Int) 2 fun a42 => M.ld SV.v ((a42.add ((i : Int).toNat * 2)).add 1) w fun t46 => M.ite (decide ((t46.len : Int) < (1 : Int))) (J2 true w) (M.idx s (i : Int) 2 fun a49 => M.ld SV.v ((a49.add ((i : Int).toNat * 2)).add 1) w fun t53 => J2 (decide ((255 : Int) < (t53.len : Int))) w)) := fun hk => by
        have hok : (!okS x.1 x.2.2.length) = !(decide (1 ≤ x.2.2.length) && decide (x.2.2.length ≤ 255)) := by
          unfold okS
          rcases hk with hk | hk <;> rw [hk] <;> simp
        rw [hok] at hJ2
        refine ⟨a, ha, by omega, by omega, x.2.1, e.2, M.ite_by (fun c3 => ?_) (fun c3 => ⟨a, ha, by omega, by omega, x.2.1, e.2, ?_⟩)⟩
        · have c3 := of_decide_eq_true c3
          rw [decide_eq_false (by omega)] at hJ2
          exact hJ2
        · have c3 := of_decide_eq_false c3
          rw [decide_eq_true (by omega), Bool.true_and] at hJ2
          dsimp only
          rw [show decide ((255 : Int) < (x.2.1.len : Int)) = !decide (x.2.2.length ≤ 255) by rw [← decide_not]; apply decide_eq_decide.2; omega]
          exact hJ2
      refine M.ite_by (fun c2 => ?_) (fun c2 => hlen (.inl (by simpa using c2)))
      have c2 : x.1 ≠ 1 := by simpa using c2
      refine ⟨a, ha, by omega, by omega, _, e.1, M.ite_by (fun c3 => ?_) (fun c3 => hlen (.inr (by simpa using c3)))⟩
      have c3 : x.1 ≠ 2 := by simpa using c3
      have : okS x.1 x.2.2.length = false := by
        unfold okS
        rw [beq_false_of_ne c2, beq_false_of_ne c3]; rfl
      rw [this] at hJ2
      exact hJ2
  · have c := of_decide_eq_false c
    obtain rfl : i = L.length := by omega
    rw [List.take_length] at hall
    refine ⟨?_, Keeps.refl _ _⟩
    unfold rightL
    rw [hall, Bool.true_and]
    apply decide_eq_decide.2; omega
theorem rhas_c {w : World} {s : SV} {L : List Sg} (h : Segs w s L) (hn : L.length ≤ 1000000) (hin : ∀ x ∈ L, x.2.2.length ≤ 1000000) (av : Int) : Calls Try.prog 45 #[s.v, .int .u32 av] w (R45 fun r w' => r = hasL L av ∧ Keeps [] w w') := by
  have hl := h.len
  refine F45_ok (M.loop1_by (fun x w' => ∃ i : Nat, x = i ∧ i ≤ L.length ∧ hasL (L.take i) av = false ∧ w' = w) (fun x _ => L.length - x.toNat) ⟨0, rfl, by omega, by simp [hasL], rfl⟩ ?_)
  rintro x w1 J ⟨i, rfl, hi, hno, hw⟩ hJ
  obtain rfl := hw.symm
  refine M.ite_by (fun c => ?_) (fun c => ?_)
  · have c := of_decide_eq_true c
    have il : i < L.length := by omega
    have ei := List.getElem?_eq_getElem il
    have hm := List.getElem_mem il
    have htk : L.take (i + 1) = L.take i ++ [L[i]] := by rw [List.take_add_one, ei]; rfl
    have hxn := hin _ hm
    generalize L[i] = x at *
    obtain ⟨a, ha⟩ := h.1.some (by omega)
    have e := sg_at h.1 ha ei
    have hxl := uval_len (segs_inn h ei)
    refine M.loop1_by (fun y w' => ∃ j : Nat, y = j ∧ j ≤ x.2.2.length ∧ ((x.2.2.take j).any fun n => n == av) = false ∧ w' = w) (fun y _ => x.2.2.length - y.toNat) ⟨0, rfl, by omega, by simp, rfl⟩ ?_
    rintro y w4 J2 ⟨j, rfl, hj, hno2, hw⟩ hJ2
    obtain rfl := hw.symm
    refine ⟨a, ha, by omega, by omega, x.2.1, e.2, M.ite_by (fun c2 => ?_) (fun c2 => ?_)⟩
    · have c2 := of_decide_eq_true c2
      have jl : j < x.2.2.length := by omega
      have ej := List.getElem?_eq_getElem jl
      have hmj := List.getElem_mem jl
      have htj : x.2.2.take (j + 1) = x.2.2.take j ++ [x.2.2[j]] := by rw [List.take_add_one, ej]; rfl
      generalize x.2.2[j] = n at *
      refine ⟨a, ha, by omega, by omega, x.2.1, e.2, M.idx_ld (segs_inn h ei) (uval_get ej) (M.ite_by (fun c3 => ?_) (fun c3 => ?_))⟩
      · have : hasL L av = true := List.any_eq_true.2 ⟨x, hm, List.any_eq_true.2 ⟨n, hmj, c3⟩⟩
        exact ⟨this.symm, Keeps.refl _ _⟩
      · have c3 : (n == av) = false := c3
        rw [w64 (by omega) (by omega)]
        exact hJ2 _ _ ⟨j + 1, by omega, by omega, by rw [htj, List.any_append, hno2]; simp [c3], rfl⟩ (by omega)
    · have c2 := of_decide_eq_false c2
      obtain rfl : j = x.2.2.length := by omega
      rw [List.take_length] at hno2
      rw [w64 (by omega) (by omega)]
      refine hJ _ _ ⟨i + 1, by omega, by omega, ?_, rfl⟩ (by omega)
      unfold hasL at hno ⊢
      rw [htk, List.any_append, hno]
      simp only [List.any_cons, List.any_nil, Bool.or_false, Bool.false_or]
      exact hno2
  · have c := of_decide_eq_false c
    obtain rfl : i = L.length := by omega
    rw [List.take_length] at hno
    exact ⟨hno.symm, Keeps.refl _ _⟩
/-- append onto a new slice without numbers, or with some: new memory. -/
theorem copy_u {w : World} {x : SV} {l : List Int} (m : List Int) (hx : Rd 1 w x (uval l)) (hb : m.length + l.length ≤ 1000000) :
    ∃ r w', (Builtin.append_ #[25, 25] 25 #[(SV.mk (some ⟨w.heap.size, 0, none⟩) m.length m.length).v, x.v]).run Try.prog (w.alloc (.cells (uval m).toArray 23)) = .ok (SV.v r) w' ∧ Own 23 1 w' r (uval (m ++ l)) ∧ Keeps [] w w' ∧ (∀ k ∈ r.blk, w.heap.size ≤ k) := by
  have hl := uval_len hx
  obtain ⟨r, w', h1, h2, h3, h4, h5⟩ := app_own (P := Try.prog) (ty := 25) insuSl insuEl (s := SV.mk (some ⟨w.heap.size, 0, none⟩) m.length m.length) (vs := uval m) (Own.new w 23 1 m.length (uval m) (by simp [uval]) (by unfold maxLen; omega)) (hx.keep (Keeps.alloc [] w _) (by simp)) (uval_one _) (by simp; omega)
  refine ⟨r, w', h1, by rw [show uval (m ++ l) = uval m ++ uval l by simp [uval]]; exact h2, (Keeps.alloc [] w (.cells (uval m).toArray 23)).trans h4 ?_, ?_⟩
  · intro x hx; right; simp [SV.blk] at hx; omega
  · intro k hk
    rcases h5 k hk with h5 | h5
    · simp [SV.blk] at h5; omega
    · simp at h5; omega
theorem rcopy_c {w : World} {s : SV} {L : List Sg} (h : Segs w s L) (hn : L.length ≤ 100000) (hin : ∀ x ∈ L, x.2.2.length ≤ 100000) :
    Calls Try.prog 60 #[s.v] w (R60 fun r w' => ∃ L' : List Sg, OwnP w.heap.size w' r L' ∧ L'.map pt = L.map pt ∧ Keeps [] w w') := by
  have hl := h.len
  refine F60_ok (M.loop2_by (fun o x w' => ∃ (i : Nat) (L' : List Sg), x = i ∧ i ≤ L.length ∧ OwnP w.heap.size w' o L' ∧ L'.map pt = (L.take i).map pt ∧ Keeps [] w w') (fun _ x _ => L.length - x.toNat) ⟨0, [], rfl, by omega, OwnP.nil _ _, rfl, Keeps.refl _ _⟩ ?_)
  rintro o x w1 J ⟨i, L', rfl, hi, hP, hL', k1⟩ hJ
  refine M.ite_by (fun c => ?_) (fun c => ?_)
  · have c := of_decide_eq_true c
    have il : i < L.length := by omega
    have ei := List.getElem?_eq_getElem il
    have hm := List.getElem_mem il
    have htk : L.take (i + 1) = L.take i ++ [L[i]] := by rw [List.take_add_one, ei]; rfl
    have hxn := hin _ hm
    generalize L[i] = x at *
    refine M.drew_by ?_
    have kd := Keeps.drew [] w1
    have k2 := k1.trans kd (by simp)
    have hP2 := hP.new kd
    generalize w1.drew = w2 at *
    have h2 := h.new k2
    obtain ⟨a, ha⟩ := h2.1.some (by omega)
    have e := sg_at h2.1 ha ei
    refine ⟨a, ha, by omega, by omega, a, ha, by omega, by omega, _, e.1, x.2.1, e.2, M.new_by ?_⟩
    have h2a := h2.new (Keeps.alloc [] w2 (.cells #[] 23))
    have ea := sg_at h2a.1 ha ei
    obtain ⟨r5, w5, e5, o5, k5, f5⟩ := copy_u [] (segs_inn h2 ei) (by simp; omega)
    have e6 := sg_at (h2.new k5).1 ha ei
    have hsz := k2.size
    refine ⟨ea.2, ea.1, r5, w5, e5, e6.1, (hP2.new k5).snoc (k2.trans k5 (by simp)) rfl (x := (x.1, r5, x.2.2)) o5 (fun y hy => by have := f5 y hy; omega) (fun y hy h => by have := f5 y hy; have := hP2.out.lt y h; omega) (fun z hz y hy h => by have := f5 y h; have := hP2.mem hz y hy; omega) (by
      have : L'.length = i := by
        have := congrArg List.length hL'
        simp at this; omega
      omega) fun r w6 hP6 k06 => ?_⟩
    rw [w64 (by omega) (by omega)]
    refine hJ _ _ _ ⟨i + 1, _, by omega, by omega, hP6, ?_, k06⟩ (by omega)
    rw [htk, List.map_append, List.map_append, hL']; rfl
  · have c := of_decide_eq_false c
    obtain rfl : i = L.length := by omega
    rw [List.take_length] at hL'
    exact ⟨L', hP, hL', k1⟩
end Go.Proofs.Ytflffabmfoldeaa
