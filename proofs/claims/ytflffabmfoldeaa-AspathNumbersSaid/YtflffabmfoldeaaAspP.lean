/-
  What is put ahead of a path.
-/
import Derived.Test.YtflffabmfoldeaaAspC
namespace Go.Proofs.Ytflffabmfoldeaa
set_option linter.unusedVariables false
set_option linter.unusedSimpArgs false
open Go.Sp

/-- One number ahead of a path. -/
def pre1 (l : List (Int × List Int)) (av : Int) : List (Int × List Int) := match l with
  | [] => [(2, [av])]
  | (k, a) :: m => if k = 2 ∧ a.length < 255 then (2, av :: a) :: m else (2, [av]) :: (k, a) :: m
def headOk : List (Int × List Int) → Bool
  | [] => false
  | (k, a) :: _ => k == 2 && decide (a.length < 255)
theorem pre1_new {l : List (Int × List Int)} (h : headOk l = false) (av : Int) : pre1 l av = (2, [av]) :: l := by
  unfold pre1
  split
  · rfl
  · rename_i k a m
    rw [if_neg]
    rintro ⟨h1, h2⟩
    simp [headOk, h1, h2] at h
theorem pre1_in {k : Int} {a : List Int} {m : List (Int × List Int)} (h : headOk ((k, a) :: m) = true) (av : Int) : k = 2 ∧ a.length < 255 ∧ pre1 ((k, a) :: m) av = (2, av :: a) :: m := by
  simp only [headOk, Bool.and_eq_true, beq_iff_eq, decide_eq_true_eq] at h
  refine ⟨h.1, h.2, ?_⟩
  show (if k = 2 ∧ a.length < 255 then (2, av :: a) :: m else (2, [av]) :: (k, a) :: m) = _
  rw [if_pos h]
def preN (av : Int) : Nat → List (Int × List Int) → List (Int × List Int)
  | 0, l => l
  | n + 1, l => pre1 (preN av n l) av
theorem pre1_len (l : List (Int × List Int)) (av : Int) : (pre1 l av).length ≤ l.length + 1 := by
  unfold pre1
  split
  · simp
  · split <;> simp
theorem preN_len (av : Int) (l : List (Int × List Int)) : ∀ n, (preN av n l).length ≤ l.length + n
  | 0 => Nat.le_refl _
  | n + 1 => by
    have h1 := preN_len av l n
    have h2 := pre1_len (preN av n l) av
    show (pre1 (preN av n l) av).length ≤ _
    omega
theorem sgvs_set (x : Sg) (L : List Sg) (v : SV) : (sgvs (x :: L)).set 1 v.v = sgvs ((x.1, v, x.2.2) :: L) := rfl
theorem sgvs_set2 (x : Sg) (L : List Sg) (v : SV) (a : List Int) : (sgvs (x :: L)).set 1 v.v = sgvs ((x.1, v, a) :: L) := rfl
/-- A new part at the head. -/
theorem prep_new {n : Nat} {w0 w : World} {s : SV} {L : List Sg} (h : OwnP n w s L) (k0 : Keeps [] w0 w) (hn : n = w0.heap.size) (hb : L.length ≤ 1000000) (av : Int) {K : SV → World → Prop} (hK : ∀ r w' (x : Sg), pt x = (2, [av]) → OwnP n w' r (x :: L) → Keeps [] w0 w' → K r w') :
    M.new (.cells #[Value.int .u32 av] 23) w fun b1 w1 => M.new (.cells #[Value.int .i64 2, (SV.mk (some b1) 1 1).v] 27) w1 fun b2 w2 => Calls Try.prog 29 #[s.v, .int .i64 0, (SV.mk (some b2) 1 1).v] w2 (R29 K) := by
  have hsl := h.len
  refine M.new_by ?_
  have k1 := Keeps.alloc [] w (.cells #[Value.int .u32 av] 23)
  have o1 := Own.new w 23 1 1 (uval [av]) rfl (by decide)
  have hs1 : (w.alloc (.cells #[Value.int .u32 av] 23)).heap.size = w.heap.size + 1 := by simp
  generalize hw1 : w.alloc (.cells #[Value.int .u32 av] 23) = w1 at *
  have o1 : Own 23 1 w1 ⟨some ⟨w.heap.size, 0, none⟩, 1, 1⟩ (uval [av]) := by rw [← hw1]; exact o1
  refine M.new_blk fun b w2 hb2 B2 k2 => ?_
  have k02 := k1.trans k2 (by simp)
  have h2 := h.new k02
  have hbs : b ∉ s.blk := fun hm => by have := h.out.lt b hm; omega
  refine (insg_c h2.out B2 rfl hbs (by simp [Value.oneCell']) (sgvs_one _) (by omega)).mono fun e w3 g => ?_
  obtain ⟨r, rfl, o3, n3, f3, k3⟩ := g
  have hs2 := k2.size
  have hd1 : ∀ y ∈ (SV.mk (some ⟨w.heap.size, 0, none⟩) 1 1).blk, y ∉ s.blk := fun y hy hm => by
    simp [SV.blk] at hy
    have := h.out.lt y hm; omega
  have o1' := (o1.keep k2 (by simp)).keep k3 hd1
  have hrb : ∀ {y : Nat}, y ∉ s.blk → y < w2.heap.size → y ∉ r.blk := fun hd hlt hr => by
    rcases f3 _ hr with h4 | h4
    · exact hd h4
    · omega
  refine ⟨_, rfl, hK r w3 (2, ⟨some ⟨w.heap.size, 0, none⟩, 1, 1⟩, [av]) rfl ⟨o3, ?_, ?_, ?_, ?_, ?_⟩ ((k0.trans k02 (by simp)).trans k3 (fun y hy => .inr (by have := h.low y hy; omega)))⟩
  · intro z hz
    rcases List.mem_cons.1 hz with rfl | hz
    · exact o1'
    · exact (h2.inn z hz).keep k3 (h.apart z hz)
  · intro y hy
    rcases f3 y hy with h4 | h4
    · exact h.low y h4
    · have := k0.size; omega
  · intro z hz y hy
    rcases List.mem_cons.1 hz with rfl | hz
    · simp [SV.blk] at hy
      have := k0.size; omega
    · exact h.lowi z hz y hy
  · intro z hz y hy
    rcases List.mem_cons.1 hz with rfl | hz
    · have hy2 := hy
      simp [SV.blk] at hy2
      exact hrb (hd1 y hy) (by omega)
    · exact hrb (h.apart z hz y hy) (by have := h.mem hz y hy; omega)
  · rw [List.pairwise_cons]
    refine ⟨fun z hz y hy hm => ?_, h.pair⟩
    simp [SV.blk] at hy
    have := h.mem hz y hm; omega
/-- One number more in the part at the head. -/
theorem prep_in {n : Nat} {w0 w : World} {s : SV} {x : Sg} {m : List Sg} (h : OwnP n w s (x :: m)) (k0 : Keeps [] w0 w) (hn : n = w0.heap.size) (hb : x.2.2.length ≤ 1000) (av : Int) {K : World → Prop} (hK : ∀ w' (r : SV), OwnP n w' s ((x.1, r, av :: x.2.2) :: m) → Keeps [] w0 w' → K w') :
    M.idx s (0 : Int) 2 fun a => M.ld SV.v ((a.add ((0 : Int).toNat * 2)).add 1) w fun t => M.new (.cells #[Value.int .u32 av] 23) w fun b1 w1 => Calls Try.prog 28 #[t.v, .int .i64 0, (SV.mk (some b1) 1 1).v] w1 (R28 fun r w2 => M.idx s (0 : Int) 2 fun a => M.st ((a.add ((0 : Int).toNat * 2)).add 1) r.v w2 K) := by
  have hsl := h.len
  simp only [List.length_cons] at hsl
  obtain ⟨a, ha⟩ := h.out.rd.some (by omega)
  have e := sg_at h.out.rd ha (i := 0) rfl
  have hx : x ∈ x :: m := List.mem_cons_self
  have hxo := h.inn x hx
  refine ⟨a, ha, by omega, by omega, x.2.1, e.2, M.new_blk fun b w3 hb3 B3 k3 => ?_⟩
  have hxo3 := hxo.keep k3 (by simp)
  have hbx : b ∉ x.2.1.blk := fun hm => by have := hxo.lt b hm; omega
  have hxl := uval_len hxo.rd
  refine (insu_c hxo3 B3 rfl hbx (by simp [Value.oneCell']) (uval_one _) (by omega)).mono fun e4 w4 g => ?_
  obtain ⟨r4, rfl, o4, n4, f4, k4⟩ := g
  have k24 : Keeps x.2.1.blk w w4 := k3.up.and k4
  have hout4 := h.out.keep k24 (fun y hy hm => h.apart x hx y hm hy)
  have hsz3 := k3.size
  have hpw := List.pairwise_cons.1 h.pair
  have hr4s : ∀ y ∈ r4.blk, y ∉ s.blk := fun y hy hm => by
    rcases f4 y hy with h3 | h3
    · exact h.apart x hx y h3 hm
    · have := h.out.lt y hm; omega
  have hvl : 1 < (sgvs (x :: m)).length := by simp [sgvs, sgv]
  obtain ⟨p1, p2, p3, p4⟩ := hout4.put ha (j := 1) hvl r4.v
  rw [sgvs_set2 x m r4 (av :: x.2.2)] at p3
  have ez : a.add ((0 : Int).toNat * 2) = a := add_zero a
  have k04 : Keeps [] w0 w4 := k0.trans k24 (fun y hy => .inr (by have := h.lowi x hx y hy; omega))
  refine ⟨_, rfl, a, ha, by omega, by omega, ?_⟩
  dsimp only
  rw [ez]
  refine ⟨p1, p2, hK _ r4 ⟨p3, ?_, h.low, ?_, ?_, ?_⟩ (k04.trans p4 (fun y hy => .inr (by have := h.low y hy; omega)))⟩
  · intro z hz
    rcases List.mem_cons.1 hz with rfl | hz
    · exact o4.keep p4 hr4s
    · exact ((h.inn z (List.mem_cons_of_mem _ hz)).keep k24 (fun y hy hm => hpw.1 z hz y hm hy)).keep p4 (h.apart z (List.mem_cons_of_mem _ hz))
  · intro z hz y hy
    rcases List.mem_cons.1 hz with rfl | hz
    · rcases f4 y hy with h3 | h3
      · exact h.lowi x hx y h3
      · have := k0.size; omega
    · exact h.lowi z (List.mem_cons_of_mem _ hz) y hy
  · intro z hz y hy
    rcases List.mem_cons.1 hz with rfl | hz
    · exact hr4s y hy
    · exact h.apart z (List.mem_cons_of_mem _ hz) y hy
  · rw [List.pairwise_cons]
    refine ⟨fun z hz y hy hm => ?_, hpw.2⟩
    rcases f4 y hy with h3 | h3
    · exact hpw.1 z hz y h3 hm
    · have := h.mem (List.mem_cons_of_mem _ hz) y hm; omega
theorem prepend_c {w : World} {s : SV} {L : List Sg} (h : Segs w s L) (hn : L.length ≤ 100000) (hin : ∀ x ∈ L, x.2.2.length ≤ 1000000) (av n : Int) :
    Calls Try.prog 11 #[s.v, .int .u32 av, .int .i64 n] w (R11 fun r w' => ∃ L' : List Sg, OwnP w.heap.size w' r L' ∧ L'.map pt = preN av (min (max n 0) 10).toNat (L.map pt) ∧ Keeps [] w w') := by
  refine F11_ok ((apcopy_c h hn hin).mono fun e w1 g => ?_)
  obtain ⟨r1, rfl, L1, hP1, hL1, k1⟩ := g
  refine ⟨_, rfl, ?_⟩
  generalize hm : min (max n 0) 10 = m
  have hm0 : 0 ≤ m ∧ m ≤ 10 := by omega
  refine M.loop2_by (fun o x w' => ∃ (i : Nat) (L' : List Sg), x = i ∧ (i : Int) ≤ m ∧ OwnP w.heap.size w' o L' ∧ L'.map pt = preN av i (L.map pt) ∧ Keeps [] w w') (fun _ x _ => m.toNat - x.toNat) ⟨0, L1, rfl, by omega, hP1, hL1, k1⟩ ?_
  clear hP1 hL1 k1
  rintro o x w2 J ⟨i, L', rfl, hi, hP, hL', k2⟩ hJ
  refine M.ite_by (fun c => ?_) (fun c => ?_)
  · have c := of_decide_eq_true c
    have hlen : L'.length ≤ 100000 + 10 := by
      have h1 := congrArg List.length hL'
      have h2 := preN_len av (L.map pt) i
      rw [List.length_map] at h1 h2
      omega
    have hol := hP.len
    refine M.join_by (fun (J : SV → World → Prop) => ∀ r w' (L2 : List Sg), OwnP w.heap.size w' r L2 → L2.map pt = pre1 (L'.map pt) av → Keeps [] w w' → J r w') (fun r w' L2 hP2 hL2 k' => ?_) fun J2 hJ2 => ?_
    · rw [w64 (by omega) (by omega)]
      exact hJ _ _ _ ⟨i + 1, L2, by omega, by omega, hP2, by rw [hL2, hL']; rfl, k'⟩ (by omega)
    · refine M.join_by (fun (J : Bool → World → Prop) => J (headOk (L'.map pt)) w2) (M.ite_by (fun c1 => ?_) (fun c1 => ?_)) fun J3 hJ3 => ?_
      · cases L' with
        | nil => cases c1
        | cons x m' =>
          obtain ⟨q1, q2, q3⟩ := pre1_in c1 av
          exact prep_in hP k2 rfl (by show x.2.2.length ≤ 1000; have : x.2.2.length < 255 := q2; omega) av fun w' r hP' k' => hJ2 o w' _ hP' (by
            show (x.1, av :: x.2.2) :: m'.map pt = _
            have : x.1 = 2 := q1
            rw [this]
            exact q3.symm) k'
      · have c1 : headOk (L'.map pt) = false := c1
        exact prep_new hP k2 rfl (by omega) av fun r w' x hx hP' k' => hJ2 r w' _ hP' (by rw [pre1_new c1, List.map_cons, hx]) k'
      · cases L' with
        | nil => exact M.ite_n (by simp at hol; rw [hol]; rfl) hJ3
        | cons x m' =>
          simp only [List.length_cons] at hol
          obtain ⟨a, ha⟩ := hP.out.rd.some (by omega)
          have e := sg_at hP.out.rd ha (i := 0) rfl
          have hxl := uval_len (hP.inn x List.mem_cons_self).rd
          have hJ3 : J3 (x.1 == 2 && decide (x.2.2.length < 255)) w2 := hJ3
          refine M.ite_y (decide_eq_true (by omega)) ⟨a, ha, by omega, by omega, _, e.1, M.ite_by (fun c1 => ?_) (fun c1 => ?_)⟩
          · rw [c1, Bool.true_and] at hJ3
            refine ⟨a, ha, by omega, by omega, x.2.1, e.2, ?_⟩
            dsimp only
            rw [show decide ((x.2.1.len : Int) < 255) = decide (x.2.2.length < 255) by apply decide_eq_decide.2; omega]
            exact hJ3
          · rw [c1, Bool.false_and] at hJ3; exact hJ3
  · have c := of_decide_eq_false c
    have : i = m.toNat := by omega
    rw [← this]
    exact ⟨L', hP, hL', k2⟩
end Go.Proofs.Ytflffabmfoldeaa
