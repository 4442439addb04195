/-
  Paths in plain words; some runs.
-/
import Derived.Test.YtflffabmfoldeaaAspP
import Derived.Test.YtflffabmfoldeaaBookC
namespace Go.Proofs.Ytflffabmfoldeaa
set_option linter.unusedVariables false
set_option linter.unusedSimpArgs false
open Go.Sp
open Go.RowKit (Below)

def firstPt : List (Int × List Int) → Int × Bool
  | (k, a :: _) :: _ => if k = 2 then (a, true) else (0, false)
  | _ => (0, false)
def countPt (l : List (Int × List Int)) : Nat := (l.map fun x => if x.1 = 2 then x.2.length else if x.1 = 1 then 1 else 0).sum
def rightPt (l : List (Int × List Int)) : Bool := l.all (fun x => okS x.1 x.2.length) && decide (l.length ≤ 16)
def hasPt (l : List (Int × List Int)) (a : Int) : Bool := l.any fun x => x.2.any fun n => n == a
theorem first_pt (L : List Sg) : firstA L = firstPt (L.map pt) := by
  match L with
  | [] => rfl
  | (k, s, []) :: m => rfl
  | (k, s, a :: r) :: m => rfl
theorem count_pt (L : List Sg) : countA L = countPt (L.map pt) := by
  unfold countA countPt
  rw [List.map_map]; rfl
theorem right_pt (L : List Sg) : rightL L = rightPt (L.map pt) := by
  unfold rightL rightPt
  rw [List.all_map, List.length_map]; rfl
theorem has_pt (L : List Sg) (a : Int) : hasL L a = hasPt (L.map pt) a := by
  unfold hasL hasPt
  rw [List.any_map]; rfl
theorem apknown_c {w : World} : Calls Try.prog 14 #[] w (R14 fun r w' => r = true ∧ Keeps [] w w') := by
  refine F14_ok (newn_k (n := 2) (sz := 1) (cs := uval [1, 2]) rfl (by omega) (Keeps.refl [] w) fun b1 w1 g1 l1 o1 _ k1 => newn_k (n := 2) (sz := 1) (cs := uval [3, 4]) rfl (by omega) k1 fun b2 w2 g2 l2 o2 k12 k2 => ?_)
  generalize hL : ([(2, ⟨some ⟨b1, 0, none⟩, 2, 2⟩, [1, 2]), (1, ⟨some ⟨b2, 0, none⟩, 2, 2⟩, [3, 4])] : List Sg) = L
  have hcs : [Value.int .i64 2, (SV.mk (some ⟨b1, 0, none⟩) 2 2).v, Value.int .i64 1, (SV.mk (some ⟨b2, 0, none⟩) 2 2).v] = sgvs L := by subst hL; rfl
  refine newn_k (n := 2) (sz := 2) (cs := [Value.int .i64 2, (SV.mk (some ⟨b1, 0, none⟩) 2 2).v, Value.int .i64 1, (SV.mk (some ⟨b2, 0, none⟩) 2 2).v]) rfl (by omega) k2 fun b3 w3 g3 l3 o3 k23 k3 => ?_
  rw [hcs] at o3
  have hS : Segs w3 ⟨some ⟨b3, 0, none⟩, 2, 2⟩ L := ⟨o3.rd, fun x hx => by
    subst hL
    simp only [List.mem_cons, List.not_mem_nil, or_false] at hx
    rcases hx with rfl | rfl
    · exact (o1.rd.keep k12 (by simp)).keep k23 (by simp)
    · exact o2.rd.keep k23 (by simp)⟩
  have hpt : L.map pt = [(2, [1, 2]), (1, [3, 4])] := by subst hL; rfl
  have hlen : L.length = 2 := by subst hL; rfl
  have hin : ∀ x ∈ L, x.2.2.length ≤ 1000000 := by
    subst hL
    intro x hx
    simp only [List.mem_cons, List.not_mem_nil, or_false] at hx
    rcases hx with rfl | rfl <;> simp
  refine (first_c hS).mono fun e w4 g => ?_
  obtain ⟨x, ok, rfl, he, k4⟩ := g
  rw [first_pt, hpt] at he
  have he : (x, ok) = ((1 : Int), true) := he
  obtain ⟨rfl, rfl⟩ := Prod.mk.inj he
  have hS4 := hS.new k4
  refine ⟨_, _, rfl, M.join_by (fun (J : Bool → World → Prop) => ∀ w', Keeps [] w w' → J true w') (fun w' k' => ⟨rfl, k'⟩) fun J hJ => (count_c hS4 (by rw [count_pt, hpt]; decide) (by omega)).mono fun e w5 g => ?_⟩
  obtain ⟨r5, rfl, rfl, k5⟩ := g
  refine ⟨_, rfl, M.ite_y (by rw [count_pt, hpt]; decide) ((aphas_c (hS4.new k5) (by omega) hin 4).mono fun e w6 g => ?_)⟩
  obtain ⟨r6, rfl, rfl, k6⟩ := g
  refine ⟨_, rfl, M.ite_y (by rw [has_pt, hpt]; decide) ((aphas_c ((hS4.new k5).new k6) (by omega) hin 5).mono fun e w7 g => ?_)⟩
  obtain ⟨r7, rfl, rfl, k7⟩ := g
  refine ⟨_, rfl, M.ite_y (by rw [has_pt, hpt]; decide) (M.ite_y (by decide) (M.ite_tt ((prepend_c (((hS4.new k5).new k6).new k7) (by omega) hin 9 2).mono fun e w8 g => ?_)))⟩
  obtain ⟨r8, rfl, L', hP, hL', k8⟩ := g
  rw [hpt] at hL'
  have hL' : L'.map pt = [(2, [9, 9, 1, 2]), (1, [3, 4])] := hL'
  have hl2 := congrArg List.length hL'
  rw [List.length_map] at hl2
  have hl2 : L'.length = 2 := hl2
  cases L' with
  | nil => cases hl2
  | cons x m =>
    have hx : pt x = (2, [9, 9, 1, 2]) := by rw [List.map_cons] at hL'; exact (List.cons.inj hL').1
    have hr := hP.len
    obtain ⟨a, ha⟩ := hP.out.rd.some (by omega)
    have e8 := sg_at hP.out.rd ha (i := 0) rfl
    have hxl := uval_len (hP.inn x List.mem_cons_self).rd
    have hx2 : x.2.2 = [9, 9, 1, 2] := congrArg Prod.snd hx
    refine ⟨_, rfl, a, ha, by omega, by omega, x.2.1, e8.2, ?_⟩
    dsimp only
    rw [hxl, hx2]
    exact hJ _ (((((k3.trans k4 (by simp)).trans k5 (by simp)).trans k6 (by simp)).trans k7 (by simp)).trans k8 (by simp))
theorem apknown_a {W w : World} (a : Aft W w) : Calls Try.prog 14 #[] w (R14 fun r w' => r = true ∧ Aft W w') := apknown_c.mono fun e w' g => by
  obtain ⟨r, rfl, rfl, k⟩ := g
  exact ⟨_, rfl, rfl, a.new k⟩
end Go.Proofs.Ytflffabmfoldeaa
