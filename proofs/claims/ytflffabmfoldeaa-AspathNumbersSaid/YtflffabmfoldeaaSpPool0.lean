/-
  A pool of builds and allocations in any order, for printed proofs: what each leaves, told without the environment.
-/
import Derived.Test.YtflffabmfoldeaaSpPool
namespace Go.Sp
set_option linter.unusedVariables false
set_option linter.unusedSimpArgs false

/-- One of the pool: its number, its register, the pool's registers it reads, what it leaves. -/
structure Ent0 where
  k : Nat
  d : Nat
  regs : List Nat
  Q : Value → World → Prop
def entB (N : Nat) (ops : Array Oper) (listed0 : Array Bool) (S : List (Nat × Nat × List Nat)) (s : Nat × Nat × List Nat) : Bool :=
  match ops[s.1]? with
  | none => false
  | some o => (match o.dst with | some d => Nat.beq d s.2.1 | none => false) && o.guard.isNone && fits N o &&
      s.2.2.all (fun r => S.all fun s' => !Nat.beq s'.2.1 r || o.after.toList.any fun x => Region.binds .any x && Nat.beq x.on s'.1) &&
      o.after.toList.all (fun x => !Region.binds .any x || (Nat.blt x.on s.1 && (listed0.getD x.on false || S.any fun s' => Nat.beq s'.1 x.on)))
def nodupB : List Nat → Bool
  | [] => true
  | x :: l => !l.any (Nat.beq x) && nodupB l
def poolB (N : Nat) (ops : Array Oper) (listed0 : Array Bool) (fuel : Nat) (S : List (Nat × Nat × List Nat)) : Bool :=
  Nat.ble (listed0.toList.count false) fuel && Nat.beq listed0.size ops.size &&
  (List.range listed0.size).all (fun i => listed0.getD i true || S.any fun s => Nat.beq s.1 i) &&
  S.all (fun s => !listed0.getD s.1 true) && nodupB (S.map (·.1)) && nodupB (S.map (·.2.1)) && S.all (entB N ops listed0 S)
theorem nodupB_spec {α : Type} (f : α → Nat) : ∀ {l : List α}, nodupB (l.map f) = true → ∀ x ∈ l, ∀ y ∈ l, f x = f y → x = y
  | [], _, _, hx, _, _, _ => by cases hx
  | a :: l, h, x, hx, y, hy, he => by
    simp only [List.map_cons, nodupB, Bool.and_eq_true, Bool.not_eq_true'] at h
    have hn : ∀ z ∈ l, f a ≠ f z := fun z hz e => by
      have : (l.map f).any (Nat.beq (f a)) = true := List.any_eq_true.2 ⟨f z, List.mem_map_of_mem hz, by rw [e]; exact Nat.beq_refl _⟩
      rw [h.1] at this; cases this
    rcases List.mem_cons.1 hx with hxa | hx <;> rcases List.mem_cons.1 hy with hya | hy
    · rw [hxa, hya]
    · exact absurd (by rw [← hxa]; exact he) (hn y hy)
    · exact absurd (by rw [← hya]; exact he.symm) (hn x hx)
    · exact nodupB_spec f h.2 x hx y hy he
def Ent0.sk (E : Ent0) : Nat × Nat × List Nat := (E.k, E.d, E.regs)
theorem DE.pool0 {P : Program} {N : Nat} {ops : Array Oper} {C : Nat → World → Prop} {K : Env → World → Prop} {fuel : Nat} {listed0 : Array Bool} {e0 : Env} {w0 : World} (L : List Ent0)
    (hB : poolB N ops listed0 fuel (L.map Ent0.sk) = true)
    (hQw : ∀ E ∈ L, ∀ v w w', E.Q v w → Keeps [] w w' → E.Q v w')
    (hrun : ∀ E ∈ L, ∃ o, ops[E.k]? = some o ∧ ∀ e w, Keeps [] w0 w → (∀ t, (L.map fun E => E.d).any (Nat.beq t) = false → e t = e0 t) → (∀ (j : Nat) (E' : Ent0), L[j]? = some E' → E.regs.any (Nat.beq E'.d) = true → E'.Q (e E'.d) w) →
      OpE P o e w fun v w' => (w' = w ∨ C E.k w') ∧ Keeps [] w w' ∧ E.Q v w')
    (hend : ∀ e w, Keeps [] w0 w → (∀ t, (L.map fun E => E.d).any (Nat.beq t) = false → e t = e0 t) → (∀ (j : Nat) (E : Ent0), L[j]? = some E → E.Q (e E.d) w) → K e w) :
    DE P N ops C K fuel listed0 e0 w0 := by
  simp only [poolB, Bool.and_eq_true] at hB
  obtain ⟨⟨⟨⟨⟨⟨h1, h2⟩, h3⟩, h4⟩, h5⟩, h6⟩, h7⟩ := hB
  let U : Ent0 → Ent := fun E => ⟨E.k, E.d, E.regs, fun _ => E.Q⟩
  have hmem : ∀ E : Ent, E ∈ L.map U ↔ ∃ E0 ∈ L, U E0 = E := fun E => List.mem_map
  have hoff : ∀ t, (∀ E ∈ L.map U, E.d ≠ t) ↔ (L.map fun E => E.d).any (Nat.beq t) = false := fun t => by
    constructor
    · intro h
      rw [List.any_eq_false]
      intro x hx he
      obtain ⟨E, hE, rfl⟩ := List.mem_map.1 hx
      exact h (U E) (List.mem_map_of_mem hE) (Nat.eq_of_beq_eq_true he).symm
    · intro h E hE he
      obtain ⟨E0, hE0, rfl⟩ := List.mem_map.1 hE
      rw [List.any_eq_false] at h
      exact h _ (List.mem_map_of_mem hE0) (by rw [← he]; exact Nat.beq_refl _)
  have n1 : ∀ E ∈ L, ∀ E' ∈ L, E.k = E'.k → E = E' := by
    have := nodupB_spec (fun E : Ent0 => E.k) (l := L) (by simpa [List.map_map, Function.comp_def, Ent0.sk] using h5)
    exact this
  have n2 : ∀ E ∈ L, ∀ E' ∈ L, E.d = E'.d → E = E' := by
    have := nodupB_spec (fun E : Ent0 => E.d) (l := L) (by simpa [List.map_map, Function.comp_def, Ent0.sk] using h6)
    exact this
  have hget : ∀ E ∈ L, ∃ j : Nat, L[j]? = some E := fun E hE => List.getElem?_of_mem hE
  refine DE.pool (L.map U) (Nat.le_of_ble_eq_true h1) (Nat.eq_of_beq_eq_true h2) ?_ ?_ ?_ ?_ ?_ ?_ ?_ ?_ ?_
  · intro i hi
    have hlt : i < listed0.size := by
      rcases Nat.lt_or_ge i listed0.size with h' | h'
      · exact h'
      · simp [Array.getElem?_eq_none h'] at hi
    have := List.all_eq_true.1 h3 i (List.mem_range.2 hlt)
    rw [hi] at this
    simp only [Bool.false_or] at this
    obtain ⟨s, hs, he⟩ := List.any_eq_true.1 this
    obtain ⟨E, hE, rfl⟩ := List.mem_map.1 hs
    exact ⟨U E, List.mem_map_of_mem hE, Nat.eq_of_beq_eq_true he⟩
  · intro E hE
    obtain ⟨E0, hE0, rfl⟩ := List.mem_map.1 hE
    have := List.all_eq_true.1 h4 _ (List.mem_map_of_mem hE0)
    simpa [Ent0.sk] using this
  · intro E hE E' hE' h
    obtain ⟨E0, hE0, rfl⟩ := List.mem_map.1 hE
    obtain ⟨E1, hE1, rfl⟩ := List.mem_map.1 hE'
    rw [n1 E0 hE0 E1 hE1 h]
  · intro E hE E' hE' h
    obtain ⟨E0, hE0, rfl⟩ := List.mem_map.1 hE
    obtain ⟨E1, hE1, rfl⟩ := List.mem_map.1 hE'
    rw [n2 E0 hE0 E1 hE1 h]
  · intro E hE
    obtain ⟨E0, hE0, rfl⟩ := List.mem_map.1 hE
    have := List.all_eq_true.1 h7 _ (List.mem_map_of_mem (f := Ent0.sk) hE0)
    unfold entB at this
    simp only [Ent0.sk] at this
    split at this
    · cases this
    rename_i o ho
    simp only [Bool.and_eq_true] at this
    obtain ⟨⟨⟨⟨g1, g2⟩, g3⟩, g4⟩, g5⟩ := this
    refine ⟨o, ho, ?_, ?_, g3, ?_, ?_⟩
    · split at g1
      · rename_i d hd
        rw [hd, Nat.eq_of_beq_eq_true g1]
      · cases g1
    · simpa using g2
    · intro r hr E' hE' he
      obtain ⟨E1, hE1, rfl⟩ := List.mem_map.1 hE'
      have := List.all_eq_true.1 (List.all_eq_true.1 g4 r hr) _ (List.mem_map_of_mem (f := Ent0.sk) hE1)
      have hr' : Nat.beq E1.d r = true := by rw [show E1.d = r from he]; exact Nat.beq_refl _
      simp only [Ent0.sk, hr', Bool.not_true, Bool.false_or] at this
      obtain ⟨x, hx, hy⟩ := List.any_eq_true.1 this
      rw [Bool.and_eq_true] at hy
      exact ⟨x, by simpa using hx, hy.1, Nat.eq_of_beq_eq_true hy.2⟩
    · intro x hx hb
      have := List.all_eq_true.1 g5 x (by simpa using hx)
      rw [hb] at this
      simp only [Bool.not_true, Bool.false_or, Bool.and_eq_true, Bool.or_eq_true] at this
      refine ⟨by have := this.1; exact Nat.le_of_ble_eq_true this, this.2.imp (fun h => h) fun h => ?_⟩
      obtain ⟨s, hs, he⟩ := List.any_eq_true.1 h
      obtain ⟨E1, hE1, rfl⟩ := List.mem_map.1 hs
      exact ⟨U E1, List.mem_map_of_mem hE1, Nat.eq_of_beq_eq_true he⟩
  · intro E hE e e' v w _ h
    obtain ⟨E0, hE0, rfl⟩ := List.mem_map.1 hE
    exact h
  · intro E hE e v w w' h k
    obtain ⟨E0, hE0, rfl⟩ := List.mem_map.1 hE
    exact hQw E0 hE0 v w w' h k
  · intro E hE e w o ho hk he hq
    obtain ⟨E0, hE0, rfl⟩ := List.mem_map.1 hE
    obtain ⟨o', ho', h⟩ := hrun E0 hE0
    have ho2 : ops[E0.k]? = some o := ho
    rw [ho'] at ho2
    obtain rfl := Option.some.inj ho2
    refine h e w hk (fun t ht => he t ((hoff t).2 ht)) fun j E' hj hr => ?_
    have hE' : E' ∈ L := List.mem_of_getElem? hj
    obtain ⟨r, hr1, hr2⟩ := List.any_eq_true.1 hr
    have := hq (U E') (List.mem_map_of_mem hE') (by
      have : r = E'.d := (Nat.eq_of_beq_eq_true hr2).symm
      rw [this] at hr1; exact hr1)
    exact this
  · intro e w hk he hq
    exact hend e w hk (fun t ht => he t ((hoff t).2 ht)) fun j E hj => hq (U E) (List.mem_map_of_mem (List.mem_of_getElem? hj))
end Go.Sp
