/-
  A pool of operations, each once, in any order: builds and allocations.
-/
import Derived.Test.YtflffabmfoldeaaSpUse
namespace Go.Sp
set_option linter.unusedVariables false
set_option linter.unusedSimpArgs false

theorem OpE.mono {P : Program} {o : Oper} {e : Env} {w : World} {K K' : Value → World → Prop} (h : OpE P o e w K) (hk : ∀ v w', K v w' → K' v w') : OpE P o e w K' := by
  unfold OpE at h ⊢
  split at h
  · exact hk _ _ h
  · exact hk _ _ h
  · exact h.mono fun _ _ ⟨v, h1, h2⟩ => ⟨v, h1, hk _ _ h2⟩
  · exact h
/-- Induction over a region's orders by an invariant. -/
theorem DE.inv {P : Program} {N : Nat} {ops : Array Oper} {C : Nat → World → Prop} {K : Env → World → Prop} (I : Array Bool → Env → World → Prop)
    (hstep : ∀ listed e w, I listed e w → Closed ops listed → ∀ i ∈ Region.ready .any ops listed, ∃ o, ops[i]? = some o ∧ Wn N ops o e ∧ fits N o = true ∧ OpE P o e w fun v w' => (w' = w ∨ C i w') ∧ I (listed.setIfInBounds i true) (e.put o.dst v) w')
    (hend : ∀ listed e w, I listed e w → Region.ready .any ops listed = [] → K e w) :
    ∀ (fuel : Nat) (listed : Array Bool) (e : Env) (w : World), (listed.toList.count false ≤ fuel) → I listed e w → DE P N ops C K fuel listed e w := by
  intro fuel
  induction fuel with
  | zero =>
    intro listed e w hf hI
    unfold DE
    intro hc a ha
    have hr : Region.ready .any ops listed = [] := by
      cases h : Region.ready .any ops listed with
      | nil => rfl
      | cons i l =>
        have hi : i ∈ Region.ready .any ops listed := by rw [h]; exact List.mem_cons_self
        have h0 := (mem_ready.1 hi).1
        exfalso
        have hlt : i < listed.size := by
          rcases Nat.lt_or_ge i listed.size with h' | h'
          · exact h'
          · simp [Array.getElem?_eq_none h'] at h0
        have : listed[i] = false := by simpa [hlt] using h0
        have hm : false ∈ listed.toList := by rw [← this]; simp
        have := List.count_pos_iff.2 hm
        omega
    exact ⟨hr, e, ha, hend _ _ _ hI hr⟩
  | succ fuel ih =>
    intro listed e w hf hI
    unfold DE
    intro hc a ha
    refine ⟨fun hr => ⟨e, ha, hend _ _ _ hI hr⟩, fun i hi => ?_⟩
    obtain ⟨o, ho, hg, hft, h⟩ := hstep _ _ _ hI hc i hi
    have h0 := (mem_ready.1 hi).1
    have hlt : i < listed.size := by
      rcases Nat.lt_or_ge i listed.size with h' | h'
      · exact h'
      · simp [Array.getElem?_eq_none h'] at h0
    have hfi : listed[i] = false := by simpa [hlt] using h0
    have hcount : (listed.setIfInBounds i true).toList.count false ≤ fuel := by
      rw [Array.toList_setIfInBounds, List.count_set (by simpa using hlt)]
      have hm : false ∈ listed.toList := by rw [← hfi]; simp
      have := List.count_pos_iff.2 hm
      have e1 : listed.toList[i]'(by simpa using hlt) = false := by simpa using hfi
      rw [e1]
      show List.count false listed.toList - 1 + 0 ≤ fuel
      omega
    have hone := One.op (C := C) (K := K) (fuel := fuel) (e := e) (w := w) i ho hg hft (OpE.mono h fun v w' h => ⟨h.1, ih _ _ _ hcount h.2⟩)
    unfold One at hone
    exact hone hi hc a ha
/-- One of the pool: its number, its register, the registers it reads, what it leaves. -/
structure Ent where
  k : Nat
  d : Nat
  regs : List Nat
  Q : Env → Value → World → Prop
theorem DE.pool {P : Program} {N : Nat} {ops : Array Oper} {C : Nat → World → Prop} {K : Env → World → Prop} {fuel : Nat} {listed0 : Array Bool} {e0 : Env} {w0 : World} (L : List Ent)
    (hf : listed0.toList.count false ≤ fuel) (hsz : listed0.size = ops.size)
    (hall : ∀ i, listed0.getD i true = false → ∃ E ∈ L, E.k = i)
    (hu : ∀ E ∈ L, listed0.getD E.k true = false)
    (hk : ∀ E ∈ L, ∀ E' ∈ L, E.k = E'.k → E = E') (hd : ∀ E ∈ L, ∀ E' ∈ L, E.d = E'.d → E = E')
    (hop : ∀ E ∈ L, ∃ o, ops[E.k]? = some o ∧ o.dst = some E.d ∧ o.guard = none ∧ fits N o = true ∧
      (∀ r ∈ E.regs, ∀ E' ∈ L, E'.d = r → ∃ x ∈ o.after, Region.binds .any x = true ∧ x.on = E'.k) ∧
      (∀ x ∈ o.after, Region.binds .any x = true → x.on < E.k ∧ (listed0.getD x.on false = true ∨ ∃ E' ∈ L, E'.k = x.on)))
    (hQe : ∀ E ∈ L, ∀ e e' v w, (∀ r ∈ E.regs, e r = e' r) → E.Q e v w → E.Q e' v w)
    (hQw : ∀ E ∈ L, ∀ e v w w', E.Q e v w → Keeps [] w w' → E.Q e v w')
    (hrun : ∀ E ∈ L, ∀ e w o, ops[E.k]? = some o → Keeps [] w0 w → (∀ t, (∀ E' ∈ L, E'.d ≠ t) → e t = e0 t) → (∀ E' ∈ L, E'.d ∈ E.regs → E'.Q e (e E'.d) w) →
      OpE P o e w fun v w' => (w' = w ∨ C E.k w') ∧ Keeps [] w w' ∧ E.Q e v w')
    (hend : ∀ e w, Keeps [] w0 w → (∀ t, (∀ E ∈ L, E.d ≠ t) → e t = e0 t) → (∀ E ∈ L, E.Q e (e E.d) w) → K e w) :
    DE P N ops C K fuel listed0 e0 w0 := by
  refine DE.inv (fun listed e w => listed.size = listed0.size ∧ (∀ i, listed.getD i true = false → listed0.getD i true = false) ∧ (∀ i, listed0.getD i false = true → listed.getD i false = true) ∧
    Keeps [] w0 w ∧ (∀ t, (∀ E ∈ L, E.d ≠ t) → e t = e0 t) ∧ (∀ E ∈ L, listed.getD E.k false = true → E.Q e (e E.d) w)) ?_ ?_ fuel listed0 e0 w0 hf
    ⟨rfl, fun _ h => h, fun _ h => h, Keeps.refl _ _, fun _ _ => rfl, fun E hE h => ?_⟩
  · rintro listed e w ⟨h1, h2, h3, h4, h5, h6⟩ hc i hi
    obtain ⟨hun, oi, hoi, hdep⟩ := mem_ready.1 hi
    obtain ⟨E, hE, rfl⟩ := hall i (h2 i hun)
    obtain ⟨o, ho, hdst, hg, hft, hregs, hafter⟩ := hop E hE
    rw [hoi] at ho
    obtain rfl := Option.some.inj ho
    have hnot : listed.getD E.k false = false := by
      rcases Nat.lt_or_ge E.k listed.size with h' | h'
      · simp [h'] at hun ⊢; exact hun
      · simp [Array.getElem?_eq_none h']
    refine ⟨oi, hoi, .inl hg, hft, OpE.mono (hrun E hE e w oi hoi h4 h5 fun E' hE' hr => ?_) fun v w' g => ⟨g.1, by rw [Array.size_setIfInBounds]; exact h1, fun j hj => ?_, fun j hj => getD_set_true (h3 j hj), h4.trans g.2.1 (by simp), fun t ht => ?_, fun E1 hE1 hl => ?_⟩⟩
    · obtain ⟨x, hx, hb, hon⟩ := hregs _ hr E' hE' rfl
      have := hdep x hx hb
      rw [hon] at this
      exact h6 E' hE' this
    · by_cases hji : E.k = j
      · subst hji; exact h2 _ hun
      · rw [getD_set_ne true hji] at hj; exact h2 j hj
    · have hne := ht E hE
      rw [hdst]
      show (e.up E.d v) t = e0 t
      have h1 : Nat.beq t E.d = false := Bool.eq_false_iff.2 fun h => hne (Nat.eq_of_beq_eq_true h).symm
      unfold Env.up
      rw [h1]
      exact h5 t ht
    · rw [hdst]
      show E1.Q (e.up E.d v) ((e.up E.d v) E1.d) w'
      have hoff : ∀ t, t ≠ E.d → (e.up E.d v) t = e t := fun t ht => by
        have h1 : Nat.beq t E.d = false := Bool.eq_false_iff.2 fun h => ht (Nat.eq_of_beq_eq_true h)
        unfold Env.up
        rw [h1]; rfl
      by_cases hki : E1.k = E.k
      · obtain rfl := hk E1 hE1 E hE hki
        have hv : (e.up E1.d v) E1.d = v := by
          unfold Env.up
          rw [Nat.beq_refl]; rfl
        rw [hv]
        refine hQe E1 hE1 e _ v w' (fun r hr => (hoff r fun h => ?_).symm) g.2.2
        obtain ⟨x, hx, hb, hon⟩ := hregs r hr E1 hE1 h.symm
        have := hdep x hx hb
        rw [hon, hnot] at this
        cases this
      · rw [getD_set_ne false (Ne.symm hki)] at hl
        have hdd : E1.d ≠ E.d := fun h => hki (by rw [hd E1 hE1 E hE h])
        rw [hoff _ hdd]
        obtain ⟨o1, ho1, _, _, _, hregs1, _⟩ := hop E1 hE1
        refine hQw E1 hE1 _ _ w w' (hQe E1 hE1 e _ _ w (fun r hr => (hoff r fun h => ?_).symm) (h6 E1 hE1 hl)) g.2.1
        obtain ⟨x, hx, hb, hon⟩ := hregs1 r hr E hE h.symm
        have hlt : listed.getD E1.k true = true := by
          rcases Nat.lt_or_ge E1.k listed.size with h' | h'
          · simp [h'] at hl ⊢; exact hl
          · simp [Array.getElem?_eq_none h']
        have := hc E1.k o1 ho1 hlt x hx hb
        rw [hon, hnot] at this
        cases this
  · rintro listed e w ⟨h1, h2, h3, h4, h5, h6⟩ hr
    have hallL : ∀ n, ∀ E ∈ L, E.k = n → listed.getD E.k false = true := by
      intro n
      induction n using Nat.strongRecOn with
      | ind n ih =>
        intro E hE hn
        cases hl : listed.getD E.k false with
        | true => rfl
        | false =>
          obtain ⟨o, ho, _, _, _, _, hafter⟩ := hop E hE
          have hlt : E.k < ops.size := (Array.getElem?_eq_some_iff.1 ho).1
          have hmem : E.k ∈ Region.ready .any ops listed := mem_ready.2 ⟨by
            have h' : E.k < listed.size := by omega
            simp [h'] at hl ⊢; exact hl, o, ho, fun x hx hb => by
            obtain ⟨g1, g2⟩ := hafter x hx hb
            rcases g2 with g2 | ⟨E', hE', g2⟩
            · exact h3 _ g2
            · rw [← g2]
              exact ih E'.k (by omega) E' hE' rfl⟩
          rw [hr] at hmem
          cases hmem
    exact hend e w h4 h5 fun E hE => h6 E hE (hallL _ E hE rfl)
  · have := hu E hE
    rcases Nat.lt_or_ge E.k listed0.size with h' | h'
    · simp [h'] at h this; rw [this] at h; cases h
    · simp [Array.getElem?_eq_none h'] at h
end Go.Sp
