/-
  Loops by an invariant and a measure; integers of fixed width in plain terms.
-/
import Derived.Test.YtflffabmfoldeaaSpUse
namespace Go.Sp
set_option linter.unusedVariables false
set_option linter.unusedSimpArgs false
namespace M
set_option linter.unusedVariables false
theorem loop0_by {b : (World → Prop) → World → Prop}  {w : World} (Inv : World → Prop) (m : World → Nat) (h0 : Inv  w)
    (hr : ∀  w J, Inv  w → (∀  w', Inv  w' → m  w' < m  w → J  w') → b J  w) : loop0 b  w :=
  ⟨fun n  w => Inv  w ∧ m  w = n, ⟨_, h0, rfl⟩, fun n  w h => hr  w _ h.1 fun  w' h' hlt => ⟨m  w', h.2 ▸ hlt, h', rfl⟩⟩
theorem loop1_by {α : Type} {b : (α → World → Prop) → α → World → Prop} {x : α} {w : World} (Inv : α → World → Prop) (m : α → World → Nat) (h0 : Inv x w)
    (hr : ∀ x w J, Inv x w → (∀ x' w', Inv x' w' → m x' w' < m x w → J x' w') → b J x w) : loop1 b x w :=
  ⟨fun n x w => Inv x w ∧ m x w = n, ⟨_, h0, rfl⟩, fun n x w h => hr x w _ h.1 fun x' w' h' hlt => ⟨m x' w', h.2 ▸ hlt, h', rfl⟩⟩
theorem loop2_by {α β : Type} {b : (α → β → World → Prop) → α → β → World → Prop} {x : α} {y : β} {w : World} (Inv : α → β → World → Prop) (m : α → β → World → Nat) (h0 : Inv x y w)
    (hr : ∀ x y w J, Inv x y w → (∀ x' y' w', Inv x' y' w' → m x' y' w' < m x y w → J x' y' w') → b J x y w) : loop2 b x y w :=
  ⟨fun n x y w => Inv x y w ∧ m x y w = n, ⟨_, h0, rfl⟩, fun n x y w h => hr x y w _ h.1 fun x' y' w' h' hlt => ⟨m x' y' w', h.2 ▸ hlt, h', rfl⟩⟩
theorem loop3_by {α β γ : Type} {b : (α → β → γ → World → Prop) → α → β → γ → World → Prop} {x : α} {y : β} {z : γ} {w : World} (Inv : α → β → γ → World → Prop) (m : α → β → γ → World → Nat) (h0 : Inv x y z w)
    (hr : ∀ x y z w J, Inv x y z w → (∀ x' y' z' w', Inv x' y' z' w' → m x' y' z' w' < m x y z w → J x' y' z' w') → b J x y z w) : loop3 b x y z w :=
  ⟨fun n x y z w => Inv x y z w ∧ m x y z w = n, ⟨_, h0, rfl⟩, fun n x y z w h => hr x y z w _ h.1 fun x' y' z' w' h' hlt => ⟨m x' y' z' w', h.2 ▸ hlt, h', rfl⟩⟩
theorem loop4_by {α β γ δ : Type} {b : (α → β → γ → δ → World → Prop) → α → β → γ → δ → World → Prop} {x : α} {y : β} {z : γ} {u : δ} {w : World} (Inv : α → β → γ → δ → World → Prop) (m : α → β → γ → δ → World → Nat) (h0 : Inv x y z u w)
    (hr : ∀ x y z u w J, Inv x y z u w → (∀ x' y' z' u' w', Inv x' y' z' u' w' → m x' y' z' u' w' < m x y z u w → J x' y' z' u' w') → b J x y z u w) : loop4 b x y z u w :=
  ⟨fun n x y z u w => Inv x y z u w ∧ m x y z u w = n, ⟨_, h0, rfl⟩, fun n x y z u w h => hr x y z u w _ h.1 fun x' y' z' u' w' h' hlt => ⟨m x' y' z' u' w', h.2 ▸ hlt, h', rfl⟩⟩
theorem loop5_by {α β γ δ ε : Type} {b : (α → β → γ → δ → ε → World → Prop) → α → β → γ → δ → ε → World → Prop} {x : α} {y : β} {z : γ} {u : δ} {v : ε} {w : World} (Inv : α → β → γ → δ → ε → World → Prop) (m : α → β → γ → δ → ε → World → Nat) (h0 : Inv x y z u v w)
    (hr : ∀ x y z u v w J, Inv x y z u v w → (∀ x' y' z' u' v' w', Inv x' y' z' u' v' w' → m x' y' z' u' v' w' < m x y z u v w → J x' y' z' u' v' w') → b J x y z u v w) : loop5 b x y z u v w :=
  ⟨fun n x y z u v w => Inv x y z u v w ∧ m x y z u v w = n, ⟨_, h0, rfl⟩, fun n x y z u v w h => hr x y z u v w _ h.1 fun x' y' z' u' v' w' h' hlt => ⟨m x' y' z' u' v' w', h.2 ▸ hlt, h', rfl⟩⟩
theorem loop6_by {α β γ δ ε ζ : Type} {b : (α → β → γ → δ → ε → ζ → World → Prop) → α → β → γ → δ → ε → ζ → World → Prop} {x : α} {y : β} {z : γ} {u : δ} {v : ε} {s : ζ} {w : World} (Inv : α → β → γ → δ → ε → ζ → World → Prop) (m : α → β → γ → δ → ε → ζ → World → Nat) (h0 : Inv x y z u v s w)
    (hr : ∀ x y z u v s w J, Inv x y z u v s w → (∀ x' y' z' u' v' s' w', Inv x' y' z' u' v' s' w' → m x' y' z' u' v' s' w' < m x y z u v s w → J x' y' z' u' v' s' w') → b J x y z u v s w) : loop6 b x y z u v s w :=
  ⟨fun n x y z u v s w => Inv x y z u v s w ∧ m x y z u v s w = n, ⟨_, h0, rfl⟩, fun n x y z u v s w h => hr x y z u v s w _ h.1 fun x' y' z' u' v' s' w' h' hlt => ⟨m x' y' z' u' v' s' w', h.2 ▸ hlt, h', rfl⟩⟩
theorem loop0_ix {b : (World → Prop) → World → Prop} {w : World} (I : Nat → World → Prop) (n : Nat) (h0 : I n w)
    (hr : ∀ n w J, I n w → (∀ m w', m < n → I m w' → J w') → b J w) : loop0 b w :=
  ⟨I, ⟨n, h0⟩, fun n w h => hr n w _ h fun m w' hlt h' => ⟨m, hlt, h'⟩⟩
theorem loop1_ix {α : Type} {b : (α → World → Prop) → α → World → Prop} {x : α} {w : World} (I : Nat → α → World → Prop) (n : Nat) (h0 : I n x w)
    (hr : ∀ n x w J, I n x w → (∀ m x' w', m < n → I m x' w' → J x' w') → b J x w) : loop1 b x w :=
  ⟨I, ⟨n, h0⟩, fun n x w h => hr n x w _ h fun m x' w' hlt h' => ⟨m, hlt, h'⟩⟩
theorem loop2_ix {α β : Type} {b : (α → β → World → Prop) → α → β → World → Prop} {x : α} {y : β} {w : World} (I : Nat → α → β → World → Prop) (n : Nat) (h0 : I n x y w)
    (hr : ∀ n x y w J, I n x y w → (∀ m x' y' w', m < n → I m x' y' w' → J x' y' w') → b J x y w) : loop2 b x y w :=
  ⟨I, ⟨n, h0⟩, fun n x y w h => hr n x y w _ h fun m x' y' w' hlt h' => ⟨m, hlt, h'⟩⟩
theorem new_by {o : Obj} {w : World} {K : Addr → World → Prop} (h : K ⟨w.heap.size, 0, none⟩ (w.alloc o)) : new o w K := h
theorem drew_by {w : World} {K : World → Prop} (h : K w.drew) : drew w K := h
theorem ite_by {b : Bool} {A B : Prop} (h : b = true → A) (h' : b = false → B) : ite b A B := ⟨h, h'⟩
theorem ite_tt {A B : Prop} (h : A) : ite true A B := ⟨fun _ => h, fun hb => (nomatch hb)⟩
theorem ite_ff {A B : Prop} (h : B) : ite false A B := ⟨fun hb => (nomatch hb), fun _ => h⟩
theorem ite_y {b : Bool} {A B : Prop} (hb : b = true) (h : A) : ite b A B := by subst hb; exact ite_tt h
theorem ite_n {b : Bool} {A B : Prop} (hb : b = false) (h : B) : ite b A B := by subst hb; exact ite_ff h
theorem new_blk {cs : List Value} {T : TypeId} {w : World} {K : Addr → World → Prop} (h : ∀ b w', b = w.heap.size → Blk w' b T cs → Keeps [] w w' → K ⟨b, 0, none⟩ w') : new (.cells cs.toArray T) w K :=
  h _ _ rfl (Blk.new w cs T) (Keeps.alloc [] w _)
theorem st_blk {b i : Nat} {T : TypeId} {cs : List Value} {v : Value} {w : World} {K : World → Prop} (hb : Blk w b T cs) (hi : i < cs.length) (h : ∀ w', Blk w' b T (cs.set i v) → Keeps [b] w w' → K w') : st ((⟨b, 0, none⟩ : Addr).add i) v w K := by
  rw [add_mk, Nat.zero_add]
  exact ⟨⟨cs[i], by rw [hb.cell, List.getElem?_eq_getElem hi]⟩, hb.free i, h _ (hb.set i v) (Keeps.set _ (by simp) _)⟩
theorem st_blk0 {b : Nat} {T : TypeId} {c v : Value} {cs : List Value} {w : World} {K : World → Prop} (hb : Blk w b T (c :: cs)) (h : ∀ w', Blk w' b T (v :: cs) → Keeps [b] w w' → K w') : st ⟨b, 0, none⟩ v w K :=
  ⟨⟨c, hb.cell 0⟩, hb.free 0, h _ (hb.set 0 v) (Keeps.set _ (by simp) _)⟩
theorem stA_go {b : Nat} {T : TypeId} : ∀ (vs pre cs : List Value) (w : World), Blk w b T (pre ++ cs) → cs.length = vs.length →
    okCs w ⟨b, 0, none⟩ vs pre.length ∧ Blk (stCs w ⟨b, 0, none⟩ vs pre.length) b T (pre ++ vs) ∧ Keeps [b] w (stCs w ⟨b, 0, none⟩ vs pre.length)
  | [], pre, cs, w, hb, hl => by
    obtain rfl := List.eq_nil_of_length_eq_zero hl
    exact ⟨trivial, hb, Keeps.refl _ _⟩
  | v :: vs, pre, [], w, hb, hl => by simp at hl
  | v :: vs, pre, c :: cs, w, hb, hl => by
    have h1 := hb.set pre.length v
    have e1 : (pre ++ c :: cs).set pre.length v = (pre ++ [v]) ++ cs := by simp
    rw [e1] at h1
    have h2 := stA_go vs (pre ++ [v]) cs _ h1 (by simpa using hl)
    have e2 : (pre ++ [v]).length = pre.length + 1 := by simp
    rw [e2, List.append_assoc] at h2
    have ha : (⟨b, 0, none⟩ : Addr).add pre.length = ⟨b, pre.length, none⟩ := by rw [add_mk, Nat.zero_add]
    refine ⟨⟨⟨c, by rw [ha, hb.cell]; simp⟩, by rw [ha]; exact hb.free _, by rw [ha]; exact h2.1⟩, ?_, ?_⟩
    · simp only [stCs]; rw [ha]; exact h2.2.1
    · simp only [stCs]; rw [ha]; exact (Keeps.set _ (by simp) _).and h2.2.2
theorem stA_blk {b : Nat} {T : TypeId} {cs vs : List Value} {w : World} {K : World → Prop} (hb : Blk w b T cs) (hl : cs.length = vs.length) (h : ∀ w', Blk w' b T vs → Keeps [b] w w' → K w') : stA ⟨b, 0, none⟩ vs w K := by
  have := stA_go vs [] cs w (by simpa using hb) hl
  exact ⟨this.1, h _ this.2.1 this.2.2⟩
theorem ld_blk {α : Type} {tov : α → Value} {b i : Nat} {T : TypeId} {cs : List Value} {x : α} {w : World} {K : α → Prop} (hb : Blk w b T cs) (hi : cs[i]? = some (tov x)) (h : K x) : ld tov ((⟨b, 0, none⟩ : Addr).add i) w K :=
  ⟨x, by rw [add_mk, Nat.zero_add, hb.cell]; exact hi, h⟩
/-- The test of a loop that ends at the first of two bounds. -/
theorem join_and {a b : Bool} {T E : World → Prop} {w : World} (ht : a = true → b = true → T w) (hf : (a && b) = false → E w) :
    join (fun (c : Bool) (w' : World) => ite c (T w') (E w')) fun J => ite a (J b w) (J false w) := by
  unfold join
  cases a with
  | false => exact ite_ff (ite_ff (hf rfl))
  | true =>
    refine ite_tt ?_
    cases b with
    | false => exact ite_ff (hf rfl)
    | true => exact ite_tt (ht rfl rfl)
theorem join_lt {x n m : Int} {T E : World → Prop} {w : World} (ht : x < n → x < m → T w) (hf : ¬ (x < n ∧ x < m) → E w) :
    join (fun (c : Bool) (w' : World) => ite c (T w') (E w')) fun J => ite (decide (x < n)) (J (decide (x < m)) w) (J false w) :=
  join_and (fun h1 h2 => ht (of_decide_eq_true h1) (of_decide_eq_true h2)) (fun h => hf fun h' => by simp [h'.1, h'.2] at h)
theorem join_lt3 {x a b c : Int} {T E : World → Prop} {w : World} (ht : x < a → x < b → x < c → T w) (hf : ¬ (x < a ∧ x < b ∧ x < c) → E w) :
    join (fun (c : Bool) (w' : World) => ite c (T w') (E w')) fun J => ite (decide (x < a)) (ite (decide (x < b)) (J (decide (x < c)) w) (J false w)) (J false w) := by
  unfold join
  refine ite_by (fun h1 => ?_) (fun h1 => ?_)
  · refine ite_by (fun h2 => ?_) (fun h2 => ?_)
    · refine ite_by (fun h3 => ht (of_decide_eq_true h1) (of_decide_eq_true h2) (of_decide_eq_true h3)) (fun h3 => hf fun h => by have := of_decide_eq_false h3; omega)
    · exact ite_ff (hf fun h => by have := of_decide_eq_false h2; omega)
  · exact ite_ff (hf fun h => by have := of_decide_eq_false h1; omega)
end M

/-! ### Integers -/
theorem w64 {n : Int} (h0 : -9223372036854775808 ≤ n) (h1 : n < 9223372036854775808) : IntKind.i64.wrap n = n := by
  rw [IntKind.wrap_i64]; omega
theorem wu8 {n : Int} (h0 : 0 ≤ n) (h1 : n < 256) : IntKind.u8.wrap n = n := by
  rw [IntKind.wrap_u8]; omega
theorem wu32 {n : Int} (h0 : 0 ≤ n) (h1 : n < 4294967296) : IntKind.u32.wrap n = n := by
  rw [IntKind.wrap_u32]; omega
theorem wu64 {n : Int} (h0 : 0 ≤ n) (h1 : n < 18446744073709551616) : IntKind.u64.wrap n = n := by
  rw [IntKind.wrap_u64]; omega
theorem bShr_nat (k : IntKind) (a : Nat) (n : Nat) (h : n ≤ k.bits) : bShr k (a : Int) (n : Int) = ((a / 2 ^ n : Nat) : Int) := by
  unfold bShr
  rw [Int.toNat_natCast, Nat.min_eq_left h, Int.fdiv_eq_ediv_of_nonneg _ (by exact_mod_cast Nat.zero_le _)]
  exact_mod_cast rfl
theorem bits_ofInt (k : IntKind) (a : Nat) (h : a < 2 ^ k.bits) : (BitVec.ofInt k.bits (a : Int)).toNat = a := by
  simp
  exact Nat.mod_eq_of_lt h
theorem bOr_nat (k : IntKind) (a b : Nat) (ha : a < 2 ^ k.bits) (hb : b < 2 ^ k.bits) (hk : k.signed = false) : bOr k (a : Int) (b : Int) = ((a ||| b : Nat) : Int) := by
  unfold bOr
  rw [BitVec.toNat_or, bits_ofInt k a ha, bits_ofInt k b hb]
  have : a ||| b < 2 ^ k.bits := Nat.or_lt_two_pow ha hb
  unfold IntKind.wrap
  simp only [hk, Bool.false_and, Bool.false_eq_true, if_false]
  have h1 : (((a ||| b : Nat) : Int) % (2 ^ k.bits : Int)) = (((a ||| b) % 2 ^ k.bits : Nat) : Int) := by exact_mod_cast rfl
  rw [h1, Nat.mod_eq_of_lt this]
theorem bAnd_nat (k : IntKind) (a b : Nat) (ha : a < 2 ^ k.bits) (hb : b < 2 ^ k.bits) (hk : k.signed = false) : bAnd k (a : Int) (b : Int) = ((a &&& b : Nat) : Int) := by
  unfold bAnd
  rw [BitVec.toNat_and, bits_ofInt k a ha, bits_ofInt k b hb]
  have : a &&& b < 2 ^ k.bits := Nat.and_lt_two_pow _ hb
  unfold IntKind.wrap
  simp only [hk, Bool.false_and, Bool.false_eq_true, if_false]
  have h1 : (((a &&& b : Nat) : Int) % (2 ^ k.bits : Int)) = (((a &&& b) % 2 ^ k.bits : Nat) : Int) := by exact_mod_cast rfl
  rw [h1, Nat.mod_eq_of_lt this]
/-- x << 8 | c, where nothing is lost. -/
theorem or_shl8 (k : IntKind) (x c : Nat) (hk : k = .u32 ∨ k = .u64) (hx : x * 256 + 255 < 2 ^ k.bits) (hc : c < 256) : bOr k (bShl k (x : Int) 8) (k.wrap (c : Int)) = ((x * 256 + c : Nat) : Int) := by
  have hs : k.signed = false := by rcases hk with rfl | rfl <;> rfl
  have h8 : min (8 : Int).toNat k.bits = 8 := by rcases hk with rfl | rfl <;> rfl
  have hcw : k.wrap (c : Int) = ((c : Nat) : Int) := by
    rcases hk with rfl | rfl
    · exact wu32 (by omega) (by omega)
    · exact wu64 (by omega) (by omega)
  have e8 : (2 : Int) ^ 8 = 256 := by decide
  have hxx : (x : Int) * 256 = ((x * 256 : Nat) : Int) := by omega
  have hsw : bShl k (x : Int) 8 = ((x * 256 : Nat) : Int) := by
    unfold bShl
    rw [h8, e8, hxx]
    rcases hk with rfl | rfl
    · have : x * 256 + 255 < 4294967296 := hx
      exact wu32 (by omega) (by omega)
    · have : x * 256 + 255 < 18446744073709551616 := hx
      exact wu64 (by omega) (by omega)
  have hk8 : 256 ≤ 2 ^ k.bits := by
    rcases hk with rfl | rfl
    · exact (show (256 : Nat) ≤ 4294967296 by omega)
    · exact (show (256 : Nat) ≤ 18446744073709551616 by omega)
  rw [hcw, hsw, bOr_nat k (x * 256) c (Nat.lt_of_le_of_lt (Nat.le_add_right _ _) hx) (Nat.lt_of_lt_of_le hc hk8) hs]
  have : x * 256 + c = x <<< 8 + c := by rw [Nat.shiftLeft_eq]
  rw [this, Nat.shiftLeft_add_eq_or_of_lt (by omega : c < 2 ^ 8), Nat.shiftLeft_eq]

/-- The number that bytes tell, the highest first. -/
def be (l : List UInt8) : Nat := l.foldl (fun x b => x * 256 + b.toNat) 0
theorem be_snoc (l : List UInt8) (b : UInt8) : be (l ++ [b]) = be l * 256 + b.toNat := by simp [be]
theorem be_acc (l : List UInt8) : ∀ a : Nat, l.foldl (fun x b => x * 256 + b.toNat) a < (a + 1) * 256 ^ l.length := by
  induction l with
  | nil => intro a; simp
  | cons b l ih =>
    intro a
    have h := ih (a * 256 + b.toNat)
    have hb := b.toNat_lt
    simp only [List.foldl_cons, List.length_cons, Nat.pow_succ]
    have h2 : (a * 256 + b.toNat + 1) * 256 ^ l.length ≤ ((a + 1) * 256) * 256 ^ l.length := Nat.mul_le_mul_right _ (by omega)
    have h3 : (a + 1) * (256 ^ l.length * 256) = ((a + 1) * 256) * 256 ^ l.length := by
      rw [Nat.mul_comm (256 ^ l.length) 256, Nat.mul_assoc]
    omega
theorem be_lt (l : List UInt8) : be l < 256 ^ l.length := by
  have := be_acc l 0
  simpa [be] using this
/-- The lowest k bytes of a number, the highest of them first. -/
def beB (n : Nat) : Nat → List UInt8
  | 0 => []
  | k + 1 => UInt8.ofNat (n / 256 ^ k) :: beB n k
theorem beB_length (n k : Nat) : (beB n k).length = k := by induction k with
  | zero => rfl
  | succ k ih => simp [beB, ih]
end Go.Sp
