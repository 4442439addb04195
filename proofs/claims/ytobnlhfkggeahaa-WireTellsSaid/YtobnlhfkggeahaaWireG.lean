/-
  WireNumbers and WireTells: numbers and bytes are written, and read, as the document says.
-/
import Derived.Test.YtobnlhfkggeahaaWireBack
import Derived.Test.YtobnlhfkggeahaaWireV
namespace Go.Proofs.Ytobnlhfkggeahaa
set_option linter.unusedVariables false
set_option linter.unusedSimpArgs false
open Go.Sp
open Go.RowKit (Below)

/-- Two Readers, the program's and the document's, that have the same bytes left. -/
def Pair (w : World) (p : Nat) (q : List Nat) (p' : Nat) (q' : List Nat) (bs : List UInt8) (bad : Bool) : Prop := IsR w p q bs bad ∧ IsV w p' q' bs bad
theorem getl_c {w : World} {p p' : Nat} {q q' : List Nat} {bs : List UInt8} {bad : Bool} (h : Pair w p q p' q' bs bad) (hpp : p ≠ p') (hq : p ∉ q') (hq' : p' ∉ q) (kind n : Int) (b : SV) :
    Calls Try.prog 8 #[.pointer (some ⟨p, 0, none⟩), .pointer (some ⟨p', 0, none⟩), .agg #[.int .i64 kind, .int .i64 n, b.v]] w (R8 fun r w' => r = true ∧ ∃ bs' bad', Pair w' p q p' q' bs' bad' ∧ Keeps [p, p'] w w') := by
  have hlen := h.2.len
  have kal := Keeps.alloc [] w (.cells [Value.int .i64 kind, .int .i64 n, b.v].toArray 31)
  have hb := Blk.new w [Value.int .i64 kind, .int .i64 n, b.v] 31
  have hp := h.1.lt
  have hp' := h.2.lt
  have h1 : Pair (w.alloc (.cells [Value.int .i64 kind, .int .i64 n, b.v].toArray 31)) p q p' q' bs bad := ⟨h.1.keep kal (by simp) (by simp), h.2.keep kal (by simp) (by simp)⟩
  refine F8_ok (M.new_by ⟨_, hb.cell 0, M.join_by (fun J => ∀ w2 bs' bad', Pair w2 p q p' q' bs' bad' → Keeps [p, p'] w w2 → J true w2) ?_ ?_⟩)
  · intro w2 bs' bad' h2 k2
    have kd := Keeps.drew [] w2
    have h3 : Pair w2.drew p q p' q' bs' bad' := ⟨h2.1.keep kd (by simp) (by simp), h2.2.keep kd (by simp) (by simp)⟩
    have k3 : Keeps [p, p'] w w2.drew := k2.and kd.up
    refine M.join_by (fun J => ∀ w3, Pair w3 p q p' q' bs' bad' → Keeps [p, p'] w w3 → J true w3) ?_ ?_
    · intro w3 h4 k4
      exact ⟨rfl, bs', bad', h4, k4⟩
    · intro J hJ
      refine M.drew_by (M.ite_tt ((left_c h3.1).mono fun e w4 h => ?_))
      obtain ⟨r, rfl, rfl, rfl⟩ := h
      refine ⟨_, rfl, (vleft_c h3.2).mono fun e w5 h => ?_⟩
      obtain ⟨r, rfl, rfl, k5⟩ := h
      have h5 : Pair w5 p q p' q' bs' bad' := ⟨h3.1.keep k5 (by simp) (by simp), h3.2.keep k5 (by simp) (by simp)⟩
      obtain ⟨s, f, k, g1, g2, g3, g4⟩ := h5.2
      refine ⟨_, rfl, M.ite_y (by simp) ⟨_, rfl, bad', by rw [add_mk]; exact g3.cell 2, (fine_c h5.1).mono fun e w6 h => ?_⟩⟩
      obtain ⟨r, rfl, rfl, rfl⟩ := h
      refine ⟨_, rfl, by rw [add_mk]; exact g3.cell 2, ?_⟩
      have := hJ _ h5 (k3.and k5.up)
      simpa using this
  · intro J hJ
    have fin : ∀ {w1 w2 w3 : World} {n : Int} {x : Bool}, Keeps [p, p'] w w1 → Pair w1 p q p' q' bs bad → IsR w2 p q (rawLeft bs bad n) (rawBad bs bad n) → Keeps [p] w1 w2 → IsV w3 p' q' (rawLeft bs bad n) (rawBad bs bad n) → Keeps [p'] w2 w3 → x = true → J x w3 := by
      intro w1 w2 w3 n x k1 hh a1 a2 a3 a4 hx
      subst hx
      refine hJ _ _ _ ⟨a1.keep a4 (by simp; exact hpp) (fun x hx hp => by simp at hp; subst hp; exact hq' hx), a3⟩ ((k1.and (a2.mono (by simp))).and (a4.mono (by simp)))
    have vk : ∀ {w1 w2 : World}, IsV w1 p' q' bs bad → Keeps [p] w1 w2 → IsV w2 p' q' bs bad := fun h k => h.keep k (by simp; exact fun h => hpp h.symm) (fun x hx hp => by simp at hp; subst hp; exact hq hx)
    refine M.ite_by (fun hk => ?_) (fun hk => ?_)
    · refine (ru8_c h1.1 hlen).mono fun e w2 g => ?_
      obtain ⟨r2, rfl, hr2, g1, g2⟩ := g
      refine ⟨_, rfl, (vu8_c (vk h1.2 g2)).mono fun e w3 g => ?_⟩
      obtain ⟨r3, rfl, hr3, g3, g4⟩ := g
      exact ⟨_, rfl, fin kal.up h1 g1 g2 g3 g4 (by rw [hr2, hr3]; simp)⟩
    refine M.ite_by (fun hk => ?_) (fun hk => ?_)
    · refine (ru16_c h1.1 hlen).mono fun e w2 g => ?_
      obtain ⟨r2, rfl, hr2, g1, g2⟩ := g
      refine ⟨_, rfl, (vu16_c (vk h1.2 g2)).mono fun e w3 g => ?_⟩
      obtain ⟨r3, rfl, hr3, g3, g4⟩ := g
      exact ⟨_, rfl, fin kal.up h1 g1 g2 g3 g4 (by rw [hr2, hr3]; simp)⟩
    refine M.ite_by (fun hk => ?_) (fun hk => ?_)
    · refine (ru32_c h1.1 hlen).mono fun e w2 g => ?_
      obtain ⟨r2, rfl, hr2, g1, g2⟩ := g
      refine ⟨_, rfl, (vu32_c (vk h1.2 g2)).mono fun e w3 g => ?_⟩
      obtain ⟨r3, rfl, hr3, g3, g4⟩ := g
      exact ⟨_, rfl, fin kal.up h1 g1 g2 g3 g4 (by rw [hr2, hr3]; simp)⟩
    · have kd := Keeps.drew [] (w.alloc (.cells [Value.int .i64 kind, .int .i64 n, b.v].toArray 31))
      have hbd := hb.keep kd (by simp)
      have h2 : Pair (w.alloc (.cells [Value.int .i64 kind, .int .i64 n, b.v].toArray 31)).drew p q p' q' bs bad := ⟨h1.1.keep kd (by simp) (by simp), h1.2.keep kd (by simp) (by simp)⟩
      refine M.drew_by ⟨n, by rw [add_mk]; exact hbd.cell 1, n, by rw [add_mk]; exact hbd.cell 1, (raw_c h2.1 n hlen).mono fun e w2 g => ?_⟩
      obtain ⟨r2, rfl, o2, g1, g2, f2⟩ := g
      have hne : w.heap.size ≠ p := by omega
      have hne' : w.heap.size ≠ p' := by omega
      have hb2 := hbd.keep g2 (by simpa using hne)
      refine ⟨_, rfl, by rw [add_mk]; exact hb2.cell 1, _, b2s_c o2.rd, (vraw_c (vk h2.2 g2) n).mono fun e w3 g => ?_⟩
      obtain ⟨r3, rfl, o3, g3, g4, f3⟩ := g
      have o23 := o2.keep g4 (fun x hx hp => by have := f2 x hx; simp at hp this; omega)
      exact ⟨_, rfl, b2s_c o23.rd, _, b2s_c o3.rd, fin (kal.trans kd (by simp)).up h2 g1 g2 g3 g4 (by simp)⟩

end Go.Proofs.Ytobnlhfkggeahaa
