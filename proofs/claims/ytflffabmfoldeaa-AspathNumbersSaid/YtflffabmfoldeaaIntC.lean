/-
  Lists of whole numbers in memory, and how a list is made longer.
-/
import Derived.Test.YtflffabmfoldeaaF
import Derived.Test.YtflffabmfoldeaaSpArg
namespace Go.Proofs.Ytflffabmfoldeaa
set_option linter.unusedVariables false
set_option linter.unusedSimpArgs false
open Go.Sp

theorem intEl : elemB Try.prog 3 1 8 = true := by kernel_rfl
theorem intSl : sliceB Try.prog 22 3 1 = true := by kernel_rfl
def iv (l : List Int) : List Value := l.map (Value.int .i64)
theorem iv_one (l : List Int) : ∀ u ∈ iv l, u.oneCell' = true := by
  intro u hu
  obtain ⟨x, _, rfl⟩ := List.mem_map.1 hu
  rfl
theorem iv_app (a b : List Int) : iv (a ++ b) = iv a ++ iv b := by simp [iv]
theorem iv_len {w : World} {s : SV} {l : List Int} (h : Rd 1 w s (iv l)) : s.len = l.length := by
  have := h.len
  simp only [iv, List.length_map] at this; omega
theorem iv_at {w : World} {s : SV} {l : List Int} (h : Rd 1 w s (iv l)) {a : Addr} (ha : s.a = some a) {i : Nat} {x : Int} (hx : l[i]? = some x) : w.cell? (a.add (i * 1)) = some (.int .i64 x) := by
  rw [Nat.mul_one]
  exact h.at ha (i := i) (by simp [iv, hx])
/-- Places, as whole numbers. -/
def pl (l : List Nat) : List Int := List.map (fun n : Nat => (n : Int)) l
theorem pl_len (l : List Nat) : (pl l).length = l.length := by simp [pl]
theorem pl_app (a b : List Nat) : pl (a ++ b) = pl a ++ pl b := by simp [pl]
theorem pl_at {l : List Nat} {i n : Nat} (h : l[i]? = some n) : (pl l)[i]? = some (n : Int) := by simp [pl, h]
/-- A list is longer by what is put behind it. -/
theorem app_k {e sz bytes t : Nat} (hB : sliceB Try.prog t e sz = true) (hE : elemB Try.prog e sz bytes = true) {w0 w : World} {s x : SV} {vs news : List Value} {K : SV → World → Prop} (k : Keeps [] w0 w) (hf : ∀ y ∈ s.blk, w0.heap.size ≤ y) (ho : Own e sz w s vs) (hx : Rd sz w x news)
    (h1 : ∀ u ∈ news, u.oneCell' = true) (hb : (s.len + x.len) * bytes ≤ 140737488355328) (h : ∀ r w', Own e sz w' r (vs ++ news) → r.len = s.len + x.len → (∀ y ∈ r.blk, w0.heap.size ≤ y) → Keeps s.blk w w' → Keeps [] w0 w' → K r w') : M.app Try.prog t t t s x.v w K := by
  obtain ⟨r, w', v1, v2, v3, v4, v5⟩ := app_own (P := Try.prog) (ty := t) hB hE ho hx h1 hb
  refine ⟨r, w', v1, h r w' v2 v3 (fun y hy => ?_) v4 (k.trans v4 (fun y hy => .inr (hf y hy)))⟩
  rcases v5 y hy with h | h
  · exact hf y h
  · have := k.size; omega
theorem new0_k {e sz : Nat} {w0 w : World} {K : Addr → World → Prop} (k : Keeps [] w0 w) (h : ∀ b w', w.heap.size ≤ b → b < w'.heap.size → (∀ y ∈ (SV.mk (some ⟨b, 0, none⟩) 0 0).blk, w0.heap.size ≤ y) → Own e sz w' ⟨some ⟨b, 0, none⟩, 0, 0⟩ [] → Keeps [] w w' → Keeps [] w0 w' → K ⟨b, 0, none⟩ w') : M.new (.cells #[] e) w K :=
  M.new_by (h w.heap.size _ (Nat.le_refl _) (by simp) (by intro y hy; simp [SV.blk] at hy; subst hy; exact k.size) (Own.new w e sz 0 [] (by simp) (by simp [maxLen])) (Keeps.alloc [] w _) (k.trans (Keeps.alloc [] w _) (by simp)))
theorem newn_k {e sz n : Nat} {cs : List Value} (hc : cs.length = n * sz) (hn : n ≤ 1000) {w0 w : World} {K : Addr → World → Prop} (k : Keeps [] w0 w) (h : ∀ b w', w.heap.size ≤ b → b < w'.heap.size → Own e sz w' ⟨some ⟨b, 0, none⟩, n, n⟩ cs → Keeps [] w w' → Keeps [] w0 w' → K ⟨b, 0, none⟩ w') : M.new (.cells cs.toArray e) w K :=
  M.new_by (h w.heap.size _ (Nat.le_refl _) (by simp) (Own.new w e sz n cs hc (by unfold maxLen; omega)) (Keeps.alloc [] w _) (k.trans (Keeps.alloc [] w _) (by simp)))
theorem new1_k {e sz : Nat} {cs : List Value} (hc : cs.length = sz) {w0 w : World} {K : Addr → World → Prop} (k : Keeps [] w0 w) (h : ∀ b w', w.heap.size ≤ b → b < w'.heap.size → Rd sz w' ⟨some ⟨b, 0, none⟩, 1, 1⟩ cs → Keeps [] w w' → Keeps [] w0 w' → K ⟨b, 0, none⟩ w') : M.new (.cells cs.toArray e) w K :=
  M.new_by (h w.heap.size _ (Nat.le_refl _) (by simp) (Own.new w e sz 1 cs (by omega) (by simp [maxLen])).rd (Keeps.alloc [] w _) (k.trans (Keeps.alloc [] w _) (by simp)))
/-- One whole number more. -/
theorem app_i {w0 w : World} {s : SV} {l : List Int} (x : Int) {K : SV → World → Prop} (k : Keeps [] w0 w) (hf : ∀ y ∈ s.blk, w0.heap.size ≤ y) (ho : Own 3 1 w s (iv l)) (hb : l.length ≤ 1000000000) (h : ∀ r w', Own 3 1 w' r (iv (l ++ [x])) → (∀ y ∈ r.blk, w0.heap.size ≤ y) → Keeps [] w0 w' → K r w') :
    M.new (.cells #[Value.int .i64 x] 3) w fun b w' => M.app Try.prog 22 22 22 s (SV.v (SV.mk (some b) 1 1)) w' K := by
  have hl := iv_len ho.rd
  refine new1_k (cs := [Value.int .i64 x]) (sz := 1) rfl k fun b w1 g1 g2 x1 k1 k01 => app_k intSl intEl k01 hf (ho.keep k1 (by simp)) x1 (iv_one [x]) (by simp only []; omega) fun r w2 o2 n2 f2 _ k02 => h r w2 (by rw [iv_app]; exact o2) f2 k02
end Go.Proofs.Ytflffabmfoldeaa
