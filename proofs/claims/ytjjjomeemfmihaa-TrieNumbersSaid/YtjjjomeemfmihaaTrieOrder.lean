/-
  TrieOrder: in whatever order prefixes are put, the table is the same.
-/
import Derived.Test.YtjjjomeemfmihaaTrieMatch
namespace Go.Proofs.Ytjjjomeemfmihaa
set_option linter.unusedVariables false
set_option linter.unusedSimpArgs false
open Go.Sp
open Go.RowKit (Below)

theorem less_c {w : World} {p q : Key} (hp : p.1 < 4294967296 ∧ rightP p.1 p.2 = true) (hq : q.1 < 4294967296 ∧ rightP q.1 q.2 = true) : Calls Try.prog 16 #[.agg #[.int .u32 (p.1 : Int), .int .i64 p.2], .agg #[.int .u32 (q.1 : Int), .int .i64 q.2]] w (R16 fun r w' => r = decide (kLt p q) ∧ Keeps [] w w') := by
  refine F16_ok (M.new_blk fun b w1 hb B k1 => M.new_blk fun c w2 hc C k2 => ?_)
  have B := B.keep k2 (by simp)
  have k02 := k1.trans k2 (by simp)
  refine M.join_by (fun (J : Bool → World → Prop) => ∀ w', Keeps [] w2 w' → J false w') ?_ ?_
  · intro w3 k3
    have B3 := B.keep k3 (by simp)
    have C3 := C.keep k3 (by simp)
    refine M.ite_ff (M.join_by (fun (J : Bool → World → Prop) => J (decide (kLt p q)) w3) ⟨rfl, k02.trans k3 (by simp)⟩ fun J hJ => ⟨_, B3.cell 0, _, C3.cell 0, M.ite_by (fun d => ?_) (fun d => ?_)⟩)
    · have d := of_decide_eq_true d
      rw [decide_eq_true (show kLt p q from .inl (by omega))] at hJ
      exact hJ
    · have d := of_decide_eq_false d
      refine ⟨_, B3.cell 0, _, C3.cell 0, M.ite_by (fun d2 => ?_) (fun d2 => ?_)⟩
      · have d2 : p.1 = q.1 := by simp at d2; omega
        refine ⟨_, B3.cell 1, _, C3.cell 1, ?_⟩
        have e : decide (kLt p q) = decide (p.2 < q.2) := by
          rw [decide_eq_decide]; unfold kLt; omega
        dsimp only
        rw [← e]; exact hJ
      · have d2 : p.1 ≠ q.1 := by simp at d2; omega
        rw [decide_eq_false (show ¬ kLt p q by unfold kLt; omega)] at hJ
        exact hJ
  · intro J hJ
    refine ⟨_, B.cell 0, _, B.cell 1, (rright_c hp.1 p.2).mono fun e w3 g => ?_⟩
    obtain ⟨r3, rfl, rfl, k3⟩ := g
    have C3 := C.keep k3 (by simp)
    refine ⟨_, rfl, M.ite_n (by rw [hp.2]; rfl) ⟨_, C3.cell 0, _, C3.cell 1, (rright_c hq.1 q.2).mono fun e w4 g => ?_⟩⟩
    obtain ⟨r4, rfl, rfl, k4⟩ := g
    have := hJ _ (k3.trans k4 (by simp))
    rw [hq.2]
    exact ⟨_, rfl, this⟩

/-- A table that has these prefixes, each with its length. -/
def Holds (L : Tbl) (S : Key → Prop) : Prop := ∀ k, (S k → tget L k = some k.2) ∧ (¬ S k → tget L k = none)
theorem Holds.put {L : Tbl} {S : Key → Prop} (h : Holds L S) (q : Key) : Holds (tput L q q.2) (fun k => S k ∨ k = q) := by
  intro k
  rw [tget_tput]
  by_cases hk : q = k
  · subst hk
    rw [if_pos rfl]
    exact ⟨fun _ => rfl, fun h => absurd (.inr rfl) h⟩
  · rw [if_neg hk]
    refine ⟨fun h1 => ?_, fun h1 => (h k).2 fun h2 => h1 (.inl h2)⟩
    rcases h1 with h1 | h1
    · exact (h k).1 h1
    · exact absurd h1.symm hk
theorem Holds.congr {L : Tbl} {S T : Key → Prop} (h : Holds L S) (e : ∀ k, S k ↔ T k) : Holds L T := fun k => ⟨fun h1 => (h k).1 ((e k).2 h1), fun h1 => (h k).2 fun h2 => h1 ((e k).1 h2)⟩
theorem Holds.eq {L M : Tbl} {S : Key → Prop} (hL : Tab L) (hM : Tab M) (h : Holds L S) (k : Holds M S) : L = M :=
  tab_ext hL hM fun x => by
    by_cases hx : S x
    · rw [(h x).1 hx, (k x).1 hx]
    · rw [(h x).2 hx, (k x).2 hx]

def askK (x : Int × Int × Int × Nat × Bool) : Key := kp (x.2.2.2.1 : Int) x.2.1
/-- The prefix of an ask, laid in a new place, in whatever order. -/
theorem rotate_all {α : Type} {n : Nat} (hn : 0 < n) (f : Nat → α) (s : Nat) (k : α) : (∃ j, j < n ∧ f ((j + s) % n) = k) ↔ (∃ j, j < n ∧ f j = k) := by
  constructor
  · rintro ⟨j, _, h⟩
    exact ⟨(j + s) % n, Nat.mod_lt _ hn, h⟩
  · rintro ⟨j, hj, h⟩
    refine ⟨(j + (n - s % n)) % n, Nat.mod_lt _ hn, ?_⟩
    have hs := Nat.mod_lt s hn
    have e : ((j + (n - s % n)) % n + s) % n = j := by
      rw [Nat.mod_add_mod]
      have h1 : j + (n - s % n) + s = j + n + (s - s % n) := by
        have := Nat.mod_le s n
        omega
      have h2 := Nat.div_add_mod s n
      rw [h1, show s - s % n = n * (s / n) by omega, Nat.add_mul_mod_self_left, Nat.add_mod_right, Nat.mod_eq_of_lt hj]
    rw [e]; exact h
theorem order_c {W : World} {s : SV} {l : List (Int × Int × Int × Nat × Bool)} {p1 : Int} (hl : l.length = s.len) (hm : s.len ≤ maxLen) (hp : ∀ i x, l[i]? = some x → AskAt W s i x) :
    Calls Try.prog 3 #[s.v, .int .i64 p1] W (R3 fun r w' => r = true ∧ Below W.heap.size W w') := by
  unfold maxLen at hm
  refine F3_ok (tnew_c.mono fun e w1 g => ?_)
  obtain ⟨r, rfl, p, rfl, h1, k1, hpB⟩ := g
  refine ⟨_, rfl, tnew_c.mono fun e w2 g => ?_⟩
  obtain ⟨r2, rfl, q, rfl, h2, k2, hqB⟩ := g
  have a2 := ((Aft.refl W).new k1).new k2
  have h1' := h1.keep k2 (by simp)
  have hplt := h1.1 p (by simp)
  refine ⟨_, rfl, M.join_by (fun (J : Bool → World → Prop) => J false w2) ?_ fun J hJ => M.ite_n rfl hJ⟩
  refine M.ite_ff (M.join_by (fun (J : Int → World → Prop) => J ((min l.length 50 : Nat) : Int) w2) ?_ fun J hJ => M.ite_by (fun c => ?_) (fun c => ?_))
  rotate_left
  · have c := of_decide_eq_true c
    rw [show min l.length 50 = 50 by omega] at hJ; exact hJ
  · have c := of_decide_eq_false c
    rw [show min l.length 50 = l.length by omega, hl] at hJ; exact hJ
  obtain ⟨n, hn⟩ : ∃ n, n = min l.length 50 := ⟨_, rfl⟩
  rw [← hn]
  have hnl : n ≤ l.length := by omega
  have hn50 : n ≤ 50 := by omega
  obtain ⟨f, hf⟩ : ∃ f : Nat → Key, ∀ i (h : i < l.length), f i = askK l[i] := ⟨fun i => if h : i < l.length then askK l[i] else (0, 0), fun i h => by simp [h]⟩
  obtain ⟨t, ht⟩ : ∃ t : Nat, (t : Int) = p1 % 51 := ⟨(p1 % 51).toNat, by omega⟩
  have hfr : ∀ i, i < l.length → (f i).1 < 4294967296 ∧ rightP (f i).1 (f i).2 = true := fun i h => by
    rw [hf i h]; exact ⟨kp_lt _ _, kp_right _ _⟩
  refine M.loop1_by (fun x w => ∃ (i : Nat) (D E : List Nat) (L N : Tbl), x = i ∧ i ≤ n ∧ Aft W w ∧ L.length ≤ i ∧ N.length ≤ i ∧ TrieAt w D p L ∧ TrieAt w E q N ∧ (∀ y ∈ D, W.heap.size ≤ y) ∧ (∀ y ∈ E, W.heap.size ≤ y) ∧ (∀ y ∈ D, y ∉ E) ∧ Holds L (fun k => ∃ j, j < i ∧ f j = k) ∧ Holds N (fun k => ∃ j, j < i ∧ f ((j + t) % n) = k)) (fun x _ => (50 - x).toNat)
    ⟨0, [p], [q], [], [], rfl, by omega, a2, by simp, by simp, h1', h2, by intro y hy; simp at hy; omega, by intro y hy; simp at hy; subst hy; have := k1.size; omega, by intro y hy; simp at hy; simp; omega, fun k => ⟨fun ⟨j, hj, _⟩ => by omega, fun _ => rfl⟩, fun k => ⟨fun ⟨j, hj, _⟩ => by omega, fun _ => rfl⟩⟩ ?_
  rintro x w J ⟨i, D, E, L, N, rfl, hi, ha, hLi, hMi, hT, hU, hDB, hEB, hDE, hHL, hHM⟩ hJ
  -- an ask's prefix, laid in a box
  have box : ∀ {i : Nat} {w : World}, i < l.length → Aft W w → ∃ a : Addr, s.a = some a ∧ ∀ w', Aft W w' → w'.cell? ((a.add (i * 5)).add 3) = some (.int .u32 ((l[i]?.getD (0, 0, 0, 0, false)).2.2.2.1 : Int)) ∧ w'.cell? ((a.add (i * 5)).add 1) = some (.int .i64 (l[i]?.getD (0, 0, 0, 0, false)).2.1) ∧ f i = kp ((l[i]?.getD (0, 0, 0, 0, false)).2.2.2.1 : Int) (l[i]?.getD (0, 0, 0, 0, false)).2.1 := by
    intro i w h _
    obtain ⟨a, hsa, hau, hat⟩ := hp i l[i] (List.getElem?_eq_getElem h)
    refine ⟨a, hsa, fun w' ha' => ?_⟩
    obtain ⟨c0, c1, c2, c3, c4⟩ := hat _ ha'.1
    rw [List.getElem?_eq_getElem h, Option.getD_some]
    exact ⟨c3, c1, hf i h⟩
  refine M.ite_by (fun c => ?_) (fun c => ?_)
  · have c := of_decide_eq_true c
    have hin : i < n := by omega
    refine M.join_by (fun (J : Addr → World → Prop) => ∀ b w', Blk w' b 27 [.int .u32 ((f i).1 : Int), .int .i64 (f i).2] → Keeps [] w w' → J ⟨b, 0, none⟩ w') ?_ ?_
    · intro b w3 B3 k3
      have hb3 := B3.lt
      refine ⟨_, B3.cell 0, _, B3.cell 1, _, B3.cell 1, (put_c (hT.keep k3 (by simp)) (hfr i (by omega)).1 (f i).2 (f i).2 (by omega)).mono fun e w4 g => ?_⟩
      obtain ⟨r4, rfl, _, D4, h4, k4, f4⟩ := g
      rw [(hfr i (by omega)).2, if_pos rfl] at h4
      have a3 := ha.new k3
      have a4 := a3.step k4 hDB
      have hE4 := (hU.keep k3 (by simp)).keep k4 (fun y hy hd => hDE y hd hy)
      have hDE4 : ∀ y ∈ D4, y ∉ E := fun y hy hyE => by
        rcases f4 y hy with h | h
        · exact hDE y h hyE
        · have := hU.1 y hyE; have := k3.size; omega
      have hDB4 : ∀ y ∈ D4, W.heap.size ≤ y := fun y hy => by
        rcases f4 y hy with h | h
        · exact hDB y h
        · have := a3.2; omega
      refine ⟨_, rfl, (within_c p1 0 50 (by omega) (by omega) (by omega)).mono fun e w5 g => ?_⟩
      obtain ⟨r5, rfl, hr5, _, _, rfl⟩ := g
      have er5 : r5 = (t : Int) := by omega
      subst er5
      have em : Int.tmod (IntKind.i64.wrap ((i : Int) + (t : Int))) (n : Int) = (((i + t) % n : Nat) : Int) := by
        rw [w64 (by omega) (by omega), show (i : Int) + (t : Int) = ((i + t : Nat) : Int) by omega]; rfl
      have hkn : (i + t) % n < n := Nat.mod_lt _ (by omega)
      obtain ⟨kk, hkk⟩ : ∃ kk, kk = (i + t) % n := ⟨_, rfl⟩
      rw [← hkk] at em hkn
      refine ⟨_, rfl, by omega, ?_⟩
      rw [em]
      refine M.join_by (fun (J : Addr → World → Prop) => ∀ b w', Blk w' b 27 [.int .u32 ((f kk).1 : Int), .int .i64 (f kk).2] → Keeps [] w5 w' → J ⟨b, 0, none⟩ w') ?_ ?_
      · intro b6 w6 B6 k6
        refine ⟨_, B6.cell 0, _, B6.cell 1, _, B6.cell 1, (put_c (hE4.keep k6 (by simp)) (hfr kk (by omega)).1 (f kk).2 (f kk).2 (by omega)).mono fun e w7 g => ?_⟩
        obtain ⟨r7, rfl, _, E7, h7, k7, f7⟩ := g
        rw [(hfr kk (by omega)).2, if_pos rfl] at h7
        have a6 := a4.new k6
        refine ⟨_, rfl, ?_⟩
        rw [w64 (by omega) (by omega)]
        refine hJ _ _ ⟨i + 1, D4, E7, _, _, by omega, by omega, a6.step k7 hEB, ?_, ?_, (h4.keep k6 (by simp)).keep k7 hDE4, h7, hDB4, fun y hy => ?_, fun y hy hyE => ?_, (hHL.put (f i)).congr ?_, (hHM.put (f kk)).congr ?_⟩ (by omega)
        · exact Nat.le_trans (tput_len_le L _ _) (by omega)
        · exact Nat.le_trans (tput_len_le N _ _) (by omega)
        · rcases f7 y hy with h | h
          · exact hEB y h
          · have := a6.2; omega
        · rcases f7 y hyE with h | h
          · exact hDE4 y hy h
          · have := h4.1 y hy; have := k6.size; omega
        · intro k
          constructor
          · rintro (⟨j, hj, h⟩ | rfl)
            · exact ⟨j, by omega, h⟩
            · exact ⟨i, by omega, rfl⟩
          · rintro ⟨j, hj, h⟩
            by_cases hji : j = i
            · right; rw [← h, hji]
            · exact .inl ⟨j, by omega, h⟩
        · intro k
          constructor
          · rintro (⟨j, hj, h⟩ | rfl)
            · exact ⟨j, by omega, h⟩
            · exact ⟨i, by omega, by rw [hkk]⟩
          · rintro ⟨j, hj, h⟩
            by_cases hji : j = i
            · right; rw [← h, hji, hkk]
            · exact .inl ⟨j, by omega, h⟩
      · intro J2 hJ2
        have kd := Keeps.drew [] w5
        obtain ⟨a, hsa, hat⟩ := box (i := kk) (w := w5) (by omega) a4
        have e1 := hat _ (a4.new kd)
        have ek : ((kk : Nat) : Int).toNat * 5 = kk * 5 := by omega
        refine M.drew_by ⟨a, hsa, by omega, by omega, a, hsa, by omega, by omega, _, by rw [ek]; exact e1.1, _, by rw [ek]; exact e1.2.1, ?_, ?_⟩
        · refine (kprefix_c _ _).mono fun e w6 g => ?_
          obtain ⟨x6, y6, rfl, rfl, rfl, k6⟩ := g
          refine ⟨_, _, rfl, M.new_blk fun b7 w7 hb7 B7 k7 => ?_⟩
          have e7 := hat _ (((a4.new kd).new k6).new k7)
          refine ⟨by rw [ek]; exact e7.2.1, by rw [ek]; exact e7.1, M.stA_blk B7 rfl fun w8 B8 k8 => ?_⟩
          rw [← e1.2.2] at B8
          exact hJ2 _ _ B8 (((kd.trans k6 (by simp)).trans k7 (by simp)).trans k8 (by have := k6.size; have : w5.drew.heap.size = w5.heap.size := rfl; simp; omega))
        · refine M.new_blk fun b7 w7 hb7 B7 k7 => ?_
          have e7 := hat _ ((a4.new kd).new k7)
          refine ⟨by rw [ek]; exact e7.2.1, by rw [ek]; exact e7.1, (kprefix_c _ _).mono fun e w6 g => ?_⟩
          obtain ⟨x6, y6, rfl, rfl, rfl, k6⟩ := g
          refine ⟨_, _, rfl, M.stA_blk (B7.keep k6 (by simp)) rfl fun w8 B8 k8 => ?_⟩
          rw [← e1.2.2] at B8
          exact hJ2 _ _ B8 (((kd.trans k7 (by simp)).trans k6 (by simp)).trans k8 (by have : w5.drew.heap.size = w5.heap.size := rfl; simp; omega))
    · intro J2 hJ2
      have kd := Keeps.drew [] w
      obtain ⟨a, hsa, hat⟩ := box (i := i) (w := w) (by omega) ha
      have e1 := hat _ (ha.new kd)
      have ek : ((i : Nat) : Int).toNat * 5 = i * 5 := by omega
      refine M.drew_by ⟨a, hsa, by omega, by omega, a, hsa, by omega, by omega, _, by rw [ek]; exact e1.1, _, by rw [ek]; exact e1.2.1, ?_, ?_⟩
      · refine (kprefix_c _ _).mono fun e w6 g => ?_
        obtain ⟨x6, y6, rfl, rfl, rfl, k6⟩ := g
        refine ⟨_, _, rfl, M.new_blk fun b7 w7 hb7 B7 k7 => ?_⟩
        have e7 := hat _ (((ha.new kd).new k6).new k7)
        refine ⟨by rw [ek]; exact e7.2.1, by rw [ek]; exact e7.1, M.stA_blk B7 rfl fun w8 B8 k8 => ?_⟩
        rw [← e1.2.2] at B8
        exact hJ2 _ _ B8 (((kd.trans k6 (by simp)).trans k7 (by simp)).trans k8 (by have := k6.size; have : w.drew.heap.size = w.heap.size := rfl; simp; omega))
      · refine M.new_blk fun b7 w7 hb7 B7 k7 => ?_
        have e7 := hat _ ((ha.new kd).new k7)
        refine ⟨by rw [ek]; exact e7.2.1, by rw [ek]; exact e7.1, (kprefix_c _ _).mono fun e w6 g => ?_⟩
        obtain ⟨x6, y6, rfl, rfl, rfl, k6⟩ := g
        refine ⟨_, _, rfl, M.stA_blk (B7.keep k6 (by simp)) rfl fun w8 B8 k8 => ?_⟩
        rw [← e1.2.2] at B8
        exact hJ2 _ _ B8 (((kd.trans k7 (by simp)).trans k6 (by simp)).trans k8 (by have : w.drew.heap.size = w.heap.size := rfl; simp; omega))
  · have c := of_decide_eq_false c
    have hin : i = n := by omega
    subst hin
    have hLt : Tab L := by obtain ⟨_, _, _, _, _, _, h⟩ := hT; exact h
    have hNt : Tab N := by obtain ⟨_, _, _, _, _, _, h⟩ := hU; exact h
    have hLN : L = N := by
      refine Holds.eq hLt hNt hHL (hHM.congr fun k => ?_)
      by_cases h0 : 0 < i
      · exact rotate_all h0 f t k
      · constructor
        · rintro ⟨j, hj, _⟩; omega
        · rintro ⟨j, hj, _⟩; omega
    subst hLN
    have hklt : ∀ k ∈ L.map (·.1), k.1 < 4294967296 ∧ rightP k.1 k.2 = true := by
      intro k hk
      obtain ⟨z, hz, rfl⟩ := List.mem_map.1 hk
      exact hLt.right z hz
    have hval : ∀ k ∈ L.map (·.1), tget L k = some k.2 := by
      intro k hk
      obtain ⟨z, hz, rfl⟩ := List.mem_map.1 hk
      have h1 : (tget L z.1).isSome = true := tget_isSome.2 ⟨z, hz, rfl⟩
      by_cases hx : ∃ j, j < i ∧ f j = z.1
      · exact (hHL z.1).1 hx
      · rw [(hHL z.1).2 hx] at h1; cases h1
    have hsorted : (L.map (·.1)).Pairwise kLt := by
      rw [List.pairwise_map]; exact hLt.sorted
    refine (tall_c hT (by omega)).mono fun e w3 g => ?_
    obtain ⟨r3, rfl, o3, f3, k3⟩ := g
    refine ⟨_, rfl, (tall_c (hU.keep k3 (by simp)) (by omega)).mono fun e w4 g => ?_⟩
    obtain ⟨r4, rfl, o4, f4, k4⟩ := g
    have hks := pf_len o3.rd
    have hkl : (L.map (·.1)).length = L.length := by simp
    generalize hK : L.map (·.1) = ks at *
    have o34 := o3.keep k4 (by simp)
    refine ⟨_, rfl, ?_⟩
    refine M.loop1_by (fun y w' => ∃ j : Nat, y = j ∧ j ≤ ks.length ∧ Keeps [] w4 w') (fun y _ => ks.length - y.toNat) ⟨0, rfl, by omega, Keeps.refl _ _⟩ ?_
    rintro y w5 J1 ⟨j, rfl, hj, k5⟩ hJ1
    have k05 := (k3.trans k4 (by simp)).trans k5 (by simp)
    refine M.ite_by (fun c => ?_) (fun c => ?_)
    · have c := of_decide_eq_true c
      have jl : j < ks.length := by omega
      have ej := List.getElem?_eq_getElem jl
      have hkm := List.getElem_mem jl
      obtain ⟨a, ha5⟩ := (o34.keep k5 (by simp)).rd.some (by omega)
      have e5 := pf_at (o34.keep k5 (by simp)).rd ha5 ej
      refine ⟨a, ha5, by omega, c, _, e5.1, _, e5.2, (get_c (hU.keep k05 (by simp)) (hklt _ hkm).1 ks[j].2).mono fun e w6 g => ?_⟩
      obtain ⟨r6, ok6, rfl, rfl, rfl, k6⟩ := g
      have hv := hval _ hkm
      have k46 := k5.trans k6 (by simp)
      refine ⟨_, _, rfl, M.join_by (fun (J : Bool → World → Prop) => ∀ w', Keeps [] w4 w' → J false w') ?_ ?_⟩
      · intro w7 k7
        refine M.ite_ff ?_
        rw [w64 (by omega) (by omega)]
        exact hJ1 _ _ ⟨j + 1, by omega, by omega, k7⟩ (by omega)
      · intro J2 hJ2
        have kd := Keeps.drew [] w6
        have k47 := k46.trans kd (by simp)
        have e7 := pf_at (o34.keep k47 (by simp)).rd ha5 ej
        refine M.drew_by (M.ite_n (by rw [hv]; rfl) ⟨a, ha5, by omega, c, _, e7.2, M.ite_n (by rw [hv]; simp) (M.ite_by (fun c7 => ?_) (fun c7 => hJ2 _ k47))⟩)
        have c7 := of_decide_eq_true c7
        obtain ⟨j, rfl⟩ : ∃ m, j = m + 1 := ⟨j - 1, by omega⟩
        have ejm := List.getElem?_eq_getElem (show j < ks.length by omega)
        have e8 := pf_at (o34.keep k47 (by simp)).rd ha5 ejm
        have hw : IntKind.i64.wrap (((j + 1 : Nat) : Int) - 1) = (j : Int) := by rw [w64 (by omega) (by omega)]; omega
        rw [hw]
        refine ⟨a, ha5, by omega, by omega, a, ha5, by omega, c, _, e8.1, _, e8.2, _, e7.1, _, e7.2, (less_c (hklt _ (List.getElem_mem _)) (hklt _ hkm)).mono fun e w8 g => ?_⟩
        obtain ⟨r8, rfl, rfl, k8⟩ := g
        have hlt : kLt ks[j] ks[j + 1] := List.pairwise_iff_getElem.1 hsorted j (j + 1) _ _ (by omega)
        refine ⟨_, rfl, ?_⟩
        rw [decide_eq_true hlt]
        exact hJ2 _ (k47.trans k8 (by simp))
    · refine M.join_by (fun (J : Bool → World → Prop) => ∀ w', Aft W w' → J true w') (fun w' h => ⟨rfl, h.1⟩) fun J2 hJ2 => ?_
      refine (samep_c (o34.keep k5 (by simp)).rd (o4.keep k5 (by simp)).rd (by omega)).mono fun e w6 g => ?_
      obtain ⟨r6, rfl, rfl, k6⟩ := g
      have k06 := k05.trans k6 (by simp)
      refine ⟨_, rfl, M.ite_y (by simp) ((tlen_c (hT.keep k06 (by simp))).mono fun e w7 g => ?_)⟩
      obtain ⟨r7, rfl, rfl, rfl⟩ := g
      refine ⟨_, rfl, M.ite_y (by rw [hks, hkl]; simp) (known_c.mono fun e w8 g => ?_)⟩
      obtain ⟨r8, rfl, rfl, k8⟩ := g
      exact ⟨_, rfl, hJ2 _ (ha.new (k06.trans k8 (by simp)))⟩
theorem order_law (W : World) (args : List Value) (h : GdArgs W [(false, .cons (.slice askSh) .nil), (false, .cons (.int .i64) .nil)] args) : Calls Try.prog 3 args.toArray W fun e W' => e = .returned (.bool true) ∧ Below W.heap.size W W' := by
  obtain ⟨v0, r, rfl, h0, h⟩ := h.one
  obtain ⟨v1, r, rfl, h1, h⟩ := h.one
  cases h
  obtain ⟨s, l, rfl, hl, hm, hp⟩ := asks_of h0
  obtain ⟨n1, rfl, _⟩ := good_int h1
  exact (order_c hl hm hp).mono fun e w' ⟨b, he, hb, hw⟩ => by subst hb; exact ⟨he, hw⟩
end Go.Proofs.Ytjjjomeemfmihaa
