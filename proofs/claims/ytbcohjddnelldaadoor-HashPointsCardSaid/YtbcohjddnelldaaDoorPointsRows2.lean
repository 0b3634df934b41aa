/-
  Lists written full with marks of their own, and grown.
-/
import Derived.Test.YtbcohjddnelldaaDoorPointsRows
namespace Go.Proofs.YtbcohjddnelldaaDoor.Pts
open Go.RowKit Base Tail Digits HashPlain HashW HashR
set_option linter.unusedVariables false

theorem own_at {w : World} {N n i : Nat} {e : TypeId} {v : Value} {xs : List Value} (h : w.ownsRow N e 1 v n xs) (hi : i < n) : ∃ g c p, v = .slice (some ⟨g, 0, none⟩) n c ∧ xs[i]? = some p ∧ w.cell? ⟨g, i, none⟩ = some p ∧ N ≤ g ∧ g < w.heap.size := by
  have hl := h.1
  have hi' : i < xs.length := by omega
  rcases h.2 with ⟨rfl, h0⟩ | ⟨g, cap, cur, rfl, hB, hg, h1, h2, h3, h4⟩
  · omega
  · obtain ⟨p, hj⟩ : ∃ p, xs[i]? = some p := ⟨_, List.getElem?_eq_getElem hi'⟩
    refine ⟨g, cap, p, rfl, hj, ?_, hB, heap_lt hg⟩
    rw [cell_of_row w g i cur _ (0, 0) hg]
    rw [← h4, List.getElem?_take] at hj
    split at hj
    · simpa using hj
    · cases hj
theorem own_slice {w : World} {N n : Nat} {e : TypeId} {v : Value} {xs : List Value} (h : w.ownsRow N e 1 v n xs) : ∃ A c, v = .slice A n c := by
  rcases h.2 with ⟨rfl, rfl⟩ | ⟨g, cap, cur, rfl, hB, hg, h1, h2, h3, h4⟩
  · exact ⟨none, 0, rfl⟩
  · exact ⟨_, _, rfl⟩

/-- The lists, the first i written full with their marks, of the next one k places. -/
structure Marks (w0 w : World) (N : Nat) (v3 : Value) (ps : List Value) (ns : Nat → Nat) (i k : Nat) : Prop where
  o3 : w.ownsRow N 26 1 v3 ps.length ps
  pr : ∀ (j : Nat) (p : Value), ps[j]? = some p → ∃ L : List Nat, L.length = ns j ∧ PRow w N p L ∧ ∀ t, t < L.length → (j < i ∨ (j = i ∧ t < k)) → L[t]? = some (1000 + j)
  ap : ∀ (i j : Nat) (p p' : Value), ps[i]? = some p → ps[j]? = some p' → i ≠ j → p.ownBlock = none ∨ p.ownBlock ≠ p'.ownBlock
  nb : ∀ j, ns j ≤ 512
  b : Below N w0 w
  sz : N ≤ w.heap.size
def lensOf (Ls : List (List Nat)) (j : Nat) : Nat := (Ls[j]?.getD []).length
theorem Marks.start {w0 w : World} {N : Nat} {v3 v4 : Value} {ps qs : List Value} {Ls Ks : List (List Nat)} (h : Told w0 w N v3 v4 ps qs Ls Ks) (hl : ps.length = Ls.length) : Marks w0 w N v3 ps (lensOf Ls) 0 0 := by
  refine ⟨h.o3, fun j p hp => ?_, h.ap, fun j => ?_, h.b, h.sz⟩
  · have hj : j < Ls.length := by rw [← hl]; exact (List.getElem?_eq_some_iff.1 hp).1
    exact ⟨Ls[j], by simp [lensOf, hj], h.pr j p _ hp (List.getElem?_eq_getElem hj), fun t _ ht => by omega⟩
  · unfold lensOf
    rcases Nat.lt_or_ge j Ls.length with hj | hj
    · rw [List.getElem?_eq_getElem hj]
      exact h.len _ (List.getElem_mem hj)
    · rw [List.getElem?_eq_none hj]; simp
theorem Marks.next {w0 w : World} {N i : Nat} {v3 : Value} {ps : List Value} {ns : Nat → Nat} (h : Marks w0 w N v3 ps ns i (ns i)) : Marks w0 w N v3 ps ns (i + 1) 0 := by
  refine ⟨h.o3, fun j p hp => ?_, h.ap, h.nb, h.b, h.sz⟩
  obtain ⟨L, h1, h2, h3⟩ := h.pr j p hp
  refine ⟨L, h1, h2, fun t ht hc => h3 t ht ?_⟩
  rcases hc with hc | hc
  · rcases Nat.lt_or_ge j i with h4 | h4
    · exact .inl h4
    · have : j = i := by omega
      subst this
      exact .inr ⟨rfl, by omega⟩
  · omega
/-- One place written. -/
theorem Marks.store {w0 w : World} {N i k : Nat} {v3 p : Value} {ps : List Value} {ns : Nat → Nat} (h : Marks w0 w N v3 ps ns i k) (hp : ps[i]? = some p) (hk : k < ns i) :
    ∃ g z, p = .slice (some ⟨g, 0, none⟩) (ns i) (ns i) ∧ w.cell? ⟨g, k, none⟩ = some z ∧ w.frozen? ⟨g, k, none⟩ = false ∧ Marks w0 (w.setCell ⟨g, k, none⟩ (.int .u32 ((1000 + i : Nat) : Int))) N v3 ps ns i (k + 1) := by
  obtain ⟨L, hL, hpr, hm⟩ := h.pr i p hp
  have hpr0 := hpr
  rcases hpr with ⟨rfl, -⟩ | ⟨g, rfl, hgN, hrow, hpos⟩
  · rw [← hL] at hk; simp at hk
  refine ⟨g, _, by rw [hL], hrow.cell k (by omega), hrow.frozen k, ?_⟩
  have far : ∀ b, b ≠ g → (w.setCell ⟨g, k, none⟩ (.int .u32 ((1000 + i : Nat) : Int))).heap[b]? = w.heap[b]? := fun b hb => Below.heap_setCell w ⟨g, k, none⟩ _ b hb
  refine ⟨own_keep h.o3 fun b hb => far b fun hc => ?_, fun j q hq => ?_, h.ap, h.nb, h.b.setCell hgN _, ?_⟩
  · rcases hpr0.ne h.o3 with h1 | h1
    · simp [Value.ownBlock] at h1
    · exact h1 (by rw [hb, hc]; rfl)
  · by_cases hji : j = i
    · subst hji
      rw [hp] at hq
      injection hq with hq
      subst hq
      refine ⟨L.set k (1000 + j), by simpa using hL, .inr ⟨g, by simp, hgN, hrow.set k _, by simpa using hpos⟩, fun t ht hc => ?_⟩
      rw [List.getElem?_set]
      rw [List.length_set] at ht
      split
      · rename_i h1
        subst h1
        rw [if_pos ht]
      · rename_i h1
        exact hm t ht (by omega)
    · obtain ⟨M, hM, hqr, hqm⟩ := h.pr j q hq
      refine ⟨M, hM, hqr.keep fun b hb => far b fun hc => ?_, fun t ht hc => hqm t ht (by omega)⟩
      rcases h.ap j i q _ hq hp hji with h1 | h1
      · rw [h1] at hb; cases hb
      · exact h1 (by rw [hb, hc]; rfl)
  · rw [World.size_setCell]; exact h.sz
def marked (n j : Nat) : List Nat := List.replicate n (1000 + j)
def grownL (n j : Nat) : List Nat := List.replicate n (1000 + j) ++ List.replicate 600 (7000 + j)
def famM (ns : Nat → Nat) (n : Nat) : List (List Nat) := (List.range n).map fun j => marked (ns j) j
def famG (ns : Nat → Nat) (n : Nat) : List (List Nat) := (List.range n).map fun j => grownL (ns j) j
theorem fam_at {f : Nat → List Nat} {n j : Nat} {L : List Nat} (h : ((List.range n).map f)[j]? = some L) : j < n ∧ L = f j := by
  rw [List.getElem?_map] at h
  rcases Nat.lt_or_ge j n with hj | hj
  · rw [List.getElem?_range hj] at h
    simp at h
    exact ⟨hj, h.symm⟩
  · rw [List.getElem?_eq_none (by simpa using hj)] at h
    cases h
theorem fam_get (f : Nat → List Nat) {n j : Nat} (hj : j < n) : ((List.range n).map f)[j]? = some (f j) := by
  rw [List.getElem?_map, List.getElem?_range hj]
  rfl
theorem Marks.told {w0 w : World} {N : Nat} {v3 : Value} {ps : List Value} {ns : Nat → Nat} (h : Marks w0 w N v3 ps ns ps.length 0) : Told w0 w N v3 (.slice none 0 0) ps [] (famM ns ps.length) (famG ns ps.length) := by
  refine ⟨h.o3, World.ownsRow_nil _ _ _ _, ?_, fun j p L hp hL => ?_, fun j q L hq => by simp at hq, h.ap, fun L hL => ?_, by simp [famM], by simp, h.b, h.sz⟩
  · rcases h3 : v3.ownBlock with _ | g
    · exact .inl rfl
    · exact .inr (by simp [Value.ownBlock])
  · obtain ⟨hj, rfl⟩ := fam_at hL
    obtain ⟨M, h1, h2, h3⟩ := h.pr j p hp
    have e : M = marked (ns j) j := by
      unfold marked
      apply List.ext_getElem?
      intro t
      rw [List.getElem?_replicate]
      split
      · exact h3 t (by omega) (.inl hj)
      · rw [List.getElem?_eq_none (by omega)]
    rw [← e]
    exact h2
  · obtain ⟨j, -, rfl⟩ := List.mem_map.1 hL
    simpa [marked] using h.nb j

/-- A list grown by k places. -/
def Grow (wi wx : World) (p v : Value) (L : List Nat) (c k : Nat) : Prop :=
  (k = 0 ∧ v = p ∧ wx = wi) ∨ (0 < k ∧ wx.ownsRow wi.heap.size 34 1 v (L.length + k) ((L ++ List.replicate k c).map u32v) ∧ Below wi.heap.size wi wx)
theorem Grow.size {wi wx : World} {p v : Value} {L : List Nat} {c k : Nat} (h : Grow wi wx p v L c k) : wi.heap.size ≤ wx.heap.size := by
  rcases h with ⟨-, -, rfl⟩ | ⟨-, -, h⟩
  · exact Nat.le_refl _
  · exact h.size
theorem Grow.b {wi wx : World} {p v : Value} {L : List Nat} {c k : Nat} (h : Grow wi wx p v L c k) : Below wi.heap.size wi wx := by
  rcases h with ⟨-, -, rfl⟩ | ⟨-, -, h⟩
  · exact Below.refl _ _
  · exact h
theorem Grow.step {wi wx : World} {N : Nat} {p v : Value} {L : List Nat} {c k : Nat} (h : Grow wi wx p v L c k) (hp : PRow wi N p L) (hL : L.length ≤ 512) (hk : k < 600) (ty : TypeId) :
    ∃ v' w', (Builtin.append_ #[26, 26] ty #[v, .slice (some ⟨wx.heap.size, 0, none⟩) 1 1]).run Tryd.prog (wx.alloc (.cells #[.int .u32 (c : Int)] 34)) = .ok v' w' ∧ Grow wi w' p v' L c (k + 1) := by
  obtain ⟨i, hi, hz, hsi, hby⟩ := eiU32.info
  have cells : ∀ j u, ([c].map u32v)[j]? = some u → (wx.alloc (.cells #[.int .u32 (c : Int)] 34)).cell? ((⟨wx.heap.size, 0, none⟩ : Addr).add j) = some u := fun j u hj => by
    rw [add_explicit, Nat.zero_add, cell_of_row (wx.alloc _) wx.heap.size j _ 34 (0, 0) (heap_alloc_new wx _)]
    simpa [u32v] using hj
  have rd : Reads (wx.alloc (.cells #[.int .u32 (c : Int)] 34)) (wx.heap.size + 1) 1 (some ⟨wx.heap.size, 0, none⟩) 1 ([c].map u32v) := ⟨rfl, fun _ => ⟨_, rfl, Nat.lt_succ_self _, cells⟩⟩
  have hsz := h.size
  have bal : Below wi.heap.size wi (wx.alloc (.cells #[.int .u32 (c : Int)] 34)) := h.b.alloc hsz _
  have hsa : wi.heap.size ≤ (wx.alloc (.cells #[.int .u32 (c : Int)] 34)).heap.size := by rw [World.size_alloc]; omega
  have fin : ∀ (v0 : Value) (n : Nat) (xs : List Nat), (wx.alloc (.cells #[.int .u32 (c : Int)] 34)).ownsRow wi.heap.size 34 1 v0 n (xs.map u32v) → n = L.length + k → xs = L ++ List.replicate k c → v = v0 →
      ∃ v' w', (Builtin.append_ #[26, 26] ty #[v, .slice (some ⟨wx.heap.size, 0, none⟩) 1 1]).run Tryd.prog (wx.alloc (.cells #[.int .u32 (c : Int)] 34)) = .ok v' w' ∧ Grow wi w' p v' L c (k + 1) := by
    rintro v0 n xs o rfl rfl rfl
    obtain ⟨v', w', hr, h2, h3, -⟩ := run_append_any (P := Tryd.prog) (wx.alloc (.cells #[.int .u32 (c : Int)] 34)) wi.heap.size 26 ty 34 i _ 1 4 eiU32.ht hi hz hsi hby eiU32.zs eiU32.pos v _ _ o (wx.heap.size + 1) (some ⟨wx.heap.size, 0, none⟩) 1 1 ([c].map u32v) rd (u32one [c]) (by unfold maxLen; omega) (by omega) hsa
    refine ⟨v', w', hr, .inr ⟨by omega, ?_, bal.grown h3 hsa (fun q hq => (o.lt q hq).1)⟩⟩
    have e : (L ++ List.replicate k c).map u32v ++ [c].map u32v = (L ++ List.replicate (k + 1) c).map u32v := by
      rw [← List.map_append, List.append_assoc, ← List.replicate_succ']
    rw [← e]
    exact h2
  rcases h with ⟨rfl, rfl, rfl⟩ | ⟨h0, h1, h2⟩
  · rcases hp with ⟨rfl, rfl⟩ | ⟨g, rfl, hgN, hrow, hpos⟩
    · exact fin _ 0 [] (World.ownsRow_nil _ _ _ _) (by simp) (by simp) rfl
    · have hold : ∀ j x, (L.map u32v)[j]? = some x → (wx.alloc (.cells #[.int .u32 (c : Int)] 34)).cell? ((⟨g, 0, none⟩ : Addr).add j) = some x := fun j x hj => by
        rw [add_explicit, Nat.zero_add, World.cell?_alloc_lt wx _ _ hrow.lt, cell_of_row wx g j _ _ (0, 0) hrow]
        simpa using hj
      have hr := run_append_grow (P := Tryd.prog) (wx.alloc (.cells #[.int .u32 (c : Int)] 34)) 26 ty 34 i (.int .u32 0) eiU32.ht hi hz ⟨g, 0, none⟩ L.length L.length (L.map u32v) (by rw [hsi]; simp) hold ⟨wx.heap.size, 0, none⟩ 1 1 ([c].map u32v) (by rw [hsi]; rfl) cells (by omega) (by omega) (by rw [hby]; exact growslice_fits (by omega) (by omega))
      refine ⟨_, _, hr, .inr ⟨by omega, ?_, ?_⟩⟩
      · have hge := grownCap_ge (wx.alloc (.cells #[.int .u32 (c : Int)] 34)) (L.length + 1) L.length 34
        have hcm := grownCap_le_maxLen (wx.alloc (.cells #[.int .u32 (c : Int)] 34)) (L.length + 1) L.length 34 (by unfold maxLen; omega)
        refine ⟨by simp, .inr ⟨_, _, _, rfl, hsa, heap_alloc_new (wx.alloc (.cells #[.int .u32 (c : Int)] 34)).drew _, hge, hcm, ?_, ?_⟩⟩
        · have hz1 : (Value.int IntKind.u32 0).cells.size = 1 := rfl
          simp only [Array.size_append, List.size_toArray, size_zeroCells, hz1, List.length_map, List.length_singleton]
          omega
        · simp only [Array.toList_append]
          have e : (L ++ List.replicate 1 c).map u32v = L.map u32v ++ [c].map u32v := by rw [List.map_append]; rfl
          rw [e]
          have e2 : (L.length + 1) * 1 = (L.map u32v ++ [c].map u32v).length := by simp
          rw [e2]
          exact List.take_left
      · exact bal.trans ⟨rfl, rfl, rfl, by simp, fun q hq => heap_alloc_old (wx.alloc (.cells #[.int .u32 (c : Int)] 34)).drew _ (Nat.lt_of_lt_of_le hq hsa)⟩
  · exact fin v (L.length + k) (L ++ List.replicate k c) (h1.alloc _) rfl rfl rfl
theorem Grow.done {wi wx : World} {N : Nat} {p v : Value} {L : List Nat} {c k : Nat} (h : Grow wi wx p v L c k) (hk : 0 < k) (hN : N ≤ wi.heap.size) : QRow wx N v (L ++ List.replicate k c) := by
  rcases h with ⟨rfl, -⟩ | ⟨-, h, -⟩
  · omega
  · unfold QRow
    rw [show (L ++ List.replicate k c).length = L.length + k by simp]
    exact own_more h hN
end Go.Proofs.YtbcohjddnelldaaDoor.Pts
