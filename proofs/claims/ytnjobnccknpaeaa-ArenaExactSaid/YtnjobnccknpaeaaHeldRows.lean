/-
  Lists of bytes that are held: written full with marks, and grown.
-/
import Derived.Test.YtnjobnccknpaeaaHeld
namespace Go.Proofs.Ytnjobnccknpaeaa.Held
open Go.RowKit Base Tail
set_option linter.unusedVariables false

theorem own_at {w : World} {N n i : Nat} {e : TypeId} {v : Value} {xs : List Value} (h : w.ownsRow N e 1 v n xs) (hi : i < n) : ∃ g c p, v = .slice (some ⟨g, 0, none⟩) n c ∧ xs[i]? = some p ∧ w.cell? ⟨g, i, none⟩ = some p ∧ N ≤ g ∧ g < w.heap.size := by
  have hl := h.1
  have hi' : i < xs.length := by omega
  rcases h.2 with ⟨rfl, h0⟩ | ⟨g, cap, cur, rfl, hB, hg, h1, h2, h3, h4⟩
  · omega
  · obtain ⟨p, hj⟩ : ∃ p, xs[i]? = some p := ⟨_, List.getElem?_eq_getElem hi'⟩
    refine ⟨g, cap, p, rfl, hj, ?_, hB, heap_lt hg⟩
    rw [cell_of_row w g i cur _ (0, 0) hg]
    rw [← h4, List.getElem?_take] at hj
    split at hj
    · simpa using hj
    · cases hj
theorem own_at' {w : World} {N n i c : Nat} {e : TypeId} {A : Option Addr} {xs : List Value} (h : w.ownsRow N e 1 (.slice A n c) n xs) (hi : i < n) : ∃ g p, A = some ⟨g, 0, none⟩ ∧ xs[i]? = some p ∧ w.cell? ⟨g, i, none⟩ = some p := by
  obtain ⟨g, c', p, hv, hp, hc, -, -⟩ := own_at h hi
  simp only [Value.slice.injEq] at hv
  exact ⟨g, p, hv.1, hp, hc⟩
theorem own_slice {w : World} {N n : Nat} {e : TypeId} {v : Value} {xs : List Value} (h : w.ownsRow N e 1 v n xs) : ∃ A c, v = .slice A n c := by
  rcases h.2 with ⟨rfl, rfl⟩ | ⟨g, cap, cur, rfl, hB, hg, h1, h2, h3, h4⟩
  · exact ⟨none, 0, rfl⟩
  · exact ⟨_, _, rfl⟩
theorem getElem?_snoc {α : Type} {l : List α} {a x : α} {i : Nat} (h : (l ++ [a])[i]? = some x) : (i < l.length ∧ l[i]? = some x) ∨ (i = l.length ∧ x = a) := by
  rcases Nat.lt_trichotomy i l.length with h1 | h1 | h1
  · exact .inl ⟨h1, by rwa [List.getElem?_append_left h1] at h⟩
  · subst h1
    rw [List.getElem?_append_right (Nat.le_refl _), Nat.sub_self] at h
    simp at h
    exact .inr ⟨rfl, h.symm⟩
  · rw [List.getElem?_append_right (by omega)] at h
    have : i - l.length = (i - l.length - 1) + 1 := by omega
    rw [this] at h
    simp at h

/-- The blocks of the lists. -/
def Feet (ps : List Value) (b : Nat) : Prop := ∃ (j : Nat) (p : Value), ps[j]? = some p ∧ p.ownBlock = some b

/-- The lists, the first i written full with their marks, of the next one k places. -/
structure Marks (w0 w : World) (N : Nat) (v3 : Value) (ps : List Value) (ns : Nat → Nat) (i k : Nat) : Prop where
  o3 : w.ownsRow N 38 1 v3 ps.length ps
  lt3 : ∀ g, v3.ownBlock = some g → g < w0.heap.size
  pr : ∀ (j : Nat) (p : Value), ps[j]? = some p → ∃ L : List UInt8, L.length = ns j ∧ BRow w N p L ∧ ∀ t, t < L.length → (j < i ∨ (j = i ∧ t < k)) → L[t]? = some (ownB j t)
  plt : ∀ (j : Nat) (p : Value), ps[j]? = some p → ∀ g, p.ownBlock = some g → g < w0.heap.size
  ap : ∀ (i j : Nat) (p p' : Value), ps[i]? = some p → ps[j]? = some p' → i ≠ j → p.ownBlock = none ∨ p.ownBlock ≠ p'.ownBlock
  nb : ∀ j, ns j ≤ 1073741824
  o : Only (Feet ps) w0 w
theorem Marks.next {w0 w : World} {N i : Nat} {v3 : Value} {ps : List Value} {ns : Nat → Nat} (h : Marks w0 w N v3 ps ns i (ns i)) : Marks w0 w N v3 ps ns (i + 1) 0 := by
  refine ⟨h.o3, h.lt3, fun j p hp => ?_, h.plt, h.ap, h.nb, h.o⟩
  obtain ⟨L, h1, h2, h3⟩ := h.pr j p hp
  refine ⟨L, h1, h2, fun t ht hc => h3 t ht ?_⟩
  rcases hc with hc | hc
  · rcases Nat.lt_or_ge j i with h4 | h4
    · exact .inl h4
    · have : j = i := by omega
      subst this
      exact .inr ⟨rfl, by omega⟩
  · omega
theorem Marks.drewN {w0 w : World} {N i k : Nat} {v3 : Value} {ps : List Value} {ns : Nat → Nat} (h : Marks w0 w N v3 ps ns i k) (n : Nat) : Marks w0 (w.drewN n) N v3 ps ns i k :=
  ⟨own_keep h.o3 fun _ _ => rfl, h.lt3, fun j p hp => by
    obtain ⟨L, h1, h2, h3⟩ := h.pr j p hp
    exact ⟨L, h1, h2.keep fun _ _ => rfl, h3⟩, h.plt, h.ap, h.nb, h.o.drewN n⟩
/-- One place written. -/
theorem Marks.store {w0 w : World} {N i k : Nat} {v3 p : Value} {ps : List Value} {ns : Nat → Nat} (h : Marks w0 w N v3 ps ns i k) (hp : ps[i]? = some p) (hk : k < ns i) :
    ∃ g z, p = .slice (some ⟨g, 0, none⟩) (ns i) (ns i) ∧ w.cell? ⟨g, k, none⟩ = some z ∧ w.frozen? ⟨g, k, none⟩ = false ∧ Marks w0 (w.setCell ⟨g, k, none⟩ (.int .u8 ((ownB i k).toNat : Int))) N v3 ps ns i (k + 1) := by
  obtain ⟨L, hL, hpr, hm⟩ := h.pr i p hp
  have hpr0 := hpr
  rcases hpr with ⟨rfl, -⟩ | ⟨g, rfl, hgN, hrow⟩
  · rw [← hL] at hk; simp at hk
  refine ⟨g, _, by rw [hL], hrow.cell k (by omega), hrow.frozen k, ?_⟩
  have far : ∀ b, b ≠ g → (w.setCell ⟨g, k, none⟩ (.int .u8 ((ownB i k).toNat : Int))).heap[b]? = w.heap[b]? := fun b hb => Below.heap_setCell w ⟨g, k, none⟩ _ b hb
  refine ⟨own_keep h.o3 fun b hb => far b fun hc => ?_, h.lt3, fun j q hq => ?_, h.plt, h.ap, h.nb, h.o.setCell (p := ⟨g, k, none⟩) (fun _ => ⟨i, _, hp, rfl⟩) _⟩
  · rcases hpr0.ne h.o3 with h1 | h1
    · simp [Value.ownBlock] at h1
    · exact h1 (by rw [hb, hc]; rfl)
  · by_cases hji : j = i
    · subst hji
      rw [hp] at hq
      injection hq with hq
      subst hq
      refine ⟨L.set k (ownB j k), by simpa using hL, .inr ⟨g, by simp, hgN, hrow.set k _⟩, fun t ht hc => ?_⟩
      rw [List.getElem?_set]
      rw [List.length_set] at ht
      split
      · rename_i h1
        subst h1
        rw [if_pos ht]
      · rename_i h1
        exact hm t ht (by omega)
    · obtain ⟨M, hM, hqr, hqm⟩ := h.pr j q hq
      refine ⟨M, hM, hqr.keep fun b hb => far b fun hc => ?_, fun t ht hc => hqm t ht (by omega)⟩
      rcases h.ap j i q _ hq hp hji with h1 | h1
      · rw [h1] at hb; cases hb
      · exact h1 (by rw [hb, hc]; rfl)

/-- The lists marked, and those that were grown of them. -/
structure Grown (w0 w : World) (N : Nat) (v3 v5 v6 : Value) (ps fs gs : List Value) (ns : Nat → Nat) : Prop where
  o3 : w.ownsRow N 38 1 v3 ps.length ps
  lt3 : ∀ g, v3.ownBlock = some g → g < w0.heap.size
  o5 : w.ownsRow w0.heap.size 38 1 v5 fs.length fs
  o6 : w.ownsRow w0.heap.size 38 1 v6 gs.length gs
  ap56 : v5.ownBlock = none ∨ v5.ownBlock ≠ v6.ownBlock
  pr : ∀ (j : Nat) (p : Value), ps[j]? = some p → BRow w N p (mrk j (ns j))
  plt : ∀ (j : Nat) (p : Value), ps[j]? = some p → ∀ g, p.ownBlock = some g → g < w0.heap.size
  fr : ∀ (j : Nat) (q : Value), fs[j]? = some q → HasB w q (mrk j (ns j + 1))
  gr : ∀ (j : Nat) (q : Value), gs[j]? = some q → HasB w q (mrk j (ns j + 70))
  nb : ∀ j, ns j ≤ 1073741824
  o : Only (Feet ps) w0 w
theorem Marks.grown {w0 w : World} {N : Nat} {v3 : Value} {ps : List Value} {ns : Nat → Nat} (h : Marks w0 w N v3 ps ns ps.length 0) : Grown w0 w N v3 (.slice none 0 0) (.slice none 0 0) ps [] [] ns := by
  refine ⟨h.o3, h.lt3, World.ownsRow_nil _ _ _ _, World.ownsRow_nil _ _ _ _, .inl rfl, fun j p hp => ?_, h.plt, fun j q hq => by simp at hq, fun j q hq => by simp at hq, h.nb, h.o⟩
  obtain ⟨M, h1, h2, h3⟩ := h.pr j p hp
  have hj : j < ps.length := (List.getElem?_eq_some_iff.1 hp).1
  have e : M = mrk j (ns j) := by
    apply List.ext_getElem?
    intro t
    rcases Nat.lt_or_ge t (ns j) with ht | ht
    · rw [mrk_at j _ t ht]
      exact h3 t (by omega) (.inl hj)
    · rw [List.getElem?_eq_none (by omega), List.getElem?_eq_none (by rw [mrk_len]; omega)]
  rw [← e]
  exact h2
/-- The list that is grown now. -/
structure Cur (w0 w : World) (v : Value) (i m : Nat) (fs gs : List Value) : Prop where
  own : OwnT w w0.heap.size 5 v (mrk i m)
  nof : ∀ (j : Nat) (q : Value), fs[j]? = some q → q.ownBlock = v.ownBlock → j = i
  nog : ∀ (j : Nat) (q : Value), gs[j]? = some q → q.ownBlock ≠ v.ownBlock
theorem Grown.old {w0 w w' : World} {N : Nat} {v3 v5 v6 : Value} {ps fs gs : List Value} {ns : Nat → Nat} (G : Grown w0 w N v3 v5 v6 ps fs gs ns) (hb : Below w.heap.size w w') : Grown w0 w' N v3 v5 v6 ps fs gs ns := by
  have k : ∀ {v : Value}, (∀ g, v.ownBlock = some g → g < w.heap.size) → ∀ g, v.ownBlock = some g → w'.heap[g]? = w.heap[g]? := fun h g hg => hb.block g (h g hg)
  exact ⟨own_keep G.o3 (k fun g hg => (G.o3.lt g hg).2), G.lt3, own_keep G.o5 (k fun g hg => (G.o5.lt g hg).2), own_keep G.o6 (k fun g hg => (G.o6.lt g hg).2), G.ap56, fun j p hp => (G.pr j p hp).keep (k fun g hg => ((G.pr j p hp).lt g hg).2), G.plt,
    fun j q hq => (G.fr j q hq).keep (k (G.fr j q hq).lt), fun j q hq => (G.gr j q hq).keep (k (G.gr j q hq).lt), G.nb, G.o.below hb G.o.size⟩
theorem Grown.drewN {w0 w : World} {N : Nat} {v3 v5 v6 : Value} {ps fs gs : List Value} {ns : Nat → Nat} (G : Grown w0 w N v3 v5 v6 ps fs gs ns) (n : Nat) : Grown w0 (w.drewN n) N v3 v5 v6 ps fs gs ns := G.old (below_drewN (Below.refl _ _) n)
theorem Cur.old {w0 w w' : World} {v : Value} {i m : Nat} {fs gs : List Value} (C : Cur w0 w v i m fs gs) (hb : Below w.heap.size w w') : Cur w0 w' v i m fs gs := ⟨C.own.old hb (Nat.le_refl _), C.nof, C.nog⟩
theorem ownT_block {w : World} {B : Nat} {e : TypeId} {v : Value} {l : List UInt8} (h : OwnT w B e v l) : ∃ g cap cur fz, v.ownBlock = some g ∧ v = .slice (some ⟨g, 0, none⟩) l.length cap ∧ w.heap[g]? = some (.cells cur e fz) ∧ cur.toList.take l.length = l.map bv := by
  obtain ⟨g, cap, cur, fz, rfl, -, hg, -, -, -, -, h5⟩ := h
  exact ⟨g, cap, cur, fz, rfl, rfl, hg, h5⟩
theorem ownT_has {w : World} {B : Nat} {v : Value} {l : List UInt8} (h : OwnT w B 5 v l) : HasB w v l := by
  obtain ⟨g, cap, cur, fz, -, hv, hg, h5⟩ := ownT_block h
  exact ⟨g, cap, cur, fz, hv, hg, h5⟩
theorem ownT_prefix {w : World} {B g c n : Nat} {v : Value} {l : List UInt8} (h : OwnT w B 5 v l) (hv : v.ownBlock = some g) (hn : n ≤ l.length) : HasB w (.slice (some ⟨g, 0, none⟩) n c) (l.take n) := by
  obtain ⟨g', cap, cur, fz, hb, rfl, hg, h5⟩ := ownT_block h
  rw [hb] at hv
  injection hv with hv
  subst hv
  have hl : (l.take n).length = n := by simp; omega
  refine ⟨g', c, cur, fz, by rw [hl], hg, ?_⟩
  rw [hl, List.map_take, ← h5, List.take_take, Nat.min_eq_left hn]

/-- The first byte behind a list: it moves. -/
theorem Grown.first {w0 w : World} {N i : Nat} {v3 v5 v6 p : Value} {ps fs gs : List Value} {ns : Nat → Nat} (G : Grown w0 w N v3 v5 v6 ps fs gs ns) (hp : ps[i]? = some p) (ty : TypeId) :
    ∃ v' w', (Builtin.append_ #[38, 38] ty #[p, .slice (some ⟨w.heap.size, 0, none⟩) 1 1]).run Try.prog (w.alloc (.cells #[bv (ownB i (ns i))] 5)) = .ok v' w' ∧ Grown w0 w' N v3 v5 v6 ps fs gs ns ∧ Cur w0 w' v' i (ns i + 1) fs gs := by
  have hnb := G.nb i
  have key : ∃ v' w', (Builtin.append_ #[38, 38] ty #[p, .slice (some ⟨w.heap.size, 0, none⟩) 1 1]).run Try.prog (w.alloc (.cells #[bv (ownB i (ns i))] 5)) = .ok v' w' ∧ OwnT w' w0.heap.size 5 v' (mrk i (ns i + 1)) ∧ v'.ownBlock = some (w.heap.size + 1) ∧ Below w.heap.size w w' := by
    rcases G.pr i p hp with ⟨h0, rfl⟩ | ⟨g, rfl, hgN, hrow⟩
    · have hn : ns i = 0 := by rw [← mrk_len i (ns i), h0]; rfl
      rw [mrk_succ, h0, List.nil_append]
      exact app1n w w0.heap.size ty (ownB i (ns i)) G.o.size
    · have hlt := hrow.lt
      obtain ⟨v', w', hr, ow, hsz, -, hc⟩ := app1 w 0 ty g (mrk i (ns i)).length _ (0, 0) (mrk i (ns i)) (ownB i (ns i)) hrow (Nat.le_refl _) (by rw [mrk_len]; unfold maxLen; omega) (by simp) (Loose.zero _) (by show List.take _ ((mrk i (ns i)).map bv) = _; exact List.take_of_length_le (by simp)) (Nat.zero_le _) (by rw [mrk_len]; omega) (Nat.zero_le _)
      rcases hc with ⟨h1, -⟩ | ⟨h1, h2⟩
      · omega
      · obtain ⟨g', cap, cur, fz, e1, -, e2⟩ := ow
        refine ⟨v', w', hr, ?_, h1, h2⟩
        rw [mrk_succ]
        subst e1
        simp only [Value.ownBlock, Option.some.injEq] at h1
        exact ⟨g', cap, cur, fz, rfl, by have := G.o.size; omega, e2⟩
  obtain ⟨v', w', hr, ow, hob, hb⟩ := key
  refine ⟨v', w', hr, G.old hb, ow, fun j q hq hc => ?_, fun j q hq hc => ?_⟩
  · rw [hob] at hc
    have := (G.fr j q hq).lt _ hc
    omega
  · rw [hob] at hc
    have := (G.gr j q hq).lt _ hc
    omega
/-- One more byte. -/
theorem Grown.byte {w0 w : World} {N i m : Nat} {v3 v5 v6 v : Value} {ps fs gs : List Value} {ns : Nat → Nat} (G : Grown w0 w N v3 v5 v6 ps fs gs ns) (C : Cur w0 w v i m fs gs) (hm : ns i + 1 ≤ m) (hm2 : m ≤ 2147483648) (ty : TypeId) :
    ∃ v' w', (Builtin.append_ #[38, 38] ty #[v, .slice (some ⟨w.heap.size, 0, none⟩) 1 1]).run Try.prog (w.alloc (.cells #[bv (ownB i m)] 5)) = .ok v' w' ∧ Grown w0 w' N v3 v5 v6 ps fs gs ns ∧ Cur w0 w' v' i (m + 1) fs gs := by
  obtain ⟨g, cap, cur, fz, rfl, hB, hg, h1, h2, h3, h4, h5⟩ := id C.own
  obtain ⟨v', w', hr, ow, hsz, hb0, hc⟩ := app1 w w0.heap.size ty g cap cur fz (mrk i m) (ownB i m) hg h1 h2 h3 h4 h5 hB (by rw [mrk_len]; omega) G.o.size
  rw [← mrk_succ] at ow
  have hst : ∀ k, k < w.heap.size → k ≠ g → w'.heap[k]? = w.heap[k]? := fun k hk hne => by
    rcases hc with ⟨-, -, h⟩ | ⟨-, h⟩
    · exact h k hk hne
    · exact h.block k hk
  have kp : ∀ {u : Value}, (∀ b, u.ownBlock = some b → b < w.heap.size) → u.ownBlock ≠ some g → ∀ b, u.ownBlock = some b → w'.heap[b]? = w.heap[b]? := fun h hn b hb => hst b (h b hb) (fun hc => hn (by rw [hb, hc]))
  have hob : (mrk i m).length = m := mrk_len _ _
  refine ⟨v', w', hr, ⟨own_keep G.o3 (kp (fun b hb => (G.o3.lt b hb).2) (own_ne G.o3 hg (by decide))), G.lt3, own_keep G.o5 (kp (fun b hb => (G.o5.lt b hb).2) (own_ne G.o5 hg (by decide))), own_keep G.o6 (kp (fun b hb => (G.o6.lt b hb).2) (own_ne G.o6 hg (by decide))), G.ap56,
    fun j p hp => (G.pr j p hp).keep (kp (fun b hb => ((G.pr j p hp).lt b hb).2) (fun hc => ?_)), G.plt, fun j q hq => ?_, fun j q hq => (G.gr j q hq).keep (kp (G.gr j q hq).lt (C.nog j q hq)), G.nb, ?_⟩, ow, fun j q hq he => ?_, fun j q hq he => ?_⟩
  · have := G.plt j p hp g hc
    omega
  · by_cases he : q.ownBlock = some g
    · have hji : j = i := C.nof j q hq he
      subst hji
      rcases hc with ⟨-, hv, -⟩ | ⟨-, h⟩
      · obtain ⟨g', c', cur', fz', rfl, -⟩ := G.fr j q hq
        simp only [Value.ownBlock, Option.some.injEq] at he
        subst he
        have := ownT_prefix (c := c') (n := ns j + 1) ow hv (by rw [mrk_len]; omega)
        rw [mrk_take j _ _ (by omega)] at this
        rw [mrk_len]
        exact this
      · exact (G.fr j q hq).keep fun b hb => h.block b ((G.fr j q hq).lt b hb)
    · exact (G.fr j q hq).keep (kp (G.fr j q hq).lt he)
  · exact ⟨hb0.os.trans G.o.os, hb0.tape.trans G.o.tape, hb0.output.trans G.o.output, Nat.le_trans G.o.size hsz, fun k hk hS => (hst k (Nat.lt_of_lt_of_le hk G.o.size) (by omega)).trans (G.o.block k hk hS)⟩
  · rcases hc with ⟨-, hv, -⟩ | ⟨hv, -⟩
    · exact C.nof j q hq (he.trans hv)
    · rw [hv] at he
      have := (G.fr j q hq).lt _ he
      omega
  · rcases hc with ⟨-, hv, -⟩ | ⟨hv, -⟩
    · exact C.nog j q hq (he.trans hv)
    · rw [hv] at he
      have := (G.gr j q hq).lt _ he
      omega
theorem Cur.one {w0 w : World} {v : Value} {i m : Nat} {fs gs : List Value} (C : Cur w0 w v i m fs gs) : v.oneCell' = true := by
  obtain ⟨g, cap, cur, fz, -, rfl, -⟩ := ownT_block C.own
  rfl
/-- The list, one byte longer, is put behind 'first'. -/
theorem Grown.push5 {w0 w : World} {N i : Nat} {v3 v5 v6 v : Value} {ps fs gs : List Value} {ns : Nat → Nat} (G : Grown w0 w N v3 v5 v6 ps fs gs ns) (C : Cur w0 w v i (ns i + 1) fs gs) (hi : fs.length = i) (hn : i ≤ 1000000) (ty : TypeId) :
    ∃ v' w', (Builtin.append_ #[109, 109] ty #[v5, .slice (some ⟨w.heap.size, 0, none⟩) 1 1]).run Try.prog (w.alloc (.cells #[v] 38)) = .ok v' w' ∧ Grown w0 w' N v3 v' v6 ps (fs ++ [v]) gs ns ∧ Cur w0 w' v i (ns i + 1) (fs ++ [v]) gs := by
  obtain ⟨v', w', hr, o', hk, hsz, hob, hb⟩ := push_run w w0.heap.size v5 v fs.length fs ty G.o5 C.one (by omega) G.o.size
  have kp : ∀ {u : Value}, (∀ b, u.ownBlock = some b → b < w.heap.size) → (u.ownBlock = none ∨ u.ownBlock ≠ v5.ownBlock) → ∀ b, u.ownBlock = some b → w'.heap[b]? = w.heap[b]? := fun h hn b hb => hk b (h b hb) (fun hc => by
    rcases hn with hn | hn
    · rw [hn] at hb; cases hb
    · exact hn (hb.trans hc.symm))
  have h65 : v6.ownBlock = none ∨ v6.ownBlock ≠ v5.ownBlock := by
    rcases G.ap56 with h1 | h1
    · rcases h4 : v6.ownBlock with _ | g
      · exact .inl rfl
      · exact .inr (by rw [h1]; simp)
    · exact .inr fun hc => h1 hc.symm
  have h35 : v3.ownBlock = none ∨ v3.ownBlock ≠ v5.ownBlock := by
    rcases h3 : v3.ownBlock with _ | g
    · exact .inl rfl
    · refine .inr fun hc => ?_
      have h1 := G.lt3 g h3
      have h2 := (G.o5.lt g hc.symm).1
      omega
  obtain ⟨g, cap, cur, fz, hvb, hv, hg, h5⟩ := ownT_block C.own
  have hC : OwnT w' w0.heap.size 5 v (mrk i (ns i + 1)) := by
    obtain ⟨g2, cap2, cur2, fz2, e1, e2, e3, e4⟩ := id C.own
    subst e1
    exact ⟨g2, cap2, cur2, fz2, rfl, e2, (hk g2 (heap_lt e3) (own_ne G.o5 e3 (by decide))).trans e3, e4⟩
  refine ⟨v', w', hr, ⟨own_keep G.o3 (kp (fun b hb => (G.o3.lt b hb).2) h35), G.lt3, by rw [List.length_append]; exact o', own_keep G.o6 (kp (fun b hb => (G.o6.lt b hb).2) h65), ?_, fun j p hp => (G.pr j p hp).keep (kp (fun b hb => ((G.pr j p hp).lt b hb).2) ((G.pr j p hp).ne G.o5)), G.plt,
    fun j q hq => ?_, fun j q hq => (G.gr j q hq).keep (kp (G.gr j q hq).lt (.inr ((G.gr j q hq).ne G.o5))), G.nb, G.o.below hb (Nat.le_refl _)⟩, hC, fun j q hq he => ?_, C.nog⟩
  · rcases hob with h1 | h1
    · rw [h1]; exact G.ap56
    · refine .inr fun hc => ?_
      have := (G.o6.lt _ (hc.symm.trans h1)).2
      omega
  · rcases getElem?_snoc hq with ⟨-, h1⟩ | ⟨rfl, rfl⟩
    · exact (G.fr j q h1).keep (kp (G.fr j q h1).lt (.inr ((G.fr j q h1).ne G.o5)))
    · rw [hi]
      exact ownT_has hC
  · rcases getElem?_snoc hq with ⟨-, h1⟩ | ⟨rfl, rfl⟩
    · exact C.nof j q h1 he
    · exact hi
/-- The list, 70 bytes longer, is put behind 'long'. -/
theorem Grown.push6 {w0 w : World} {N i : Nat} {v3 v5 v6 v : Value} {ps fs gs : List Value} {ns : Nat → Nat} (G : Grown w0 w N v3 v5 v6 ps fs gs ns) (C : Cur w0 w v i (ns i + 70) fs gs) (hi : gs.length = i) (hn : i ≤ 1000000) (ty : TypeId) :
    ∃ v' w', (Builtin.append_ #[109, 109] ty #[v6, .slice (some ⟨w.heap.size, 0, none⟩) 1 1]).run Try.prog (w.alloc (.cells #[v] 38)) = .ok v' w' ∧ Grown w0 w' N v3 v5 v' ps fs (gs ++ [v]) ns := by
  obtain ⟨v', w', hr, o', hk, hsz, hob, hb⟩ := push_run w w0.heap.size v6 v gs.length gs ty G.o6 C.one (by omega) G.o.size
  have kp : ∀ {u : Value}, (∀ b, u.ownBlock = some b → b < w.heap.size) → (u.ownBlock = none ∨ u.ownBlock ≠ v6.ownBlock) → ∀ b, u.ownBlock = some b → w'.heap[b]? = w.heap[b]? := fun h hn b hb => hk b (h b hb) (fun hc => by
    rcases hn with hn | hn
    · rw [hn] at hb; cases hb
    · exact hn (hb.trans hc.symm))
  have h36 : v3.ownBlock = none ∨ v3.ownBlock ≠ v6.ownBlock := by
    rcases h3 : v3.ownBlock with _ | g
    · exact .inl rfl
    · refine .inr fun hc => ?_
      have h1 := G.lt3 g h3
      have h2 := (G.o6.lt g hc.symm).1
      omega
  have hC : OwnT w' w0.heap.size 5 v (mrk i (ns i + 70)) := by
    obtain ⟨g2, cap2, cur2, fz2, e1, e2, e3, e4⟩ := id C.own
    subst e1
    exact ⟨g2, cap2, cur2, fz2, rfl, e2, (hk g2 (heap_lt e3) (own_ne G.o6 e3 (by decide))).trans e3, e4⟩
  refine ⟨v', w', hr, own_keep G.o3 (kp (fun b hb => (G.o3.lt b hb).2) h36), G.lt3, own_keep G.o5 (kp (fun b hb => (G.o5.lt b hb).2) G.ap56), by rw [List.length_append]; exact o', ?_, fun j p hp => (G.pr j p hp).keep (kp (fun b hb => ((G.pr j p hp).lt b hb).2) ((G.pr j p hp).ne G.o6)), G.plt,
    fun j q hq => (G.fr j q hq).keep (kp (G.fr j q hq).lt (.inr ((G.fr j q hq).ne G.o6))), fun j q hq => ?_, G.nb, G.o.below hb (Nat.le_refl _)⟩
  · rcases hob with h1 | h1
    · rw [h1]; exact G.ap56
    · rcases h3 : v5.ownBlock with _ | g
      · exact .inl rfl
      · refine .inr fun hc => ?_
        rw [h1] at hc
        injection hc with hc
        have := (G.o5.lt _ h3).2
        omega
  · rcases getElem?_snoc hq with ⟨-, h1⟩ | ⟨rfl, rfl⟩
    · exact (G.gr j q h1).keep (kp (G.gr j q h1).lt (.inr ((G.gr j q h1).ne G.o6)))
    · rw [hi]
      exact ownT_has hC
end Go.Proofs.Ytnjobnccknpaeaa.Held
