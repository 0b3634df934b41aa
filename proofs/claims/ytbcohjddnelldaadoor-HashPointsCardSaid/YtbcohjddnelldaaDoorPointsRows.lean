/-
  Rows of rows of numbers, as the law HashPoints keeps them: what appending to one of them leaves of the others.
-/
import Derived.Test.YtbcohjddnelldaaDoorRefPoints
import Derived.Test.YtbcohjddnelldaaDoorPointsSame
namespace Go.Proofs.YtbcohjddnelldaaDoor.Pts
open Go.RowKit Base Tail Digits HashPlain HashW HashR
set_option linter.unusedVariables false

theorem eiRR : EI Tryd.prog 23 26 (.slice none 0 0) 1 24 := EI.mk' Tryd.underlying23 (by kernel_rfl) rfl (by decide)

/-- A list that the program told: none, or a block of its own without room. -/
def PRow (w : World) (N : Nat) (v : Value) (L : List Nat) : Prop :=
  (L = [] ∧ v = .slice none 0 0) ∨ ∃ g, v = .slice (some ⟨g, 0, none⟩) L.length L.length ∧ N ≤ g ∧ NumRow w g L ∧ 0 < L.length
/-- A list with a row of its own, with or without room. -/
def QRow (w : World) (N : Nat) (v : Value) (L : List Nat) : Prop := w.ownsRow N 34 1 v L.length (L.map u32v)

theorem PRow.nums {w : World} {N : Nat} {v : Value} {L : List Nat} (h : PRow w N v L) : ∃ A, v = .slice A L.length L.length ∧ Nums w w.heap.size A L := by
  rcases h with ⟨rfl, rfl⟩ | ⟨g, rfl, -, h, -⟩
  · exact ⟨none, rfl, fun h => absurd h (by simp)⟩
  · exact ⟨_, rfl, h.nums _ h.lt⟩
theorem QRow.nums {w : World} {N : Nat} {v : Value} {L : List Nat} (h : QRow w N v L) : ∃ A c, v = .slice A L.length c ∧ Nums w w.heap.size A L := by
  rcases id h.2 with ⟨rfl, h0⟩ | ⟨g, cap, cur, rfl, hB, hg, h1, h2, h3, h4⟩
  · obtain rfl : L = [] := List.eq_nil_of_length_eq_zero h0
    exact ⟨none, 0, rfl, fun h => absurd h (by simp)⟩
  · refine ⟨_, cap, rfl, fun _ => ⟨g, 0, rfl, heap_lt hg, fun j u hj => ?_⟩⟩
    rw [Nat.zero_add, cell_of_row w g j cur _ (0, 0) hg]
    rw [← h4, List.getElem?_take] at hj
    split at hj
    · simpa using hj
    · cases hj
theorem PRow.one {w : World} {N : Nat} {v : Value} {L : List Nat} (h : PRow w N v L) : v.oneCell' = true := by
  obtain ⟨A, rfl, -⟩ := h.nums
  rfl
theorem QRow.one {w : World} {N : Nat} {v : Value} {L : List Nat} (h : QRow w N v L) : v.oneCell' = true := by
  obtain ⟨A, c, rfl, -⟩ := h.nums
  rfl
theorem PRow.keep {w w' : World} {N : Nat} {v : Value} {L : List Nat} (h : PRow w N v L) (hk : ∀ g, v.ownBlock = some g → w'.heap[g]? = w.heap[g]?) : PRow w' N v L := by
  rcases h with h | ⟨g, rfl, h1, h2, h3⟩
  · exact .inl h
  · exact .inr ⟨g, rfl, h1, (hk g rfl).trans h2, h3⟩
theorem PRow.lt {w : World} {N : Nat} {v : Value} {L : List Nat} (h : PRow w N v L) : ∀ g, v.ownBlock = some g → N ≤ g ∧ g < w.heap.size := by
  intro g hg
  rcases h with ⟨-, rfl⟩ | ⟨g', rfl, h1, h2, -⟩
  · simp [Value.ownBlock] at hg
  · simp only [Value.ownBlock, Option.some.injEq] at hg
    subst hg
    exact ⟨h1, h2.lt⟩
theorem PRow.below {w w' : World} {N B : Nat} {v : Value} {L : List Nat} (h : PRow w N v L) (hb : Below B w w') (hB : w.heap.size ≤ B) : PRow w' N v L :=
  h.keep fun g hg => hb.block g (Nat.lt_of_lt_of_le (h.lt g hg).2 hB)
theorem PRow.more {w : World} {N M : Nat} {v : Value} {L : List Nat} (h : PRow w N v L) (hM : M ≤ N) : PRow w M v L := by
  rcases h with h | ⟨g, rfl, h1, h2, h3⟩
  · exact .inl h
  · exact .inr ⟨g, rfl, Nat.le_trans hM h1, h2, h3⟩
theorem own_keep {w w' : World} {N size n : Nat} {e : TypeId} {v : Value} {xs : List Value} (h : w.ownsRow N e size v n xs) (hk : ∀ g, v.ownBlock = some g → w'.heap[g]? = w.heap[g]?) : w'.ownsRow N e size v n xs := by
  refine ⟨h.1, ?_⟩
  rcases h.2 with h1 | ⟨g, cap, cur, rfl, h1, h2, h3⟩
  · exact .inl h1
  · exact .inr ⟨g, cap, cur, rfl, h1, (hk g rfl).trans h2, h3⟩
theorem own_below {w w' : World} {N B size n : Nat} {e : TypeId} {v : Value} {xs : List Value} (h : w.ownsRow N e size v n xs) (hb : Below B w w') (hB : w.heap.size ≤ B) : w'.ownsRow N e size v n xs :=
  own_keep h fun g hg => hb.block g (Nat.lt_of_lt_of_le (h.lt g hg).2 hB)
theorem own_more {w : World} {N M size n : Nat} {e : TypeId} {v : Value} {xs : List Value} (h : w.ownsRow N e size v n xs) (hM : M ≤ N) : w.ownsRow M e size v n xs := by
  refine ⟨h.1, ?_⟩
  rcases h.2 with h1 | ⟨g, cap, cur, rfl, h1, h2⟩
  · exact .inl h1
  · exact .inr ⟨g, cap, cur, rfl, Nat.le_trans hM h1, h2⟩
theorem own_apart {w : World} {b1 b2 n1 n2 s1 s2 : Nat} {e1 e2 : TypeId} {v1 v2 : Value} {x1 x2 : List Value} (h1 : w.ownsRow b1 e1 s1 v1 n1 x1) (h2 : w.ownsRow b2 e2 s2 v2 n2 x2) (hne : e1 ≠ e2) : v1.ownBlock = none ∨ v1.ownBlock ≠ v2.ownBlock := by
  rcases h1.2 with ⟨rfl, _⟩ | ⟨g1, c1, cur1, rfl, _, hg1, _⟩
  · exact .inl rfl
  · refine .inr ?_
    rcases h2.2 with ⟨rfl, _⟩ | ⟨g2, c2, cur2, rfl, _, hg2, _⟩
    · simp [Value.ownBlock]
    · intro hc
      simp [Value.ownBlock] at hc
      subst hc
      rw [hg1] at hg2
      injection hg2 with hg2
      injection hg2 with _ h3
      exact hne h3
/-- A list's block is not the block of a row of lists. -/
theorem PRow.ne {w : World} {N M : Nat} {v u : Value} {L : List Nat} {n : Nat} {xs : List Value} (h : PRow w N v L) (o : w.ownsRow M 26 1 u n xs) : v.ownBlock = none ∨ v.ownBlock ≠ u.ownBlock := by
  rcases h with ⟨-, rfl⟩ | ⟨g, rfl, -, h, -⟩
  · exact .inl rfl
  · refine .inr fun hc => ?_
    exact own_blk_ne o (g := g) (t := 34) h (by decide) hc.symm
theorem QRow.ne {w : World} {N M : Nat} {v u : Value} {L : List Nat} {n : Nat} {xs : List Value} (h : QRow w N v L) (o : w.ownsRow M 26 1 u n xs) : v.ownBlock = none ∨ v.ownBlock ≠ u.ownBlock := own_apart h o (by decide)

/-- One more list behind a row of lists: all other blocks stand. -/
theorem push_run (w : World) (N : Nat) (v p : Value) (n : Nat) (xs : List Value) (ty : TypeId) (o : w.ownsRow N 26 1 v n xs) (h1 : p.oneCell' = true) (hn : n ≤ 1000000) (hN : N ≤ w.heap.size) :
    ∃ v' w', (Builtin.append_ #[23, 23] ty #[v, .slice (some ⟨w.heap.size, 0, none⟩) 1 1]).run Tryd.prog (w.alloc (.cells #[p] 26)) = .ok v' w' ∧ w'.ownsRow N 26 1 v' (n + 1) (xs ++ [p]) ∧
      (∀ g, g < w.heap.size → v.ownBlock ≠ some g → w'.heap[g]? = w.heap[g]?) ∧ w.heap.size ≤ w'.heap.size ∧ (v'.ownBlock = v.ownBlock ∨ v'.ownBlock = some (w.heap.size + 1)) ∧ Below N w w' := by
  obtain ⟨i, hi, hz, hsi, hby⟩ := eiRR.info
  have rd : Reads (w.alloc (.cells #[p] 26)) (w.heap.size + 1) 1 (some ⟨w.heap.size, 0, none⟩) 1 [p] :=
    ⟨rfl, fun _ => ⟨_, rfl, Nat.lt_succ_self _, fun j u hj => by
      rw [add_explicit, Nat.zero_add, cell_of_row (w.alloc _) w.heap.size j _ 26 (0, 0) (heap_alloc_new w _)]
      simpa using hj⟩⟩
  obtain ⟨v', w', hr, h2, h3, h4⟩ := run_append_any (P := Tryd.prog) (w.alloc (.cells #[p] 26)) N 23 ty 26 i _ 1 24 eiRR.ht hi hz hsi hby eiRR.zs eiRR.pos v n xs (o.alloc _) (w.heap.size + 1) (some ⟨w.heap.size, 0, none⟩) 1 1 [p] rd (by simpa using h1) (by unfold maxLen; omega) (by omega) (by rw [World.size_alloc]; omega)
  have hal : ∀ g, g < w.heap.size → (w.alloc (.cells #[p] 26)).heap[g]? = w.heap[g]? := fun g hg => Below.heap_alloc w _ g hg
  have hsz := h3.size
  rw [World.size_alloc] at hsz h4
  refine ⟨v', w', hr, h2, fun g hg hne => ?_, by omega, h4, ?_⟩
  · rw [h3.block g (by rw [World.size_alloc]; omega) (fun hc => hne hc.symm), hal g hg]
  · have hbl : Below N w (w.alloc (.cells #[p] 26)) := (Below.refl _ _).alloc hN _
    exact hbl.grown h3 (by rw [World.size_alloc]; omega) (fun k hk => (o.lt k hk).1)

/-- The operation, for the walk: what is known of its run. -/
theorem wpList_run {P : Program} {w : World} {ops : Array Oper} {rest : List Oper} {o : Oper} {a : Act} {Q : Exit → Act → World → Prop} (hgd : o.guard = none) (s x : Operand) (t : TypeId)
    (ho : o.op = .call { callee := .builtin .append, args := #[s, x], argTypes := #[t, t] }) (v xv : Value) (hs : a.eval s = v) (hx : a.eval x = xv) (R : Value → World → Prop)
    (hr : ∃ v' w', (Builtin.append_ #[t, t] o.type #[v, xv]).run P w = .ok v' w' ∧ R v' w') (h : ∀ v' w', R v' w' → wpList P ops Q rest (a.put o.dst v') w') : wpList P ops Q (o :: rest) a w := by
  refine wpList_plain hgd fun K hK => ?_
  obtain ⟨v', w', hr, h2⟩ := hr
  unfold Oper.wp execOp
  simp only [ho, resolve, invoke, builtin, Sem.run_bind, Sem.run_pure, Result.andThen_ok, List.map_toArray, List.map_cons, List.map_nil, hs, hx, hr]
  exact hK _ _ (h v' w' h2)

/-- The lists that were told, and those wanted of them. -/
structure Told (w0 w : World) (N : Nat) (v3 v4 : Value) (ps qs : List Value) (Ls Ks : List (List Nat)) : Prop where
  o3 : w.ownsRow N 26 1 v3 ps.length ps
  o4 : w.ownsRow N 26 1 v4 qs.length qs
  ap34 : v3.ownBlock = none ∨ v3.ownBlock ≠ v4.ownBlock
  pr : ∀ (i : Nat) (p : Value) (L : List Nat), ps[i]? = some p → Ls[i]? = some L → PRow w N p L
  qr : ∀ (i : Nat) (q : Value) (L : List Nat), qs[i]? = some q → Ks[i]? = some L → QRow w N q L
  ap : ∀ (i j : Nat) (p p' : Value), ps[i]? = some p → ps[j]? = some p' → i ≠ j → p.ownBlock = none ∨ p.ownBlock ≠ p'.ownBlock
  len : ∀ L ∈ Ls, L.length ≤ 512
  lp : ps.length ≤ Ls.length
  lq : qs.length ≤ Ks.length
  b : Below N w0 w
  sz : N ≤ w.heap.size
theorem Told.below {w0 w w' : World} {N : Nat} {v3 v4 : Value} {ps qs : List Value} {Ls Ks : List (List Nat)} (h : Told w0 w N v3 v4 ps qs Ls Ks) (hb : Below w.heap.size w w') : Told w0 w' N v3 v4 ps qs Ls Ks :=
  ⟨own_below h.o3 hb (Nat.le_refl _), own_below h.o4 hb (Nat.le_refl _), h.ap34, fun i p L hp hL => (h.pr i p L hp hL).below hb (Nat.le_refl _), fun i q L hq hL => own_below (h.qr i q L hq hL) hb (Nat.le_refl _), h.ap, h.len, h.lp, h.lq,
    h.b.trans (hb.mono h.sz), Nat.le_trans h.sz hb.size⟩
theorem Told.wide {w0 w : World} {N : Nat} {v3 v4 : Value} {ps qs : List Value} {Ls Ks : List (List Nat)} (h : Told w0 w N v3 v4 ps qs Ls Ks) (L : List Nat) (hL : L.length ≤ 512) : Told w0 w N v3 v4 ps qs (Ls ++ [L]) (Ks ++ [L]) := by
  have hi : ∀ (Ls : List (List Nat)) (i n : Nat) (M : List Nat), i < n → n ≤ Ls.length → (Ls ++ [L])[i]? = some M → Ls[i]? = some M := fun Ls i n M h1 h2 h3 => by rwa [List.getElem?_append_left (by omega)] at h3
  refine ⟨h.o3, h.o4, h.ap34, fun i p M hp hM => h.pr i p M hp (hi Ls i _ M (List.getElem?_eq_some_iff.1 hp).1 h.lp hM), fun i q M hq hM => h.qr i q M hq (hi Ks i _ M (List.getElem?_eq_some_iff.1 hq).1 h.lq hM), h.ap, fun M hM => ?_, ?_, ?_, h.b, h.sz⟩
  · rcases List.mem_append.1 hM with h1 | h1
    · exact h.len M h1
    · rw [List.mem_singleton.1 h1]; exact hL
  · have := h.lp; simp; omega
  · have := h.lq; simp; omega
theorem getElem?_snoc {α : Type} {l : List α} {a x : α} {i : Nat} (h : (l ++ [a])[i]? = some x) : (i < l.length ∧ l[i]? = some x) ∨ (i = l.length ∧ x = a) := by
  rcases Nat.lt_trichotomy i l.length with h1 | h1 | h1
  · exact .inl ⟨h1, by rwa [List.getElem?_append_left h1] at h⟩
  · subst h1
    rw [List.getElem?_append_right (Nat.le_refl _), Nat.sub_self] at h
    simp at h
    exact .inr ⟨rfl, h.symm⟩
  · rw [List.getElem?_append_right (by omega)] at h
    have : i - l.length = (i - l.length - 1) + 1 := by omega
    rw [this] at h
    simp at h
theorem Told.push3 {w0 w : World} {N : Nat} {v3 v4 : Value} {ps qs : List Value} {Ls Ks : List (List Nat)} (h : Told w0 w N v3 v4 ps qs Ls Ks) (p : Value) (L : List Nat) (hp : PRow w N p L) (hL : Ls[ps.length]? = some L)
    (hf : ∀ (i : Nat) (p' : Value), ps[i]? = some p' → p.ownBlock = none ∨ p.ownBlock ≠ p'.ownBlock) (hn : ps.length ≤ 1000000) (ty : TypeId) :
    ∃ v' w', (Builtin.append_ #[23, 23] ty #[v3, .slice (some ⟨w.heap.size, 0, none⟩) 1 1]).run Tryd.prog (w.alloc (.cells #[p] 26)) = .ok v' w' ∧ Told w0 w' N v' v4 (ps ++ [p]) qs Ls Ks ∧ ∀ u M, QRow w N u M → QRow w' N u M := by
  obtain ⟨v', w', hr, o', hk, hsz, hob, hb⟩ := push_run w N v3 p ps.length ps ty h.o3 hp.one hn h.sz
  have keep : ∀ {u : Value}, (∀ g, u.ownBlock = some g → g < w.heap.size) → (u.ownBlock = none ∨ u.ownBlock ≠ v3.ownBlock) → ∀ g, u.ownBlock = some g → w'.heap[g]? = w.heap[g]? := by
    intro u h1 h2 g hg
    refine hk g (h1 g hg) fun hc => ?_
    rcases h2 with h2 | h2
    · rw [h2] at hg; cases hg
    · exact h2 (hg.trans hc.symm)
  have kp : ∀ {u : Value} {M : List Nat}, PRow w N u M → PRow w' N u M := fun hu => hu.keep (keep (fun g hg => (hu.lt g hg).2) (hu.ne h.o3))
  have h43 : v4.ownBlock = none ∨ v4.ownBlock ≠ v3.ownBlock := by
    rcases h.ap34 with h1 | h1
    · rcases h4 : v4.ownBlock with _ | g
      · exact .inl rfl
      · exact .inr (by rw [h1]; simp)
    · exact .inr fun hc => h1 hc.symm
  have o4' := own_keep h.o4 (keep (fun g hg => (h.o4.lt g hg).2) h43)
  refine ⟨v', w', hr, ⟨by rw [List.length_append]; exact o', o4', ?_, fun i q M hq hM => ?_, fun i q M hq hM => own_keep (h.qr i q M hq hM) (keep (fun g hg => ((h.qr i q M hq hM).lt g hg).2) ((h.qr i q M hq hM).ne h.o3)), fun i j a a' ha ha' hij => ?_, h.len, ?_, h.lq, h.b.trans hb, Nat.le_trans h.sz hsz⟩, fun u M hu => own_keep hu (keep (fun g hg => (hu.lt g hg).2) (hu.ne h.o3))⟩
  · rcases hob with h1 | h1
    · rw [h1]; exact h.ap34
    · refine .inr fun hc => ?_
      have := (h.o4.lt _ (hc.symm.trans h1)).2
      omega
  · rcases getElem?_snoc hq with ⟨-, h1⟩ | ⟨rfl, rfl⟩
    · exact kp (h.pr i q M h1 hM)
    · rw [hL] at hM
      cases hM
      exact kp hp
  · rcases getElem?_snoc ha with ⟨hi, h1⟩ | ⟨hi, rfl⟩
    · rcases getElem?_snoc ha' with ⟨hj, h2⟩ | ⟨hj, rfl⟩
      · exact h.ap i j a a' h1 h2 hij
      · rcases hf i a h1 with h3 | h3
        · rcases h4 : a.ownBlock with _ | g
          · exact .inl rfl
          · exact .inr (by rw [h3]; simp)
        · exact .inr fun hc => h3 hc.symm
    · rcases getElem?_snoc ha' with ⟨hj, h2⟩ | ⟨hj, rfl⟩
      · exact hf j a' h2
      · omega
  · rw [List.length_append, List.length_singleton]
    exact (List.getElem?_eq_some_iff.1 hL).1
theorem Told.push4 {w0 w : World} {N : Nat} {v3 v4 : Value} {ps qs : List Value} {Ls Ks : List (List Nat)} (h : Told w0 w N v3 v4 ps qs Ls Ks) (q : Value) (L : List Nat) (hq : QRow w N q L) (hL : Ks[qs.length]? = some L)
    (hn : qs.length ≤ 1000000) (ty : TypeId) :
    ∃ v' w', (Builtin.append_ #[23, 23] ty #[v4, .slice (some ⟨w.heap.size, 0, none⟩) 1 1]).run Tryd.prog (w.alloc (.cells #[q] 26)) = .ok v' w' ∧ Told w0 w' N v3 v' ps (qs ++ [q]) Ls Ks := by
  obtain ⟨v', w', hr, o', hk, hsz, hob, hb⟩ := push_run w N v4 q qs.length qs ty h.o4 hq.one hn h.sz
  have keep : ∀ {u : Value}, (∀ g, u.ownBlock = some g → g < w.heap.size) → (u.ownBlock = none ∨ u.ownBlock ≠ v4.ownBlock) → ∀ g, u.ownBlock = some g → w'.heap[g]? = w.heap[g]? := by
    intro u h1 h2 g hg
    refine hk g (h1 g hg) fun hc => ?_
    rcases h2 with h2 | h2
    · rw [h2] at hg; cases hg
    · exact h2 (hg.trans hc.symm)
  have kq : ∀ {u : Value} {M : List Nat}, QRow w N u M → QRow w' N u M := fun hu => own_keep hu (keep (fun g hg => (hu.lt g hg).2) (hu.ne h.o4))
  refine ⟨v', w', hr, own_keep h.o3 (keep (fun g hg => (h.o3.lt g hg).2) h.ap34), by rw [List.length_append]; exact o', ?_, fun i p M hp hM => (h.pr i p M hp hM).keep (keep (fun g hg => ((h.pr i p M hp hM).lt g hg).2) ((h.pr i p M hp hM).ne h.o4)), fun i u M hu hM => ?_, h.ap, h.len, h.lp, ?_, h.b.trans hb, Nat.le_trans h.sz hsz⟩
  · rcases hob with h1 | h1
    · rw [h1]; exact h.ap34
    · rcases h3 : v3.ownBlock with _ | g
      · exact .inl rfl
      · refine .inr fun hc => ?_
        rw [h1] at hc
        injection hc with hc
        have := (h.o3.lt _ h3).2
        omega
  · rcases getElem?_snoc hu with ⟨-, h1⟩ | ⟨rfl, rfl⟩
    · exact kq (h.qr i u M h1 hM)
    · rw [hL] at hM
      cases hM
      exact kq hq
  · rw [List.length_append, List.length_singleton]
    exact (List.getElem?_eq_some_iff.1 hL).1
end Go.Proofs.YtbcohjddnelldaaDoor.Pts
