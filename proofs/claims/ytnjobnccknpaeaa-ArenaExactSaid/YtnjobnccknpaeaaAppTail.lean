/-
  Appending to a row of bytes whose marked stretch lies behind its cells (a row that a string was turned into): bytes of a string, and bytes that lie elsewhere. Nothing here names the program.
-/
import Derived.Test.YtnjobnccknpaeaaBase
import Derived.Lib.FrozenHead
import Derived.Lib.ConvBytes
import Derived.Lib.SmallJoins
namespace Go.Proofs.Ytnjobnccknpaeaa.Tail
open Go.RowKit Base Go.Lib
set_option linter.unusedVariables false

/-- No cell ahead of n is marked. -/
def Loose (fz : Nat × Nat) (n : Nat) : Prop := ∀ k, k < n → ¬ (fz.1 ≤ k ∧ k < fz.2)
theorem Loose.zero (n : Nat) : Loose (0, 0) n := fun k _ h => absurd h.2 (by simp)
theorem Loose.tail (n m : Nat) : Loose (n, m) n := fun k hk h => by simp at h; omega
/-- The slice v of length l.length has the bytes l in a row of its own, from block B on. -/
def OwnT (w : World) (B : Nat) (e : TypeId) (v : Value) (l : List UInt8) : Prop :=
  ∃ g cap cur fz, v = .slice (some ⟨g, 0, none⟩) l.length cap ∧ B ≤ g ∧ w.heap[g]? = some (.cells cur e fz) ∧ l.length ≤ cap ∧ cap ≤ maxLen ∧ cur.size = cap ∧ Loose fz cap ∧ cur.toList.take l.length = l.map bv

theorem OwnT.bytes {w : World} {B : Nat} {e : TypeId} {v : Value} {l : List UInt8} (h : OwnT w B e v l) : ∃ g cap, v = .slice (some ⟨g, 0, none⟩) l.length cap ∧ B ≤ g ∧ Bytes w w.heap.size (some ⟨g, 0, none⟩) l := by
  obtain ⟨g, cap, cur, fz, rfl, hB, hg, h1, h2, h3, h4, h5⟩ := h
  refine ⟨g, cap, rfl, hB, fun _ => ⟨g, 0, rfl, heap_lt hg, fun j u hj => ?_⟩⟩
  rw [Nat.zero_add, cell_of_row w g j cur e fz hg]
  rw [← h5, List.getElem?_take] at hj
  split at hj
  · simpa using hj
  · cases hj
theorem OwnT.old {w w' : World} {B C : Nat} {e : TypeId} {v : Value} {l : List UInt8} (h : OwnT w B e v l) (hb : Below C w w') (hC : w.heap.size ≤ C) : OwnT w' B e v l := by
  obtain ⟨g, cap, cur, fz, hv, hB, hg, h1⟩ := h
  exact ⟨g, cap, cur, fz, hv, hB, (hb.block g (Nat.lt_of_lt_of_le (heap_lt hg) hC)).trans hg, h1⟩
theorem OwnT.drewN {w : World} {B : Nat} {e : TypeId} {v : Value} {l : List UInt8} (h : OwnT w B e v l) (n : Nat) : OwnT (w.drewN n) B e v l := h

/-- The row that a string is turned into. -/
theorem ownT_conv (w : World) (e : TypeId) (l : List UInt8) (hl : l.length ≤ maxLen) : OwnT (bytesWorld w e ⟨l.toArray⟩) w.heap.size e (.slice (some ⟨w.heap.size, 0, none⟩) l.length (grownCap w l.length 0 e)) l := by
  have hge := grownCap_ge w l.length 0 e
  have hsz : (bytesCells w e ⟨l.toArray⟩).size = grownCap w l.length 0 e := by
    simp [bytesCells, ByteArray.size]
    omega
  refine ⟨_, _, _, _, rfl, Nat.le_refl _, bytesWorld_at_new w e _, hge, grownCap_le_maxLen w _ _ _ hl, hsz, ?_, ?_⟩
  · rw [← hsz]
    exact Loose.tail _ _
  · simp [bytesCells, List.take_append, bv]

theorem not_frozen {w : World} {g k : Nat} {cur : Array Value} {t : TypeId} {fz : Nat × Nat} (hg : w.heap[g]? = some (.cells cur t fz)) (h : ¬ (fz.1 ≤ k ∧ k < fz.2)) : w.frozen? ⟨g, k, none⟩ = false := by
  obtain ⟨lo, hi⟩ := fz
  simp only [World.frozen?, hg]
  simp at h
  simp
  omega
theorem stores (P : Program) (g : Nat) (t : TypeId) (fz : Nat × Nat) (o : Nat) : ∀ (vs : List Value) (i : Nat) (cur : Array Value) (w : World), w.heap[g]? = some (.cells cur t fz) → Loose fz cur.size → o + i + vs.length ≤ cur.size → (∀ v ∈ vs, v.oneCell' = true) →
    (storeCells ⟨g, o, none⟩ vs i).run P w = .ok () (w.setRow g (cur.toList.take (o + i) ++ vs ++ cur.toList.drop (o + i + vs.length)).toArray)
  | [], i, cur, w, hg, _, _, _ => by
    simp only [storeCells, List.append_nil, List.length_nil, Nat.add_zero, List.take_append_drop, Array.toArray_toList]
    rw [setRow_self w g cur t fz hg]
    rfl
  | v :: rest, i, cur, w, hg, hf, hl, h1 => by
    rw [List.length_cons] at hl
    have hi : o + i < cur.size := by omega
    have hcell : w.cell? ⟨g, o + i, none⟩ = some cur[o + i] := by simp [World.cell?, hg, hi]
    have hfro := not_frozen (k := o + i) hg (hf _ hi)
    have hst : (store ((⟨g, o, none⟩ : Addr).add i) v).run P w = .ok () (w.setRow g (cur.setIfInBounds (o + i) v)) := by
      rw [add_explicit, run_store P w _ v _ (h1 v (by simp)), hcell]
      simp [hfro, setCell_eq_setRow w g (o + i) cur t fz v hg]
    have ih := stores P g t fz o rest (i + 1) (cur.setIfInBounds (o + i) v) (w.setRow g (cur.setIfInBounds (o + i) v)) (setRow_heap w g cur _ t _ hg) (by simpa using hf) (by simp; omega) (fun x hx => h1 x (by simp [hx]))
    have e := list_seg_step cur.toList (o + i) v rest (by simp; omega)
    simp only [storeCells, Sem.run_bind, hst, Result.andThen_ok, ih, setRow_setRow]
    congr 3
    simpa [Array.toList_setIfInBounds, Nat.add_assoc] using e

theorem below_setRow {w : World} {B g : Nat} (cs : Array Value) (h : B ≤ g) : Below B w (w.setRow g cs) :=
  ⟨rfl, rfl, rfl, by simp, fun k hk => setRow_other w g k cs (by omega)⟩
/-- What stands in the row behind the bytes were laid in. -/
theorem own_laid {w : World} {B g cap : Nat} {e : TypeId} {cur : Array Value} {fz : Nat × Nat} {l m : List UInt8} (hB : B ≤ g) (hg : w.heap[g]? = some (.cells cur e fz)) (hcm : cap ≤ maxLen) (hcs : cur.size = cap) (hf : Loose fz cap) (htake : cur.toList.take l.length = l.map bv) (hroom : l.length + m.length ≤ cap) :
    OwnT (w.setRow g (cur.toList.take l.length ++ m.map bv ++ cur.toList.drop (l.length + m.length)).toArray) B e (.slice (some ⟨g, 0, none⟩) (l ++ m).length cap) (l ++ m) := by
  refine ⟨g, cap, _, fz, rfl, hB, setRow_heap w g cur _ e fz hg, by rw [List.length_append]; exact hroom, hcm, ?_, hf, ?_⟩
  · simp only [List.size_toArray, List.length_append, List.length_take, List.length_drop, Array.length_toList, List.length_map]
    omega
  · rw [htake, ← List.map_append]
    have : (l ++ m).length = ((l ++ m).map bv).length := by simp
    rw [this]
    exact List.take_left
theorem own_new (w : World) (B : Nat) (e : TypeId) (l m : List UInt8) (old : Nat) (hB : B ≤ w.heap.size) (h : l.length + m.length ≤ maxLen) :
    OwnT (w.drew.alloc (.cells ((l.map bv).toArray ++ (m.map bv).toArray ++ Builtin.zeroCells (Value.int .u8 0).cells (grownCap w (l.length + m.length) old e - (l.length + m.length))) e)) B e (.slice (some ⟨w.heap.size, 0, none⟩) (l ++ m).length (grownCap w (l.length + m.length) old e)) (l ++ m) ∧
    Below B w (w.drew.alloc (.cells ((l.map bv).toArray ++ (m.map bv).toArray ++ Builtin.zeroCells (Value.int .u8 0).cells (grownCap w (l.length + m.length) old e - (l.length + m.length))) e)) := by
  have hge := grownCap_ge w (l.length + m.length) old e
  have hcm := grownCap_le_maxLen w (l.length + m.length) old e h
  refine ⟨⟨w.heap.size, _, _, (0, 0), rfl, hB, heap_alloc_new w.drew _, by rw [List.length_append]; exact hge, hcm, ?_, Loose.zero _, ?_⟩, ?_⟩
  · have hz1 : (Value.int IntKind.u8 0).cells.size = 1 := rfl
    simp only [Array.size_append, List.size_toArray, size_zeroCells, hz1, List.length_map]
    omega
  · simp only [Array.toList_append]
    rw [← List.map_append]
    have : (l ++ m).length = ((l ++ m).map bv).length := by simp
    rw [this]
    exact List.take_left
  · exact ⟨rfl, rfl, rfl, by simp, fun k hk => heap_alloc_old w.drew _ (Nat.lt_of_lt_of_le hk hB)⟩

theorem strCells_bv (m : List UInt8) : strCells ⟨m.toArray⟩ = m.map bv := by simp [strCells, bv]
variable {P : Program}
/-- A string's bytes appended. -/
theorem run_app_string (w : World) (B : Nat) (t u ty e : TypeId) (i : TypeInfo) (ht : P.underlying t = some (.slice e)) (hu : P.underlying u = some .string) (hi : P.info? e = some i) (hz : i.zero = some (.int .u8 0)) (hs1 : i.size = 1) (hb1 : i.bytes = 1)
    (v : Value) (l m : List UInt8) (h : OwnT w B e v l) (hlim : l.length + m.length ≤ 140737488355328) (hB : B ≤ w.heap.size) :
    ∃ v' w', (Builtin.append_ #[t, u] ty #[v, .string ⟨m.toArray⟩]).run P w = .ok v' w' ∧ OwnT w' B e v' (l ++ m) ∧ Below B w w' := by
  have hms : (⟨m.toArray⟩ : ByteArray).size = m.length := by simp [ByteArray.size]
  have hmx : l.length + m.length ≤ maxLen := by unfold maxLen; omega
  obtain ⟨g, cap, cur, fz, rfl, hBg, hg, h1, h2, h3, h4, h5⟩ := h
  by_cases hroom : l.length + m.length ≤ cap
  · have hf := run_firstCells_string (P := P) w 1 ⟨m.toArray⟩
    have hst := stores P g e fz l.length (m.map bv) 0 cur w hg (by rw [h3]; exact h4) (by simp; omega) (bv_one m)
    rw [strCells_bv] at hf
    rw [hms] at hf
    simp only [Nat.add_zero, List.length_map] at hst
    refine ⟨_, _, ?_, own_laid hBg hg h2 h3 h4 h5 hroom, below_setRow _ hBg⟩
    rw [List.length_append]
    simp [Builtin.append_, run_underlying ht, run_underlying hu, sizeOf, typeInfo, hi, hs1, Builtin.lenOf, hms, hroom, hf, Addr.add_lit, hst]
  · have hcells : ∀ j x, (l.map bv)[j]? = some x → w.cell? ((⟨g, 0, none⟩ : Addr).add j) = some x := by
      intro j x hj
      rw [add_explicit, Nat.zero_add, cell_of_row w g j cur e fz hg]
      rw [← h5, List.getElem?_take] at hj
      split at hj
      · simpa using hj
      · cases hj
    have hr := run_append_grow_string (P := P) w t u ty e i (.int .u8 0) ht hu hi hz ⟨g, 0, none⟩ l.length cap (l.map bv) (by simp [hs1]) hcells ⟨m.toArray⟩ (by rw [hms]; omega) (by rw [hms]; omega) (by rw [hb1, hms]; exact growslice_fits (by omega) (by omega))
    rw [hms, strCells_bv] at hr
    obtain ⟨q1, q2⟩ := own_new w B e l m cap hB hmx
    rw [← List.length_append] at hr
    exact ⟨_, _, hr, by rw [← List.length_append] at q1; exact q1, by rw [← List.length_append] at q2; exact q2⟩
/-- Bytes that lie elsewhere appended. -/
theorem run_app_bytes (w : World) (B : Nat) (t ty e : TypeId) (i : TypeInfo) (ht : P.underlying t = some (.slice e)) (hi : P.info? e = some i) (hz : i.zero = some (.int .u8 0)) (hs1 : i.size = 1) (hb1 : i.bytes = 1)
    (v : Value) (l m : List UInt8) (h : OwnT w B e v l) (a : Addr) (c : Nat) (hm : ∀ j x, (m.map bv)[j]? = some x → w.cell? (a.add j) = some x) (hlim : l.length + m.length ≤ 140737488355328) (hB : B ≤ w.heap.size) :
    ∃ v' w', (Builtin.append_ #[t, t] ty #[v, .slice (some a) m.length c]).run P w = .ok v' w' ∧ OwnT w' B e v' (l ++ m) ∧ Below B w w' := by
  have hmx : l.length + m.length ≤ maxLen := by unfold maxLen; omega
  obtain ⟨g, cap, cur, fz, rfl, hBg, hg, h1, h2, h3, h4, h5⟩ := h
  by_cases hroom : l.length + m.length ≤ cap
  · have hf := run_firstCells_some (P := P) w 1 m.length a m.length c (m.map bv) (by simp) hm
    have hst := stores P g e fz l.length (m.map bv) 0 cur w hg (by rw [h3]; exact h4) (by simp; omega) (bv_one m)
    simp only [Nat.add_zero, List.length_map] at hst
    refine ⟨_, _, ?_, own_laid hBg hg h2 h3 h4 h5 hroom, below_setRow _ hBg⟩
    rw [List.length_append]
    simp [Builtin.append_, run_underlying ht, sizeOf, typeInfo, hi, hs1, Builtin.lenOf, hroom, hf, Addr.add_lit, hst]
  · have hcells : ∀ j x, (l.map bv)[j]? = some x → w.cell? ((⟨g, 0, none⟩ : Addr).add j) = some x := by
      intro j x hj
      rw [add_explicit, Nat.zero_add, cell_of_row w g j cur e fz hg]
      rw [← h5, List.getElem?_take] at hj
      split at hj
      · simpa using hj
      · cases hj
    have hr := run_append_grow (P := P) w t ty e i (.int .u8 0) ht hi hz ⟨g, 0, none⟩ l.length cap (l.map bv) (by simp [hs1]) hcells a m.length c (m.map bv) (by simp [hs1]) hm (by omega) (by omega) (by rw [hb1]; exact growslice_fits (by omega) (by omega))
    obtain ⟨q1, q2⟩ := own_new w B e l m cap hB hmx
    rw [← List.length_append] at hr
    exact ⟨_, _, hr, by rw [← List.length_append] at q1; exact q1, by rw [← List.length_append] at q2; exact q2⟩

/-- The operation, for the walk: a string's bytes. -/
theorem wpList_app_string {w : World} {ops : Array Oper} {rest : List Oper} {o : Oper} {a : Act} {Q : Exit → Act → World → Prop} (hgd : o.guard = none) (sl x : Operand) (t u : TypeId)
    (ho : o.op = .call { callee := .builtin .append, args := #[sl, x], argTypes := #[t, u] })
    (B : Nat) (e : TypeId) (i : TypeInfo) (ht : P.underlying t = some (.slice e)) (hu : P.underlying u = some .string) (hi : P.info? e = some i) (hz : i.zero = some (.int .u8 0)) (hs1 : i.size = 1) (hb1 : i.bytes = 1)
    (v : Value) (l m : List UInt8) (hs : a.eval sl = v) (h : OwnT w B e v l) (hx : a.eval x = .string ⟨m.toArray⟩) (hlim : l.length + m.length ≤ 140737488355328) (hB : B ≤ w.heap.size)
    (hk : ∀ v' w', OwnT w' B e v' (l ++ m) → Below B w w' → wpList P ops Q rest (a.put o.dst v') w') : wpList P ops Q (o :: rest) a w := by
  refine wpList_plain hgd fun K hK => ?_
  obtain ⟨v', w', hr, h2, h3⟩ := run_app_string (P := P) w B t u o.type e i ht hu hi hz hs1 hb1 v l m h hlim hB
  unfold Oper.wp execOp
  simp only [ho, resolve, invoke, builtin, Sem.run_bind, Sem.run_pure, Result.andThen_ok, List.map_toArray, List.map_cons, List.map_nil, hs, hx, hr]
  exact hK _ _ (hk v' w' h2 h3)
/-- The operation, for the walk: bytes that lie elsewhere. -/
theorem wpList_app_bytes {w : World} {ops : Array Oper} {rest : List Oper} {o : Oper} {a : Act} {Q : Exit → Act → World → Prop} (hgd : o.guard = none) (sl x : Operand) (t : TypeId)
    (ho : o.op = .call { callee := .builtin .append, args := #[sl, x], argTypes := #[t, t] })
    (B : Nat) (e : TypeId) (i : TypeInfo) (ht : P.underlying t = some (.slice e)) (hi : P.info? e = some i) (hz : i.zero = some (.int .u8 0)) (hs1 : i.size = 1) (hb1 : i.bytes = 1)
    (v : Value) (l m : List UInt8) (hs : a.eval sl = v) (h : OwnT w B e v l) (ad : Addr) (c : Nat) (hx : a.eval x = .slice (some ad) m.length c) (hm : ∀ j x, (m.map bv)[j]? = some x → w.cell? (ad.add j) = some x) (hlim : l.length + m.length ≤ 140737488355328) (hB : B ≤ w.heap.size)
    (hk : ∀ v' w', OwnT w' B e v' (l ++ m) → Below B w w' → wpList P ops Q rest (a.put o.dst v') w') : wpList P ops Q (o :: rest) a w := by
  refine wpList_plain hgd fun K hK => ?_
  obtain ⟨v', w', hr, h2, h3⟩ := run_app_bytes (P := P) w B t o.type e i ht hi hz hs1 hb1 v l m h ad c hm hlim hB
  unfold Oper.wp execOp
  simp only [ho, resolve, invoke, builtin, Sem.run_bind, Sem.run_pure, Result.andThen_ok, List.map_toArray, List.map_cons, List.map_nil, hs, hx, hr]
  exact hK _ _ (hk v' w' h2 h3)
end Go.Proofs.Ytnjobnccknpaeaa.Tail
