/-
  A map from ints to numbers of 32 bits, seen as a function.
-/
import Derived.Test.YtgodinapdahocaaProg
import Derived.Test.YtgodinapdahocaaBase
import Derived.Maps.OwnSet
import Derived.Maps.Keyed
namespace Go.Proofs.Ytgodinapdahocaa.MapG
open Go.RowKit Base Go.WideShapes
open Go.Maps (Keyed)
set_option linter.unusedVariables false

theorem keyedH : Keyed Try.prog 3 := Maps.int_keyed Try.underlying3
def kl (k : Nat) : Lit := .int .i64 (k : Int)
def vl (v : Nat) : DataW Unit := .lit (.int .u32 (v : Int))
/-- Block b is a map of at most n entries that reads as f. -/
def MapG (w : World) (b n : Nat) (f : Nat → Option Nat) : Prop := ∃ D : DataW Unit, w.ownsMap Try.prog 3 (plainElem Try.prog 107) b n D ∧ Maps.IsMap D ∧
  ∀ k, Maps.has D (kl k) = (f k).isSome ∧ D.atKey (kl k) (vl 0) = vl ((f k).getD 0)

noncomputable def M63 : Nat := Classical.choose (⟨9223372036854775808, rfl⟩ : ∃ n : Nat, n = 9223372036854775808)
theorem M63_eq : M63 = 9223372036854775808 := Classical.choose_spec (⟨9223372036854775808, rfl⟩ : ∃ n : Nat, n = 9223372036854775808)
theorem kl_wf {k : Nat} (h : k < M63) : (Lit.int .i64 (k : Int)).wf = true := by
  rw [M63_eq] at h
  simp [Lit.wf, IntKind.min, IntKind.max, IntKind.signed, IntKind.bits]; omega
theorem key_of {k : Nat} (h : k < M63) : keyOf Try.prog 3 (.int .i64 (k : Int)) = some (kl k) := by
  have h1 := kl_wf h
  simp [keyOf, Try.underlying3, mapKey, h1, kl]
theorem kl_ne {a b : Nat} (h : a ≠ b) : kl a ≠ kl b := by
  intro hh
  unfold kl at hh
  injection hh with _ h2
  omega
theorem is_key (k : Nat) : WideAt.IsKeyLit (kl k) := trivial
theorem elem_of {v : Nat} (h : v < 4294967296) : plainElem (H := Unit) Try.prog 107 (.int .u32 (v : Int)) = some (vl v, []) :=
  plainElem_int Try.underlying107 (by simp [Lit.wf, IntKind.min, IntKind.max, IntKind.signed, IntKind.bits]; omega)
section
variable {w : World} {b n : Nat} {f : Nat → Option Nat}
theorem MapG.made (w : World) : MapG (w.alloc (.map #[] 0)) w.heap.size 0 (fun _ => none) :=
  ⟨.map [], World.ownsMap_made _ _ _ _, Maps.isMap_empty, fun k => ⟨rfl, rfl⟩⟩
theorem MapG.lt (h : MapG w b n f) : b < w.heap.size := by obtain ⟨D, h1, _⟩ := h; exact h1.lt
theorem MapG.kept {w' : World} (h : MapG w b n f) (hb : w'.heap[b]? = w.heap[b]?) : MapG w' b n f := by
  obtain ⟨D, ⟨es, clock, h0, h1⟩, h2⟩ := h
  exact ⟨D, ⟨es, clock, hb.trans h0, h1⟩, h2⟩
theorem MapG.only {w' : World} {S : Nat → Prop} (h : MapG w b n f) (o : Only S w w') (hs : ¬ S b) : MapG w' b n f := h.kept (o.block b h.lt hs)
theorem MapG.drewN (h : MapG w b n f) (k : Nat) : MapG (w.drewN k) b n f := h.kept rfl
theorem MapG.drew (h : MapG w b n f) : MapG w.drew b n f := h.kept rfl
theorem turned_only {w' : World} (h : w.mapTurned w' b) : Only (· = b) w w' := by
  have hg := h.grown
  exact ⟨hg.os, hg.tape, hg.output, hg.size, fun k hk hs => hg.block k hk (fun e => hs (by injection e))⟩
theorem grown_only {w' : World} (hg : w.grownBy w' (some b)) : Only (· = b) w w' :=
  ⟨hg.os, hg.tape, hg.output, hg.size, fun k hk hs => hg.block k hk (fun e => hs (by injection e))⟩
def put (f : Nat → Option Nat) (k v : Nat) : Nat → Option Nat := fun j => if j = k then some v else f j
def del (f : Nat → Option Nat) (k : Nat) : Nat → Option Nat := fun j => if j = k then none else f j
theorem view_put {D : DataW Unit} (hD : Maps.IsMap D) (hv : ∀ k, Maps.has D (kl k) = (f k).isSome ∧ D.atKey (kl k) (vl 0) = vl ((f k).getD 0)) (k v : Nat) :
    ∀ j, Maps.has (D.put (kl k) (vl v)) (kl j) = (put f k v j).isSome ∧ (D.put (kl k) (vl v)).atKey (kl j) (vl 0) = vl ((put f k v j).getD 0) := by
  intro j
  by_cases h : j = k
  · subst h
    simp only [put, if_pos]
    exact ⟨Maps.has_put_same hD (is_key _) _, Maps.atKey_put_same hD (is_key _) _ _⟩
  · simp only [put, if_neg h]
    rw [Maps.has_put_other (kl_ne h), Maps.atKey_put_other (kl_ne h)]
    exact hv j
theorem view_del {D : DataW Unit} (hv : ∀ k, Maps.has D (kl k) = (f k).isSome ∧ D.atKey (kl k) (vl 0) = vl ((f k).getD 0)) (k : Nat) :
    ∀ j, Maps.has (D.del (kl k)) (kl j) = (del f k j).isSome ∧ (D.del (kl k)).atKey (kl j) (vl 0) = vl ((del f k j).getD 0) := by
  intro j
  by_cases h : j = k
  · subst h
    simp only [del, if_pos]
    exact ⟨Maps.has_del_same, Maps.atKey_del_same _⟩
  · simp only [del, if_neg h]
    rw [Maps.has_del_other (kl_ne h), Maps.atKey_del_other (kl_ne h)]
    exact hv j
theorem zeroInt (w : World) : (zeroValue 107).run Try.prog w = .ok (.int .u32 0) w := by kernel_rfl

variable {ops : Array Oper} {rest : List Oper} {o : Oper} {a : Act} {Q : Exit → Act → World → Prop}
/-- 'm[k] = v' -/
theorem wp_put (w : World) (hg : o.guard = none) (m x v : Operand) (hop : o.op = Op.mapUpdate 102 m x v) (b n : Nat) (f : Nat → Option Nat) (hm : a.eval m = .map (some b)) (h : MapG w b n f) (hn : n < maxLen)
    (k j : Nat) (hx : a.eval x = .int .i64 (k : Int)) (hv : a.eval v = .int .u32 (j : Int)) (hk : k < M63) (hj : j < 4294967296)
    (hK : ∀ w', MapG w' b (n + 1) (put f k j) → Only (· = b) w w' → w'.heap.size = w.heap.size → wpList Try.prog ops Q rest (a.put o.dst undef) w') : wpList Try.prog ops Q (o :: rest) a w := by
  obtain ⟨D, h1, hD, h2⟩ := h
  refine wpList_mapUpdate_in w hg m x v 102 hop 3 107 keyedH Try.underlying102 (plainElem Try.prog 107) b n D hm h1 hn _ _ (kl k) hx hv (key_of hk) (vl j) [] (elem_of hj) ?_
  intro w' h3 h4
  refine hK w' ⟨_, h3, hD.put _ _, view_put hD h2 k j⟩ (turned_only h4) ?_
  obtain ⟨es, clock, es', clock', _, rfl⟩ := h4
  simp [ChangeMaps.setBlock]
/-- 'v, ok := m[k]' -/
theorem wp_ok (w : World) (hg : o.guard = none) (m x : Operand) (hop : o.op = Op.lookup 102 m x true) (b n : Nat) (f : Nat → Option Nat) (hm : a.eval m = .map (some b)) (h : MapG w b n f)
    (k : Nat) (hx : a.eval x = .int .i64 (k : Int)) (hk : k < M63)
    (hK : wpList Try.prog ops Q rest (a.put o.dst (.tuple #[.int .u32 (((f k).getD 0 : Nat) : Int), .bool (f k).isSome])) w) : wpList Try.prog ops Q (o :: rest) a w := by
  obtain ⟨D, h1, hD, h2⟩ := h
  refine wpList_lookup_own_ok_int w hg m x 102 hop 3 107 .u32 keyedH Try.underlying102 Try.underlying107 (zeroInt w) b n D hm h1 _ (kl k) hx (key_of hk) ?_
  intro c hat hwc
  have e := (h2 k).2
  rw [show vl 0 = (.lit (.int .u32 0) : DataW Unit) from rfl, hat] at e
  unfold vl at e
  injection e with e
  injection e with _ e
  rw [e, (h2 k).1]
  exact hK
theorem wp_ok_none (w : World) (hg : o.guard = none) (m x : Operand) (hop : o.op = Op.lookup 102 m x true) (b n : Nat) (f : Nat → Option Nat) (hm : a.eval m = .map (some b)) (h : MapG w b n f)
    (k : Nat) (hx : a.eval x = .int .i64 (k : Int)) (hk : k < M63) (hf : f k = none)
    (hK : wpList Try.prog ops Q rest (a.put o.dst (.tuple #[.int .u32 0, .bool false])) w) : wpList Try.prog ops Q (o :: rest) a w :=
  wp_ok w hg m x hop b n f hm h k hx hk (by rw [hf]; exact hK)
theorem wp_ok_some (w : World) (hg : o.guard = none) (m x : Operand) (hop : o.op = Op.lookup 102 m x true) (b n : Nat) (f : Nat → Option Nat) (hm : a.eval m = .map (some b)) (h : MapG w b n f)
    (k : Nat) (hx : a.eval x = .int .i64 (k : Int)) (hk : k < M63) (i : Nat) (hf : f k = some i)
    (hK : wpList Try.prog ops Q rest (a.put o.dst (.tuple #[.int .u32 (i : Int), .bool true])) w) : wpList Try.prog ops Q (o :: rest) a w :=
  wp_ok w hg m x hop b n f hm h k hx hk (by rw [hf]; exact hK)
/-- 'm[k]' -/
theorem wp_at (w : World) (hg : o.guard = none) (m x : Operand) (hop : o.op = Op.lookup 102 m x false) (b n : Nat) (f : Nat → Option Nat) (hm : a.eval m = .map (some b)) (h : MapG w b n f)
    (k : Nat) (hx : a.eval x = .int .i64 (k : Int)) (hk : k < M63)
    (hK : wpList Try.prog ops Q rest (a.put o.dst (.int .u32 (((f k).getD 0 : Nat) : Int))) w) : wpList Try.prog ops Q (o :: rest) a w := by
  obtain ⟨D, h1, hD, h2⟩ := h
  refine wpList_plain hg fun K' hK' => ?_
  obtain ⟨c, hrun, hat, hwc⟩ := h1.lookup_int keyedH Try.underlying102 Try.underlying107 (zeroInt w) (key_of hk)
  have e := (h2 k).2
  rw [show vl 0 = (.lit (.int .u32 0) : DataW Unit) from rfl, hat] at e
  unfold vl at e
  injection e with e
  injection e with _ e
  subst e
  unfold Oper.wp
  simp [execOp, hop, hm, hx, hrun, Result.andThen]
  exact hK' _ _ hK
theorem wp_at_some (w : World) (hg : o.guard = none) (m x : Operand) (hop : o.op = Op.lookup 102 m x false) (b n : Nat) (f : Nat → Option Nat) (hm : a.eval m = .map (some b)) (h : MapG w b n f)
    (k : Nat) (hx : a.eval x = .int .i64 (k : Int)) (hk : k < M63) (i : Nat) (hf : f k = some i)
    (hK : wpList Try.prog ops Q rest (a.put o.dst (.int .u32 (i : Int))) w) : wpList Try.prog ops Q (o :: rest) a w :=
  wp_at w hg m x hop b n f hm h k hx hk (by rw [hf]; exact hK)
/-- 'delete(m, k)' -/
theorem wp_del (w : World) (hg : o.guard = none) (m x : Operand) (hop : o.op = Op.call { callee := Callee.builtin Builtin.delete, args := #[m, x], argTypes := #[102, 3] }) (b n : Nat) (f : Nat → Option Nat) (hm : a.eval m = .map (some b)) (h : MapG w b n f)
    (k : Nat) (hx : a.eval x = .int .i64 (k : Int)) (hk : k < M63)
    (hK : ∀ w', MapG w' b n (del f k) → Only (· = b) w w' → w'.heap.size = w.heap.size → wpList Try.prog ops Q rest (a.put o.dst (.tuple #[])) w') : wpList Try.prog ops Q (o :: rest) a w := by
  obtain ⟨D, h1, hD, h2⟩ := h
  refine wpList_delete_own w hg m x 102 3 hop 107 keyedH Try.underlying102 (plainElem Try.prog 107) b n D hm h1 _ (kl k) hx (key_of hk) ?_
  intro w' h3 h4
  refine hK w' ⟨_, h3, hD.del _, view_del h2 k⟩ (turned_only h4) ?_
  obtain ⟨es, clock, es', clock', _, rfl⟩ := h4
  simp [ChangeMaps.setBlock]
end
end Go.Proofs.Ytgodinapdahocaa.MapG
