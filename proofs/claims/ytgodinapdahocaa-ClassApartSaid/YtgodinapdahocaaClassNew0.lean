/-
  A new Set in memory.
-/
import Derived.Test.YtgodinapdahocaaClassWiden
namespace Go.Proofs.Ytgodinapdahocaa.Cls
open Go.RowKit Base MapG
set_option linter.unusedVariables false

theorem Grid.made (w : World) (e : TypeId) (z : Array Value) (n : Nat) (f : Nat → Value) (hf : ∀ j, j < z.size → z[j]? = some (f j)) : Grid (w.alloc (.cells (madeCells z (n * z.size)) e)) w.heap.size e n z.size (fun _ j => f j) := by
  have hb := Blk.new w e (madeCells z (n * z.size))
  refine ⟨⟨_, hb⟩, fun i j hi hj => ?_⟩
  rw [hb.cell, madeCells_at z n i j hi hj, hf j hj]
/-- The type of a part of a new Set. -/
def partTy : Part → Option TypeId
  | .head => some 95
  | .arena => some 132
  | .bytes => some 5
  | .sizes => some 3
  | .pages => some 104
  | .rows => some 97
  | _ => none
theorem partTy_inj : ∀ p q : Part, partTy p ≠ none → partTy p = partTy q → p = q := by
  intro p q h e
  cases p <;> cases q <;> first | rfl | exact absurd rfl h | (simp [partTy] at e)
theorem SetAt.new {w : World} {L : Lay} {c : Conf} (hr : refN c = 0) (h0 : Blk w L.g 95 (hv L c (new0 c.cf))) (h1 : Arena.At w L.ga L.ha c.cf.ps (List.replicate (c.cf.ps * c.cf.np) 0))
    (h2 : Grid w L.gs 3 c.nc 1 (fun i _ => iv (c.sz i))) (h3 : Grid w L.gp 104 c.cf.np 7 (pv c.cf L (new0 c.cf))) (h4 : Grid w L.gr 97 c.nc 4 (rv L (new0 c.cf)))
    (hF : ∀ k, L.F k = .slice none 0 0) (hO : ∀ i, L.O i = none) : SetAt w L c (new0 c.cf) (List.replicate (c.cf.ps * c.cf.np) 0) := by
  have key : ∀ p b, L.blk c.cf (new0 c.cf) p = some b → ∃ t cur, partTy p = some t ∧ Blk w b t cur := by
    intro p b e
    cases p with
    | head => injection e with e; subst e; exact ⟨_, _, rfl, h0⟩
    | arena => injection e with e; subst e; exact ⟨_, _, rfl, h1.head⟩
    | bytes => injection e with e; subst e; exact ⟨_, _, rfl, h1.bytes⟩
    | sizes => injection e with e; subst e; obtain ⟨cur, hb⟩ := h2.blk; exact ⟨_, cur, rfl, hb⟩
    | pages => injection e with e; subst e; obtain ⟨cur, hb⟩ := h3.blk; exact ⟨_, cur, rfl, hb⟩
    | rows => injection e with e; subst e; obtain ⟨cur, hb⟩ := h4.blk; exact ⟨_, cur, rfl, hb⟩
    | gens i => rw [Lay.blk, if_neg (fun e => by cases e.2)] at e; cases e
    | tkn i => rw [Lay.blk, if_neg (fun e => by cases e.2)] at e; cases e
    | free k =>
      by_cases hk : k < c.cf.nc
      · rw [Lay.blk, if_pos hk, hF] at e; cases e
      · rw [Lay.blk, if_neg hk] at e; cases e
    | old i =>
      by_cases hk : i < c.cf.np
      · rw [Lay.blk, if_pos hk, hO] at e; cases e
      · rw [Lay.blk, if_neg hk] at e; cases e
  refine ⟨fun p => ?_, fun p q b e1 e2 => ?_, by simp, hr⟩
  · cases p with
    | head => exact h0
    | arena =>
      have := h1.head
      rw [List.length_replicate] at this
      exact this
    | bytes => exact h1.bytes
    | sizes => exact h2
    | pages => exact h3
    | rows => exact h4
    | gens i => exact fun e => by cases e.2
    | tkn i => exact fun e => by cases e.2
    | free k => exact fun _ => ⟨rfl, .inl ⟨by rw [hF], rfl⟩⟩
    | old i => exact fun _ => by rw [hO]; exact ⟨rfl, fun _ => rfl⟩
  · obtain ⟨t, cur, a1, a2⟩ := key p b e1
    obtain ⟨t', cur', b1, b2⟩ := key q b e2
    unfold Blk at a2 b2
    rw [a2] at b2
    have e : t = t' := by injection b2 with b2; injection b2
    subst e
    exact partTy_inj p q (by rw [a1]; exact fun e => by cases e) (a1.trans b1.symm)
end Go.Proofs.Ytgodinapdahocaa.Cls
