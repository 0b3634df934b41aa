/-
  The walk of widen: the lowest free page becomes a class's.
-/
import Derived.Test.YtgodinapdahocaaClassJoin
import Derived.StillTailTactics
import Derived.BigRegion
namespace Go.Proofs.Ytgodinapdahocaa.Cls
open Go.RowKit Base MapG
set_option linter.unusedVariables false

theorem eiU : EI Try.prog 101 107 (.int .u32 0) 1 4 := EI.mk' Try.underlying101 (by kernel_rfl) rfl (by decide)
theorem eiB : EI Try.prog 68 4 (.bool false) 1 1 := EI.mk' Try.underlying68 (by kernel_rfl) rfl (by decide)
theorem Grid.made1 (w : World) (e : TypeId) (z : Value) (n : Nat) (hz : z.cells = #[z]) : Grid (w.alloc (.cells (madeCells z.cells (n * 1)) e)) w.heap.size e n 1 (fun _ _ => z) := by
  have hb := Blk.new w e (madeCells z.cells (n * 1))
  refine ⟨⟨_, hb⟩, fun i j hi hj => ?_⟩
  obtain rfl : j = 0 := by omega
  rw [hb.cell, hz, Arena.made_one]
  simp [hi]
theorem look_nil (w : World) (x : Nat) : (Instr.lookup 102 (.map none) (.int .i64 (x : Int)) false).run Try.prog w = .ok (.int .u32 0) w := by kernel_rfl
set_option maxRecDepth 100000 in
theorem OldAt.look {w : World} {O : Option Nat} {n : Nat} {f : Nat → Nat} (h : OldAt w O n f) (x : Nat) (hx : x < M63) : (Instr.lookup 102 (.map O) (.int .i64 (x : Int)) false).run Try.prog w = .ok (.int .u32 (f x : Int)) w := by
  cases O with
  | none =>
    rw [h.2 x]
    exact look_nil w x
  | some b =>
    obtain ⟨p, ⟨D, h1, hD, h2⟩, h3⟩ := h
    obtain ⟨c, hrun, hat, hwc⟩ := h1.lookup_int keyedH Try.underlying102 Try.underlying107 (zeroInt w) (key_of hx)
    have e := (h2 x).2
    rw [show vl 0 = (.lit (.int .u32 0) : DataW Unit) from rfl, hat] at e
    unfold vl at e
    injection e with e
    injection e with _ e
    rw [hrun, e, h3]
/-- A page is a class's, its generations and marks two new blocks of zeros. -/
def freshS (s : St) (k i : Nat) : St := { s with own := upd s.own i true, cls := upd s.cls i k, gens := upd s.gens i (fun _ => 0), tkn := upd s.tkn i (fun _ => false) }
theorem SetAt.widen {w w' : World} {L : Lay} {c : Conf} {s : St} {bs : List UInt8} (h : SetAt w L c s bs) (k i a b : Nat) (hi : i < c.cf.np) (hoi : s.own i = false) (o : Only (· = L.gp) w w')
    (hp : Grid w' L.gp 104 c.cf.np 7 (put2 (put2 (put2 (put2 (pv c.cf L s) i 0 (.bool true)) i 2 (.int .i64 (k : Int))) i 3 (.slice (some ⟨a, 0, none⟩) (c.cf.n k) (c.cf.n k))) i 4 (.slice (some ⟨b, 0, none⟩) (c.cf.n k) (c.cf.n k))))
    (hA : Grid w' a 107 (c.cf.n k) 1 (fun _ _ => .int .u32 0)) (hB : Grid w' b 4 (c.cf.n k) 1 (fun _ _ => .bool false)) (ha : w.heap.size ≤ a) (hb : w.heap.size ≤ b) :
    SetAt w' { L with G := upd L.G i a, T := upd L.T i b } c (freshS s k i) bs ∧ Went w w' L { L with G := upd L.G i a, T := upd L.T i b } c s (freshS s k i) := by
  have hab : a ≠ b := ne_ty hA.blk hB.blk (by decide)
  have hat : ∀ q, ¬ (q = Part.pages ∨ q = .gens i ∨ q = .tkn i) → ∀ b', Lay.blk { L with G := upd L.G i a, T := upd L.T i b } c.cf (freshS s k i) q = some b' → L.blk c.cf s q = some b' := by
    intro q hq b' e
    cases q with
    | gens j =>
      have hj : j ≠ i := fun e => hq (.inr (.inl (by rw [e])))
      have e' : (if j < c.cf.np ∧ upd s.own i true j = true then some (upd L.G i a j) else none) = some b' := e
      rw [upd_ne _ _ hj, upd_ne _ _ hj] at e'
      exact e'
    | tkn j =>
      have hj : j ≠ i := fun e => hq (.inr (.inr (by rw [e])))
      have e' : (if j < c.cf.np ∧ upd s.own i true j = true then some (upd L.T i b j) else none) = some b' := e
      rw [upd_ne _ _ hj, upd_ne _ _ hj] at e'
      exact e'
    | pages => exact absurd (.inl rfl) hq
    | _ => exact e
  have e1 : Lay.blk { L with G := upd L.G i a, T := upd L.T i b } c.cf (freshS s k i) (.gens i) = some a := by
    show (if i < c.cf.np ∧ upd s.own i true i = true then some (upd L.G i a i) else none) = some a
    rw [upd_at, upd_at, if_pos ⟨hi, rfl⟩]
  have e2 : Lay.blk { L with G := upd L.G i a, T := upd L.T i b } c.cf (freshS s k i) (.tkn i) = some b := by
    show (if i < c.cf.np ∧ upd s.own i true i = true then some (upd L.T i b i) else none) = some b
    rw [upd_at, upd_at, if_pos ⟨hi, rfl⟩]
  have hpl : L.gp < w.heap.size := h.pagesB.lt
  refine ⟨h.turns (fun p => p = .pages ∨ p = .gens i ∨ p = .tkn i) o (fun b' e _ => ⟨.pages, .inl rfl, by subst e; rfl⟩) ?_ ?_ hat ?_ rfl, ⟨o.mono fun b' _ e => ⟨.pages, by subst e; rfl⟩, ?_⟩⟩
  · rintro p (rfl | rfl | rfl)
    · refine Grid.congr hp fun x j hx hj => ?_
      unfold put2
      by_cases hxi : x = i
      · subst hxi
        obtain rfl | rfl | rfl | rfl | rfl | rfl | rfl : j = 0 ∨ j = 1 ∨ j = 2 ∨ j = 3 ∨ j = 4 ∨ j = 5 ∨ j = 6 := by omega
        all_goals simp [pv, freshS, upd, rowV]
      · obtain rfl | rfl | rfl | rfl | rfl | rfl | rfl : j = 0 ∨ j = 1 ∨ j = 2 ∨ j = 3 ∨ j = 4 ∨ j = 5 ∨ j = 6 := by omega
        all_goals simp [pv, freshS, upd, rowV, hxi]
    · intro _
      show Grid w' (upd L.G i a i) 107 (c.cf.n (upd s.cls i k i)) 1 (gv (upd s.gens i (fun _ => 0) i))
      rw [upd_at, upd_at, upd_at]
      exact hA
    · intro _
      show Grid w' (upd L.T i b i) 4 (c.cf.n (upd s.cls i k i)) 1 (tv (upd s.tkn i (fun _ => false) i))
      rw [upd_at, upd_at, upd_at]
      exact hB
  · intro q hq hp
    cases q with
    | gens j =>
      have hj : j ≠ i := fun e => hq (.inr (.inl (by rw [e])))
      show j < c.cf.np ∧ upd s.own i true j = true → Grid w (upd L.G i a j) 107 (c.cf.n (upd s.cls i k j)) 1 (gv (upd s.gens i (fun _ => 0) j))
      rw [upd_ne _ _ hj, upd_ne _ _ hj, upd_ne _ _ hj, upd_ne _ _ hj]
      exact hp
    | tkn j =>
      have hj : j ≠ i := fun e => hq (.inr (.inr (by rw [e])))
      show j < c.cf.np ∧ upd s.own i true j = true → Grid w (upd L.T i b j) 4 (c.cf.n (upd s.cls i k j)) 1 (tv (upd s.tkn i (fun _ => false) j))
      rw [upd_ne _ _ hj, upd_ne _ _ hj, upd_ne _ _ hj, upd_ne _ _ hj]
      exact hp
    | pages => exact absurd (.inl rfl) hq
    | _ => exact hp
  · rintro p b' (rfl | rfl | rfl) e
    · exact .inl e
    · rw [e1] at e
      injection e with e
      subst e
      refine .inr ⟨ha, ?_⟩
      rintro q (rfl | rfl | rfl) eq
      · injection eq with eq
        have : L.gp = a := eq
        omega
      · rfl
      · rw [e2] at eq; injection eq with eq; exact absurd eq.symm hab
    · rw [e2] at e
      injection e with e
      subst e
      refine .inr ⟨hb, ?_⟩
      rintro q (rfl | rfl | rfl) eq
      · injection eq with eq
        have : L.gp = b := eq
        omega
      · rw [e1] at eq; injection eq with eq; exact absurd eq hab
      · rfl
  · rintro b' ⟨q, hq⟩
    by_cases hP : q = Part.pages ∨ q = .gens i ∨ q = .tkn i
    · rcases hP with rfl | rfl | rfl
      · exact .inl ⟨.pages, hq⟩
      · rw [e1] at hq; injection hq with hq; subst hq; exact .inr ha
      · rw [e2] at hq; injection hq with hq; subst hq; exact .inr hb
    · exact .inl ⟨q, hat q hP b' hq⟩
end Go.Proofs.Ytgodinapdahocaa.Cls
