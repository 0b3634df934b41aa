/-
  What the argument is that holds operations.
-/
import Derived.Test.YtgodinapdahocaaClassArg
import Derived.Test.YtgodinapdahocaaClassApartLaw
namespace Go.Proofs.Ytgodinapdahocaa.ClsArg
open Go.ChangeShapes Go.WideShapes Go.ChangeAt Go.RowKit LawFrame Go.Deep
set_option linter.unusedVariables false

variable {H : Type} {enc : TypeId × Value → H}
set_option maxRecDepth 100000 in
theorem ops_at {W : World} {fuel len cap : Nat} {A : Option Addr} {x : DataW H × List MemPlace} (h : DataW.trod enc Try.prog W 0 (fun _ => true) true fuel 59 [.slice A len cap] = some x) :
    ∃ l : List Cls.POp, l.length = len ∧ len ≤ cap ∧ cap ≤ maxLen ∧ ∀ k (hk : k < l.length), Cls.RowO W A k l[k] := by
  obtain ⟨hl, hm, hi⟩ := fields_at Try.underlying59 Try.underlying64 (by kernel_rfl) (by kernel_rfl) (by decide) h
  obtain ⟨l, hlen, hP⟩ := list_of (fun k (p : Cls.POp) => Cls.RowO W A k p) len (by
    intro k hk
    obtain ⟨b, off, n, rfl, hb, hfi⟩ := hi k hk
    obtain ⟨v0, y0, hc0, ht0⟩ := hfi 0 _ rfl
    obtain ⟨v1, y1, hc1, ht1⟩ := hfi 1 _ rfl
    obtain ⟨v2, y2, hc2, ht2⟩ := hfi 2 _ rfl
    obtain ⟨v3, y3, hc3, ht3⟩ := hfi 3 _ rfl
    obtain ⟨v4, y4, hc4, ht4⟩ := hfi 4 _ rfl
    obtain ⟨v5, y5, hc5, ht5⟩ := hfi 5 _ rfl
    obtain ⟨x0, e0, -, wx0⟩ := DataW.trod_int Try.underlying3 ht0
    obtain ⟨x1, e1, -, wx1⟩ := DataW.trod_int Try.underlying3 ht1
    obtain ⟨x2, e2, -, wx2⟩ := DataW.trod_int Try.underlying3 ht2
    obtain ⟨x3, e3, -, wx3⟩ := DataW.trod_int Try.underlying49 ht3
    obtain ⟨x4, e4, -⟩ := DataW.trod_bool Try.underlying4 ht4
    have e5 : ∃ Av nv cv, v5 = .slice Av nv cv := by
      rcases open_slice Try.underlying62 ht5 with ⟨hcs, -⟩ | ⟨a, len', cap', m, n', D, Pl, hcs, -⟩
      · simp only [List.cons.injEq, and_true] at hcs
        exact ⟨_, _, _, hcs⟩
      · simp only [List.cons.injEq, and_true] at hcs
        exact ⟨_, _, _, hcs⟩
    obtain ⟨Av, nv, cv, e5⟩ := e5
    simp only [List.cons.injEq, and_true] at e0 e1 e2 e3 e4
    obtain ⟨u3, e3', hu3⟩ := u64_nat wx3
    subst e3'
    subst e0 e1 e2 e3 e4 e5
    exact ⟨⟨x0, x1, x2, u3, x4⟩, b, off, Av, nv, cv, rfl, hb, i64_bd wx1, hu3, hc0, hc1, hc2, hc3, hc4, hc5⟩)
  exact ⟨l, hlen, hl, hm, fun k hk => hP k hk⟩
end Go.Proofs.Ytgodinapdahocaa.ClsArg
