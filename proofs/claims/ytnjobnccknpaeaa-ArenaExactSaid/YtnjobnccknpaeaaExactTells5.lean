/-
  The walk of pair.tells, one theorem for each kind of call.
-/
import Derived.Test.YtnjobnccknpaeaaExactTells2
import Derived.Test.YtnjobnccknpaeaaExactTells3
import Derived.Test.YtnjobnccknpaeaaExactTells4
import Derived.Test.YtnjobnccknpaeaaBookLend
namespace Go.Proofs.Ytnjobnccknpaeaa.Exact
open Go.RowKit Base Arena Held Book
set_option linter.unusedVariables false

theorem tellsC (w : World) {p N ga ha gr hr hh page : Nat} {l : List UInt8} {G : Nat → Prop} (P : Pair2 w p N ga ha gr hr hh page l l G) (o : Op) (ok : o.Ok w N) :
    Calls Try.prog 33 #[.pointer (some ⟨p, 0, none⟩), .agg o.cells] w fun e w' => e = .returned (.bool true) ∧ ∃ G', Pair2 w' p N ga ha gr hr hh page l l G' ∧ Only G w w' ∧ ∀ b, G' b → G b ∨ w.heap.size ≤ b := by
  by_cases h1 : o.d = 1
  · exact tellsGet w P o h1 ok
  by_cases h3 : o.d = 3
  · exact tellsRead w P o h3 ok
  by_cases h7 : o.d = 7
  · exact tellsSame w P o h7 ok
  by_cases h8 : o.d = 8
  · exact tellsPage w P o h8 ok
  exact tellsOther w P o ⟨h1, h3, h7, h8⟩
end Go.Proofs.Ytnjobnccknpaeaa.Exact
