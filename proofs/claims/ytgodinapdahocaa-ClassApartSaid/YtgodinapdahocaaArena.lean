/-
  The arena: what its two blocks hold, and the walk of 'there'.
-/
import Derived.Test.YtgodinapdahocaaRows
import Derived.Test.YtgodinapdahocaaBase
namespace Go.Proofs.Ytgodinapdahocaa.Arena
open Go.RowKit Base
set_option linter.unusedVariables false

/-- Block g is an arena of pages of 'page' bytes, whose bytes l lie in block h. -/
structure At (w : World) (g h page : Nat) (l : List UInt8) : Prop where
  head : w.heap[g]? = some (.cells #[.int .i64 (page : Int), .slice (some ⟨h, 0, none⟩) l.length l.length] 132 (0, 0))
  bytes : BB w 5 h l
  pos : 0 < page
  small : l.length ≤ 1073741824
  psmall : page ≤ 1073741824
theorem At.ne {w : World} {g h page : Nat} {l : List UInt8} (a : At w g h page l) : g ≠ h := by
  rintro rfl
  have h1 := a.head
  have h2 := a.bytes
  unfold BB at h2
  rw [h1] at h2
  injection h2 with h2
  injection h2 with _ h3
  exact absurd h3 (by decide)
theorem At.cell0 {w : World} {g h page : Nat} {l : List UInt8} (a : At w g h page l) : w.cell? ⟨g, 0, none⟩ = some (.int .i64 (page : Int)) := by
  rw [cell_of_row w g 0 _ 132 (0, 0) a.head]; rfl
theorem At.cell1 {w : World} {g h page : Nat} {l : List UInt8} (a : At w g h page l) : w.cell? ⟨g, 1, none⟩ = some (.slice (some ⟨h, 0, none⟩) l.length l.length) := by
  rw [cell_of_row w g 1 _ 132 (0, 0) a.head]; rfl
theorem At.keep {w w' : World} {g h page : Nat} {l : List UInt8} (a : At w g h page l) (hg : w'.heap[g]? = w.heap[g]?) (hh : w'.heap[h]? = w.heap[h]?) : At w' g h page l :=
  ⟨hg.trans a.head, hh.trans a.bytes, a.pos, a.small, a.psmall⟩
theorem At.only {w w' : World} {S : Nat → Prop} {g h page : Nat} {l : List UInt8} (a : At w g h page l) (o : Only S w w') (hg : ¬ S g) (hh : ¬ S h) : At w' g h page l :=
  a.keep (o.block g (heap_lt a.head) hg) (o.block h a.bytes.lt hh)
/-- New bytes in the bytes' block. -/
theorem At.turn {w w' : World} {g h page : Nat} {l l' : List UInt8} (a : At w g h page l) (o : Only (· = h) w w') (hb : BB w' 5 h l') (hl : l'.length = l.length) : At w' g h page l' :=
  ⟨by rw [hl]; exact o.at_ a.head a.ne, hb, a.pos, by rw [hl]; exact a.small, a.psmall⟩

/-- The n bytes from a place on are there. -/
def There (page len : Nat) (at_ n : Int) : Prop := 0 ≤ at_ ∧ 0 ≤ n ∧ at_ + n ≤ len ∧ (n = 0 ∨ at_ % page + n ≤ page)
instance (page len : Nat) (at_ n : Int) : Decidable (There page len at_ n) := by unfold There; infer_instance
def there (page len : Nat) (at_ n : Int) : Bool := decide (There page len at_ n)

def inI64 (n : Int) : Prop := -9223372036854775808 ≤ n ∧ n < 9223372036854775808
end Go.Proofs.Ytgodinapdahocaa.Arena
