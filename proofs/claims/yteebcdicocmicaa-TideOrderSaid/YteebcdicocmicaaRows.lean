/-
  No cell of these rows narrows 'for every input' (looked for: loops, veiled, ifaces, maps, wideKeys, modest, calm, conditions, laid).
  DERIVED. THE GIVEN ROWS OF THIS SEAT. 7 by the template 'for every input the law returns true; each argument reads behind the call as it read before'; 0 by the template 'total and deterministic' (their statements: YteebcdicocmicaaTotals.lean).
  GIVEN WITH THE SEED: the statements are not yours to turn. If you find one false, say at which input.
  Laid BY PROGRAM, IN A SANDBOX (cutbox-rows.mjs): the forced cells as the released guide's own fill.sh prints them over the translation 1602318c6f961d76… (all of the seat's roots in one cut). By AI agents, Wed Nov 11 2026. No macro, syntax, notation, axiom, sorry.
-/
import Derived.Test.YteebcdicocmicaaChecked
import GoSem.Claim
import GoSem.ClaimJoined
import GoSem.ClaimMapViews
import Derived.JoinedTies
import Derived.KernelRfl
namespace Go.Proofs.Yteebcdicocmicaa
/- THE CELL 'sum', in the pinned program and in every row, IS THE sha256 OF THE DUMP (.gsa) THAT YteebcdicocmicaaProg.lean LOADS. Nothing in Lean hashes anything: it is a label: what it is worth is what the hold of that sum in a sandbox is worth. -/
noncomputable def Try.pinned : Pinned := { name := "yteebcdicocmicaa", sum := "1602318c6f961d7613a070c6c47272c3e4d4b8419f055c3c4c6ffac25d385a77", checked := Try.checked }
namespace Rows
def none {H : Type} : Left H := { results := [], args := [] }

/-- 'granarylaw07.TideTimes': WHATEVER THE INPUT: true; the input reads as it did. -/
def tideTimesSpec : ChangeSpec := { name := "tideTimes", fn := fun _ => fun
  | [d] => { results := [.lit (.bool true)], args := [d] }
  | _ => none }
def tideTimesRow : OpenClaim := { program := "yteebcdicocmicaa", sum := "1602318c6f961d7613a070c6c47272c3e4d4b8419f055c3c4c6ffac25d385a77", func := "granary/granarylaw07.TideTimes", spec := "tideTimes", unfollowed := true, recurses := true, apart := false }
def TideTimesSaid : Prop := tideTimesRow.holds Try.pinned (OpenSpec.ofChange tideTimesSpec)

/-- ITS FALSE NEIGHBOUR: 'it returns false'. Refute it at one input. -/
def tideTimesWrong : ChangeSpec := { name := "tideTimes", fn := fun _ => fun
  | [d] => { results := [.lit (.bool false)], args := [d] }
  | _ => none }
def TideTimesWrongFalsely : Prop := tideTimesRow.holds Try.pinned (OpenSpec.ofChange tideTimesWrong)

/-- 'granarylaw07.TideNames': WHATEVER THE INPUT: true; the input reads as it did. -/
def tideNamesSpec : ChangeSpec := { name := "tideNames", fn := fun _ => fun
  | [] => { results := [.lit (.bool true)], args := [] }
  | _ => none }
def tideNamesRow : OpenClaim := { program := "yteebcdicocmicaa", sum := "1602318c6f961d7613a070c6c47272c3e4d4b8419f055c3c4c6ffac25d385a77", func := "granary/granarylaw07.TideNames", spec := "tideNames", unfollowed := true, recurses := true, apart := false }
def TideNamesSaid : Prop := tideNamesRow.holds Try.pinned (OpenSpec.ofChange tideNamesSpec)

/-- ITS FALSE NEIGHBOUR: 'it returns false'. Refute it at one input. -/
def tideNamesWrong : ChangeSpec := { name := "tideNames", fn := fun _ => fun
  | [] => { results := [.lit (.bool false)], args := [] }
  | _ => none }
def TideNamesWrongFalsely : Prop := tideNamesRow.holds Try.pinned (OpenSpec.ofChange tideNamesWrong)

/-- 'granarylaw07.TideFlush': WHATEVER THE INPUT: true; the input reads as it did. -/
def tideFlushSpec : ChangeSpec := { name := "tideFlush", fn := fun _ => fun
  | [d] => { results := [.lit (.bool true)], args := [d] }
  | _ => none }
def tideFlushRow : OpenClaim := { program := "yteebcdicocmicaa", sum := "1602318c6f961d7613a070c6c47272c3e4d4b8419f055c3c4c6ffac25d385a77", func := "granary/granarylaw07.TideFlush", spec := "tideFlush", unfollowed := true, recurses := true, apart := false }
def TideFlushSaid : Prop := tideFlushRow.holds Try.pinned (OpenSpec.ofChange tideFlushSpec)

/-- ITS FALSE NEIGHBOUR: 'it returns false'. Refute it at one input. -/
def tideFlushWrong : ChangeSpec := { name := "tideFlush", fn := fun _ => fun
  | [d] => { results := [.lit (.bool false)], args := [d] }
  | _ => none }
def TideFlushWrongFalsely : Prop := tideFlushRow.holds Try.pinned (OpenSpec.ofChange tideFlushWrong)

/-- 'granarylaw07.TideClock': WHATEVER THE INPUT: true; the input reads as it did. -/
def tideClockSpec : ChangeSpec := { name := "tideClock", fn := fun _ => fun
  | [d] => { results := [.lit (.bool true)], args := [d] }
  | _ => none }
def tideClockRow : OpenClaim := { program := "yteebcdicocmicaa", sum := "1602318c6f961d7613a070c6c47272c3e4d4b8419f055c3c4c6ffac25d385a77", func := "granary/granarylaw07.TideClock", spec := "tideClock", unfollowed := true, recurses := true, apart := false }
def TideClockSaid : Prop := tideClockRow.holds Try.pinned (OpenSpec.ofChange tideClockSpec)

/-- ITS FALSE NEIGHBOUR: 'it returns false'. Refute it at one input. -/
def tideClockWrong : ChangeSpec := { name := "tideClock", fn := fun _ => fun
  | [d] => { results := [.lit (.bool false)], args := [d] }
  | _ => none }
def TideClockWrongFalsely : Prop := tideClockRow.holds Try.pinned (OpenSpec.ofChange tideClockWrong)

/-- 'granarylaw07.TideOrder': WHATEVER THE INPUT: true; the input reads as it did. -/
def tideOrderSpec : ChangeSpec := { name := "tideOrder", fn := fun _ => fun
  | [d] => { results := [.lit (.bool true)], args := [d] }
  | _ => none }
def tideOrderRow : OpenClaim := { program := "yteebcdicocmicaa", sum := "1602318c6f961d7613a070c6c47272c3e4d4b8419f055c3c4c6ffac25d385a77", func := "granary/granarylaw07.TideOrder", spec := "tideOrder", unfollowed := true, recurses := true, apart := false }
def TideOrderSaid : Prop := tideOrderRow.holds Try.pinned (OpenSpec.ofChange tideOrderSpec)

/-- ITS FALSE NEIGHBOUR: 'it returns false'. Refute it at one input. -/
def tideOrderWrong : ChangeSpec := { name := "tideOrder", fn := fun _ => fun
  | [d] => { results := [.lit (.bool false)], args := [d] }
  | _ => none }
def TideOrderWrongFalsely : Prop := tideOrderRow.holds Try.pinned (OpenSpec.ofChange tideOrderWrong)

/-- 'granarylaw07.TideWheel': WHATEVER THE INPUT: true; the input reads as it did. -/
def tideWheelSpec : ChangeSpec := { name := "tideWheel", fn := fun _ => fun
  | [d] => { results := [.lit (.bool true)], args := [d] }
  | _ => none }
def tideWheelRow : OpenClaim := { program := "yteebcdicocmicaa", sum := "1602318c6f961d7613a070c6c47272c3e4d4b8419f055c3c4c6ffac25d385a77", func := "granary/granarylaw07.TideWheel", spec := "tideWheel", unfollowed := true, recurses := true, apart := false }
def TideWheelSaid : Prop := tideWheelRow.holds Try.pinned (OpenSpec.ofChange tideWheelSpec)

/-- ITS FALSE NEIGHBOUR: 'it returns false'. Refute it at one input. -/
def tideWheelWrong : ChangeSpec := { name := "tideWheel", fn := fun _ => fun
  | [d] => { results := [.lit (.bool false)], args := [d] }
  | _ => none }
def TideWheelWrongFalsely : Prop := tideWheelRow.holds Try.pinned (OpenSpec.ofChange tideWheelWrong)

/-- 'granarylaw07.TideHands': WHATEVER THE INPUT: true; the input reads as it did. -/
def tideHandsSpec : ChangeSpec := { name := "tideHands", fn := fun _ => fun
  | [d] => { results := [.lit (.bool true)], args := [d] }
  | _ => none }
def tideHandsRow : OpenClaim := { program := "yteebcdicocmicaa", sum := "1602318c6f961d7613a070c6c47272c3e4d4b8419f055c3c4c6ffac25d385a77", func := "granary/granarylaw07.TideHands", spec := "tideHands", unfollowed := true, recurses := true, apart := false }
def TideHandsSaid : Prop := tideHandsRow.holds Try.pinned (OpenSpec.ofChange tideHandsSpec)

/-- ITS FALSE NEIGHBOUR: 'it returns false'. Refute it at one input. -/
def tideHandsWrong : ChangeSpec := { name := "tideHands", fn := fun _ => fun
  | [d] => { results := [.lit (.bool false)], args := [d] }
  | _ => none }
def TideHandsWrongFalsely : Prop := tideHandsRow.holds Try.pinned (OpenSpec.ofChange tideHandsWrong)

/- THE SECOND FORM. 'bulk': how many values and letters a reading holds, each counted each time it is reached (what is shared counts as often as it is met; a slice's spare places count too). A statement '..UptoSaid' is the law's where the arguments, and the package variables that the reading takes, are together of bulk at most 1048576: NARROWER than '..Said'. Prove '..Said' where nothing that the law and all that it calls make is longer than what came in: it says more and counts as full. Else prove '..UptoSaid'. A law counts once. -/
mutual
def uptoBulk {H : Type} : DataW H → Nat
  | .lit (.string bytes) => bytes.length + 1
  | .lit _ => 1
  | .nil => 1
  | .ptr d => uptoBulk d + 1
  | .slice elems spare => uptoBulkAll elems + uptoBulkAll spare + 1
  | .agg parts => uptoBulkAll parts + 1
  | .iface _ d => uptoBulk d + 1
  | .map entries => uptoBulkEntries entries + 1
  | .held _ => 1
def uptoBulkAll {H : Type} : List (DataW H) → Nat
  | [] => 0
  | d :: r => uptoBulk d + uptoBulkAll r
def uptoBulkEntries {H : Type} : List (Lit × DataW H) → Nat
  | [] => 0
  | x :: r => uptoBulkEntry x + uptoBulkEntries r
def uptoBulkEntry {H : Type} : Lit × DataW H → Nat
  | (.string bytes, d) => bytes.length + uptoBulk d + 1
  | (_, d) => uptoBulk d + 1
 end
def uptoSmall : (H : Type) → List (DataW H) → Bool := fun _ ds => decide (uptoBulkAll ds ≤ 1048576)
def OpenSpec.upto (s : _root_.Go.ChangeSpec) : _root_.Go.OpenSpec := { _root_.Go.OpenSpec.ofChange s with cond := some uptoSmall }

/-- 'granarylaw07.TideTimes', WHERE WHAT IT READS IS OF BULK AT MOST 1048576: true; the input reads as it did. -/
def tideTimesUptoRow : OpenClaim := { program := "yteebcdicocmicaa", sum := "1602318c6f961d7613a070c6c47272c3e4d4b8419f055c3c4c6ffac25d385a77", func := "granary/granarylaw07.TideTimes", spec := "tideTimes", unfollowed := true, recurses := true, apart := false, narrowed := true }
def TideTimesUptoSaid : Prop := tideTimesUptoRow.holds Try.pinned (OpenSpec.upto tideTimesSpec)

/-- 'granarylaw07.TideNames', WHERE WHAT IT READS IS OF BULK AT MOST 1048576: true; the input reads as it did. -/
def tideNamesUptoRow : OpenClaim := { program := "yteebcdicocmicaa", sum := "1602318c6f961d7613a070c6c47272c3e4d4b8419f055c3c4c6ffac25d385a77", func := "granary/granarylaw07.TideNames", spec := "tideNames", unfollowed := true, recurses := true, apart := false, narrowed := true }
def TideNamesUptoSaid : Prop := tideNamesUptoRow.holds Try.pinned (OpenSpec.upto tideNamesSpec)

/-- 'granarylaw07.TideFlush', WHERE WHAT IT READS IS OF BULK AT MOST 1048576: true; the input reads as it did. -/
def tideFlushUptoRow : OpenClaim := { program := "yteebcdicocmicaa", sum := "1602318c6f961d7613a070c6c47272c3e4d4b8419f055c3c4c6ffac25d385a77", func := "granary/granarylaw07.TideFlush", spec := "tideFlush", unfollowed := true, recurses := true, apart := false, narrowed := true }
def TideFlushUptoSaid : Prop := tideFlushUptoRow.holds Try.pinned (OpenSpec.upto tideFlushSpec)

/-- 'granarylaw07.TideClock', WHERE WHAT IT READS IS OF BULK AT MOST 1048576: true; the input reads as it did. -/
def tideClockUptoRow : OpenClaim := { program := "yteebcdicocmicaa", sum := "1602318c6f961d7613a070c6c47272c3e4d4b8419f055c3c4c6ffac25d385a77", func := "granary/granarylaw07.TideClock", spec := "tideClock", unfollowed := true, recurses := true, apart := false, narrowed := true }
def TideClockUptoSaid : Prop := tideClockUptoRow.holds Try.pinned (OpenSpec.upto tideClockSpec)

/-- 'granarylaw07.TideOrder', WHERE WHAT IT READS IS OF BULK AT MOST 1048576: true; the input reads as it did. -/
def tideOrderUptoRow : OpenClaim := { program := "yteebcdicocmicaa", sum := "1602318c6f961d7613a070c6c47272c3e4d4b8419f055c3c4c6ffac25d385a77", func := "granary/granarylaw07.TideOrder", spec := "tideOrder", unfollowed := true, recurses := true, apart := false, narrowed := true }
def TideOrderUptoSaid : Prop := tideOrderUptoRow.holds Try.pinned (OpenSpec.upto tideOrderSpec)

/-- 'granarylaw07.TideWheel', WHERE WHAT IT READS IS OF BULK AT MOST 1048576: true; the input reads as it did. -/
def tideWheelUptoRow : OpenClaim := { program := "yteebcdicocmicaa", sum := "1602318c6f961d7613a070c6c47272c3e4d4b8419f055c3c4c6ffac25d385a77", func := "granary/granarylaw07.TideWheel", spec := "tideWheel", unfollowed := true, recurses := true, apart := false, narrowed := true }
def TideWheelUptoSaid : Prop := tideWheelUptoRow.holds Try.pinned (OpenSpec.upto tideWheelSpec)

/-- 'granarylaw07.TideHands', WHERE WHAT IT READS IS OF BULK AT MOST 1048576: true; the input reads as it did. -/
def tideHandsUptoRow : OpenClaim := { program := "yteebcdicocmicaa", sum := "1602318c6f961d7613a070c6c47272c3e4d4b8419f055c3c4c6ffac25d385a77", func := "granary/granarylaw07.TideHands", spec := "tideHands", unfollowed := true, recurses := true, apart := false, narrowed := true }
def TideHandsUptoSaid : Prop := tideHandsUptoRow.holds Try.pinned (OpenSpec.upto tideHandsSpec)

end Rows
end Go.Proofs.Yteebcdicocmicaa
