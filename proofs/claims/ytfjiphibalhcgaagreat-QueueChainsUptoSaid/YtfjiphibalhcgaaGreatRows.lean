/-
  No cell of these rows narrows 'for every input' (looked for: loops, veiled, ifaces, maps, wideKeys, modest, calm, conditions, laid).
  DERIVED. THE GIVEN ROWS OF THIS SEAT. 7 by the template 'for every input the law returns true; each argument reads behind the call as it read before'; 0 by the template 'total and deterministic' (their statements: YtfjiphibalhcgaaGreatTotals.lean).
  GIVEN WITH THE SEED: the statements are not yours to turn. If you find one false, say at which input.
  Laid BY PROGRAM, IN A SANDBOX (cutbox-rows.mjs): the forced cells as the released guide's own fill.sh prints them over the translation 7704be0fa1af898c… (all of the seat's roots in one cut). By AI agents, Wed Nov 11 2026. No macro, syntax, notation, axiom, sorry.
-/
import Derived.Test.YtfjiphibalhcgaaGreatChecked
import GoSem.Claim
import GoSem.ClaimJoined
import GoSem.ClaimMapViews
import Derived.JoinedTies
import Derived.KernelRfl
namespace Go.Proofs.YtfjiphibalhcgaaGreat
/- THE CELL 'sum', in the pinned program and in every row, IS THE sha256 OF THE DUMP (.gsa) THAT YtfjiphibalhcgaaGreatProg.lean LOADS. Nothing in Lean hashes anything: it is a label: what it is worth is what the hold of that sum in a sandbox is worth. -/
noncomputable def Tryz.pinned : Pinned := { name := "ytfjiphibalhcgaagreat", sum := "7704be0fa1af898cee7ce2d74c5e2b8792832f254fd77da49c94d78b7d4035f5", checked := Tryz.checked }
namespace Rows
def none {H : Type} : Left H := { results := [], args := [] }

/-- 'granarylaw06.QueueExact': WHATEVER THE INPUT: true; the input reads as it did. -/
def queueExactSpec : ChangeSpec := { name := "queueExact", fn := fun _ => fun
  | [d] => { results := [.lit (.bool true)], args := [d] }
  | _ => none }
def queueExactRow : OpenClaim := { program := "ytfjiphibalhcgaagreat", sum := "7704be0fa1af898cee7ce2d74c5e2b8792832f254fd77da49c94d78b7d4035f5", func := "granary/granarylaw06.QueueExact", spec := "queueExact", unfollowed := true, recurses := true, apart := false }
def QueueExactSaid : Prop := queueExactRow.holds Tryz.pinned (OpenSpec.ofChange queueExactSpec)

/-- ITS FALSE NEIGHBOUR: 'it returns false'. Refute it at one input. -/
def queueExactWrong : ChangeSpec := { name := "queueExact", fn := fun _ => fun
  | [d] => { results := [.lit (.bool false)], args := [d] }
  | _ => none }
def QueueExactWrongFalsely : Prop := queueExactRow.holds Tryz.pinned (OpenSpec.ofChange queueExactWrong)

/-- 'granarylaw06.QueueRanges': WHATEVER THE INPUT: true; the input reads as it did. -/
def queueRangesSpec : ChangeSpec := { name := "queueRanges", fn := fun _ => fun
  | [d] => { results := [.lit (.bool true)], args := [d] }
  | _ => none }
def queueRangesRow : OpenClaim := { program := "ytfjiphibalhcgaagreat", sum := "7704be0fa1af898cee7ce2d74c5e2b8792832f254fd77da49c94d78b7d4035f5", func := "granary/granarylaw06.QueueRanges", spec := "queueRanges", unfollowed := true, recurses := true, apart := false }
def QueueRangesSaid : Prop := queueRangesRow.holds Tryz.pinned (OpenSpec.ofChange queueRangesSpec)

/-- ITS FALSE NEIGHBOUR: 'it returns false'. Refute it at one input. -/
def queueRangesWrong : ChangeSpec := { name := "queueRanges", fn := fun _ => fun
  | [d] => { results := [.lit (.bool false)], args := [d] }
  | _ => none }
def QueueRangesWrongFalsely : Prop := queueRangesRow.holds Tryz.pinned (OpenSpec.ofChange queueRangesWrong)

/-- 'granarylaw06.QueueNames': WHATEVER THE INPUT: true; the input reads as it did. -/
def queueNamesSpec : ChangeSpec := { name := "queueNames", fn := fun _ => fun
  | [] => { results := [.lit (.bool true)], args := [] }
  | _ => none }
def queueNamesRow : OpenClaim := { program := "ytfjiphibalhcgaagreat", sum := "7704be0fa1af898cee7ce2d74c5e2b8792832f254fd77da49c94d78b7d4035f5", func := "granary/granarylaw06.QueueNames", spec := "queueNames", unfollowed := true, recurses := true, apart := false }
def QueueNamesSaid : Prop := queueNamesRow.holds Tryz.pinned (OpenSpec.ofChange queueNamesSpec)

/-- ITS FALSE NEIGHBOUR: 'it returns false'. Refute it at one input. -/
def queueNamesWrong : ChangeSpec := { name := "queueNames", fn := fun _ => fun
  | [] => { results := [.lit (.bool false)], args := [] }
  | _ => none }
def QueueNamesWrongFalsely : Prop := queueNamesRow.holds Tryz.pinned (OpenSpec.ofChange queueNamesWrong)

/-- 'granarylaw06.QueueChains': WHATEVER THE INPUT: true; the input reads as it did. -/
def queueChainsSpec : ChangeSpec := { name := "queueChains", fn := fun _ => fun
  | [d] => { results := [.lit (.bool true)], args := [d] }
  | _ => none }
def queueChainsRow : OpenClaim := { program := "ytfjiphibalhcgaagreat", sum := "7704be0fa1af898cee7ce2d74c5e2b8792832f254fd77da49c94d78b7d4035f5", func := "granary/granarylaw06.QueueChains", spec := "queueChains", unfollowed := true, recurses := true, apart := false }
def QueueChainsSaid : Prop := queueChainsRow.holds Tryz.pinned (OpenSpec.ofChange queueChainsSpec)

/-- ITS FALSE NEIGHBOUR: 'it returns false'. Refute it at one input. -/
def queueChainsWrong : ChangeSpec := { name := "queueChains", fn := fun _ => fun
  | [d] => { results := [.lit (.bool false)], args := [d] }
  | _ => none }
def QueueChainsWrongFalsely : Prop := queueChainsRow.holds Tryz.pinned (OpenSpec.ofChange queueChainsWrong)

/-- 'granarylaw06.QueueRow': WHATEVER THE INPUT: true; the input reads as it did. -/
def queueRowSpec : ChangeSpec := { name := "queueRow", fn := fun _ => fun
  | [d] => { results := [.lit (.bool true)], args := [d] }
  | _ => none }
def queueRowRow : OpenClaim := { program := "ytfjiphibalhcgaagreat", sum := "7704be0fa1af898cee7ce2d74c5e2b8792832f254fd77da49c94d78b7d4035f5", func := "granary/granarylaw06.QueueRow", spec := "queueRow", unfollowed := true, recurses := true, apart := false }
def QueueRowSaid : Prop := queueRowRow.holds Tryz.pinned (OpenSpec.ofChange queueRowSpec)

/-- ITS FALSE NEIGHBOUR: 'it returns false'. Refute it at one input. -/
def queueRowWrong : ChangeSpec := { name := "queueRow", fn := fun _ => fun
  | [d] => { results := [.lit (.bool false)], args := [d] }
  | _ => none }
def QueueRowWrongFalsely : Prop := queueRowRow.holds Tryz.pinned (OpenSpec.ofChange queueRowWrong)

/-- 'granarylaw06.QueueApart': WHATEVER THE INPUT: true; the input reads as it did. -/
def queueApartSpec : ChangeSpec := { name := "queueApart", fn := fun _ => fun
  | [d1, d2] => { results := [.lit (.bool true)], args := [d1, d2] }
  | _ => none }
def queueApartRow : OpenClaim := { program := "ytfjiphibalhcgaagreat", sum := "7704be0fa1af898cee7ce2d74c5e2b8792832f254fd77da49c94d78b7d4035f5", func := "granary/granarylaw06.QueueApart", spec := "queueApart", unfollowed := true, recurses := true, apart := false }
def QueueApartSaid : Prop := queueApartRow.holds Tryz.pinned (OpenSpec.ofChange queueApartSpec)

/-- ITS FALSE NEIGHBOUR: 'it returns false'. Refute it at one input. -/
def queueApartWrong : ChangeSpec := { name := "queueApart", fn := fun _ => fun
  | [d1, d2] => { results := [.lit (.bool false)], args := [d1, d2] }
  | _ => none }
def QueueApartWrongFalsely : Prop := queueApartRow.holds Tryz.pinned (OpenSpec.ofChange queueApartWrong)

/-- 'granarylaw06.QueueBytes': WHATEVER THE INPUT: true; the input reads as it did. -/
def queueBytesSpec : ChangeSpec := { name := "queueBytes", fn := fun _ => fun
  | [d] => { results := [.lit (.bool true)], args := [d] }
  | _ => none }
def queueBytesRow : OpenClaim := { program := "ytfjiphibalhcgaagreat", sum := "7704be0fa1af898cee7ce2d74c5e2b8792832f254fd77da49c94d78b7d4035f5", func := "granary/granarylaw06.QueueBytes", spec := "queueBytes", unfollowed := true, recurses := true, apart := false }
def QueueBytesSaid : Prop := queueBytesRow.holds Tryz.pinned (OpenSpec.ofChange queueBytesSpec)

/-- ITS FALSE NEIGHBOUR: 'it returns false'. Refute it at one input. -/
def queueBytesWrong : ChangeSpec := { name := "queueBytes", fn := fun _ => fun
  | [d] => { results := [.lit (.bool false)], args := [d] }
  | _ => none }
def QueueBytesWrongFalsely : Prop := queueBytesRow.holds Tryz.pinned (OpenSpec.ofChange queueBytesWrong)

/- THE SECOND FORM. 'bulk': how many values and letters a reading holds, each counted each time it is reached (what is shared counts as often as it is met; a slice's spare places count too). A statement '..UptoSaid' is the law's where the arguments, and the package variables that the reading takes, are together of bulk at most 1048576: NARROWER than '..Said'. Prove '..Said' where nothing that the law and all that it calls make is longer than what came in: it says more and counts as full. Else prove '..UptoSaid'. A law counts once. -/
mutual
def uptoBulk {H : Type} : DataW H → Nat
  | .lit (.string bytes) => bytes.length + 1
  | .lit _ => 1
  | .nil => 1
  | .ptr d => uptoBulk d + 1
  | .slice elems spare => uptoBulkAll elems + uptoBulkAll spare + 1
  | .agg parts => uptoBulkAll parts + 1
  | .iface _ d => uptoBulk d + 1
  | .map entries => uptoBulkEntries entries + 1
  | .held _ => 1
def uptoBulkAll {H : Type} : List (DataW H) → Nat
  | [] => 0
  | d :: r => uptoBulk d + uptoBulkAll r
def uptoBulkEntries {H : Type} : List (Lit × DataW H) → Nat
  | [] => 0
  | x :: r => uptoBulkEntry x + uptoBulkEntries r
def uptoBulkEntry {H : Type} : Lit × DataW H → Nat
  | (.string bytes, d) => bytes.length + uptoBulk d + 1
  | (_, d) => uptoBulk d + 1
 end
def uptoSmall : (H : Type) → List (DataW H) → Bool := fun _ ds => decide (uptoBulkAll ds ≤ 1048576)
def OpenSpec.upto (s : _root_.Go.ChangeSpec) : _root_.Go.OpenSpec := { _root_.Go.OpenSpec.ofChange s with cond := some uptoSmall }

/-- 'granarylaw06.QueueExact', WHERE WHAT IT READS IS OF BULK AT MOST 1048576: true; the input reads as it did. -/
def queueExactUptoRow : OpenClaim := { program := "ytfjiphibalhcgaagreat", sum := "7704be0fa1af898cee7ce2d74c5e2b8792832f254fd77da49c94d78b7d4035f5", func := "granary/granarylaw06.QueueExact", spec := "queueExact", unfollowed := true, recurses := true, apart := false, narrowed := true }
def QueueExactUptoSaid : Prop := queueExactUptoRow.holds Tryz.pinned (OpenSpec.upto queueExactSpec)

/-- 'granarylaw06.QueueRanges', WHERE WHAT IT READS IS OF BULK AT MOST 1048576: true; the input reads as it did. -/
def queueRangesUptoRow : OpenClaim := { program := "ytfjiphibalhcgaagreat", sum := "7704be0fa1af898cee7ce2d74c5e2b8792832f254fd77da49c94d78b7d4035f5", func := "granary/granarylaw06.QueueRanges", spec := "queueRanges", unfollowed := true, recurses := true, apart := false, narrowed := true }
def QueueRangesUptoSaid : Prop := queueRangesUptoRow.holds Tryz.pinned (OpenSpec.upto queueRangesSpec)

/-- 'granarylaw06.QueueNames', WHERE WHAT IT READS IS OF BULK AT MOST 1048576: true; the input reads as it did. -/
def queueNamesUptoRow : OpenClaim := { program := "ytfjiphibalhcgaagreat", sum := "7704be0fa1af898cee7ce2d74c5e2b8792832f254fd77da49c94d78b7d4035f5", func := "granary/granarylaw06.QueueNames", spec := "queueNames", unfollowed := true, recurses := true, apart := false, narrowed := true }
def QueueNamesUptoSaid : Prop := queueNamesUptoRow.holds Tryz.pinned (OpenSpec.upto queueNamesSpec)

/-- 'granarylaw06.QueueChains', WHERE WHAT IT READS IS OF BULK AT MOST 1048576: true; the input reads as it did. -/
def queueChainsUptoRow : OpenClaim := { program := "ytfjiphibalhcgaagreat", sum := "7704be0fa1af898cee7ce2d74c5e2b8792832f254fd77da49c94d78b7d4035f5", func := "granary/granarylaw06.QueueChains", spec := "queueChains", unfollowed := true, recurses := true, apart := false, narrowed := true }
def QueueChainsUptoSaid : Prop := queueChainsUptoRow.holds Tryz.pinned (OpenSpec.upto queueChainsSpec)

/-- 'granarylaw06.QueueRow', WHERE WHAT IT READS IS OF BULK AT MOST 1048576: true; the input reads as it did. -/
def queueRowUptoRow : OpenClaim := { program := "ytfjiphibalhcgaagreat", sum := "7704be0fa1af898cee7ce2d74c5e2b8792832f254fd77da49c94d78b7d4035f5", func := "granary/granarylaw06.QueueRow", spec := "queueRow", unfollowed := true, recurses := true, apart := false, narrowed := true }
def QueueRowUptoSaid : Prop := queueRowUptoRow.holds Tryz.pinned (OpenSpec.upto queueRowSpec)

/-- 'granarylaw06.QueueApart', WHERE WHAT IT READS IS OF BULK AT MOST 1048576: true; the input reads as it did. -/
def queueApartUptoRow : OpenClaim := { program := "ytfjiphibalhcgaagreat", sum := "7704be0fa1af898cee7ce2d74c5e2b8792832f254fd77da49c94d78b7d4035f5", func := "granary/granarylaw06.QueueApart", spec := "queueApart", unfollowed := true, recurses := true, apart := false, narrowed := true }
def QueueApartUptoSaid : Prop := queueApartUptoRow.holds Tryz.pinned (OpenSpec.upto queueApartSpec)

/-- 'granarylaw06.QueueBytes', WHERE WHAT IT READS IS OF BULK AT MOST 1048576: true; the input reads as it did. -/
def queueBytesUptoRow : OpenClaim := { program := "ytfjiphibalhcgaagreat", sum := "7704be0fa1af898cee7ce2d74c5e2b8792832f254fd77da49c94d78b7d4035f5", func := "granary/granarylaw06.QueueBytes", spec := "queueBytes", unfollowed := true, recurses := true, apart := false, narrowed := true }
def QueueBytesUptoSaid : Prop := queueBytesUptoRow.holds Tryz.pinned (OpenSpec.upto queueBytesSpec)

end Rows
end Go.Proofs.YtfjiphibalhcgaaGreat
