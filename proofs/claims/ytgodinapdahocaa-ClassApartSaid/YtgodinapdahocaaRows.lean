/-
  No cell of these rows narrows 'for every input' (looked for: loops, veiled, ifaces, maps, wideKeys, modest, calm, conditions, laid).
  DERIVED. THE GIVEN ROWS OF THIS SEAT. 8 by the template 'for every input the law returns true; each argument reads behind the call as it read before'; 0 by the template 'total and deterministic' (their statements: YtgodinapdahocaaTotals.lean).
  GIVEN WITH THE SEED: the statements are not yours to turn. If you find one false, say at which input.
  Laid BY PROGRAM, IN A SANDBOX (cutbox-rows.mjs): the forced cells as the released guide's own fill.sh prints them over the translation e3a0d59993923c6f… (all of the seat's roots in one cut). By AI agents, Wed Nov 11 2026. No macro, syntax, notation, axiom, sorry.
-/
import Derived.Test.YtgodinapdahocaaChecked
import GoSem.Claim
import GoSem.ClaimJoined
import GoSem.ClaimMapViews
import Derived.JoinedTies
import Derived.KernelRfl
namespace Go.Proofs.Ytgodinapdahocaa
/- THE CELL 'sum', in the pinned program and in every row, IS THE sha256 OF THE DUMP (.gsa) THAT YtgodinapdahocaaProg.lean LOADS. Nothing in Lean hashes anything: it is a label: what it is worth is what the hold of that sum in a sandbox is worth. -/
noncomputable def Try.pinned : Pinned := { name := "ytgodinapdahocaa", sum := "e3a0d59993923c6fd8548586a0f2dfee9f6d40dfb74dd1814de744e9ae8b2866", checked := Try.checked }
namespace Rows
def none {H : Type} : Left H := { results := [], args := [] }

/-- 'granarylaw02.ClassNames': WHATEVER THE INPUT: true; the input reads as it did. -/
def classNamesSpec : ChangeSpec := { name := "classNames", fn := fun _ => fun
  | [] => { results := [.lit (.bool true)], args := [] }
  | _ => none }
def classNamesRow : OpenClaim := { program := "ytgodinapdahocaa", sum := "e3a0d59993923c6fd8548586a0f2dfee9f6d40dfb74dd1814de744e9ae8b2866", func := "granary/granarylaw02.ClassNames", spec := "classNames", apart := false }
def ClassNamesSaid : Prop := classNamesRow.holds Try.pinned (OpenSpec.ofChange classNamesSpec)

/-- ITS FALSE NEIGHBOUR: 'it returns false'. Refute it at one input. -/
def classNamesWrong : ChangeSpec := { name := "classNames", fn := fun _ => fun
  | [] => { results := [.lit (.bool false)], args := [] }
  | _ => none }
def ClassNamesWrongFalsely : Prop := classNamesRow.holds Try.pinned (OpenSpec.ofChange classNamesWrong)

/-- 'granarylaw02.ClassNews': WHATEVER THE INPUT: true; the input reads as it did. -/
def classNewsSpec : ChangeSpec := { name := "classNews", fn := fun _ => fun
  | [d] => { results := [.lit (.bool true)], args := [d] }
  | _ => none }
def classNewsRow : OpenClaim := { program := "ytgodinapdahocaa", sum := "e3a0d59993923c6fd8548586a0f2dfee9f6d40dfb74dd1814de744e9ae8b2866", func := "granary/granarylaw02.ClassNews", spec := "classNews", apart := false }
def ClassNewsSaid : Prop := classNewsRow.holds Try.pinned (OpenSpec.ofChange classNewsSpec)

/-- ITS FALSE NEIGHBOUR: 'it returns false'. Refute it at one input. -/
def classNewsWrong : ChangeSpec := { name := "classNews", fn := fun _ => fun
  | [d] => { results := [.lit (.bool false)], args := [d] }
  | _ => none }
def ClassNewsWrongFalsely : Prop := classNewsRow.holds Try.pinned (OpenSpec.ofChange classNewsWrong)

/-- 'granarylaw02.ClassSizes': WHATEVER THE INPUT: true; the input reads as it did. -/
def classSizesSpec : ChangeSpec := { name := "classSizes", fn := fun _ => fun
  | [d1, d2] => { results := [.lit (.bool true)], args := [d1, d2] }
  | _ => none }
def classSizesRow : OpenClaim := { program := "ytgodinapdahocaa", sum := "e3a0d59993923c6fd8548586a0f2dfee9f6d40dfb74dd1814de744e9ae8b2866", func := "granary/granarylaw02.ClassSizes", spec := "classSizes", apart := false }
def ClassSizesSaid : Prop := classSizesRow.holds Try.pinned (OpenSpec.ofChange classSizesSpec)

/-- ITS FALSE NEIGHBOUR: 'it returns false'. Refute it at one input. -/
def classSizesWrong : ChangeSpec := { name := "classSizes", fn := fun _ => fun
  | [d1, d2] => { results := [.lit (.bool false)], args := [d1, d2] }
  | _ => none }
def ClassSizesWrongFalsely : Prop := classSizesRow.holds Try.pinned (OpenSpec.ofChange classSizesWrong)

/-- 'granarylaw02.ClassFills': WHATEVER THE INPUT: true; the input reads as it did. -/
def classFillsSpec : ChangeSpec := { name := "classFills", fn := fun _ => fun
  | [d1, d2, d3] => { results := [.lit (.bool true)], args := [d1, d2, d3] }
  | _ => none }
def classFillsRow : OpenClaim := { program := "ytgodinapdahocaa", sum := "e3a0d59993923c6fd8548586a0f2dfee9f6d40dfb74dd1814de744e9ae8b2866", func := "granary/granarylaw02.ClassFills", spec := "classFills", apart := false }
def ClassFillsSaid : Prop := classFillsRow.holds Try.pinned (OpenSpec.ofChange classFillsSpec)

/-- ITS FALSE NEIGHBOUR: 'it returns false'. Refute it at one input. -/
def classFillsWrong : ChangeSpec := { name := "classFills", fn := fun _ => fun
  | [d1, d2, d3] => { results := [.lit (.bool false)], args := [d1, d2, d3] }
  | _ => none }
def ClassFillsWrongFalsely : Prop := classFillsRow.holds Try.pinned (OpenSpec.ofChange classFillsWrong)

/-- 'granarylaw02.ClassAges': WHATEVER THE INPUT: true; the input reads as it did. -/
def classAgesSpec : ChangeSpec := { name := "classAges", fn := fun _ => fun
  | [] => { results := [.lit (.bool true)], args := [] }
  | _ => none }
def classAgesRow : OpenClaim := { program := "ytgodinapdahocaa", sum := "e3a0d59993923c6fd8548586a0f2dfee9f6d40dfb74dd1814de744e9ae8b2866", func := "granary/granarylaw02.ClassAges", spec := "classAges", apart := false }
def ClassAgesSaid : Prop := classAgesRow.holds Try.pinned (OpenSpec.ofChange classAgesSpec)

/-- ITS FALSE NEIGHBOUR: 'it returns false'. Refute it at one input. -/
def classAgesWrong : ChangeSpec := { name := "classAges", fn := fun _ => fun
  | [] => { results := [.lit (.bool false)], args := [] }
  | _ => none }
def ClassAgesWrongFalsely : Prop := classAgesRow.holds Try.pinned (OpenSpec.ofChange classAgesWrong)

/-- 'granarylaw02.ClassApart': WHATEVER THE INPUT: true; the input reads as it did. -/
def classApartSpec : ChangeSpec := { name := "classApart", fn := fun _ => fun
  | [d1, d2, d3] => { results := [.lit (.bool true)], args := [d1, d2, d3] }
  | _ => none }
def classApartRow : OpenClaim := { program := "ytgodinapdahocaa", sum := "e3a0d59993923c6fd8548586a0f2dfee9f6d40dfb74dd1814de744e9ae8b2866", func := "granary/granarylaw02.ClassApart", spec := "classApart", apart := false }
def ClassApartSaid : Prop := classApartRow.holds Try.pinned (OpenSpec.ofChange classApartSpec)

/-- ITS FALSE NEIGHBOUR: 'it returns false'. Refute it at one input. -/
def classApartWrong : ChangeSpec := { name := "classApart", fn := fun _ => fun
  | [d1, d2, d3] => { results := [.lit (.bool false)], args := [d1, d2, d3] }
  | _ => none }
def ClassApartWrongFalsely : Prop := classApartRow.holds Try.pinned (OpenSpec.ofChange classApartWrong)

/-- 'granarylaw02.ClassOnce': WHATEVER THE INPUT: true; the input reads as it did. -/
def classOnceSpec : ChangeSpec := { name := "classOnce", fn := fun _ => fun
  | [d1, d2] => { results := [.lit (.bool true)], args := [d1, d2] }
  | _ => none }
def classOnceRow : OpenClaim := { program := "ytgodinapdahocaa", sum := "e3a0d59993923c6fd8548586a0f2dfee9f6d40dfb74dd1814de744e9ae8b2866", func := "granary/granarylaw02.ClassOnce", spec := "classOnce", apart := false }
def ClassOnceSaid : Prop := classOnceRow.holds Try.pinned (OpenSpec.ofChange classOnceSpec)

/-- ITS FALSE NEIGHBOUR: 'it returns false'. Refute it at one input. -/
def classOnceWrong : ChangeSpec := { name := "classOnce", fn := fun _ => fun
  | [d1, d2] => { results := [.lit (.bool false)], args := [d1, d2] }
  | _ => none }
def ClassOnceWrongFalsely : Prop := classOnceRow.holds Try.pinned (OpenSpec.ofChange classOnceWrong)

/-- 'granarylaw02.ClassExact': WHATEVER THE INPUT: true; the input reads as it did. -/
def classExactSpec : ChangeSpec := { name := "classExact", fn := fun _ => fun
  | [d1, d2] => { results := [.lit (.bool true)], args := [d1, d2] }
  | _ => none }
def classExactRow : OpenClaim := { program := "ytgodinapdahocaa", sum := "e3a0d59993923c6fd8548586a0f2dfee9f6d40dfb74dd1814de744e9ae8b2866", func := "granary/granarylaw02.ClassExact", spec := "classExact", apart := false }
def ClassExactSaid : Prop := classExactRow.holds Try.pinned (OpenSpec.ofChange classExactSpec)

/-- ITS FALSE NEIGHBOUR: 'it returns false'. Refute it at one input. -/
def classExactWrong : ChangeSpec := { name := "classExact", fn := fun _ => fun
  | [d1, d2] => { results := [.lit (.bool false)], args := [d1, d2] }
  | _ => none }
def ClassExactWrongFalsely : Prop := classExactRow.holds Try.pinned (OpenSpec.ofChange classExactWrong)

/- THE SECOND FORM. 'bulk': how many values and letters a reading holds, each counted each time it is reached (what is shared counts as often as it is met; a slice's spare places count too). A statement '..UptoSaid' is the law's where the arguments, and the package variables that the reading takes, are together of bulk at most 1048576: NARROWER than '..Said'. Prove '..Said' where nothing that the law and all that it calls make is longer than what came in: it says more and counts as full. Else prove '..UptoSaid'. A law counts once. -/
mutual
def uptoBulk {H : Type} : DataW H → Nat
  | .lit (.string bytes) => bytes.length + 1
  | .lit _ => 1
  | .nil => 1
  | .ptr d => uptoBulk d + 1
  | .slice elems spare => uptoBulkAll elems + uptoBulkAll spare + 1
  | .agg parts => uptoBulkAll parts + 1
  | .iface _ d => uptoBulk d + 1
  | .map entries => uptoBulkEntries entries + 1
  | .held _ => 1
def uptoBulkAll {H : Type} : List (DataW H) → Nat
  | [] => 0
  | d :: r => uptoBulk d + uptoBulkAll r
def uptoBulkEntries {H : Type} : List (Lit × DataW H) → Nat
  | [] => 0
  | x :: r => uptoBulkEntry x + uptoBulkEntries r
def uptoBulkEntry {H : Type} : Lit × DataW H → Nat
  | (.string bytes, d) => bytes.length + uptoBulk d + 1
  | (_, d) => uptoBulk d + 1
 end
def uptoSmall : (H : Type) → List (DataW H) → Bool := fun _ ds => decide (uptoBulkAll ds ≤ 1048576)
def OpenSpec.upto (s : _root_.Go.ChangeSpec) : _root_.Go.OpenSpec := { _root_.Go.OpenSpec.ofChange s with cond := some uptoSmall }

/-- 'granarylaw02.ClassNames', WHERE WHAT IT READS IS OF BULK AT MOST 1048576: true; the input reads as it did. -/
def classNamesUptoRow : OpenClaim := { program := "ytgodinapdahocaa", sum := "e3a0d59993923c6fd8548586a0f2dfee9f6d40dfb74dd1814de744e9ae8b2866", func := "granary/granarylaw02.ClassNames", spec := "classNames", apart := false, narrowed := true }
def ClassNamesUptoSaid : Prop := classNamesUptoRow.holds Try.pinned (OpenSpec.upto classNamesSpec)

/-- 'granarylaw02.ClassNews', WHERE WHAT IT READS IS OF BULK AT MOST 1048576: true; the input reads as it did. -/
def classNewsUptoRow : OpenClaim := { program := "ytgodinapdahocaa", sum := "e3a0d59993923c6fd8548586a0f2dfee9f6d40dfb74dd1814de744e9ae8b2866", func := "granary/granarylaw02.ClassNews", spec := "classNews", apart := false, narrowed := true }
def ClassNewsUptoSaid : Prop := classNewsUptoRow.holds Try.pinned (OpenSpec.upto classNewsSpec)

/-- 'granarylaw02.ClassSizes', WHERE WHAT IT READS IS OF BULK AT MOST 1048576: true; the input reads as it did. -/
def classSizesUptoRow : OpenClaim := { program := "ytgodinapdahocaa", sum := "e3a0d59993923c6fd8548586a0f2dfee9f6d40dfb74dd1814de744e9ae8b2866", func := "granary/granarylaw02.ClassSizes", spec := "classSizes", apart := false, narrowed := true }
def ClassSizesUptoSaid : Prop := classSizesUptoRow.holds Try.pinned (OpenSpec.upto classSizesSpec)

/-- 'granarylaw02.ClassFills', WHERE WHAT IT READS IS OF BULK AT MOST 1048576: true; the input reads as it did. -/
def classFillsUptoRow : OpenClaim := { program := "ytgodinapdahocaa", sum := "e3a0d59993923c6fd8548586a0f2dfee9f6d40dfb74dd1814de744e9ae8b2866", func := "granary/granarylaw02.ClassFills", spec := "classFills", apart := false, narrowed := true }
def ClassFillsUptoSaid : Prop := classFillsUptoRow.holds Try.pinned (OpenSpec.upto classFillsSpec)

/-- 'granarylaw02.ClassAges', WHERE WHAT IT READS IS OF BULK AT MOST 1048576: true; the input reads as it did. -/
def classAgesUptoRow : OpenClaim := { program := "ytgodinapdahocaa", sum := "e3a0d59993923c6fd8548586a0f2dfee9f6d40dfb74dd1814de744e9ae8b2866", func := "granary/granarylaw02.ClassAges", spec := "classAges", apart := false, narrowed := true }
def ClassAgesUptoSaid : Prop := classAgesUptoRow.holds Try.pinned (OpenSpec.upto classAgesSpec)

/-- 'granarylaw02.ClassApart', WHERE WHAT IT READS IS OF BULK AT MOST 1048576: true; the input reads as it did. -/
def classApartUptoRow : OpenClaim := { program := "ytgodinapdahocaa", sum := "e3a0d59993923c6fd8548586a0f2dfee9f6d40dfb74dd1814de744e9ae8b2866", func := "granary/granarylaw02.ClassApart", spec := "classApart", apart := false, narrowed := true }
def ClassApartUptoSaid : Prop := classApartUptoRow.holds Try.pinned (OpenSpec.upto classApartSpec)

/-- 'granarylaw02.ClassOnce', WHERE WHAT IT READS IS OF BULK AT MOST 1048576: true; the input reads as it did. -/
def classOnceUptoRow : OpenClaim := { program := "ytgodinapdahocaa", sum := "e3a0d59993923c6fd8548586a0f2dfee9f6d40dfb74dd1814de744e9ae8b2866", func := "granary/granarylaw02.ClassOnce", spec := "classOnce", apart := false, narrowed := true }
def ClassOnceUptoSaid : Prop := classOnceUptoRow.holds Try.pinned (OpenSpec.upto classOnceSpec)

/-- 'granarylaw02.ClassExact', WHERE WHAT IT READS IS OF BULK AT MOST 1048576: true; the input reads as it did. -/
def classExactUptoRow : OpenClaim := { program := "ytgodinapdahocaa", sum := "e3a0d59993923c6fd8548586a0f2dfee9f6d40dfb74dd1814de744e9ae8b2866", func := "granary/granarylaw02.ClassExact", spec := "classExact", apart := false, narrowed := true }
def ClassExactUptoSaid : Prop := classExactUptoRow.holds Try.pinned (OpenSpec.upto classExactSpec)

end Rows
end Go.Proofs.Ytgodinapdahocaa
