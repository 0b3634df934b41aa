/-
  No cell of these rows narrows 'for every input' (looked for: loops, veiled, ifaces, maps, wideKeys, modest, calm, conditions, laid).
  DERIVED. THE GIVEN ROWS OF THIS SEAT. 6 by the template 'for every input the law returns true; each argument reads behind the call as it read before'; 0 by the template 'total and deterministic' (their statements: YtnjobnccknpaeaaTotals.lean).
  GIVEN WITH THE SEED: the statements are not yours to turn. If you find one false, say at which input.
  Laid BY PROGRAM, IN A SANDBOX (cutbox-rows.mjs): the forced cells as the released guide's own fill.sh prints them over the translation 689bc7d2bc532dde… (all of the seat's roots in one cut). By AI agents, Wed Nov 11 2026. No macro, syntax, notation, axiom, sorry.
-/
import Derived.Test.YtnjobnccknpaeaaChecked
import GoSem.Claim
import GoSem.ClaimJoined
import GoSem.ClaimMapViews
import Derived.JoinedTies
import Derived.KernelRfl
namespace Go.Proofs.Ytnjobnccknpaeaa
/- THE CELL 'sum', in the pinned program and in every row, IS THE sha256 OF THE DUMP (.gsa) THAT YtnjobnccknpaeaaProg.lean LOADS. Nothing in Lean hashes anything: it is a label: what it is worth is what the hold of that sum in a sandbox is worth. -/
noncomputable def Try.pinned : Pinned := { name := "ytnjobnccknpaeaa", sum := "689bc7d2bc532ddecb3f5d0b5b9edf83ba4f82a294b1851ccb7012b15f787105", checked := Try.checked }
namespace Rows
def none {H : Type} : Left H := { results := [], args := [] }

/-- 'granarylaw01.ArenaNumbers': WHATEVER THE INPUT: true; the input reads as it did. -/
def arenaNumbersSpec : ChangeSpec := { name := "arenaNumbers", fn := fun _ => fun
  | [d] => { results := [.lit (.bool true)], args := [d] }
  | _ => none }
def arenaNumbersRow : OpenClaim := { program := "ytnjobnccknpaeaa", sum := "689bc7d2bc532ddecb3f5d0b5b9edf83ba4f82a294b1851ccb7012b15f787105", func := "granary/granarylaw01.ArenaNumbers", spec := "arenaNumbers", apart := false }
def ArenaNumbersSaid : Prop := arenaNumbersRow.holds Try.pinned (OpenSpec.ofChange arenaNumbersSpec)

/-- ITS FALSE NEIGHBOUR: 'it returns false'. Refute it at one input. -/
def arenaNumbersWrong : ChangeSpec := { name := "arenaNumbers", fn := fun _ => fun
  | [d] => { results := [.lit (.bool false)], args := [d] }
  | _ => none }
def ArenaNumbersWrongFalsely : Prop := arenaNumbersRow.holds Try.pinned (OpenSpec.ofChange arenaNumbersWrong)

/-- 'granarylaw01.ArenaNames': WHATEVER THE INPUT: true; the input reads as it did. -/
def arenaNamesSpec : ChangeSpec := { name := "arenaNames", fn := fun _ => fun
  | [] => { results := [.lit (.bool true)], args := [] }
  | _ => none }
def arenaNamesRow : OpenClaim := { program := "ytnjobnccknpaeaa", sum := "689bc7d2bc532ddecb3f5d0b5b9edf83ba4f82a294b1851ccb7012b15f787105", func := "granary/granarylaw01.ArenaNames", spec := "arenaNames", apart := false }
def ArenaNamesSaid : Prop := arenaNamesRow.holds Try.pinned (OpenSpec.ofChange arenaNamesSpec)

/-- ITS FALSE NEIGHBOUR: 'it returns false'. Refute it at one input. -/
def arenaNamesWrong : ChangeSpec := { name := "arenaNames", fn := fun _ => fun
  | [] => { results := [.lit (.bool false)], args := [] }
  | _ => none }
def ArenaNamesWrongFalsely : Prop := arenaNamesRow.holds Try.pinned (OpenSpec.ofChange arenaNamesWrong)

/-- 'granarylaw01.ArenaApart': WHATEVER THE INPUT: true; the input reads as it did. -/
def arenaApartSpec : ChangeSpec := { name := "arenaApart", fn := fun _ => fun
  | [d] => { results := [.lit (.bool true)], args := [d] }
  | _ => none }
def arenaApartRow : OpenClaim := { program := "ytnjobnccknpaeaa", sum := "689bc7d2bc532ddecb3f5d0b5b9edf83ba4f82a294b1851ccb7012b15f787105", func := "granary/granarylaw01.ArenaApart", spec := "arenaApart", apart := false }
def ArenaApartSaid : Prop := arenaApartRow.holds Try.pinned (OpenSpec.ofChange arenaApartSpec)

/-- ITS FALSE NEIGHBOUR: 'it returns false'. Refute it at one input. -/
def arenaApartWrong : ChangeSpec := { name := "arenaApart", fn := fun _ => fun
  | [d] => { results := [.lit (.bool false)], args := [d] }
  | _ => none }
def ArenaApartWrongFalsely : Prop := arenaApartRow.holds Try.pinned (OpenSpec.ofChange arenaApartWrong)

/-- 'granarylaw01.ArenaNews': WHATEVER THE INPUT: true; the input reads as it did. -/
def arenaNewsSpec : ChangeSpec := { name := "arenaNews", fn := fun _ => fun
  | [d] => { results := [.lit (.bool true)], args := [d] }
  | _ => none }
def arenaNewsRow : OpenClaim := { program := "ytnjobnccknpaeaa", sum := "689bc7d2bc532ddecb3f5d0b5b9edf83ba4f82a294b1851ccb7012b15f787105", func := "granary/granarylaw01.ArenaNews", spec := "arenaNews", apart := false }
def ArenaNewsSaid : Prop := arenaNewsRow.holds Try.pinned (OpenSpec.ofChange arenaNewsSpec)

/-- ITS FALSE NEIGHBOUR: 'it returns false'. Refute it at one input. -/
def arenaNewsWrong : ChangeSpec := { name := "arenaNews", fn := fun _ => fun
  | [d] => { results := [.lit (.bool false)], args := [d] }
  | _ => none }
def ArenaNewsWrongFalsely : Prop := arenaNewsRow.holds Try.pinned (OpenSpec.ofChange arenaNewsWrong)

/-- 'granarylaw01.ArenaEnds': WHATEVER THE INPUT: true; the input reads as it did. -/
def arenaEndsSpec : ChangeSpec := { name := "arenaEnds", fn := fun _ => fun
  | [d] => { results := [.lit (.bool true)], args := [d] }
  | _ => none }
def arenaEndsRow : OpenClaim := { program := "ytnjobnccknpaeaa", sum := "689bc7d2bc532ddecb3f5d0b5b9edf83ba4f82a294b1851ccb7012b15f787105", func := "granary/granarylaw01.ArenaEnds", spec := "arenaEnds", apart := false }
def ArenaEndsSaid : Prop := arenaEndsRow.holds Try.pinned (OpenSpec.ofChange arenaEndsSpec)

/-- ITS FALSE NEIGHBOUR: 'it returns false'. Refute it at one input. -/
def arenaEndsWrong : ChangeSpec := { name := "arenaEnds", fn := fun _ => fun
  | [d] => { results := [.lit (.bool false)], args := [d] }
  | _ => none }
def ArenaEndsWrongFalsely : Prop := arenaEndsRow.holds Try.pinned (OpenSpec.ofChange arenaEndsWrong)

/-- 'granarylaw01.ArenaExact': WHATEVER THE INPUT: true; the input reads as it did. -/
def arenaExactSpec : ChangeSpec := { name := "arenaExact", fn := fun _ => fun
  | [d] => { results := [.lit (.bool true)], args := [d] }
  | _ => none }
def arenaExactRow : OpenClaim := { program := "ytnjobnccknpaeaa", sum := "689bc7d2bc532ddecb3f5d0b5b9edf83ba4f82a294b1851ccb7012b15f787105", func := "granary/granarylaw01.ArenaExact", spec := "arenaExact", apart := false }
def ArenaExactSaid : Prop := arenaExactRow.holds Try.pinned (OpenSpec.ofChange arenaExactSpec)

/-- ITS FALSE NEIGHBOUR: 'it returns false'. Refute it at one input. -/
def arenaExactWrong : ChangeSpec := { name := "arenaExact", fn := fun _ => fun
  | [d] => { results := [.lit (.bool false)], args := [d] }
  | _ => none }
def ArenaExactWrongFalsely : Prop := arenaExactRow.holds Try.pinned (OpenSpec.ofChange arenaExactWrong)

/- THE SECOND FORM. 'bulk': how many values and letters a reading holds, each counted each time it is reached (what is shared counts as often as it is met; a slice's spare places count too). A statement '..UptoSaid' is the law's where the arguments, and the package variables that the reading takes, are together of bulk at most 1048576: NARROWER than '..Said'. Prove '..Said' where nothing that the law and all that it calls make is longer than what came in: it says more and counts as full. Else prove '..UptoSaid'. A law counts once. -/
mutual
def uptoBulk {H : Type} : DataW H → Nat
  | .lit (.string bytes) => bytes.length + 1
  | .lit _ => 1
  | .nil => 1
  | .ptr d => uptoBulk d + 1
  | .slice elems spare => uptoBulkAll elems + uptoBulkAll spare + 1
  | .agg parts => uptoBulkAll parts + 1
  | .iface _ d => uptoBulk d + 1
  | .map entries => uptoBulkEntries entries + 1
  | .held _ => 1
def uptoBulkAll {H : Type} : List (DataW H) → Nat
  | [] => 0
  | d :: r => uptoBulk d + uptoBulkAll r
def uptoBulkEntries {H : Type} : List (Lit × DataW H) → Nat
  | [] => 0
  | x :: r => uptoBulkEntry x + uptoBulkEntries r
def uptoBulkEntry {H : Type} : Lit × DataW H → Nat
  | (.string bytes, d) => bytes.length + uptoBulk d + 1
  | (_, d) => uptoBulk d + 1
 end
def uptoSmall : (H : Type) → List (DataW H) → Bool := fun _ ds => decide (uptoBulkAll ds ≤ 1048576)
def OpenSpec.upto (s : _root_.Go.ChangeSpec) : _root_.Go.OpenSpec := { _root_.Go.OpenSpec.ofChange s with cond := some uptoSmall }

/-- 'granarylaw01.ArenaNumbers', WHERE WHAT IT READS IS OF BULK AT MOST 1048576: true; the input reads as it did. -/
def arenaNumbersUptoRow : OpenClaim := { program := "ytnjobnccknpaeaa", sum := "689bc7d2bc532ddecb3f5d0b5b9edf83ba4f82a294b1851ccb7012b15f787105", func := "granary/granarylaw01.ArenaNumbers", spec := "arenaNumbers", apart := false, narrowed := true }
def ArenaNumbersUptoSaid : Prop := arenaNumbersUptoRow.holds Try.pinned (OpenSpec.upto arenaNumbersSpec)

/-- 'granarylaw01.ArenaNames', WHERE WHAT IT READS IS OF BULK AT MOST 1048576: true; the input reads as it did. -/
def arenaNamesUptoRow : OpenClaim := { program := "ytnjobnccknpaeaa", sum := "689bc7d2bc532ddecb3f5d0b5b9edf83ba4f82a294b1851ccb7012b15f787105", func := "granary/granarylaw01.ArenaNames", spec := "arenaNames", apart := false, narrowed := true }
def ArenaNamesUptoSaid : Prop := arenaNamesUptoRow.holds Try.pinned (OpenSpec.upto arenaNamesSpec)

/-- 'granarylaw01.ArenaApart', WHERE WHAT IT READS IS OF BULK AT MOST 1048576: true; the input reads as it did. -/
def arenaApartUptoRow : OpenClaim := { program := "ytnjobnccknpaeaa", sum := "689bc7d2bc532ddecb3f5d0b5b9edf83ba4f82a294b1851ccb7012b15f787105", func := "granary/granarylaw01.ArenaApart", spec := "arenaApart", apart := false, narrowed := true }
def ArenaApartUptoSaid : Prop := arenaApartUptoRow.holds Try.pinned (OpenSpec.upto arenaApartSpec)

/-- 'granarylaw01.ArenaNews', WHERE WHAT IT READS IS OF BULK AT MOST 1048576: true; the input reads as it did. -/
def arenaNewsUptoRow : OpenClaim := { program := "ytnjobnccknpaeaa", sum := "689bc7d2bc532ddecb3f5d0b5b9edf83ba4f82a294b1851ccb7012b15f787105", func := "granary/granarylaw01.ArenaNews", spec := "arenaNews", apart := false, narrowed := true }
def ArenaNewsUptoSaid : Prop := arenaNewsUptoRow.holds Try.pinned (OpenSpec.upto arenaNewsSpec)

/-- 'granarylaw01.ArenaEnds', WHERE WHAT IT READS IS OF BULK AT MOST 1048576: true; the input reads as it did. -/
def arenaEndsUptoRow : OpenClaim := { program := "ytnjobnccknpaeaa", sum := "689bc7d2bc532ddecb3f5d0b5b9edf83ba4f82a294b1851ccb7012b15f787105", func := "granary/granarylaw01.ArenaEnds", spec := "arenaEnds", apart := false, narrowed := true }
def ArenaEndsUptoSaid : Prop := arenaEndsUptoRow.holds Try.pinned (OpenSpec.upto arenaEndsSpec)

/-- 'granarylaw01.ArenaExact', WHERE WHAT IT READS IS OF BULK AT MOST 1048576: true; the input reads as it did. -/
def arenaExactUptoRow : OpenClaim := { program := "ytnjobnccknpaeaa", sum := "689bc7d2bc532ddecb3f5d0b5b9edf83ba4f82a294b1851ccb7012b15f787105", func := "granary/granarylaw01.ArenaExact", spec := "arenaExact", apart := false, narrowed := true }
def ArenaExactUptoSaid : Prop := arenaExactUptoRow.holds Try.pinned (OpenSpec.upto arenaExactSpec)

end Rows
end Go.Proofs.Ytnjobnccknpaeaa
