/-
  No cell of these rows narrows 'for every input' (looked for: loops, veiled, ifaces, maps, wideKeys, modest, calm, conditions, laid).
  DERIVED. THE GIVEN ROWS OF THIS SEAT. 8 by the template 'for every input the law returns true; each argument reads behind the call as it read before'; 0 by the template 'total and deterministic' (their statements: YtngehaiigbbknaaGreatTotals.lean).
  GIVEN WITH THE SEED: the statements are not yours to turn. If you find one false, say at which input.
  Laid BY PROGRAM, IN A SANDBOX (cutbox-rows.mjs): the forced cells as the released guide's own fill.sh prints them over the translation 74e28ee00eb958d8… (all of the seat's roots in one cut). By AI agents, Wed Nov 11 2026. No macro, syntax, notation, axiom, sorry.
-/
import Derived.Test.YtngehaiigbbknaaGreatChecked
import GoSem.Claim
import GoSem.ClaimJoined
import GoSem.ClaimMapViews
import Derived.JoinedTies
import Derived.KernelRfl
namespace Go.Proofs.YtngehaiigbbknaaGreat
/- THE CELL 'sum', in the pinned program and in every row, IS THE sha256 OF THE DUMP (.gsa) THAT YtngehaiigbbknaaGreatProg.lean LOADS. Nothing in Lean hashes anything: it is a label: what it is worth is what the hold of that sum in a sandbox is worth. -/
noncomputable def Tryz.pinned : Pinned := { name := "ytngehaiigbbknaagreat", sum := "74e28ee00eb958d851bfd01a012a4babfc5fde568ac70bdb58885d4006b74342", checked := Tryz.checked }
namespace Rows
def none {H : Type} : Left H := { results := [], args := [] }

/-- 'granarylaw08.LruNews': WHATEVER THE INPUT: true; the input reads as it did. -/
def lruNewsSpec : ChangeSpec := { name := "lruNews", fn := fun _ => fun
  | [d] => { results := [.lit (.bool true)], args := [d] }
  | _ => none }
def lruNewsRow : OpenClaim := { program := "ytngehaiigbbknaagreat", sum := "74e28ee00eb958d851bfd01a012a4babfc5fde568ac70bdb58885d4006b74342", func := "granary/granarylaw08.LruNews", spec := "lruNews", unfollowed := true, recurses := true, apart := false }
def LruNewsSaid : Prop := lruNewsRow.holds Tryz.pinned (OpenSpec.ofChange lruNewsSpec)

/-- ITS FALSE NEIGHBOUR: 'it returns false'. Refute it at one input. -/
def lruNewsWrong : ChangeSpec := { name := "lruNews", fn := fun _ => fun
  | [d] => { results := [.lit (.bool false)], args := [d] }
  | _ => none }
def LruNewsWrongFalsely : Prop := lruNewsRow.holds Tryz.pinned (OpenSpec.ofChange lruNewsWrong)

/-- 'granarylaw08.LruNames': WHATEVER THE INPUT: true; the input reads as it did. -/
def lruNamesSpec : ChangeSpec := { name := "lruNames", fn := fun _ => fun
  | [] => { results := [.lit (.bool true)], args := [] }
  | _ => none }
def lruNamesRow : OpenClaim := { program := "ytngehaiigbbknaagreat", sum := "74e28ee00eb958d851bfd01a012a4babfc5fde568ac70bdb58885d4006b74342", func := "granary/granarylaw08.LruNames", spec := "lruNames", unfollowed := true, recurses := true, apart := false }
def LruNamesSaid : Prop := lruNamesRow.holds Tryz.pinned (OpenSpec.ofChange lruNamesSpec)

/-- ITS FALSE NEIGHBOUR: 'it returns false'. Refute it at one input. -/
def lruNamesWrong : ChangeSpec := { name := "lruNames", fn := fun _ => fun
  | [] => { results := [.lit (.bool false)], args := [] }
  | _ => none }
def LruNamesWrongFalsely : Prop := lruNamesRow.holds Tryz.pinned (OpenSpec.ofChange lruNamesWrong)

/-- 'granarylaw08.LruRests': WHATEVER THE INPUT: true; the input reads as it did. -/
def lruRestsSpec : ChangeSpec := { name := "lruRests", fn := fun _ => fun
  | [d1, d2] => { results := [.lit (.bool true)], args := [d1, d2] }
  | _ => none }
def lruRestsRow : OpenClaim := { program := "ytngehaiigbbknaagreat", sum := "74e28ee00eb958d851bfd01a012a4babfc5fde568ac70bdb58885d4006b74342", func := "granary/granarylaw08.LruRests", spec := "lruRests", unfollowed := true, recurses := true, apart := false }
def LruRestsSaid : Prop := lruRestsRow.holds Tryz.pinned (OpenSpec.ofChange lruRestsSpec)

/-- ITS FALSE NEIGHBOUR: 'it returns false'. Refute it at one input. -/
def lruRestsWrong : ChangeSpec := { name := "lruRests", fn := fun _ => fun
  | [d1, d2] => { results := [.lit (.bool false)], args := [d1, d2] }
  | _ => none }
def LruRestsWrongFalsely : Prop := lruRestsRow.holds Tryz.pinned (OpenSpec.ofChange lruRestsWrong)

/-- 'granarylaw08.LruExact': WHATEVER THE INPUT: true; the input reads as it did. -/
def lruExactSpec : ChangeSpec := { name := "lruExact", fn := fun _ => fun
  | [d1, d2, d3] => { results := [.lit (.bool true)], args := [d1, d2, d3] }
  | _ => none }
def lruExactRow : OpenClaim := { program := "ytngehaiigbbknaagreat", sum := "74e28ee00eb958d851bfd01a012a4babfc5fde568ac70bdb58885d4006b74342", func := "granary/granarylaw08.LruExact", spec := "lruExact", unfollowed := true, recurses := true, apart := false }
def LruExactSaid : Prop := lruExactRow.holds Tryz.pinned (OpenSpec.ofChange lruExactSpec)

/-- ITS FALSE NEIGHBOUR: 'it returns false'. Refute it at one input. -/
def lruExactWrong : ChangeSpec := { name := "lruExact", fn := fun _ => fun
  | [d1, d2, d3] => { results := [.lit (.bool false)], args := [d1, d2, d3] }
  | _ => none }
def LruExactWrongFalsely : Prop := lruExactRow.holds Tryz.pinned (OpenSpec.ofChange lruExactWrong)

/-- 'granarylaw08.LruOver': WHATEVER THE INPUT: true; the input reads as it did. -/
def lruOverSpec : ChangeSpec := { name := "lruOver", fn := fun _ => fun
  | [d] => { results := [.lit (.bool true)], args := [d] }
  | _ => none }
def lruOverRow : OpenClaim := { program := "ytngehaiigbbknaagreat", sum := "74e28ee00eb958d851bfd01a012a4babfc5fde568ac70bdb58885d4006b74342", func := "granary/granarylaw08.LruOver", spec := "lruOver", unfollowed := true, recurses := true, apart := false }
def LruOverSaid : Prop := lruOverRow.holds Tryz.pinned (OpenSpec.ofChange lruOverSpec)

/-- ITS FALSE NEIGHBOUR: 'it returns false'. Refute it at one input. -/
def lruOverWrong : ChangeSpec := { name := "lruOver", fn := fun _ => fun
  | [d] => { results := [.lit (.bool false)], args := [d] }
  | _ => none }
def LruOverWrongFalsely : Prop := lruOverRow.holds Tryz.pinned (OpenSpec.ofChange lruOverWrong)

/-- 'granarylaw08.LruBalances': WHATEVER THE INPUT: true; the input reads as it did. -/
def lruBalancesSpec : ChangeSpec := { name := "lruBalances", fn := fun _ => fun
  | [d1, d2] => { results := [.lit (.bool true)], args := [d1, d2] }
  | _ => none }
def lruBalancesRow : OpenClaim := { program := "ytngehaiigbbknaagreat", sum := "74e28ee00eb958d851bfd01a012a4babfc5fde568ac70bdb58885d4006b74342", func := "granary/granarylaw08.LruBalances", spec := "lruBalances", unfollowed := true, recurses := true, apart := false }
def LruBalancesSaid : Prop := lruBalancesRow.holds Tryz.pinned (OpenSpec.ofChange lruBalancesSpec)

/-- ITS FALSE NEIGHBOUR: 'it returns false'. Refute it at one input. -/
def lruBalancesWrong : ChangeSpec := { name := "lruBalances", fn := fun _ => fun
  | [d1, d2] => { results := [.lit (.bool false)], args := [d1, d2] }
  | _ => none }
def LruBalancesWrongFalsely : Prop := lruBalancesRow.holds Tryz.pinned (OpenSpec.ofChange lruBalancesWrong)

/-- 'granarylaw08.LruSpares': WHATEVER THE INPUT: true; the input reads as it did. -/
def lruSparesSpec : ChangeSpec := { name := "lruSpares", fn := fun _ => fun
  | [d] => { results := [.lit (.bool true)], args := [d] }
  | _ => none }
def lruSparesRow : OpenClaim := { program := "ytngehaiigbbknaagreat", sum := "74e28ee00eb958d851bfd01a012a4babfc5fde568ac70bdb58885d4006b74342", func := "granary/granarylaw08.LruSpares", spec := "lruSpares", unfollowed := true, recurses := true, apart := false }
def LruSparesSaid : Prop := lruSparesRow.holds Tryz.pinned (OpenSpec.ofChange lruSparesSpec)

/-- ITS FALSE NEIGHBOUR: 'it returns false'. Refute it at one input. -/
def lruSparesWrong : ChangeSpec := { name := "lruSpares", fn := fun _ => fun
  | [d] => { results := [.lit (.bool false)], args := [d] }
  | _ => none }
def LruSparesWrongFalsely : Prop := lruSparesRow.holds Tryz.pinned (OpenSpec.ofChange lruSparesWrong)

/-- 'granarylaw08.LruWalks': WHATEVER THE INPUT: true; the input reads as it did. -/
def lruWalksSpec : ChangeSpec := { name := "lruWalks", fn := fun _ => fun
  | [d] => { results := [.lit (.bool true)], args := [d] }
  | _ => none }
def lruWalksRow : OpenClaim := { program := "ytngehaiigbbknaagreat", sum := "74e28ee00eb958d851bfd01a012a4babfc5fde568ac70bdb58885d4006b74342", func := "granary/granarylaw08.LruWalks", spec := "lruWalks", unfollowed := true, recurses := true, apart := false }
def LruWalksSaid : Prop := lruWalksRow.holds Tryz.pinned (OpenSpec.ofChange lruWalksSpec)

/-- ITS FALSE NEIGHBOUR: 'it returns false'. Refute it at one input. -/
def lruWalksWrong : ChangeSpec := { name := "lruWalks", fn := fun _ => fun
  | [d] => { results := [.lit (.bool false)], args := [d] }
  | _ => none }
def LruWalksWrongFalsely : Prop := lruWalksRow.holds Tryz.pinned (OpenSpec.ofChange lruWalksWrong)

/- THE SECOND FORM. 'bulk': how many values and letters a reading holds, each counted each time it is reached (what is shared counts as often as it is met; a slice's spare places count too). A statement '..UptoSaid' is the law's where the arguments, and the package variables that the reading takes, are together of bulk at most 1048576: NARROWER than '..Said'. Prove '..Said' where nothing that the law and all that it calls make is longer than what came in: it says more and counts as full. Else prove '..UptoSaid'. A law counts once. -/
mutual
def uptoBulk {H : Type} : DataW H → Nat
  | .lit (.string bytes) => bytes.length + 1
  | .lit _ => 1
  | .nil => 1
  | .ptr d => uptoBulk d + 1
  | .slice elems spare => uptoBulkAll elems + uptoBulkAll spare + 1
  | .agg parts => uptoBulkAll parts + 1
  | .iface _ d => uptoBulk d + 1
  | .map entries => uptoBulkEntries entries + 1
  | .held _ => 1
def uptoBulkAll {H : Type} : List (DataW H) → Nat
  | [] => 0
  | d :: r => uptoBulk d + uptoBulkAll r
def uptoBulkEntries {H : Type} : List (Lit × DataW H) → Nat
  | [] => 0
  | x :: r => uptoBulkEntry x + uptoBulkEntries r
def uptoBulkEntry {H : Type} : Lit × DataW H → Nat
  | (.string bytes, d) => bytes.length + uptoBulk d + 1
  | (_, d) => uptoBulk d + 1
 end
def uptoSmall : (H : Type) → List (DataW H) → Bool := fun _ ds => decide (uptoBulkAll ds ≤ 1048576)
def OpenSpec.upto (s : _root_.Go.ChangeSpec) : _root_.Go.OpenSpec := { _root_.Go.OpenSpec.ofChange s with cond := some uptoSmall }

/-- 'granarylaw08.LruNews', WHERE WHAT IT READS IS OF BULK AT MOST 1048576: true; the input reads as it did. -/
def lruNewsUptoRow : OpenClaim := { program := "ytngehaiigbbknaagreat", sum := "74e28ee00eb958d851bfd01a012a4babfc5fde568ac70bdb58885d4006b74342", func := "granary/granarylaw08.LruNews", spec := "lruNews", unfollowed := true, recurses := true, apart := false, narrowed := true }
def LruNewsUptoSaid : Prop := lruNewsUptoRow.holds Tryz.pinned (OpenSpec.upto lruNewsSpec)

/-- 'granarylaw08.LruNames', WHERE WHAT IT READS IS OF BULK AT MOST 1048576: true; the input reads as it did. -/
def lruNamesUptoRow : OpenClaim := { program := "ytngehaiigbbknaagreat", sum := "74e28ee00eb958d851bfd01a012a4babfc5fde568ac70bdb58885d4006b74342", func := "granary/granarylaw08.LruNames", spec := "lruNames", unfollowed := true, recurses := true, apart := false, narrowed := true }
def LruNamesUptoSaid : Prop := lruNamesUptoRow.holds Tryz.pinned (OpenSpec.upto lruNamesSpec)

/-- 'granarylaw08.LruRests', WHERE WHAT IT READS IS OF BULK AT MOST 1048576: true; the input reads as it did. -/
def lruRestsUptoRow : OpenClaim := { program := "ytngehaiigbbknaagreat", sum := "74e28ee00eb958d851bfd01a012a4babfc5fde568ac70bdb58885d4006b74342", func := "granary/granarylaw08.LruRests", spec := "lruRests", unfollowed := true, recurses := true, apart := false, narrowed := true }
def LruRestsUptoSaid : Prop := lruRestsUptoRow.holds Tryz.pinned (OpenSpec.upto lruRestsSpec)

/-- 'granarylaw08.LruExact', WHERE WHAT IT READS IS OF BULK AT MOST 1048576: true; the input reads as it did. -/
def lruExactUptoRow : OpenClaim := { program := "ytngehaiigbbknaagreat", sum := "74e28ee00eb958d851bfd01a012a4babfc5fde568ac70bdb58885d4006b74342", func := "granary/granarylaw08.LruExact", spec := "lruExact", unfollowed := true, recurses := true, apart := false, narrowed := true }
def LruExactUptoSaid : Prop := lruExactUptoRow.holds Tryz.pinned (OpenSpec.upto lruExactSpec)

/-- 'granarylaw08.LruOver', WHERE WHAT IT READS IS OF BULK AT MOST 1048576: true; the input reads as it did. -/
def lruOverUptoRow : OpenClaim := { program := "ytngehaiigbbknaagreat", sum := "74e28ee00eb958d851bfd01a012a4babfc5fde568ac70bdb58885d4006b74342", func := "granary/granarylaw08.LruOver", spec := "lruOver", unfollowed := true, recurses := true, apart := false, narrowed := true }
def LruOverUptoSaid : Prop := lruOverUptoRow.holds Tryz.pinned (OpenSpec.upto lruOverSpec)

/-- 'granarylaw08.LruBalances', WHERE WHAT IT READS IS OF BULK AT MOST 1048576: true; the input reads as it did. -/
def lruBalancesUptoRow : OpenClaim := { program := "ytngehaiigbbknaagreat", sum := "74e28ee00eb958d851bfd01a012a4babfc5fde568ac70bdb58885d4006b74342", func := "granary/granarylaw08.LruBalances", spec := "lruBalances", unfollowed := true, recurses := true, apart := false, narrowed := true }
def LruBalancesUptoSaid : Prop := lruBalancesUptoRow.holds Tryz.pinned (OpenSpec.upto lruBalancesSpec)

/-- 'granarylaw08.LruSpares', WHERE WHAT IT READS IS OF BULK AT MOST 1048576: true; the input reads as it did. -/
def lruSparesUptoRow : OpenClaim := { program := "ytngehaiigbbknaagreat", sum := "74e28ee00eb958d851bfd01a012a4babfc5fde568ac70bdb58885d4006b74342", func := "granary/granarylaw08.LruSpares", spec := "lruSpares", unfollowed := true, recurses := true, apart := false, narrowed := true }
def LruSparesUptoSaid : Prop := lruSparesUptoRow.holds Tryz.pinned (OpenSpec.upto lruSparesSpec)

/-- 'granarylaw08.LruWalks', WHERE WHAT IT READS IS OF BULK AT MOST 1048576: true; the input reads as it did. -/
def lruWalksUptoRow : OpenClaim := { program := "ytngehaiigbbknaagreat", sum := "74e28ee00eb958d851bfd01a012a4babfc5fde568ac70bdb58885d4006b74342", func := "granary/granarylaw08.LruWalks", spec := "lruWalks", unfollowed := true, recurses := true, apart := false, narrowed := true }
def LruWalksUptoSaid : Prop := lruWalksUptoRow.holds Tryz.pinned (OpenSpec.upto lruWalksSpec)

end Rows
end Go.Proofs.YtngehaiigbbknaaGreat
