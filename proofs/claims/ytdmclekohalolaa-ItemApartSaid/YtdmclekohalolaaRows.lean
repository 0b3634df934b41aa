/-
  No cell of these rows narrows 'for every input' (looked for: loops, veiled, ifaces, maps, wideKeys, modest, calm, conditions, laid).
  DERIVED. THE GIVEN ROWS OF THIS SEAT. 5 by the template 'for every input the law returns true; each argument reads behind the call as it read before'; 0 by the template 'total and deterministic' (their statements: YtdmclekohalolaaTotals.lean).
  GIVEN WITH THE SEED: the statements are not yours to turn. If you find one false, say at which input.
  Laid BY PROGRAM, IN A SANDBOX (cutbox-rows.mjs): the forced cells as the released guide's own fill.sh prints them over the translation 29a9383261c80ba4… (all of the seat's roots in one cut). By AI agents, Wed Nov 11 2026. No macro, syntax, notation, axiom, sorry.
-/
import Derived.Test.YtdmclekohalolaaChecked
import GoSem.Claim
import GoSem.ClaimJoined
import GoSem.ClaimMapViews
import Derived.JoinedTies
import Derived.KernelRfl
namespace Go.Proofs.Ytdmclekohalolaa
/- THE CELL 'sum', in the pinned program and in every row, IS THE sha256 OF THE DUMP (.gsa) THAT YtdmclekohalolaaProg.lean LOADS. Nothing in Lean hashes anything: it is a label: what it is worth is what the hold of that sum in a sandbox is worth. -/
noncomputable def Try.pinned : Pinned := { name := "ytdmclekohalolaa", sum := "29a9383261c80ba444c06845cc100363b385c41a0b8e1bdca679181d9e8f6a38", checked := Try.checked }
namespace Rows
def none {H : Type} : Left H := { results := [], args := [] }

/-- 'granarylaw03.ItemNames': WHATEVER THE INPUT: true; the input reads as it did. -/
def itemNamesSpec : ChangeSpec := { name := "itemNames", fn := fun _ => fun
  | [] => { results := [.lit (.bool true)], args := [] }
  | _ => none }
def itemNamesRow : OpenClaim := { program := "ytdmclekohalolaa", sum := "29a9383261c80ba444c06845cc100363b385c41a0b8e1bdca679181d9e8f6a38", func := "granary/granarylaw03.ItemNames", spec := "itemNames", apart := false }
def ItemNamesSaid : Prop := itemNamesRow.holds Try.pinned (OpenSpec.ofChange itemNamesSpec)

/-- ITS FALSE NEIGHBOUR: 'it returns false'. Refute it at one input. -/
def itemNamesWrong : ChangeSpec := { name := "itemNames", fn := fun _ => fun
  | [] => { results := [.lit (.bool false)], args := [] }
  | _ => none }
def ItemNamesWrongFalsely : Prop := itemNamesRow.holds Try.pinned (OpenSpec.ofChange itemNamesWrong)

/-- 'granarylaw03.ItemSizes': WHATEVER THE INPUT: true; the input reads as it did. -/
def itemSizesSpec : ChangeSpec := { name := "itemSizes", fn := fun _ => fun
  | [d] => { results := [.lit (.bool true)], args := [d] }
  | _ => none }
def itemSizesRow : OpenClaim := { program := "ytdmclekohalolaa", sum := "29a9383261c80ba444c06845cc100363b385c41a0b8e1bdca679181d9e8f6a38", func := "granary/granarylaw03.ItemSizes", spec := "itemSizes", apart := false }
def ItemSizesSaid : Prop := itemSizesRow.holds Try.pinned (OpenSpec.ofChange itemSizesSpec)

/-- ITS FALSE NEIGHBOUR: 'it returns false'. Refute it at one input. -/
def itemSizesWrong : ChangeSpec := { name := "itemSizes", fn := fun _ => fun
  | [d] => { results := [.lit (.bool false)], args := [d] }
  | _ => none }
def ItemSizesWrongFalsely : Prop := itemSizesRow.holds Try.pinned (OpenSpec.ofChange itemSizesWrong)

/-- 'granarylaw03.ItemBack': WHATEVER THE INPUT: true; the input reads as it did. -/
def itemBackSpec : ChangeSpec := { name := "itemBack", fn := fun _ => fun
  | [d] => { results := [.lit (.bool true)], args := [d] }
  | _ => none }
def itemBackRow : OpenClaim := { program := "ytdmclekohalolaa", sum := "29a9383261c80ba444c06845cc100363b385c41a0b8e1bdca679181d9e8f6a38", func := "granary/granarylaw03.ItemBack", spec := "itemBack", apart := false }
def ItemBackSaid : Prop := itemBackRow.holds Try.pinned (OpenSpec.ofChange itemBackSpec)

/-- ITS FALSE NEIGHBOUR: 'it returns false'. Refute it at one input. -/
def itemBackWrong : ChangeSpec := { name := "itemBack", fn := fun _ => fun
  | [d] => { results := [.lit (.bool false)], args := [d] }
  | _ => none }
def ItemBackWrongFalsely : Prop := itemBackRow.holds Try.pinned (OpenSpec.ofChange itemBackWrong)

/-- 'granarylaw03.ItemCopies': WHATEVER THE INPUT: true; the input reads as it did. -/
def itemCopiesSpec : ChangeSpec := { name := "itemCopies", fn := fun _ => fun
  | [d] => { results := [.lit (.bool true)], args := [d] }
  | _ => none }
def itemCopiesRow : OpenClaim := { program := "ytdmclekohalolaa", sum := "29a9383261c80ba444c06845cc100363b385c41a0b8e1bdca679181d9e8f6a38", func := "granary/granarylaw03.ItemCopies", spec := "itemCopies", apart := false }
def ItemCopiesSaid : Prop := itemCopiesRow.holds Try.pinned (OpenSpec.ofChange itemCopiesSpec)

/-- ITS FALSE NEIGHBOUR: 'it returns false'. Refute it at one input. -/
def itemCopiesWrong : ChangeSpec := { name := "itemCopies", fn := fun _ => fun
  | [d] => { results := [.lit (.bool false)], args := [d] }
  | _ => none }
def ItemCopiesWrongFalsely : Prop := itemCopiesRow.holds Try.pinned (OpenSpec.ofChange itemCopiesWrong)

/-- 'granarylaw03.ItemApart': WHATEVER THE INPUT: true; the input reads as it did. -/
def itemApartSpec : ChangeSpec := { name := "itemApart", fn := fun _ => fun
  | [d] => { results := [.lit (.bool true)], args := [d] }
  | _ => none }
def itemApartRow : OpenClaim := { program := "ytdmclekohalolaa", sum := "29a9383261c80ba444c06845cc100363b385c41a0b8e1bdca679181d9e8f6a38", func := "granary/granarylaw03.ItemApart", spec := "itemApart", apart := false }
def ItemApartSaid : Prop := itemApartRow.holds Try.pinned (OpenSpec.ofChange itemApartSpec)

/-- ITS FALSE NEIGHBOUR: 'it returns false'. Refute it at one input. -/
def itemApartWrong : ChangeSpec := { name := "itemApart", fn := fun _ => fun
  | [d] => { results := [.lit (.bool false)], args := [d] }
  | _ => none }
def ItemApartWrongFalsely : Prop := itemApartRow.holds Try.pinned (OpenSpec.ofChange itemApartWrong)

/- THE SECOND FORM. 'bulk': how many values and letters a reading holds, each counted each time it is reached (what is shared counts as often as it is met; a slice's spare places count too). A statement '..UptoSaid' is the law's where the arguments, and the package variables that the reading takes, are together of bulk at most 1048576: NARROWER than '..Said'. Prove '..Said' where nothing that the law and all that it calls make is longer than what came in: it says more and counts as full. Else prove '..UptoSaid'. A law counts once. -/
mutual
def uptoBulk {H : Type} : DataW H → Nat
  | .lit (.string bytes) => bytes.length + 1
  | .lit _ => 1
  | .nil => 1
  | .ptr d => uptoBulk d + 1
  | .slice elems spare => uptoBulkAll elems + uptoBulkAll spare + 1
  | .agg parts => uptoBulkAll parts + 1
  | .iface _ d => uptoBulk d + 1
  | .map entries => uptoBulkEntries entries + 1
  | .held _ => 1
def uptoBulkAll {H : Type} : List (DataW H) → Nat
  | [] => 0
  | d :: r => uptoBulk d + uptoBulkAll r
def uptoBulkEntries {H : Type} : List (Lit × DataW H) → Nat
  | [] => 0
  | x :: r => uptoBulkEntry x + uptoBulkEntries r
def uptoBulkEntry {H : Type} : Lit × DataW H → Nat
  | (.string bytes, d) => bytes.length + uptoBulk d + 1
  | (_, d) => uptoBulk d + 1
 end
def uptoSmall : (H : Type) → List (DataW H) → Bool := fun _ ds => decide (uptoBulkAll ds ≤ 1048576)
def OpenSpec.upto (s : _root_.Go.ChangeSpec) : _root_.Go.OpenSpec := { _root_.Go.OpenSpec.ofChange s with cond := some uptoSmall }

/-- 'granarylaw03.ItemNames', WHERE WHAT IT READS IS OF BULK AT MOST 1048576: true; the input reads as it did. -/
def itemNamesUptoRow : OpenClaim := { program := "ytdmclekohalolaa", sum := "29a9383261c80ba444c06845cc100363b385c41a0b8e1bdca679181d9e8f6a38", func := "granary/granarylaw03.ItemNames", spec := "itemNames", apart := false, narrowed := true }
def ItemNamesUptoSaid : Prop := itemNamesUptoRow.holds Try.pinned (OpenSpec.upto itemNamesSpec)

/-- 'granarylaw03.ItemSizes', WHERE WHAT IT READS IS OF BULK AT MOST 1048576: true; the input reads as it did. -/
def itemSizesUptoRow : OpenClaim := { program := "ytdmclekohalolaa", sum := "29a9383261c80ba444c06845cc100363b385c41a0b8e1bdca679181d9e8f6a38", func := "granary/granarylaw03.ItemSizes", spec := "itemSizes", apart := false, narrowed := true }
def ItemSizesUptoSaid : Prop := itemSizesUptoRow.holds Try.pinned (OpenSpec.upto itemSizesSpec)

/-- 'granarylaw03.ItemBack', WHERE WHAT IT READS IS OF BULK AT MOST 1048576: true; the input reads as it did. -/
def itemBackUptoRow : OpenClaim := { program := "ytdmclekohalolaa", sum := "29a9383261c80ba444c06845cc100363b385c41a0b8e1bdca679181d9e8f6a38", func := "granary/granarylaw03.ItemBack", spec := "itemBack", apart := false, narrowed := true }
def ItemBackUptoSaid : Prop := itemBackUptoRow.holds Try.pinned (OpenSpec.upto itemBackSpec)

/-- 'granarylaw03.ItemCopies', WHERE WHAT IT READS IS OF BULK AT MOST 1048576: true; the input reads as it did. -/
def itemCopiesUptoRow : OpenClaim := { program := "ytdmclekohalolaa", sum := "29a9383261c80ba444c06845cc100363b385c41a0b8e1bdca679181d9e8f6a38", func := "granary/granarylaw03.ItemCopies", spec := "itemCopies", apart := false, narrowed := true }
def ItemCopiesUptoSaid : Prop := itemCopiesUptoRow.holds Try.pinned (OpenSpec.upto itemCopiesSpec)

/-- 'granarylaw03.ItemApart', WHERE WHAT IT READS IS OF BULK AT MOST 1048576: true; the input reads as it did. -/
def itemApartUptoRow : OpenClaim := { program := "ytdmclekohalolaa", sum := "29a9383261c80ba444c06845cc100363b385c41a0b8e1bdca679181d9e8f6a38", func := "granary/granarylaw03.ItemApart", spec := "itemApart", apart := false, narrowed := true }
def ItemApartUptoSaid : Prop := itemApartUptoRow.holds Try.pinned (OpenSpec.upto itemApartSpec)

end Rows
end Go.Proofs.Ytdmclekohalolaa
