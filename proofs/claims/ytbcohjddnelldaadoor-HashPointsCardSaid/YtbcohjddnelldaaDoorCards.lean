/-
  DERIVED. GIVEN WITH THE SEED: THE CARDS: each row of YtbcohjddnelldaaDoorRows.lean that lists a variable, with what it lists TIED to the program's text (the seventh form; the later family's looks); each row that meets fmt, with fmt's text TOLD by the authors' own Lean function (tested against real Go, not proved from fmt's source: count such statements apart). THE CARD IS WHAT COUNTS. Prove the row's statement (the work); the ties are given (YtbcohjddnelldaaDoorTie.lean); close each card by the builder's one call (the guide's Derived/Test/ToyasCard.lean, 'card_holds'). Laid BY PROGRAM, IN A SANDBOX (cutbox-door.mjs). By AI agents, Wed Nov 11 2026. No macro, syntax, notation, axiom, sorry.
-/
import Derived.Test.YtbcohjddnelldaaDoorRows
import GoSem.ClaimSeven
namespace Go.Proofs.YtbcohjddnelldaaDoor
namespace Rows

/-- THE TIED CARD OF 'granarylaw04.HashPoints'. -/
def hashPointsCard : Claim7 := { stood := { row := hashPointsRow, standIns := [], harness := (true, "706e484f92e141e39cca6556da7fc9022818bf57054788e41b92793bb31f2ec8"), looks := false }, kinds := [], alts := [], laidByText := true, laidKinds := [.data, .data, .data], laidTests := true, laidLooks := .later }
def HashPointsCardSaid : Prop := Claim7.holds Tryd.pinned (.plain (OpenSpec.ofChange hashPointsSpec)) hashPointsCard

/-- THE TIED CARD OF 'granarylaw04.HashNames'. -/
def hashNamesCard : Claim7 := { stood := { row := hashNamesRow, standIns := [], harness := (true, "706e484f92e141e39cca6556da7fc9022818bf57054788e41b92793bb31f2ec8"), looks := false }, kinds := [], alts := [], laidByText := true, laidKinds := [.data, .data, .data], laidTests := true, laidLooks := .later }
def HashNamesCardSaid : Prop := Claim7.holds Tryd.pinned (.plain (OpenSpec.ofChange hashNamesSpec)) hashNamesCard

/-- THE TIED CARD OF 'granarylaw04.HashBegins'. -/
def hashBeginsCard : Claim7 := { stood := { row := hashBeginsRow, standIns := [], harness := (true, "706e484f92e141e39cca6556da7fc9022818bf57054788e41b92793bb31f2ec8"), looks := false }, kinds := [], alts := [], laidByText := true, laidKinds := [.data, .data, .data], laidTests := true, laidLooks := .later }
def HashBeginsCardSaid : Prop := Claim7.holds Tryd.pinned (.plain (OpenSpec.ofChange hashBeginsSpec)) hashBeginsCard

/-- THE SECOND FORM's CARD OF 'granarylaw04.HashPoints'. -/
def hashPointsUptoCard : Claim7 := { stood := { row := hashPointsUptoRow, standIns := [], harness := (true, "706e484f92e141e39cca6556da7fc9022818bf57054788e41b92793bb31f2ec8"), looks := false }, kinds := [], alts := [], laidByText := true, laidKinds := [.data, .data, .data], laidTests := true, laidLooks := .later }
def HashPointsUptoCardSaid : Prop := Claim7.holds Tryd.pinned (.plain (OpenSpec.upto hashPointsSpec)) hashPointsUptoCard

/-- THE SECOND FORM's CARD OF 'granarylaw04.HashNames'. -/
def hashNamesUptoCard : Claim7 := { stood := { row := hashNamesUptoRow, standIns := [], harness := (true, "706e484f92e141e39cca6556da7fc9022818bf57054788e41b92793bb31f2ec8"), looks := false }, kinds := [], alts := [], laidByText := true, laidKinds := [.data, .data, .data], laidTests := true, laidLooks := .later }
def HashNamesUptoCardSaid : Prop := Claim7.holds Tryd.pinned (.plain (OpenSpec.upto hashNamesSpec)) hashNamesUptoCard

/-- THE SECOND FORM's CARD OF 'granarylaw04.HashBegins'. -/
def hashBeginsUptoCard : Claim7 := { stood := { row := hashBeginsUptoRow, standIns := [], harness := (true, "706e484f92e141e39cca6556da7fc9022818bf57054788e41b92793bb31f2ec8"), looks := false }, kinds := [], alts := [], laidByText := true, laidKinds := [.data, .data, .data], laidTests := true, laidLooks := .later }
def HashBeginsUptoCardSaid : Prop := Claim7.holds Tryd.pinned (.plain (OpenSpec.upto hashBeginsSpec)) hashBeginsUptoCard
end Rows
end Go.Proofs.YtbcohjddnelldaaDoor
