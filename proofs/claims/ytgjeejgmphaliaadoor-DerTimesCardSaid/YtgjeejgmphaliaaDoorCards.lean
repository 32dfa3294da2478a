/-
  DERIVED. GIVEN WITH THE SEED: THE CARDS: each row of YtgjeejgmphaliaaDoorRows.lean that lists a variable, with what it lists TIED to the program's text (the seventh form; the later family's looks); each row that meets fmt, with fmt's text TOLD by the authors' own Lean function (tested against real Go, not proved from fmt's source: count such statements apart). THE CARD IS WHAT COUNTS. Prove the row's statement (the work); the ties are given (YtgjeejgmphaliaaDoorTie.lean); close each card by the builder's one call (the guide's Derived/Test/ToyasCard.lean, 'card_holds'). Laid BY PROGRAM, IN A SANDBOX (cutbox-door.mjs). By AI agents, Wed Nov 11 2026. No macro, syntax, notation, axiom, sorry.
-/
import Derived.Test.YtgjeejgmphaliaaDoorRows
import GoSem.ClaimSeven
namespace Go.Proofs.YtgjeejgmphaliaaDoor
namespace Rows

/-- THE TIED CARD OF 'securelinklaw7.DerTimes'. -/
def derTimesCard : Claim7 := { stood := { row := derTimesRow, standIns := [], harness := (true, "6d71effb29320be9f758b9038b5136388b2bc0ee905fba8cb9609bd7124a83a5"), looks := true }, kinds := [], alts := [], laidByText := true, laidKinds := [.data, .pinned], laidTests := true, laidLooks := .later }
def DerTimesCardSaid : Prop := Claim7.holds Tryd.pinned (.plain (OpenSpec.ofChange derTimesSpec)) derTimesCard

/-- THE TIED CARD OF 'securelinklaw7.DerPrints'. -/
def derPrintsCard : Claim7 := { stood := { row := derPrintsRow, standIns := [], harness := (true, "6d71effb29320be9f758b9038b5136388b2bc0ee905fba8cb9609bd7124a83a5"), looks := true }, kinds := [], alts := [], laidByText := true, laidKinds := [.data, .funcs, .pinned], laidTests := true, laidLooks := .later }
def DerPrintsCardSaid : Prop := Claim7.holds Tryd.pinned (.plain (OpenSpec.ofChange derPrintsSpec)) derPrintsCard

/-- THE TIED CARD OF 'securelinklaw7.DerParses'. -/
def derParsesCard : Claim7 := { stood := { row := derParsesRow, standIns := [], harness := (true, "6d71effb29320be9f758b9038b5136388b2bc0ee905fba8cb9609bd7124a83a5"), looks := true }, kinds := [], alts := [], laidByText := true, laidKinds := [.data, .funcs, .pinned], laidTests := true, laidLooks := .later }
def DerParsesCardSaid : Prop := Claim7.holds Tryd.pinned (.plain (OpenSpec.ofChange derParsesSpec)) derParsesCard

/-- THE TIED CARD OF 'securelinklaw7.DerNumbers'. -/
def derNumbersCard : Claim7 := { stood := { row := derNumbersRow, standIns := [], harness := (true, "6d71effb29320be9f758b9038b5136388b2bc0ee905fba8cb9609bd7124a83a5"), looks := true }, kinds := [], alts := [], laidByText := true, laidKinds := [.data, .funcs, .pinned], laidTests := true, laidLooks := .later }
def DerNumbersCardSaid : Prop := Claim7.holds Tryd.pinned (.plain (OpenSpec.ofChange derNumbersSpec)) derNumbersCard

/-- THE TIED CARD OF 'securelinklaw7.DerNames'. -/
def derNamesCard : Claim7 := { stood := { row := derNamesRow, standIns := [], harness := (true, "6d71effb29320be9f758b9038b5136388b2bc0ee905fba8cb9609bd7124a83a5"), looks := true }, kinds := [], alts := [], laidByText := true, laidKinds := [.data, .data, .data, .data, .sentinel, .sentinel, .funcs, .pinned], laidTests := true, laidLooks := .later }
def DerNamesCardSaid : Prop := Claim7.holds Tryd.pinned (.plain (OpenSpec.ofChange derNamesSpec)) derNamesCard

/-- THE SECOND FORM's CARD OF 'securelinklaw7.DerTimes'. -/
def derTimesUptoCard : Claim7 := { stood := { row := derTimesUptoRow, standIns := [], harness := (true, "6d71effb29320be9f758b9038b5136388b2bc0ee905fba8cb9609bd7124a83a5"), looks := true }, kinds := [], alts := [], laidByText := true, laidKinds := [.data, .pinned], laidTests := true, laidLooks := .later }
def DerTimesUptoCardSaid : Prop := Claim7.holds Tryd.pinned (.plain (OpenSpec.upto derTimesSpec)) derTimesUptoCard

/-- THE SECOND FORM's CARD OF 'securelinklaw7.DerPrints'. -/
def derPrintsUptoCard : Claim7 := { stood := { row := derPrintsUptoRow, standIns := [], harness := (true, "6d71effb29320be9f758b9038b5136388b2bc0ee905fba8cb9609bd7124a83a5"), looks := true }, kinds := [], alts := [], laidByText := true, laidKinds := [.data, .funcs, .pinned], laidTests := true, laidLooks := .later }
def DerPrintsUptoCardSaid : Prop := Claim7.holds Tryd.pinned (.plain (OpenSpec.upto derPrintsSpec)) derPrintsUptoCard

/-- THE SECOND FORM's CARD OF 'securelinklaw7.DerParses'. -/
def derParsesUptoCard : Claim7 := { stood := { row := derParsesUptoRow, standIns := [], harness := (true, "6d71effb29320be9f758b9038b5136388b2bc0ee905fba8cb9609bd7124a83a5"), looks := true }, kinds := [], alts := [], laidByText := true, laidKinds := [.data, .funcs, .pinned], laidTests := true, laidLooks := .later }
def DerParsesUptoCardSaid : Prop := Claim7.holds Tryd.pinned (.plain (OpenSpec.upto derParsesSpec)) derParsesUptoCard

/-- THE SECOND FORM's CARD OF 'securelinklaw7.DerNumbers'. -/
def derNumbersUptoCard : Claim7 := { stood := { row := derNumbersUptoRow, standIns := [], harness := (true, "6d71effb29320be9f758b9038b5136388b2bc0ee905fba8cb9609bd7124a83a5"), looks := true }, kinds := [], alts := [], laidByText := true, laidKinds := [.data, .funcs, .pinned], laidTests := true, laidLooks := .later }
def DerNumbersUptoCardSaid : Prop := Claim7.holds Tryd.pinned (.plain (OpenSpec.upto derNumbersSpec)) derNumbersUptoCard

/-- THE SECOND FORM's CARD OF 'securelinklaw7.DerNames'. -/
def derNamesUptoCard : Claim7 := { stood := { row := derNamesUptoRow, standIns := [], harness := (true, "6d71effb29320be9f758b9038b5136388b2bc0ee905fba8cb9609bd7124a83a5"), looks := true }, kinds := [], alts := [], laidByText := true, laidKinds := [.data, .data, .data, .data, .sentinel, .sentinel, .funcs, .pinned], laidTests := true, laidLooks := .later }
def DerNamesUptoCardSaid : Prop := Claim7.holds Tryd.pinned (.plain (OpenSpec.upto derNamesSpec)) derNamesUptoCard
end Rows
end Go.Proofs.YtgjeejgmphaliaaDoor
