/-
  DERIVED. GIVEN WITH THE SEED: THE CARDS: each row of YtamfbmchamgddaaDoorRows.lean that lists a variable, with what it lists TIED to the program's text (the seventh form; the later family's looks); each row that meets fmt, with fmt's text TOLD by the authors' own Lean function (tested against real Go, not proved from fmt's source: count such statements apart). THE CARD IS WHAT COUNTS. Prove the row's statement (the work); the ties are given (YtamfbmchamgddaaDoorTie.lean); close each card by the builder's one call (the guide's Derived/Test/ToyasCard.lean, 'card_holds'). Laid BY PROGRAM, IN A SANDBOX (cutbox-door.mjs). By AI agents, Wed Nov 11 2026. No macro, syntax, notation, axiom, sorry.
-/
import Derived.Test.YtamfbmchamgddaaDoorRows
import GoSem.ClaimSeven
namespace Go.Proofs.YtamfbmchamgddaaDoor
namespace Rows

/-- THE TIED CARD OF 'securelinklaw4.FieldReduces'. -/
def fieldReducesCard : Claim7 := { stood := { row := fieldReducesRow, standIns := [], harness := (true, "973f453d975adb2cd3249689c0a95c0a21b8fa0aa62ea0b7fb4513d66d5d4eb1"), looks := false }, kinds := [], alts := [], laidByText := true, laidKinds := [.data], laidTests := true, laidLooks := .later }
def FieldReducesCardSaid : Prop := Claim7.holds Tryd.pinned (.plain (OpenSpec.ofChange fieldReducesSpec)) fieldReducesCard

/-- THE TIED CARD OF 'securelinklaw4.FieldReckons'. -/
def fieldReckonsCard : Claim7 := { stood := { row := fieldReckonsRow, standIns := [], harness := (true, "973f453d975adb2cd3249689c0a95c0a21b8fa0aa62ea0b7fb4513d66d5d4eb1"), looks := false }, kinds := [], alts := [], laidByText := true, laidKinds := [.data], laidTests := true, laidLooks := .later }
def FieldReckonsCardSaid : Prop := Claim7.holds Tryd.pinned (.plain (OpenSpec.ofChange fieldReckonsSpec)) fieldReckonsCard

/-- THE TIED CARD OF 'securelinklaw4.FieldRoots'. -/
def fieldRootsCard : Claim7 := { stood := { row := fieldRootsRow, standIns := [], harness := (true, "973f453d975adb2cd3249689c0a95c0a21b8fa0aa62ea0b7fb4513d66d5d4eb1"), looks := false }, kinds := [], alts := [], laidByText := true, laidKinds := [.data], laidTests := true, laidLooks := .later }
def FieldRootsCardSaid : Prop := Claim7.holds Tryd.pinned (.plain (OpenSpec.ofChange fieldRootsSpec)) fieldRootsCard

/-- THE TIED CARD OF 'securelinklaw4.FieldLaws'. -/
def fieldLawsCard : Claim7 := { stood := { row := fieldLawsRow, standIns := [], harness := (true, "973f453d975adb2cd3249689c0a95c0a21b8fa0aa62ea0b7fb4513d66d5d4eb1"), looks := false }, kinds := [], alts := [], laidByText := true, laidKinds := [.data], laidTests := true, laidLooks := .later }
def FieldLawsCardSaid : Prop := Claim7.holds Tryd.pinned (.plain (OpenSpec.ofChange fieldLawsSpec)) fieldLawsCard

/-- THE SECOND FORM's CARD OF 'securelinklaw4.FieldReduces'. -/
def fieldReducesUptoCard : Claim7 := { stood := { row := fieldReducesUptoRow, standIns := [], harness := (true, "973f453d975adb2cd3249689c0a95c0a21b8fa0aa62ea0b7fb4513d66d5d4eb1"), looks := false }, kinds := [], alts := [], laidByText := true, laidKinds := [.data], laidTests := true, laidLooks := .later }
def FieldReducesUptoCardSaid : Prop := Claim7.holds Tryd.pinned (.plain (OpenSpec.upto fieldReducesSpec)) fieldReducesUptoCard

/-- THE SECOND FORM's CARD OF 'securelinklaw4.FieldReckons'. -/
def fieldReckonsUptoCard : Claim7 := { stood := { row := fieldReckonsUptoRow, standIns := [], harness := (true, "973f453d975adb2cd3249689c0a95c0a21b8fa0aa62ea0b7fb4513d66d5d4eb1"), looks := false }, kinds := [], alts := [], laidByText := true, laidKinds := [.data], laidTests := true, laidLooks := .later }
def FieldReckonsUptoCardSaid : Prop := Claim7.holds Tryd.pinned (.plain (OpenSpec.upto fieldReckonsSpec)) fieldReckonsUptoCard

/-- THE SECOND FORM's CARD OF 'securelinklaw4.FieldRoots'. -/
def fieldRootsUptoCard : Claim7 := { stood := { row := fieldRootsUptoRow, standIns := [], harness := (true, "973f453d975adb2cd3249689c0a95c0a21b8fa0aa62ea0b7fb4513d66d5d4eb1"), looks := false }, kinds := [], alts := [], laidByText := true, laidKinds := [.data], laidTests := true, laidLooks := .later }
def FieldRootsUptoCardSaid : Prop := Claim7.holds Tryd.pinned (.plain (OpenSpec.upto fieldRootsSpec)) fieldRootsUptoCard

/-- THE SECOND FORM's CARD OF 'securelinklaw4.FieldLaws'. -/
def fieldLawsUptoCard : Claim7 := { stood := { row := fieldLawsUptoRow, standIns := [], harness := (true, "973f453d975adb2cd3249689c0a95c0a21b8fa0aa62ea0b7fb4513d66d5d4eb1"), looks := false }, kinds := [], alts := [], laidByText := true, laidKinds := [.data], laidTests := true, laidLooks := .later }
def FieldLawsUptoCardSaid : Prop := Claim7.holds Tryd.pinned (.plain (OpenSpec.upto fieldLawsSpec)) fieldLawsUptoCard
end Rows
end Go.Proofs.YtamfbmchamgddaaDoor
