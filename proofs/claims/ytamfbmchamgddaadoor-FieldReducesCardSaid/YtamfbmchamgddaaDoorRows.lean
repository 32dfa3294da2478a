/-
  NARROWER THAN 'FOR EVERY INPUT', by the rows' own cells (each row's printed sentence says how): FieldReduces: laid · FieldReckons: laid · FieldRoots: laid · FieldLaws: laid.
  DERIVED. THE GIVEN ROWS OF THIS SEAT. 4 by the template 'for every input the law returns true; each argument reads behind the call as it read before'; 0 by the template 'total and deterministic' (their statements: YtamfbmchamgddaaDoorTotals.lean).
  GIVEN WITH THE SEED: the statements are not yours to turn. If you find one false, say at which input.
  Laid BY PROGRAM, IN A SANDBOX (cutbox-rows.mjs): the forced cells as the released guide's own fill.sh prints them over the translation 0c1ac09e4839a94e… (all of the seat's roots in one cut). By AI agents, Wed Nov 11 2026. No macro, syntax, notation, axiom, sorry.
-/
import Derived.Test.YtamfbmchamgddaaDoorChecked
import GoSem.Claim
import GoSem.ClaimJoined
import GoSem.ClaimMapViews
import Derived.JoinedTies
import Derived.KernelRfl
namespace Go.Proofs.YtamfbmchamgddaaDoor
/- THE CELL 'sum', in the pinned program and in every row, IS THE sha256 OF THE DUMP (.gsa) THAT YtamfbmchamgddaaDoorProg.lean LOADS. Nothing in Lean hashes anything: it is a label: what it is worth is what the hold of that sum in a sandbox is worth. -/
noncomputable def Tryd.pinned : Pinned := { name := "ytamfbmchamgddaadoor", sum := "0c1ac09e4839a94e0b2fbb0239b5af488cf5ae7525b3713ed6f669ed8e53c413", checked := Tryd.checked }
namespace Rows
def none {H : Type} : Left H := { results := [], args := [] }

/- WHAT THE LISTED PACKAGE-LEVEL VARIABLES READ AS WHEN THE CALL BEGINS. Each datum BY PROGRAM (the guide's laid-datum.mjs) off the statement by which the dump's own 'gosem.cut.vars' lays the variable. In a bare row this is a premise. The card (YtamfbmchamgddaaDoorCards.lean) ties it to the program's text. -/
def laid_securelink_mont_moduli {H : Type} : DataW H := .agg [.agg [.agg [.lit (.int .u64 18446744073709551597), .lit (.int .u64 18446744073709551615), .lit (.int .u64 18446744073709551615), .lit (.int .u64 9223372036854775807)], .lit (.int .u64 9708812670373448219), .agg [.lit (.int .u64 38), .lit (.int .u64 0), .lit (.int .u64 0), .lit (.int .u64 0)], .agg [.lit (.int .u64 1444), .lit (.int .u64 0), .lit (.int .u64 0), .lit (.int .u64 0)]], .agg [.agg [.lit (.int .u64 6346243789798364141), .lit (.int .u64 1503914060200516822), .lit (.int .u64 0), .lit (.int .u64 1152921504606846976)], .lit (.int .u64 15183074304973897243), .agg [.lit (.int .u64 15486807595281847581), .lit (.int .u64 14334777244411350896), .lit (.int .u64 18446744073709551614), .lit (.int .u64 1152921504606846975)], .agg [.lit (.int .u64 11819153939886771969), .lit (.int .u64 14991950615390032711), .lit (.int .u64 14910419812499177061), .lit (.int .u64 259310039853996605)]], .agg [.agg [.lit (.int .u64 18446744073709551615), .lit (.int .u64 4294967295), .lit (.int .u64 0), .lit (.int .u64 18446744069414584321)], .lit (.int .u64 1), .agg [.lit (.int .u64 1), .lit (.int .u64 18446744069414584320), .lit (.int .u64 18446744073709551615), .lit (.int .u64 4294967294)], .agg [.lit (.int .u64 3), .lit (.int .u64 18446744056529682431), .lit (.int .u64 18446744073709551614), .lit (.int .u64 21474836477)]], .agg [.agg [.lit (.int .u64 17562291160714782033), .lit (.int .u64 13611842547513532036), .lit (.int .u64 18446744073709551615), .lit (.int .u64 18446744069414584320)], .lit (.int .u64 14758798090332847183), .agg [.lit (.int .u64 884452912994769583), .lit (.int .u64 4834901526196019579), .lit (.int .u64 0), .lit (.int .u64 4294967295)], .agg [.lit (.int .u64 9449762124159643298), .lit (.int .u64 5087230966250696614), .lit (.int .u64 2901921493521525849), .lit (.int .u64 7413256579398063648)]]]

/-- 'securelinklaw4.FieldReduces': WHATEVER THE INPUT: true; the input reads as it did. -/
def fieldReducesSpec : ChangeSpec := { name := "fieldReduces", fn := fun _ => fun
  | [d1, d2] => { results := [.lit (.bool true)], args := [d1, d2] }
  | _ => none }
def fieldReducesRow : OpenClaim := { program := "ytamfbmchamgddaadoor", sum := "0c1ac09e4839a94e0b2fbb0239b5af488cf5ae7525b3713ed6f669ed8e53c413", func := "securelink/securelinklaw4.FieldReduces", spec := "fieldReduces", inPlace := ["math/bits.Sub64", "math/bits.Add64"], named := ["securelink/mont.moduli"], apart := false, laid := [("securelink/mont.moduli", laid_securelink_mont_moduli)] }
def FieldReducesSaid : Prop := fieldReducesRow.holds Tryd.pinned (OpenSpec.ofChange fieldReducesSpec)

/-- ITS FALSE NEIGHBOUR: 'it returns false'. Refute it at one input. -/
def fieldReducesWrong : ChangeSpec := { name := "fieldReduces", fn := fun _ => fun
  | [d1, d2] => { results := [.lit (.bool false)], args := [d1, d2] }
  | _ => none }
def FieldReducesWrongFalsely : Prop := fieldReducesRow.holds Tryd.pinned (OpenSpec.ofChange fieldReducesWrong)

/-- 'securelinklaw4.FieldReckons': WHATEVER THE INPUT: true; the input reads as it did. -/
def fieldReckonsSpec : ChangeSpec := { name := "fieldReckons", fn := fun _ => fun
  | [d1, d2, d3] => { results := [.lit (.bool true)], args := [d1, d2, d3] }
  | _ => none }
def fieldReckonsRow : OpenClaim := { program := "ytamfbmchamgddaadoor", sum := "0c1ac09e4839a94e0b2fbb0239b5af488cf5ae7525b3713ed6f669ed8e53c413", func := "securelink/securelinklaw4.FieldReckons", spec := "fieldReckons", inPlace := ["math/bits.Add64", "math/bits.Sub64"], unfollowed := true, recurses := true, named := ["securelink/mont.moduli"], apart := false, laid := [("securelink/mont.moduli", laid_securelink_mont_moduli)] }
def FieldReckonsSaid : Prop := fieldReckonsRow.holds Tryd.pinned (OpenSpec.ofChange fieldReckonsSpec)

/-- ITS FALSE NEIGHBOUR: 'it returns false'. Refute it at one input. -/
def fieldReckonsWrong : ChangeSpec := { name := "fieldReckons", fn := fun _ => fun
  | [d1, d2, d3] => { results := [.lit (.bool false)], args := [d1, d2, d3] }
  | _ => none }
def FieldReckonsWrongFalsely : Prop := fieldReckonsRow.holds Tryd.pinned (OpenSpec.ofChange fieldReckonsWrong)

/-- 'securelinklaw4.FieldRoots': WHATEVER THE INPUT: true; the input reads as it did. -/
def fieldRootsSpec : ChangeSpec := { name := "fieldRoots", fn := fun _ => fun
  | [d1, d2] => { results := [.lit (.bool true)], args := [d1, d2] }
  | _ => none }
def fieldRootsRow : OpenClaim := { program := "ytamfbmchamgddaadoor", sum := "0c1ac09e4839a94e0b2fbb0239b5af488cf5ae7525b3713ed6f669ed8e53c413", func := "securelink/securelinklaw4.FieldRoots", spec := "fieldRoots", inPlace := ["math/bits.Sub64", "math/bits.Add64"], unfollowed := true, recurses := true, named := ["securelink/mont.moduli"], apart := false, laid := [("securelink/mont.moduli", laid_securelink_mont_moduli)] }
def FieldRootsSaid : Prop := fieldRootsRow.holds Tryd.pinned (OpenSpec.ofChange fieldRootsSpec)

/-- ITS FALSE NEIGHBOUR: 'it returns false'. Refute it at one input. -/
def fieldRootsWrong : ChangeSpec := { name := "fieldRoots", fn := fun _ => fun
  | [d1, d2] => { results := [.lit (.bool false)], args := [d1, d2] }
  | _ => none }
def FieldRootsWrongFalsely : Prop := fieldRootsRow.holds Tryd.pinned (OpenSpec.ofChange fieldRootsWrong)

/-- 'securelinklaw4.FieldLaws': WHATEVER THE INPUT: true; the input reads as it did. -/
def fieldLawsSpec : ChangeSpec := { name := "fieldLaws", fn := fun _ => fun
  | [d1, d2, d3, d4] => { results := [.lit (.bool true)], args := [d1, d2, d3, d4] }
  | _ => none }
def fieldLawsRow : OpenClaim := { program := "ytamfbmchamgddaadoor", sum := "0c1ac09e4839a94e0b2fbb0239b5af488cf5ae7525b3713ed6f669ed8e53c413", func := "securelink/securelinklaw4.FieldLaws", spec := "fieldLaws", inPlace := ["math/bits.Sub64", "math/bits.Add64"], unfollowed := true, recurses := true, named := ["securelink/mont.moduli"], apart := false, laid := [("securelink/mont.moduli", laid_securelink_mont_moduli)] }
def FieldLawsSaid : Prop := fieldLawsRow.holds Tryd.pinned (OpenSpec.ofChange fieldLawsSpec)

/-- ITS FALSE NEIGHBOUR: 'it returns false'. Refute it at one input. -/
def fieldLawsWrong : ChangeSpec := { name := "fieldLaws", fn := fun _ => fun
  | [d1, d2, d3, d4] => { results := [.lit (.bool false)], args := [d1, d2, d3, d4] }
  | _ => none }
def FieldLawsWrongFalsely : Prop := fieldLawsRow.holds Tryd.pinned (OpenSpec.ofChange fieldLawsWrong)

/- THE SECOND FORM. 'bulk': how many values and letters a reading holds, each counted each time it is reached (what is shared counts as often as it is met; a slice's spare places count too). A statement '..UptoSaid' is the law's where the arguments, and the package variables that the reading takes, are together of bulk at most 1048576: NARROWER than '..Said'. Prove '..Said' where nothing that the law and all that it calls make is longer than what came in: it says more and counts as full. Else prove '..UptoSaid'. A law counts once. -/
mutual
def uptoBulk {H : Type} : DataW H → Nat
  | .lit (.string bytes) => bytes.length + 1
  | .lit _ => 1
  | .nil => 1
  | .ptr d => uptoBulk d + 1
  | .slice elems spare => uptoBulkAll elems + uptoBulkAll spare + 1
  | .agg parts => uptoBulkAll parts + 1
  | .iface _ d => uptoBulk d + 1
  | .map entries => uptoBulkEntries entries + 1
  | .held _ => 1
def uptoBulkAll {H : Type} : List (DataW H) → Nat
  | [] => 0
  | d :: r => uptoBulk d + uptoBulkAll r
def uptoBulkEntries {H : Type} : List (Lit × DataW H) → Nat
  | [] => 0
  | x :: r => uptoBulkEntry x + uptoBulkEntries r
def uptoBulkEntry {H : Type} : Lit × DataW H → Nat
  | (.string bytes, d) => bytes.length + uptoBulk d + 1
  | (_, d) => uptoBulk d + 1
 end
def uptoSmall : (H : Type) → List (DataW H) → Bool := fun _ ds => decide (uptoBulkAll ds ≤ 1048576)
def OpenSpec.upto (s : _root_.Go.ChangeSpec) : _root_.Go.OpenSpec := { _root_.Go.OpenSpec.ofChange s with cond := some uptoSmall }

/-- 'securelinklaw4.FieldReduces', WHERE WHAT IT READS IS OF BULK AT MOST 1048576: true; the input reads as it did. -/
def fieldReducesUptoRow : OpenClaim := { program := "ytamfbmchamgddaadoor", sum := "0c1ac09e4839a94e0b2fbb0239b5af488cf5ae7525b3713ed6f669ed8e53c413", func := "securelink/securelinklaw4.FieldReduces", spec := "fieldReduces", inPlace := ["math/bits.Sub64", "math/bits.Add64"], named := ["securelink/mont.moduli"], apart := false, laid := [("securelink/mont.moduli", laid_securelink_mont_moduli)], narrowed := true }
def FieldReducesUptoSaid : Prop := fieldReducesUptoRow.holds Tryd.pinned (OpenSpec.upto fieldReducesSpec)

/-- 'securelinklaw4.FieldReckons', WHERE WHAT IT READS IS OF BULK AT MOST 1048576: true; the input reads as it did. -/
def fieldReckonsUptoRow : OpenClaim := { program := "ytamfbmchamgddaadoor", sum := "0c1ac09e4839a94e0b2fbb0239b5af488cf5ae7525b3713ed6f669ed8e53c413", func := "securelink/securelinklaw4.FieldReckons", spec := "fieldReckons", inPlace := ["math/bits.Add64", "math/bits.Sub64"], unfollowed := true, recurses := true, named := ["securelink/mont.moduli"], apart := false, laid := [("securelink/mont.moduli", laid_securelink_mont_moduli)], narrowed := true }
def FieldReckonsUptoSaid : Prop := fieldReckonsUptoRow.holds Tryd.pinned (OpenSpec.upto fieldReckonsSpec)

/-- 'securelinklaw4.FieldRoots', WHERE WHAT IT READS IS OF BULK AT MOST 1048576: true; the input reads as it did. -/
def fieldRootsUptoRow : OpenClaim := { program := "ytamfbmchamgddaadoor", sum := "0c1ac09e4839a94e0b2fbb0239b5af488cf5ae7525b3713ed6f669ed8e53c413", func := "securelink/securelinklaw4.FieldRoots", spec := "fieldRoots", inPlace := ["math/bits.Sub64", "math/bits.Add64"], unfollowed := true, recurses := true, named := ["securelink/mont.moduli"], apart := false, laid := [("securelink/mont.moduli", laid_securelink_mont_moduli)], narrowed := true }
def FieldRootsUptoSaid : Prop := fieldRootsUptoRow.holds Tryd.pinned (OpenSpec.upto fieldRootsSpec)

/-- 'securelinklaw4.FieldLaws', WHERE WHAT IT READS IS OF BULK AT MOST 1048576: true; the input reads as it did. -/
def fieldLawsUptoRow : OpenClaim := { program := "ytamfbmchamgddaadoor", sum := "0c1ac09e4839a94e0b2fbb0239b5af488cf5ae7525b3713ed6f669ed8e53c413", func := "securelink/securelinklaw4.FieldLaws", spec := "fieldLaws", inPlace := ["math/bits.Sub64", "math/bits.Add64"], unfollowed := true, recurses := true, named := ["securelink/mont.moduli"], apart := false, laid := [("securelink/mont.moduli", laid_securelink_mont_moduli)], narrowed := true }
def FieldLawsUptoSaid : Prop := fieldLawsUptoRow.holds Tryd.pinned (OpenSpec.upto fieldLawsSpec)

end Rows
end Go.Proofs.YtamfbmchamgddaaDoor
