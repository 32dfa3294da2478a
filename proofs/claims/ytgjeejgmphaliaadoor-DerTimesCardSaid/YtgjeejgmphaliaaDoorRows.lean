/-
  NARROWER THAN 'FOR EVERY INPUT', by the rows' own cells (each row's printed sentence says how): DerTimes: laid · DerPrints: laid · DerParses: laid · DerNumbers: laid · DerNames: laid.
  DERIVED. THE GIVEN ROWS OF THIS SEAT. 5 by the template 'for every input the law returns true; each argument reads behind the call as it read before'; 0 by the template 'total and deterministic' (their statements: YtgjeejgmphaliaaDoorTotals.lean).
  GIVEN WITH THE SEED: the statements are not yours to turn. If you find one false, say at which input.
  Laid BY PROGRAM, IN A SANDBOX (cutbox-rows.mjs): the forced cells as the released guide's own fill.sh prints them over the translation 0bf0ea5dab069afe… (all of the seat's roots in one cut). By AI agents, Wed Nov 11 2026. No macro, syntax, notation, axiom, sorry.
-/
import Derived.Test.YtgjeejgmphaliaaDoorChecked
import GoSem.PinnedTables
import GoSem.Claim
import GoSem.ClaimJoined
import GoSem.ClaimMapViews
import Derived.JoinedTies
import Derived.KernelRfl
namespace Go.Proofs.YtgjeejgmphaliaaDoor
/- THE CELL 'sum', in the pinned program and in every row, IS THE sha256 OF THE DUMP (.gsa) THAT YtgjeejgmphaliaaDoorProg.lean LOADS. Nothing in Lean hashes anything: it is a label: what it is worth is what the hold of that sum in a sandbox is worth. -/
noncomputable def Tryd.pinned : Pinned := { name := "ytgjeejgmphaliaadoor", sum := "0bf0ea5dab069afeba9c66aaf538d96ea9e3188900d79e06c1fb8b9034f889b3", checked := Tryd.checked }
namespace Rows
def none {H : Type} : Left H := { results := [], args := [] }

/- WHAT THE LISTED PACKAGE-LEVEL VARIABLES READ AS WHEN THE CALL BEGINS. Each datum BY PROGRAM (the guide's laid-datum.mjs) off the statement by which the dump's own 'gosem.cut.vars' lays the variable. In a bare row this is a premise. The card (YtgjeejgmphaliaaDoorCards.lean) ties it to the program's text. -/
def laid_unicode_utf8_acceptRanges {H : Type} : DataW H := .agg [.agg [.lit (.int .u8 128), .lit (.int .u8 191)], .agg [.lit (.int .u8 160), .lit (.int .u8 191)], .agg [.lit (.int .u8 128), .lit (.int .u8 159)], .agg [.lit (.int .u8 144), .lit (.int .u8 191)], .agg [.lit (.int .u8 128), .lit (.int .u8 143)], .agg [.lit (.int .u8 0), .lit (.int .u8 0)], .agg [.lit (.int .u8 0), .lit (.int .u8 0)], .agg [.lit (.int .u8 0), .lit (.int .u8 0)], .agg [.lit (.int .u8 0), .lit (.int .u8 0)], .agg [.lit (.int .u8 0), .lit (.int .u8 0)], .agg [.lit (.int .u8 0), .lit (.int .u8 0)], .agg [.lit (.int .u8 0), .lit (.int .u8 0)], .agg [.lit (.int .u8 0), .lit (.int .u8 0)], .agg [.lit (.int .u8 0), .lit (.int .u8 0)], .agg [.lit (.int .u8 0), .lit (.int .u8 0)], .agg [.lit (.int .u8 0), .lit (.int .u8 0)]]
/-- One of Go's own tables, pinned by name: the form's constant. -/
def laid_unicode_utf8_first : DataW Unit := Go.Pinned.utf8First
def laid_securelink_der_contents {H : Type} : DataW H := .iface "func table" (.map [(.int .u8 1, .iface "func" (.lit (.string [115, 101, 99, 117, 114, 101, 108, 105, 110, 107, 47, 100, 101, 114, 46, 99, 111, 110, 116, 101, 110, 116, 115, 36, 49]))), (.int .u8 2, .iface "func" (.lit (.string [115, 101, 99, 117, 114, 101, 108, 105, 110, 107, 47, 100, 101, 114, 46, 105, 115, 73, 110, 116, 101, 103, 101, 114]))), (.int .u8 3, .iface "func" (.lit (.string [115, 101, 99, 117, 114, 101, 108, 105, 110, 107, 47, 100, 101, 114, 46, 105, 115, 66, 105, 116, 115]))), (.int .u8 4, .iface "func" (.lit (.string [115, 101, 99, 117, 114, 101, 108, 105, 110, 107, 47, 100, 101, 114, 46, 99, 111, 110, 116, 101, 110, 116, 115, 36, 50]))), (.int .u8 5, .iface "func" (.lit (.string [115, 101, 99, 117, 114, 101, 108, 105, 110, 107, 47, 100, 101, 114, 46, 99, 111, 110, 116, 101, 110, 116, 115, 36, 51]))), (.int .u8 6, .iface "func" (.lit (.string [115, 101, 99, 117, 114, 101, 108, 105, 110, 107, 47, 100, 101, 114, 46, 99, 111, 110, 116, 101, 110, 116, 115, 36, 52]))), (.int .u8 12, .iface "func" (.lit (.string [117, 110, 105, 99, 111, 100, 101, 47, 117, 116, 102, 56, 46, 86, 97, 108, 105, 100]))), (.int .u8 19, .iface "func" (.lit (.string [115, 101, 99, 117, 114, 101, 108, 105, 110, 107, 47, 100, 101, 114, 46, 99, 111, 110, 116, 101, 110, 116, 115, 36, 53]))), (.int .u8 22, .iface "func" (.lit (.string [115, 101, 99, 117, 114, 101, 108, 105, 110, 107, 47, 100, 101, 114, 46, 99, 111, 110, 116, 101, 110, 116, 115, 36, 54]))), (.int .u8 23, .iface "func" (.lit (.string [115, 101, 99, 117, 114, 101, 108, 105, 110, 107, 47, 100, 101, 114, 46, 99, 111, 110, 116, 101, 110, 116, 115, 36, 55]))), (.int .u8 24, .iface "func" (.lit (.string [115, 101, 99, 117, 114, 101, 108, 105, 110, 107, 47, 100, 101, 114, 46, 99, 111, 110, 116, 101, 110, 116, 115, 36, 56])))])
def laid_math_bits_deBruijn32tab {H : Type} : DataW H := .agg [.lit (.int .u8 0), .lit (.int .u8 1), .lit (.int .u8 28), .lit (.int .u8 2), .lit (.int .u8 29), .lit (.int .u8 14), .lit (.int .u8 24), .lit (.int .u8 3), .lit (.int .u8 30), .lit (.int .u8 22), .lit (.int .u8 20), .lit (.int .u8 15), .lit (.int .u8 25), .lit (.int .u8 17), .lit (.int .u8 4), .lit (.int .u8 8), .lit (.int .u8 31), .lit (.int .u8 27), .lit (.int .u8 13), .lit (.int .u8 23), .lit (.int .u8 21), .lit (.int .u8 19), .lit (.int .u8 16), .lit (.int .u8 7), .lit (.int .u8 26), .lit (.int .u8 12), .lit (.int .u8 18), .lit (.int .u8 6), .lit (.int .u8 11), .lit (.int .u8 5), .lit (.int .u8 10), .lit (.int .u8 9)]
def laid_math_bits_deBruijn64tab {H : Type} : DataW H := .agg [.lit (.int .u8 0), .lit (.int .u8 1), .lit (.int .u8 56), .lit (.int .u8 2), .lit (.int .u8 57), .lit (.int .u8 49), .lit (.int .u8 28), .lit (.int .u8 3), .lit (.int .u8 61), .lit (.int .u8 58), .lit (.int .u8 42), .lit (.int .u8 50), .lit (.int .u8 38), .lit (.int .u8 29), .lit (.int .u8 17), .lit (.int .u8 4), .lit (.int .u8 62), .lit (.int .u8 47), .lit (.int .u8 59), .lit (.int .u8 36), .lit (.int .u8 45), .lit (.int .u8 43), .lit (.int .u8 51), .lit (.int .u8 22), .lit (.int .u8 53), .lit (.int .u8 39), .lit (.int .u8 33), .lit (.int .u8 30), .lit (.int .u8 24), .lit (.int .u8 18), .lit (.int .u8 12), .lit (.int .u8 5), .lit (.int .u8 63), .lit (.int .u8 55), .lit (.int .u8 48), .lit (.int .u8 27), .lit (.int .u8 60), .lit (.int .u8 41), .lit (.int .u8 37), .lit (.int .u8 16), .lit (.int .u8 46), .lit (.int .u8 35), .lit (.int .u8 44), .lit (.int .u8 21), .lit (.int .u8 52), .lit (.int .u8 32), .lit (.int .u8 23), .lit (.int .u8 11), .lit (.int .u8 54), .lit (.int .u8 26), .lit (.int .u8 40), .lit (.int .u8 15), .lit (.int .u8 34), .lit (.int .u8 20), .lit (.int .u8 31), .lit (.int .u8 10), .lit (.int .u8 25), .lit (.int .u8 14), .lit (.int .u8 19), .lit (.int .u8 9), .lit (.int .u8 13), .lit (.int .u8 8), .lit (.int .u8 7), .lit (.int .u8 6)]
def laid_internal_strconv_uint64pow10 {H : Type} : DataW H := .agg [.lit (.int .u64 1), .lit (.int .u64 10), .lit (.int .u64 100), .lit (.int .u64 1000), .lit (.int .u64 10000), .lit (.int .u64 100000), .lit (.int .u64 1000000), .lit (.int .u64 10000000), .lit (.int .u64 100000000), .lit (.int .u64 1000000000), .lit (.int .u64 10000000000), .lit (.int .u64 100000000000), .lit (.int .u64 1000000000000), .lit (.int .u64 10000000000000), .lit (.int .u64 100000000000000), .lit (.int .u64 1000000000000000), .lit (.int .u64 10000000000000000), .lit (.int .u64 100000000000000000), .lit (.int .u64 1000000000000000000), .lit (.int .u64 10000000000000000000)]
def laid_strconv_ErrRange {H : Type} : DataW H := .iface "*errors.errorString" (.ptr (.agg [.lit (.string [118, 97, 108, 117, 101, 32, 111, 117, 116, 32, 111, 102, 32, 114, 97, 110, 103, 101])]))
def laid_strconv_ErrSyntax {H : Type} : DataW H := .iface "*errors.errorString" (.ptr (.agg [.lit (.string [105, 110, 118, 97, 108, 105, 100, 32, 115, 121, 110, 116, 97, 120])]))

/-- 'securelinklaw7.DerTimes': WHATEVER THE INPUT: true; the input reads as it did. -/
def derTimesSpec : ChangeSpec := { name := "derTimes", fn := fun _ => fun
  | [d1, d2, d3] => { results := [.lit (.bool true)], args := [d1, d2, d3] }
  | _ => none }
def derTimesRow : OpenClaim := { program := "ytgjeejgmphaliaadoor", sum := "0bf0ea5dab069afeba9c66aaf538d96ea9e3188900d79e06c1fb8b9034f889b3", func := "securelink/securelinklaw7.DerTimes", spec := "derTimes", unfollowed := true, recurses := true, named := ["unicode/utf8.first", "unicode/utf8.acceptRanges"], apart := false, laid := [("unicode/utf8.acceptRanges", laid_unicode_utf8_acceptRanges), ("unicode/utf8.first", laid_unicode_utf8_first)] }
def DerTimesSaid : Prop := derTimesRow.holds Tryd.pinned (OpenSpec.ofChange derTimesSpec)

/-- ITS FALSE NEIGHBOUR: 'it returns false'. Refute it at one input. -/
def derTimesWrong : ChangeSpec := { name := "derTimes", fn := fun _ => fun
  | [d1, d2, d3] => { results := [.lit (.bool false)], args := [d1, d2, d3] }
  | _ => none }
def DerTimesWrongFalsely : Prop := derTimesRow.holds Tryd.pinned (OpenSpec.ofChange derTimesWrong)

/-- 'securelinklaw7.DerPrints': WHATEVER THE INPUT: true; the input reads as it did. -/
def derPrintsSpec : ChangeSpec := { name := "derPrints", fn := fun _ => fun
  | [d] => { results := [.lit (.bool true)], args := [d] }
  | _ => none }
def derPrintsRow : OpenClaim := { program := "ytgjeejgmphaliaadoor", sum := "0bf0ea5dab069afeba9c66aaf538d96ea9e3188900d79e06c1fb8b9034f889b3", func := "securelink/securelinklaw7.DerPrints", spec := "derPrints", inPlace := ["internal/bytealg.Compare"], unfollowed := true, recurses := true, named := ["securelink/der.contents", "unicode/utf8.first", "unicode/utf8.acceptRanges"], apart := false, laid := [("unicode/utf8.acceptRanges", laid_unicode_utf8_acceptRanges), ("securelink/der.contents", laid_securelink_der_contents), ("unicode/utf8.first", laid_unicode_utf8_first)] }
def DerPrintsSaid : Prop := derPrintsRow.holds Tryd.pinned (OpenSpec.ofChange derPrintsSpec)

/-- ITS FALSE NEIGHBOUR: 'it returns false'. Refute it at one input. -/
def derPrintsWrong : ChangeSpec := { name := "derPrints", fn := fun _ => fun
  | [d] => { results := [.lit (.bool false)], args := [d] }
  | _ => none }
def DerPrintsWrongFalsely : Prop := derPrintsRow.holds Tryd.pinned (OpenSpec.ofChange derPrintsWrong)

/-- 'securelinklaw7.DerParses': WHATEVER THE INPUT: true; the input reads as it did. -/
def derParsesSpec : ChangeSpec := { name := "derParses", fn := fun _ => fun
  | [d] => { results := [.lit (.bool true)], args := [d] }
  | _ => none }
def derParsesRow : OpenClaim := { program := "ytgjeejgmphaliaadoor", sum := "0bf0ea5dab069afeba9c66aaf538d96ea9e3188900d79e06c1fb8b9034f889b3", func := "securelink/securelinklaw7.DerParses", spec := "derParses", inPlace := ["internal/bytealg.Compare"], unfollowed := true, recurses := true, named := ["securelink/der.contents", "unicode/utf8.first", "unicode/utf8.acceptRanges"], apart := false, laid := [("unicode/utf8.acceptRanges", laid_unicode_utf8_acceptRanges), ("securelink/der.contents", laid_securelink_der_contents), ("unicode/utf8.first", laid_unicode_utf8_first)] }
def DerParsesSaid : Prop := derParsesRow.holds Tryd.pinned (OpenSpec.ofChange derParsesSpec)

/-- ITS FALSE NEIGHBOUR: 'it returns false'. Refute it at one input. -/
def derParsesWrong : ChangeSpec := { name := "derParses", fn := fun _ => fun
  | [d] => { results := [.lit (.bool false)], args := [d] }
  | _ => none }
def DerParsesWrongFalsely : Prop := derParsesRow.holds Tryd.pinned (OpenSpec.ofChange derParsesWrong)

/-- 'securelinklaw7.DerNumbers': WHATEVER THE INPUT: true; the input reads as it did. -/
def derNumbersSpec : ChangeSpec := { name := "derNumbers", fn := fun _ => fun
  | [d1, d2] => { results := [.lit (.bool true)], args := [d1, d2] }
  | _ => none }
def derNumbersRow : OpenClaim := { program := "ytgjeejgmphaliaadoor", sum := "0bf0ea5dab069afeba9c66aaf538d96ea9e3188900d79e06c1fb8b9034f889b3", func := "securelink/securelinklaw7.DerNumbers", spec := "derNumbers", unfollowed := true, recurses := true, named := ["unicode/utf8.first", "unicode/utf8.acceptRanges", "securelink/der.contents"], apart := false, laid := [("unicode/utf8.acceptRanges", laid_unicode_utf8_acceptRanges), ("securelink/der.contents", laid_securelink_der_contents), ("unicode/utf8.first", laid_unicode_utf8_first)] }
def DerNumbersSaid : Prop := derNumbersRow.holds Tryd.pinned (OpenSpec.ofChange derNumbersSpec)

/-- ITS FALSE NEIGHBOUR: 'it returns false'. Refute it at one input. -/
def derNumbersWrong : ChangeSpec := { name := "derNumbers", fn := fun _ => fun
  | [d1, d2] => { results := [.lit (.bool false)], args := [d1, d2] }
  | _ => none }
def DerNumbersWrongFalsely : Prop := derNumbersRow.holds Tryd.pinned (OpenSpec.ofChange derNumbersWrong)

/-- 'securelinklaw7.DerNames': WHATEVER THE INPUT: true; the input reads as it did. -/
def derNamesSpec : ChangeSpec := { name := "derNames", fn := fun _ => fun
  | [d1, d2, d3] => { results := [.lit (.bool true)], args := [d1, d2, d3] }
  | _ => none }
def derNamesRow : OpenClaim := { program := "ytgjeejgmphaliaadoor", sum := "0bf0ea5dab069afeba9c66aaf538d96ea9e3188900d79e06c1fb8b9034f889b3", func := "securelink/securelinklaw7.DerNames", spec := "derNames", inPlace := ["internal/bytealg.CountString", "internal/bytealg.IndexByteString", "internal/bytealg.IndexString", "slices.overlaps[byte]"], unfollowed := true, recurses := true, named := ["unicode/utf8.first", "unicode/utf8.acceptRanges", "internal/bytealg.MaxLen", "strconv.ErrSyntax", "strconv.ErrRange", "internal/strconv.uint64pow10", "math/bits.deBruijn32tab", "math/bits.deBruijn64tab", "securelink/der.contents"], apart := false, laid := [("math/bits.deBruijn32tab", laid_math_bits_deBruijn32tab), ("math/bits.deBruijn64tab", laid_math_bits_deBruijn64tab), ("internal/strconv.uint64pow10", laid_internal_strconv_uint64pow10), ("unicode/utf8.acceptRanges", laid_unicode_utf8_acceptRanges), ("strconv.ErrRange", laid_strconv_ErrRange), ("strconv.ErrSyntax", laid_strconv_ErrSyntax), ("securelink/der.contents", laid_securelink_der_contents), ("unicode/utf8.first", laid_unicode_utf8_first)] }
def DerNamesSaid : Prop := derNamesRow.holds Tryd.pinned (OpenSpec.ofChange derNamesSpec)

/-- ITS FALSE NEIGHBOUR: 'it returns false'. Refute it at one input. -/
def derNamesWrong : ChangeSpec := { name := "derNames", fn := fun _ => fun
  | [d1, d2, d3] => { results := [.lit (.bool false)], args := [d1, d2, d3] }
  | _ => none }
def DerNamesWrongFalsely : Prop := derNamesRow.holds Tryd.pinned (OpenSpec.ofChange derNamesWrong)

/- THE SECOND FORM. 'bulk': how many values and letters a reading holds, each counted each time it is reached (what is shared counts as often as it is met; a slice's spare places count too). A statement '..UptoSaid' is the law's where the arguments, and the package variables that the reading takes, are together of bulk at most 1048576: NARROWER than '..Said'. Prove '..Said' where nothing that the law and all that it calls make is longer than what came in: it says more and counts as full. Else prove '..UptoSaid'. A law counts once. -/
mutual
def uptoBulk {H : Type} : DataW H → Nat
  | .lit (.string bytes) => bytes.length + 1
  | .lit _ => 1
  | .nil => 1
  | .ptr d => uptoBulk d + 1
  | .slice elems spare => uptoBulkAll elems + uptoBulkAll spare + 1
  | .agg parts => uptoBulkAll parts + 1
  | .iface _ d => uptoBulk d + 1
  | .map entries => uptoBulkEntries entries + 1
  | .held _ => 1
def uptoBulkAll {H : Type} : List (DataW H) → Nat
  | [] => 0
  | d :: r => uptoBulk d + uptoBulkAll r
def uptoBulkEntries {H : Type} : List (Lit × DataW H) → Nat
  | [] => 0
  | x :: r => uptoBulkEntry x + uptoBulkEntries r
def uptoBulkEntry {H : Type} : Lit × DataW H → Nat
  | (.string bytes, d) => bytes.length + uptoBulk d + 1
  | (_, d) => uptoBulk d + 1
 end
def uptoSmall : (H : Type) → List (DataW H) → Bool := fun _ ds => decide (uptoBulkAll ds ≤ 1048576)
def OpenSpec.upto (s : _root_.Go.ChangeSpec) : _root_.Go.OpenSpec := { _root_.Go.OpenSpec.ofChange s with cond := some uptoSmall }

/-- 'securelinklaw7.DerTimes', WHERE WHAT IT READS IS OF BULK AT MOST 1048576: true; the input reads as it did. -/
def derTimesUptoRow : OpenClaim := { program := "ytgjeejgmphaliaadoor", sum := "0bf0ea5dab069afeba9c66aaf538d96ea9e3188900d79e06c1fb8b9034f889b3", func := "securelink/securelinklaw7.DerTimes", spec := "derTimes", unfollowed := true, recurses := true, named := ["unicode/utf8.first", "unicode/utf8.acceptRanges"], apart := false, laid := [("unicode/utf8.acceptRanges", laid_unicode_utf8_acceptRanges), ("unicode/utf8.first", laid_unicode_utf8_first)], narrowed := true }
def DerTimesUptoSaid : Prop := derTimesUptoRow.holds Tryd.pinned (OpenSpec.upto derTimesSpec)

/-- 'securelinklaw7.DerPrints', WHERE WHAT IT READS IS OF BULK AT MOST 1048576: true; the input reads as it did. -/
def derPrintsUptoRow : OpenClaim := { program := "ytgjeejgmphaliaadoor", sum := "0bf0ea5dab069afeba9c66aaf538d96ea9e3188900d79e06c1fb8b9034f889b3", func := "securelink/securelinklaw7.DerPrints", spec := "derPrints", inPlace := ["internal/bytealg.Compare"], unfollowed := true, recurses := true, named := ["securelink/der.contents", "unicode/utf8.first", "unicode/utf8.acceptRanges"], apart := false, laid := [("unicode/utf8.acceptRanges", laid_unicode_utf8_acceptRanges), ("securelink/der.contents", laid_securelink_der_contents), ("unicode/utf8.first", laid_unicode_utf8_first)], narrowed := true }
def DerPrintsUptoSaid : Prop := derPrintsUptoRow.holds Tryd.pinned (OpenSpec.upto derPrintsSpec)

/-- 'securelinklaw7.DerParses', WHERE WHAT IT READS IS OF BULK AT MOST 1048576: true; the input reads as it did. -/
def derParsesUptoRow : OpenClaim := { program := "ytgjeejgmphaliaadoor", sum := "0bf0ea5dab069afeba9c66aaf538d96ea9e3188900d79e06c1fb8b9034f889b3", func := "securelink/securelinklaw7.DerParses", spec := "derParses", inPlace := ["internal/bytealg.Compare"], unfollowed := true, recurses := true, named := ["securelink/der.contents", "unicode/utf8.first", "unicode/utf8.acceptRanges"], apart := false, laid := [("unicode/utf8.acceptRanges", laid_unicode_utf8_acceptRanges), ("securelink/der.contents", laid_securelink_der_contents), ("unicode/utf8.first", laid_unicode_utf8_first)], narrowed := true }
def DerParsesUptoSaid : Prop := derParsesUptoRow.holds Tryd.pinned (OpenSpec.upto derParsesSpec)

/-- 'securelinklaw7.DerNumbers', WHERE WHAT IT READS IS OF BULK AT MOST 1048576: true; the input reads as it did. -/
def derNumbersUptoRow : OpenClaim := { program := "ytgjeejgmphaliaadoor", sum := "0bf0ea5dab069afeba9c66aaf538d96ea9e3188900d79e06c1fb8b9034f889b3", func := "securelink/securelinklaw7.DerNumbers", spec := "derNumbers", unfollowed := true, recurses := true, named := ["unicode/utf8.first", "unicode/utf8.acceptRanges", "securelink/der.contents"], apart := false, laid := [("unicode/utf8.acceptRanges", laid_unicode_utf8_acceptRanges), ("securelink/der.contents", laid_securelink_der_contents), ("unicode/utf8.first", laid_unicode_utf8_first)], narrowed := true }
def DerNumbersUptoSaid : Prop := derNumbersUptoRow.holds Tryd.pinned (OpenSpec.upto derNumbersSpec)

/-- 'securelinklaw7.DerNames', WHERE WHAT IT READS IS OF BULK AT MOST 1048576: true; the input reads as it did. -/
def derNamesUptoRow : OpenClaim := { program := "ytgjeejgmphaliaadoor", sum := "0bf0ea5dab069afeba9c66aaf538d96ea9e3188900d79e06c1fb8b9034f889b3", func := "securelink/securelinklaw7.DerNames", spec := "derNames", inPlace := ["internal/bytealg.CountString", "internal/bytealg.IndexByteString", "internal/bytealg.IndexString", "slices.overlaps[byte]"], unfollowed := true, recurses := true, named := ["unicode/utf8.first", "unicode/utf8.acceptRanges", "internal/bytealg.MaxLen", "strconv.ErrSyntax", "strconv.ErrRange", "internal/strconv.uint64pow10", "math/bits.deBruijn32tab", "math/bits.deBruijn64tab", "securelink/der.contents"], apart := false, laid := [("math/bits.deBruijn32tab", laid_math_bits_deBruijn32tab), ("math/bits.deBruijn64tab", laid_math_bits_deBruijn64tab), ("internal/strconv.uint64pow10", laid_internal_strconv_uint64pow10), ("unicode/utf8.acceptRanges", laid_unicode_utf8_acceptRanges), ("strconv.ErrRange", laid_strconv_ErrRange), ("strconv.ErrSyntax", laid_strconv_ErrSyntax), ("securelink/der.contents", laid_securelink_der_contents), ("unicode/utf8.first", laid_unicode_utf8_first)], narrowed := true }
def DerNamesUptoSaid : Prop := derNamesUptoRow.holds Tryd.pinned (OpenSpec.upto derNamesSpec)

end Rows
end Go.Proofs.YtgjeejgmphaliaaDoor
