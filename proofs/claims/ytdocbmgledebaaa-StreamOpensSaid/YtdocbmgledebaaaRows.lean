/-
  No cell of these rows narrows 'for every input' (looked for: loops, veiled, ifaces, maps, wideKeys, modest, calm, conditions, laid).
  DERIVED. THE GIVEN ROWS OF THIS SEAT. 4 by the template 'for every input the law returns true; each argument reads behind the call as it read before'; 0 by the template 'total and deterministic' (their statements: YtdocbmgledebaaaTotals.lean).
  GIVEN WITH THE SEED: the statements are not yours to turn. If you find one false, say at which input.
  Laid BY PROGRAM, IN A SANDBOX (cutbox-rows.mjs): the forced cells as the released guide's own fill.sh prints them over the translation 3c35b98c141c1c7b… (all of the seat's roots in one cut). By AI agents, Wed Nov 11 2026. No macro, syntax, notation, axiom, sorry.
-/
import Derived.Test.YtdocbmgledebaaaChecked
import GoSem.Claim
import GoSem.ClaimJoined
import GoSem.ClaimMapViews
import Derived.JoinedTies
import Derived.KernelRfl
namespace Go.Proofs.Ytdocbmgledebaaa
/- THE CELL 'sum', in the pinned program and in every row, IS THE sha256 OF THE DUMP (.gsa) THAT YtdocbmgledebaaaProg.lean LOADS. Nothing in Lean hashes anything: it is a label: what it is worth is what the hold of that sum in a sandbox is worth. -/
noncomputable def Try.pinned : Pinned := { name := "ytdocbmgledebaaa", sum := "3c35b98c141c1c7ba652b44fa9a99fa736f8abf1f72ff602a5af79cfa1b223ed", checked := Try.checked }
namespace Rows
def none {H : Type} : Left H := { results := [], args := [] }

/-- 'securelinklaw2.StreamBlocks': WHATEVER THE INPUT: true; the input reads as it did. -/
def streamBlocksSpec : ChangeSpec := { name := "streamBlocks", fn := fun _ => fun
  | [d1, d2, d3, d4] => { results := [.lit (.bool true)], args := [d1, d2, d3, d4] }
  | _ => none }
def streamBlocksRow : OpenClaim := { program := "ytdocbmgledebaaa", sum := "3c35b98c141c1c7ba652b44fa9a99fa736f8abf1f72ff602a5af79cfa1b223ed", func := "securelink/securelinklaw2.StreamBlocks", spec := "streamBlocks", apart := false }
def StreamBlocksSaid : Prop := streamBlocksRow.holds Try.pinned (OpenSpec.ofChange streamBlocksSpec)

/-- ITS FALSE NEIGHBOUR: 'it returns false'. Refute it at one input. -/
def streamBlocksWrong : ChangeSpec := { name := "streamBlocks", fn := fun _ => fun
  | [d1, d2, d3, d4] => { results := [.lit (.bool false)], args := [d1, d2, d3, d4] }
  | _ => none }
def StreamBlocksWrongFalsely : Prop := streamBlocksRow.holds Try.pinned (OpenSpec.ofChange streamBlocksWrong)

/-- 'securelinklaw2.StreamPolys': WHATEVER THE INPUT: true; the input reads as it did. -/
def streamPolysSpec : ChangeSpec := { name := "streamPolys", fn := fun _ => fun
  | [d1, d2] => { results := [.lit (.bool true)], args := [d1, d2] }
  | _ => none }
def streamPolysRow : OpenClaim := { program := "ytdocbmgledebaaa", sum := "3c35b98c141c1c7ba652b44fa9a99fa736f8abf1f72ff602a5af79cfa1b223ed", func := "securelink/securelinklaw2.StreamPolys", spec := "streamPolys", inPlace := ["math/bits.Add64"], apart := false }
def StreamPolysSaid : Prop := streamPolysRow.holds Try.pinned (OpenSpec.ofChange streamPolysSpec)

/-- ITS FALSE NEIGHBOUR: 'it returns false'. Refute it at one input. -/
def streamPolysWrong : ChangeSpec := { name := "streamPolys", fn := fun _ => fun
  | [d1, d2] => { results := [.lit (.bool false)], args := [d1, d2] }
  | _ => none }
def StreamPolysWrongFalsely : Prop := streamPolysRow.holds Try.pinned (OpenSpec.ofChange streamPolysWrong)

/-- 'securelinklaw2.StreamSeals': WHATEVER THE INPUT: true; the input reads as it did. -/
def streamSealsSpec : ChangeSpec := { name := "streamSeals", fn := fun _ => fun
  | [d1, d2, d3, d4] => { results := [.lit (.bool true)], args := [d1, d2, d3, d4] }
  | _ => none }
def streamSealsRow : OpenClaim := { program := "ytdocbmgledebaaa", sum := "3c35b98c141c1c7ba652b44fa9a99fa736f8abf1f72ff602a5af79cfa1b223ed", func := "securelink/securelinklaw2.StreamSeals", spec := "streamSeals", inPlace := ["math/bits.Add64"], unfollowed := true, recurses := true, apart := false }
def StreamSealsSaid : Prop := streamSealsRow.holds Try.pinned (OpenSpec.ofChange streamSealsSpec)

/-- ITS FALSE NEIGHBOUR: 'it returns false'. Refute it at one input. -/
def streamSealsWrong : ChangeSpec := { name := "streamSeals", fn := fun _ => fun
  | [d1, d2, d3, d4] => { results := [.lit (.bool false)], args := [d1, d2, d3, d4] }
  | _ => none }
def StreamSealsWrongFalsely : Prop := streamSealsRow.holds Try.pinned (OpenSpec.ofChange streamSealsWrong)

/-- 'securelinklaw2.StreamOpens': WHATEVER THE INPUT: true; the input reads as it did. -/
def streamOpensSpec : ChangeSpec := { name := "streamOpens", fn := fun _ => fun
  | [d1, d2, d3, d4, d5, d6] => { results := [.lit (.bool true)], args := [d1, d2, d3, d4, d5, d6] }
  | _ => none }
def streamOpensRow : OpenClaim := { program := "ytdocbmgledebaaa", sum := "3c35b98c141c1c7ba652b44fa9a99fa736f8abf1f72ff602a5af79cfa1b223ed", func := "securelink/securelinklaw2.StreamOpens", spec := "streamOpens", inPlace := ["math/bits.Add64"], unfollowed := true, recurses := true, apart := false }
def StreamOpensSaid : Prop := streamOpensRow.holds Try.pinned (OpenSpec.ofChange streamOpensSpec)

/-- ITS FALSE NEIGHBOUR: 'it returns false'. Refute it at one input. -/
def streamOpensWrong : ChangeSpec := { name := "streamOpens", fn := fun _ => fun
  | [d1, d2, d3, d4, d5, d6] => { results := [.lit (.bool false)], args := [d1, d2, d3, d4, d5, d6] }
  | _ => none }
def StreamOpensWrongFalsely : Prop := streamOpensRow.holds Try.pinned (OpenSpec.ofChange streamOpensWrong)

/- THE SECOND FORM. 'bulk': how many values and letters a reading holds, each counted each time it is reached (what is shared counts as often as it is met; a slice's spare places count too). A statement '..UptoSaid' is the law's where the arguments, and the package variables that the reading takes, are together of bulk at most 1048576: NARROWER than '..Said'. Prove '..Said' where nothing that the law and all that it calls make is longer than what came in: it says more and counts as full. Else prove '..UptoSaid'. A law counts once. -/
mutual
def uptoBulk {H : Type} : DataW H → Nat
  | .lit (.string bytes) => bytes.length + 1
  | .lit _ => 1
  | .nil => 1
  | .ptr d => uptoBulk d + 1
  | .slice elems spare => uptoBulkAll elems + uptoBulkAll spare + 1
  | .agg parts => uptoBulkAll parts + 1
  | .iface _ d => uptoBulk d + 1
  | .map entries => uptoBulkEntries entries + 1
  | .held _ => 1
def uptoBulkAll {H : Type} : List (DataW H) → Nat
  | [] => 0
  | d :: r => uptoBulk d + uptoBulkAll r
def uptoBulkEntries {H : Type} : List (Lit × DataW H) → Nat
  | [] => 0
  | x :: r => uptoBulkEntry x + uptoBulkEntries r
def uptoBulkEntry {H : Type} : Lit × DataW H → Nat
  | (.string bytes, d) => bytes.length + uptoBulk d + 1
  | (_, d) => uptoBulk d + 1
 end
def uptoSmall : (H : Type) → List (DataW H) → Bool := fun _ ds => decide (uptoBulkAll ds ≤ 1048576)
def OpenSpec.upto (s : _root_.Go.ChangeSpec) : _root_.Go.OpenSpec := { _root_.Go.OpenSpec.ofChange s with cond := some uptoSmall }

/-- 'securelinklaw2.StreamBlocks', WHERE WHAT IT READS IS OF BULK AT MOST 1048576: true; the input reads as it did. -/
def streamBlocksUptoRow : OpenClaim := { program := "ytdocbmgledebaaa", sum := "3c35b98c141c1c7ba652b44fa9a99fa736f8abf1f72ff602a5af79cfa1b223ed", func := "securelink/securelinklaw2.StreamBlocks", spec := "streamBlocks", apart := false, narrowed := true }
def StreamBlocksUptoSaid : Prop := streamBlocksUptoRow.holds Try.pinned (OpenSpec.upto streamBlocksSpec)

/-- 'securelinklaw2.StreamPolys', WHERE WHAT IT READS IS OF BULK AT MOST 1048576: true; the input reads as it did. -/
def streamPolysUptoRow : OpenClaim := { program := "ytdocbmgledebaaa", sum := "3c35b98c141c1c7ba652b44fa9a99fa736f8abf1f72ff602a5af79cfa1b223ed", func := "securelink/securelinklaw2.StreamPolys", spec := "streamPolys", inPlace := ["math/bits.Add64"], apart := false, narrowed := true }
def StreamPolysUptoSaid : Prop := streamPolysUptoRow.holds Try.pinned (OpenSpec.upto streamPolysSpec)

/-- 'securelinklaw2.StreamSeals', WHERE WHAT IT READS IS OF BULK AT MOST 1048576: true; the input reads as it did. -/
def streamSealsUptoRow : OpenClaim := { program := "ytdocbmgledebaaa", sum := "3c35b98c141c1c7ba652b44fa9a99fa736f8abf1f72ff602a5af79cfa1b223ed", func := "securelink/securelinklaw2.StreamSeals", spec := "streamSeals", inPlace := ["math/bits.Add64"], unfollowed := true, recurses := true, apart := false, narrowed := true }
def StreamSealsUptoSaid : Prop := streamSealsUptoRow.holds Try.pinned (OpenSpec.upto streamSealsSpec)

/-- 'securelinklaw2.StreamOpens', WHERE WHAT IT READS IS OF BULK AT MOST 1048576: true; the input reads as it did. -/
def streamOpensUptoRow : OpenClaim := { program := "ytdocbmgledebaaa", sum := "3c35b98c141c1c7ba652b44fa9a99fa736f8abf1f72ff602a5af79cfa1b223ed", func := "securelink/securelinklaw2.StreamOpens", spec := "streamOpens", inPlace := ["math/bits.Add64"], unfollowed := true, recurses := true, apart := false, narrowed := true }
def StreamOpensUptoSaid : Prop := streamOpensUptoRow.holds Try.pinned (OpenSpec.upto streamOpensSpec)

end Rows
end Go.Proofs.Ytdocbmgledebaaa
