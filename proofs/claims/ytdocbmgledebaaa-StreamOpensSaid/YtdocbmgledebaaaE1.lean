/-
  What the tag is taken of: the parts, filled, and their lengths.
-/
import Derived.Test.YtdocbmgledebaaaP6
import Derived.Test.YtdocbmgledebaaaT
namespace Go.Proofs.Ytdocbmgledebaaa
set_option linter.unusedVariables false
set_option linter.unusedSimpArgs false
open Go.RowKit Go.Proofs.YtdocbmgledebaaaW.PrintWords

theorem info_b8 : (Try.prog.info? 5).map (fun i => (i.zero, i.size, i.bytes)) = some (some (.int .u8 0), 1, 1) := by kernel_rfl
theorem i64_and15 (n : Int) : bits .and .i64 n 15 = n % 16 := by
  have h15 : (BitVec.ofInt 64 15).toNat = 2 ^ 4 - 1 := by decide
  have key : (BitVec.ofInt 64 n &&& BitVec.ofInt 64 15).toNat = (n % ((2 ^ 64 : Nat) : Int)).toNat % 2 ^ 4 := by
    rw [BitVec.toNat_and, BitVec.toNat_ofInt, h15, Nat.and_two_pow_sub_one_eq_mod]
  show IntKind.i64.wrap ((BitVec.ofInt 64 n &&& BitVec.ofInt 64 15).toNat : Nat) = n % 16
  rw [key, IntKind.wrap_i64]
  omega
theorem pow_8 (k : Nat) : (2 : Int) ^ (8 * k) = 256 ^ k := by rw [Int.pow_mul]; rfl
theorem leN_snoc (n : Nat) (V : Int) (k : Nat) (h : k < n) : (leN n V).take (k + 1) = (leN n V).take k ++ [V / 2 ^ (8 * k) % 256] := by
  rw [List.take_add_one, List.getElem?_eq_getElem (by rw [leN_len]; exact h), pow_8]
  simp [leN]
def padN (n : Nat) : Nat := (16 - n % 16) % 16
def padL (b : List Int) : List Int := b ++ List.replicate (padN b.length) 0
def partsL (b t : List Int) : List Int := padL b ++ padL t ++ leN 8 b.length ++ leN 8 t.length
theorem padL_byt {b : List Int} (h : Byt b) : Byt (padL b) := fun x hx => by
  rcases List.mem_append.1 hx with hx | hx
  · exact h x hx
  · simp at hx; omega
theorem partsL_byt {b t : List Int} (h : Byt b) (h2 : Byt t) : Byt (partsL b t) := fun x hx => by
  simp only [partsL, List.mem_append] at hx
  rcases hx with ((hx | hx) | hx) | hx
  · exact padL_byt h x hx
  · exact padL_byt h2 x hx
  · exact leN_byt _ _ x hx
  · exact leN_byt _ _ x hx

/-- one of two slices in an array -/
theorem index_pair {P : Program} {T e e2 : TypeId} {i : TypeInfo} (ht : P.underlying T = some (.array 2 e)) (he : P.underlying e = some (.slice e2)) (hi : P.info? e = some i) (hsz : i.size = 1) (x y : Value) (w : World) :
    (Instr.index T (.agg #[x, y]) (.int .i64 0)).run P w = .ok x w ∧ (Instr.index T (.agg #[x, y]) (.int .i64 1)).run P w = .ok y w := by
  constructor
  · simp [Instr.index, run_underlying ht, asIntOf, part, isAgg, run_underlying he, sizeOf, typeInfo, hi, hsz]
  · simp [Instr.index, run_underlying ht, asIntOf, part, isAgg, run_underlying he, sizeOf, typeInfo, hi, hsz]

set_option maxRecDepth 100000 in
theorem pad_any (A : Option Addr) (n c : Nat) (w : World) (hn : n ≤ 1000000) :
    Calls Try.prog 44 #[.slice A n c] w fun e w' =>
      ∃ g, e = .returned (.slice (some ⟨g, 0, none⟩) (padN n) (padN n)) ∧ Blk w' g .u8 5 (List.replicate (padN n) 0) ∧ w.heap.size ≤ g ∧ Below w.heap.size w w' := by
  have hmk := print_make (P := Try.prog) 23 5 .u8 1 Try.underlying23 info_b8 (by omega) (padN n) (by unfold padN; omega)
  have b0 := Blk.made w .u8 5 (padN n)
  have hbel : Below w.heap.size w (w.alloc (.cells (madeCells #[.int .u8 0] (padN n)) 5)) := (Below.refl _ _).alloc (Nat.le_refl _) _
  have hand : bits .and .i64 (-(n : Int)) 15 = ((padN n : Nat) : Int) := by rw [i64_and15]; unfold padN; omega
  go_enter Try.func44, Try.ntmps44
  go_wp2_with fail
  go_ret
  exact ⟨_, rfl, b0, Nat.le_refl _, hbel⟩
end Go.Proofs.Ytdocbmgledebaaa
