/-
  The reference's texts of the stream: low.
-/
import Derived.Test.YtdocbmgledebaaaB
import Derived.Test.YtdocbmgledebaaaLib3
namespace Go.Proofs.Ytdocbmgledebaaa
set_option linter.unusedVariables false
set_option linter.unusedSimpArgs false
open Go.RowKit Go.Proofs.YtdocbmgledebaaaW.PrintWords

def lowL (v : Int) (n : Nat) : List Int := (List.range n).map fun i => v / 256 ^ i % 256

theorem lowL_byt (v : Int) (n : Nat) : Byt (lowL v n) := fun x hx => by
  simp only [lowL, List.mem_map] at hx
  obtain ⟨j, _, rfl⟩ := hx
  omega
theorem lowL_len (v : Int) (n : Nat) : (lowL v n).length = n := by simp [lowL]
theorem lowL_succ (v : Int) (n : Nat) : lowL v (n + 1) = lowL v n ++ [v / 256 ^ n % 256] := by simp [lowL, List.range_succ]
theorem div256 (v : Int) (k : Nat) : v / 256 ^ k / 256 = v / 256 ^ (k + 1) := by
  rw [Int.pow_succ, Int.ediv_ediv_of_nonneg (Int.pow_nonneg (by decide))]
set_option maxRecDepth 100000 in
theorem rlow_any (v : Int) (n : Nat) (w : World) (hv : 0 ≤ v) (hv1 : v ≤ 18446744073709551615) (hn : n ≤ 8) :
    Calls Try.prog 23 #[.int .u64 v, .int .i64 n] w fun e w' => e = .returned (.string (strOfNums (lowL v n))) ∧ Below w.heap.size w w' := by
  go_enter Try.func23, Try.ntmps23
  go_wp2_with fail
  go_loopw [0, 5, 6] (fun x s i wr => ∃ (k : Nat) (t : ByteArray), k ≤ n ∧ i = .int .i64 k ∧ x = .int .u64 (v / 256 ^ k) ∧ s = .string t ∧ Hid (bytesOf t = lowL v k) ∧ Below w.heap.size w wr) (fun _ _ i _ => n - (intOf i).toNat)
  case atStart => exact ⟨0, ⟨#[]⟩, by omega, rfl, by simp, rfl, Go.Lib.hid rfl, Below.refl _ _⟩
  case round =>
    obtain ⟨k, t, hk, rfl, rfl, rfl, ht, hb⟩ := hrel
    by_cases hlt : k < n
    · have hcv := fun x wr => str_one (P := Try.prog) Try.underlying23 Try.underlying5 Try.underlying9 x wr
      have hts : t.size + (strOfNums [v / 256 ^ k % 256]).size ≤ 9 := by rw [size_bytesOf, ht.out, lowL_len, size_str]; simp; omega
      go_wp2_with fail
      clear hcv
      go_roundw
      case rel =>
        refine ⟨k + 1, _, by omega, by go_num, by rw [← div256], rfl, Go.Lib.hid ?_, hb.alloc hb.size _⟩
        rw [bytesOf_append, ht.out, lowL_succ, bytesOf_str]
        intro x hx
        simp at hx
        subst hx
        omega
      case measure => simp [intOf]; omega
    · obtain rfl : k = n := by omega
      go_wp2_with fail
      go_ret
      exact ⟨by rw [← ht.out, strOf_bytes]; rfl, hb⟩
theorem rlow4 (v : Int) (w : World) (hv : 0 ≤ v) (hv1 : v ≤ 18446744073709551615) :
    Calls Try.prog 23 #[.int .u64 v, .int .i64 4] w fun e w' => e = .returned (.string (strOfNums (lowL v 4))) ∧ Below w.heap.size w w' := rlow_any v 4 w hv hv1 (by omega)
theorem rlow8 (v : Int) (w : World) (hv : 0 ≤ v) (hv1 : v ≤ 18446744073709551615) :
    Calls Try.prog 23 #[.int .u64 v, .int .i64 8] w fun e w' => e = .returned (.string (strOfNums (lowL v 8))) ∧ Below w.heap.size w w' := rlow_any v 8 w hv hv1 (by omega)
end Go.Proofs.Ytdocbmgledebaaa
