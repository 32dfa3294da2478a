/-
  The words of the stream: what low32, word, newWords come to.
-/
import Derived.Test.YtdocbmgledebaaaQ
namespace Go.Proofs.Ytdocbmgledebaaa
set_option linter.unusedVariables false
set_option linter.unusedSimpArgs false
open Go.RowKit Go.Proofs.YtdocbmgledebaaaW.PrintWords

set_option maxRecDepth 100000 in
theorem low32_any (A : Option Addr) (n c : Nat) (xs : List Int) (w : World) (h : ReadsInt w .u8 A n xs) (hn : 4 ≤ n) (hb : Byt xs) :
    Calls Try.prog 33 #[.slice A n c] w fun e w' => e = .returned (.int .u32 (le4 (el xs 0) (el xs 1) (el xs 2) (el xs 3))) ∧ ∃ m, w' = w.drewN m := by
  obtain ⟨g, o, rfl, hc⟩ := rd_open h (by omega)
  have c0 := hc 0 (by omega)
  have c1 := hc 1 (by omega)
  have c2 := hc 2 (by omega)
  have c3 := hc 3 (by omega)
  have n0 : (0 : Int) < (n : Int) := by omega
  have n1 : (1 : Int) < (n : Int) := by omega
  have n2 : (2 : Int) < (n : Int) := by omega
  have n3 : (3 : Int) < (n : Int) := by omega
  rw [Nat.add_zero] at c0
  clear hc
  go_enter Try.func33, Try.ntmps33
  go_wp2
  go_quiet (fail)
  go_wp2
  go_ret
  rw [← le4_bits _ _ _ _ (hb.el 0) (hb.el 1) (hb.el 2) (hb.el 3)]
  exact ⟨rfl, _, rfl⟩

set_option maxRecDepth 100000 in
theorem word_any (s : ByteArray) (w : World) (hn : 4 ≤ s.size) :
    Calls Try.prog 24 #[.string s] w fun e w' => e = .returned (.int .u32 (le4 (el (bytesOf s) 0) (el (bytesOf s) 1) (el (bytesOf s) 2) (el (bytesOf s) 3))) ∧ ∃ m, w' = w.drewN m := by
  have n0 : (0 : Int) < (s.size : Int) := by omega
  have n1 : (1 : Int) < (s.size : Int) := by omega
  have n2 : (2 : Int) < (s.size : Int) := by omega
  have n3 : (3 : Int) < (s.size : Int) := by omega
  have q0 : 0 < s.size := by omega
  have q1 : 1 < s.size := by omega
  have q2 : 2 < s.size := by omega
  have q3 : 3 < s.size := by omega
  have x0 := byt_at s 0
  have x1 := byt_at s 1
  have x2 := byt_at s 2
  have x3 := byt_at s 3
  go_enter Try.func24, Try.ntmps24
  go_wp2
  go_quiet (fail)
  go_wp2
  go_ret
  have hb := Byt.of s
  rw [← le4_bits _ _ _ _ (hb.el 0) (hb.el 1) (hb.el 2) (hb.el 3)]
  exact ⟨rfl, _, rfl⟩
end Go.Proofs.Ytdocbmgledebaaa
