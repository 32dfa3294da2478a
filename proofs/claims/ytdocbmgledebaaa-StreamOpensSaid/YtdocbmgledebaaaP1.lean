/-
  Words of 64 bits: math/bits' sums and products, low64; a number in three words.
-/
import Derived.Test.YtdocbmgledebaaaW
import Derived.Laws.Externs
import Derived.Laws.Bits64b
import Derived.Lib.Mul64
import Derived.BigQuiet
import Derived.Sort.AtCall
namespace Go.Proofs.Ytdocbmgledebaaa
set_option linter.unusedVariables false
set_option linter.unusedSimpArgs false
open Go.RowKit Go.Proofs.YtdocbmgledebaaaW.PrintWords

theorem add64 (x y c : Int) (hx : 0 ≤ x) (hy : 0 ≤ y) (hc0 : 0 ≤ c) (hc : c ≤ 1) (w : World) : (callFunc 39 #[.int .u64 x, .int .u64 y, .int .u64 c]).run Try.prog w =
    .ok (.value (.tuple #[.int .u64 ((x + y + c) % 18446744073709551616), .int .u64 ((x + y + c) / 18446744073709551616)])) w := by
  rw [run_callFunc_extern Try.func39 (by kernel_rfl) (by kernel_rfl) (by kernel_rfl) (e := add64Entry) (by kernel_rfl), run_add64 x y c hx hy hc0 hc]
  rfl
theorem add64_0 (x y : Int) (hx : 0 ≤ x) (hy : 0 ≤ y) (w : World) : (callFunc 39 #[.int .u64 x, .int .u64 y, .int .u64 0]).run Try.prog w =
    .ok (.value (.tuple #[.int .u64 ((x + y) % 18446744073709551616), .int .u64 ((x + y) / 18446744073709551616)])) w := by
  simpa using add64 x y 0 hx hy (Int.le_refl 0) (by decide) w

def Word (x : Int) : Prop := 0 ≤ x ∧ x ≤ 18446744073709551615
theorem maskI (a : Int) (ha : Word a) : bits .and .u64 a 4294967295 = a % 4294967296 := by
  obtain ⟨a, rfl⟩ := Int.eq_ofNat_of_zero_le ha.1
  have h := bits_and_u64_nat a 4294967295 (by have := ha.2; omega) (by omega)
  have e : a &&& 4294967295 = a % 4294967296 := Nat.and_two_pow_sub_one_eq_mod a 32
  rw [e] at h
  exact h.trans (by omega)
theorem mul64_hiI (x y : Int) (hx : Word x) (hy : Word y) :
    (0 ≤ (x % 4294967296) * (y % 4294967296) ∧ (x % 4294967296) * (y % 4294967296) < 18446744073709551616) ∧
    (0 ≤ (x / 4294967296) * (y / 4294967296) ∧ (x / 4294967296) * (y / 4294967296) < 18446744073709551616) ∧
    (0 ≤ (x / 4294967296) * (y % 4294967296) ∧ (x / 4294967296) * (y % 4294967296) + (x % 4294967296) * (y % 4294967296) / 4294967296 < 18446744073709551616) ∧
    (0 ≤ (x % 4294967296) * (y / 4294967296) ∧ ((x / 4294967296) * (y % 4294967296) + (x % 4294967296) * (y % 4294967296) / 4294967296) % 4294967296 + (x % 4294967296) * (y / 4294967296) < 18446744073709551616) ∧
    (x / 4294967296) * (y / 4294967296) + ((x / 4294967296) * (y % 4294967296) + (x % 4294967296) * (y % 4294967296) / 4294967296) / 4294967296 +
      (((x / 4294967296) * (y % 4294967296) + (x % 4294967296) * (y % 4294967296) / 4294967296) % 4294967296 + (x % 4294967296) * (y / 4294967296)) / 4294967296 = x * y / 18446744073709551616 ∧
    x * y / 18446744073709551616 < 18446744073709551616 := by
  obtain ⟨hx0, hx1⟩ := hx
  obtain ⟨hy0, hy1⟩ := hy
  obtain ⟨x, rfl⟩ := Int.eq_ofNat_of_zero_le hx0
  obtain ⟨y, rfl⟩ := Int.eq_ofNat_of_zero_le hy0
  obtain ⟨bd, bt, bw, hhi⟩ := Lib.mul64_hi x y (by omega) (by omega)
  have ba := Lib.half_mul_le (a := x / 4294967296) (b := y / 4294967296) (by omega) (by omega)
  have hm : x * y ≤ 18446744073709551615 * 18446744073709551615 := Nat.mul_le_mul (by omega) (by omega)
  have e1 : (x : Int) % 4294967296 = ((x % 4294967296 : Nat) : Int) := by omega
  have e2 : (y : Int) % 4294967296 = ((y % 4294967296 : Nat) : Int) := by omega
  have e3 : (x : Int) / 4294967296 = ((x / 4294967296 : Nat) : Int) := by omega
  have e4 : (y : Int) / 4294967296 = ((y / 4294967296 : Nat) : Int) := by omega
  rw [e1, e2, e3, e4]
  simp only [← Int.natCast_mul]
  generalize x / 4294967296 * (y / 4294967296) = a at *
  generalize x / 4294967296 * (y % 4294967296) = b at *
  generalize x % 4294967296 * (y / 4294967296) = c at *
  generalize x % 4294967296 * (y % 4294967296) = d at *
  generalize x * y = t at *
  refine ⟨⟨by omega, by omega⟩, ⟨by omega, by omega⟩, ⟨by omega, by omega⟩, ⟨by omega, by omega⟩, by omega, by omega⟩

set_option maxRecDepth 100000 in
theorem mul64 (x y : Int) (hx : Word x) (hy : Word y) (w : World) :
    Calls Try.prog 43 #[.int .u64 x, .int .u64 y] w fun e w' => e = .returned (.tuple #[.int .u64 (x * y / 18446744073709551616), .int .u64 (x * y % 18446744073709551616)]) ∧ w' = w := by
  obtain ⟨⟨d0, d1⟩, ⟨a0, a1⟩, ⟨b0, b1⟩, ⟨c0, c1⟩, hh, hb⟩ := mul64_hiI x y hx hy
  have m1 := maskI x hx
  have m2 := maskI y hy
  have hx0 := hx.1
  have hy0 := hy.1
  generalize eA : x / 4294967296 * (y / 4294967296) = A at *
  generalize eB : x / 4294967296 * (y % 4294967296) = B at *
  generalize eC : x % 4294967296 * (y / 4294967296) = C at *
  generalize eD : x % 4294967296 * (y % 4294967296) = D at *
  have m3 := maskI (B + D / 4294967296) ⟨by omega, by omega⟩
  have hpos : 0 ≤ x * y / 18446744073709551616 := by omega
  have k1 : D % 18446744073709551616 = D := by omega
  have k2 : B % 18446744073709551616 = B := by omega
  have k3 : (B + D / 4294967296) % 18446744073709551616 = B + D / 4294967296 := by omega
  have k4 : C % 18446744073709551616 = C := by omega
  have k5 : ((B + D / 4294967296) % 4294967296 + C) % 18446744073709551616 = (B + D / 4294967296) % 4294967296 + C := by omega
  have k6 : A % 18446744073709551616 = A := by omega
  have k7 : (A + (B + D / 4294967296) / 4294967296) % 18446744073709551616 = A + (B + D / 4294967296) / 4294967296 := by omega
  have k8 : (x * y / 18446744073709551616) % 18446744073709551616 = x * y / 18446744073709551616 := by omega
  go_enter Try.func43, Try.ntmps43
  go_wp2
  go_ret2
  exact ⟨by rw [← IntKind.wrap_u64]; rfl, rfl⟩

/-! ### eight bytes as a number -/
def w8 (l : List Int) (i : Nat) : Int := w4 l i + 4294967296 * w4 l (i + 4)
theorem or_u64 (a b : Int) (ha : 0 ≤ a) (ha2 : a ≤ 4294967295) (hb : 0 ≤ b) (hb2 : b ≤ 4294967295) : bits .or .u64 a (b * 4294967296) = a + 4294967296 * b := by
  obtain ⟨a, rfl⟩ := Int.eq_ofNat_of_zero_le ha
  obtain ⟨b, rfl⟩ := Int.eq_ofNat_of_zero_le hb
  have h := bits_or_u64_nat a (2 ^ 32 * b) (by omega) (by omega)
  have e : a ||| 2 ^ 32 * b = a + 2 ^ 32 * b := by rw [Nat.add_comm, Nat.two_pow_add_eq_or_of_lt (by omega), Nat.or_comm]
  rw [e] at h
  rw [show (b : Int) * 4294967296 = ((2 ^ 32 * b : Nat) : Int) from by omega, h]
  omega
theorem w4_range (l : List Int) (h : Byt l) (i : Nat) : 0 ≤ w4 l i ∧ w4 l i ≤ 4294967295 := le4_range _ _ _ _ (h.el _) (h.el _) (h.el _) (h.el _)
theorem w8_word {l : List Int} (h : Byt l) (i : Nat) : Word (w8 l i) := by
  have h1 := w4_range l h i
  have h2 := w4_range l h (i + 4)
  unfold w8 Word
  omega

theorem low32_w (A : Option Addr) (n c : Nat) (xs : List Int) (i : Nat) (w : World) (h : ReadsInt w .u8 A n (xs.drop i)) (hn : 4 ≤ n) (hb : Byt xs) :
    Calls Try.prog 33 #[.slice A n c] w fun e w' => e = .returned (.int .u32 (w4 xs i)) ∧ ∃ m, w' = w.drewN m := by
  have := low32_any A n c (xs.drop i) w h hn (hb.drop i)
  simpa only [el_drop, w4, Nat.add_zero] using this
set_option maxRecDepth 100000 in
theorem low64_any (A : Option Addr) (n c : Nat) (xs : List Int) (w : World) (h : ReadsInt w .u8 A n xs) (hn : 8 ≤ n) (hc : n ≤ c) (hb : Byt xs) :
    Calls Try.prog 36 #[.slice A n c] w fun e w' => e = .returned (.int .u64 (w8 xs 0)) ∧ ∃ m, w' = w.drewN m := by
  obtain ⟨i8, hi8, _, hz8, _⟩ := info_parts info_u8
  obtain ⟨A', hcut, hA'⟩ := print_cut (P := Try.prog) 23 5 .i64 Try.underlying23 hi8 hz8 A n c 4 (by omega)
  rw [show ((4 : Nat) : Int) = 4 from rfl] at hcut
  have r1 := Go.Lib.hid h
  have r2 := Go.Lib.hid (hA' w .u8 xs hc h)
  have e1 := w4_range xs hb 0
  have e2 := w4_range xs hb 4
  have hor := or_u64 _ _ e1.1 e1.2 e2.1 e2.2
  have hw1 : w4 xs 0 % 18446744073709551616 = w4 xs 0 := by omega
  have hw2 : w4 xs 4 % 18446744073709551616 = w4 xs 4 := by omega
  have hw3 : w4 xs 4 * 4294967296 % 18446744073709551616 = w4 xs 4 * 4294967296 := by omega
  replace hi8 := Go.Lib.hid hi8
  replace hz8 := Go.Lib.hid hz8
  clear h hA'
  go_enter Try.func36, Try.ntmps36
  go_wp2_with fail
  go_quiet (first
    | (go_at_call_has 33 (Value.slice A n c); refine Calls.quiet_of (low32_w A n c xs 0 _ (r1.out.below (pw_below_drewN (Below.refl _ _) _)) (by omega) hb))
    | (go_at_call_has 33 (Value.slice A' (n - 4) (c - 4)); refine Calls.quiet_of (low32_w A' (n - 4) (c - 4) xs 4 _ (r2.out.below (pw_below_drewN (Below.refl _ _) _)) (by omega) hb)))
  go_wp2_with fail
  go_ret
  exact ⟨rfl, _, rfl⟩
end Go.Proofs.Ytdocbmgledebaaa
