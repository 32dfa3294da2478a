/-
  A number in words: its value; products; the plain law of Poly's arithmetic.
-/
import Derived.Test.YtdocbmgledebaaaP2
namespace Go.Proofs.Ytdocbmgledebaaa
set_option linter.unusedVariables false
set_option linter.unusedSimpArgs false
open Go.RowKit Go.Proofs.YtdocbmgledebaaaW.PrintWords

/-- words as a number, the lowest first -/
def vL : List Int → Int
  | [] => 0
  | x :: l => x + 18446744073709551616 * vL l
theorem el_cons_0 (x : Int) (l : List Int) : el (x :: l) 0 = x := rfl
theorem el_cons_s (x : Int) (l : List Int) (i : Nat) : el (x :: l) (i + 1) = el l i := by simp [el]
theorem vL_set : ∀ (l : List Int) (j : Nat) (v : Int), j < l.length → vL (l.set j v) = vL l + (v - el l j) * 18446744073709551616 ^ j
  | [], _, _, h => by simp at h
  | x :: l, 0, v, _ => by simp only [List.set_cons_zero, vL, el_cons_0]; omega
  | x :: l, j + 1, v, h => by
    simp only [List.set_cons_succ, vL, el_cons_s]
    rw [vL_set l j v (by simpa using h), Int.pow_succ]
    grind
theorem vL_take : ∀ (l : List Int) (k : Nat), k < l.length → vL (l.take (k + 1)) = vL (l.take k) + el l k * 18446744073709551616 ^ k
  | [], _, h => by simp at h
  | x :: l, 0, _ => by simp [vL, el_cons_0]
  | x :: l, k + 1, h => by
    rw [List.take_succ_cons, List.take_succ_cons]
    simp only [vL, el_cons_s]
    rw [vL_take l k (by simpa using h), Int.pow_succ]
    grind
theorem vL_zero (l : List Int) (h : ∀ j, j < l.length → el l j = 0) : vL l = 0 := by
  induction l with
  | nil => rfl
  | cons x l ih =>
    have h0 := h 0 (by simp)
    rw [el_cons_0] at h0
    have h1 := ih (fun j hj => by have := h (j + 1) (by simpa using hj); rwa [el_cons_s] at this)
    simp only [vL, h0, h1]
    omega
theorem vL_3 (l : List Int) (h : l.length = 3) : vL l = v3 l := by
  match l, h with
  | [a, b, c], _ => simp [vL, v3, el]; omega
theorem list_ofel (l : List Int) (n : Nat) (h : l.length = n) : l = (List.range n).map (el l) := by
  apply ext_el
  · simp [h]
  · intro i hi
    simp [el, List.getD_eq_getElem?_getD, show i < n by omega]
/-- multiply, add, carry -/
theorem mac_lo (X p c : Int) (hp : 0 ≤ p) (hc : 0 ≤ c) : (p + (X % 18446744073709551616 + c) % 18446744073709551616) % 18446744073709551616 = (X + p + c) % 18446744073709551616 := by omega
theorem mac_hi (X p c : Int) (h0 : 0 ≤ X) (h1 : X ≤ 340282366920938463426481119284349108225) (hp : 0 ≤ p ∧ p ≤ 18446744073709551615) (hc : 0 ≤ c ∧ c ≤ 18446744073709551615) :
    ((X / 18446744073709551616 + (X % 18446744073709551616 + c) / 18446744073709551616) % 18446744073709551616 + (p + (X % 18446744073709551616 + c) % 18446744073709551616) / 18446744073709551616) % 18446744073709551616 = (X + p + c) / 18446744073709551616 := by omega
theorem mac_range (X p c : Int) (h0 : 0 ≤ X) (h1 : X ≤ 340282366920938463426481119284349108225) (hp : 0 ≤ p ∧ p ≤ 18446744073709551615) (hc : 0 ≤ c ∧ c ≤ 18446744073709551615) :
    0 ≤ (X + p + c) / 18446744073709551616 ∧ (X + p + c) / 18446744073709551616 ≤ 18446744073709551615 := by omega
theorem mul_range (x y : Int) (hx : 0 ≤ x ∧ x ≤ 18446744073709551615) (hy : 0 ≤ y ∧ y ≤ 18446744073709551615) : 0 ≤ x * y ∧ x * y ≤ 340282366920938463426481119284349108225 :=
  ⟨Int.mul_nonneg hx.1 hy.1, Int.mul_le_mul hx.2 hy.2 hy.1 (by decide)⟩
theorem and3 (x : Int) (h : 0 ≤ x ∧ x ≤ 18446744073709551615) : bits .and .u64 x 3 = x % 4 := by
  obtain ⟨a, rfl⟩ := Int.eq_ofNat_of_zero_le h.1
  have h2 := bits_and_u64_nat a 3 (by omega) (by omega)
  have e : a &&& 3 = a % 4 := Nat.and_two_pow_sub_one_eq_mod a 2
  rw [e] at h2
  exact h2.trans (by omega)
theorem or_0 (x : Int) (h : 0 ≤ x ∧ x ≤ 18446744073709551615) : bits .or .u64 x 0 = x := by
  obtain ⟨a, rfl⟩ := Int.eq_ofNat_of_zero_le h.1
  have h2 := bits_or_u64_nat a 0 (by omega) (by omega)
  rw [Nat.or_zero] at h2
  exact h2
theorem or_63 (x y : Int) (h : 0 ≤ x ∧ x ≤ 18446744073709551615) (h' : 0 ≤ y ∧ y ≤ 18446744073709551615) : bits .or .u64 (x / 2) (IntKind.u64.wrap (y * 9223372036854775808)) = x / 2 + 9223372036854775808 * (y % 2) := by
  rw [IntKind.wrap_u64]
  obtain ⟨a, rfl⟩ := Int.eq_ofNat_of_zero_le h.1
  obtain ⟨b, rfl⟩ := Int.eq_ofNat_of_zero_le h'.1
  have h2 := bits_or_u64_nat (a / 2) (2 ^ 63 * (b % 2)) (by omega) (by omega)
  have e : a / 2 ||| 2 ^ 63 * (b % 2) = a / 2 + 2 ^ 63 * (b % 2) := by rw [Nat.add_comm, Nat.two_pow_add_eq_or_of_lt (by omega), Nat.or_comm]
  rw [e] at h2
  rw [show (a : Int) / 2 = ((a / 2 : Nat) : Int) from by omega, show (b : Int) * 9223372036854775808 % 18446744073709551616 = ((2 ^ 63 * (b % 2) : Nat) : Int) from by omega, h2]
  omega
end Go.Proofs.Ytdocbmgledebaaa
