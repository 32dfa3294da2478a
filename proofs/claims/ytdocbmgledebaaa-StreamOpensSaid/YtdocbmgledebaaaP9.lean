/-
  The reference's numbers in digits of 2^8: what makes one less modulo 2^130 - 5.
-/
import Derived.Test.YtdocbmgledebaaaP8
namespace Go.Proofs.Ytdocbmgledebaaa
set_option linter.unusedVariables false
set_option linter.unusedSimpArgs false
open Go.RowKit Go.Proofs.YtdocbmgledebaaaW.PrintWords

/-- the digits from bit 2 on -/
def shr2 : List Int → List Int
  | [] => []
  | x :: l => (x / 4 + 64 * (el l 0 % 4)) :: shr2 l
theorem shr2_len : ∀ l : List Int, (shr2 l).length = l.length
  | [] => rfl
  | x :: l => by simp [shr2, shr2_len l]
theorem lev_mod4 (l : List Int) : lev l % 4 = el l 0 % 4 := by
  cases l with
  | nil => simp [lev, el]
  | cons x l => simp only [lev, el_cons_0]; omega
theorem lev_shr2 : ∀ l : List Int, lev (shr2 l) = lev l / 4
  | [] => by simp [shr2, lev]
  | x :: l => by
    have h := lev_mod4 l
    simp only [shr2, lev, lev_shr2 l]
    omega
theorem el_shr2 : ∀ (l : List Int) (i : Nat), i < l.length → el (shr2 l) i = el l i / 4 + 64 * (el l (i + 1) % 4)
  | [], _, h => by simp at h
  | x :: l, 0, _ => by simp only [shr2, el_cons_0, el_cons_s]
  | x :: l, i + 1, h => by
    simp only [shr2, el_cons_s]
    exact el_shr2 l i (by simpa using h)
theorem shr2_byt : ∀ l : List Int, Byt l → Byt (shr2 l)
  | [], _ => fun x hx => by cases hx
  | x :: l, h => fun y hy => by
    simp only [shr2, List.mem_cons] at hy
    rcases hy with rfl | hy
    · have := h x (by simp); omega
    · exact shr2_byt l (fun z hz => h z (by simp [hz])) y hy
theorem take_snoc (l : List Int) (i : Nat) (h : i < l.length) : l.take (i + 1) = l.take i ++ [el l i] := by
  rw [List.take_add_one, List.getElem?_eq_getElem h]
  simp [el, List.getD_eq_getElem?_getD, List.getElem?_eq_getElem h]
/-- low and high part: 17 digits, the last of them less, and what stands above bit 130 -/
theorem split130 (l : List Int) (h : Byt l) (hn : 17 ≤ l.length) : lev ((l.take 17).set 16 (el l 16 % 4)) = lev l % 1361129467683753853853498429727072845824 ∧ lev (shr2 (l.drop 16)) = lev l / 1361129467683753853853498429727072845824 := by
  have e1 : lev l = lev (l.take 16) + 256 ^ 16 * lev (l.drop 16) := by
    have := lev_app (l.take 16) (l.drop 16)
    rw [List.take_append_drop] at this
    rw [this]
    simp [show min 16 l.length = 16 by omega]
  have e2 : lev (l.take 17) = lev (l.take 16) + el l 16 * 256 ^ 16 := lev_take l 16
  have r := lev_range (l.take 16) (h.take 16)
  have r2 : (l.take 16).length = 16 := by simp; omega
  rw [r2] at r
  have h4 := lev_mod4 (l.drop 16)
  rw [el_drop, Nat.add_zero] at h4
  have e3 : el (l.take 17) 16 = el l 16 := el_take _ _ _ (by omega)
  constructor
  · rw [lev_set _ _ _ (by simp; omega), e2, e3, e1]
    have hx := h.el 16
    simp only [Int.reducePow] at *
    omega
  · rw [lev_shr2, e1]
    simp only [Int.reducePow] at *
    omega
theorem bits_i64 (op : BinOp) (x y : Int) : bits op .i64 x y = IntKind.i64.wrap (bits op .u64 x y) := by
  have h : ∀ T : Int, IntKind.i64.wrap T = IntKind.i64.wrap (IntKind.u64.wrap T) := fun T => by
    rw [IntKind.wrap_i64, IntKind.wrap_i64, IntKind.wrap_u64]
    omega
  exact h _
theorem or_6 (x y : Int) (hx : 0 ≤ x ∧ x ≤ 255) (hy : 0 ≤ y ∧ y ≤ 255) : bits .or .i64 (x / 4) (y * 64) = x / 4 + 64 * y := by
  obtain ⟨a, rfl⟩ := Int.eq_ofNat_of_zero_le hx.1
  obtain ⟨b, rfl⟩ := Int.eq_ofNat_of_zero_le hy.1
  have h2 := bits_or_u64_nat (a / 4) (2 ^ 6 * b) (by omega) (by omega)
  have e : a / 4 ||| 2 ^ 6 * b = a / 4 + 2 ^ 6 * b := by rw [Nat.add_comm, Nat.two_pow_add_eq_or_of_lt (by omega), Nat.or_comm]
  rw [e] at h2
  rw [show (a : Int) / 4 = ((a / 4 : Nat) : Int) from by omega, show (b : Int) * 64 = ((2 ^ 6 * b : Nat) : Int) from by omega, bits_i64, h2, IntKind.wrap_i64]
  omega
theorem and3_u8 (x : Int) (h : 0 ≤ x ∧ x ≤ 255) : bits .and .u8 x 3 = x % 4 := by
  obtain ⟨a, rfl⟩ := Int.eq_ofNat_of_zero_le h.1
  have h2 := u8_and_nat a 3 (by omega) (by omega)
  have e : a &&& 3 = a % 4 := Nat.and_two_pow_sub_one_eq_mod a 2
  rw [e] at h2
  exact h2.trans (by omega)

/-- what a slice of numbers holds -/
def numsAt (wr : World) : Value → List Int
  | .slice (some ad) n _ => (List.range n).map fun j => match wr.cell? (ad.add j) with | some (.int _ x) => x | _ => 0
  | _ => []
theorem numsAt_reads {wr : World} {k : IntKind} {A : Option Addr} {n c : Nat} {xs : List Int} (h : ReadsInt wr k A n xs) : numsAt wr (.slice A n c) = xs := by
  obtain ⟨hl, _, hc⟩ := h
  cases A with
  | none =>
    rcases Nat.eq_zero_or_pos n with h0 | h0
    · subst h0; exact (List.eq_nil_of_length_eq_zero hl).symm
    · obtain ⟨ad, e, _⟩ := hc h0; cases e
  | some ad =>
    simp only [numsAt]
    apply List.ext_getElem
    · simp [hl]
    · intro j h1 h2
      have hj : j < n := by simpa using h1
      obtain ⟨ad', e, hc⟩ := hc (by omega)
      injection e with e
      subst e
      simp [hc j hj, List.getD_eq_getElem?_getD, List.getElem?_eq_getElem h2]
/-- a number that ends in the digit 0 -/
def tr (l : List Int) : Nat := if 0 < l.length ∧ el l (l.length - 1) = 0 then 1 else 0
def lessM (l : List Int) : Nat := 2 * (lev l).toNat + tr l
theorem lev_ge (l : List Int) (h : Byt l) (i : Nat) (hi : i < l.length) : el l i * 256 ^ i ≤ lev l := by
  have e1 : lev l = lev (l.take i) + 256 ^ (l.take i).length * lev (l.drop i) := by
    have := lev_app (l.take i) (l.drop i)
    rwa [List.take_append_drop] at this
  have r := lev_range (l.take i) (h.take i)
  have hlen : (l.take i).length = i := by simp; omega
  rw [hlen] at e1
  have e2 : lev (l.drop i) = el l i + 256 * lev (l.drop (i + 1)) := by
    rw [List.drop_eq_getElem_cons hi]
    simp [lev, el, List.getD_eq_getElem?_getD, List.getElem?_eq_getElem hi]
  have r2 := lev_range (l.drop (i + 1)) (h.drop _)
  have h3 : (256 : Int) ^ i * lev (l.drop i) = el l i * 256 ^ i + 256 ^ i * (256 * lev (l.drop (i + 1))) := by rw [e2]; grind
  have h4 : 0 ≤ (256 : Int) ^ i * (256 * lev (l.drop (i + 1))) := Int.mul_nonneg (Int.pow_nonneg (by decide)) (by omega)
  omega
theorem lev_big (l : List Int) (h : Byt l) (ht : tr l = 0) (hc : 17 < l.length ∨ (l.length = 17 ∧ 3 < el l 16)) : 1361129467683753853853498429727072845824 ≤ lev l := by
  have hx := h.el (l.length - 1)
  have h1 := lev_ge l h (l.length - 1) (by omega)
  have hne : el l (l.length - 1) ≠ 0 := by
    intro h0
    unfold tr at ht
    rw [if_pos ⟨by omega, h0⟩] at ht
    omega
  rcases hc with hc | ⟨hc, h16⟩
  · have h2 : (256 : Int) ^ 17 ≤ 256 ^ (l.length - 1) := by
      have := Nat.pow_le_pow_right (show 0 < 256 by omega) (show 17 ≤ l.length - 1 by omega)
      have e : ∀ n : Nat, (256 : Int) ^ n = ((256 ^ n : Nat) : Int) := fun n => by rw [Int.natCast_pow]; rfl
      rw [e, e]
      omega
    have h3 : 1 * 256 ^ (l.length - 1) ≤ el l (l.length - 1) * 256 ^ (l.length - 1) := Int.mul_le_mul_of_nonneg_right (by omega) (Int.pow_nonneg (by decide))
    simp only [Int.reducePow] at h2
    omega
  · have h2 := lev_ge l h 16 (by omega)
    simp only [Int.reducePow] at h2
    omega
theorem lessM_lt (l l' : List Int) (h : Byt l) (ht : tr l' = 0) (hv : lev l' = redV (lev l)) (hc : 17 < l.length ∨ (l.length = 17 ∧ 3 < el l 16)) : lessM l' < lessM l := by
  have r := lev_range l h
  unfold lessM
  rw [ht, hv]
  unfold redV
  by_cases h0 : tr l = 0
  · have := lev_big l h h0 hc
    omega
  · have : tr l = 1 := by unfold tr at *; split at h0 <;> simp_all
    omega
end Go.Proofs.Ytdocbmgledebaaa
