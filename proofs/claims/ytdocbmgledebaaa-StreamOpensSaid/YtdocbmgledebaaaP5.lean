/-
  The plain law of Poly: bytes as a number, the key's half, the sum over the pieces.
-/
import Derived.Test.YtdocbmgledebaaaP4
namespace Go.Proofs.Ytdocbmgledebaaa
set_option linter.unusedVariables false
set_option linter.unusedSimpArgs false
open Go.RowKit Go.Proofs.YtdocbmgledebaaaW.PrintWords

/-- bytes as a number, the lowest first -/
def lev : List Int → Int
  | [] => 0
  | x :: l => x + 256 * lev l
def leN (n : Nat) (V : Int) : List Int := (List.range n).map fun i => V / 256 ^ i % 256
theorem lev_app : ∀ a b : List Int, lev (a ++ b) = lev a + 256 ^ a.length * lev b
  | [], b => by simp [lev]
  | x :: a, b => by
    simp only [List.cons_append, lev, lev_app a b, List.length_cons, Int.pow_succ]
    grind
theorem lev_zeros (n : Nat) : lev (List.replicate n 0) = 0 := by
  induction n with
  | zero => rfl
  | succ n ih => simp only [List.replicate_succ, lev, ih]; omega
theorem lev_range : ∀ l : List Int, Byt l → 0 ≤ lev l ∧ lev l < 256 ^ l.length
  | [], _ => by simp [lev]
  | x :: l, h => by
    have h1 := lev_range l (fun y hy => h y (by simp [hy]))
    have h2 := h x (by simp)
    simp only [lev, List.length_cons, Int.pow_succ]
    generalize (256 : Int) ^ l.length = p at *
    omega
theorem leN_len (n : Nat) (V : Int) : (leN n V).length = n := by simp [leN]
theorem leN_byt (n : Nat) (V : Int) : Byt (leN n V) := fun x hx => by
  simp only [leN, List.mem_map] at hx
  obtain ⟨i, _, rfl⟩ := hx
  omega
theorem el_leN (n : Nat) (V : Int) (i : Nat) (h : i < n) : el (leN n V) i = V / 256 ^ i % 256 := by
  simp [leN, el, List.getD_eq_getElem?_getD, h]
/-- a digit of a number -/
theorem lev_digit : ∀ (l : List Int) (i : Nat), Byt l → lev l / 256 ^ i % 256 = el l i
  | [], i, _ => by simp [lev, el]
  | x :: l, 0, h => by
    have h2 := h x (by simp)
    simp only [lev, el_cons_0, Int.pow_zero]
    omega
  | x :: l, i + 1, h => by
    have h2 := h x (by simp)
    have h1 := lev_digit l i (fun y hy => h y (by simp [hy]))
    rw [el_cons_s, ← h1, Int.pow_succ, Int.mul_comm, ← Int.ediv_ediv_of_nonneg (by decide)]
    congr 2
    simp only [lev]
    omega
theorem leN_take (l : List Int) (n : Nat) (h : Byt l) (hn : n ≤ l.length) : l.take n = leN n (lev l) := by
  refine ext_el (by simp [leN_len, hn]) (fun i hi => ?_)
  have : i < n := by simp at hi; omega
  rw [el_take _ _ _ this, el_leN _ _ _ this, lev_digit _ _ h]
theorem leN_pad (l : List Int) (n : Nat) (h : Byt l) (hn : l.length ≤ n) : l ++ List.replicate (n - l.length) 0 = leN n (lev l) := by
  have e : lev (l ++ List.replicate (n - l.length) 0) = lev l := by rw [lev_app, lev_zeros]; omega
  have hb : Byt (l ++ List.replicate (n - l.length) 0) := fun x hx => by
    rcases List.mem_append.1 hx with hx | hx
    · exact h x hx
    · simp at hx; omega
  have := leN_take (l ++ List.replicate (n - l.length) 0) n hb (by simp; omega)
  rw [e, List.take_of_length_le (by simp; omega)] at this
  exact this

/-! ### the pieces -/
def pieceV (c : List Int) : Int := lev c + 256 ^ c.length
def pieceL (c : List Int) : List Int := c ++ 1 :: List.replicate (16 - c.length) 0
theorem pieceL_len (c : List Int) (h : c.length ≤ 16) : (pieceL c).length = 17 := by simp [pieceL]; omega
theorem pieceL_lev (c : List Int) : lev (pieceL c) = pieceV c := by
  unfold pieceL pieceV
  rw [lev_app]
  simp only [lev, lev_zeros]
  omega
theorem lev_17 (l : List Int) (h : l.length = 17) : w8 l 0 + 18446744073709551616 * w8 l 8 + 340282366920938463463374607431768211456 * el l 16 = lev l := by
  match l, h with
  | [a0, a1, a2, a3, a4, a5, a6, a7, a8, a9, a10, a11, a12, a13, a14, a15, a16], _ =>
    simp only [w8, w4, le4, lev, el_cons_0, el_cons_s, Nat.reduceAdd, Nat.zero_add]
    omega
theorem pieceV_range (c : List Int) (h : Byt c) (hn : c.length ≤ 16) : 0 ≤ pieceV c ∧ pieceV c < 680564733841876926926749214863536422912 := by
  have h1 := lev_range c h
  have h2 : (256 : Int) ^ c.length ≤ 256 ^ 16 := by
    have := Nat.pow_le_pow_right (show 0 < 256 by omega) hn
    have e : ∀ n : Nat, (256 : Int) ^ n = ((256 ^ n : Nat) : Int) := fun n => by rw [Int.natCast_pow]; rfl
    rw [e, e]
    omega
  have h3 : (256 : Int) ^ 16 = 340282366920938463463374607431768211456 := by decide
  unfold pieceV
  omega

/-! ### the key's first half -/
theorem and_byte (a b m n : Nat) (ha : a < 256) (hm : m < 256) : (a + 256 * b) &&& (m + 256 * n) = (a &&& m) + 256 * (b &&& n) := by
  have h0 : a &&& m < 2 ^ 8 := Nat.lt_of_le_of_lt Nat.and_le_left ha
  apply Nat.eq_of_testBit_eq
  intro i
  rw [show (256 : Nat) = 2 ^ 8 from rfl, Nat.add_comm a, Nat.add_comm m, Nat.add_comm (a &&& m), Nat.testBit_and, Nat.testBit_two_pow_mul_add _ ha, Nat.testBit_two_pow_mul_add _ hm, Nat.testBit_two_pow_mul_add _ h0]
  split <;> simp
theorem and_255 (a : Nat) (h : a < 256) : a &&& 255 = a := by rw [show (255 : Nat) = 2 ^ 8 - 1 from rfl, Nat.and_two_pow_sub_one_eq_mod]; omega
theorem and_15 (a : Nat) : a &&& 15 = a % 16 := by rw [show (15 : Nat) = 2 ^ 4 - 1 from rfl, Nat.and_two_pow_sub_one_eq_mod]
set_option maxRecDepth 100000 in
theorem and_252 (a : Nat) (h : a < 256) : a &&& 252 = a - a % 4 := by
  have : ∀ a : Fin 256, a.val &&& 252 = a.val - a.val % 4 := by decide
  exact this ⟨a, h⟩
def rm (k : List Int) : List Int := [el k 0, el k 1, el k 2, el k 3 % 16, el k 4 - el k 4 % 4, el k 5, el k 6, el k 7 % 16, el k 8 - el k 8 % 4, el k 9, el k 10, el k 11 % 16, el k 12 - el k 12 % 4, el k 13, el k 14, el k 15 % 16]
theorem rm_byt {k : List Int} (h : Byt k) : Byt (rm k) := fun x hx => by
  have e := h.el
  simp only [rm, List.mem_cons, List.not_mem_nil, or_false] at hx
  rcases hx with rfl | rfl | rfl | rfl | rfl | rfl | rfl | rfl | rfl | rfl | rfl | rfl | rfl | rfl | rfl | rfl
  · exact e 0
  · exact e 1
  · exact e 2
  · have := e 3; omega
  · have := e 4; omega
  · exact e 5
  · exact e 6
  · have := e 7; omega
  · have := e 8; omega
  · exact e 9
  · exact e 10
  · have := e 11; omega
  · have := e 12; omega
  · exact e 13
  · exact e 14
  · have := e 15; omega
def rL (k : List Int) : List Int := [w8 (rm k) 0, w8 (rm k) 8]
theorem rL_words {k : List Int} (h : Byt k) : Words (rL k) := fun x hx => by
  have h0 := w8_word (rm_byt h) 0
  have h8 := w8_word (rm_byt h) 8
  unfold Word at h0 h8
  simp only [rL, List.mem_cons, List.not_mem_nil, or_false] at hx
  rcases hx with rfl | rfl
  · exact h0
  · exact h8
theorem rL_lev (k : List Int) : vL (rL k) = lev (rm k) := by
  simp only [rL, vL, w8, w4, le4, rm, lev, el_cons_0, el_cons_s, Nat.reduceAdd, Nat.zero_add]
  omega
theorem rL_lt {k : List Int} (h : Byt k) : vL (rL k) < 21267647932558653966460912964485513216 := by
  have e := h.el
  have e0 := e 0; have e1 := e 1; have e2 := e 2; have e3 := e 3; have e4 := e 4; have e5 := e 5; have e6 := e 6; have e7 := e 7
  have e8 := e 8; have e9 := e 9; have e10 := e 10; have e11 := e 11; have e12 := e 12; have e13 := e 13; have e14 := e 14; have e15 := e 15
  rw [rL_lev]
  simp only [rm, lev]
  omega
def n8 (a0 a1 a2 a3 a4 a5 a6 a7 : Nat) : Nat := a0 + 256 * (a1 + 256 * (a2 + 256 * (a3 + 256 * (a4 + 256 * (a5 + 256 * (a6 + 256 * a7))))))
theorem n8_lt (a0 a1 a2 a3 a4 a5 a6 a7 : Nat) (h0 : a0 < 256) (h1 : a1 < 256) (h2 : a2 < 256) (h3 : a3 < 256) (h4 : a4 < 256) (h5 : a5 < 256) (h6 : a6 < 256) (h7 : a7 < 256) : n8 a0 a1 a2 a3 a4 a5 a6 a7 < 18446744073709551616 := by
  unfold n8
  omega
theorem n8_le4 (a0 a1 a2 a3 a4 a5 a6 a7 : Nat) : le4 (a0 : Int) a1 a2 a3 + 4294967296 * le4 (a4 : Int) a5 a6 a7 = ((n8 a0 a1 a2 a3 a4 a5 a6 a7 : Nat) : Int) := by
  unfold le4 n8
  omega
theorem n8_and (a0 a1 a2 a3 a4 a5 a6 a7 : Nat) (h0 : a0 < 256) (h1 : a1 < 256) (h2 : a2 < 256) (h3 : a3 < 256) (h4 : a4 < 256) (h5 : a5 < 256) (h6 : a6 < 256) (m0 m1 m2 m3 m4 m5 m6 m7 : Nat) (g0 : m0 < 256) (g1 : m1 < 256) (g2 : m2 < 256) (g3 : m3 < 256) (g4 : m4 < 256) (g5 : m5 < 256) (g6 : m6 < 256) :
    n8 a0 a1 a2 a3 a4 a5 a6 a7 &&& n8 m0 m1 m2 m3 m4 m5 m6 m7 = n8 (a0 &&& m0) (a1 &&& m1) (a2 &&& m2) (a3 &&& m3) (a4 &&& m4) (a5 &&& m5) (a6 &&& m6) (a7 &&& m7) := by
  unfold n8
  rw [and_byte _ _ _ _ h0 g0, and_byte _ _ _ _ h1 g1, and_byte _ _ _ _ h2 g2, and_byte _ _ _ _ h3 g3, and_byte _ _ _ _ h4 g4, and_byte _ _ _ _ h5 g5, and_byte _ _ _ _ h6 g6]
theorem w8_nat (a0 a1 a2 a3 a4 a5 a6 a7 : Nat) (h0 : a0 < 256) (h1 : a1 < 256) (h2 : a2 < 256) (h3 : a3 < 256) (h4 : a4 < 256) (h5 : a5 < 256) (h6 : a6 < 256) (h7 : a7 < 256) (m0 m1 m2 m3 m4 m5 m6 m7 : Nat) (g0 : m0 < 256) (g1 : m1 < 256) (g2 : m2 < 256) (g3 : m3 < 256) (g4 : m4 < 256) (g5 : m5 < 256) (g6 : m6 < 256) (g7 : m7 < 256) :
    bits .and .u64 (le4 a0 a1 a2 a3 + 4294967296 * le4 a4 a5 a6 a7) ((n8 m0 m1 m2 m3 m4 m5 m6 m7 : Nat) : Int) =
      le4 ((a0 &&& m0 : Nat) : Int) ((a1 &&& m1 : Nat) : Int) ((a2 &&& m2 : Nat) : Int) ((a3 &&& m3 : Nat) : Int) + 4294967296 * le4 ((a4 &&& m4 : Nat) : Int) ((a5 &&& m5 : Nat) : Int) ((a6 &&& m6 : Nat) : Int) ((a7 &&& m7 : Nat) : Int) := by
  have h := bits_and_u64_nat (n8 a0 a1 a2 a3 a4 a5 a6 a7) (n8 m0 m1 m2 m3 m4 m5 m6 m7) (n8_lt _ _ _ _ _ _ _ _ h0 h1 h2 h3 h4 h5 h6 h7) (n8_lt _ _ _ _ _ _ _ _ g0 g1 g2 g3 g4 g5 g6 g7)
  rw [n8_and _ _ _ _ _ _ _ _ h0 h1 h2 h3 h4 h5 h6 _ _ _ _ _ _ _ _ g0 g1 g2 g3 g4 g5 g6] at h
  rw [n8_le4, n8_le4]
  exact h
theorem nat_byte {x : Int} (h : 0 ≤ x ∧ x ≤ 255) : ∃ a : Nat, x = (a : Int) ∧ a < 256 := ⟨x.toNat, by omega, by omega⟩
theorem and_r0 (k : List Int) (h : Byt k) : bits .and .u64 (w8 k 0) 1152921487695413247 = w8 (rm k) 0 := by
  have e := h.el
  obtain ⟨a0, e0, l0⟩ := nat_byte (e 0); obtain ⟨a1, e1, l1⟩ := nat_byte (e 1); obtain ⟨a2, e2, l2⟩ := nat_byte (e 2); obtain ⟨a3, e3, l3⟩ := nat_byte (e 3)
  obtain ⟨a4, e4, l4⟩ := nat_byte (e 4); obtain ⟨a5, e5, l5⟩ := nat_byte (e 5); obtain ⟨a6, e6, l6⟩ := nat_byte (e 6); obtain ⟨a7, e7, l7⟩ := nat_byte (e 7)
  have := w8_nat a0 a1 a2 a3 a4 a5 a6 a7 l0 l1 l2 l3 l4 l5 l6 l7 255 255 255 15 252 255 255 15 (by omega) (by omega) (by omega) (by omega) (by omega) (by omega) (by omega) (by omega)
  rw [and_255 _ l0, and_255 _ l1, and_255 _ l2, and_15, and_252 _ l4, and_255 _ l5, and_255 _ l6, and_15] at this
  simp only [w8, w4, rm, el_cons_0, el_cons_s, Nat.reduceAdd, Nat.zero_add, e0, e1, e2, e3, e4, e5, e6, e7]
  rw [show (1152921487695413247 : Int) = ((n8 255 255 255 15 252 255 255 15 : Nat) : Int) from rfl, this]
  unfold le4
  omega
theorem and_r8 (k : List Int) (h : Byt k) : bits .and .u64 (w8 k 8) 1152921487695413244 = w8 (rm k) 8 := by
  have e := h.el
  obtain ⟨a0, e0, l0⟩ := nat_byte (e 8); obtain ⟨a1, e1, l1⟩ := nat_byte (e 9); obtain ⟨a2, e2, l2⟩ := nat_byte (e 10); obtain ⟨a3, e3, l3⟩ := nat_byte (e 11)
  obtain ⟨a4, e4, l4⟩ := nat_byte (e 12); obtain ⟨a5, e5, l5⟩ := nat_byte (e 13); obtain ⟨a6, e6, l6⟩ := nat_byte (e 14); obtain ⟨a7, e7, l7⟩ := nat_byte (e 15)
  have := w8_nat a0 a1 a2 a3 a4 a5 a6 a7 l0 l1 l2 l3 l4 l5 l6 l7 252 255 255 15 252 255 255 15 (by omega) (by omega) (by omega) (by omega) (by omega) (by omega) (by omega) (by omega)
  rw [and_252 _ l0, and_255 _ l1, and_255 _ l2, and_15, and_252 _ l4, and_255 _ l5, and_255 _ l6, and_15] at this
  simp only [w8, w4, rm, el_cons_0, el_cons_s, Nat.reduceAdd, Nat.zero_add, e0, e1, e2, e3, e4, e5, e6, e7]
  rw [show (1152921487695413244 : Int) = ((n8 252 255 255 15 252 255 255 15 : Nat) : Int) from rfl, this]
  unfold le4
  omega

/-! ### the sum over the pieces -/
def redV (V : Int) : Int := V % 1361129467683753853853498429727072845824 + 5 * (V / 1361129467683753853853498429727072845824)
def chunk (t : List Int) (j : Nat) : List Int := (t.drop (16 * j)).take 16
def accP (R : Int) (t : List Int) : Nat → Int
  | 0 => 0
  | j + 1 => redV ((accP R t j + pieceV (chunk t j)) * R)
theorem chunk_len (t : List Int) (j : Nat) : (chunk t j).length ≤ 16 := by simp [chunk]; omega
theorem chunk_byt {t : List Int} (h : Byt t) (j : Nat) : Byt (chunk t j) := (h.drop _).take _
theorem redV_range (A R : Int) (h0 : 0 ≤ A) (h1 : A < 2722258935367507707706996859454145691648) (h2 : 0 ≤ R) (h3 : R < 21267647932558653966460912964485513216) : 0 ≤ redV (A * R) ∧ redV (A * R) < 1361129467683753853853498429727072845824 + 212676479325586539664609129644855132160 := by
  have h4 : 0 ≤ A * R := Int.mul_nonneg h0 h2
  have h5 : A * R ≤ A * 21267647932558653966460912964485513215 := Int.mul_le_mul_of_nonneg_left (by omega) h0
  have h6 : A * 21267647932558653966460912964485513215 ≤ 2722258935367507707706996859454145691647 * 21267647932558653966460912964485513215 := Int.mul_le_mul_of_nonneg_right (by omega) (by decide)
  unfold redV
  omega
theorem accP_range (R : Int) (t : List Int) (hR : 0 ≤ R) (hR2 : R < 21267647932558653966460912964485513216) (ht : Byt t) (j : Nat) : 0 ≤ accP R t j ∧ accP R t j < 1361129467683753853853498429727072845824 + 212676479325586539664609129644855132160 := by
  induction j with
  | zero => simp [accP]
  | succ j ih =>
    have h := pieceV_range _ (chunk_byt ht j) (chunk_len t j)
    exact redV_range _ _ (by omega) (by omega) hR hR2
theorem accP_lt (R : Int) (t : List Int) (hR : 0 ≤ R) (hR2 : R < 21267647932558653966460912964485513216) (ht : Byt t) (j : Nat) : 0 ≤ accP R t j + pieceV (chunk t j) ∧ accP R t j + pieceV (chunk t j) < 2722258935367507707706996859454145691648 := by
  have h := pieceV_range _ (chunk_byt ht j) (chunk_len t j)
  have h2 := accP_range R t hR hR2 ht j
  omega
/-- the tag: the sum, wholly reduced, and the key's second half -/
def tagL (key t : List Int) : List Int := leN 16 (accP (lev (rm key)) t ((t.length + 15) / 16) % 1361129467683753853853498429727072845819 + lev ((key.drop 16).take 16))
theorem tagL_len (key t : List Int) : (tagL key t).length = 16 := leN_len _ _
theorem tagL_byt (key t : List Int) : Byt (tagL key t) := leN_byt _ _
end Go.Proofs.Ytdocbmgledebaaa
