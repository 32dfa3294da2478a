/-
  What is left by a division: the reference's Mod.
-/
import Derived.Test.YtamfbmchamgddaaDoorNA
import Derived.Test.YtamfbmchamgddaaDoorPFieldReducesx37
import Derived.Test.YtamfbmchamgddaaDoorPFieldReducesx38
namespace Go.Proofs.YtamfbmchamgddaaDoor
set_option linter.unusedVariables false
set_option linter.unusedSimpArgs false
set_option linter.unusedSectionVars false
open Go.RowKit Go.Proofs.YtamfbmchamgddaaDoorW.PrintWords Go.Proofs.YtamfbmchamgddaaDoorW.PrintMore Go.Proofs.YtamfbmchamgddaaDoorW.PrintLast PFieldReduces

theorem and_u32 (a b : Nat) (ha : a < 4294967296) (hb : b < 4294967296) : bits .and .u32 (a : Int) (b : Int) = ((a &&& b : Nat) : Int) := by
  have hx : a &&& b < 2 ^ 32 := Nat.and_lt_two_pow _ (by omega)
  have h1 : (BitVec.ofInt 32 (a : Int)).toNat = a := by
    rw [BitVec.ofInt_natCast, BitVec.toNat_ofNat]; exact Nat.mod_eq_of_lt (by omega)
  have h2 : (BitVec.ofInt 32 (b : Int)).toNat = b := by
    rw [BitVec.ofInt_natCast, BitVec.toNat_ofNat]; exact Nat.mod_eq_of_lt (by omega)
  show IntKind.u32.wrap ((BitVec.ofInt 32 (a : Int) &&& BitVec.ofInt 32 (b : Int)).toNat : Int) = _
  rw [BitVec.toNat_and, h1, h2, IntKind.wrap_u32]
  omega
theorem and_1 (x : Int) (h : 0 ≤ x ∧ x < 4294967296) : bits .and .u32 x 1 = x % 2 := by
  obtain ⟨x, rfl⟩ := Int.eq_ofNat_of_zero_le h.1
  have e := and_u32 x 1 (by omega) (by omega)
  have e2 : x &&& 1 = x % 2 := Nat.and_two_pow_sub_one_eq_mod x 1
  rw [e2] at e
  exact e.trans (by omega)
theorem or_bit (x c : Int) (h : 0 ≤ x ∧ x < 4294967296) (hc : 0 ≤ c ∧ c ≤ 1) : bits .or .u32 (x * 2 % 4294967296) c = x * 2 % 4294967296 + c := by
  obtain ⟨y, hy⟩ : ∃ y : Nat, x * 2 % 4294967296 = ((2 ^ 1 * y : Nat) : Int) := ⟨(x * 2 % 4294967296 / 2).toNat, by omega⟩
  obtain ⟨c, rfl⟩ := Int.eq_ofNat_of_zero_le hc.1
  rw [hy, u32_or_nat _ _ (by omega) (by omega)]
  rw [← Nat.two_pow_add_eq_or_of_lt (by omega)]
  omega

/-- the bits of a number -/
theorem vv_bit (a : List Int) (ha : DD a) (i : Nat) (hi : i < 32 * a.length) : vv a / 2 ^ i % 2 = el a (i / 32) / 2 ^ (i % 32) % 2 := by
  obtain ⟨j, s, hs, rfl⟩ : ∃ j s, s < 32 ∧ i = 32 * j + s := ⟨i / 32, i % 32, by omega, by omega⟩
  rw [show (32 * j + s) / 32 = j by omega, show (32 * j + s) % 32 = s by omega]
  have e1 := vv_split a j
  have e2 := vv_drop a j
  have r1 := vv_range (ha.take j)
  have q1 : (4294967296 : Int) ^ (a.take j).length ≤ 4294967296 ^ j := pow_mono (by simp; omega)
  have hx := ha.el (by omega) j
  have hP : (0 : Int) < 4294967296 ^ j := Int.pow_pos (by omega)
  rw [Int.pow_add, Int.pow_mul, show (2 : Int) ^ 32 = 4294967296 from rfl, ← Int.ediv_ediv_of_nonneg (by omega)]
  have e3 : vv a / 4294967296 ^ j = vv (a.drop j) := by
    rw [e1, Int.add_mul_ediv_left _ _ (by omega), Int.ediv_eq_zero_of_lt r1.1 (by omega), Int.zero_add]
  rw [e3, e2]
  have hS : (0 : Int) < 2 ^ s := Int.pow_pos (by omega)
  have e4 : (4294967296 : Int) = 2 ^ s * (2 * 2 ^ (31 - s)) := by
    rw [show (2 : Int) * 2 ^ (31 - s) = 2 ^ (31 - s + 1) from by rw [Int.pow_succ]; omega, ← Int.pow_add, show s + (31 - s + 1) = 32 by omega]
    rfl
  generalize vv (a.drop (j + 1)) = D
  rw [show el a j + 4294967296 * D = el a j + 2 ^ s * (2 * (2 ^ (31 - s) * D)) from by
    conv => lhs; rw [e4]
    grind]
  rw [Int.add_mul_ediv_left _ _ (by omega)]
  omega

theorem el_NN (n : Nat) (V : Int) (i : Nat) (h : i < n) : el (NN n V) i = V / 4294967296 ^ i % 4294967296 := el_dN (by omega) _ _ _ h

section
variable (a m : List Int) (n : Nat) (ha : DD a) (hn : a.length = n) (hsz : n ≤ 1000000) (hm : DD m) (hml : m.length = 8) (hlo : 26959946667150639794667015087019630673637144422540572481103610249216 ≤ vv m)
include ha hn hsz hm hml hlo

/-- the difference -/
theorem sub_l (V i R : Int) (r0 : List Int) (hr0 : r0.length = 9) (hr0d : DD r0) (hr0v : vv r0 = V) (hle : vv m ≤ V) (rest : List Int) (hrest : Ev (fun k => securelinkref4_Mod.l2 k a m (NN 9 (V - vv m)) (wrap64 (i - 1))) rest) : ∀ (d j : Nat) (out : List Int) (c : Int), d + j = 9 → out.length = 9 → DD out → -1 ≤ c → c ≤ 0 →
    vv (out.take j) + 4294967296 ^ j * c = vv (r0.take j) - vv (m.take j) → out.drop j = r0.drop j → Ev (fun k => securelinkref4_Mod.l4 k a m out i c (j : Int)) rest
  | 0, j, out, c, hj, hlen, hd, hc0, hc1, hV, hdr => by
    refine hrest.step fun k => ?_
    simp only [securelinkref4_Mod.l4]
    rw [if_neg (by omega)]
    congr 1
    obtain rfl : j = 9 := by omega
    rw [List.take_of_length_le (by omega), List.take_of_length_le (by omega), List.take_of_length_le (by omega)] at hV
    refine NN_of hlen hd ?_
    have h1 := vv_range hd
    have h2 := vv_range hr0d
    have h3 := vv_range hm
    rw [hlen] at h1
    rw [hr0] at h2
    rcases (by omega : c = 0 ∨ c = -1) with rfl | rfl
    · omega
    · omega
  | d + 1, j, out, c, hj, hlen, hd, hc0, hc1, hV, hdr => by
    have hx := hr0d.el (by omega) j
    have hy := hm.el (by omega) j
    have hej : el out j = el r0 j := by
      have h1 := congrArg (fun l => el l 0) hdr
      simpa [el, List.getD_eq_getElem?_getD] using h1
    obtain ⟨t, et⟩ : ∃ t, t = c + el r0 j - el m j := ⟨_, rfl⟩
    refine (sub_l V i R r0 hr0 hr0d hr0v hle rest hrest d (j + 1) (out.set j (t % 4294967296)) (t / 4294967296) (by omega) (by simpa using hlen) (hd.set _ _ (by omega)) (by omega) (by omega) ?_ ?_).step fun k => ?_
    · rw [vv_set_take _ _ _ (by omega), vv_take, vv_take, Int.pow_succ]
      have h1 : t = 4294967296 * (t / 4294967296) + t % 4294967296 := by omega
      generalize t / 4294967296 = q at h1 ⊢
      generalize t % 4294967296 = r at h1 ⊢
      generalize (4294967296 : Int) ^ j = P at hV ⊢
      subst et
      grind
    · rw [List.drop_set_of_lt (by omega)]
      have h1 := congrArg (fun l => l.drop 1) hdr
      simpa [List.drop_drop] using h1
    · simp only [securelinkref4_Mod.l4]
      rw [if_pos (by omega), if_pos (by omega), if_pos (by omega), digit_f, Option.bind_some, rd_el, hej, w64 (el r0 j) (by omega), w64 (el m j) (by omega), w64 (c + el r0 j) (by omega), w64 _ (by omega), ← et, w64 _ (by omega), Int.toNat_natCast]
      rfl

/-- by two, and a bit; less the modulus where that is not greater -/
theorem dbl_l (i : Int) (V b : Int) (hV0 : 0 ≤ V) (hV1 : 2 * V + b < 4294967296 ^ 9) (hb : 0 ≤ b ∧ b ≤ 1) (hlt : V < vv m) (rest : List Int) (hrest : Ev (fun k => securelinkref4_Mod.l2 k a m (NN 9 ((2 * V + b) % vv m)) (wrap64 (i - 1))) rest) :
    ∀ (d j : Nat) (out : List Int) (c : Int), d + j = 9 → out.length = 9 → DD out → 0 ≤ c → c ≤ 1 → vv (out.take j) + 4294967296 ^ j * c = 2 * vv ((NN 9 V).take j) + b → out.drop j = (NN 9 V).drop j → Ev (fun k => securelinkref4_Mod.l3 k a m out i c (j : Int)) rest
  | 0, j, out, c, hj, hlen, hd, hc0, hc1, hv, hdr => by
    obtain rfl : j = 9 := by omega
    rw [List.take_of_length_le (by omega), List.take_of_length_le (by rw [NN_len]; omega), vv_NN _ _ ⟨hV0, by omega⟩] at hv
    have h1 := vv_range hd
    rw [hlen] at h1
    obtain rfl : c = 0 := by
      rcases (by omega : c = 0 ∨ c = 1) with rfl | rfl
      · rfl
      · omega
    have hv2 : vv out = 2 * V + b := by omega
    have hL := less_f out m hd hm (by omega)
    rw [hv2] at hL
    by_cases hl : 2 * V + b < vv m
    · rw [Int.emod_eq_of_lt (by omega) hl] at hrest
      have e0 : out = NN 9 (2 * V + b) := NN_of hlen hd hv2
      rw [← e0] at hrest
      rw [decide_eq_true hl] at hL
      refine (hL.bind (G := fun t k => if t = true then securelinkref4_Mod.l2 k a m out (wrap64 (i - 1)) else securelinkref4_Mod.l4 k a m out i 0 0) (by simpa using hrest) fun k => rfl).step (F := fun k => securelinkref4_Mod.l3 k a m out i 0 ((9 : Nat) : Int)) fun k => ?_
      simp only [securelinkref4_Mod.l3]
      rw [if_neg (by omega)]
    · have e1 : (2 * V + b) % vv m = 2 * V + b - vv m := by
        rw [← Int.sub_emod_right, Int.emod_eq_of_lt (by omega) (by omega)]
      rw [e1] at hrest
      rw [decide_eq_false hl] at hL
      have hs := sub_l a m n ha hn hsz hm hml hlo (2 * V + b) i 0 out hlen hd hv2 (by omega) rest hrest 9 0 out 0 (by omega) hlen hd (by omega) (by omega) (by simp [vv, dL]) rfl
      refine (hL.bind (G := fun t k => if t = true then securelinkref4_Mod.l2 k a m out (wrap64 (i - 1)) else securelinkref4_Mod.l4 k a m out i 0 0) (by simpa using hs) fun k => rfl).step (F := fun k => securelinkref4_Mod.l3 k a m out i 0 ((9 : Nat) : Int)) fun k => ?_
      simp only [securelinkref4_Mod.l3]
      rw [if_neg (by omega)]
  | d + 1, j, out, c, hj, hlen, hd, hc0, hc1, hv, hdr => by
    have hx := (NN_dig 9 V).el (by omega) j
    have hej : el out j = el (NN 9 V) j := by
      have h1 := congrArg (fun l => el l 0) hdr
      simpa [el, List.getD_eq_getElem?_getD] using h1
    obtain ⟨x, ex⟩ : ∃ x, x = el (NN 9 V) j := ⟨_, rfl⟩
    rw [← ex] at hx hej
    have ht := vv_take (NN 9 V) j
    rw [← ex] at ht
    refine (dbl_l i V b hV0 hV1 hb hlt rest hrest d (j + 1) (out.set j (x * 2 % 4294967296 + c)) (x / 2147483648) (by omega) (by simpa using hlen) (hd.set _ _ (by omega)) (by omega) (by omega) ?_ ?_).step fun k => ?_
    · rw [vv_set_take _ _ _ (by omega), ht, Int.pow_succ]
      have h1 : x * 2 = 4294967296 * (x / 2147483648) + x * 2 % 4294967296 := by omega
      generalize x / 2147483648 = q at h1 ⊢
      generalize x * 2 % 4294967296 = r at h1 ⊢
      generalize (4294967296 : Int) ^ j = P at hv ⊢
      grind
    · rw [List.drop_set_of_lt (by omega)]
      have h1 := congrArg (fun l => l.drop 1) hdr
      simpa [List.drop_drop] using h1
    · simp only [securelinkref4_Mod.l3]
      rw [if_pos (by omega), if_pos (by omega), if_pos (by omega), rd_el, hej, or_bit x c (by omega) (by omega), w64 _ (by omega), Int.toNat_natCast]
      rfl

/-- bit by bit -/
theorem bits_l : ∀ (t : Nat), t ≤ 32 * n → Ev (fun k => securelinkref4_Mod.l2 k a m (NN 9 (vv a / 2 ^ t % vv m)) ((t : Int) - 1)) (NN 8 (vv a % vv m))
  | 0, ht => by
    have hr := vv_range hm
    rw [hml] at hr
    have h1 := Int.emod_nonneg (vv a) (show vv m ≠ 0 by omega)
    have h2 := Int.emod_lt_of_pos (vv a) (show 0 < vv m by omega)
    refine Ev.last fun k => ?_
    simp only [securelinkref4_Mod.l2]
    rw [if_neg (by omega), NN_len, if_pos (by omega)]
    congr 1
    rw [Int.pow_zero, Int.ediv_one]
    refine NN_of (by simp [dN_len]) ((NN_dig _ _).take _) ?_
    show vv ((NN 9 (vv a % vv m)).take 8) = _
    rw [vv_take_all _ 8 (NN_dig _ _) (by rw [vv_NN _ _ ⟨h1, by omega⟩]; omega), vv_NN _ _ ⟨h1, by omega⟩]
  | t + 1, ht => by
    have hr := vv_range hm
    rw [hml] at hr
    have hvb := vv_bit a ha t (by omega)
    have hA := (vv_range ha).1
    obtain ⟨A, eA⟩ : ∃ A, A = vv a := ⟨_, rfl⟩
    have ih := bits_l t (by omega)
    rw [← eA] at hvb ih hA ⊢
    obtain ⟨V, eV⟩ : ∃ V, V = A / 2 ^ (t + 1) % vv m := ⟨_, rfl⟩
    obtain ⟨b, eb⟩ : ∃ b, b = A / 2 ^ t % 2 := ⟨_, rfl⟩
    have hV0 : 0 ≤ V := by rw [eV]; exact Int.emod_nonneg _ (by omega)
    have hV1 : V < vv m := by rw [eV]; exact Int.emod_lt_of_pos _ (by omega)
    have e0 : A / 2 ^ (t + 1) = A / 2 ^ t / 2 := by rw [Int.pow_succ, Int.ediv_ediv_of_nonneg (Int.le_of_lt (Int.pow_pos (by omega)))]
    have e1 : A / 2 ^ t % vv m = (2 * V + b) % vv m := by
      rw [eV, e0, eb, Int.add_emod, Int.mul_emod, Int.emod_emod_of_dvd _ (Int.dvd_refl _), ← Int.mul_emod, ← Int.add_emod]
      congr 1
      omega
    rw [e1] at ih
    rw [← eV]
    have hb : 0 ≤ b ∧ b ≤ 1 := by omega
    have hx := ha.el (by omega) (t / 32)
    have q : (0 : Int) < 2 ^ (t % 32) := Int.pow_pos (by omega)
    have hd0 : 0 ≤ el a (t / 32) / 2 ^ (t % 32) := Int.ediv_nonneg hx.1 (by omega)
    have hd1 : el a (t / 32) / 2 ^ (t % 32) < 4294967296 := Int.lt_of_le_of_lt (Int.ediv_le_self _ hx.1) hx.2
    have hc : bits .and .u32 (shr .u32 (el a (t / 32)) ((t % 32 : Nat) : Int)) 1 = b := by
      unfold shr
      rw [Int.toNat_natCast, Nat.min_eq_left (by show t % 32 ≤ 32; omega), and_1 _ ⟨hd0, hd1⟩, eb, hvb]
    refine (dbl_l a m n ha hn hsz hm hml hlo (t : Int) V b hV0 (by omega) hb hV1 _ (ih.same fun k => by rw [w64 _ (by omega)]) 9 0 (NN 9 V) b (by omega) (NN_len _ _) (NN_dig _ _) hb.1 hb.2 (by simp [vv, dL]) rfl).step fun k => ?_
    simp only [securelinkref4_Mod.l2]
    rw [show ((t + 1 : Nat) : Int) - 1 = (t : Int) by omega, if_pos (by omega), show Int.tdiv (t : Int) 32 = ((t / 32 : Nat) : Int) from by rw [Int.tdiv_eq_ediv_of_nonneg (by omega)]; omega,
      show Int.tmod (t : Int) 32 = ((t % 32 : Nat) : Int) from by rw [Int.tmod_eq_emod_of_nonneg (by omega)]; omega, w64 _ (by omega), if_pos (by omega), if_pos (by omega), if_pos (by omega), rd_el, hc]
    rfl

/-- a word more from below -/
theorem push_l (x6 x7 : Int) (n0 : Nat) (hx6 : x6 = (n0 : Int)) (hn0 : n0 < n) (r0 : List Int) (hr0 : r0.length = 9) (rest : List Int) (hrest : Ev (fun k => securelinkref4_Mod.l0 k a m (el a n0 :: r0.take 8) x6 (wrap64 (x7 - 1))) rest) :
    ∀ (j : Nat) (out : List Int), j ≤ 8 → out.length = 9 → (∀ p, p ≤ j → el out p = el r0 p) → (∀ p, j < p → p ≤ 8 → el out p = el r0 (p - 1)) → Ev (fun k => securelinkref4_Mod.l1 k a m out x6 x7 (j : Int)) rest
  | 0, out, hj, hlen, h1, h2 => by
    refine hrest.step fun k => ?_
    simp only [securelinkref4_Mod.l1]
    rw [if_neg (by omega), if_pos (by omega), if_pos (by omega), if_pos (by omega), hx6, rd_el]
    congr 1
    refine List.ext_getElem (by simp; omega) fun p hp hp' => ?_
    have hp9 : p < 9 := by simpa [hlen] using hp
    rcases p with _ | p
    · simp
    · have h := h2 (p + 1) (by omega) (by omega)
      rw [Nat.add_sub_cancel] at h
      have e1 : el out (p + 1) = out[p + 1]'(by omega) := by simp [el, List.getD_eq_getElem?_getD, List.getElem?_eq_getElem (show p + 1 < out.length by omega)]
      have e2 : el r0 p = r0[p]'(by omega) := by simp [el, List.getD_eq_getElem?_getD, List.getElem?_eq_getElem (show p < r0.length by omega)]
      simp [← e1, ← e2, h]
  | j + 1, out, hj, hlen, h1, h2 => by
    have hjj : el out j = el r0 j := h1 j (by omega)
    refine (push_l x6 x7 n0 hx6 hn0 r0 hr0 rest hrest j (out.set (j + 1) (el out j)) (by omega) (by simpa using hlen) (fun p hp => ?_) (fun p hp hp8 => ?_)).step fun k => ?_
    · rw [← h1 p (by omega)]
      simp only [el, List.getD_eq_getElem?_getD]
      rw [List.getElem?_set_ne (by omega)]
    · by_cases e : p = j + 1
      · subst e
        rw [Nat.add_sub_cancel, ← hjj]
        simp only [el, List.getD_eq_getElem?_getD]
        rw [List.getElem?_set_self (by omega)]
        simp
      · rw [← h2 p (by omega) hp8]
        simp only [el, List.getD_eq_getElem?_getD]
        rw [List.getElem?_set_ne (by omega)]
    · simp only [securelinkref4_Mod.l1]
      rw [if_pos (by omega), w64 _ (by omega), show ((j + 1 : Nat) : Int) - 1 = (j : Int) by omega, if_pos (by omega), if_pos (by omega), if_pos (by omega), if_pos (by omega), rd_el, Int.toNat_natCast]

/-- the words on top -/
theorem top_l : ∀ (c n0 : Nat), c ≤ 7 → n0 + (7 - c) = n → Ev (fun k => securelinkref4_Mod.l0 k a m (NN 9 (vv (a.drop n0))) (n0 : Int) ((c : Int) - 1)) (NN 8 (vv a % vv m))
  | c, n0, hc, hn0 => by
    have hr := vv_range (ha.drop n0)
    have q1 : (4294967296 : Int) ^ (a.drop n0).length ≤ 4294967296 ^ 7 := pow_mono (by simp; omega)
    have hp7 : (4294967296 : Int) ^ 7 = 26959946667150639794667015087019630673637144422540572481103610249216 := by simp only [Int.reducePow]
    have hA := (vv_range ha).1
    have hbits : Ev (fun k => securelinkref4_Mod.l2 k a m (NN 9 (vv (a.drop n0))) (wrap64 ((wrap64 (32 * (n0 : Int))) - 1))) (NN 8 (vv a % vv m)) := by
      have h := bits_l a m n ha hn hsz hm hml hlo (32 * n0) (by omega)
      have e1 : vv a / 2 ^ (32 * n0) = vv (a.drop n0) := by
        have e1 := vv_split a n0
        have r1 := vv_range (ha.take n0)
        have q1 : (4294967296 : Int) ^ (a.take n0).length ≤ 4294967296 ^ n0 := pow_mono (by simp; omega)
        have hP : (0 : Int) < 4294967296 ^ n0 := Int.pow_pos (by omega)
        rw [Int.pow_mul, show (2 : Int) ^ 32 = 4294967296 from rfl, e1, Int.add_mul_ediv_left _ _ (by omega), Int.ediv_eq_zero_of_lt r1.1 (by omega), Int.zero_add]
      rw [e1, Int.emod_eq_of_lt hr.1 (by omega)] at h
      exact h.same fun k => by rw [w64 (32 * (n0 : Int)) (by omega), w64 _ (by omega), show ((32 * n0 : Nat) : Int) = 32 * (n0 : Int) by omega]
    by_cases hgo : c = 0 ∨ n0 = 0
    · have hj : Ev (fun k => securelinkref4_Mod.j1 k a m (NN 9 (vv (a.drop n0))) (n0 : Int) ((c : Int) - 1) false) (NN 8 (vv a % vv m)) := hbits.step fun k => by
        simp only [securelinkref4_Mod.j1]
        rw [if_neg (by simp)]
      refine hj.step fun k => ?_
      simp only [securelinkref4_Mod.l0]
      by_cases h0 : c = 0
      · rw [if_neg (by omega)]
      · rw [if_pos (by omega), decide_eq_false (by omega)]
    · obtain ⟨c, rfl⟩ : ∃ d, c = d + 1 := ⟨c - 1, by omega⟩
      obtain ⟨n0, rfl⟩ : ∃ d, n0 = d + 1 := ⟨n0 - 1, by omega⟩
      have ih := top_l c n0 (by omega) (by omega)
      have e0 : NN 9 (vv (a.drop n0)) = el a n0 :: (NN 9 (vv (a.drop (n0 + 1)))).take 8 := by
        symm
        have hx := ha.el (by omega) n0
        refine NN_of (by simp [dN_len]) ?_ ?_
        · intro x hx'
          rcases List.mem_cons.1 hx' with rfl | hx'
          · exact hx
          · exact (NN_dig 9 _).take 8 x hx'
        · show el a n0 + 4294967296 * vv ((NN 9 (vv (a.drop (n0 + 1)))).take 8) = _
          rw [vv_take_all _ 8 (NN_dig _ _) (by rw [vv_NN _ _ ⟨hr.1, by omega⟩]; omega), vv_NN _ _ ⟨hr.1, by omega⟩, ← vv_drop]
      rw [e0] at ih
      have hp := push_l a m n ha hn hsz hm hml hlo (n0 : Int) (c : Int) n0 rfl (by omega) (NN 9 (vv (a.drop (n0 + 1)))) (NN_len _ _) _ (ih.same fun k => by rw [w64 _ (by omega)]) 8 (NN 9 (vv (a.drop (n0 + 1)))) (by omega) (NN_len _ _) (fun _ _ => rfl) (fun p h1 h2 => by omega)
      have hj : Ev (fun k => securelinkref4_Mod.j1 k a m (NN 9 (vv (a.drop (n0 + 1)))) ((n0 + 1 : Nat) : Int) (c : Int) true) (NN 8 (vv a % vv m)) := hp.step fun k => by
        simp only [securelinkref4_Mod.j1]
        rw [if_pos True.intro, w64 (((n0 + 1 : Nat) : Int) - 1) (by omega), show ((n0 + 1 : Nat) : Int) - 1 = (n0 : Int) by omega]
        rfl
      refine hj.step fun k => ?_
      simp only [securelinkref4_Mod.l0]
      rw [show ((c + 1 : Nat) : Int) - 1 = (c : Int) by omega, if_pos (by omega), decide_eq_true (by omega)]
  termination_by c => c

theorem mod_f : Ev (fun k => securelinkref4_Mod.f k a m) (NN 8 (vv a % vv m)) := by
  have h := top_l a m n ha hn hsz hm hml hlo 7 n (by omega) (by omega)
  rw [List.drop_of_length_le (by omega)] at h
  refine h.same fun k => ?_
  unfold securelinkref4_Mod.f
  rw [if_pos (by omega), hn]
  rfl
theorem fmod_f : Ev (fun k => securelinkref4_F_Mod.f k m a) (NN 8 (vv a % vv m)) := by
  refine (mod_f a m n ha hn hsz hm hml hlo).bind (G := fun t _ => some t) (Ev.now fun _ => rfl) fun k => ?_
  rfl
end
end Go.Proofs.YtamfbmchamgddaaDoor
