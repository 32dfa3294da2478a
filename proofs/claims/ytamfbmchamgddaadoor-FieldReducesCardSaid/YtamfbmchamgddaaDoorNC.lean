/-
  Bytes and numbers: the reference's Bytes, Of, Known.
-/
import Derived.Test.YtamfbmchamgddaaDoorNB
import Derived.Test.YtamfbmchamgddaaDoorPFieldReducesx25
import Derived.Test.YtamfbmchamgddaaDoorPFieldReducesx35
import Derived.Test.YtamfbmchamgddaaDoorOfP
namespace Go.Proofs.YtamfbmchamgddaaDoor
set_option linter.unusedVariables false
set_option linter.unusedSimpArgs false
open Go.RowKit Go.Proofs.YtamfbmchamgddaaDoorW.PrintWords Go.Proofs.YtamfbmchamgddaaDoorW.PrintMore Go.Proofs.YtamfbmchamgddaaDoorW.PrintLast PFieldReduces

/-- some bits of a number, within one word -/
theorem vv_bits (a : List Int) (ha : DD a) (j s u : Nat) (hs : s + u ≤ 32) : vv a / 2 ^ (32 * j + s) % 2 ^ u = el a j / 2 ^ s % 2 ^ u := by
  have e1 := vv_split a j
  have e2 := vv_drop a j
  have r1 := vv_range (ha.take j)
  have q1 : (4294967296 : Int) ^ (a.take j).length ≤ 4294967296 ^ j := pow_mono (by simp; omega)
  have hx := ha.el (by omega) j
  have hP : (0 : Int) < 4294967296 ^ j := Int.pow_pos (by omega)
  rw [Int.pow_add, Int.pow_mul, show (2 : Int) ^ 32 = 4294967296 from rfl, ← Int.ediv_ediv_of_nonneg (by omega)]
  have e3 : vv a / 4294967296 ^ j = vv (a.drop j) := by
    rw [e1, Int.add_mul_ediv_left _ _ (by omega), Int.ediv_eq_zero_of_lt r1.1 (by omega), Int.zero_add]
  rw [e3, e2]
  have hS : (0 : Int) < 2 ^ s := Int.pow_pos (by omega)
  have e4 : (4294967296 : Int) = 2 ^ s * (2 ^ u * 2 ^ (32 - s - u)) := by
    rw [← Int.pow_add, ← Int.pow_add, show s + (u + (32 - s - u)) = 32 by omega]
    rfl
  generalize vv (a.drop (j + 1)) = D
  rw [show el a j + 4294967296 * D = el a j + 2 ^ s * (2 ^ u * (2 ^ (32 - s - u) * D)) from by
    conv => lhs; rw [e4]
    grind]
  rw [Int.add_mul_ediv_left _ _ (by omega), Int.add_mul_emod_self_left]
theorem vv_byte (a : List Int) (ha : DD a) (q : Nat) : vv a / 256 ^ q % 256 = el a (q / 4) / 2 ^ (8 * (q % 4)) % 256 := by
  have h := vv_bits a ha (q / 4) (8 * (q % 4)) 8 (by omega)
  rw [show 32 * (q / 4) + 8 * (q % 4) = 8 * q by omega, Int.pow_mul] at h
  exact h

theorem set_el (l : List Int) (i p : Nat) (x : Int) (h : i < l.length) : el (l.set i x) p = if p = i then x else el l p := by
  simp only [el, List.getD_eq_getElem?_getD]
  by_cases e : p = i
  · subst e
    rw [List.getElem?_set_self h]
    simp
  · rw [List.getElem?_set_ne (by omega), if_neg e]
theorem list_el {a b : List Int} (hl : a.length = b.length) (h : ∀ p, p < a.length → el a p = el b p) : a = b := by
  refine List.ext_getElem hl fun p hp hp' => ?_
  have := h p hp
  simpa [el, List.getD_eq_getElem?_getD, List.getElem?_eq_getElem hp, List.getElem?_eq_getElem hp'] using this

theorem bytes_l (a : List Int) (ha : DD a) (hsz : a.length ≤ 1000000) : ∀ (m i : Nat) (out : List Int), m + i = 32 → out.length = 32 → (∀ p, p < i → el out p = el (beL 32 (vv a)) p) → (∀ p, i ≤ p → el out p = 0) →
    Ev (fun k => securelinkref4_Bytes.l0 k a 32 out (i : Int)) (strOfNums (beL 32 (vv a)))
  | 0, i, out, hi, hlen, h1, h2 => by
    refine Ev.last fun k => ?_
    simp only [securelinkref4_Bytes.l0]
    rw [if_neg (by omega)]
    congr 2
    exact list_el (by rw [hlen, beL_len]) fun p hp => h1 p (by omega)
  | m + 1, i, out, hi, hlen, h1, h2 => by
    have hw : wrap64 (wrap64 ((32 : Int) - 1) - (i : Int)) = ((31 - i : Nat) : Int) := by rw [w64 ((32 : Int) - 1) (by omega), w64 _ (by omega)]; omega
    obtain ⟨q, eq⟩ : ∃ q, q = 31 - i := ⟨_, rfl⟩
    rw [← eq] at hw
    have hd : wrap64 (Int.tdiv (q : Int) 4) = ((q / 4 : Nat) : Int) := by rw [Int.tdiv_eq_ediv_of_nonneg (by omega), w64 _ (by omega)]; omega
    have hm : wrap64 (8 * Int.tmod (q : Int) 4) = ((8 * (q % 4) : Nat) : Int) := by rw [Int.tmod_eq_emod_of_nonneg (by omega), w64 _ (by omega)]; omega
    have hb : el (beL 32 (vv a)) i = el a (q / 4) / 2 ^ (8 * (q % 4)) % 256 := by
      rw [el_beL 32 _ i (by omega), show 32 - 1 - i = q by omega, vv_byte a ha]
    by_cases hin : q / 4 < a.length
    · refine (bytes_l a ha hsz m (i + 1) (out.set i (el a (q / 4) / 2 ^ (8 * (q % 4)) % 256)) (by omega) (by simpa using hlen) (fun p hp => ?_) (fun p hp => ?_)).step fun k => ?_
      · rw [set_el _ _ _ _ (by omega)]
        split
        · rename_i e
          rw [e, hb]
        · exact h1 p (by omega)
      · rw [set_el _ _ _ _ (by omega), if_neg (by omega)]
        exact h2 p (by omega)
      · simp only [securelinkref4_Bytes.l0]
        rw [hw, hd, hm, if_pos (by omega), if_pos (by omega), if_pos (by omega), if_pos (by omega), if_pos (by omega), if_pos (by omega), rd_el, w64 _ (by omega), Int.toNat_natCast]
        unfold shr
        rw [Int.toNat_natCast, Nat.min_eq_left (by show 8 * (q % 4) ≤ 32; omega)]
        rfl
    · refine (bytes_l a ha hsz m (i + 1) out (by omega) hlen (fun p hp => ?_) (fun p hp => h2 p (by omega))).step fun k => ?_
      · by_cases e : p = i
        · rw [e, hb, h2 i (by omega), el_past' a (q / 4) (by omega)]
          simp
        · exact h1 p (by omega)
      · simp only [securelinkref4_Bytes.l0]
        rw [hw, hd, if_pos (by omega), if_neg (by omega), w64 _ (by omega)]
        rfl
theorem bytes_f (a : List Int) (ha : DD a) (hsz : a.length ≤ 1000000) : Ev (fun k => securelinkref4_Bytes.f k a 32) (strOfNums (beL 32 (vv a))) := by
  refine (bytes_l a ha hsz 32 0 (List.replicate 32 0) (by omega) (by simp) (fun p hp => by omega) (fun p hp => ?_)).same fun k => ?_
  · simp only [el, List.getD_eq_getElem?_getD]
    rw [List.getElem?_replicate]
    split <;> rfl
  · unfold securelinkref4_Bytes.f
    rw [if_pos (by omega), if_pos (by omega)]
    rfl

theorem el_vv (l : List Int) (hd : DD l) (j : Nat) (hj : j < l.length) : el l j = vv l / 4294967296 ^ j % 4294967296 := by
  have h := vv_bits l hd j 0 32 (by omega)
  have hx := hd.el (by omega) j
  rw [Int.pow_zero, Int.ediv_one, show 32 * j + 0 = 32 * j by omega, Int.pow_mul, show (2 : Int) ^ 32 = 4294967296 from rfl, Int.emod_eq_of_lt hx.1 hx.2] at h
  exact h.symm
theorem or_high (c x s : Nat) (hs : s < 4) (hx : x < 256) (hc : 256 ^ (s + 1) * c < 4294967296) : bits .or .u32 ((256 ^ (s + 1) * c : Nat) : Int) ((x * 2 ^ (8 * s) : Nat) : Int) = ((256 ^ (s + 1) * c + x * 2 ^ (8 * s) : Nat) : Int) ∧ 256 ^ (s + 1) * c + x * 2 ^ (8 * s) < 4294967296 ∧ x * 2 ^ (8 * s) < 4294967296 := by
  have e : 256 ^ (s + 1) = 2 ^ (8 * (s + 1)) := by rw [show (256 : Nat) = 2 ^ 8 from rfl, ← Nat.pow_mul]
  rw [e] at hc ⊢
  have h1 : x * 2 ^ (8 * s) < 2 ^ (8 * (s + 1)) := by
    rw [show 8 * (s + 1) = 8 * s + 8 by omega, Nat.pow_add, Nat.mul_comm]
    exact Nat.mul_lt_mul_of_pos_left hx (Nat.pow_pos (by omega))
  have h2 : 2 ^ (8 * (s + 1)) ≤ 2 ^ 32 := Nat.pow_le_pow_right (by omega) (by omega)
  have h3 : 2 ^ (8 * (s + 1)) * c + x * 2 ^ (8 * s) < 4294967296 := by
    have e2 : 2 ^ 32 = 2 ^ (8 * (s + 1)) * 2 ^ (32 - 8 * (s + 1)) := by rw [← Nat.pow_add]; congr 1; omega
    have e3 : c < 2 ^ (32 - 8 * (s + 1)) := by
      refine Nat.lt_of_mul_lt_mul_left (a := 2 ^ (8 * (s + 1))) ?_
      rw [← e2]; exact hc
    have h4 := Nat.mul_le_mul_left (2 ^ (8 * (s + 1))) (show c + 1 ≤ _ from e3)
    rw [← e2, Nat.mul_add, Nat.mul_one] at h4
    have e5 : (2 : Nat) ^ 32 = 4294967296 := rfl
    omega
  refine ⟨?_, h3, by omega⟩
  rw [u32_or_nat _ _ hc (by omega), ← Nat.two_pow_add_eq_or_of_lt h1]

theorem of_l (t : ByteArray) (n w : Nat) (hn : t.size = n) (hsz : n ≤ 1000000) (hw : w = (n + 3) / 4) : ∀ (m i : Nat) (out : List Int), m + i = n → out.length = w → DD out → vv out = 256 ^ (n - i) * beV ((bytesOf t).take i) →
    Ev (fun k => securelinkref4_Of.l0 k t out (i : Int)) (NN w (beV (bytesOf t)))
  | 0, i, out, hi, hlen, hd, hv => by
    refine Ev.last fun k => ?_
    simp only [securelinkref4_Of.l0]
    rw [hn, if_neg (by omega)]
    congr 1
    obtain rfl : i = n := by omega
    refine NN_of hlen hd ?_
    rw [hv, Nat.sub_self, Int.pow_zero, Int.one_mul, List.take_of_length_le (by rw [bytesOf_length]; omega)]
  | m + 1, i, out, hi, hlen, hd, hv => by
    obtain ⟨q, eq⟩ : ∃ q, q = n - 1 - i := ⟨_, rfl⟩
    have hq : wrap64 (wrap64 ((n : Int) - 1) - (i : Int)) = (q : Int) := by rw [w64 ((n : Int) - 1) (by omega), w64 _ (by omega)]; omega
    have hdv : wrap64 (Int.tdiv (q : Int) 4) = ((q / 4 : Nat) : Int) := by rw [Int.tdiv_eq_ediv_of_nonneg (by omega), w64 _ (by omega)]; omega
    have hm : wrap64 (8 * Int.tmod (q : Int) 4) = ((8 * (q % 4) : Nat) : Int) := by rw [Int.tmod_eq_emod_of_nonneg (by omega), w64 _ (by omega)]; omega
    have hbt : bt t (i : Int) = el (bytesOf t) i := by
      have h := byt_at t i (by omega)
      simp only [bt, Int.toNat_natCast]
      rw [dif_pos (by omega), h]
    obtain ⟨x, ex⟩ := Int.eq_ofNat_of_zero_le ((Byt.of t).dig.el (by omega) i).1
    have hx : x < 256 := by have := ((Byt.of t).dig.el (by omega) i).2; omega
    obtain ⟨U, eU⟩ := Int.eq_ofNat_of_zero_le (beV_range ((Byt.of t).take i)).1
    have htk : beV ((bytesOf t).take (i + 1)) = 256 * beV ((bytesOf t).take i) + el (bytesOf t) i := by
      rw [take_snoc' _ _ (by rw [bytesOf_length]; omega), beV_snoc]
    rw [eU, show n - i = q + 1 by omega] at hv
    obtain ⟨j, s, hs, hjs⟩ : ∃ j s, s < 4 ∧ q = 4 * j + s := ⟨q / 4, q % 4, by omega, by omega⟩
    rw [show q / 4 = j by omega] at hdv
    rw [show q % 4 = s by omega] at hm
    have hjl : j < out.length := by omega
    have hej : el out j = ((256 ^ (s + 1) * U % 4294967296 : Nat) : Int) := by
      rw [el_vv out hd j hjl, hv, hjs, show 4 * j + s + 1 = 4 * j + (s + 1) by omega, Int.pow_add, Int.pow_mul, show (256 : Int) ^ 4 = 4294967296 from rfl, Int.mul_assoc, Int.mul_ediv_cancel_left _ (by have : (0 : Int) < 4294967296 ^ j := Int.pow_pos (by omega); omega)]
      rw [Int.natCast_emod, Int.natCast_mul, Int.natCast_pow]
      rfl
    obtain ⟨c, ec⟩ : ∃ c, 256 ^ (s + 1) * U % 4294967296 = 256 ^ (s + 1) * c := by
      rw [show (4294967296 : Nat) = 256 ^ (s + 1) * 256 ^ (3 - s) from by rw [← Nat.pow_add, show s + 1 + (3 - s) = 4 by omega], Nat.mul_mod_mul_left]
      exact ⟨_, rfl⟩
    have hcl : 256 ^ (s + 1) * c < 4294967296 := by rw [← ec]; exact Nat.mod_lt _ (by omega)
    rw [ec] at hej
    obtain ⟨ho, hlt, hxl⟩ := or_high c x s hs hx hcl
    have hsh : shl .u32 (bt t (i : Int) % 4294967296) ((8 * s : Nat) : Int) = ((x * 2 ^ (8 * s) : Nat) : Int) := by
      unfold shl
      rw [Int.toNat_natCast, Nat.min_eq_left (by show 8 * s ≤ 32; omega), hbt, ex, IntKind.wrap_u32, show ((x : Nat) : Int) % 4294967296 = (x : Int) by omega]
      rw [show ((x : Nat) : Int) * 2 ^ (8 * s) = ((x * 2 ^ (8 * s) : Nat) : Int) by rw [Int.natCast_mul, Int.natCast_pow]; rfl]
      omega
    obtain ⟨y, ey⟩ : ∃ y : Nat, y = 256 ^ (s + 1) * c + x * 2 ^ (8 * s) := ⟨_, rfl⟩
    rw [← ey] at ho hlt
    refine (of_l t n w hn hsz hw m (i + 1) (out.set j (y : Int)) (by omega) (by simpa using hlen) (hd.set _ _ (by omega)) ?_).step fun k => ?_
    · show dL 4294967296 _ = _
      rw [dL_set _ _ _ _ hjl, show dL 4294967296 out = vv out from rfl, hv, hej, htk, eU, ex, ey, show n - (i + 1) = q by omega, hjs]
      rw [show ((256 ^ (s + 1) * c + x * 2 ^ (8 * s) : Nat) : Int) - ((256 ^ (s + 1) * c : Nat) : Int) = (x : Int) * 256 ^ s from by
        rw [show (256 : Int) = 2 ^ 8 from rfl, ← Int.pow_mul]
        generalize 256 ^ (s + 1) * c = K
        rw [Int.natCast_add, Int.natCast_mul, Int.natCast_pow, Int.add_comm, Int.add_sub_cancel]
        rfl]
      rw [show 4 * j + s + 1 = 4 * j + s + 1 from rfl, Int.pow_succ, Int.pow_add, Int.pow_mul, show (256 : Int) ^ 4 = 4294967296 from rfl]
      grind
    · simp only [securelinkref4_Of.l0]
      rw [hn, hq, hdv, hm, if_pos (by omega), if_pos (by omega), if_pos (by omega), if_pos (by omega), if_pos (by omega), hsh, rd_el, hej, ho, w64 _ (by omega), Int.toNat_natCast]
      rfl
theorem of_f (t : ByteArray) (hsz : t.size ≤ 1000000) : Ev (fun k => securelinkref4_Of.f k t) (NN ((t.size + 3) / 4) (beV (bytesOf t))) := by
  obtain ⟨n, hn⟩ : ∃ n, t.size = n := ⟨_, rfl⟩
  rw [hn] at hsz ⊢
  refine (of_l t n ((n + 3) / 4) hn hsz rfl n 0 (List.replicate ((n + 3) / 4) 0) (by omega) (by simp) (Dig.zeros (by omega) _) ?_).same fun k => ?_
  · simp [vv, dL_zeros, beV, dL]
  · unfold securelinkref4_Of.f
    have e : wrap64 (Int.tdiv (wrap64 ((n : Int) + 3)) 4) = (((n + 3) / 4 : Nat) : Int) := by rw [w64 ((n : Int) + 3) (by omega), Int.tdiv_eq_ediv_of_nonneg (by omega), w64 _ (by omega)]; omega
    rw [hn, e, if_pos (by omega), if_pos (by omega), Int.toNat_natCast]
    rfl
theorem known_f (k : Int) : securelinkref4_Known.f k = some (decide (0 ≤ k ∧ k < 4)) := by
  unfold securelinkref4_Known.f
  by_cases h : k ≥ 0
  · rw [if_pos h]
    congr 1
    rw [decide_eq_decide]
    omega
  · rw [if_neg h]
    congr 1
    exact (decide_eq_false (by omega)).symm
end Go.Proofs.YtamfbmchamgddaaDoor
