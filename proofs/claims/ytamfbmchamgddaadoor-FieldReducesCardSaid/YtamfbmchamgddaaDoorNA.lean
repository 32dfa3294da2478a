/-
  What the printed functions of the reference's numbers reckon (words of 32 bits).
-/
import Derived.Test.YtamfbmchamgddaaDoorMC
import Derived.Test.YtamfbmchamgddaaDoorPFieldReducesx27
import Derived.Test.YtamfbmchamgddaaDoorPFieldReducesx30
import Derived.Test.YtamfbmchamgddaaDoorPFieldReducesx33
import Derived.Test.YtamfbmchamgddaaDoorPFieldReducesx36
namespace Go.Proofs.YtamfbmchamgddaaDoor
set_option linter.unusedVariables false
set_option linter.unusedSimpArgs false
open Go.RowKit Go.Proofs.YtamfbmchamgddaaDoorW.PrintWords Go.Proofs.YtamfbmchamgddaaDoorW.PrintMore Go.Proofs.YtamfbmchamgddaaDoorW.PrintLast PFieldReduces

/-- from some fuel on it is r -/
def Ev {α : Type} (F : Nat → Option α) (r : α) : Prop := ∃ K, ∀ k, K ≤ k → F k = some r
theorem Ev.step {α : Type} {F G : Nat → Option α} {r : α} (h : Ev G r) (e : ∀ k, F (k + 1) = G k) : Ev F r := by
  obtain ⟨K, hK⟩ := h
  refine ⟨K + 1, fun k hk => ?_⟩
  obtain ⟨k, rfl⟩ : ∃ j, k = j + 1 := ⟨k - 1, by omega⟩
  rw [e, hK k (by omega)]
theorem Ev.same {α : Type} {F G : Nat → Option α} {r : α} (h : Ev G r) (e : ∀ k, F k = G k) : Ev F r := by
  obtain ⟨K, hK⟩ := h
  exact ⟨K, fun k hk => by rw [e, hK k hk]⟩
theorem Ev.last {α : Type} {F : Nat → Option α} {r : α} (e : ∀ k, F (k + 1) = some r) : Ev F r := by
  refine ⟨1, fun k hk => ?_⟩
  obtain ⟨k, rfl⟩ : ∃ j, k = j + 1 := ⟨k - 1, by omega⟩
  exact e k
theorem Ev.now {α : Type} {F : Nat → Option α} {r : α} (e : ∀ k, F k = some r) : Ev F r := ⟨0, fun k _ => e k⟩
theorem Ev.bind {α β : Type} {F : Nat → Option β} {L : Nat → Option α} {G : α → Nat → Option β} {t : α} {r : β} (hL : Ev L t) (h : Ev (G t) r) (e : ∀ k, F k = (L k).bind fun x => G x k) : Ev F r := by
  obtain ⟨K, hK⟩ := hL
  obtain ⟨K', hK'⟩ := h
  exact ⟨K + K', fun k hk => by rw [e, hK k (by omega), Option.bind_some, hK' k (by omega)]⟩

abbrev B32 : Int := 4294967296
abbrev DD (l : List Int) : Prop := Dig 4294967296 l
def vv (l : List Int) : Int := dL 4294967296 l
abbrev NN (n : Nat) (V : Int) : List Int := dN 4294967296 n V
theorem NN_len (n : Nat) (V : Int) : (NN n V).length = n := dN_len _ _ _
theorem NN_dig (n : Nat) (V : Int) : DD (NN n V) := dN_dig (by omega) _ _
theorem vv_NN (n : Nat) (V : Int) (h : 0 ≤ V ∧ V < 4294967296 ^ n) : vv (NN n V) = V := by
  unfold vv NN
  rw [dL_dN (by omega)]
  exact Int.emod_eq_of_lt h.1 h.2
theorem NN_of {l : List Int} {n : Nat} {V : Int} (hl : l.length = n) (hd : DD l) (h : vv l = V) : l = NN n V := dN_of (by omega) hl hd h
theorem vv_range {l : List Int} (hd : DD l) : 0 ≤ vv l ∧ vv l < 4294967296 ^ l.length := dL_range (by omega) l hd
theorem vv_take (l : List Int) (k : Nat) : vv (l.take (k + 1)) = vv (l.take k) + el l k * 4294967296 ^ k := dL_take _ l k
theorem vv_set_take (l : List Int) (i : Nat) (x : Int) (h : i < l.length) : vv ((l.set i x).take (i + 1)) = vv (l.take i) + x * 4294967296 ^ i := by
  rw [vv_take]
  congr 1
  · rw [List.take_set_of_le (Nat.le_refl i)]
  · simp [el, h]
theorem w64 (x : Int) (h : -9223372036854775808 ≤ x ∧ x ≤ 9223372036854775807) : wrap64 x = x := by unfold wrap64; omega
theorem wu64 (x : Int) (h : 0 ≤ x ∧ x ≤ 18446744073709551615) : IntKind.u64.wrap x = x := by rw [IntKind.wrap_u64]; omega
theorem rd_el (l : List Int) (i : Nat) : rd l (i : Int) = el l i := by simp [rd, el]
theorem digit_f (l : List Int) (i : Nat) : securelinkref4_digit.f l (i : Int) = some (el l i) := by
  unfold securelinkref4_digit.f
  by_cases h : i < l.length
  · rw [if_pos (by omega), if_pos (by omega), rd_el]
  · rw [if_neg (by omega), el_past' l i (by omega)]

theorem minus_l (a b : List Int) (n : Nat) (hn : a.length = n) (ha : DD a) (hb : DD b) (hsz : n ≤ 1000000) (hbn : vv (b.take n) = vv b) (hle : vv b ≤ vv a) : ∀ (m i : Nat) (out : List Int) (c : Int), m + i = n → out.length = n → DD out → -1 ≤ c → c ≤ 0 →
    vv (out.take i) + 4294967296 ^ i * c = vv (a.take i) - vv (b.take i) → Ev (fun k => securelinkref4_minus.l0 k a b out c (i : Int)) (NN n (vv a - vv b))
  | 0, i, out, c, hi, hlen, hd, hc0, hc1, hV => by
    refine Ev.last fun k => ?_
    simp only [securelinkref4_minus.l0]
    rw [if_neg (by omega)]
    congr 1
    obtain rfl : i = n := by omega
    rw [List.take_of_length_le (by omega), List.take_of_length_le (by omega), hbn] at hV
    refine NN_of hlen hd ?_
    have h1 := vv_range hd
    have h2 := vv_range ha
    have h3 := vv_range hb
    rw [hlen] at h1
    rw [hn] at h2
    rcases (by omega : c = 0 ∨ c = -1) with rfl | rfl
    · omega
    · omega
  | m + 1, i, out, c, hi, hlen, hd, hc0, hc1, hV => by
    have hx := ha.el (by omega) i
    have hy := hb.el (by omega) i
    obtain ⟨t, et⟩ : ∃ t, t = c + el a i - el b i := ⟨_, rfl⟩
    refine (minus_l a b n hn ha hb hsz hbn hle m (i + 1) (out.set i (t % 4294967296)) (t / 4294967296) (by omega) (by simpa using hlen) (hd.set _ _ (by omega)) (by omega) (by omega) ?_).step fun k => ?_
    · rw [vv_set_take _ _ _ (by omega), vv_take, vv_take, Int.pow_succ]
      have h1 : t = 4294967296 * (t / 4294967296) + t % 4294967296 := by omega
      generalize t / 4294967296 = q at h1 ⊢
      generalize t % 4294967296 = r at h1 ⊢
      generalize (4294967296 : Int) ^ i = P at hV ⊢
      subst et
      grind
    · simp only [securelinkref4_minus.l0]
      rw [if_pos (by omega), if_pos (by omega), digit_f, Option.bind_some, if_pos (by omega), rd_el, w64 (el a i) (by omega), w64 (el b i) (by omega), w64 (c + el a i) (by omega), w64 _ (by omega), ← et, w64 _ (by omega), Int.toNat_natCast]
      rfl
theorem minus_f (a b : List Int) (n : Nat) (hn : a.length = n) (ha : DD a) (hb : DD b) (hsz : n ≤ 1000000) (hbn : vv (b.take n) = vv b) (hle : vv b ≤ vv a) : Ev (fun k => securelinkref4_minus.f k a b) (NN n (vv a - vv b)) := by
  refine (minus_l a b n hn ha hb hsz hbn hle n 0 (List.replicate n 0) 0 (by omega) (by simp) (Dig.zeros (by omega) _) (by omega) (by omega) (by simp [vv, dL])).same fun k => ?_
  unfold securelinkref4_minus.f
  rw [hn, if_pos (by omega), if_pos (by omega), Int.toNat_natCast]
  rfl

theorem pow_mono {n m : Nat} (h : n ≤ m) : (4294967296 : Int) ^ n ≤ 4294967296 ^ m := by
  obtain ⟨d, rfl⟩ : ∃ d, m = n + d := ⟨m - n, by omega⟩
  rw [Int.pow_add]
  have h1 : (0 : Int) < 4294967296 ^ n := Int.pow_pos (by omega)
  have h2 : (0 : Int) < 4294967296 ^ d := Int.pow_pos (by omega)
  generalize (4294967296 : Int) ^ n = P at *
  generalize (4294967296 : Int) ^ d = Q at *
  have := Int.mul_le_mul_of_nonneg_left (show 1 ≤ Q by omega) (show 0 ≤ P by omega)
  omega
theorem plus_l (a b : List Int) (n : Nat) (hn : a.length ≤ n) (hnb : b.length ≤ n) (ha : DD a) (hb : DD b) (hsz : n ≤ 1000000) : ∀ (m i : Nat) (out : List Int) (c : Int), m + i = n + 1 → out.length = n + 1 → DD out → 0 ≤ c → c ≤ 1 →
    vv (out.take i) + 4294967296 ^ i * c = vv (a.take i) + vv (b.take i) → Ev (fun k => securelinkref4_plus.l0 k a b (n : Int) out c (i : Int)) (NN (n + 1) (vv a + vv b))
  | 0, i, out, c, hi, hlen, hd, hc0, hc1, hV => by
    refine Ev.last fun k => ?_
    simp only [securelinkref4_plus.l0]
    rw [if_neg (by omega)]
    congr 1
    obtain rfl : i = n + 1 := by omega
    rw [List.take_of_length_le (by omega), List.take_of_length_le (by omega), List.take_of_length_le (by omega)] at hV
    refine NN_of hlen hd ?_
    have h1 := vv_range hd
    have h2 := vv_range ha
    have h3 := vv_range hb
    have p1 : (4294967296 : Int) ^ a.length ≤ 4294967296 ^ n := pow_mono hn
    have p2 : (4294967296 : Int) ^ b.length ≤ 4294967296 ^ n := pow_mono hnb
    have p3 : (4294967296 : Int) ^ (n + 1) = 4294967296 ^ n * 4294967296 := Int.pow_succ _ _
    rcases (by omega : c = 0 ∨ c = 1) with rfl | rfl
    · omega
    · omega
  | m + 1, i, out, c, hi, hlen, hd, hc0, hc1, hV => by
    have hx := ha.el (by omega) i
    have hy := hb.el (by omega) i
    obtain ⟨t, et⟩ : ∃ t, t = c + el a i + el b i := ⟨_, rfl⟩
    refine (plus_l a b n hn hnb ha hb hsz m (i + 1) (out.set i (t % 4294967296)) (t / 4294967296) (by omega) (by simpa using hlen) (hd.set _ _ (by omega)) (by omega) (by omega) ?_).step fun k => ?_
    · rw [vv_set_take _ _ _ (by omega), vv_take, vv_take, Int.pow_succ]
      have h1 : t = 4294967296 * (t / 4294967296) + t % 4294967296 := by omega
      generalize t / 4294967296 = q at h1 ⊢
      generalize t % 4294967296 = r at h1 ⊢
      generalize (4294967296 : Int) ^ i = P at hV ⊢
      subst et
      grind
    · simp only [securelinkref4_plus.l0]
      rw [if_pos (by omega), digit_f, Option.bind_some, digit_f, Option.bind_some, if_pos (by omega), if_pos (by omega), wu64 (el a i) (by omega), wu64 (el b i) (by omega), wu64 (c + el a i) (by omega), wu64 _ (by omega), ← et, w64 _ (by omega), Int.toNat_natCast]
      rfl
theorem longer_f (a b : List Int) : securelinkref4_longer.f a b = some ((max a.length b.length : Nat) : Int) := by
  unfold securelinkref4_longer.f
  by_cases h : a.length > b.length
  · rw [if_pos (by omega), Nat.max_eq_left (by omega)]
  · rw [if_neg (by omega), Nat.max_eq_right (by omega)]
theorem plus_f (a b : List Int) (n : Nat) (hn : max a.length b.length = n) (ha : DD a) (hb : DD b) (hsz : n ≤ 1000000) : Ev (fun k => securelinkref4_plus.f k a b) (NN (n + 1) (vv a + vv b)) := by
  refine (plus_l a b n (by omega) (by omega) ha hb hsz (n + 1) 0 (List.replicate (n + 1) 0) 0 (by omega) (by simp) (Dig.zeros (by omega) _) (by omega) (by omega) (by simp [vv, dL])).same fun k => ?_
  unfold securelinkref4_plus.f
  rw [longer_f, Option.bind_some, hn, w64 _ (by omega), if_pos (by omega), if_pos (by omega)]
  rfl

theorem eight_l (a : List Int) (ha : DD a) : ∀ (m i : Nat) (out : List Int), m + i = 8 → out.length = 8 → DD out → vv (out.take i) = vv (a.take i) → Ev (fun k => securelinkref4_eight.l0 k a out (i : Int)) (NN 8 (vv (a.take 8)))
  | 0, i, out, hi, hlen, hd, hV => by
    refine Ev.last fun k => ?_
    simp only [securelinkref4_eight.l0]
    rw [if_neg (by omega)]
    congr 1
    obtain rfl : i = 8 := by omega
    rw [List.take_of_length_le (by omega)] at hV
    exact NN_of hlen hd hV
  | m + 1, i, out, hi, hlen, hd, hV => by
    have hx := ha.el (by omega) i
    refine (eight_l a ha m (i + 1) (out.set i (el a i)) (by omega) (by simpa using hlen) (hd.set _ _ hx) ?_).step fun k => ?_
    · rw [vv_set_take _ _ _ (by omega), vv_take, hV]
    · simp only [securelinkref4_eight.l0]
      rw [if_pos (by omega), digit_f, Option.bind_some, if_pos (by omega), if_pos (by omega), w64 _ (by omega), Int.toNat_natCast]
      rfl
theorem vv_take_all (a : List Int) (n : Nat) (ha : DD a) (h : vv a < 4294967296 ^ n) : vv (a.take n) = vv a := by
  by_cases hl : n < a.length
  · have e : vv a = vv (a.take n) + 4294967296 ^ n * vv (a.drop n) := by
      have := dL_app 4294967296 (a.take n) (a.drop n)
      rw [List.take_append_drop, List.length_take, Nat.min_eq_left (by omega)] at this
      exact this
    have h1 := vv_range (ha.drop n)
    have h2 := vv_range (ha.take n)
    have h3 : (0 : Int) < 4294967296 ^ n := Int.pow_pos (by omega)
    have h4 : vv (a.drop n) = 0 := by
      rcases (by omega : vv (a.drop n) = 0 ∨ 1 ≤ vv (a.drop n)) with h | h5
      · exact h
      · have := Int.mul_le_mul_of_nonneg_left h5 (show 0 ≤ (4294967296 : Int) ^ n by omega)
        omega
    rw [e, h4, Int.mul_zero, Int.add_zero]
  · rw [List.take_of_length_le (by omega)]
theorem eight_f (a : List Int) (ha : DD a) (h : vv a < 4294967296 ^ 8) : Ev (fun k => securelinkref4_eight.f k a) (NN 8 (vv a)) := by
  have e := eight_l a ha 8 0 (List.replicate 8 0) (by omega) (by simp) (Dig.zeros (by omega) _) (by simp [vv, dL])
  rw [vv_take_all a 8 ha h] at e
  refine e.same fun k => ?_
  unfold securelinkref4_eight.f
  rw [if_pos (by omega)]
  rfl

theorem vv_split (a : List Int) (i : Nat) : vv a = vv (a.take i) + 4294967296 ^ i * vv (a.drop i) := by
  by_cases hl : i ≤ a.length
  · have := dL_app 4294967296 (a.take i) (a.drop i)
    rw [List.take_append_drop, List.length_take, Nat.min_eq_left (by omega)] at this
    exact this
  · rw [List.take_of_length_le (by omega), List.drop_of_length_le (by omega)]
    simp [vv, dL]
theorem vv_drop (l : List Int) (i : Nat) : vv (l.drop i) = el l i + 4294967296 * vv (l.drop (i + 1)) := by
  by_cases h : i < l.length
  · rw [List.drop_eq_getElem_cons h]
    simp only [vv, dL, el, List.getD_eq_getElem?_getD, List.getElem?_eq_getElem h, Option.getD_some]
  · rw [List.drop_of_length_le (by omega), List.drop_of_length_le (by omega), el_past' l i (by omega)]
    simp [vv, dL]
/-- what is above decides -/
theorem less_l (a b : List Int) (ha : DD a) (hb : DD b) : ∀ i : Nat, i ≤ 1000000 → vv (a.drop i) = vv (b.drop i) → Ev (fun k => securelinkref4_Less.l0 k a b ((i : Int) - 1)) (decide (vv a < vv b))
  | 0, hi, hV => by
    refine Ev.last fun k => ?_
    simp only [securelinkref4_Less.l0]
    rw [if_neg (by omega)]
    simp only [List.drop_zero] at hV
    rw [hV]
    simp
  | i + 1, hi, hV => by
    have hx := ha.el (by omega) i
    have hy := hb.el (by omega) i
    have e1 := vv_drop a i
    have e2 := vv_drop b i
    by_cases h : el a i = el b i
    · refine (less_l a b ha hb i (by omega) (by omega)).step fun k => ?_
      simp only [securelinkref4_Less.l0]
      rw [show ((i + 1 : Nat) : Int) - 1 = (i : Int) by omega, if_pos (by omega), digit_f, Option.bind_some, digit_f, Option.bind_some, if_pos h, w64 _ (by omega)]
    · refine Ev.last fun k => ?_
      simp only [securelinkref4_Less.l0]
      rw [show ((i + 1 : Nat) : Int) - 1 = (i : Int) by omega, if_pos (by omega), digit_f, Option.bind_some, digit_f, Option.bind_some, if_neg h]
      congr 1
      have s1 := vv_split a i
      have s2 := vv_split b i
      have r1 := vv_range (ha.take i)
      have r2 := vv_range (hb.take i)
      have q1 : (4294967296 : Int) ^ (a.take i).length ≤ 4294967296 ^ i := pow_mono (by simp; omega)
      have q2 : (4294967296 : Int) ^ (b.take i).length ≤ 4294967296 ^ i := pow_mono (by simp; omega)
      rw [e1] at s1
      rw [e2] at s2
      rw [decide_eq_decide]
      have h3 : (0 : Int) < 4294967296 ^ i := Int.pow_pos (by omega)
      rw [hV] at s1
      generalize vv (b.drop (i + 1)) = D at s1 s2
      generalize vv (a.take i) = T at s1 r1
      generalize vv (b.take i) = U at s2 r2
      generalize el a i = x at *
      generalize el b i = y at *
      generalize (4294967296 : Int) ^ i = P at *
      constructor
      · intro hxy
        have := Int.mul_le_mul_of_nonneg_left (show x + 1 ≤ y by omega) (show 0 ≤ P by omega)
        grind
      · intro hlt
        rcases (by omega : x < y ∨ y < x) with h5 | h5
        · exact h5
        · have := Int.mul_le_mul_of_nonneg_left (show y + 1 ≤ x by omega) (show 0 ≤ P by omega)
          grind
theorem less_f (a b : List Int) (ha : DD a) (hb : DD b) (hn : max a.length b.length ≤ 1000000) : Ev (fun k => securelinkref4_Less.f k a b) (decide (vv a < vv b)) := by
  refine (less_l a b ha hb (max a.length b.length) hn ?_).same fun k => ?_
  · rw [List.drop_of_length_le (by omega), List.drop_of_length_le (by omega)]
  · unfold securelinkref4_Less.f
    rw [longer_f, Option.bind_some, w64 _ (by omega)]
end Go.Proofs.YtamfbmchamgddaaDoor
