/-
  Several texts in one.
-/
import Derived.Test.YtgjeejgmphaliaaDoorWWords
import Derived.Test.YtgjeejgmphaliaaDoorPDerTimesx1
import Derived.Test.YtgjeejgmphaliaaDoorPDerTimesx11
import Derived.Test.YtgjeejgmphaliaaDoorPDerTimesx13
import Derived.Test.YtgjeejgmphaliaaDoorPDerTimesx4
import Derived.Test.YtgjeejgmphaliaaDoorPDerTimesx6
import Derived.Test.YtgjeejgmphaliaaDoorPDerTimesx7
import Derived.Test.YtgjeejgmphaliaaDoorMA
/-
  Days and years: two ways to count them are one. No program in sight.
-/
namespace Go.Proofs.YtgjeejgmphaliaaDoor
set_option linter.unusedVariables false

/-- is it a year with a day more? -/
def leapY (y : Int) : Bool := decide (y % 4 = 0 ∧ (y % 100 ≠ 0 ∨ y % 400 = 0))
/-- days ahead of a year -/
def bef (y : Int) : Int := 365 * y + (y + 3) / 4 - (y + 99) / 100 + (y + 399) / 400
/-- days of a month -/
def mDays (y m : Int) : Int := if m = 2 then (if leapY y then 29 else 28) else if m = 4 ∨ m = 6 ∨ m = 9 ∨ m = 11 then 30 else 31
/-- days ahead of a month, in its year -/
def mBef (y : Int) : Nat → Int
  | 0 => 0
  | m + 1 => mBef y m + mDays y (m + 1)
/-- years that begin with March -/
def marY (y : Int) : Int := 365 * y + y / 4 - y / 100 + y / 400
/-- the days as the program counts them -/
def dayN (y m d : Int) : Int := if m - 3 < 0 then marY (y - 1 + 400) + (153 * (m - 3 + 12) + 2) / 5 + d - 1 else marY (y + 400) + (153 * (m - 3) + 2) / 5 + d - 1

theorem bef_step (y : Int) : bef (y + 1) = bef y + (if leapY y then 366 else 365) := by
  unfold bef leapY
  split
  · rename_i h
    have h := of_decide_eq_true h
    omega
  · rename_i h
    have h : ¬ _ := fun h' => h (decide_eq_true h')
    omega
theorem bef_mono (y : Int) : bef y + 365 ≤ bef (y + 1) ∧ bef (y + 1) ≤ bef y + 366 := by
  rw [bef_step]
  split <;> omega
theorem marY_bef (y : Int) : marY (y + 400) = bef (y + 1) + 145731 := by
  unfold marY bef
  omega
theorem mDays_range (y m : Int) : 28 ≤ mDays y m ∧ mDays y m ≤ 31 := by
  unfold mDays
  repeat' split
  all_goals omega
/-- the two counts -/
theorem dayN_eq (y : Int) (m : Nat) (d : Int) (hm : 1 ≤ m) (hm2 : m ≤ 12) : dayN y m d = bef y + mBef y (m - 1) + d - 1 + 146037 := by
  have hb := bef_step y
  have h0 := marY_bef y
  have h1 := marY_bef (y - 1)
  rw [show y - 1 + 1 = y by omega] at h1
  unfold dayN
  rcases (by omega : m = 1 ∨ m = 2 ∨ m = 3 ∨ m = 4 ∨ m = 5 ∨ m = 6 ∨ m = 7 ∨ m = 8 ∨ m = 9 ∨ m = 10 ∨ m = 11 ∨ m = 12) with rfl | rfl | rfl | rfl | rfl | rfl | rfl | rfl | rfl | rfl | rfl | rfl <;> simp [mBef, mDays] <;> (cases hl : leapY y <;> simp [hl] at hb ⊢ <;> omega)

/-- the day number N (from the year 0 on) is the day d of the month m of the year y -/
structure Date (y : Int) (m : Nat) (d : Int) (N : Int) : Prop where
  m1 : 1 ≤ m
  m2 : m ≤ 12
  d1 : 1 ≤ d
  d2 : d ≤ mDays y m
  eq : bef y + mBef y (m - 1) + d - 1 = N
theorem mBef_year (y : Int) : mBef y 12 = bef (y + 1) - bef y := by
  have hb := bef_step y
  cases hl : leapY y <;> simp [mBef, mDays, hl] at hb ⊢ <;> omega
theorem mBef_mono (y : Int) : ∀ (d m : Nat), mBef y m + 28 * d ≤ mBef y (m + d)
  | 0, m => by simp
  | d + 1, m => by
    have ih := mBef_mono y d m
    have h := (mDays_range y ((m + d : Nat) + 1)).1
    rw [show m + (d + 1) = (m + d) + 1 from rfl]
    simp only [mBef]
    omega
theorem Date.in_year {y : Int} {m : Nat} {d N : Int} (h : Date y m d N) : bef y ≤ N ∧ N < bef (y + 1) := by
  have h1 := mBef_mono y (m - 1) 0
  have h2 := mBef_mono y (12 - m) m
  have h3 := mBef_year y
  have h4 : mBef y m = mBef y (m - 1) + mDays y m := by
    obtain ⟨k, rfl⟩ : ∃ k, m = k + 1 := ⟨m - 1, by have := h.m1; omega⟩
    simp [mBef]
  rw [show m + (12 - m) = 12 by have := h.m2; omega] at h2
  rw [Nat.zero_add] at h1
  have := h.d1
  have := h.d2
  have := h.eq
  simp only [mBef] at h1
  omega
theorem bef_le : ∀ (k : Nat) (y : Int), bef y ≤ bef (y + k)
  | 0, y => by simp
  | k + 1, y => by
    have := bef_le k y
    have := (bef_mono (y + k)).1
    rw [show y + ((k + 1 : Nat) : Int) = y + k + 1 by omega]
    omega
theorem year_one {y z N : Int} (h1 : bef y ≤ N) (h2 : N < bef (y + 1)) (h3 : bef z ≤ N) (h4 : N < bef (z + 1)) : y = z := by
  rcases (by omega : y = z ∨ y + 1 ≤ z ∨ z + 1 ≤ y) with h | h | h
  · exact h
  · have := bef_le (z - (y + 1)).toNat (y + 1)
    rw [show y + 1 + ((z - (y + 1)).toNat : Int) = z by omega] at this
    omega
  · have := bef_le (y - (z + 1)).toNat (z + 1)
    rw [show z + 1 + ((y - (z + 1)).toNat : Int) = y by omega] at this
    omega
theorem Date.one {y z : Int} {m k : Nat} {d e N : Int} (h : Date y m d N) (h' : Date z k e N) : y = z ∧ m = k ∧ d = e := by
  obtain ⟨a1, a2⟩ := h.in_year
  obtain ⟨b1, b2⟩ := h'.in_year
  obtain rfl := year_one a1 a2 b1 b2
  have p1 := h.m1
  have p2 := h'.m1
  have p3 := h.d1
  have p4 := h'.d1
  have p5 := h.d2
  have p6 := h'.d2
  have p7 := h.eq
  have p8 := h'.eq
  have q : ∀ {m : Nat}, 1 ≤ m → mBef y m = mBef y (m - 1) + mDays y m := fun {m} hm => by
    obtain ⟨k, rfl⟩ : ∃ k, m = k + 1 := ⟨m - 1, by omega⟩
    simp [mBef]
  have q1 := q p1
  have q2 := q p2
  rcases (by omega : m = k ∨ m + 1 ≤ k ∨ k + 1 ≤ m) with e | e | e
  · subst e
    exact ⟨rfl, rfl, by omega⟩
  · have := mBef_mono y (k - 1 - m) m
    rw [show m + (k - 1 - m) = k - 1 by omega] at this
    omega
  · have := mBef_mono y (m - 1 - k) k
    rw [show k + (m - 1 - k) = m - 1 by omega] at this
    omega
/-- the program's clock: the year that begins with March, found from above -/
theorem mar_start (D : Int) (h : 0 ≤ D) : D < marY (D * 400 / 146097 + 1 + 1) := by
  unfold marY
  omega
theorem clock_date (Y D : Int) (hY : 400 ≤ Y + 1) (h1 : marY Y ≤ D) (h2 : D < marY (Y + 1)) (d m : Int) (hd : d = D - marY Y) (hm : m = (5 * d + 2) / 153) :
    (m + 3 ≤ 12 → Date (Y - 400) (m + 3).toNat (d - (153 * m + 2) / 5 + 1) (D - 146037)) ∧ (12 < m + 3 → Date (Y - 400 + 1) (m + 3 - 12).toNat (d - (153 * m + 2) / 5 + 1) (D - 146037)) := by
  have e1 := marY_bef (Y - 400)
  rw [show Y - 400 + 400 = Y by omega] at e1
  have e2 := marY_bef (Y - 400 + 1)
  rw [show Y - 400 + 1 + 400 = Y + 1 by omega] at e2
  have hb := bef_step (Y - 400 + 1)
  have hb0 := bef_step (Y - 400)
  have hm0 : 0 ≤ m ∧ m ≤ 11 := by
    have := (bef_mono (Y - 400 + 1)).2
    omega
  generalize Y - 400 = y at *
  constructor
  · intro hle
    rcases (by omega : m = 0 ∨ m = 1 ∨ m = 2 ∨ m = 3 ∨ m = 4 ∨ m = 5 ∨ m = 6 ∨ m = 7 ∨ m = 8 ∨ m = 9) with rfl | rfl | rfl | rfl | rfl | rfl | rfl | rfl | rfl | rfl <;>
      refine ⟨by decide, by decide, by omega, ?_, ?_⟩ <;> (cases hl : leapY y <;> simp [mBef, mDays, hl] at hb0 ⊢ <;> omega)
  · intro hgt
    rcases (by omega : m = 10 ∨ m = 11) with rfl | rfl
    · refine ⟨by decide, by decide, by omega, ?_, ?_⟩ <;> (cases hl : leapY (y + 1) <;> simp [mBef, mDays, hl] at hb ⊢ <;> omega)
    · refine ⟨by decide, by decide, by omega, ?_, ?_⟩ <;> (cases hl : leapY (y + 1) <;> simp [mBef, mDays, hl] at hb ⊢ <;> omega)
/-- the reference's first year -/
theorem ref_start (N : Int) (h : 0 ≤ N) : bef (N / 366) ≤ N := by
  unfold bef
  omega
end Go.Proofs.YtgjeejgmphaliaaDoor

/-
  'From some fuel on it is r': the way to prove what a printed function reckons. No program in sight.
-/
namespace Go.Proofs.YtgjeejgmphaliaaDoor
set_option linter.unusedVariables false
open Go.RowKit Go.Proofs.YtgjeejgmphaliaaDoorW.PrintWords

/-- from some fuel on it is r -/
def Ev {α : Type} (F : Nat → Option α) (r : α) : Prop := ∃ K, ∀ k, K ≤ k → F k = some r
theorem Ev.step {α : Type} {F G : Nat → Option α} {r : α} (h : Ev G r) (e : ∀ k, F (k + 1) = G k) : Ev F r := by
  obtain ⟨K, hK⟩ := h
  refine ⟨K + 1, fun k hk => ?_⟩
  obtain ⟨k, rfl⟩ : ∃ j, k = j + 1 := ⟨k - 1, by omega⟩
  rw [e, hK k (by omega)]
theorem Ev.same {α : Type} {F G : Nat → Option α} {r : α} (h : Ev G r) (e : ∀ k, F k = G k) : Ev F r := by
  obtain ⟨K, hK⟩ := h
  exact ⟨K, fun k hk => by rw [e, hK k hk]⟩
theorem Ev.last {α : Type} {F : Nat → Option α} {r : α} (e : ∀ k, F (k + 1) = some r) : Ev F r := by
  refine ⟨1, fun k hk => ?_⟩
  obtain ⟨k, rfl⟩ : ∃ j, k = j + 1 := ⟨k - 1, by omega⟩
  exact e k
theorem Ev.now {α : Type} {F : Nat → Option α} {r : α} (e : ∀ k, F k = some r) : Ev F r := ⟨0, fun k _ => e k⟩
theorem Ev.bind {α β : Type} {F : Nat → Option β} {L : Nat → Option α} {G : α → Nat → Option β} {t : α} {r : β} (hL : Ev L t) (h : Ev (G t) r) (e : ∀ k, F k = (L k).bind fun x => G x k) : Ev F r := by
  obtain ⟨K, hK⟩ := hL
  obtain ⟨K', hK'⟩ := h
  exact ⟨K + K', fun k hk => by rw [e, hK k (by omega), Option.bind_some, hK' k (by omega)]⟩
theorem Ev.bindO {α β : Type} {F : Nat → Option β} {L : Option α} {G : α → Nat → Option β} {t : α} {r : β} (hL : L = some t) (h : Ev (G t) r) (e : ∀ k, F k = L.bind fun x => G x k) : Ev F r := h.same fun k => by rw [e, hL, Option.bind_some]
theorem w64i (x : Int) (h1 : -9223372036854775808 ≤ x) (h2 : x ≤ 9223372036854775807) : wrap64 x = x := by unfold wrap64; omega
theorem tdiv_nn (x c : Int) (h : 0 ≤ x) : Int.tdiv x c = x / c := Int.tdiv_eq_ediv_of_nonneg h
theorem tmod_nn (x c : Int) (h : 0 ≤ x) : Int.tmod x c = x % c := Int.tmod_eq_emod_of_nonneg h
end Go.Proofs.YtgjeejgmphaliaaDoor

/-
  What the printed functions on times reckon: years, months, days, seconds.
-/
namespace Go.Proofs.YtgjeejgmphaliaaDoor
set_option linter.unusedVariables false
set_option linter.unusedSimpArgs false
open Go.RowKit Go.Proofs.YtgjeejgmphaliaaDoorW.PrintWords PDerTimes

theorem leap_f (y : Int) (h : 0 ≤ y) : der_leap.f y = some (leapY y) := by
  unfold der_leap.f leapY
  rw [tmod_nn _ _ h, tmod_nn _ _ h, tmod_nn _ _ h]
  by_cases h4 : y % 4 = 0
  · by_cases h1 : y % 100 = 0
    · rw [if_pos h4, if_pos h1]
      congr 1
      rw [Bool.eq_iff_iff]
      simp [h4, h1]
    · rw [if_pos h4, if_neg h1]
      congr 1
      exact (decide_eq_true ⟨h4, .inl h1⟩).symm
  · rw [if_neg h4]
    congr 1
    exact (decide_eq_false (fun h => h4 h.1)).symm
theorem rleap_f (y : Int) (h : 0 ≤ y) : securelinkref7_leap.f y = some (leapY y) := by
  unfold securelinkref7_leap.f leapY
  rw [tmod_nn _ _ h, tmod_nn _ _ h, tmod_nn _ _ h]
  by_cases h4 : y % 4 = 0
  · by_cases h1 : y % 100 = 0
    · rw [if_pos h4, if_pos h1]
      congr 1
      rw [Bool.eq_iff_iff]
      simp [h4, h1]
    · rw [if_pos h4, if_neg h1]
      congr 1
      exact (decide_eq_true ⟨h4, .inl h1⟩).symm
  · rw [if_neg h4]
    congr 1
    rw [Bool.eq_iff_iff]
    simp only [beq_iff_eq, decide_eq_true_eq]
    omega
theorem monthDays_f (y m : Int) (h : 0 ≤ y) : der_monthDays.f y m = some (mDays y m) := by
  unfold der_monthDays.f mDays
  rw [leap_f y h, Option.bind_some]
  repeat' split
  all_goals first | rfl | omega | simp_all
theorem daysOf_f (y : Int) (m : Nat) (h : 0 ≤ y) (hm : 1 ≤ m) (hm2 : m ≤ 12) : securelinkref7_daysOf.f y m = some (mDays y m) := by
  unfold securelinkref7_daysOf.f mDays
  rw [rleap_f y h, Option.bind_some]
  rcases (by omega : m = 1 ∨ m = 2 ∨ m = 3 ∨ m = 4 ∨ m = 5 ∨ m = 6 ∨ m = 7 ∨ m = 8 ∨ m = 9 ∨ m = 10 ∨ m = 11 ∨ m = 12) with rfl | rfl | rfl | rfl | rfl | rfl | rfl | rfl | rfl | rfl | rfl | rfl <;> (cases hl : leapY y <;> simp [wrap64, rd])
theorem before_f (y : Int) (h : 0 ≤ y) (h2 : y ≤ 1000000) : securelinkref7_before.f y = some (bef y) := by
  unfold securelinkref7_before.f bef
  simp (disch := omega) only [w64i, tdiv_nn]
theorem days_f (y m d a b c : Int) (h : 0 ≤ y) (h2 : y ≤ 1000000) (hm : 0 ≤ m) (hm2 : m ≤ 100) (hd : 0 ≤ d) (hd2 : d ≤ 100) : der_clock_days.f y m d a b c = some (dayN y m d) := by
  unfold der_clock_days.f dayN marY
  rw [w64i (m - 3) (by omega) (by omega)]
  by_cases h3 : m - 3 < 0
  · rw [if_pos h3, if_pos h3]
    simp (disch := omega) only [w64i, tdiv_nn]
  · rw [if_neg h3, if_neg h3]
    simp (disch := omega) only [w64i, tdiv_nn]
theorem unix_f (y m d hh mi s : Int) (h : 0 ≤ y) (h2 : y ≤ 10000) (hm : 0 ≤ m) (hm2 : m ≤ 100) (hd : 0 ≤ d) (hd2 : d ≤ 100) (a : 0 ≤ hh ∧ hh ≤ 100) (b : 0 ≤ mi ∧ mi ≤ 100) (c : 0 ≤ s ∧ s ≤ 100) : der_clock_unix.f y m d hh mi s = some ((dayN y m d - dayN 1970 1 1) * 86400 + hh * 3600 + mi * 60 + s) := by
  unfold der_clock_unix.f
  rw [days_f 1970 1 1 0 0 0 (by omega) (by omega) (by omega) (by omega) (by omega) (by omega), days_f y m d hh mi s h (by omega) hm hm2 hd hd2, Option.bind_some, Option.bind_some]
  have e : dayN 1970 1 1 = 865565 := by decide
  have r : 0 ≤ dayN y m d ∧ dayN y m d ≤ 4000000 := by
    unfold dayN marY
    split <;> omega
  rw [e]
  generalize dayN y m d = N at *
  simp (disch := omega) only [w64i]
end Go.Proofs.YtgjeejgmphaliaaDoor

/-
  Digits of ten: what the printed digits reckons.
-/
namespace Go.Proofs.YtgjeejgmphaliaaDoor
set_option linter.unusedVariables false
set_option linter.unusedSimpArgs false
open Go.RowKit Go.Proofs.YtgjeejgmphaliaaDoorW.PrintWords PDerTimes

/-- the last n digits of v, the highest first -/
def dgs : Nat → Int → List Int
  | 0, _ => []
  | n + 1, v => dgs n (v / 10) ++ [48 + v % 10]
theorem dgs_len : ∀ (n : Nat) (v : Int), (dgs n v).length = n
  | 0, _ => rfl
  | n + 1, v => by simp [dgs, dgs_len n]
theorem dgs_dig : ∀ (n : Nat) (v : Int), ∀ x ∈ dgs n v, 48 ≤ x ∧ x ≤ 57
  | 0, _ => by simp [dgs]
  | n + 1, v => fun x hx => by
    simp only [dgs, List.mem_append, List.mem_singleton] at hx
    rcases hx with hx | rfl
    · exact dgs_dig n _ x hx
    · omega
theorem str_app (a b : List Int) : strOfNums (a ++ b) = strOfNums a ++ strOfNums b := by
  apply ByteArray.ext
  simp [strOfNums]
theorem str_size (l : List Int) : (strOfNums l).size = l.length := by simp [strOfNums, ByteArray.size]
theorem dgs_front : ∀ (n : Nat) (v : Int), dgs (n + 1) v = (48 + v / 10 ^ n % 10) :: dgs n v
  | 0, v => by simp [dgs]
  | n + 1, v => by
    rw [dgs, dgs_front n (v / 10)]
    conv => rhs; rw [dgs]
    rw [List.cons_append, Int.pow_succ, Int.mul_comm (10 ^ n) 10, ← Int.ediv_ediv_of_nonneg (by omega)]
theorem digits_l (v0 : Int) (n : Nat) (hn : n ≤ 100) : ∀ (d i : Nat) (v : Int), d + i = n → 0 ≤ v → v ≤ 1000000000000 → v = v0 / 10 ^ i → Ev (fun k => securelinkref7_digits.l0 k v (n : Int) (strOfNums (dgs i v0)) (i : Int)) (strOfNums (dgs n v0))
  | 0, i, v, hi, h0, h1, hv => by
    obtain rfl : i = n := by omega
    refine Ev.last fun k => ?_
    simp only [securelinkref7_digits.l0]
    rw [if_neg (by omega)]
  | d + 1, i, v, hi, h0, h1, hv => by
    refine (digits_l v0 n hn d (i + 1) (v / 10) (by omega) (by omega) (by omega) ?_).step fun k => ?_
    · rw [hv, Int.pow_succ, ← Int.ediv_ediv_of_nonneg (Int.le_of_lt (Int.pow_pos (by omega)))]
    · simp only [securelinkref7_digits.l0]
      rw [if_pos (by omega), Option.bind_some, tmod_nn _ _ h0, tdiv_nn _ _ h0, show (48 + v % 10 % 256) % 256 = 48 + v % 10 by omega, if_pos (by rw [str_size, str_size, dgs_len]; simp; omega), w64i (v / 10) (by omega) (by omega), w64i ((i : Int) + 1) (by omega) (by omega), ← str_app, dgs_front, ← hv]
      rfl
theorem digits_f (v : Int) (n : Nat) (hn : n ≤ 100) (h0 : 0 ≤ v) (h1 : v ≤ 1000000000000) : Ev (fun k => securelinkref7_digits.f k v (n : Int)) (strOfNums (dgs n v)) :=
  digits_l v n hn n 0 v (by omega) h0 h1 (by simp)
/-- the text behind the year -/
def restT (m d s : Int) : List Int := dgs 2 m ++ dgs 2 d ++ dgs 2 (s / 3600) ++ dgs 2 (s / 60 % 60) ++ dgs 2 (s % 60) ++ [90]
theorem dgs2_mod (y : Int) : dgs 2 (y % 100) = dgs 2 y := by
  simp only [dgs, List.nil_append, List.cons_append, List.cons.injEq, and_true]
  constructor <;> omega
/-- a time as a text: the tag, the data -/
def timeT (y m d s : Int) : Int × List Int := if 1950 ≤ y ∧ y < 2050 then (23, dgs 2 y ++ restT m d s) else (24, dgs 4 y ++ restT m d s)
theorem str90 : (⟨#[90]⟩ : ByteArray) = strOfNums [90] := by decide
end Go.Proofs.YtgjeejgmphaliaaDoor

/-
  The reference's PutTime, walked by hand.
-/
namespace Go.Proofs.YtgjeejgmphaliaaDoor
set_option linter.unusedVariables false
set_option linter.unusedSimpArgs false
open Go.RowKit Go.Proofs.YtgjeejgmphaliaaDoorW.PrintWords PDerTimes

theorem before_any (y : Int) (h : 0 ≤ y) (h2 : y ≤ 1000000) (w : World) : Calls Tryd.prog 39 #[.int .i64 y] w fun e w' => e = .returned (.int .i64 (bef y)) ∧ Below w.heap.size w w' :=
  (securelinkref7_before.calls y _ w (before_f y h h2)).mono fun e w' ⟨a, b⟩ => ⟨a, b.below⟩
theorem daysOf_any (y : Int) (m : Nat) (h : 0 ≤ y) (hm : 1 ≤ m) (hm2 : m ≤ 12) (w : World) : Calls Tryd.prog 40 #[.int .i64 y, .int .i64 (m : Int)] w fun e w' => e = .returned (.int .i64 (mDays y m)) ∧ Below w.heap.size w w' :=
  securelinkref7_daysOf.calls y m _ w (daysOf_f y m h hm hm2)
theorem digits_any (v : Int) (n : Nat) (hn : n ≤ 100) (h0 : 0 ≤ v) (h1 : v ≤ 1000000000000) (w : World) : Calls Tryd.prog 41 #[.int .i64 v, .int .i64 (n : Int)] w fun e w' => e = .returned (.string (strOfNums (dgs n v))) ∧ Below w.heap.size w w' := by
  obtain ⟨K, hK⟩ := digits_f v n hn h0 h1
  exact securelinkref7_digits.calls K v n _ w (hK K (Nat.le_refl _))

theorem ev_storeany {P : Program} {ops : Array Oper} {rest : List Oper} {o : Oper} {a : Act} {w : World} {Q : Exit → Act → World → Prop} (hgd : o.guard = none) {ty : TypeId} {x y : Operand} (ho : o.op = .store ty x y) {g : Nat} (hx : a.eval x = .pointer (some ⟨g, 0, none⟩)) {t : TypeId} {old cs : Array Value} (hb : w.heap[g]? = some (.cells old t (0, 0)))
    (hy : a.eval y = .agg cs) (hl : old.size = cs.size) (hi : (P.info? ty).map (·.size) = some cs.size) (h1 : cs.all (·.oneCell') = true)
    (h : ∀ w1, Stored g w w1 → w1.heap[g]? = some (.cells cs t (0, 0)) → wpList P ops Q rest (a.put o.dst undef) w1) : wpList P ops Q (o :: rest) a w :=
  wpList_store_row hgd ty x y ho g _ hx hy t _ hb hi hl h1 (h _ ⟨grown_setRow _ _ _, by simp⟩ (setRow_heap w g _ _ t _ hb))
theorem results_cell_tmp {P : Program} {fn : Func} {p q : Tmp} {ty : TypeId} (h : fn.results = #[.cell p ty, .tmp q]) (tmps : Array Value) (w : World) {g : Nat} {t : TypeId} {cs : Array Value} {u : Value} (hp : tmps.getD p undef = .pointer (some ⟨g, 0, none⟩)) (hq : tmps.getD q undef = u) (hb : w.heap[g]? = some (.cells cs t (0, 0)))
    {d : TypeDesc} (hu : P.underlying ty = some d) (hd : (match d with | .struct _ | .array _ _ => true | _ => false) = true) (hi : (P.info? ty).map (·.size) = some cs.size) :
    (results fn tmps).run P w = .ok (.tuple #[.agg cs, u]) w := by
  have hp' : tmps[p]?.getD undef = .pointer (some ⟨g, 0, none⟩) := by simpa using hp
  have hq' : tmps[q]?.getD undef = u := by simpa using hq
  have hr := run_loadVar_row (P := P) w g t ty cs (0, 0) d hb hu hd hi
  simp [results, h, hp', hq', asAddr, hr]
theorem heap_new (w : World) (o : Obj) : (w.alloc o).heap[w.heap.size]? = some o := Array.getElem?_push_size
/-- the result's own block, and what was there before -/
def RV (g : Nat) (w wr : World) : Prop := Below w.heap.size w wr ∧ wr.heap[g]? = some (.cells #[Value.int .u8 0, Value.string ⟨#[]⟩, Value.slice none 0 0] 31 (0, 0))
theorem RV.below {g : Nat} {w wr w1 : World} (h : RV g w wr) (hb : Below wr.heap.size wr w1) : RV g w w1 :=
  ⟨below_then h.1 h.1.size hb, (hb.block _ (Array.getElem?_eq_some_iff.1 h.2).1).trans h.2⟩

set_option maxRecDepth 100000 in
set_option maxHeartbeats 400000 in
theorem rput_any (t s N y d : Int) (M : Nat) (w : World) (h1 : -62167219200 ≤ t) (h2 : t ≤ 253402300799) (es : s = (t + 62167219200) % 86400) (eN : N = (t + 62167219200) / 86400) (hD : Date y M d N) (hy : 0 ≤ y ∧ y ≤ 100000) :
    Calls Tryd.prog 9 #[.int .i64 t] w fun e w' => e = .returned (.tuple #[.agg #[.int .u8 (timeT y M d s).1, .string (strOfNums (timeT y M d s).2), .slice none 0 0], .bool true]) ∧ Below w.heap.size w w' := by
  have g1 : ¬ t < -62167219200 := by omega
  have g2 : ¬ 253402300799 < t := by omega
  have a1 : IntKind.i64.wrap (t + 62167219200) = t + 62167219200 := by rw [IntKind.wrap_i64]; omega
  have a2 : Int.tdiv (t + 62167219200) 86400 = N := by rw [eN]; exact tdiv_nn _ _ (by omega)
  have a3 : Int.tmod (t + 62167219200) 86400 = s := by rw [es]; exact tmod_nn _ _ (by omega)
  go_enter Tryd.func9, Tryd.ntmps9
  go_wp2_with fail
  rw [← eN, ← es]
  have hN : 0 ≤ N ∧ N ≤ 3652424 := by omega
  have hs : 0 ≤ s ∧ s < 86400 := by omega
  have hst := ref_start N hN.1
  obtain ⟨b1, b2⟩ := hD.in_year
  have hy0 : N / 366 ≤ y := by
    rcases (by omega : N / 366 ≤ y ∨ y + 1 ≤ N / 366) with h | h
    · exact h
    · have := bef_le (N / 366 - (y + 1)).toNat (y + 1)
      rw [show y + 1 + ((N / 366 - (y + 1)).toNat : Int) = N / 366 by omega] at this
      omega
  have hO : Hid (RV w.heap.size w (w.alloc (Obj.cells #[Value.int .u8 0, Value.string ⟨#[]⟩, Value.slice none 0 0] 31))) :=
    Go.Lib.hid ⟨(Below.refl _ _).alloc (Nat.le_refl _) _, heap_new _ _⟩
  generalize w.alloc _ = w0 at hO ⊢
  replace hD := Go.Lib.hid hD
  replace eN := Go.Lib.hid eN
  replace es := Go.Lib.hid es
  replace hst := Go.Lib.hid hst
  obtain ⟨z0, ez0⟩ : ∃ z, z = N / 366 := ⟨_, rfl⟩
  rw [← ez0] at hy0 ⊢
  have hz0 : 0 ≤ z0 := by omega
  clear a1 a2 a3 g1 g2 ez0
  go_loopw [6] (fun v wr => ∃ z : Int, z0 ≤ z ∧ z ≤ y ∧ v = .int .i64 z ∧ Hid (RV w.heap.size w wr)) (fun v _ => (y - intOf v).toNat)
  case atStart => exact ⟨z0, by omega, hy0, rfl, hO⟩
  case round =>
    clear hO
    obtain ⟨z, hz1, hz2, rfl, hO⟩ := hrel
    by_cases hlt : z < y
    · have hle := bef_le (y - (z + 1)).toNat (z + 1)
      rw [show z + 1 + ((y - (z + 1)).toNat : Int) = y by omega] at hle
      have hle2 : bef (z + 1) ≤ N := by omega
      go_wp2_with (go_at_call 39; refine (before_any (z + 1) (by omega) (by omega) _).mono ?_; rintro e w1 ⟨rfl, hb1⟩)
      go_roundw
      case rel => exact ⟨z + 1, by omega, by omega, by go_num, Go.Lib.hid (hO.out.below hb1)⟩
      case measure => simp [intOf]; omega
    · obtain rfl : z = y := by omega
      have hyr := mBef_year z
      have hym := (bef_mono z).2
      obtain ⟨R, eR⟩ : ∃ R, R = N - bef z := ⟨_, rfl⟩
      have hR : 0 ≤ R ∧ R ≤ 366 := by omega
      have hbz : 0 ≤ bef z := by unfold bef; omega
      have eN2 : IntKind.i64.wrap (N - bef z) = R := by rw [IntKind.wrap_i64, eR]; omega
      go_wp2_with (go_at_call 39; refine (before_any _ (by omega) (by omega) _).mono ?_; rintro e w1 ⟨rfl, hb1⟩; replace hO := Go.Lib.hid (hO.out.below hb1))
      have hM1 := hD.out.m1
      have hM2 := hD.out.m2
      have hd1 := hD.out.d1
      have hd2 := hD.out.d2
      have hde := hD.out.eq
      have hdr := mDays_range z M
      go_loopw [7, 8] (fun v7 v8 wr => ∃ (m : Nat) (r : Int), 1 ≤ m ∧ m ≤ M ∧ r = N - bef z - mBef z (m - 1) ∧ v7 = .int .i64 r ∧ v8 = .int .i64 (m : Int) ∧ Hid (RV w.heap.size w wr)) (fun _ v8 _ => 13 - (intOf v8).toNat)
      case atStart => exact ⟨1, N - bef z, by omega, hM1, by simp [mBef], rfl, rfl, hO⟩
      case round =>
        clear hO
        obtain ⟨m, r, hm1, hmM, er, rfl, rfl, hO⟩ := hrel
        have hmr := mDays_range z m
        have hr0 : 0 ≤ r ∧ r ≤ 366 := by
          have a1 := mBef_mono z (m - 1) 0
          have a2 := mBef_mono z (M - 1 - (m - 1)) (m - 1)
          rw [show m - 1 + (M - 1 - (m - 1)) = M - 1 by omega] at a2
          simp only [mBef, Nat.zero_add] at a1
          omega
        have hst2 : mBef z m = mBef z (m - 1) + mDays z m := by
          obtain ⟨k, rfl⟩ : ∃ k, m = k + 1 := ⟨m - 1, by omega⟩
          simp [mBef]
        by_cases hlt : m < M
        · have hge : mDays z m ≤ r := by
            have a2 := mBef_mono z (M - 1 - m) m
            rw [show m + (M - 1 - m) = M - 1 by omega] at a2
            omega
          go_wp2_with (go_at_call 40; refine (daysOf_any z m (by omega) hm1 (by omega) _).mono ?_; rintro e w1 ⟨rfl, hb1⟩; replace hO := Go.Lib.hid (hO.out.below hb1))
          go_roundw
          case rel => exact ⟨m + 1, r - mDays z m, by omega, by omega, by rw [Nat.add_sub_cancel, hst2]; omega, by go_num, by go_num, hO⟩
          case measure => simp [intOf]; omega
        · obtain rfl : m = M := by omega
          have hlt2 : r < mDays z m := by omega
          obtain rfl : d = r + 1 := by omega
          replace er := Go.Lib.hid er
          have q1 : 0 ≤ s / 3600 ∧ s / 3600 ≤ 24 := by omega
          have q2 : 0 ≤ s / 60 % 60 ∧ s / 60 % 60 ≤ 60 := by omega
          have q3 : 0 ≤ s % 60 ∧ s % 60 ≤ 60 := by omega
          have dg2 := Go.Lib.hid (fun v (h0 : 0 ≤ v) (h1 : v ≤ 1000000000000) W => digits_any v 2 (by omega) h0 h1 W)
          rw [show ((2 : Nat) : Int) = 2 from rfl] at dg2
          go_wp2_with fail
          refine (daysOf_any z m (by omega) hm1 (by omega) _).mono ?_
          rintro e w1 ⟨rfl, hb1⟩
          replace hO := Go.Lib.hid (hO.out.below hb1)
          go_wp2_with fail
          refine (dg2.out (m : Int) (by omega) (by omega) _).mono ?_
          rintro e w2 ⟨rfl, hb2⟩
          replace hO := Go.Lib.hid (hO.out.below hb2)
          go_wp2_with fail
          refine (dg2.out (r + 1) (by omega) (by omega) _).mono ?_
          rintro e w3 ⟨rfl, hb3⟩
          replace hO := Go.Lib.hid (hO.out.below hb3)
          go_wp2_with fail
          refine (dg2.out (s / 3600) (by omega) (by omega) _).mono ?_
          rintro e w4 ⟨rfl, hb4⟩
          replace hO := Go.Lib.hid (hO.out.below hb4)
          go_wp2_with fail
          refine (dg2.out (s / 60 % 60) (by omega) (by omega) _).mono ?_
          rintro e w5 ⟨rfl, hb5⟩
          replace hO := Go.Lib.hid (hO.out.below hb5)
          go_wp2_with fail
          refine (dg2.out (s % 60) (by omega) (by omega) _).mono ?_
          rintro e w6 ⟨rfl, hb6⟩
          replace hO := Go.Lib.hid (hO.out.below hb6)
          by_cases hc : 1950 ≤ z ∧ z < 2050
          · have c1 : 1950 ≤ z := hc.1
            have c2 : z < 2050 := hc.2
            go_wp2_with fail
            refine (dg2.out (z % 100) (by omega) (by omega) _).mono ?_
            rintro e w7 ⟨rfl, hb7⟩
            replace hO := Go.Lib.hid (hO.out.below hb7)
            have bO := hO.out.2
            have hsz : (Tryd.prog.info? 31).map (·.size) = some 3 := by kernel_rfl
            go_wp2_with (refine ev_storeany (ty := 31) rfl rfl rfl bO rfl rfl hsz (by simp [Value.oneCell']) ?_; intro w8 h8 b8)
            exact bodyPost_ret (results_cell_tmp rfl _ _ rfl rfl b8 Tryd.underlying31 rfl hsz) rfl ⟨by
              rw [str90, ← str_app, ← str_app, ← str_app, ← str_app, ← str_app, ← str_app, dgs2_mod]
              unfold timeT
              rw [if_pos hc]
              rfl, h8.bel hO.out.1 hO.out.1.size (Nat.le_refl _)⟩
          · have dg4 := Go.Lib.hid (fun v (h0 : 0 ≤ v) (h1 : v ≤ 1000000000000) W => digits_any v 4 (by omega) h0 h1 W)
            rw [show ((4 : Nat) : Int) = 4 from rfl] at dg4
            have hsz : (Tryd.prog.info? 31).map (·.size) = some 3 := by kernel_rfl
            rcases (by omega : z < 1950 ∨ (1950 ≤ z ∧ 2050 ≤ z)) with c1 | ⟨c1, c2⟩
            all_goals
              go_wp2_with fail
              refine (dg4.out z (by omega) (by omega) _).mono ?_
              rintro e w7 ⟨rfl, hb7⟩
              replace hO := Go.Lib.hid (hO.out.below hb7)
              have bO := hO.out.2
              go_wp2_with (refine ev_storeany (ty := 31) rfl rfl rfl bO rfl rfl hsz (by simp [Value.oneCell']) ?_; intro w8 h8 b8)
              exact bodyPost_ret (results_cell_tmp rfl _ _ rfl rfl b8 Tryd.underlying31 rfl hsz) rfl ⟨by
                rw [str90, ← str_app, ← str_app, ← str_app, ← str_app, ← str_app, ← str_app]
                unfold timeT
                rw [if_neg hc]
                rfl, h8.bel hO.out.1 hO.out.1.size (Nat.le_refl _)⟩
end Go.Proofs.YtgjeejgmphaliaaDoor

/-
  The reference's PutTime out of range.
-/
namespace Go.Proofs.YtgjeejgmphaliaaDoor
set_option linter.unusedVariables false
set_option linter.unusedSimpArgs false
open Go.RowKit Go.Proofs.YtgjeejgmphaliaaDoorW.PrintWords

set_option maxRecDepth 100000 in
theorem rput_out (t : Int) (w : World) (h : t < -62167219200 ∨ (-62167219200 ≤ t ∧ 253402300799 < t)) :
    Calls Tryd.prog 9 #[.int .i64 t] w fun e w' => e = .returned (.tuple #[.agg #[.int .u8 0, .string ⟨#[]⟩, .slice none 0 0], .bool false]) ∧ Below w.heap.size w w' := by
  have hsz : (Tryd.prog.info? 31).map (·.size) = some 3 := by kernel_rfl
  have hO : RV w.heap.size w (w.alloc (Obj.cells #[Value.int .u8 0, Value.string ⟨#[]⟩, Value.slice none 0 0] 31)) := ⟨(Below.refl _ _).alloc (Nat.le_refl _) _, heap_new _ _⟩
  have bO := hO.2
  replace hO := Go.Lib.hid hO
  go_enter Tryd.func9, Tryd.ntmps9
  rcases h with h | ⟨h0, h⟩
  all_goals
    go_wp2_with (refine ev_storeany (ty := 31) rfl rfl rfl bO rfl rfl hsz (by simp [Value.oneCell']) ?_; intro w8 h8 b8)
    exact bodyPost_ret (results_cell_tmp rfl _ _ rfl rfl b8 Tryd.underlying31 rfl hsz) rfl ⟨rfl, h8.bel hO.out.1 hO.out.1.size (Nat.le_refl _)⟩
end Go.Proofs.YtgjeejgmphaliaaDoor

/-
  The program's clockOf, walked by hand.
-/
namespace Go.Proofs.YtgjeejgmphaliaaDoor
set_option linter.unusedVariables false
set_option linter.unusedSimpArgs false
open Go.RowKit Go.Proofs.YtgjeejgmphaliaaDoorW.PrintWords PDerTimes

theorem marY_step (y : Int) : marY y + 365 ≤ marY (y + 1) ∧ marY (y + 1) ≤ marY y + 366 := by
  unfold marY
  omega
theorem marY_le : ∀ (k : Nat) (y : Int), marY y ≤ marY (y + k)
  | 0, y => by simp
  | k + 1, y => by
    have := marY_le k y
    have := (marY_step (y + k)).1
    rw [show y + ((k + 1 : Nat) : Int) = y + k + 1 by omega]
    omega
theorem mar_find (D : Int) (lo : Nat) (hlo : marY lo ≤ D) : ∀ e : Nat, D < marY ((lo + e : Nat) + 1) → ∃ Y : Nat, lo ≤ Y ∧ Y ≤ lo + e ∧ marY Y ≤ D ∧ D < marY (Y + 1)
  | 0, h => ⟨lo, Nat.le_refl _, by omega, hlo, h⟩
  | e + 1, h => by
    by_cases hc : marY ((lo + (e + 1) : Nat) : Int) ≤ D
    · exact ⟨lo + (e + 1), by omega, by omega, hc, h⟩
    · obtain ⟨Y, a, b, c, d⟩ := mar_find D lo hlo e (by
        rw [show ((lo + e : Nat) : Int) + 1 = ((lo + (e + 1) : Nat) : Int) by omega]
        omega)
      exact ⟨Y, a, by omega, c, d⟩
theorem days0_any (w : World) : Calls Tryd.prog 72 #[.agg #[.int .i64 0, .int .i64 1, .int .i64 1, .int .i64 0, .int .i64 0, .int .i64 0]] w fun e w' => e = .returned (.int .i64 146037) ∧ Below w.heap.size w w' := by
  have h := days_f 0 1 1 0 0 0 (by omega) (by omega) (by omega) (by omega) (by omega) (by omega)
  rw [show dayN 0 1 1 = 146037 from by decide] at h
  exact der_clock_days.calls 0 1 1 0 0 0 _ w h
end Go.Proofs.YtgjeejgmphaliaaDoor

/-
  The program's clockOf, walked by hand.
-/
namespace Go.Proofs.YtgjeejgmphaliaaDoor
set_option linter.unusedVariables false
set_option linter.unusedSimpArgs false
open Go.RowKit Go.Proofs.YtgjeejgmphaliaaDoorW.PrintWords PDerTimes


/-- the clock's own block, and what was there before -/
def CV (g : Nat) (w wr : World) : Prop := Below w.heap.size w wr ∧ wr.heap[g]? = some (.cells #[Value.int .i64 0, Value.int .i64 0, Value.int .i64 0, Value.int .i64 0, Value.int .i64 0, Value.int .i64 0] 69 (0, 0))

theorem results_one {P : Program} {fn : Func} {q : Tmp} {ty : TypeId} (h : fn.results = #[.cell q ty]) (tmps : Array Value) (w : World) {g : Nat} {k : IntKind} {t : TypeId} {l : List Int} (hp : tmps.getD q undef = .pointer (some ⟨g, 0, none⟩)) (hb : Blk w g k t l)
    {d : TypeDesc} (hu : P.underlying ty = some d) (hd : (match d with | .struct _ | .array _ _ => true | _ => false) = true) (hi : (P.info? ty).map (·.size) = some l.length) :
    (results fn tmps).run P w = .ok (.agg (l.map (Value.int k)).toArray) w := results_cell_row h tmps w g t _ (0, 0) d hp hb hu hd (by rw [hi]; simp)
theorem marY_at (z : Nat) : marY z = 365 * (z : Int) + z / 4 - z / 100 + z / 400 := rfl
set_option maxRecDepth 100000 in
set_option maxHeartbeats 800000 in
theorem clockOf_by (t s N D y d' : Int) (M y0 Y : Nat) (w : World) (h1 : -62167219200 ≤ t) (h2 : t ≤ 253402300799) (es : s = (t + 62167219200) % 86400) (eN : N = (t + 62167219200) / 86400) (eD : D = N + 146037) (ey0 : (y0 : Int) = D * 400 / 146097 + 1) (hY0 : 399 ≤ Y) (hYy : Y ≤ y0) (c : marY Y ≤ D) (d : D < marY (Y + 1)) (hD : Date y M d' N) :
    Calls Tryd.prog 37 #[.int .i64 t] w fun e w' => e = .returned (.agg #[.int .i64 y, .int .i64 (M : Int), .int .i64 d', .int .i64 (s / 3600), .int .i64 (s / 60 % 60), .int .i64 (s % 60)]) ∧ Below w.heap.size w w' := by
  have hz := heap_new w (Obj.cells #[Value.int .i64 0, Value.int .i64 0, Value.int .i64 0, Value.int .i64 0, Value.int .i64 0, Value.int .i64 0] 69)
  have hb0 : Below w.heap.size w (w.alloc (Obj.cells #[Value.int .i64 0, Value.int .i64 0, Value.int .i64 0, Value.int .i64 0, Value.int .i64 0, Value.int .i64 0] 69)) := (Below.refl _ _).alloc (Nat.le_refl _) _
  have hcd := clock_date Y D (by omega) c d _ _ rfl rfl
  rw [show D - 146037 = N by omega, marY_at] at hcd
  have q1 : ∀ (a b c' : Int), 12 < (5 * (D - (365 * (Y : Int) + Y / 4 - Y / 100 + Y / 400)) + 2) / 153 + 3 → (Y : Int) - 400 + 1 = y ∧ (5 * (D - (365 * (Y : Int) + Y / 4 - Y / 100 + Y / 400)) + 2) / 153 + 3 - 12 = (M : Int) ∧ D - (365 * (Y : Int) + Y / 4 - Y / 100 + Y / 400) - (153 * ((5 * (D - (365 * (Y : Int) + Y / 4 - Y / 100 + Y / 400)) + 2) / 153) + 2) / 5 + 1 = d' := fun _ _ _ h => by
    obtain ⟨a1, a2, a3⟩ := (hcd.2 h).one hD
    exact ⟨a1, by omega, a3⟩
  have q2 : ∀ (a b c' : Int), (5 * (D - (365 * (Y : Int) + Y / 4 - Y / 100 + Y / 400)) + 2) / 153 + 3 ≤ 12 → (Y : Int) - 400 = y ∧ (5 * (D - (365 * (Y : Int) + Y / 4 - Y / 100 + Y / 400)) + 2) / 153 + 3 = (M : Int) ∧ D - (365 * (Y : Int) + Y / 4 - Y / 100 + Y / 400) - (153 * ((5 * (D - (365 * (Y : Int) + Y / 4 - Y / 100 + Y / 400)) + 2) / 153) + 2) / 5 + 1 = d' := fun _ _ _ h => by
    obtain ⟨a1, a2, a3⟩ := (hcd.1 h).one hD
    have := (hcd.1 h).m1
    exact ⟨a1, by omega, a3⟩
  replace q1 := Go.Lib.hid q1
  replace q2 := Go.Lib.hid q2
  replace hD := Go.Lib.hid hD
  clear hcd
  go_enter Tryd.func37, Tryd.ntmps37
  go_wp2_with fail
  refine (days0_any _).mono ?_
  rintro e w1 ⟨rfl, hb1⟩
  have hO : Hid (CV w.heap.size w w1) := Go.Lib.hid ⟨below_then hb0 hb0.size hb1, (hb1.block _ (Array.getElem?_eq_some_iff.1 hz).1).trans hz⟩
  clear hb0 hz hb1
  go_wp2_with fail
  rw [← es, ← eN, ← eD, ← ey0]
  have hN : 0 ≤ N ∧ N ≤ 3652424 := by omega
  have hs : 0 ≤ s ∧ s < 86400 := by omega
  have hy0 : y0 ≤ 20000 := by omega
  replace es := Go.Lib.hid es
  replace eN := Go.Lib.hid eN
  have hD : 146037 ≤ D ∧ D ≤ 4000000 := by omega
  replace eD := Go.Lib.hid eD
  replace ey0 := Go.Lib.hid ey0
  go_loopw [5] (fun v wr => ∃ z : Nat, Y ≤ z ∧ z ≤ y0 ∧ v = .int .i64 (z : Int) ∧ Hid (CV w.heap.size w wr)) (fun v _ => (intOf v).toNat)
  case atStart => exact ⟨y0, hYy, Nat.le_refl _, rfl, hO⟩
  case round =>
    clear hO
    obtain ⟨z, hz1, hz2, rfl, hO⟩ := hrel
    have hp : (0 : Int) < (z : Int) := by omega
    by_cases hlt : Y < z
    · have hle := marY_le (z - (Y + 1)) (Y + 1)
      rw [show (Y : Int) + 1 + ((z - (Y + 1) : Nat) : Int) = (z : Int) by omega] at hle
      have hgt : D < marY z := by omega
      unfold marY at hgt
      go_wp2_with fail
      go_roundw
      case rel => exact ⟨z - 1, by omega, by omega, by rw [show ((z - 1 : Nat) : Int) = (z : Int) - 1 by omega], hO⟩
      case measure => simp [intOf]; omega
    · obtain rfl : z = Y := by omega
      have hle : marY z ≤ D := c
      unfold marY at hle
      have hsz : (Tryd.prog.info? 69).map (·.size) = some 6 := by kernel_rfl
      have bO := hO.out.2
      have hcc : CV w.heap.size w wr := hO.out
      replace hcc := Go.Lib.hid hcc
      by_cases h12 : 12 < (5 * (D - (365 * (z : Int) + z / 4 - z / 100 + z / 400)) + 2) / 153 + 3
      · have Q := Go.Lib.hid (q1.out 0 0 0 h12)
        go_wp2_with (first
          | (refine ev_storeany (ty := 69) rfl rfl rfl bO rfl rfl hsz (by simp [Value.oneCell']) ?_; intro w8 h8 b8
             have k0 := cell_of_row w8 w.heap.size 0 _ _ _ b8
             have k1 := cell_of_row w8 w.heap.size 1 _ _ _ b8
             have k2 := cell_of_row w8 w.heap.size 2 _ _ _ b8
             have k3 := cell_of_row w8 w.heap.size 3 _ _ _ b8
             have k4 := cell_of_row w8 w.heap.size 4 _ _ _ b8
             have k5 := cell_of_row w8 w.heap.size 5 _ _ _ b8
             simp at k0 k1 k2 k3 k4 k5
             have f8 : ∀ i, w8.frozen? ⟨w.heap.size, i, none⟩ = false := fun i => by simp [World.frozen?, b8]))
        have B8 : Blk w8 w.heap.size .i64 69 [_, _, _, _, _, _] := b8
        have BF := (((((((B8.set 1 ((5 * (D - (365 * (z : Int) + z / 4 - z / 100 + z / 400)) + 2) / 153 + 3 - 12)).set 0 ((z : Int) - 400 + 1)).set 0 ((z : Int) - 400 + 1)).set 1 ((5 * (D - (365 * (z : Int) + z / 4 - z / 100 + z / 400)) + 2) / 153 + 3 - 12)).set 2 (D - (365 * (z : Int) + z / 4 - z / 100 + z / 400) - (153 * ((5 * (D - (365 * (z : Int) + z / 4 - z / 100 + z / 400)) + 2) / 153) + 2) / 5 + 1)).set 3 (s / 3600)).set 4 (s / 60 % 60)).set 5 (s % 60)
        have hbel := h8.bel hcc.out.1 hcc.out.1.size (Nat.le_refl _)
        exact bodyPost_ret (results_one rfl _ _ rfl BF Tryd.underlying69 rfl hsz) rfl ⟨by
          obtain ⟨e1, e2, e3⟩ := Q.out
          rw [← e1, ← e2, ← e3]
          rfl, ((((((((hbel.setCell (by simp) _).setCell (by simp) _).setCell (by simp) _).setCell (by simp) _).setCell (by simp) _).setCell (by simp) _).setCell (by simp) _).setCell (by simp) _)⟩
      · have Q := Go.Lib.hid (q2.out 0 0 0 (by omega))
        go_wp2_with (first
          | (refine ev_storeany (ty := 69) rfl rfl rfl bO rfl rfl hsz (by simp [Value.oneCell']) ?_; intro w8 h8 b8
             have k0 := cell_of_row w8 w.heap.size 0 _ _ _ b8
             have k1 := cell_of_row w8 w.heap.size 1 _ _ _ b8
             have k2 := cell_of_row w8 w.heap.size 2 _ _ _ b8
             have k3 := cell_of_row w8 w.heap.size 3 _ _ _ b8
             have k4 := cell_of_row w8 w.heap.size 4 _ _ _ b8
             have k5 := cell_of_row w8 w.heap.size 5 _ _ _ b8
             simp at k0 k1 k2 k3 k4 k5
             have f8 : ∀ i, w8.frozen? ⟨w.heap.size, i, none⟩ = false := fun i => by simp [World.frozen?, b8]))
        have B8 : Blk w8 w.heap.size .i64 69 [_, _, _, _, _, _] := b8
        have BF := (((((B8.set 0 ((z : Int) - 400)).set 1 ((5 * (D - (365 * (z : Int) + z / 4 - z / 100 + z / 400)) + 2) / 153 + 3)).set 2 (D - (365 * (z : Int) + z / 4 - z / 100 + z / 400) - (153 * ((5 * (D - (365 * (z : Int) + z / 4 - z / 100 + z / 400)) + 2) / 153) + 2) / 5 + 1)).set 3 (s / 3600)).set 4 (s / 60 % 60)).set 5 (s % 60)
        have hbel := h8.bel hcc.out.1 hcc.out.1.size (Nat.le_refl _)
        exact bodyPost_ret (results_one rfl _ _ rfl BF Tryd.underlying69 rfl hsz) rfl ⟨by
          obtain ⟨e1, e2, e3⟩ := Q.out
          rw [← e1, ← e2, ← e3]
          rfl, ((((((hbel.setCell (by simp) _).setCell (by simp) _).setCell (by simp) _).setCell (by simp) _).setCell (by simp) _).setCell (by simp) _)⟩
theorem clockOf_any (t s N y d : Int) (M : Nat) (w : World) (h1 : -62167219200 ≤ t) (h2 : t ≤ 253402300799) (es : s = (t + 62167219200) % 86400) (eN : N = (t + 62167219200) / 86400) (hD : Date y M d N) :
    Calls Tryd.prog 37 #[.int .i64 t] w fun e w' => e = .returned (.agg #[.int .i64 y, .int .i64 (M : Int), .int .i64 d, .int .i64 (s / 3600), .int .i64 (s / 60 % 60), .int .i64 (s % 60)]) ∧ Below w.heap.size w w' := by
  have hN : 0 ≤ N ∧ N ≤ 3652424 := by omega
  obtain ⟨y0, ey0⟩ : ∃ y0 : Nat, (y0 : Int) = (N + 146037) * 400 / 146097 + 1 := ⟨((N + 146037) * 400 / 146097 + 1).toNat, by omega⟩
  have hst := mar_start (N + 146037) (by omega)
  obtain ⟨Y, a1, a2, a3, a4⟩ := mar_find (N + 146037) 399 (by unfold marY; omega) (y0 - 399) (by
    rw [show ((399 + (y0 - 399) : Nat) : Int) = (N + 146037) * 400 / 146097 + 1 by omega]
    exact hst)
  exact clockOf_by t s N (N + 146037) y d M y0 Y w h1 h2 es eN rfl ey0 a1 (by omega) a3 a4 hD
end Go.Proofs.YtgjeejgmphaliaaDoor
