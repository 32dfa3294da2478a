/-
  Several texts in one.
-/
import Derived.Test.YtgjeejgmphaliaaDoorMD
import Derived.Test.YtgjeejgmphaliaaDoorClockP
import Derived.Test.YtgjeejgmphaliaaDoorSecondsP
import Derived.Test.YtgjeejgmphaliaaDoorPDerTimesx18
import Derived.Test.YtgjeejgmphaliaaDoorPDerTimesx20
import Derived.Test.YtgjeejgmphaliaaDoorPDerTimesx21
import Derived.Test.YtgjeejgmphaliaaDoorPDerTimesx22
/-
  The program's Time, walked by hand.
-/
namespace Go.Proofs.YtgjeejgmphaliaaDoor
set_option linter.unusedVariables false
set_option linter.unusedSimpArgs false
open Go.RowKit Go.Proofs.YtgjeejgmphaliaaDoorW.PrintWords PDerTimes

theorem unix_any (y m d hh mi s : Int) (h : 0 ≤ y) (h2 : y ≤ 10000) (hm : 0 ≤ m) (hm2 : m ≤ 100) (hd : 0 ≤ d) (hd2 : d ≤ 100) (a : 0 ≤ hh ∧ hh ≤ 100) (b : 0 ≤ mi ∧ mi ≤ 100) (c : 0 ≤ s ∧ s ≤ 100) (w : World) :
    Calls Tryd.prog 43 #[.agg #[.int .i64 y, .int .i64 m, .int .i64 d, .int .i64 hh, .int .i64 mi, .int .i64 s]] w fun e w' => e = .returned (.int .i64 ((dayN y m d - dayN 1970 1 1) * 86400 + hh * 3600 + mi * 60 + s)) ∧ Below w.heap.size w w' :=
  der_clock_unix.calls y m d hh mi s _ w (unix_f y m d hh mi s h h2 hm hm2 hd hd2 a b c)

theorem okV_digit (b : List Int) (k : Nat) : ∀ n, okV b k n = true → ∀ i, i < n → dv b (k + i) ≤ 9
  | 0, _, i, hi => by omega
  | n + 1, h, i, hi => by
    simp only [okV, Bool.and_eq_true, decide_eq_true_eq] at h
    rcases (by omega : i < n ∨ i = n) with h2 | rfl
    · exact okV_digit b k n h.1 i h2
    · exact h.2
theorem okV_range (b : List Int) (k n : Nat) (hn : n ≤ 4) (h : okV b k n = true) : rdV b k n ≤ 9999 := by
  have q := okV_digit b k n h
  have h0 := dv_range b (k + 0)
  have h1 := dv_range b (k + 1)
  have h2 := dv_range b (k + 2)
  have h3 := dv_range b (k + 3)
  rcases (by omega : n = 0 ∨ n = 1 ∨ n = 2 ∨ n = 3 ∨ n = 4) with rfl | rfl | rfl | rfl | rfl <;> simp only [rdV]
  · omega
  · have := q 0 (by omega); omega
  · have := q 0 (by omega); have := q 1 (by omega); omega
  · have := q 0 (by omega); have := q 1 (by omega); have := q 2 (by omega); omega
  · have := q 0 (by omega); have := q 1 (by omega); have := q 2 (by omega); have := q 3 (by omega); omega
theorem clkOk_ok {b : List Int} {yd : Nat} (h : clkOk b yd = true) : okAll b yd = true ∧ 1 ≤ rdV b yd 2 ∧ rdV b yd 2 ≤ 12 ∧ 1 ≤ rdV b (yd + 2) 2 ∧ rdV b (yd + 4) 2 < 24 ∧ rdV b (yd + 6) 2 < 60 ∧ rdV b (yd + 8) 2 < 60 ∧ rdV b (yd + 2) 2 ≤ mDays (yearV yd (rdV b 0 yd)) (rdV b yd 2) := by
  simp only [clkOk, Bool.and_eq_true, decide_eq_true_eq] at h
  obtain ⟨⟨h1, ⟨⟨⟨⟨⟨h2, h3⟩, h4⟩, h5⟩, h6⟩, h7⟩⟩, h8⟩ := h
  exact ⟨h1, h2, h3, h4, h5, h6, h7, h8⟩
theorem okAll_year {b : List Int} {yd : Nat} (h : okAll b yd = true) : okV b 0 yd = true := by
  simp only [okAll, Bool.and_eq_true] at h
  exact h.1.1.1.1.1.2
theorem year_range {b : List Int} {yd : Nat} (hyd : yd = 2 ∨ yd = 4) (h : okAll b yd = true) : 0 ≤ yearV yd (rdV b 0 yd) ∧ yearV yd (rdV b 0 yd) ≤ 9999 := by
  have h1 := okV_range b 0 yd (by omega) (okAll_year h)
  have h0 := rdV_range b 0 yd (by omega)
  rcases hyd with rfl | rfl
  · have q := okV_digit b 0 2 (okAll_year h)
    have a0 := dv_range b (0 + 0)
    have a1 := dv_range b (0 + 1)
    have := q 0 (by omega)
    have := q 1 (by omega)
    have e : rdV b 0 2 = 10 * (10 * 0 + dv b (0 + 0)) + dv b (0 + 1) := rfl
    unfold yearV
    rw [if_pos rfl]
    by_cases hc : rdV b 0 2 + 1900 < 1950
    · rw [if_pos hc]; omega
    · rw [if_neg hc]; omega
  · unfold yearV
    rw [if_neg (by decide)]
    omega

/-- do the length, the end and all that is within fit? -/
def rcOk (b : List Int) (yd : Nat) : Bool := decide (b.length = yd + 11) && decide (el b (yd + 10) = 90) && clkOk b yd
theorem rclock_f (A : Option Addr) (nb c yd : Nat) (b : List Int) (w : World) (hyd : yd = 2 ∨ yd = 4) (hr : ReadsInt w .u8 A nb b) (hbb : Byt b) (h : rcOk b yd = false) :
    Calls Tryd.prog 42 #[.slice A nb c, .int .i64 (yd : Int)] w fun e w' => ∃ y m d hh mi s : Int, e = .returned (.tuple #[.agg #[.int .i64 y, .int .i64 m, .int .i64 d, .int .i64 hh, .int .i64 mi, .int .i64 s], .bool false]) ∧ Below w.heap.size w w' := by
  have hl := hr.1
  have hnb := hr.2.1
  rcases hyd with rfl | rfl
  · by_cases h1 : nb = 13
    · subst h1
      by_cases h2 : el b 12 = 90
      · have h3 : clkOk b 2 = false := by simpa [rcOk, hl, h2] using h
        have := rclock_any2 A c b w hr hbb h2
        rw [h3] at this
        exact this.mono fun e w' ⟨x, y⟩ => ⟨_, _, _, _, _, _, x, y⟩
      · exact (rclock_z2 A c b w hr h2).mono fun e w' ⟨x, y⟩ => ⟨_, _, _, _, _, _, x, y⟩
    · exact (rclock_len2 A nb c w hnb h1).mono fun e w' ⟨x, y⟩ => ⟨_, _, _, _, _, _, x, y⟩
  · by_cases h1 : nb = 15
    · subst h1
      by_cases h2 : el b 14 = 90
      · have h3 : clkOk b 4 = false := by simpa [rcOk, hl, h2] using h
        have := rclock_any4 A c b w hr hbb h2
        rw [h3] at this
        exact this.mono fun e w' ⟨x, y⟩ => ⟨_, _, _, _, _, _, x, y⟩
      · exact (rclock_z4 A c b w hr h2).mono fun e w' ⟨x, y⟩ => ⟨_, _, _, _, _, _, x, y⟩
    · exact (rclock_len4 A nb c w hnb h1).mono fun e w' ⟨x, y⟩ => ⟨_, _, _, _, _, _, x, y⟩
theorem rclock_t (A : Option Addr) (nb c yd : Nat) (b : List Int) (w : World) (hyd : yd = 2 ∨ yd = 4) (hr : ReadsInt w .u8 A nb b) (hbb : Byt b) (h : rcOk b yd = true) :
    Calls Tryd.prog 42 #[.slice A nb c, .int .i64 (yd : Int)] w fun e w' => e = .returned (.tuple #[.agg #[.int .i64 (yearV yd (rdV b 0 yd)), .int .i64 (rdV b yd 2), .int .i64 (rdV b (yd + 2) 2), .int .i64 (rdV b (yd + 4) 2), .int .i64 (rdV b (yd + 6) 2), .int .i64 (rdV b (yd + 8) 2)], .bool true]) ∧ Below w.heap.size w w' := by
  have hl := hr.1
  simp only [rcOk, Bool.and_eq_true, decide_eq_true_eq] at h
  obtain ⟨⟨h1, h2⟩, h3⟩ := h
  obtain rfl : nb = yd + 11 := by omega
  rcases hyd with rfl | rfl
  · have := rclock_any2 A c b w hr hbb h2
    rw [h3] at this
    exact this
  · have := rclock_any4 A c b w hr hbb h2
    rw [h3] at this
    exact this
/-- the seconds of a time -/
def timeV (b : List Int) (yd : Nat) : Int := (dayN (yearV yd (rdV b 0 yd)) (rdV b yd 2) (rdV b (yd + 2) 2) - dayN 1970 1 1) * 86400 + rdV b (yd + 4) 2 * 3600 + rdV b (yd + 6) 2 * 60 + rdV b (yd + 8) 2
/-- is it a time in its own form? -/
def timeOk (b : List Int) (yd : Nat) : Bool := rcOk b yd && !(decide (yd = 4) && decide (1950 ≤ yearV yd (rdV b 0 yd)) && decide (yearV yd (rdV b 0 yd) < 2050))

/-- no time: another tag -/
theorem ptime_tag (tag : Int) (v u : Value) (w : World) (h : tag ≠ 23 ∧ tag ≠ 24) :
    Calls Tryd.prog 11 #[.agg #[.int .u8 tag, v, u]] w fun e w' => e = .returned (.tuple #[.int .i64 0, .int .i64 3]) ∧ Below w.heap.size w w' := by
  obtain ⟨h1, h2⟩ := h
  have h1' : (tag == 23) = false := by simpa using h1
  have h2' : (tag == 24) = false := by simpa using h2
  go_enter Tryd.func11, Tryd.ntmps11
  go_wp2_with fail
  go_ret2
  exact ⟨rfl, (Below.refl _ _).alloc (Nat.le_refl _) _⟩
set_option maxRecDepth 100000 in
set_option maxHeartbeats 1000000 in
theorem ptime_no (A : Option Addr) (nb c yd : Nat) (b : List Int) (w : World) (hyd : yd = 2 ∨ yd = 4) (hr : ReadsInt w .u8 A nb b) (hbb : Byt b) (h : rcOk b yd = false) :
    Calls Tryd.prog 11 #[.agg #[.int .u8 (if yd = 2 then 23 else 24), .slice A nb c, .slice none 0 0]] w fun e w' => e = .returned (.tuple #[.int .i64 0, .int .i64 3]) ∧ Below w.heap.size w w' := by
  have hb0 : ∀ o, Below w.heap.size w (w.alloc o) := fun o => (Below.refl _ _).alloc (Nat.le_refl _) _
  have hrc := Go.Lib.hid (fun o => rclock_f A nb c yd b (w.alloc o) hyd (hr.below (hb0 o)) hbb h)
  have hrc' := hrc
  rcases hyd with rfl | rfl
  all_goals
    first | rw [show ((2 : Nat) : Int) = 2 from rfl] at hrc | rw [show ((4 : Nat) : Int) = 4 from rfl] at hrc
    clear hrc' hr
    replace hb0 := Go.Lib.hid hb0
    first | rw [if_pos rfl] | rw [if_neg (by decide)]
    go_enter Tryd.func11, Tryd.ntmps11
    go_wp2_with fail
    refine (hrc.out _).mono ?_
    rintro e w1 ⟨y, m, d, hh, mi, s, rfl, hb1⟩
    have hbw := Go.Lib.hid (below_then (hb0.out _) (hb0.out _).size hb1)
    clear hb1
    go_wp2_with fail
    go_ret2
    exact ⟨rfl, hbw.out.alloc hbw.out.size _⟩
set_option maxRecDepth 100000 in
set_option maxHeartbeats 1000000 in
theorem ptime_mid (A : Option Addr) (nb c : Nat) (b : List Int) (w : World) (hr : ReadsInt w .u8 A nb b) (hbb : Byt b) (h : rcOk b 4 = true) (hy : 1950 ≤ yearV 4 (rdV b 0 4) ∧ yearV 4 (rdV b 0 4) < 2050) :
    Calls Tryd.prog 11 #[.agg #[.int .u8 24, .slice A nb c, .slice none 0 0]] w fun e w' => e = .returned (.tuple #[.int .i64 0, .int .i64 3]) ∧ Below w.heap.size w w' := by
  have hb0 : ∀ o, Below w.heap.size w (w.alloc o) := fun o => (Below.refl _ _).alloc (Nat.le_refl _) _
  have hrc := Go.Lib.hid (fun o => rclock_t A nb c 4 b (w.alloc o) (.inr rfl) (hr.below (hb0 o)) hbb h)
  rw [show ((4 : Nat) : Int) = 4 from rfl] at hrc
  obtain ⟨y, ey⟩ : ∃ y, y = yearV 4 (rdV b 0 4) := ⟨_, rfl⟩
  rw [← ey] at hrc hy
  clear hr ey
  obtain ⟨hy1, hy2⟩ := hy
  have hy3 : decide (y < 2050) = true := by simpa using hy2
  replace hb0 := Go.Lib.hid hb0
  go_enter Tryd.func11, Tryd.ntmps11
  go_wp2_with fail
  refine (hrc.out _).mono ?_
  rintro e w1 ⟨rfl, hb1⟩
  have hbw := Go.Lib.hid (below_then (hb0.out _) (hb0.out _).size hb1)
  have kk := pw_cell_below hb1 (cell_of_row _ w.heap.size 2 _ _ _ (heap_new w _))
  simp at kk
  replace kk : ∀ o, (w1.alloc o).cell? ⟨w.heap.size, 2, none⟩ = some (.slice none 0 0) := fun o => pw_cell_below ((Below.refl _ w1).alloc (Nat.le_refl _) o) kk
  clear hb1
  go_wp2_with fail
  go_ret2
  exact ⟨rfl, hbw.out.alloc hbw.out.size _⟩
set_option maxRecDepth 100000 in
set_option maxHeartbeats 1000000 in
theorem ptime_yes (A : Option Addr) (nb c yd : Nat) (b : List Int) (w : World) (hyd : yd = 2 ∨ yd = 4) (hr : ReadsInt w .u8 A nb b) (hbb : Byt b) (h : timeOk b yd = true) :
    Calls Tryd.prog 11 #[.agg #[.int .u8 (if yd = 2 then 23 else 24), .slice A nb c, .slice none 0 0]] w fun e w' => e = .returned (.tuple #[.int .i64 (timeV b yd), .int .i64 0]) ∧ Below w.heap.size w w' := by
  have hb0 : ∀ o, Below w.heap.size w (w.alloc o) := fun o => (Below.refl _ _).alloc (Nat.le_refl _) _
  simp only [timeOk, Bool.and_eq_true] at h
  obtain ⟨h, hny⟩ := h
  have hrc := Go.Lib.hid (fun o => rclock_t A nb c yd b (w.alloc o) hyd (hr.below (hb0 o)) hbb h)
  simp only [rcOk, Bool.and_eq_true] at h
  obtain ⟨k1, k2, k3, k4, k5, k6, k7, k8⟩ := clkOk_ok h.2
  have k9 := mDays_range (yearV yd (rdV b 0 yd)) (rdV b yd 2)
  have r3 := rdV_range b (yd + 4) 2 (by omega)
  have r4 := rdV_range b (yd + 6) 2 (by omega)
  have r5 := rdV_range b (yd + 8) 2 (by omega)
  have hyr := year_range hyd k1
  have hux := Go.Lib.hid (fun W => unix_any (yearV yd (rdV b 0 yd)) (rdV b yd 2) (rdV b (yd + 2) 2) (rdV b (yd + 4) 2) (rdV b (yd + 6) 2) (rdV b (yd + 8) 2) (by omega) (by omega) (by omega) (by omega) (by omega) (by omega) (by omega) (by omega) (by omega) W)
  have et : Hid (timeV b yd = (dayN (yearV yd (rdV b 0 yd)) (rdV b yd 2) (rdV b (yd + 2) 2) - dayN 1970 1 1) * 86400 + rdV b (yd + 4) 2 * 3600 + rdV b (yd + 6) 2 * 60 + rdV b (yd + 8) 2) := Go.Lib.hid rfl
  have hcase : (yd = 2) ∨ (yd = 4 ∧ yearV yd (rdV b 0 yd) < 1950) ∨ (yd = 4 ∧ 1950 ≤ yearV yd (rdV b 0 yd) ∧ 2050 ≤ yearV yd (rdV b 0 yd)) := by
    simp only [Bool.not_eq_true', Bool.and_eq_false_iff, decide_eq_false_iff_not] at hny
    omega
  clear hny h k1 k2 k3 k4 k5 k6 k7 k8 k9 r3 r4 r5 hr
  replace hb0 := Go.Lib.hid hb0
  obtain ⟨tv, etv⟩ : ∃ tv, tv = timeV b yd := ⟨_, rfl⟩
  rw [← etv] at et ⊢
  obtain ⟨y, ey⟩ : ∃ y, y = yearV yd (rdV b 0 yd) := ⟨_, rfl⟩
  rw [← ey] at hrc hux et hcase hyr
  obtain ⟨m, em⟩ : ∃ m, m = rdV b yd 2 := ⟨_, rfl⟩
  rw [← em] at hrc hux et
  obtain ⟨d, ed⟩ : ∃ d, d = rdV b (yd + 2) 2 := ⟨_, rfl⟩
  rw [← ed] at hrc hux et
  obtain ⟨hh, ehh⟩ : ∃ hh, hh = rdV b (yd + 4) 2 := ⟨_, rfl⟩
  rw [← ehh] at hrc hux et
  obtain ⟨mi, emi⟩ : ∃ mi, mi = rdV b (yd + 6) 2 := ⟨_, rfl⟩
  rw [← emi] at hrc hux et
  obtain ⟨s, es⟩ : ∃ s, s = rdV b (yd + 8) 2 := ⟨_, rfl⟩
  rw [← es] at hrc hux et
  clear etv ey em ed ehh emi es
  rcases hcase with rfl | ⟨rfl, c1⟩ | ⟨rfl, c1, c2⟩
  all_goals
    first | rw [show ((2 : Nat) : Int) = 2 from rfl] at hrc | rw [show ((4 : Nat) : Int) = 4 from rfl] at hrc
    first | rw [if_pos rfl] | rw [if_neg (by decide)]
    try (have c3 : decide (y < 2050) = false := by simpa using c2)
    try (have c4 : decide (1950 ≤ y) = false := by simpa using c1)
    go_enter Tryd.func11, Tryd.ntmps11
    go_wp2_with fail
    refine (hrc.out _).mono ?_
    rintro e w1 ⟨rfl, hb1⟩
    have hbw := Go.Lib.hid (below_then (hb0.out _) (hb0.out _).size hb1)
    have kk := pw_cell_below hb1 (cell_of_row _ w.heap.size 2 _ _ _ (heap_new w _))
    simp at kk
    replace kk : ∀ o, (w1.alloc o).cell? ⟨w.heap.size, 2, none⟩ = some (.slice none 0 0) := fun o => pw_cell_below ((Below.refl _ w1).alloc (Nat.le_refl _) o) kk
    clear hb1
    go_wp2_with fail
    refine (hux.out _).mono ?_
    rintro e w2 ⟨rfl, hb2⟩
    have hbw2 := Go.Lib.hid (below_then (hbw.out.alloc hbw.out.size _) (by have := hbw.out.size; simp; omega) hb2)
    clear hb2
    rw [← et.out]
    go_wp2_with fail
    go_ret2
    exact ⟨rfl, hbw2.out⟩
end Go.Proofs.YtgjeejgmphaliaaDoor

/-
  What the reference's clock, long and seconds reckon. No walk.
-/
namespace Go.Proofs.YtgjeejgmphaliaaDoor
set_option linter.unusedVariables false
set_option linter.unusedSimpArgs false
open Go.RowKit Go.Proofs.YtgjeejgmphaliaaDoorW.PrintWords PDerTimes

theorem bt_el (s : ByteArray) (i : Nat) : bt s (i : Int) = el (bytesOf s) i := by
  rw [← rd_bytesOf]
  simp [rd, el]
theorem okV_add (b : List Int) (k m : Nat) : ∀ n, okV b k (m + n) = (okV b k m && okV b (k + m) n)
  | 0 => by simp [okV]
  | n + 1 => by
    rw [← Nat.add_assoc, okV, okV, okV_add b k m n, Nat.add_assoc, Bool.and_assoc]
theorem okV_front (b : List Int) (k n : Nat) : okV b k (n + 1) = (decide (dv b k ≤ 9) && okV b (k + 1) n) := by
  rw [Nat.add_comm n 1, okV_add]
  simp [okV]
theorem okAll_14 (b : List Int) : okAll b 4 = okV b 0 14 := by
  rw [show (14 : Nat) = 4 + 2 + 2 + 2 + 2 + 2 from rfl, okV_add, okV_add, okV_add, okV_add, okV_add]
  simp only [okAll, Nat.zero_add, Nat.reduceAdd, Bool.true_and]
theorem okAll_12 (b : List Int) : okAll b 2 = okV b 0 12 := by
  rw [show (12 : Nat) = 2 + 2 + 2 + 2 + 2 + 2 from rfl, okV_add, okV_add, okV_add, okV_add, okV_add]
  simp only [okAll, Nat.zero_add, Nat.reduceAdd, Bool.true_and]
theorem dv_9 {b : List Int} (hb : Byt b) (i : Nat) : dv b i ≤ 9 ↔ 48 ≤ el b i ∧ el b i ≤ 57 := by
  have := hb.el i
  unfold dv
  omega

theorem clock_l0_no (s : ByteArray) (hs : s.size = 15) : ∀ (d i : Nat), i + d = 14 → okV (bytesOf s) i d = false → Ev (fun k => securelinkref7_clock.l0 k s (i : Int)) ([], false)
  | 0, i, hi, h => by simp [okV] at h
  | d + 1, i, hi, h => by
    have hb := bt_el s i
    have hr := (Byt.of s).el i
    have h9 := dv_9 (Byt.of s) i
    rw [okV_front] at h
    by_cases hd : dv (bytesOf s) i ≤ 9
    · have h2 : okV (bytesOf s) (i + 1) d = false := by simpa [hd] using h
      refine (clock_l0_no s hs d (i + 1) (by omega) h2).step fun k => ?_
      have := h9.1 hd
      simp only [securelinkref7_clock.l0]
      rw [if_pos (by omega), if_pos (by omega), if_pos (by omega), if_neg (by omega), if_neg (by omega), w64i ((i : Int) + 1) (by omega) (by omega)]
      rfl
    · refine Ev.last fun k => ?_
      have : el (bytesOf s) i < 48 ∨ (¬ el (bytesOf s) i < 48 ∧ el (bytesOf s) i > 57) := by omega
      simp only [securelinkref7_clock.l0]
      rw [if_pos (by omega), if_pos (by omega), if_pos (by omega), hb]
      rcases this with h1 | ⟨h1, h2⟩
      · rw [if_pos h1]
      · rw [if_neg h1, if_pos h2]
theorem clock_l0_yes (s : ByteArray) (hs : s.size = 15) {r : List Int × Bool} (hr : Ev (fun k => securelinkref7_clock.l1 k s 0 0) r) : ∀ (d i : Nat), i + d = 14 → okV (bytesOf s) i d = true → Ev (fun k => securelinkref7_clock.l0 k s (i : Int)) r
  | 0, i, hi, h => by
    obtain rfl : i = 14 := by omega
    refine hr.step fun k => ?_
    simp only [securelinkref7_clock.l0]
    rw [if_neg (by omega)]
  | d + 1, i, hi, h => by
    have hb := bt_el s i
    have h9 := dv_9 (Byt.of s) i
    rw [okV_front, Bool.and_eq_true, decide_eq_true_eq] at h
    have := h9.1 h.1
    refine (clock_l0_yes s hs hr d (i + 1) (by omega) h.2).step fun k => ?_
    simp only [securelinkref7_clock.l0]
    rw [if_pos (by omega), if_pos (by omega), if_pos (by omega), if_neg (by omega), if_neg (by omega), w64i ((i : Int) + 1) (by omega) (by omega)]
    rfl
theorem clock_l1 (s : ByteArray) (hs : s.size = 15) {r : List Int × Bool} (hr : Ev (fun k => securelinkref7_clock.l2 k s [rdV (bytesOf s) 0 4] 4) r) : ∀ (d i : Nat), i + d = 4 → Ev (fun k => securelinkref7_clock.l1 k s (rdV (bytesOf s) 0 i) (i : Int)) r
  | 0, i, hi => by
    obtain rfl : i = 4 := by omega
    refine hr.step fun k => ?_
    simp only [securelinkref7_clock.l1]
    rw [if_neg (by omega), if_pos (by decide)]
    rfl
  | d + 1, i, hi => by
    have hb := bt_el s i
    have hv := rdV_range (bytesOf s) 0 i (by omega)
    have hd := dv_range (bytesOf s) i
    refine (clock_l1 s hs hr d (i + 1) (by omega)).step fun k => ?_
    have e : rdV (bytesOf s) 0 (i + 1) = 10 * rdV (bytesOf s) 0 i + dv (bytesOf s) i := by rw [rdV, Nat.zero_add]
    simp only [securelinkref7_clock.l1]
    rw [if_pos (by omega), if_pos (by omega), if_pos (by omega), w64i ((i : Int) + 1) (by omega) (by omega), hb, show (el (bytesOf s) i - 48) % 256 = dv (bytesOf s) i from rfl, w64i (10 * _) (by omega) (by omega), w64i (_ + _) (by omega) (by omega), e]
    rfl
theorem rdV2 (b : List Int) (k : Nat) : rdV b k 2 = dv b k * 10 + dv b (k + 1) := by
  simp only [rdV, Nat.add_zero]
  omega
theorem clock_l2_step (s : ByteArray) (hs : s.size = 15) (l : List Int) (hl : l.length ≤ 10) (i : Nat) (hi : i < 13) {r : List Int × Bool} (hr : Ev (fun k => securelinkref7_clock.l2 k s (l ++ [rdV (bytesOf s) i 2]) ((i : Int) + 2)) r) : Ev (fun k => securelinkref7_clock.l2 k s l (i : Int)) r := by
  have hb := bt_el s i
  have hb2 := bt_el s (i + 1)
  have hd := dv_range (bytesOf s) i
  have hd2 := dv_range (bytesOf s) (i + 1)
  rw [show ((i + 1 : Nat) : Int) = (i : Int) + 1 by omega] at hb2
  refine hr.step fun k => ?_
  have e := rdV2 (bytesOf s) i
  have c1 : (i : Int) < 14 := by omega
  have c2 : (0 : Int) ≤ (i : Int) := by omega
  have c3 : (i : Int) < (s.size : Int) := by omega
  have c4 : (0 : Int) ≤ (i : Int) + 1 := by omega
  have c5 : (i : Int) + 1 < (s.size : Int) := by omega
  have c6 : l.length < 17592186044416 := by omega
  obtain ⟨e1, e2⟩ : wrap64 ((i : Int) + 1) = (i : Int) + 1 ∧ wrap64 ((i : Int) + 2) = (i : Int) + 2 := ⟨w64i ((i : Int) + 1) (by omega) (by omega), w64i ((i : Int) + 2) (by omega) (by omega)⟩
  have d1 : (el (bytesOf s) i - 48) % 256 = dv (bytesOf s) i := rfl
  have d2 : (el (bytesOf s) (i + 1) - 48) % 256 = dv (bytesOf s) (i + 1) := rfl
  simp only [securelinkref7_clock.l2]
  rw [e1, e2, hb, hb2, d1, d2, e, if_pos c1, if_pos c2, if_pos c3, if_pos c4, if_pos c5, if_pos c6]
/-- what the reference's clock gives -/
theorem clock_f (s : ByteArray) : ∃ l, Ev (fun k => securelinkref7_clock.f k s) (l, rcOk (bytesOf s) 4) ∧ (rcOk (bytesOf s) 4 = true → l = clkL (bytesOf s) 4) := by
  have hl : (bytesOf s).length = s.size := bytesOf_length s
  by_cases hs : s.size = 15
  · have hbt := bt_el s 14
    rw [show ((14 : Nat) : Int) = 14 from rfl] at hbt
    have h1 : ∀ k, securelinkref7_clock.f k s = securelinkref7_clock.j0 k s ((el (bytesOf s) 14) != 90) := fun k => by
      unfold securelinkref7_clock.f
      rw [if_pos (by omega), if_pos (by omega), hbt]
    by_cases hz : el (bytesOf s) 14 = 90
    · cases hok : okV (bytesOf s) 0 14 with
      | false =>
        have hR : rcOk (bytesOf s) 4 = false := by simp [rcOk, clkOk, okAll_14, hok]
        refine ⟨[], ?_, fun h => by rw [hR] at h; cases h⟩
        rw [hR]
        refine Ev.same (G := fun k => securelinkref7_clock.j0 k s ((el (bytesOf s) 14) != 90)) ?_ h1
        refine (clock_l0_no s hs 14 0 rfl hok).step fun k => ?_
        simp [securelinkref7_clock.j0, hz]
      | true =>
        have y1 := okV_range (bytesOf s) 0 4 (by omega) (by rw [show (14 : Nat) = 4 + 10 from rfl, okV_add] at hok; simp only [Bool.and_eq_true] at hok; exact hok.1)
        have y0 := rdV_range (bytesOf s) 0 4 (by omega)
        have m0 := rdV_range (bytesOf s) 4 2 (by omega)
        have hcl : clkL (bytesOf s) 4 = [rdV (bytesOf s) 0 4, rdV (bytesOf s) 4 2, rdV (bytesOf s) 6 2, rdV (bytesOf s) 8 2, rdV (bytesOf s) 10 2, rdV (bytesOf s) 12 2] := by simp [clkL, yearV]
        have hmain : ∃ l, Ev (fun k => securelinkref7_clock.l2 k s [rdV (bytesOf s) 0 4, rdV (bytesOf s) 4 2, rdV (bytesOf s) 6 2, rdV (bytesOf s) 8 2, rdV (bytesOf s) 10 2, rdV (bytesOf s) 12 2] 14) (l, rcOk (bytesOf s) 4) ∧ (rcOk (bytesOf s) 4 = true → l = clkL (bytesOf s) 4) := by
          have hR : rcOk (bytesOf s) 4 = ((decide (1 ≤ rdV (bytesOf s) 4 2) && decide (rdV (bytesOf s) 4 2 ≤ 12) && decide (1 ≤ rdV (bytesOf s) 6 2) && decide (rdV (bytesOf s) 8 2 < 24) && decide (rdV (bytesOf s) 10 2 < 60) && decide (rdV (bytesOf s) 12 2 < 60)) && decide (rdV (bytesOf s) 6 2 ≤ mDays (rdV (bytesOf s) 0 4) (rdV (bytesOf s) 4 2))) := by
            simp [rcOk, clkOk, okAll_14, hok, hl, hs, hz, yearV]
          rw [hcl, hR]
          generalize rdV (bytesOf s) 0 4 = y at *
          generalize rdV (bytesOf s) 4 2 = m at *
          generalize rdV (bytesOf s) 6 2 = d at *
          generalize rdV (bytesOf s) 8 2 = h at *
          generalize rdV (bytesOf s) 10 2 = mi at *
          generalize rdV (bytesOf s) 12 2 = ss at *
          clear hR hcl hok
          by_cases hg : 1 ≤ m ∧ m ≤ 12 ∧ 1 ≤ d ∧ h < 24 ∧ mi < 60 ∧ ss < 60
          · obtain ⟨g1, g2, g3, g4, g5, g6⟩ := hg
            refine ⟨[y, m, d, h, mi, ss], Ev.last fun k => ?_, fun _ => rfl⟩
            obtain ⟨M, rfl⟩ : ∃ M : Nat, m = (M : Int) := ⟨m.toNat, by omega⟩
            have hdo := daysOf_f y M (by omega) (by omega) (by omega)
            have e0 : rd [y, (M : Int), d, h, mi, ss] 0 = y := rfl
            have e1 : rd [y, (M : Int), d, h, mi, ss] 1 = (M : Int) := rfl
            have e2 : rd [y, (M : Int), d, h, mi, ss] 2 = d := rfl
            have e3 : rd [y, (M : Int), d, h, mi, ss] 3 = h := rfl
            have e4 : rd [y, (M : Int), d, h, mi, ss] 4 = mi := rfl
            have e5 : rd [y, (M : Int), d, h, mi, ss] 5 = ss := rfl
            simp only [securelinkref7_clock.l2, e0, e1, e2, e3, e4, e5, List.length_cons, List.length_nil]
            rw [if_neg (by omega), if_pos (by decide), if_neg (by omega), if_neg (by omega), if_pos (by decide), if_neg (by omega), if_pos (by decide), if_neg (by omega), if_pos (by decide), if_neg (by omega), if_pos (by decide), if_neg (by omega), if_pos (by decide)]
            rw [hdo, Option.bind_some]
            simp [g1, g2, g3, g4, g5, g6]
          · have hF : (decide (1 ≤ m) && decide (m ≤ 12) && decide (1 ≤ d) && decide (h < 24) && decide (mi < 60) && decide (ss < 60)) = false := by
              rw [← Bool.not_eq_true]
              intro hh
              simp only [Bool.and_eq_true, decide_eq_true_eq] at hh
              exact hg (by omega)
            rw [hF, Bool.false_and]
            refine ⟨[], Ev.last fun k => ?_, fun h => by cases h⟩
            have e1 : rd [y, m, d, h, mi, ss] 1 = m := rfl
            have e2 : rd [y, m, d, h, mi, ss] 2 = d := rfl
            have e3 : rd [y, m, d, h, mi, ss] 3 = h := rfl
            have e4 : rd [y, m, d, h, mi, ss] 4 = mi := rfl
            have e5 : rd [y, m, d, h, mi, ss] 5 = ss := rfl
            simp only [securelinkref7_clock.l2, e1, e2, e3, e4, e5, List.length_cons, List.length_nil]
            rw [if_neg (by omega), if_pos (by decide)]
            by_cases k1 : m < 1
            · rw [if_pos k1]
            rw [if_neg k1]
            by_cases k2 : m > 12
            · rw [if_pos k2]
            rw [if_neg k2, if_pos (by decide)]
            by_cases k3 : d < 1
            · rw [if_pos k3]
            rw [if_neg k3, if_pos (by decide)]
            by_cases k4 : h > 23
            · rw [if_pos k4]
            rw [if_neg k4, if_pos (by decide)]
            by_cases k5 : mi > 59
            · rw [if_pos k5]
            rw [if_neg k5, if_pos (by decide)]
            rw [if_pos (by omega)]
        obtain ⟨l, hE, hL⟩ := hmain
        refine ⟨l, ?_, hL⟩
        refine Ev.same (G := fun k => securelinkref7_clock.j0 k s ((el (bytesOf s) 14) != 90)) ?_ h1
        refine (clock_l0_yes s hs (clock_l1 s hs ?_ 4 0 rfl) 14 0 rfl hok).step fun k => ?_
        · refine clock_l2_step s hs _ (by simp) 4 (by omega) (clock_l2_step s hs _ (by simp) 6 (by omega) (clock_l2_step s hs _ (by simp) 8 (by omega) (clock_l2_step s hs _ (by simp) 10 (by omega) (clock_l2_step s hs _ (by simp) 12 (by omega) hE))))
        · simp [securelinkref7_clock.j0, hz]
    · have hR : rcOk (bytesOf s) 4 = false := by simp [rcOk, hz]
      refine ⟨[], ?_, fun h => by rw [hR] at h; cases h⟩
      rw [hR]
      refine Ev.same (G := fun k => securelinkref7_clock.j0 k s ((el (bytesOf s) 14) != 90)) (Ev.last fun k => ?_) h1
      simp [securelinkref7_clock.j0, hz]
  · have hR : rcOk (bytesOf s) 4 = false := by
      simp [rcOk, hl, hs]
    refine ⟨[], ?_, fun h => by rw [hR] at h; cases h⟩
    rw [hR]
    refine Ev.last fun k => ?_
    unfold securelinkref7_clock.f
    rw [if_neg (by omega)]
    simp [securelinkref7_clock.j0]
end Go.Proofs.YtgjeejgmphaliaaDoor

/-
  What the reference's long and seconds reckon; the two counts of the seconds are one. No walk.
-/
namespace Go.Proofs.YtgjeejgmphaliaaDoor
set_option linter.unusedVariables false
set_option linter.unusedSimpArgs false
open Go.RowKit Go.Proofs.YtgjeejgmphaliaaDoorW.PrintWords PDerTimes

/-- a short time as a long one -/
def longL (b : List Int) : List Int := if b.length = 13 ∧ 53 ≤ el b 0 then [49, 57] ++ b else [50, 48] ++ b
theorem bytes_19 : bytesOf (⟨#[49, 57]⟩ : ByteArray) = [49, 57] := by decide
theorem bytes_20 : bytesOf (⟨#[50, 48]⟩ : ByteArray) = [50, 48] := by decide
theorem long_f (s : ByteArray) (hs : s.size ≤ 1000000) : ∃ t, securelinkref7_long.f s = some t ∧ bytesOf t = longL (bytesOf s) ∧ t.size = s.size + 2 := by
  have hl : (bytesOf s).length = s.size := bytesOf_length s
  have hb := bt_el s 0
  rw [show ((0 : Nat) : Int) = 0 from rfl] at hb
  unfold securelinkref7_long.f longL
  by_cases h1 : s.size = 13
  · by_cases h2 : 53 ≤ el (bytesOf s) 0
    · refine ⟨_, by rw [if_pos (by omega), if_pos (by omega), hb, if_pos (by omega), if_pos (by omega)], ?_, ?_⟩
      · rw [bytesOf_append, bytes_19, if_pos ⟨by omega, h2⟩]
      · rw [ByteArray.size_append, Nat.add_comm]; rfl
    · refine ⟨_, by rw [if_pos (by omega), if_pos (by omega), hb, if_neg (by omega), if_pos (by omega)], ?_, ?_⟩
      · rw [bytesOf_append, bytes_20, if_neg (fun h => h2 h.2)]
      · rw [ByteArray.size_append, Nat.add_comm]; rfl
  · refine ⟨_, by rw [if_neg (by omega), if_pos (by omega)], ?_, ?_⟩
    · rw [bytesOf_append, bytes_20, if_neg (fun h => h1 (by omega))]
    · rw [ByteArray.size_append, Nat.add_comm]; rfl

theorem el_app2 (x y : Int) (b : List Int) (i : Nat) : el ([x, y] ++ b) (i + 2) = el b i := by simp [el, List.getD_eq_getElem?_getD]
theorem dv_app2 (x y : Int) (b : List Int) (i : Nat) : dv ([x, y] ++ b) (i + 2) = dv b i := by unfold dv; rw [el_app2]
theorem rdV_app2 (x y : Int) (b : List Int) (k : Nat) : ∀ n, rdV ([x, y] ++ b) (k + 2) n = rdV b k n
  | 0 => rfl
  | n + 1 => by
    rw [rdV, rdV, rdV_app2 x y b k n, show k + 2 + n = k + n + 2 by omega, dv_app2]
theorem okV_app2 (x y : Int) (b : List Int) (k : Nat) : ∀ n, okV ([x, y] ++ b) (k + 2) n = okV b k n
  | 0 => rfl
  | n + 1 => by
    rw [okV, okV, okV_app2 x y b k n, show k + 2 + n = k + n + 2 by omega, dv_app2]
/-- a short time is one just if it is one as a long one; it is the same -/
theorem long_same (b : List Int) (hb : Byt b) : (rcOk (longL b) 4 && decide (b.length = 13)) = rcOk b 2 ∧ (rcOk b 2 = true → clkL (longL b) 4 = clkL b 2) := by
  by_cases hl : b.length = 13
  · have hr := hb.el 0
    obtain ⟨x, y, hxy, e, h1, h2⟩ : ∃ x y : Int, ((x = 49 ∧ y = 57 ∧ 53 ≤ el b 0) ∨ (x = 50 ∧ y = 48 ∧ ¬ 53 ≤ el b 0)) ∧ longL b = [x, y] ++ b ∧ dv ([x, y] ++ b) 0 = x - 48 ∧ dv ([x, y] ++ b) 1 = y - 48 := by
      unfold longL
      by_cases h : 53 ≤ el b 0
      · rw [if_pos ⟨hl, h⟩]
        exact ⟨49, 57, .inl ⟨rfl, rfl, h⟩, rfl, rfl, rfl⟩
      · rw [if_neg (fun h' => h h'.2)]
        exact ⟨50, 48, .inr ⟨rfl, rfl, h⟩, rfl, rfl, rfl⟩
    have hlen : (longL b).length = 15 := by rw [e]; simp [hl]
    have e14 : el (longL b) 14 = el b 12 := by rw [e]; exact el_app2 x y b 12
    have eok : okV (longL b) 0 14 = okV b 0 12 := by
      rw [show (14 : Nat) = 2 + 12 from rfl, okV_add, e, okV_app2 x y b 0 12]
      have : okV ([x, y] ++ b) 0 2 = true := by
        have g1 : dv ([x, y] ++ b) 0 ≤ 9 := by rw [h1]; omega
        have g2 : dv ([x, y] ++ b) 1 ≤ 9 := by rw [h2]; omega
        simp only [okV, Nat.zero_add, decide_eq_true g1, decide_eq_true g2, Bool.and_true]
      rw [this, Bool.true_and]
    have e4 : rdV (longL b) 4 2 = rdV b 2 2 := by rw [e]; exact rdV_app2 x y b 2 2
    have e6 : rdV (longL b) 6 2 = rdV b 4 2 := by rw [e]; exact rdV_app2 x y b 4 2
    have e8 : rdV (longL b) 8 2 = rdV b 6 2 := by rw [e]; exact rdV_app2 x y b 6 2
    have e10 : rdV (longL b) 10 2 = rdV b 8 2 := by rw [e]; exact rdV_app2 x y b 8 2
    have e12 : rdV (longL b) 12 2 = rdV b 10 2 := by rw [e]; exact rdV_app2 x y b 10 2
    have ey : okV b 0 12 = true → yearV 4 (rdV (longL b) 0 4) = yearV 2 (rdV b 0 2) := fun hok => by
      have q0 := okV_digit b 0 12 hok 0 (by omega)
      have q1 := okV_digit b 0 12 hok 1 (by omega)
      have a0 := dv_range b (0 + 0)
      have a1 := dv_range b (0 + 1)
      have d2 : dv ([x, y] ++ b) 2 = dv b 0 := dv_app2 x y b 0
      have d3 : dv ([x, y] ++ b) 3 = dv b 1 := dv_app2 x y b 1
      have v2 : rdV b 0 2 = 10 * (10 * 0 + dv b (0 + 0)) + dv b (0 + 1) := rfl
      have v4 : rdV (longL b) 0 4 = 10 * (10 * (10 * (10 * 0 + dv (longL b) (0 + 0)) + dv (longL b) (0 + 1)) + dv (longL b) (0 + 2)) + dv (longL b) (0 + 3) := rfl
      simp only [Nat.zero_add] at v2 v4 q0 q1 a0 a1
      rw [e, h1, h2, d2, d3, ← e] at v4
      have h9 := dv_9 hb 0
      have hd : dv b 0 = el b 0 - 48 := by
        have := h9.1 q0
        unfold dv
        omega
      unfold yearV
      rw [if_pos rfl, if_neg (by decide)]
      split <;> omega
    constructor
    · simp only [rcOk, clkOk, okAll_14, okAll_12, Nat.reduceAdd, hlen, hl, e14, eok, e4, e6, e8, e10, e12, decide_true, Bool.true_and, Bool.and_true]
      cases hok : okV b 0 12 with
      | false => simp
      | true => rw [ey hok]
    · intro h
      simp only [rcOk, clkOk, okAll_12, Bool.and_eq_true] at h
      have hok := h.2.1.1
      simp only [clkL, Nat.reduceAdd, e4, e6, e8, e10, e12, ey hok]
  · constructor
    · simp [rcOk, hl]
    · intro h
      simp [rcOk, hl] at h

theorem seconds_l0 (l : List Int) (y m d h mi s : Int) (M : Nat) (hM : 1 ≤ M ∧ M ≤ 12) (hy : 0 ≤ y ∧ y ≤ 9999) (hh : 0 ≤ h ∧ h ≤ 100) (hmi : 0 ≤ mi ∧ mi ≤ 100) (hs : 0 ≤ s ∧ s ≤ 100) (D : Int) (hD : -1000000 ≤ D ∧ D ≤ 4000000) :
    ∀ (k i : Nat), i + k = M → 1 ≤ i → Ev (fun f => securelinkref7_seconds.l0 f [y, (M : Int), d, h, mi, s] (D + mBef y (i - 1)) (i : Int)) ((D + mBef y (M - 1)) * 86400 + h * 3600 + mi * 60 + s) := by
  have e0 : rd [y, (M : Int), d, h, mi, s] 0 = y := rfl
  have e1 : rd [y, (M : Int), d, h, mi, s] 1 = (M : Int) := rfl
  have e3 : rd [y, (M : Int), d, h, mi, s] 3 = h := rfl
  have e4 : rd [y, (M : Int), d, h, mi, s] 4 = mi := rfl
  have e5 : rd [y, (M : Int), d, h, mi, s] 5 = s := rfl
  have hall : ∀ i : Nat, i ≤ 12 → 0 ≤ mBef y i ∧ mBef y i ≤ 366 := fun i hi => by
    have a1 := mBef_mono y i 0
    have a2 := mBef_mono y (12 - i) i
    rw [show i + (12 - i) = 12 by omega, mBef_year] at a2
    have := (bef_mono y).2
    simp only [Nat.zero_add, mBef] at a1
    omega
  intro k
  induction k with
  | zero =>
    intro i hi h1
    obtain rfl : i = M := by omega
    have hr := hall (i - 1) (by omega)
    refine Ev.last fun f => ?_
    simp only [securelinkref7_seconds.l0, e0, e1, e3, e4, e5, List.length_cons, List.length_nil]
    rw [if_pos (by decide), if_neg (by omega), if_pos (by decide), if_pos (by decide), if_pos (by decide)]
    generalize mBef y (i - 1) = Q at *
    simp (disch := omega) only [w64i]
  | succ k ih =>
    intro i hi h1
    have hr := hall (i - 1) (by omega)
    have hmd := mDays_range y i
    have hst : mBef y i = mBef y (i - 1) + mDays y i := by
      obtain ⟨j, rfl⟩ : ∃ j, i = j + 1 := ⟨i - 1, by omega⟩
      simp [mBef]
    have hdo := daysOf_f y i hy.1 h1 (by omega)
    have e' := ih (i + 1) (by omega) (by omega)
    rw [Nat.add_sub_cancel, hst] at e'
    refine e'.step fun f => ?_
    simp only [securelinkref7_seconds.l0, e0, e1, List.length_cons, List.length_nil]
    rw [if_pos (by decide), if_pos (by omega), if_pos (by decide), hdo, Option.bind_some, w64i (_ + mDays y i) (by omega) (by omega), w64i ((i : Int) + 1) (by omega) (by omega), Int.add_assoc]
    rfl
theorem bef_1970 : bef 1970 = 719528 := by decide
theorem day_1970 : dayN 1970 1 1 = 865565 := by decide
/-- the seconds of a clock -/
def secL (y m d h mi s : Int) : Int := (dayN y m d - dayN 1970 1 1) * 86400 + h * 3600 + mi * 60 + s
theorem seconds_f (y d h mi s : Int) (M : Nat) (hM : 1 ≤ M ∧ M ≤ 12) (hy : 0 ≤ y ∧ y ≤ 9999) (hd : 0 ≤ d ∧ d ≤ 100) (hh : 0 ≤ h ∧ h ≤ 100) (hmi : 0 ≤ mi ∧ mi ≤ 100) (hs : 0 ≤ s ∧ s ≤ 100) :
    Ev (fun k => securelinkref7_seconds.f k [y, (M : Int), d, h, mi, s]) (secL y M d h mi s) := by
  have e0 : rd [y, (M : Int), d, h, mi, s] 0 = y := rfl
  have e2 : rd [y, (M : Int), d, h, mi, s] 2 = d := rfl
  have hb : 0 ≤ bef y ∧ bef y ≤ 3700000 := by unfold bef; omega
  have h1 := before_f y hy.1 (by omega)
  have h2 := before_f 1970 (by omega) (by omega)
  have e := seconds_l0 [] y M d h mi s M hM hy hh hmi hs (bef y - bef 1970 + d - 1) (by rw [bef_1970]; omega) (M - 1) 1 (by omega) (by omega)
  have ev : secL y M d h mi s = (bef y - bef 1970 + d - 1 + mBef y (M - 1)) * 86400 + h * 3600 + mi * 60 + s := by
    unfold secL
    rw [dayN_eq y M d hM.1 hM.2, day_1970, bef_1970]
    omega
  rw [ev]
  refine e.same fun k => ?_
  unfold securelinkref7_seconds.f
  simp only [e0, e2, List.length_cons, List.length_nil]
  rw [if_pos (by decide), h1, Option.bind_some, h2, Option.bind_some, if_pos (by decide)]
  rw [bef_1970]
  generalize bef y = Q at *
  simp (disch := omega) only [w64i]
  simp [mBef]
end Go.Proofs.YtgjeejgmphaliaaDoor

/-
  The reference's integer, bits, Numbers return. No walk.
-/
namespace Go.Proofs.YtgjeejgmphaliaaDoor
set_option linter.unusedVariables false
set_option linter.unusedSimpArgs false
open Go.RowKit Go.Proofs.YtgjeejgmphaliaaDoorW.PrintWords PDerTimes

theorem integer_some (s : ByteArray) : ∃ r, securelinkref7_integer.f s = some r := by
  unfold securelinkref7_integer.f
  by_cases h1 : (s.size : Int) < 1
  · exact ⟨_, by rw [if_pos h1]⟩
  rw [if_neg h1]
  by_cases h2 : (s.size : Int) = 1
  · exact ⟨_, by rw [if_pos h2]⟩
  have c1 : (0 : Int) < (s.size : Int) := by omega
  have c2 : (1 : Int) < (s.size : Int) := by omega
  simp only [if_neg h2, if_pos c1, if_pos c2]
  repeat' split
  all_goals exact ⟨_, rfl⟩
theorem bits_some (s : ByteArray) (hs : s.size ≤ 9223372036854775807) : ∃ r, Ev (fun k => securelinkref7_bits.f k s) r := by
  unfold securelinkref7_bits.f
  by_cases h1 : (s.size : Int) < 1
  · refine ⟨false, Ev.last fun k => ?_⟩
    rw [if_pos h1]
    simp [securelinkref7_bits.j0]
  have hb := bt_range s 0
  by_cases h2 : bt s 0 > 7
  · refine ⟨false, Ev.last fun k => ?_⟩
    rw [if_neg h1, if_pos (by omega), decide_eq_true h2]
    simp [securelinkref7_bits.j0]
  by_cases h3 : (s.size : Int) = 1
  · refine ⟨bt s 0 == 0, Ev.last fun k => ?_⟩
    rw [if_neg h1, if_pos (by omega), decide_eq_false h2]
    simp only [securelinkref7_bits.j0]
    rw [if_neg (by decide), if_pos h3, if_pos (by omega)]
  · have c1 : (0 : Int) ≤ (s.size : Int) - 1 := by omega
    have c2 : (s.size : Int) - 1 < (s.size : Int) := by omega
    have c3 : (0 : Int) < (s.size : Int) := by omega
    have hw : wrap64 ((s.size : Int) - 1) = (s.size : Int) - 1 := w64i _ (by omega) (by omega)
    refine ⟨(Go.bits .and .u8 (bt s ((s.size : Int) - 1)) (((shl .u8 1 (bt s 0)) - 1) % 256)) == 0, Ev.last fun k => ?_⟩
    rw [if_neg h1, if_pos c3, decide_eq_false h2]
    simp only [securelinkref7_bits.j0]
    rw [if_neg (by decide), if_neg h3, hw, if_pos c1, if_pos c2, if_pos c3, if_pos hb.1]
theorem Numbers_some (s : ByteArray) (hs : s.size ≤ 1000000) : ∀ (d i : Nat) (l : List Int) (n : Int) (first : Bool), i + d = s.size → l.length ≤ i → ∃ r, Ev (fun k => securelinkref7_Numbers.l0 k s l n first (i : Int)) r
  | 0, i, l, n, first, hi, hl => by
    cases first with
    | true =>
      refine ⟨(l, decide ((l.length : Int) > 0)), Ev.last fun k => ?_⟩
      simp only [securelinkref7_Numbers.l0]
      rw [if_neg (by omega), if_pos trivial]
    | false =>
      refine ⟨(l, false), Ev.last fun k => ?_⟩
      simp only [securelinkref7_Numbers.l0]
      rw [if_neg (by omega), if_neg (by decide)]
  | d + 1, i, l, n, first, hi, hl => by
    have c1 : (i : Int) < (s.size : Int) := by omega
    have c2 : (0 : Int) ≤ (i : Int) := by omega
    have c3 : l.length < 17592186044416 := by omega
    have hw : wrap64 ((i : Int) + 1) = (i : Int) + 1 := w64i _ (by omega) (by omega)
    have key : ∀ b : Bool, ∃ r, Ev (fun k => securelinkref7_Numbers.j1 k s l n (i : Int) b) r := fun b => by
      cases b with
      | true =>
        refine ⟨([], false), Ev.last fun k => ?_⟩
        simp only [securelinkref7_Numbers.j1]
        rw [if_pos trivial]
      | false =>
        obtain ⟨N, eN⟩ : ∃ N, N = Go.bits .or .u64 (IntKind.u64.wrap (n * 128)) (IntKind.u64.wrap (Go.bits .and .u8 (bt s (i : Int)) 127)) := ⟨_, rfl⟩
        by_cases h1 : N > 4294967295
        · refine ⟨([], false), Ev.last fun k => ?_⟩
          simp only [securelinkref7_Numbers.j1]
          rw [if_neg (by decide), if_pos c2, if_pos c1, ← eN, if_pos h1]
        · by_cases h2 : bt s (i : Int) < 128
          · obtain ⟨r, hr⟩ := Numbers_some s hs d (i + 1) (l ++ [N]) 0 (decide (bt s (i : Int) < 128)) (by omega) (by simp; omega)
            refine ⟨r, hr.step fun k => ?_⟩
            simp only [securelinkref7_Numbers.j1]
            rw [if_neg (by decide), if_pos c2, if_pos c1, ← eN, if_neg h1, if_pos h2, if_pos c3, hw]
            rfl
          · obtain ⟨r, hr⟩ := Numbers_some s hs d (i + 1) l N (decide (bt s (i : Int) < 128)) (by omega) (by omega)
            refine ⟨r, hr.step fun k => ?_⟩
            simp only [securelinkref7_Numbers.j1]
            rw [if_neg (by decide), if_pos c2, if_pos c1, ← eN, if_neg h1, if_neg h2, hw]
            rfl
    cases first with
    | true =>
      obtain ⟨r, hr⟩ := key (bt s (i : Int) == 128)
      refine ⟨r, hr.step fun k => ?_⟩
      simp only [securelinkref7_Numbers.l0]
      rw [if_pos c1, if_pos trivial, if_pos c2]
    | false =>
      obtain ⟨r, hr⟩ := key false
      refine ⟨r, hr.step fun k => ?_⟩
      simp only [securelinkref7_Numbers.l0]
      rw [if_pos c1, if_neg (by decide)]
/-- it returns a Bool and leaves what was there -/
def SomeB (w : World) (e : Ending) (w' : World) : Prop := ∃ r : Bool, e = .returned (.bool r) ∧ Below w.heap.size w w'
theorem integer_any (s : ByteArray) (w : World) : Calls Tryd.prog 92 #[.string s] w (SomeB w) := by
  obtain ⟨r, hr⟩ := integer_some s
  exact (securelinkref7_integer.calls s r w hr).mono fun e w' ⟨a, b⟩ => ⟨r, a, b.below⟩
theorem bits_any (s : ByteArray) (w : World) (hs : s.size ≤ 9223372036854775807) : Calls Tryd.prog 93 #[.string s] w (SomeB w) := by
  obtain ⟨r, K, hK⟩ := bits_some s hs
  exact (securelinkref7_bits.calls K s r w (hK K (Nat.le_refl _))).mono fun e w' ⟨a, b⟩ => ⟨r, a, b.below⟩
/-- it returns a slice and a Bool and leaves what was there -/
def SomeSB (w : World) (e : Ending) (w' : World) : Prop := ∃ (v : Value) (r : Bool), e = .returned (.tuple #[v, .bool r]) ∧ Below w.heap.size w w'
theorem Numbers_any (s : ByteArray) (w : World) (hs : s.size ≤ 1000000) : Calls Tryd.prog 70 #[.string s] w (SomeSB w) := by
  obtain ⟨⟨l, r⟩, K, hK⟩ := Numbers_some s hs s.size 0 [] 0 true (by omega) (by simp)
  exact (securelinkref7_Numbers.calls K s l r w (hK K (Nat.le_refl _))).mono fun e w' ⟨v, a, _, b⟩ => ⟨v, r, a, b⟩
theorem long_any (s : ByteArray) (w : World) (hs : s.size ≤ 1000000) : ∃ t : ByteArray, bytesOf t = longL (bytesOf s) ∧ t.size = s.size + 2 ∧ Calls Tryd.prog 45 #[.string s] w (fun e w' => e = .returned (.string t) ∧ Below w.heap.size w w') := by
  obtain ⟨t, h1, h2, h3⟩ := long_f s hs
  exact ⟨t, h2, h3, (securelinkref7_long.calls s t w h1).mono fun e w' ⟨a, b⟩ => ⟨a, b.below⟩⟩
/-- the clock's answer -/
def ClockPost (s : ByteArray) (w : World) (e : Ending) (w' : World) : Prop := ∃ (v : Value) (l : List Int), e = .returned (.tuple #[v, .bool (rcOk (bytesOf s) 4)]) ∧ (rcOk (bytesOf s) 4 = true → l = clkL (bytesOf s) 4) ∧ Kd.R (Kd.int .i64) 2 w' w.heap.size (fun _ => True) v l ∧ Below w.heap.size w w'
theorem rclk_any (s : ByteArray) (w : World) : Calls Tryd.prog 46 #[.string s] w (ClockPost s w) := by
  obtain ⟨l, ⟨K, hK⟩, hl⟩ := clock_f s
  exact (securelinkref7_clock.calls K s l _ w (hK K (Nat.le_refl _))).mono fun e w' ⟨v, a, b, c⟩ => ⟨v, l, a, hl, b, c⟩
end Go.Proofs.YtgjeejgmphaliaaDoor
