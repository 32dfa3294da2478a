/-
  Several texts in one.
-/
import Derived.Test.YtgjeejgmphaliaaDoorPDerTimesx0
import Derived.Test.YtgjeejgmphaliaaDoorMA
import Derived.Deep.DeepCutAuto
import Derived.Deep.Light
import Derived.Test.YtgjeejgmphaliaaDoorME
/-
  The reference's printable, walked by hand.
-/
namespace Go.Proofs.YtgjeejgmphaliaaDoor
set_option linter.unusedVariables false
set_option linter.unusedSimpArgs false
open Go.RowKit Go.Proofs.YtgjeejgmphaliaaDoorW.PrintWords

/-- a letter or a digit -/
def isLetter (c : Int) : Bool := decide ((97 ≤ c ∧ c ≤ 122) ∨ (65 ≤ c ∧ c ≤ 90) ∨ (48 ≤ c ∧ c ≤ 57))
/-- a sign that may be printed -/
def isSign (c : Int) : Bool := decide (c = 32 ∨ c = 39 ∨ c = 40 ∨ c = 41 ∨ c = 43 ∨ c = 44 ∨ c = 45 ∨ c = 46 ∨ c = 47 ∨ c = 58 ∨ c = 61 ∨ c = 63)
/-- are they all printable? -/
def printB (b : List Int) : Bool := b.all fun c => isLetter c || isSign c

set_option maxRecDepth 100000 in
set_option maxHeartbeats 2000000 in
theorem printable_any (s : ByteArray) (w : World) (hs : s.size ≤ 9223372036854775806) :
    Calls Tryd.prog 95 #[.string s] w fun e w' => e = .returned (.bool (printB (bytesOf s))) ∧ w' = w := by
  go_enter Tryd.func95, Tryd.ntmps95
  go_wp2_with fail
  go_loopg [3] s.size (fun k v3 w' => ∃ i : Nat, v3 = .int .i64 (i : Int) ∧ i + k = s.size ∧ printB ((bytesOf s).take i) = true ∧ w = w')
  case atStart => exact ⟨0, rfl, by omega, rfl, rfl⟩
  case round =>
    obtain ⟨i, rfl, hi, hp, rfl⟩ := hrel
    have hlen := bytesOf_length s
    replace hp := Go.Lib.hid hp
    by_cases hlt : i < s.size
    · obtain ⟨c, ec⟩ : ∃ c, c = el (bytesOf s) i := ⟨_, rfl⟩
      have hx := byt_at s i
      rw [← ec] at hx
      have hc := (Byt.of s).el i
      rw [← ec] at hc
      have hst : (bytesOf s).take (i + 1) = (bytesOf s).take i ++ [c] := by
        rw [List.take_succ_eq_append_getElem (by omega), ec]
        simp [el, List.getD_eq_getElem?_getD, List.getElem?_eq_getElem (show i < (bytesOf s).length by omega)]
      have hall : printB (bytesOf s) = (printB ((bytesOf s).take (i + 1)) && printB ((bytesOf s).drop (i + 1))) := by
        unfold printB
        rw [← List.all_append, List.take_append_drop]
      replace hst := Go.Lib.hid hst
      replace hall := Go.Lib.hid hall
      replace ec := Go.Lib.hid ec
      go_upto_region 5 with fail
      go_cut [5] (fun v5 wx => v5 = .bool (isLetter c) ∧ w = wx)
      case first =>
        go_wp2_with fail
        all_goals
          go_meet
          case rel =>
            refine ⟨congrArg Value.bool ?_, rfl⟩
            unfold isLetter
            rw [Bool.eq_iff_iff]
            first | (simp; done) | (simp; omega)
      case rest =>
        obtain ⟨rfl, rfl⟩ := hcut
        go_upto_region 6 with fail
        go_cut [6] (fun v6 wx => v6 = .bool (isSign c) ∧ w = wx)
        case first =>
          obtain ⟨b32, h32⟩ : ∃ b, (c == 32) = b := ⟨_, rfl⟩
          obtain ⟨b39, h39⟩ : ∃ b, (c == 39) = b := ⟨_, rfl⟩
          obtain ⟨b40, h40⟩ : ∃ b, (c == 40) = b := ⟨_, rfl⟩
          obtain ⟨b41, h41⟩ : ∃ b, (c == 41) = b := ⟨_, rfl⟩
          obtain ⟨b43, h43⟩ : ∃ b, (c == 43) = b := ⟨_, rfl⟩
          obtain ⟨b44, h44⟩ : ∃ b, (c == 44) = b := ⟨_, rfl⟩
          obtain ⟨b45, h45⟩ : ∃ b, (c == 45) = b := ⟨_, rfl⟩
          obtain ⟨b46, h46⟩ : ∃ b, (c == 46) = b := ⟨_, rfl⟩
          obtain ⟨b47, h47⟩ : ∃ b, (c == 47) = b := ⟨_, rfl⟩
          obtain ⟨b58, h58⟩ : ∃ b, (c == 58) = b := ⟨_, rfl⟩
          obtain ⟨b61, h61⟩ : ∃ b, (c == 61) = b := ⟨_, rfl⟩
          obtain ⟨b63, h63⟩ : ∃ b, (c == 63) = b := ⟨_, rfl⟩
          have hS : Hid (isSign c = (b32 || b39 || b40 || b41 || b43 || b44 || b45 || b46 || b47 || b58 || b61 || b63)) := Go.Lib.hid (by
            rw [← h32, ← h39, ← h40, ← h41, ← h43, ← h44, ← h45, ← h46, ← h47, ← h58, ← h61, ← h63]
            unfold isSign
            rw [Bool.eq_iff_iff]
            simp only [decide_eq_true_eq, Bool.or_eq_true, beq_iff_eq, or_assoc])
          go_wp2_with fail
          all_goals
            go_meet
            case rel =>
              refine ⟨congrArg Value.bool ?_, rfl⟩
              go_light
              rw [hS.out]
              simp [*]
        case rest =>
          obtain ⟨rfl, rfl⟩ := hcut
          cases h1 : isLetter c with
          | true =>
            go_wp2_with fail
            go_roundg (gk - 1)
            case measure => omega
            case rel => exact ⟨i + 1, by go_num, by omega, by rw [hst.out]; unfold printB at hp ⊢; rw [List.all_append, hp.out]; simp [h1], rfl⟩
          | false =>
            cases h2 : isSign c with
            | true =>
              go_wp2_with fail
              go_roundg (gk - 1)
              case measure => omega
              case rel => exact ⟨i + 1, by go_num, by omega, by rw [hst.out]; unfold printB at hp ⊢; rw [List.all_append, hp.out]; simp [h2], rfl⟩
            | false =>
              go_wp2_with fail
              go_ret
              refine ⟨?_, rfl⟩
              rw [hall.out, hst.out]
              simp [printB, h1, h2]
    · obtain rfl : i = s.size := by omega
      go_wp2_with fail
      go_ret
      have := hp.out
      rw [List.take_of_length_le (by omega)] at this
      rw [this]
      exact ⟨rfl, rfl⟩
end Go.Proofs.YtgjeejgmphaliaaDoor

/-
  The reference's content, walked by hand.
-/
namespace Go.Proofs.YtgjeejgmphaliaaDoor
set_option linter.unusedVariables false
set_option linter.unusedSimpArgs false
open Go.RowKit Go.Proofs.YtgjeejgmphaliaaDoorW.PrintWords PDerTimes

theorem SomeB.mk {w w' : World} (r : Bool) (h : Below w.heap.size w w') : SomeB w (.returned (.bool r)) w' := ⟨r, rfl, h⟩
set_option maxRecDepth 100000 in
set_option maxHeartbeats 1000000 in
theorem content_no (tag : Int) (s : ByteArray) (w : World) (h : tag ≠ 1 ∧ tag ≠ 2 ∧ tag ≠ 3 ∧ tag ≠ 4 ∧ tag ≠ 5 ∧ tag ≠ 6 ∧ tag ≠ 12 ∧ tag ≠ 19 ∧ tag ≠ 22 ∧ tag ≠ 23 ∧ tag ≠ 24) :
    Calls Tryd.prog 76 #[.int .u8 tag, .string s] w (SomeB w) := by
  obtain ⟨g1, g2, g3, g4, g5, g6, g12, g19, g22, g23, g24⟩ := h
  have f1 : (tag == 1) = false := by simpa using g1
  clear g1
  have f2 : (tag == 2) = false := by simpa using g2
  clear g2
  have f3 : (tag == 3) = false := by simpa using g3
  clear g3
  have f4 : (tag == 4) = false := by simpa using g4
  clear g4
  have f5 : (tag == 5) = false := by simpa using g5
  clear g5
  have f6 : (tag == 6) = false := by simpa using g6
  clear g6
  have f12 : (tag == 12) = false := by simpa using g12
  clear g12
  have f19 : (tag == 19) = false := by simpa using g19
  clear g19
  have f22 : (tag == 22) = false := by simpa using g22
  clear g22
  have f23 : (tag == 23) = false := by simpa using g23
  clear g23
  have f24 : (tag == 24) = false := by simpa using g24
  clear g24
  go_enter Tryd.func76, Tryd.ntmps76
  go_wp2_with fail
  go_ret
  exact SomeB.mk _ (Below.refl _ _)
set_option maxRecDepth 100000 in
set_option maxHeartbeats 1000000 in
theorem content_1 (s : ByteArray) (w : World) (hs : s.size ≤ 65536) :
    Calls Tryd.prog 76 #[.int .u8 1, .string s] w (SomeB w) := by
  go_enter Tryd.func76, Tryd.ntmps76
  go_wp2_with fail
  all_goals
    go_ret
    exact SomeB.mk _ (Below.refl _ _)
set_option maxRecDepth 100000 in
set_option maxHeartbeats 1000000 in
theorem content_2 (s : ByteArray) (w : World) (hs : s.size ≤ 65536) :
    Calls Tryd.prog 76 #[.int .u8 2, .string s] w (SomeB w) := by
  go_enter Tryd.func76, Tryd.ntmps76
  go_wp2_with fail
  refine (integer_any s _).mono ?_
  rintro e w1 ⟨r, rfl, hb⟩
  go_wp2_with fail
  go_ret
  exact SomeB.mk _ hb
set_option maxRecDepth 100000 in
set_option maxHeartbeats 1000000 in
theorem content_3 (s : ByteArray) (w : World) (hs : s.size ≤ 65536) :
    Calls Tryd.prog 76 #[.int .u8 3, .string s] w (SomeB w) := by
  go_enter Tryd.func76, Tryd.ntmps76
  go_wp2_with fail
  refine (bits_any s _ (by omega)).mono ?_
  rintro e w1 ⟨r, rfl, hb⟩
  go_wp2_with fail
  go_ret
  exact SomeB.mk _ hb
set_option maxRecDepth 100000 in
set_option maxHeartbeats 1000000 in
theorem content_4 (s : ByteArray) (w : World) (hs : s.size ≤ 65536) :
    Calls Tryd.prog 76 #[.int .u8 4, .string s] w (SomeB w) := by
  go_enter Tryd.func76, Tryd.ntmps76
  go_wp2_with fail
  go_ret
  exact SomeB.mk _ (Below.refl _ _)
set_option maxRecDepth 100000 in
set_option maxHeartbeats 1000000 in
theorem content_5 (s : ByteArray) (w : World) (hs : s.size ≤ 65536) :
    Calls Tryd.prog 76 #[.int .u8 5, .string s] w (SomeB w) := by
  go_enter Tryd.func76, Tryd.ntmps76
  go_wp2_with fail
  all_goals
    go_ret
    exact SomeB.mk _ (Below.refl _ _)
set_option maxRecDepth 100000 in
set_option maxHeartbeats 1000000 in
theorem content_6 (s : ByteArray) (w : World) (hs : s.size ≤ 65536) :
    Calls Tryd.prog 76 #[.int .u8 6, .string s] w (SomeB w) := by
  go_enter Tryd.func76, Tryd.ntmps76
  go_wp2_with fail
  refine (Numbers_any s _ (by omega)).mono ?_
  rintro e w1 ⟨v, r, rfl, hb⟩
  go_wp2_with fail
  go_ret
  exact SomeB.mk _ hb
set_option maxRecDepth 100000 in
set_option maxHeartbeats 1000000 in
theorem content_12 (s : ByteArray) (w : World) (hs : s.size ≤ 65536) (hV : Calls Tryd.prog 94 #[.string s] w (SomeB w)) :
    Calls Tryd.prog 76 #[.int .u8 12, .string s] w (SomeB w) := by
  go_enter Tryd.func76, Tryd.ntmps76
  go_wp2_with fail
  refine (hV).mono ?_
  rintro e w1 ⟨r, rfl, hb⟩
  go_wp2_with fail
  go_ret
  exact SomeB.mk _ hb
set_option maxRecDepth 100000 in
set_option maxHeartbeats 1000000 in
theorem content_19 (s : ByteArray) (w : World) (hs : s.size ≤ 65536) :
    Calls Tryd.prog 76 #[.int .u8 19, .string s] w (SomeB w) := by
  go_enter Tryd.func76, Tryd.ntmps76
  go_wp2_with fail
  refine (printable_any s _ (by omega)).mono ?_
  rintro e w1 ⟨rfl, rfl⟩
  go_wp2_with fail
  go_ret
  exact SomeB.mk _ (Below.refl _ _)
set_option maxRecDepth 100000 in
set_option maxHeartbeats 1000000 in
theorem content_22 (s : ByteArray) (w : World) (hs : s.size ≤ 65536) :
    Calls Tryd.prog 76 #[.int .u8 22, .string s] w (SomeB w) := by
  go_enter Tryd.func76, Tryd.ntmps76
  go_wp2_with fail
  go_loopg [7] s.size (fun k v7 w' => ∃ i : Nat, v7 = .int .i64 (i : Int) ∧ i + k = s.size ∧ w = w')
  case atStart => exact ⟨0, rfl, by omega, rfl⟩
  case round =>
    obtain ⟨i, rfl, hi, rfl⟩ := hrel
    by_cases hlt : i < s.size
    · obtain ⟨c, ec⟩ : ∃ c, c = el (bytesOf s) i := ⟨_, rfl⟩
      have hx := byt_at s i
      rw [← ec] at hx
      replace ec := Go.Lib.hid ec
      by_cases h128 : 128 ≤ c
      · go_wp2_with fail
        go_ret
        exact SomeB.mk _ (Below.refl _ _)
      · go_wp2_with fail
        go_roundg (gk - 1)
        case measure => omega
        case rel => exact ⟨i + 1, by go_num, by omega, rfl⟩
    · obtain rfl : i = s.size := by omega
      go_wp2_with fail
      go_ret
      exact SomeB.mk _ (Below.refl _ _)
set_option maxRecDepth 100000 in
set_option maxHeartbeats 1000000 in
theorem content_24 (s : ByteArray) (w : World) (hs : s.size ≤ 65536) :
    Calls Tryd.prog 76 #[.int .u8 24, .string s] w (fun e w' => e = .returned (.bool (rcOk (bytesOf s) 4)) ∧ Below w.heap.size w w') := by
  go_enter Tryd.func76, Tryd.ntmps76
  go_wp2_with fail
  refine (rclk_any s _).mono ?_
  rintro e w1 ⟨v, l, rfl, _, _, hb⟩
  go_wp2_with fail
  go_ret
  exact ⟨rfl, hb⟩
set_option maxRecDepth 100000 in
set_option maxHeartbeats 1000000 in
theorem content_23 (s : ByteArray) (w : World) (hs : s.size ≤ 65536) :
    Calls Tryd.prog 76 #[.int .u8 23, .string s] w (fun e w' => e = .returned (.bool (rcOk (bytesOf s) 2)) ∧ Below w.heap.size w w') := by
  obtain ⟨t, h1, h2, hL⟩ := long_any s w (by omega)
  have hsame := (long_same (bytesOf s) (Byt.of s)).1
  rw [← h1, bytesOf_length] at hsame
  have hk := rclk_any t
  replace hk := Go.Lib.hid hk
  obtain ⟨r, er⟩ : ∃ r, r = rcOk (bytesOf t) 4 := ⟨_, rfl⟩
  rw [← er] at hsame
  rw [← hsame]
  replace hsame := Go.Lib.hid hsame
  replace er := Go.Lib.hid er
  by_cases h13 : s.size = 13
  · have h13' : (s.size : Int) = 13 := by omega
    rw [decide_eq_true h13, Bool.and_true]
    replace h13 := Go.Lib.hid h13
    clear h2 h1
    go_enter Tryd.func76, Tryd.ntmps76
    go_wp2_with fail
    refine hL.mono ?_
    rintro e w1 ⟨rfl, hb1⟩
    go_wp2_with fail
    refine (hk.out _).mono ?_
    rintro e w2 ⟨v, l, rfl, _, _, hb2⟩
    rw [← er.out]
    have hb := below_then hb1 hb1.size hb2
    cases r
    all_goals
      go_wp2_with fail
      go_ret
      exact ⟨rfl, hb⟩
  · have h13' : ((s.size : Int) == 13) = false := by simp; omega
    rw [decide_eq_false h13, Bool.and_false]
    clear h13 h2 h1
    go_enter Tryd.func76, Tryd.ntmps76
    go_wp2_with fail
    refine hL.mono ?_
    rintro e w1 ⟨rfl, hb1⟩
    go_wp2_with fail
    refine (hk.out _).mono ?_
    rintro e w2 ⟨v, l, rfl, _, _, hb2⟩
    rw [← er.out]
    have hb := below_then hb1 hb1.size hb2
    cases r
    all_goals
      go_wp2_with fail
      go_ret
      exact ⟨rfl, hb⟩
end Go.Proofs.YtgjeejgmphaliaaDoor

/-
  The reference's Valid and Time of a value without items, walked by hand.
-/
namespace Go.Proofs.YtgjeejgmphaliaaDoor
set_option linter.unusedVariables false
set_option linter.unusedSimpArgs false
open Go.RowKit Go.Proofs.YtgjeejgmphaliaaDoorW.PrintWords PDerTimes

/-- of the tags 23 and 24: what is asked of the data; of others: a Bool -/
def ValidPost (tag : Int) (s : ByteArray) (w : World) (e : Ending) (w' : World) : Prop :=
  ∃ r : Bool, e = .returned (.bool r) ∧ (tag = 23 → r = rcOk (bytesOf s) 2) ∧ (tag = 24 → r = rcOk (bytesOf s) 4) ∧ Below w.heap.size w w'
theorem content_any (tag : Int) (s : ByteArray) (w : World) (hs : s.size ≤ 65536) (hV : Calls Tryd.prog 94 #[.string s] w (SomeB w)) :
    Calls Tryd.prog 76 #[.int .u8 tag, .string s] w (ValidPost tag s w) := by
  have other : ∀ e w', tag ≠ 23 → tag ≠ 24 → SomeB w e w' → ValidPost tag s w e w' := fun e w' h1 h2 ⟨r, a, b⟩ => ⟨r, a, fun h => absurd h h1, fun h => absurd h h2, b⟩
  by_cases h1 : tag = 1
  · subst h1; exact (content_1 s w hs).mono fun e w' h => other e w' (by decide) (by decide) h
  by_cases h2 : tag = 2
  · subst h2; exact (content_2 s w hs).mono fun e w' h => other e w' (by decide) (by decide) h
  by_cases h3 : tag = 3
  · subst h3; exact (content_3 s w hs).mono fun e w' h => other e w' (by decide) (by decide) h
  by_cases h4 : tag = 4
  · subst h4; exact (content_4 s w hs).mono fun e w' h => other e w' (by decide) (by decide) h
  by_cases h5 : tag = 5
  · subst h5; exact (content_5 s w hs).mono fun e w' h => other e w' (by decide) (by decide) h
  by_cases h6 : tag = 6
  · subst h6; exact (content_6 s w hs).mono fun e w' h => other e w' (by decide) (by decide) h
  by_cases h12 : tag = 12
  · subst h12; exact (content_12 s w hs hV).mono fun e w' h => other e w' (by decide) (by decide) h
  by_cases h19 : tag = 19
  · subst h19; exact (content_19 s w hs).mono fun e w' h => other e w' (by decide) (by decide) h
  by_cases h22 : tag = 22
  · subst h22; exact (content_22 s w hs).mono fun e w' h => other e w' (by decide) (by decide) h
  by_cases h23 : tag = 23
  · subst h23; exact (content_23 s w hs).mono fun e w' ⟨a, b⟩ => ⟨_, a, fun _ => rfl, fun h => absurd h (by decide), b⟩
  by_cases h24 : tag = 24
  · subst h24; exact (content_24 s w hs).mono fun e w' ⟨a, b⟩ => ⟨_, a, fun h => absurd h (by decide), fun _ => rfl, b⟩
  exact (content_no tag s w ⟨h1, h2, h3, h4, h5, h6, h12, h19, h22, h23, h24⟩).mono fun e w' h => other e w' h23 h24 h

set_option maxRecDepth 100000 in
/-- a byte and 31, 32 -/
theorem and31 : ∀ x : Fin 256, bits .and .u8 ((x.val : Nat) : Int) 31 = ((x.val % 32 : Nat) : Int) := by decide
set_option maxRecDepth 100000 in
theorem and32 : ∀ x : Fin 256, bits .and .u8 ((x.val : Nat) : Int) 32 = ((x.val / 32 % 2 * 32 : Nat) : Int) := by decide

set_option maxRecDepth 100000 in
set_option maxHeartbeats 2000000 in
theorem valid_any (tag : Int) (s : ByteArray) (w : World) (ht : 0 ≤ tag ∧ tag ≤ 255) (hs : s.size ≤ 65536) (hV : ∀ w', Below w.heap.size w w' → Calls Tryd.prog 94 #[.string s] w' (SomeB w')) :
    Calls Tryd.prog 44 #[.agg #[.int .u8 tag, .string s, .slice none 0 0]] w (ValidPost tag s w) := by
  obtain ⟨T, rfl⟩ : ∃ T : Nat, tag = (T : Int) := ⟨tag.toNat, by omega⟩
  have hT : T < 256 := by omega
  have a1 := and31 ⟨T, hT⟩
  have a2 := and32 ⟨T, hT⟩
  simp only at a1 a2
  have hbel : ∀ o, Below w.heap.size w (w.alloc o) := fun o => (Below.refl _ _).alloc (Nat.le_refl _) _
  have hC := Go.Lib.hid (fun o => content_any (T : Int) s (w.alloc o) hs (hV _ (hbel o)))
  have hpost : Hid (∀ r : Bool, (T : Int) ≠ 23 → (T : Int) ≠ 24 → ∀ o, ValidPost (T : Int) s w (.returned (.bool r)) (w.alloc o)) := Go.Lib.hid (fun r h1 h2 o => ⟨r, rfl, fun h => absurd h h1, fun h => absurd h h2, hbel o⟩)
  replace hbel := Go.Lib.hid hbel
  replace hV := Go.Lib.hid hV
  obtain ⟨m31, e31⟩ : ∃ m, m = bits .and .u8 (T : Int) 31 := ⟨_, rfl⟩
  obtain ⟨m32, e32⟩ : ∃ m, m = bits .and .u8 (T : Int) 32 := ⟨_, rfl⟩
  rw [← e31] at a1
  rw [← e32] at a2
  by_cases c31 : T % 32 = 31
  · have q : m31 = 31 := by omega
    rw [q] at e31
    replace e31 := e31.symm
    clear a1 a2 e32
    have n1 : (T : Int) ≠ 23 := by omega
    have n2 : (T : Int) ≠ 24 := by omega
    replace n1 := Go.Lib.hid n1
    replace n2 := Go.Lib.hid n2
    go_enter Tryd.func44, Tryd.ntmps44
    go_wp2_with fail
    go_ret
    exact hpost.out _ n1.out n2.out _
  · have q : (m31 == 31) = false := by simp; omega
    replace e31 := e31.symm
    by_cases c32 : T / 32 % 2 = 1
    · have q2 : m32 = 32 := by omega
      rw [q2] at e32
      replace e32 := e32.symm
      have n1 : (T : Int) ≠ 23 := by omega
      have n2 : (T : Int) ≠ 24 := by omega
      replace n1 := Go.Lib.hid n1
      replace n2 := Go.Lib.hid n2
      clear a1 a2 c31
      by_cases hs0 : s = ⟨#[]⟩
      · subst hs0
        go_enter Tryd.func44, Tryd.ntmps44
        go_wp2_with fail
        refine wp_loop_rounds 1 ?_
        rw [rounds_succ]
        go_wp2_with fail
        all_goals
          go_ret
          exact hpost.out _ n1.out n2.out _
      · have hse : s.toList.isEmpty = false := by
          rw [ByteArray.toList_eq]
          obtain ⟨⟨l⟩⟩ := s
          cases l with
          | nil => exact absurd rfl hs0
          | cons a l => rfl
        go_enter Tryd.func44, Tryd.ntmps44
        go_wp2_with fail
        go_ret
        exact hpost.out _ n1.out n2.out _
    · have q2 : m32 = 0 := by omega
      rw [q2] at e32
      replace e32 := e32.symm
      clear a1 a2 c31
      go_enter Tryd.func44, Tryd.ntmps44
      go_wp2_with fail
      refine wp_loop_rounds 1 ?_
      rw [rounds_succ]
      go_wp2_with fail
      · have n1 : (T : Int) ≠ 23 := fun h => by
          have h7 : ((T : Int) / 64 != 0) = true := by assumption
          rw [h] at h7
          revert h7
          decide
        have n2 : (T : Int) ≠ 24 := fun h => by
          have h7 : ((T : Int) / 64 != 0) = true := by assumption
          rw [h] at h7
          revert h7
          decide
        go_ret
        exact hpost.out _ n1 n2 _
      · refine (hC.out _).mono ?_
        rintro e w1 ⟨r, rfl, g1, g2, hb⟩
        have hb2 := below_then (hbel.out _) (hbel.out _).size hb
        replace g1 := Go.Lib.hid g1
        replace g2 := Go.Lib.hid g2
        go_wp2_with fail
        go_ret
        exact ⟨r, rfl, g1.out, g2.out, hb2⟩

/-- no time by the reference: another tag, or no clock -/
theorem rtime_no (tag : Int) (s : ByteArray) (w : World) (ht : 0 ≤ tag ∧ tag ≤ 255) (hs : s.size ≤ 65536) (hV : ∀ w', Below w.heap.size w w' → Calls Tryd.prog 94 #[.string s] w' (SomeB w'))
    (h : (tag ≠ 23 ∧ tag ≠ 24) ∨ (tag = 23 ∧ rcOk (bytesOf s) 2 = false) ∨ (tag = 24 ∧ rcOk (bytesOf s) 4 = false)) :
    Calls Tryd.prog 13 #[.agg #[.int .u8 tag, .string s, .slice none 0 0]] w fun e w' => e = .returned (.tuple #[.int .i64 0, .bool false]) ∧ Below w.heap.size w w' := by
  have hbel : ∀ o, Below w.heap.size w (w.alloc o) := fun o => (Below.refl _ _).alloc (Nat.le_refl _) _
  have hC := Go.Lib.hid (fun o => valid_any tag s (w.alloc o) ht hs (fun w' hb => hV w' (below_then (hbel o) (hbel o).size hb)))
  have hk := heap_new w (Obj.cells #[.int .u8 tag, .string s, .slice none 0 0] 31)
  replace hbel := Go.Lib.hid hbel
  replace hV := Go.Lib.hid hV
  replace hk := Go.Lib.hid hk
  have hr : Hid (∀ r : Bool, (tag = 23 → r = rcOk (bytesOf s) 2) → (tag = 24 → r = rcOk (bytesOf s) 4) → r = false ∨ (r = true ∧ (tag != 23) = true ∧ (tag != 24) = true)) := Go.Lib.hid (fun r g1 g2 => by
    rcases h with ⟨h1, h2⟩ | ⟨h1, h2⟩ | ⟨h1, h2⟩
    · cases r
      · exact .inl rfl
      · exact .inr ⟨rfl, by simpa using h1, by simpa using h2⟩
    · exact .inl ((g1 h1).trans h2)
    · exact .inl ((g2 h1).trans h2))
  clear h
  go_enter Tryd.func13, Tryd.ntmps13
  go_wp2_with fail
  refine (hC.out _).mono ?_
  rintro e w1 ⟨r, rfl, g1, g2, hb⟩
  have hb2 := Go.Lib.hid (below_then (hbel.out _) (hbel.out _).size hb)
  have kk := pw_cell_below hb (cell_of_row _ w.heap.size 0 _ _ _ hk.out)
  simp at kk
  rcases hr.out r g1 g2 with rfl | ⟨rfl, q1, q2⟩
  all_goals
    clear g1 g2 hb
    go_wp2_with fail
    go_ret2
    exact ⟨rfl, hb2.out⟩

theorem clkL_cases (b : List Int) (yd : Nat) : clkL b yd = [yearV yd (rdV b 0 yd), rdV b yd 2, rdV b (yd + 2) 2, rdV b (yd + 4) 2, rdV b (yd + 6) 2, rdV b (yd + 8) 2] := rfl
/-- the reference's seconds of a clock -/
theorem rsec_any (b : List Int) (yd : Nat) (hyd : yd = 2 ∨ yd = 4) (h : rcOk b yd = true) (A : Option Addr) (c : Nat) (w : World) (hc : Kd.C (Kd.int .i64) w A (clkL b yd).length (clkL b yd)) (hcc : (clkL b yd).length ≤ c) :
    Calls Tryd.prog 47 #[.slice A 6 c] w fun e w' => e = .returned (.int .i64 (timeV b yd)) ∧ Below w.heap.size w w' := by
  simp only [rcOk, Bool.and_eq_true] at h
  obtain ⟨k1, k2, k3, k4, k5, k6, k7, k8⟩ := clkOk_ok h.2
  have k9 := mDays_range (yearV yd (rdV b 0 yd)) (rdV b yd 2)
  have r3 := rdV_range b (yd + 4) 2 (by omega)
  have r4 := rdV_range b (yd + 6) 2 (by omega)
  have r5 := rdV_range b (yd + 8) 2 (by omega)
  have hyr := year_range hyd k1
  obtain ⟨M, eM⟩ : ∃ M : Nat, rdV b yd 2 = (M : Int) := ⟨(rdV b yd 2).toNat, by omega⟩
  have hs := seconds_f (yearV yd (rdV b 0 yd)) (rdV b (yd + 2) 2) (rdV b (yd + 4) 2) (rdV b (yd + 6) 2) (rdV b (yd + 8) 2) M (by omega) hyr (by omega) (by omega) (by omega) (by omega)
  rw [← eM] at hs
  obtain ⟨K, hK⟩ := hs
  exact securelinkref7_seconds.calls K A c (clkL b yd) _ w hc hcc (hK K (Nat.le_refl _))
end Go.Proofs.YtgjeejgmphaliaaDoor

/-
  The reference's Time where there is one, walked by hand.
-/
namespace Go.Proofs.YtgjeejgmphaliaaDoor
set_option linter.unusedVariables false
set_option linter.unusedSimpArgs false
open Go.RowKit Go.Proofs.YtgjeejgmphaliaaDoorW.PrintWords PDerTimes

theorem clkL_len (b : List Int) (yd : Nat) : (clkL b yd).length = 6 := rfl
/-- the clock's answer, opened -/
theorem rclk_yes (s : ByteArray) (w : World) (h : rcOk (bytesOf s) 4 = true) : Calls Tryd.prog 46 #[.string s] w fun e w' => ∃ g c, e = .returned (.tuple #[.slice (some ⟨g, 0, none⟩) 6 c, .bool true]) ∧ 6 ≤ c ∧ Kd.C (Kd.int .i64) w' (some ⟨g, 0, none⟩) 6 (clkL (bytesOf s) 4) ∧ w'.cell? ⟨g, 0, none⟩ = some (.int .i64 (yearV 4 (rdV (bytesOf s) 0 4))) ∧ Below w.heap.size w w' := by
  refine (rclk_any s w).mono ?_
  rintro e w' ⟨v, l, rfl, hl, hR, hb⟩
  have e1 := hl h
  subst e1
  obtain ⟨g, c, rfl, _, _, _⟩ := Kd.R_form hR (by rw [clkL_len]; omega)
  obtain ⟨_, h2, h3⟩ := Kd.R_reads' hR
  have hc := Kd.R_cell 0 hR 0 (by omega) (by rw [clkL_len]; omega)
  exact ⟨g, c, by rw [h, clkL_len], h2, h3, hc.1, hb⟩
set_option maxRecDepth 100000 in
set_option maxHeartbeats 1000000 in
theorem rtime_23 (s : ByteArray) (w : World) (hs : s.size ≤ 65536) (hV : ∀ w', Below w.heap.size w w' → Calls Tryd.prog 94 #[.string s] w' (SomeB w')) (h : rcOk (bytesOf s) 2 = true) :
    Calls Tryd.prog 13 #[.agg #[.int .u8 23, .string s, .slice none 0 0]] w fun e w' => e = .returned (.tuple #[.int .i64 (timeV (bytesOf s) 2), .bool true]) ∧ Below w.heap.size w w' := by
  have hbel : ∀ o, Below w.heap.size w (w.alloc o) := fun o => (Below.refl _ _).alloc (Nat.le_refl _) _
  have hC := Go.Lib.hid (fun o => valid_any 23 s (w.alloc o) (by omega) hs (fun w' hb => hV w' (below_then (hbel o) (hbel o).size hb)))
  have hk := heap_new w (Obj.cells #[.int .u8 23, .string s, .slice none 0 0] 31)
  obtain ⟨t, h1, h2, hL⟩ := long_any s w (by omega)
  clear hL
  have hLW := Go.Lib.hid (fun W => (long_any s W (by omega)))
  obtain ⟨ls1, ls2⟩ := long_same (bytesOf s) (Byt.of s)
  have hs2 := Go.Lib.hid (fun A c W => rsec_any (bytesOf s) 2 (.inl rfl) h A c W)
  have h4 : rcOk (longL (bytesOf s)) 4 = true := by
    rw [h] at ls1
    simp only [Bool.and_eq_true] at ls1
    exact ls1.1
  have hcl := ls2 h
  rw [← hcl] at hs2
  have hck : Hid (∀ (t' : ByteArray), bytesOf t' = longL (bytesOf s) → ∀ W, Calls Tryd.prog 46 #[.string t'] W fun e w' => ∃ g c, e = .returned (.tuple #[.slice (some ⟨g, 0, none⟩) 6 c, .bool true]) ∧ 6 ≤ c ∧ Kd.C (Kd.int .i64) w' (some ⟨g, 0, none⟩) 6 (clkL (longL (bytesOf s)) 4) ∧ Below W.heap.size W w') := Go.Lib.hid (fun t' ht W => (rclk_yes t' W (by rw [ht]; exact h4)).mono fun e w' ⟨g, c, a1, a2, a3, _, a5⟩ => ⟨g, c, a1, a2, by rw [← ht]; exact a3, a5⟩)
  clear ls1 ls2 h1 h2 hcl
  replace h4 := Go.Lib.hid h4
  replace h := Go.Lib.hid h
  replace hbel := Go.Lib.hid hbel
  replace hV := Go.Lib.hid hV
  replace hk := Go.Lib.hid hk
  go_enter Tryd.func13, Tryd.ntmps13
  go_wp2_with fail
  refine (hC.out _).mono ?_
  rintro e w1 ⟨r, rfl, g1, g2, hb⟩
  obtain rfl : r = true := (g1 rfl).trans h.out
  have hb2 := below_then (hbel.out _) (hbel.out _).size hb
  have kk := pw_cell_below hb (cell_of_row _ w.heap.size 0 _ _ _ hk.out)
  have kk1 := pw_cell_below hb (cell_of_row _ w.heap.size 1 _ _ _ hk.out)
  simp at kk kk1
  clear g1 g2 hb
  replace hb2 := Go.Lib.hid hb2
  go_wp2_with fail
  obtain ⟨t', ht', _, hL⟩ := hLW.out w1
  refine hL.mono ?_
  rintro e w2 ⟨rfl, hb3⟩
  have kk2 := pw_cell_below hb3 kk
  replace hb2 := Go.Lib.hid (below_then hb2.out hb2.out.size hb3)
  clear hL kk kk1 hb3
  have hck2 := hck.out t' ht'
  clear ht'
  replace hck2 := Go.Lib.hid hck2
  go_wp2_with fail
  refine (hck2.out _).mono ?_
  rintro e w3 ⟨g, c, rfl, hc6, hc, hb4⟩
  have kk3 := pw_cell_below hb4 kk2
  replace hb2 := Go.Lib.hid (below_then hb2.out hb2.out.size hb4)
  replace hc := Go.Lib.hid hc
  clear kk2 hb4
  go_wp2_with fail
  refine (hs2.out _ _ _ hc.out hc6).mono ?_
  rintro e w4 ⟨rfl, hb5⟩
  replace hb2 := Go.Lib.hid (below_then hb2.out hb2.out.size hb5)
  clear hb5
  go_wp2_with fail
  go_ret2
  exact ⟨rfl, hb2.out⟩
set_option maxRecDepth 100000 in
set_option maxHeartbeats 1000000 in
theorem rtime_24 (s : ByteArray) (w : World) (hs : s.size ≤ 65536) (hV : ∀ w', Below w.heap.size w w' → Calls Tryd.prog 94 #[.string s] w' (SomeB w')) (h : rcOk (bytesOf s) 4 = true) :
    Calls Tryd.prog 13 #[.agg #[.int .u8 24, .string s, .slice none 0 0]] w fun e w' => ((timeOk (bytesOf s) 4 = true ∧ e = .returned (.tuple #[.int .i64 (timeV (bytesOf s) 4), .bool true])) ∨ (timeOk (bytesOf s) 4 = false ∧ e = .returned (.tuple #[.int .i64 0, .bool false]))) ∧ Below w.heap.size w w' := by
  have hbel : ∀ o, Below w.heap.size w (w.alloc o) := fun o => (Below.refl _ _).alloc (Nat.le_refl _) _
  have hC := Go.Lib.hid (fun o => valid_any 24 s (w.alloc o) (by omega) hs (fun w' hb => hV w' (below_then (hbel o) (hbel o).size hb)))
  have hk := heap_new w (Obj.cells #[.int .u8 24, .string s, .slice none 0 0] 31)
  have hs2 := Go.Lib.hid (fun A c W => rsec_any (bytesOf s) 4 (.inr rfl) h A c W)
  have hck := Go.Lib.hid (fun W => rclk_yes s W h)
  have hok : timeOk (bytesOf s) 4 = !(decide (1950 ≤ yearV 4 (rdV (bytesOf s) 0 4)) && decide (yearV 4 (rdV (bytesOf s) 0 4) < 2050)) := by
    simp [timeOk, h]
  obtain ⟨y, ey⟩ : ∃ y, y = yearV 4 (rdV (bytesOf s) 0 4) := ⟨_, rfl⟩
  rw [← ey] at hck hok
  have hcase : (y < 1950 ∧ timeOk (bytesOf s) 4 = true) ∨ (1950 ≤ y ∧ 2050 ≤ y ∧ timeOk (bytesOf s) 4 = true) ∨ (1950 ≤ y ∧ y < 2050 ∧ timeOk (bytesOf s) 4 = false) := by
    rcases (by omega : y < 1950 ∨ (1950 ≤ y ∧ 2050 ≤ y) ∨ (1950 ≤ y ∧ y < 2050)) with h1 | ⟨h1, h2⟩ | ⟨h1, h2⟩
    · exact .inl ⟨h1, by rw [hok]; simp; omega⟩
    · exact .inr (.inl ⟨h1, h2, by rw [hok]; simp; omega⟩)
    · exact .inr (.inr ⟨h1, h2, by rw [hok]; simp; omega⟩)
  clear hok
  replace ey := Go.Lib.hid ey
  replace h := Go.Lib.hid h
  replace hbel := Go.Lib.hid hbel
  replace hV := Go.Lib.hid hV
  replace hk := Go.Lib.hid hk
  go_enter Tryd.func13, Tryd.ntmps13
  go_wp2_with fail
  refine (hC.out _).mono ?_
  rintro e w1 ⟨r, rfl, g1, g2, hb⟩
  obtain rfl : r = true := (g2 rfl).trans h.out
  have hb2 := below_then (hbel.out _) (hbel.out _).size hb
  have kk := pw_cell_below hb (cell_of_row _ w.heap.size 0 _ _ _ hk.out)
  have kk1 := pw_cell_below hb (cell_of_row _ w.heap.size 1 _ _ _ hk.out)
  simp at kk kk1
  clear g1 g2 hb
  replace hb2 := Go.Lib.hid hb2
  go_wp2_with fail
  refine (hck.out _).mono ?_
  rintro e w3 ⟨g, c, rfl, hc6, hc, hcell, hb4⟩
  have kk3 := pw_cell_below hb4 kk
  replace hb2 := Go.Lib.hid (below_then hb2.out hb2.out.size hb4)
  replace hc := Go.Lib.hid hc
  clear kk kk1 hb4
  rcases hcase with ⟨c1, ok⟩ | ⟨c1, c2, ok⟩ | ⟨c1, c2, ok⟩
  · replace ok := Go.Lib.hid ok
    go_wp2_with fail
    refine (hs2.out _ _ _ hc.out hc6).mono ?_
    rintro e w4 ⟨rfl, hb5⟩
    replace hb2 := Go.Lib.hid (below_then hb2.out hb2.out.size hb5)
    clear hb5
    go_wp2_with fail
    go_ret2
    exact ⟨.inl ⟨ok.out, rfl⟩, hb2.out⟩
  · replace ok := Go.Lib.hid ok
    have c3 : decide (y < 2050) = false := by simp; omega
    go_wp2_with fail
    refine (hs2.out _ _ _ hc.out hc6).mono ?_
    rintro e w4 ⟨rfl, hb5⟩
    replace hb2 := Go.Lib.hid (below_then hb2.out hb2.out.size hb5)
    clear hb5
    go_wp2_with fail
    go_ret2
    exact ⟨.inl ⟨ok.out, rfl⟩, hb2.out⟩
  · replace ok := Go.Lib.hid ok
    have c3 : decide (y < 2050) = true := by simp; omega
    go_wp2_with fail
    go_ret2
    exact ⟨.inr ⟨ok.out, rfl⟩, hb2.out⟩
end Go.Proofs.YtgjeejgmphaliaaDoor
