/-
  The reference's one-time sum.
-/
import Derived.Test.YtdocbmgledebaaaPB
namespace Go.Proofs.Ytdocbmgledebaaa
set_option linter.unusedVariables false
set_option linter.unusedSimpArgs false
open Go.RowKit Go.Proofs.YtdocbmgledebaaaW.PrintWords

def m1 : Nat → List Int → List Int
  | 0, l => l
  | k + 1, l => (m1 k l).set (3 + 4 * k) (el (m1 k l) (3 + 4 * k) % 16)
def m2 : Nat → List Int → List Int
  | 0, l => l
  | k + 1, l => (m2 k l).set (4 + 4 * k) (el (m2 k l) (4 + 4 * k) - el (m2 k l) (4 + 4 * k) % 4)
theorem m1_len (l : List Int) : ∀ k, (m1 k l).length = l.length
  | 0 => rfl
  | k + 1 => by simp [m1, m1_len l k]
theorem m2_len (l : List Int) : ∀ k, (m2 k l).length = l.length
  | 0 => rfl
  | k + 1 => by simp [m2, m2_len l k]
theorem m1_byt {l : List Int} (h : Byt l) : ∀ k, Byt (m1 k l)
  | 0 => h
  | k + 1 => by
    have := (m1_byt h k).el (3 + 4 * k)
    exact (m1_byt h k).set _ _ (by omega)
theorem m2_byt {l : List Int} (h : Byt l) : ∀ k, Byt (m2 k l)
  | 0 => h
  | k + 1 => by
    have := (m2_byt h k).el (4 + 4 * k)
    exact (m2_byt h k).set _ _ (by omega)
theorem m_rm (k : List Int) (h : 16 ≤ k.length) : m2 3 (m1 4 (k.take 16)) = rm k := by
  obtain ⟨l, hl⟩ : ∃ l, l = k.take 16 := ⟨_, rfl⟩
  have h16 : l.length = 16 := by rw [hl]; simp; omega
  have he : ∀ i, i < 16 → el k i = el l i := fun i hi => by rw [hl, el_take _ _ _ hi]
  rw [← hl]
  unfold rm
  rw [he 0 (by omega), he 1 (by omega), he 2 (by omega), he 3 (by omega), he 4 (by omega), he 5 (by omega), he 6 (by omega), he 7 (by omega), he 8 (by omega), he 9 (by omega), he 10 (by omega), he 11 (by omega), he 12 (by omega), he 13 (by omega), he 14 (by omega), he 15 (by omega)]
  match l, h16 with
  | [a0, a1, a2, a3, a4, a5, a6, a7, a8, a9, a10, a11, a12, a13, a14, a15], _ => rfl
theorem redV_mod (V : Int) : redV V % 1361129467683753853853498429727072845819 = V % 1361129467683753853853498429727072845819 := by unfold redV; omega
theorem mod_step (a b c R p : Int) (h : a % p = b % p) : ((a + c) * R) % p = ((b + c) * R) % p := by
  rw [Int.mul_emod, Int.add_emod, h, ← Int.add_emod, ← Int.mul_emod]
theorem and15_u8 (x : Int) (h : 0 ≤ x ∧ x ≤ 255) : bits .and .u8 x 15 = x % 16 := by
  obtain ⟨a, rfl⟩ := Int.eq_ofNat_of_zero_le h.1
  have h2 := u8_and_nat a 15 (by omega) (by omega)
  rw [and_15] at h2
  exact h2.trans (by omega)
theorem and252_u8 (x : Int) (h : 0 ≤ x ∧ x ≤ 255) : bits .and .u8 x 252 = x - x % 4 := by
  obtain ⟨a, rfl⟩ := Int.eq_ofNat_of_zero_le h.1
  have h2 := u8_and_nat a 252 (by omega) (by omega)
  rw [and_252 a (by omega)] at h2
  exact h2.trans (by omega)
set_option maxRecDepth 100000 in
set_option maxHeartbeats 2000000 in
theorem rpoly_any (key s : ByteArray) (w : World) (hk : key.size = 32) (hs : s.size ≤ 1000000) :
    Calls Try.prog 14 #[.string key, .string s] w fun e w' =>
      e = .returned (.string (strOfNums (tagL (bytesOf key) (bytesOf s)))) ∧ Below w.heap.size w w' := by
  have kb := fun s W => print_bytes (P := Try.prog) 9 23 5 Try.underlying9 Try.underlying23 Try.underlying5 s W
  have hk1 : (16 : Int) ≤ (key.size : Int) := by omega
  have HK := Go.Lib.hid hk
  obtain ⟨B, eB⟩ : ∃ B, B = w.heap.size := ⟨_, rfl⟩
  rw [← eB]
  have hbuf := Buf.of_str w 5 (key.extract 0 16)
  have hbel : Below B w (Lib.bytesWorld w 5 (key.extract 0 16)) := bytes_below (Below.refl _ _) (Nat.le_of_eq eB) _ _
  have hsz : (key.extract 0 16).size = 16 := by simp [ByteArray.size_extract]; omega
  rw [← eB, bytesOf_extract, List.drop_zero] at hbuf
  replace eB := Go.Lib.hid eB
  replace hsz := Go.Lib.hid hsz
  clear hk
  go_enter Try.func14, Try.ntmps14
  go_wp2_with fail
  rw [show min 16 key.size = 16 from by have := HK.out; omega, ← eB.out]
  generalize grownCap w 16 0 5 = cp
  have lk16 : Hid (((bytesOf key).take 16).length = 16) := Go.Lib.hid (by rw [List.length_take, bytesOf_length, HK.out]; rfl)
  have bk16 : Byt ((bytesOf key).take 16) := (Byt.of key).take 16
  have hrm := Go.Lib.hid (m_rm (bytesOf key) (by rw [bytesOf_length, HK.out]; omega))
  generalize (bytesOf key).take 16 = K at *
  have hO : Hid (Buf (Lib.bytesWorld w 5 (key.extract 0 16)) B .u8 (m1 0 K) ∧ Below B w (Lib.bytesWorld w 5 (key.extract 0 16))) := Go.Lib.hid ⟨hbuf, hbel⟩
  clear hbuf hbel
  generalize Lib.bytesWorld w 5 (key.extract 0 16) = w1 at hO ⊢
  go_loopw [6] (fun x wr => ∃ k : Nat, k ≤ 4 ∧ x = .int .i64 (3 + 4 * (k : Int)) ∧ Hid (Buf wr B .u8 (m1 k K) ∧ Below B w wr)) (fun x _ => 20 - (intOf x).toNat)
  case atStart => exact ⟨0, by omega, rfl, hO⟩
  case round =>
    obtain ⟨k, hk, rfl, hO⟩ := hrel
    obtain ⟨hB, hb⟩ := hO.out
    have hl := m1_len K k
    rw [lk16.out] at hl
    by_cases hlt : k < 4
    · have klt : 3 + 4 * (k : Int) < 16 := by omega
      have c1 := hB.cell (3 + 4 * k) (by omega)
      have f1 := hB.frozen (3 + 4 * k) (by omega)
      have e1 := and15_u8 _ ((m1_byt bk16 k).el (3 + 4 * k))
      replace hB := Go.Lib.hid hB
      replace hl := Go.Lib.hid hl
      clear hO
      go_wp2_with fail
      go_roundw
      case rel => exact ⟨k + 1, by omega, by congr 1, Go.Lib.hid ⟨hB.out.set (3 + 4 * k) _, hb.setCell (Nat.le_refl _) _⟩⟩
      case measure => simp [intOf]; omega
    · obtain rfl : k = 4 := by omega
      have hO2 : Hid (Buf wr B .u8 (m2 0 (m1 4 K)) ∧ Below B w wr) := Go.Lib.hid ⟨hB, hb⟩
      have bk4 := m1_byt bk16 4
      replace hl := Go.Lib.hid hl
      clear hO hB hb
      rw [show 3 + 4 * ((4 : Nat) : Int) = 19 from rfl]
      go_wp2_with fail
      go_loopw [7] (fun x wr => ∃ k : Nat, k ≤ 3 ∧ x = .int .i64 (4 + 4 * (k : Int)) ∧ Hid (Buf wr B .u8 (m2 k (m1 4 K)) ∧ Below B w wr)) (fun x _ => 20 - (intOf x).toNat)
      case atStart => exact ⟨0, by omega, rfl, hO2⟩
      case round =>
        obtain ⟨k, hk, rfl, hO⟩ := hrel
        obtain ⟨hB, hb⟩ := hO.out
        have hl2 := m2_len (m1 4 K) k
        rw [hl.out] at hl2
        by_cases hlt : k < 3
        · have klt : 4 + 4 * (k : Int) < 16 := by omega
          have c1 := hB.cell (4 + 4 * k) (by omega)
          have f1 := hB.frozen (4 + 4 * k) (by omega)
          have e1 := and252_u8 _ ((m2_byt bk4 k).el (4 + 4 * k))
          replace hB := Go.Lib.hid hB
          replace hl2 := Go.Lib.hid hl2
          clear hO
          go_wp2_with fail
          go_roundw
          case rel => exact ⟨k + 1, by omega, by congr 1, Go.Lib.hid ⟨hB.out.set (4 + 4 * k) _, hb.setCell (Nat.le_refl _) _⟩⟩
          case measure => simp [intOf]; omega
        · obtain rfl : k = 3 := by omega
          rw [hrm.out] at hB
          have hacc0 : accP (lev (rm (bytesOf key))) (bytesOf s) 0 = 0 := rfl
          have hO3 : Hid (∃ zs : List Int, ReadsInt wr .u8 none 0 zs ∧ Byt zs ∧ lev zs < 1361129467683753853853498429727072845824 ∧ lev zs % 1361129467683753853853498429727072845819 = accP (lev (rm (bytesOf key))) (bytesOf s) 0 % 1361129467683753853853498429727072845819 ∧ Buf wr B .u8 (rm (bytesOf key)) ∧ Below B w wr) :=
            Go.Lib.hid ⟨[], ReadsInt.nil _ _, fun x hx => (by cases hx), by simp [lev], rfl, hB, hb⟩
          have hT0 : Hid (bytesOf s = (bytesOf s).drop (16 * 0)) := Go.Lib.hid rfl
          clear hO hB hb hacc0 lk16 bk16 hrm hl bk4 hl2
          rw [show 4 + 4 * ((3 : Nat) : Int) = 16 from rfl]
          go_wp2_with fail
          go_loopw [1, 8] (fun x y wr => ∃ (j : Nat) (t : ByteArray) (A' : Option Addr) (n' c' : Nat), x = .string t ∧ y = .slice A' n' c' ∧ n' ≤ 17 ∧ n' ≤ c' ∧ t.size = s.size - 16 * j ∧ j ≤ (s.size + 15) / 16 ∧ Hid (bytesOf t = (bytesOf s).drop (16 * j)) ∧ Hid (∃ zs : List Int, ReadsInt wr .u8 A' n' zs ∧ Byt zs ∧ lev zs < 1361129467683753853853498429727072845824 ∧ lev zs % 1361129467683753853853498429727072845819 = accP (lev (rm (bytesOf key))) (bytesOf s) j % 1361129467683753853853498429727072845819 ∧ Buf wr B .u8 (rm (bytesOf key)) ∧ Below B w wr)) (fun x _ _ => match x with | .string t => t.size | _ => 0)
          case atStart => exact ⟨0, s, none, 0, 0, rfl, rfl, by omega, by omega, by omega, by omega, hT0, hO3⟩
          case round =>
            obtain ⟨j, t, A', n', c', rfl, rfl, hn, hnc, hts, hj, hT, hO⟩ := hrel
            obtain ⟨zs, hR, hzb, hzl, hzm, hB, hb⟩ := hO.out
            by_cases hlt : 0 < t.size
            · have tlt : (0 : Int) < (t.size : Int) := by omega
              replace hts := Go.Lib.hid hts
              replace hzm := Go.Lib.hid hzm
              replace hB := Go.Lib.hid hB
              clear hO
              rcases Nat.lt_or_ge t.size 16 with h16 | h16
              · have i16 : (t.size : Int) < 16 := by omega
                have hbig : t.size + (⟨#[1]⟩ : ByteArray).size ≤ 100 := by show t.size + 1 ≤ 100; omega
                have hchunk : chunk (bytesOf s) j = bytesOf t := by unfold chunk; rw [← hT.out, List.take_of_length_le (by rw [bytesOf_length]; omega)]
                have hcl : (chunk (bytesOf s) j).length = t.size := by rw [hchunk, bytesOf_length]
                have hchb := chunk_byt (Byt.of s) j
                go_wp2_with fail
                have hS : bytesOf (t ++ ⟨#[1]⟩) = chunk (bytesOf s) j ++ [1] := by
                  rw [bytesOf_append, ← hchunk]; rfl
                have hSz : (t ++ ⟨#[1]⟩).size = t.size + 1 := by rw [size_bytesOf, hS, List.length_append, hcl]; rfl
                have rS := rd_len (bytes_reads wr 5 (t ++ ⟨#[1]⟩) (by rw [hSz]; omega)) hSz
                rw [hS] at rS
                have hbS : Below B w (Lib.bytesWorld wr 5 (t ++ ⟨#[1]⟩)) := bytes_below hb (by have := hb.size; have := eB.out; omega) _ _
                have hb0 : Below wr.heap.size wr (Lib.bytesWorld wr 5 (t ++ ⟨#[1]⟩)) := bytes_below (Below.refl _ _) (Nat.le_refl _) _ _
                have hR2 := hR.below hb0
                have hB2 := Go.Lib.hid (hB.out.below hb0)
                generalize Lib.bytesWorld wr 5 (t ++ ⟨#[1]⟩) = w2 at rS hbS hR2 hB2 ⊢
                clear hb0 hS hSz hR hB hb
                refine (plus_any _ _ _ _ _ _ _ _ _ hR2 rS hzb (hchb.app (Byt.one (by omega))) (by omega) (by omega)).mono ?_
                rintro e w3 ⟨v3', z3, rfl, ho3, hz3, hl3, hq1, hq2, hq3, hb3⟩
                obtain ⟨A3, c3, rfl, hc3, r3⟩ := own_reads_len ho3
                have hbw3 : Below B w w3 := hbS.trans (hb3.mono (by have := hbS.size; have := eB.out; omega))
                have hB3 := Go.Lib.hid (hB2.out.below hb3)
                have rr := hB3.out.reads (by simp [rm])
                have hpl : lev z3 = lev zs + pieceV (chunk (bytesOf s) j) := by
                  rw [hl3, lev_one]; unfold pieceV; omega
                replace hpl := Go.Lib.hid hpl
                clear hR2 rS hbS hB2 hl3 ho3 hb3
                go_wp2_with fail
                refine (times_any _ _ _ _ _ _ _ _ _ r3 rr hz3 (rm_byt (Byt.of key)) (by omega) (by simp [rm])).mono ?_
                rintro e w4' ⟨g4, z4, rfl, b4, hg4, hz4, hl4, hn4, hb4⟩
                have hbw4 : Below B w w4' := hbw3.trans (hb4.mono (by have := hbw3.size; have := eB.out; omega))
                have hB4 := Go.Lib.hid (hB3.out.below hb4)
                have r4 := b4.reads (by rw [hn4]; simp [rm]; omega)
                rw [hn4] at r4
                replace hl4 := Go.Lib.hid hl4
                replace hn4 := Go.Lib.hid hn4
                clear r3 rr hB3 hb4 hbw3 b4
                go_wp2_with fail
                refine (less_any _ _ _ _ _ r4 hz4 (Nat.le_refl _) (by simp [rm]; omega)).mono ?_
                rintro e w5 ⟨A5, n5, c5, z5, rfl, r5, hz5, hn5, hc5, hl5, hm5, hb5⟩
                have hbw5 : Below B w w5 := hbw4.trans (hb5.mono (by have := hbw4.size; have := eB.out; omega))
                have hB5 := Go.Lib.hid (hB4.out.below hb5)
                have hm5' : lev z5 % 1361129467683753853853498429727072845819 = accP (lev (rm (bytesOf key))) (bytesOf s) (j + 1) % 1361129467683753853853498429727072845819 := by
                  rw [hm5, hl4.out, hpl.out]
                  simp only [accP]
                  rw [redV_mod]
                  exact mod_step _ _ _ _ _ hzm.out
                replace hm5' := Go.Lib.hid hm5'
                clear hm5 r4 hb5 hB4 hbw4
                go_wp2_with fail
                go_roundw
                case rel => exact ⟨j + 1, _, A5, n5, c5, rfl, rfl, hn5, hc5, by have := hts.out; simp; omega, by have := hts.out; omega, Go.Lib.hid (by rw [show 16 * (j + 1) = 16 * j + 16 from by omega, ← List.drop_drop, ← hT.out, List.drop_eq_nil_of_le (by rw [bytesOf_length]; omega)]; rfl), Go.Lib.hid ⟨z5, r5, hz5, hl5, hm5'.out, hB5.out, hbw5⟩⟩
                case measure => simp; omega
              · have i16 : (16 : Int) ≤ (t.size : Int) := by omega
                have hchunk : chunk (bytesOf s) j = (bytesOf t).take 16 := by unfold chunk; rw [← hT.out]
                have hcl : (chunk (bytesOf s) j).length = 16 := by rw [hchunk, List.length_take, bytesOf_length]; omega
                have hchb := chunk_byt (Byt.of s) j
                go_wp2_with fail
                have hS : bytesOf (t.extract 0 16 ++ ⟨#[1]⟩) = chunk (bytesOf s) j ++ [1] := by
                  rw [bytesOf_append, bytesOf_extract, List.drop_zero, ← hchunk]; rfl
                have hSz : (t.extract 0 16 ++ ⟨#[1]⟩).size = 17 := by rw [size_bytesOf, hS, List.length_append, hcl]; rfl
                have rS := rd_len (bytes_reads wr 5 (t.extract 0 16 ++ ⟨#[1]⟩) (by rw [hSz]; omega)) hSz
                rw [hS] at rS
                have hbS : Below B w (Lib.bytesWorld wr 5 (t.extract 0 16 ++ ⟨#[1]⟩)) := bytes_below hb (by have := hb.size; have := eB.out; omega) _ _
                have hb0 : Below wr.heap.size wr (Lib.bytesWorld wr 5 (t.extract 0 16 ++ ⟨#[1]⟩)) := bytes_below (Below.refl _ _) (Nat.le_refl _) _ _
                have hR2 := hR.below hb0
                have hB2 := Go.Lib.hid (hB.out.below hb0)
                generalize Lib.bytesWorld wr 5 (t.extract 0 16 ++ ⟨#[1]⟩) = w2 at rS hbS hR2 hB2 ⊢
                clear hb0 hS hSz hR hB hb
                refine (plus_any _ _ _ _ _ _ _ _ _ hR2 rS hzb (hchb.app (Byt.one (by omega))) (by omega) (by omega)).mono ?_
                rintro e w3 ⟨v3', z3, rfl, ho3, hz3, hl3, hq1, hq2, hq3, hb3⟩
                obtain ⟨A3, c3, rfl, hc3, r3⟩ := own_reads_len ho3
                have hbw3 : Below B w w3 := hbS.trans (hb3.mono (by have := hbS.size; have := eB.out; omega))
                have hB3 := Go.Lib.hid (hB2.out.below hb3)
                have rr := hB3.out.reads (by simp [rm])
                have hpl : lev z3 = lev zs + pieceV (chunk (bytesOf s) j) := by
                  rw [hl3, lev_one]; unfold pieceV; omega
                replace hpl := Go.Lib.hid hpl
                clear hR2 rS hbS hB2 hl3 ho3 hb3
                go_wp2_with fail
                refine (times_any _ _ _ _ _ _ _ _ _ r3 rr hz3 (rm_byt (Byt.of key)) (by omega) (by simp [rm])).mono ?_
                rintro e w4' ⟨g4, z4, rfl, b4, hg4, hz4, hl4, hn4, hb4⟩
                have hbw4 : Below B w w4' := hbw3.trans (hb4.mono (by have := hbw3.size; have := eB.out; omega))
                have hB4 := Go.Lib.hid (hB3.out.below hb4)
                have r4 := b4.reads (by rw [hn4]; simp [rm]; omega)
                rw [hn4] at r4
                replace hl4 := Go.Lib.hid hl4
                replace hn4 := Go.Lib.hid hn4
                clear r3 rr hB3 hb4 hbw3 b4
                go_wp2_with fail
                refine (less_any _ _ _ _ _ r4 hz4 (Nat.le_refl _) (by simp [rm]; omega)).mono ?_
                rintro e w5 ⟨A5, n5, c5, z5, rfl, r5, hz5, hn5, hc5, hl5, hm5, hb5⟩
                have hbw5 : Below B w w5 := hbw4.trans (hb5.mono (by have := hbw4.size; have := eB.out; omega))
                have hB5 := Go.Lib.hid (hB4.out.below hb5)
                have hm5' : lev z5 % 1361129467683753853853498429727072845819 = accP (lev (rm (bytesOf key))) (bytesOf s) (j + 1) % 1361129467683753853853498429727072845819 := by
                  rw [hm5, hl4.out, hpl.out]
                  simp only [accP]
                  rw [redV_mod]
                  exact mod_step _ _ _ _ _ hzm.out
                replace hm5' := Go.Lib.hid hm5'
                clear hm5 r4 hb5 hB4 hbw4
                go_wp2_with fail
                go_roundw
                case rel => exact ⟨j + 1, _, A5, n5, c5, rfl, rfl, hn5, hc5, by have := hts.out; simp; omega, by have := hts.out; omega, Go.Lib.hid (by rw [bytesOf_extract, show 16 * (j + 1) = 16 * j + 16 from by omega, ← List.drop_drop, ← hT.out, List.take_of_length_le (by rw [bytesOf_length]; omega)]), Go.Lib.hid ⟨z5, r5, hz5, hl5, hm5'.out, hB5.out, hbw5⟩⟩
                case measure => simp; omega
            · have t0 : t.size = 0 := by omega
              have tlt : (t.size : Int) ≤ 0 := by omega
              have ej : j = (s.size + 15) / 16 := by omega
              rw [ej] at hzm
              have kb2 := Buf.of_str
              have hkz : (key.extract 16 key.size).size = 16 := by rw [ByteArray.size_extract]; have := HK.out; omega
              have hkz2 : bytesOf (key.extract 16 key.size) = ((bytesOf key).drop 16).take 16 := by
                rw [bytesOf_extract, List.take_of_length_le (by rw [bytesOf_length]; omega), List.take_of_length_le (by rw [List.length_drop, bytesOf_length]; have := HK.out; omega)]
              replace hzm := Go.Lib.hid hzm
              replace hkz := Go.Lib.hid hkz
              replace hkz2 := Go.Lib.hid hkz2
              clear hO hB kb2 ej hts hT
              go_wp2_with fail
              refine (whole_any _ _ _ _ _ hR hzb hnc hn hzl).mono ?_
              rintro e w2 ⟨A2, n2, c2, z2, rfl, r2, hz2, hn2, hc2, hv2, hb2⟩
              have hbw2 : Below B w w2 := hb.trans (hb2.mono (by have := hb.size; have := eB.out; omega))
              replace hv2 := Go.Lib.hid hv2
              have hbS : Below B w (Lib.bytesWorld w2 5 (key.extract 16 key.size)) := bytes_below hbw2 (by have := hbw2.size; have := eB.out; omega) _ _
              have hb0 : Below w2.heap.size w2 (Lib.bytesWorld w2 5 (key.extract 16 key.size)) := bytes_below (Below.refl _ _) (Nat.le_refl _) _ _
              have rS := rd_len (bytes_reads w2 5 (key.extract 16 key.size) (by rw [hkz.out]; omega)) hkz.out
              rw [hkz2.out] at rS
              have r2' := r2.below hb0
              replace hbS := Go.Lib.hid hbS
              replace rS := Go.Lib.hid rS
              clear hb0 r2 hb2 hR hb
              go_wp2_with fail
              have rS2 := rd_len rS.out (show 16 = key.size - 16 from by have := HK.out; omega)
              refine (plus_any _ _ _ _ _ _ _ _ _ r2' rS2 hz2 (((Byt.of key).drop 16).take 16) (by omega) (by have := HK.out; omega)).mono ?_
              rintro e w3 ⟨v3', Z, rfl, ho3, hZ, hlZ, hq1, hq2, hq3, hb3⟩
              have hbw3 : Below B w w3 := hbS.out.trans (hb3.mono (by have := hbS.out.size; have := eB.out; omega))
              have ho4 := own_weaken ho3 (show B ≤ _ from by have := hbS.out.size; have := eB.out; omega)
              obtain ⟨A3, c3, rfl, hc3, _⟩ := own_reads_len ho4
              have hfin : Hid (leN 16 (lev Z) = tagL (bytesOf key) (bytesOf s)) := Go.Lib.hid (by
                unfold tagL
                rw [hlZ, hv2.out, hzm.out, bytesOf_length])
              have hO5 : Hid (w3.ownsRow B 5 1 (.slice A3 (Z.length + 0) c3) (Z ++ List.replicate 0 0).length (nums .u8 (Z ++ List.replicate 0 0)) ∧ Below B w w3) := Go.Lib.hid ⟨by simpa using ho4, hbw3⟩
              replace hlZ := Go.Lib.hid hlZ
              clear hbS rS rS2 r2' hb3 ho3 ho4 hbw3 hzm
              go_wp2_with fail
              go_loopw [8] (fun x wr => ∃ (m : Nat) (A' : Option Addr) (c' : Nat), x = .slice A' (Z.length + m) c' ∧ Z.length + m ≤ c' ∧ Hid (wr.ownsRow B 5 1 (.slice A' (Z.length + m) c') (Z ++ List.replicate m 0).length (nums .u8 (Z ++ List.replicate m 0)) ∧ Below B w wr)) (fun x _ => 16 - lenV x)
              case atStart => exact ⟨0, A3, c3, rfl, hc3, hO5⟩
              case round =>
                obtain ⟨m, A', c', rfl, hmc, hO⟩ := hrel
                obtain ⟨ho, hb⟩ := hO.out
                by_cases hl16 : Z.length + m < 16
                · have i16 : (Z.length : Int) + (m : Int) < 16 := by omega
                  have hB6 : B ≤ wr.heap.size := by have := hb.size; have := eB.out; omega
                  have hll : ((Z ++ List.replicate m 0).length + 1) * 1 ≤ 140737488355328 := by simp; omega
                  replace ho := Go.Lib.hid ho
                  clear hO
                  go_wp2_with (at_builtin; refine print_append_num (w0 := w) (W := wr) B rfl (.tmp 70) (.tmp 71) 23 5 .u8 1 rfl Try.underlying23 info_b (by omega) _ (Z ++ List.replicate m 0) _ rfl rfl ho.out hb hB6 hll ?_; intro v1 w7 ho7 hb7 hg7 hat7)
                  go_roundw
                  case rel =>
                    rw [List.append_assoc, show List.replicate m (0 : Int) ++ [0] = List.replicate (m + 1) 0 from by rw [List.replicate_succ']] at ho7
                    obtain ⟨A8, c8, rfl, hc8, _⟩ := own_reads_len ho7
                    have e : (Z ++ List.replicate (m + 1) (0 : Int)).length = Z.length + (m + 1) := by simp
                    rw [e] at hc8 ⊢
                    exact ⟨m + 1, A8, c8, rfl, hc8, Go.Lib.hid ⟨by rw [e] at ho7 ⊢; exact ho7, hb7⟩⟩
                  case measure =>
                    obtain ⟨A8, c8, rfl, hc8, _⟩ := own_reads_len ho7
                    simp [lenV]
                    omega
                · have i16 : (16 : Int) ≤ (Z.length : Int) + (m : Int) := by omega
                  have hcc : (16 : Int) ≤ (c' : Int) := by omega
                  have e : (Z ++ List.replicate m (0 : Int)).length = Z.length + m := by simp
                  rw [e] at ho
                  have hr := (own_reads' ho).take_ 16 (by omega)
                  have hstr := string_of_reads (P := Try.prog) (src := 23) (dst := 9) (c := c') Try.underlying23 Try.underlying5 Try.underlying9 hr
                  have hv : (Z ++ List.replicate m (0 : Int)).take 16 = tagL (bytesOf key) (bytesOf s) := by
                    rw [leN_take _ _ (hZ.app (fun x hx => by simp at hx; omega)) (by rw [e]; omega), lev_app, lev_zeros, Int.mul_zero, Int.add_zero]
                    exact hfin.out
                  rw [hv] at hstr
                  replace hr := Go.Lib.hid hr
                  replace hv := Go.Lib.hid hv
                  replace ho := Go.Lib.hid ho
                  clear hO
                  go_wp2_with fail
                  go_ret
                  exact ⟨rfl, hb⟩
end Go.Proofs.Ytdocbmgledebaaa
