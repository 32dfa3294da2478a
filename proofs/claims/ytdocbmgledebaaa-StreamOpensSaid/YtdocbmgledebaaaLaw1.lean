/-
  The law StreamBlocks: the walk.
-/
import Derived.Test.YtdocbmgledebaaaS
import Derived.Test.YtdocbmgledebaaaRT
namespace Go.Proofs.Ytdocbmgledebaaa
set_option linter.unusedVariables false
set_option linter.unusedSimpArgs false
open Go.RowKit Go.Proofs.YtdocbmgledebaaaW.PrintWords

theorem str_reads {P : Program} {src dst e : TypeId} (hs : P.underlying src = some (.slice e)) (he : P.underlying e = some (.int .u8)) (hd : P.underlying dst = some .string) {A : Option Addr} {n : Nat} (c : Nat) {xs : List Int} {w : World} (h : ReadsInt w .u8 A n xs) :
    (convert src dst (.slice A n c)).run P w = .ok (.string (strOfNums xs)) w := string_of_reads hs he hd h

theorem two_key (w : World) (k n : ByteArray) {m : Nat} (hm : k.size = m) (hs : m ≤ 1000000) : ReadsInt (Lib.bytesWorld (Lib.bytesWorld w 5 k) 5 n) .u8 (some ⟨w.heap.size, 0, none⟩) m (bytesOf k) :=
  (rd_len (bytes_reads w 5 k (by omega)) hm).below (bytes_below (Below.refl _ _) (Nat.le_refl _) _ _)
theorem two_nonce (w : World) (k n : ByteArray) {m : Nat} (hm : n.size = m) (hs : m ≤ 1000000) : ReadsInt (Lib.bytesWorld (Lib.bytesWorld w 5 k) 5 n) .u8 (some ⟨(Lib.bytesWorld w 5 k).heap.size, 0, none⟩) m (bytesOf n) :=
  rd_len (bytes_reads (Lib.bytesWorld w 5 k) 5 n (by omega)) hm
theorem two_bel (w : World) (k n : ByteArray) : Below w.heap.size w (Lib.bytesWorld (Lib.bytesWorld w 5 k) 5 n) :=
  bytes_below (bytes_below (Below.refl _ _) (Nat.le_refl _) _ _) (by rw [Lib.bytesWorld_size]; omega) _ _

set_option maxRecDepth 100000 in
theorem law_blocks (key nonce text : ByteArray) (ctr : Int) (w : World) (hc : 0 ≤ ctr) (hc1 : ctr ≤ 4294967295) :
    Calls Try.prog 3 #[.string key, .int .u32 ctr, .string nonce, .string text] w fun e w' => e = .returned (.bool true) ∧ Below w.heap.size w w' := by
  by_cases h1 : (65536 : Int) < (key.size : Int)
  · go_enter Try.func3, Try.ntmps3
    go_wp2_with fail
    go_ret
    exact ⟨rfl, Below.refl _ _⟩
  by_cases h2 : (65536 : Int) < (nonce.size : Int)
  · go_enter Try.func3, Try.ntmps3
    go_wp2_with fail
    go_ret
    exact ⟨rfl, Below.refl _ _⟩
  by_cases h3 : (65536 : Int) < (text.size : Int)
  · go_enter Try.func3, Try.ntmps3
    go_wp2_with fail
    go_ret
    exact ⟨rfl, Below.refl _ _⟩
  have t3 : text.size ≤ 1000000 := by omega
  have kb := fun s W => print_bytes (P := Try.prog) 9 23 5 Try.underlying9 Try.underlying23 Try.underlying5 s W
  by_cases hl : key.size = 32 ∧ nonce.size = 12
  · obtain ⟨hk, hn⟩ := hl
    go_enter Try.func3, Try.ntmps3
    go_wp2_with fail
    refine (lent_any text _ t3).mono ?_
    rintro e w1 ⟨g, rfl, hb, hg, hbel⟩
    replace hb := Go.Lib.hid hb
    go_wp2_with fail
    refine (pblock_yes _ _ _ _ (bytesOf key) (bytesOf nonce) ctr _ (two_key w1 key nonce hk (by omega)) (two_nonce w1 key nonce hn (by omega)) (Byt.of _) (Byt.of _) (grownCap_ge _ _ _ _) (grownCap_ge _ _ _ _) hc hc1).mono ?_
    rintro e w2 ⟨ga, rfl, hra, hb2⟩
    replace hb2 := below_then (two_bel w1 key nonce) (two_bel w1 key nonce).size hb2
    replace hra := Go.Lib.hid hra
    replace hb := Go.Lib.hid (hb.out.below hb2)
    replace hbel := below_then hbel hbel.size hb2
    clear hb2
    go_wp2_with fail
    refine (pturn_yes _ _ _ _ _ _ _ (bytesOf key) (bytesOf nonce) (bytesOf text) ctr _ (two_key w2 key nonce hk (by omega)) (two_nonce w2 key nonce hn (by omega)) (lent_text (hb.out.below (two_bel w2 key nonce)) t3) (Byt.of _) (Byt.of _) (grownCap_ge _ _ _ _) (grownCap_ge _ _ _ _) hc hc1 t3).mono ?_
    rintro e w3 ⟨v, rfl, hov, hb3⟩
    replace hb3 := below_then (two_bel w2 key nonce) (two_bel w2 key nonce).size hb3
    replace hra := Go.Lib.hid (hra.out.below hb3)
    replace hb := Go.Lib.hid (hb.out.below hb3)
    replace hbel := below_then hbel hbel.size hb3
    obtain ⟨Av, cv, rfl, hrv⟩ := own_reads hov
    replace hrv := Go.Lib.hid hrv
    clear hb3 hov
    go_wp2_with fail
    refine (still_any _ _ _ _ text _ t3 (lent_reads hb.out t3) rfl).mono ?_
    rintro e w4 ⟨rfl, hb4⟩
    replace hra := Go.Lib.hid (hra.out.below hb4)
    replace hrv := Go.Lib.hid (hrv.out.below hb4)
    replace hbel := below_then hbel hbel.size hb4
    clear hb4 hb
    go_wp2_with fail
    refine (rblock_any key nonce ctr _ hk hn hc hc1).mono ?_
    rintro e w5 ⟨rfl, hb5⟩
    replace hra := Go.Lib.hid (hra.out.below hb5)
    replace hrv := Go.Lib.hid (hrv.out.below hb5)
    replace hbel := below_then hbel hbel.size hb5
    clear hb5
    go_wp2_with fail
    refine (rturn_any key nonce text ctr _ hk hn hc hc1 t3).mono ?_
    rintro e w6 ⟨rfl, hb6⟩
    replace hra := Go.Lib.hid (hra.out.below hb6)
    replace hrv := Go.Lib.hid (hrv.out.below hb6)
    replace hbel := below_then hbel hbel.size hb6
    clear hb6
    have q1 := str_reads (P := Try.prog) (src := 23) (dst := 9) Try.underlying23 Try.underlying5 Try.underlying9 64 hra.out
    have q2 := str_reads (P := Try.prog) (src := 23) (dst := 9) Try.underlying23 Try.underlying5 Try.underlying9 cv hrv.out
    go_wp2_with fail
    go_ret
    exact ⟨by simp, hbel⟩
  · have hl' : key.size ≠ 32 ∨ nonce.size ≠ 12 := by omega
    replace hl' := Go.Lib.hid hl'
    clear hl
    have hg1 : Hid ((((key.size : Int) != 32) = true) ∨ (((key.size : Int) != 32) = false ∧ ((nonce.size : Int) != 12) = true)) := Go.Lib.hid (by
      have := hl'.out
      by_cases h : key.size = 32
      · right; constructor
        · simp [bne, h]
        · simp only [bne_iff_ne]; omega
      · left; simp only [bne_iff_ne]; omega)
    go_enter Try.func3, Try.ntmps3
    go_wp2_with fail
    refine (lent_any text _ t3).mono ?_
    rintro e w1 ⟨g, rfl, hb, hg, hbel⟩
    replace hb := Go.Lib.hid hb
    go_wp2_with fail
    refine (pblock_no _ _ _ _ _ _ _ _ hl'.out).mono ?_
    rintro e w2 ⟨rfl, hw2⟩
    have hb2 := two_bel w1 key nonce
    rw [← hw2] at hb2
    replace hb := Go.Lib.hid (hb.out.below hb2)
    replace hbel := below_then hbel hbel.size hb2
    clear hb2 hw2
    go_wp2_with fail
    refine (pturn_no _ _ _ _ _ _ _ _ _ hl'.out).mono ?_
    rintro e w3 ⟨rfl, hw3⟩
    have hb3 := two_bel w2 key nonce
    rw [← hw3] at hb3
    replace hb := Go.Lib.hid (hb.out.below hb3)
    replace hbel := below_then hbel hbel.size hb3
    clear hb3 hw3
    go_wp2_with fail
    refine (still_any _ _ _ _ text _ t3 (lent_reads hb.out t3) rfl).mono ?_
    rintro e w4 ⟨rfl, hb4⟩
    replace hbel := below_then hbel hbel.size hb4
    clear hb4 hb
    rcases hg1.out with hq | ⟨hq, hq2⟩
    all_goals
      go_wp2_with fail
      go_ret
      exact ⟨by simp, hbel⟩
end Go.Proofs.Ytdocbmgledebaaa
