/-
  The reference's numbers in digits of 2^8: whole.
-/
import Derived.Test.YtdocbmgledebaaaPA
namespace Go.Proofs.Ytdocbmgledebaaa
set_option linter.unusedVariables false
set_option linter.unusedSimpArgs false
open Go.RowKit Go.Proofs.YtdocbmgledebaaaW.PrintWords

set_option maxRecDepth 100000 in
theorem whole_any (A : Option Addr) (n c : Nat) (xs : List Int) (w : World) (h : ReadsInt w .u8 A n xs) (hb : Byt xs) (hnc : n ≤ c) (hn : n ≤ 17) (hv : lev xs < 1361129467683753853853498429727072845824) :
    Calls Try.prog 30 #[.slice A n c] w fun e w' =>
      ∃ A' n' c' zs, e = .returned (.slice A' n' c') ∧ ReadsInt w' .u8 A' n' zs ∧ Byt zs ∧ n' ≤ 17 ∧ n' ≤ c' ∧ lev zs = lev xs % 1361129467683753853853498429727072845819 ∧ Below w.heap.size w w' := by
  have h5 := own_lit w w.heap.size 5 .u8 [5] (Nat.le_refl _) (by simp)
  have r5 : ReadsInt (w.alloc (.cells #[.int .u8 5] 5)) .u8 (some ⟨w.heap.size, 0, none⟩) 1 [5] := own_reads' h5
  have hb1 : Below w.heap.size w (w.alloc (.cells #[.int .u8 5] 5)) := (Below.refl _ _).alloc (Nat.le_refl _) _
  have rx := h.below hb1
  have r0 := lev_range xs hb
  replace h := Go.Lib.hid h
  replace hv := Go.Lib.hid hv
  replace r0 := Go.Lib.hid r0
  clear h5
  go_enter Try.func30, Try.ntmps30
  go_wp2_with fail
  refine (plus_any _ _ _ _ _ _ _ _ _ rx r5 hb (Byt.one (by omega)) (by omega) (by omega)).mono ?_
  rintro e w2 ⟨v, zs, rfl, ho, hzb, hlz, hl1, hl2, hl3, hb2⟩
  have bb : Below w.heap.size w w2 := hb1.trans (hb2.mono (by simp))
  have hlz' : lev zs = lev xs + 5 := by rw [hlz]; rfl
  have r1 := h.out.below bb
  have hdig := lev_digit zs 16 hzb
  have hx := hzb.el 16
  replace hlz' := Go.Lib.hid hlz'
  clear hlz rx r5 hb2
  obtain ⟨gz, capz, rfl, hg1, hg2⟩ := ho.form (by omega)
  have hcz := own_cap ho
  rcases (by omega : zs.length < 17 ∨ (17 ≤ zs.length ∧ el zs 16 ≤ 3) ∨ (17 ≤ zs.length ∧ 3 < el zs 16)) with hc | ⟨hc, h3⟩ | ⟨hc, h3⟩
  · have i1 : (zs.length : Int) < 17 := by omega
    replace hdig := Go.Lib.hid hdig
    replace hlz := Go.Lib.hid hlz'
    go_wp2_with fail
    go_ret
    refine ⟨A, n, c, rfl, xs, r1, hb, hn, hnc, ?_, bb⟩
    have r := lev_range zs hzb
    have h1 := Nat.pow_le_pow_right (show 0 < 256 by omega) (show zs.length ≤ 16 by omega)
    have e : (256 : Int) ^ zs.length = ((256 ^ zs.length : Nat) : Int) := by rw [Int.natCast_pow]; rfl
    have e2 := hlz'.out
    have e3 := r0.out
    rw [e] at r
    omega
  · have i1 : (17 : Int) ≤ (zs.length : Int) := by omega
    have i2 : (16 : Int) < (zs.length : Int) := by omega
    have ck := own_cell ho 16 (by omega)
    replace hdig := Go.Lib.hid hdig
    go_wp2_with fail
    go_ret
    refine ⟨A, n, c, xs, rfl, r1, hb, hn, hnc, ?_, bb⟩
    have e1 := hdig.out
    have e2 := hlz'.out
    have e3 := r0.out
    have e4 := hv.out
    simp only [Int.reducePow] at e1
    omega
  · have i1 : (17 : Int) ≤ (zs.length : Int) := by omega
    have i2 : (16 : Int) < (zs.length : Int) := by omega
    have i3 : (17 : Int) ≤ (capz : Int) := by omega
    have ck := own_cell ho 16 (by omega)
    have fk := own_frozen ho 16
    have e16 := and3_u8 (el zs 16) hx
    have ho2 := own_set ho 16 (el zs 16 % 4)
    have bb2 := bb.setCell (p := ⟨gz, 16, none⟩) (by have := hg1; simp at this; show _ ≤ gz; omega) (.int .u8 (el zs 16 % 4))
    replace hdig := Go.Lib.hid hdig
    replace ho2 := Go.Lib.hid ho2
    replace bb2 := Go.Lib.hid bb2
    clear ho
    go_wp2_with fail
    go_ret
    have r2 := (own_reads' ho2.out).take_ 17 (by omega)
    have hs := (split130 zs hzb (by omega)).1
    rw [List.take_set] at r2
    refine ⟨_, 17, _, _, rfl, r2, (hzb.take 17).set _ _ (by omega), by omega, by omega, ?_, bb2.out⟩
    rw [hs]
    have e1 := hdig.out
    have e2 := hlz'.out
    have e3 := r0.out
    have e4 := hv.out
    simp only [Int.reducePow] at e1
    clear hs r2 bb2 ho2 fk ck e16 hdig
    generalize lev zs = L at *
    generalize lev xs = X at *
    generalize el zs 16 = d at *
    have q1 : 4 ≤ L / 340282366920938463463374607431768211456 := by omega
    have q2 : 1361129467683753853853498429727072845824 ≤ L := by omega
    have q3 : L % 1361129467683753853853498429727072845824 = L - 1361129467683753853853498429727072845824 := by omega
    have q4 : X % 1361129467683753853853498429727072845819 = X - 1361129467683753853853498429727072845819 := by omega
    omega
end Go.Proofs.Ytdocbmgledebaaa
