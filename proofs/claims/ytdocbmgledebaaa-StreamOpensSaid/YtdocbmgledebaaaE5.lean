/-
  Open, walked.
-/
import Derived.Test.YtdocbmgledebaaaE4
import Derived.Test.YtdocbmgledebaaaArr
import Derived.BigQuiet
namespace Go.Proofs.Ytdocbmgledebaaa
set_option linter.unusedVariables false
set_option linter.unusedSimpArgs false
open Go.RowKit Go.Proofs.YtdocbmgledebaaaW.PrintWords

def openOk (key nonce b t : List Int) : Bool := decide (tagOf (initL key 0 nonce) b (t.take (t.length - 16)) = t.drop (t.length - 16))
def openL (key nonce t : List Int) : List Int := turnL (initL key 1 nonce) (t.take (t.length - 16))
theorem openL_len (key nonce t : List Int) : (openL key nonce t).length = t.length - 16 := by simp [openL, turnL_len]

theorem popen_no (A0 A1 A3 : Option Addr) (n0 n1 n3 c0 c1 c3 : Nat) (v2 : Value) (w : World) (h : n0 ≠ 32 ∨ n1 ≠ 12) (hn3 : n3 ≤ 200000) :
    Calls Try.prog 16 #[.slice A0 n0 c0, .slice A1 n1 c1, v2, .slice A3 n3 c3] w fun e w' => e = .returned (.tuple #[.slice none 0 0, .int .i64 2]) ∧ w' = w := by
  go_enter Try.func16, Try.ntmps16
  go_wp2_with fail
  refine (fits_no _ _ _ _ _ _ _ h).mono ?_
  rintro e w' ⟨rfl, rfl⟩
  go_wp2_with fail
  go_ret2
  exact ⟨rfl, rfl⟩

set_option maxRecDepth 100000 in
theorem popen_short (A0 A1 A3 : Option Addr) (c0 c1 n3 c3 : Nat) (v2 : Value) (w : World) (hn3 : n3 < 16) :
    Calls Try.prog 16 #[.slice A0 32 c0, .slice A1 12 c1, v2, .slice A3 n3 c3] w fun e w' => e = .returned (.tuple #[.slice none 0 0, .int .i64 4]) ∧ Below w.heap.size w w' := by
  have hd : decide ((n3 : Int) - 16 < 0) = true := by simp; omega
  go_enter Try.func16, Try.ntmps16
  go_wp2_with fail
  refine (fits_yes _ _ _ _ _).mono ?_
  rintro e w' ⟨rfl, rfl⟩
  go_wp2_with fail
  go_quiet (fail)
  go_wp2_with fail
  go_ret2
  exact ⟨rfl, pw_below_drewN (Below.refl _ _) _⟩

set_option maxRecDepth 100000 in
set_option maxHeartbeats 400000 in
theorem popen_yes (A0 A1 A2 A3 : Option Addr) (c0 c1 n2 c2 n3 c3 : Nat) (key nonce b t : List Int) (w : World) (hk : ReadsInt w .u8 A0 32 key) (hn : ReadsInt w .u8 A1 12 nonce) (h2 : ReadsInt w .u8 A2 n2 b) (h3 : ReadsInt w .u8 A3 n3 t)
    (hkb : Byt key) (hnb : Byt nonce) (hb : Byt b) (ht : Byt t) (hc0 : 32 ≤ c0) (hc1 : 12 ≤ c1) (hc3 : n3 ≤ c3) (hn2 : n2 ≤ 200000) (hn3 : n3 ≤ 200000) (h16 : 16 ≤ n3) :
    Calls Try.prog 16 #[.slice A0 32 c0, .slice A1 12 c1, .slice A2 n2 c2, .slice A3 n3 c3] w fun e w' =>
      ((openOk key nonce b t = true ∧ ∃ v, e = .returned (.tuple #[v, .int .i64 0]) ∧ w'.ownsRow w.heap.size 5 1 v (openL key nonce t).length (nums .u8 (openL key nonce t))) ∨
       (openOk key nonce b t = false ∧ e = .returned (.tuple #[.slice none 0 0, .int .i64 4]))) ∧ Below w.heap.size w w' := by
  obtain ⟨i8, hi8, _, hz8, _⟩ := info_parts info_u8
  replace hi8 := Go.Lib.hid hi8
  replace hz8 := Go.Lib.hid hz8
  have hu1 := Go.Lib.hid (U32s_init' hkb hnb (by omega : (0 : Int) ≤ 1) (by omega))
  have hu0 := Go.Lib.hid (U32s_init' hkb hnb (by omega : (0 : Int) ≤ 0) (by omega))
  have HKB := Go.Lib.hid hkb
  have HNB := Go.Lib.hid hnb
  replace hk := Go.Lib.hid hk
  replace hn := Go.Lib.hid hn
  replace h2 := Go.Lib.hid h2
  replace h3 := Go.Lib.hid h3
  replace hb := Go.Lib.hid hb
  replace ht := Go.Lib.hid ht
  have hd : decide ((n3 : Int) - 16 < 0) = false := by simp; omega
  have hd1 : (0 : Int) ≤ (n3 : Int) - 16 := by omega
  have hd2 : ((n3 : Int) - 16).toNat = n3 - 16 := by omega
  have hd3 : (n3 : Int) - 16 ≤ (c3 : Int) := by omega
  have hd4 : (n3 : Int) - 16 ≤ (n3 : Int) := by omega
  have hd7 : (16 : Int) ≤ (n3 : Int) := by omega
  have hd5 : ¬ c3 = n3 - 16 := by omega
  have hd6 : ¬ n3 - (n3 - 16) < 16 := by omega
  clear hkb hnb
  obtain ⟨gt, ot, hA, hct⟩ := rd_open h3.out (by omega)
  subst hA
  replace hct := Go.Lib.hid hct
  go_enter Try.func16, Try.ntmps16
  go_wp2_with fail
  refine (fits_yes _ _ _ _ _).mono ?_
  rintro e w' ⟨rfl, hw'⟩
  rw [hw']
  clear hw' w'
  go_wp2_with fail
  obtain ⟨T, f, neT, hf, hs⟩ := class_type (fun w' => Below w.heap.size w w') w (Below.refl _ _)
  replace hf := Go.Lib.hid hf
  replace hs := Go.Lib.hid hs
  refine region_eff f [false, false, false, false, false, true, false, false, false, false, true] (by kernel_rfl) (by kernel_rfl) (hs.out _ (Below.refl _ _).drew) ?_
  simp only [masked_cons, masked_out, masked_nil]
  repeat (refine wlk_pure fun K hK => ?_; go_simp; refine hK _ ?_; clear hK K)
  refine wlk_eff fun K hK => ?_
  go_simp
  refine (newWords_any A0 A1 c0 c1 key nonce 0 _ (hk.out.below (Below.refl _ _).drew) (hn.out.below (Below.refl _ _).drew) HKB.out HNB.out hc0 hc1).mono ?_
  rintro e w1 ⟨rfl, hb1⟩
  replace hb1 : Below w.heap.size w w1 := (Below.refl _ _).drew.trans hb1
  refine hK _ _ (hs.out _ hb1) ?_
  clear hK K
  repeat (refine wlk_pure fun K hK => ?_; go_simp; refine hK _ ?_; clear hK K)
  obtain ⟨m, em⟩ : ∃ m, m = n3 - 16 := ⟨_, rfl⟩
  have hrt : Hid (ReadsInt w .u8 (some ⟨gt, ot, none⟩) (n3 - 16) (t.take (n3 - 16))) := Go.Lib.hid (by
    have hl := h3.out.1
    refine ⟨by simp; omega, by omega, fun _ => ⟨_, rfl, fun j hj => ?_⟩⟩
    rw [add_off, hct.out j (by omega)]
    simp [el, List.getD_eq_getElem?_getD, List.getElem?_take, hj])
  have hrd : Hid (ReadsInt w .u8 (some ⟨gt, ot + (n3 - 16), none⟩) 16 (t.drop (n3 - 16))) := Go.Lib.hid (by
    have hl := h3.out.1
    refine ⟨by simp; omega, by omega, fun _ => ⟨_, rfl, fun j hj => ?_⟩⟩
    rw [add_off, Nat.add_assoc, hct.out _ (by omega)]
    simp [el, List.getD_eq_getElem?_getD, List.getElem?_drop])
  refine wlk_eff fun K hK => ?_
  go_simp
  refine (tag_any _ _ _ _ _ _ _ b (t.take (n3 - 16)) _ (initL_len _ _ _) hu0.out (h2.out.below hb1) (hrt.out.below hb1) hb.out (ht.out.take _) hn2 (by omega)).mono ?_
  rintro e w2 ⟨rfl, hb2⟩
  replace hb2 := below_then hb1 hb1.size hb2
  refine hK _ _ (hs.out _ hb2) ?_
  clear hK K hb1
  obtain ⟨g, eg⟩ : ∃ g, g = tagOf (initL key 0 nonce) b (t.take (n3 - 16)) := ⟨_, rfl⟩
  have hgl : Hid (g.length = 16) := Go.Lib.hid (by rw [eg, tagOf_len])
  rw [← eg]
  replace eg := Go.Lib.hid eg
  repeat (refine wlk_pure fun K hK => ?_; go_simp; refine hK _ ?_; clear hK K)
  refine wlk_pure fun K hK => ?_
  rw [if_pos (by rfl)]
  refine ⟨_, fun s => exec_arr rfl Try.underlying54 rfl (by omega), hK _ ?_⟩
  clear hK K
  refine wlk_pure fun K hK => ?_
  rw [if_pos (by rfl)]
  refine ⟨_, fun s => exec_load rfl rfl (run_loadVar_reads (hrd.out.below (hf.out s)) (by omega) Try.underlying54 (by kernel_rfl)), hK _ ?_⟩
  clear hK K
  refine wlk_pure fun K hK => ?_
  rw [if_pos (by rfl)]
  refine ⟨_, fun s => exec_neq rfl rfl rfl (run_neq_arr Try.underlying54 Try.underlying5 hi8.out hz8.out (by kernel_rfl) _ _ g _ hgl.out hrd.out.1 _), hK _ ?_⟩
  clear hK K
  obtain ⟨r, er⟩ : ∃ r, r = decide (g = t.drop (n3 - 16)) := ⟨_, rfl⟩
  rw [← er]
  have hok : Hid (openOk key nonce b t = r) := Go.Lib.hid (by unfold openOk; rw [er, eg.out, h3.out.1])
  have hol : Hid (openL key nonce t = turnL (initL key 1 nonce) (t.take (n3 - 16))) := Go.Lib.hid (by unfold openL; rw [h3.out.1])
  have htl : Hid ((t.take (n3 - 16)).length = n3 - 16) := Go.Lib.hid hrt.out.1
  replace er := Go.Lib.hid er
  cases r with
  | false =>
    repeat (refine wlk_pure fun K hK => ?_; go_simp; refine hK _ ?_; clear hK K)
    refine wlk_nil ?_
    go_wp2_with fail
    go_ret2
    exact ⟨.inr ⟨hok.out, rfl⟩, hb2⟩
  | true =>
    repeat (refine wlk_pure fun K hK => ?_; go_simp; refine hK _ ?_; clear hK K)
    refine wlk_nil ?_
    have hk2 := Go.Lib.hid (hk.out.below hb2)
    have hn2' := Go.Lib.hid (hn.out.below hb2)
    have hr2 := Go.Lib.hid (hrt.out.below hb2)
    go_wp2_with fail
    refine region_eff (T := World) id [false, false, true, false, false, false, true] (by kernel_rfl) (by kernel_rfl) ⟨_, rfl⟩ ?_
    simp only [masked_cons, masked_out, masked_nil]
    repeat (refine wlk_pure fun K hK => ?_; go_simp; refine hK _ ?_; clear hK K)
    refine wlk_eff fun K hK => ?_
    go_simp
    refine (newWords_any A0 A1 c0 c1 key nonce 1 _ (hk2.out.below (Below.refl _ _).drew) (hn2'.out.below (Below.refl _ _).drew) HKB.out HNB.out hc0 hc1).mono ?_
    rintro e w3 ⟨rfl, hb3⟩
    replace hb3 : Below w2.heap.size w2 w3 := (Below.refl _ _).drew.trans hb3
    refine hK _ _ ⟨_, rfl⟩ ?_
    clear hK K
    repeat (refine wlk_pure fun K hK => ?_; go_simp; refine hK _ ?_; clear hK K)
    refine wlk_eff fun K hK => ?_
    go_simp
    refine (turn_any _ _ _ _ _ _ (initL_len _ _ _) hu1.out (hr2.out.below hb3) (by omega)).mono ?_
    rintro e w4 ⟨v, rfl, ho, hb4⟩
    have hb03 := below_then hb2 hb2.size hb3
    refine hK _ _ ⟨_, rfl⟩ ?_
    clear hK K
    repeat (refine wlk_pure fun K hK => ?_; go_simp; refine hK _ ?_; clear hK K)
    refine wlk_nil ?_
    replace ho := own_weaken ho hb03.size
    have hb04 := below_then hb03 hb03.size hb4
    replace ho := Go.Lib.hid ho
    go_wp2_with fail
    go_ret2
    exact ⟨.inl ⟨hok.out, v, rfl, by rw [hol.out]; exact own_cast ho.out rfl (by rw [turnL_len, htl.out])⟩, hb04⟩
end Go.Proofs.Ytdocbmgledebaaa
