/-
  The reference's filled, tag, Seal and Open, walked.
-/
import Derived.Test.YtdocbmgledebaaaE5
import Derived.Test.YtdocbmgledebaaaRT
import Derived.Test.YtdocbmgledebaaaPC
namespace Go.Proofs.Ytdocbmgledebaaa
set_option linter.unusedVariables false
set_option linter.unusedSimpArgs false
open Go.RowKit Go.Proofs.YtdocbmgledebaaaW.PrintWords

theorem str_app (s : ByteArray) (l : List Int) : s ++ strOfNums l = strOfNums (bytesOf s ++ l) := by rw [← str_append, strOf_bytes]
theorem lowL_leN (v : Int) (n : Nat) : lowL v n = leN n v := rfl
theorem str_of_reads {P : Program} {src dst e : TypeId} (hs : P.underlying src = some (.slice e)) (he : P.underlying e = some (.int .u8)) (hd : P.underlying dst = some .string) {A : Option Addr} {n : Nat} (c : Nat) {xs : List Int} {w : World} (h : ReadsInt w .u8 A n xs) :
    (convert src dst (.slice A n c)).run P w = .ok (.string (strOfNums xs)) w := string_of_reads hs he hd h

theorem beq_list (a b : ByteArray) : (a.toList == b.toList) = decide (a = b) := by
  rw [ByteArray.toList_eq, ByteArray.toList_eq, Bool.eq_iff_iff]
  simp only [beq_iff_eq, decide_eq_true_eq]
  exact ⟨fun h => ByteArray.ext (Array.toList_inj.mp h), fun h => by rw [h]⟩

set_option maxRecDepth 100000 in
theorem rfilled_any (s : ByteArray) (w : World) (hs : s.size ≤ 1000000) :
    Calls Try.prog 41 #[.string s] w fun e w' => e = .returned (.string (strOfNums (padL (bytesOf s)))) ∧ Below w.heap.size w w' := by
  obtain ⟨n, en⟩ : ∃ n, n = padN s.size := ⟨_, rfl⟩
  have hn : n ≤ 15 := by rw [en]; unfold padN; omega
  have hmk := print_make (P := Try.prog) 23 5 .u8 1 Try.underlying23 info_b8 (by omega) n (by omega)
  have b0 := Blk.made w .u8 5 n
  have hbel : Below w.heap.size w (w.alloc (.cells (madeCells #[.int .u8 0] n) 5)) := (Below.refl _ _).alloc (Nat.le_refl _) _
  have hcv := str_of_reads (P := Try.prog) (src := 23) (dst := 9) Try.underlying23 Try.underlying5 Try.underlying9 n (rd_len (b0.reads (by simp; omega)) (by simp : (List.replicate n (0 : Int)).length = n))
  have hp : (16 - (s.size : Int) % 16) % 16 = (n : Int) := by rw [en]; unfold padN; omega
  have hfin : Hid (strOfNums (padL (bytesOf s)) = s ++ strOfNums (List.replicate n 0)) := Go.Lib.hid (by rw [str_app, en]; unfold padL; rw [bytesOf_length])
  have hsz : ¬ 9223372036854775807 < s.size + (strOfNums (List.replicate n 0)).size := by rw [size_str]; simp; omega
  replace en := Go.Lib.hid en
  replace hbel := Go.Lib.hid hbel
  clear b0
  go_enter Try.func41, Try.ntmps41
  go_wp2_with fail
  go_ret
  exact ⟨by rw [hfin.out]; rfl, hbel.out⟩

set_option maxRecDepth 100000 in
theorem rtag_any (key nonce b t : ByteArray) (w : World) (hk : key.size = 32) (hn : nonce.size = 12) (hb : b.size ≤ 200000) (ht : t.size ≤ 200000) :
    Calls Try.prog 32 #[.string key, .string nonce, .string b, .string t] w fun e w' =>
      e = .returned (.string (strOfNums (tagOf (initL (bytesOf key) 0 (bytesOf nonce)) (bytesOf b) (bytesOf t)))) ∧ Below w.heap.size w w' := by
  have HK := Go.Lib.hid hk
  have HN := Go.Lib.hid hn
  clear hk hn
  go_enter Try.func32, Try.ntmps32
  go_wp2_with fail
  refine (rblock_any key nonce 0 _ HK.out HN.out (by omega) (by omega)).mono ?_
  rintro e w1 ⟨rfl, hb1⟩
  obtain ⟨I, eI⟩ : ∃ I, I = initL (bytesOf key) 0 (bytesOf nonce) := ⟨_, rfl⟩
  rw [← eI]
  obtain ⟨S, eS⟩ : ∃ S, S = strOfNums (blockL I) := ⟨_, rfl⟩
  rw [← eS]
  have hSl : Hid (S.size = 64) := Go.Lib.hid (by rw [eS, size_str, blockL_len])
  have h32 : (32 : Int) ≤ (S.size : Int) := by rw [hSl.out]; omega
  have hSk : Hid (bytesOf (S.extract 0 32) = (blockL I).take 32) := Go.Lib.hid (by rw [bytesOf_extract, eS, bytesOf_str (blockL_byt I), List.drop_zero])
  replace eI := Go.Lib.hid eI
  replace eS := Go.Lib.hid eS
  go_wp2_with fail
  refine region_eff (T := World) id [false, false, false, true, false, true, false, false, false, false, true, false, false, false, false, true, false, true] (by kernel_rfl) (by kernel_rfl) ⟨_, rfl⟩ ?_
  simp only [masked_cons, masked_out, masked_nil]
  repeat (refine wlk_pure fun K hK => ?_; go_simp; refine hK _ ?_; clear hK K)
  refine wlk_eff fun K hK => ?_
  go_simp
  refine (rfilled_any b _ (by omega)).mono ?_
  rintro e w2 ⟨rfl, hb2⟩
  replace hb2 : Below w1.heap.size w1 w2 := (Below.refl _ _).drew.trans hb2
  replace hb1 := below_then hb1 hb1.size hb2
  refine hK _ _ ⟨_, rfl⟩ ?_
  clear hK K hb2
  repeat (refine wlk_pure fun K hK => ?_; go_simp; refine hK _ ?_; clear hK K)
  refine wlk_eff fun K hK => ?_
  go_simp
  refine (rfilled_any t _ (by omega)).mono ?_
  rintro e w3 ⟨rfl, hb3⟩
  replace hb1 := below_then hb1 hb1.size hb3
  refine hK _ _ ⟨_, rfl⟩ ?_
  clear hK K hb3
  have l1 : (padL (bytesOf b)).length ≤ 200015 := by simp [padL, padN, bytesOf_length]; omega
  have l2 : (padL (bytesOf t)).length ≤ 200015 := by simp [padL, padN, bytesOf_length]; omega
  obtain ⟨P1, eP1⟩ : ∃ x, x = padL (bytesOf b) := ⟨_, rfl⟩
  obtain ⟨P2, eP2⟩ : ∃ x, x = padL (bytesOf t) := ⟨_, rfl⟩
  rw [← eP1] at l1 ⊢
  rw [← eP2] at l2 ⊢
  obtain ⟨L1, eL1⟩ : ∃ x, x = leN 8 b.size := ⟨_, rfl⟩
  obtain ⟨L2, eL2⟩ : ∃ x, x = leN 8 t.size := ⟨_, rfl⟩
  have l3 : L1.length = 8 := by rw [eL1, leN_len]
  have l4 : L2.length = 8 := by rw [eL2, leN_len]
  have hfin : Hid (bytesOf (strOfNums P1 ++ strOfNums P2 ++ strOfNums L1 ++ strOfNums L2) = partsL (bytesOf b) (bytesOf t)) := Go.Lib.hid (by
    rw [str_append, str_append, str_append, eP1, eP2, eL1, eL2, ← bytesOf_length b, ← bytesOf_length t]
    exact bytesOf_str (partsL_byt (Byt.of _) (Byt.of _)))
  have hfs : Hid ((strOfNums P1 ++ strOfNums P2 ++ strOfNums L1 ++ strOfNums L2).size ≤ 1000000) := Go.Lib.hid (by
    rw [str_append, str_append, str_append, size_str]; simp only [List.length_append]; omega)
  have z1 : ¬ 9223372036854775807 < (strOfNums P1).size + (strOfNums P2).size := by rw [size_str, size_str]; omega
  have z2 : ¬ 9223372036854775807 < (strOfNums P1 ++ strOfNums P2).size + (strOfNums L1).size := by rw [str_append, size_str, size_str]; simp only [List.length_append]; omega
  have z3 : ¬ 9223372036854775807 < (strOfNums P1 ++ strOfNums P2 ++ strOfNums L1).size + (strOfNums L2).size := by rw [str_append, str_append, size_str, size_str]; simp only [List.length_append]; omega
  have z2' := z2
  have z3' := z3
  rw [ByteArray.size_append] at z2' z3'
  rw [ByteArray.size_append] at z3'
  have EL1 : Hid (strOfNums (lowL (b.size : Int) 8) = strOfNums L1) := Go.Lib.hid (by rw [eL1, lowL_leN])
  have EL2 : Hid (strOfNums (lowL (t.size : Int) 8) = strOfNums L2) := Go.Lib.hid (by rw [eL2, lowL_leN])
  replace l1 := Go.Lib.hid l1
  replace l2 := Go.Lib.hid l2
  replace l3 := Go.Lib.hid l3
  replace l4 := Go.Lib.hid l4
  clear eP1 eP2 eL1 eL2
  repeat (refine wlk_pure fun K hK => ?_; go_simp; refine hK _ ?_; clear hK K)
  have hwb : IntKind.u64.wrap (b.size : Int) = (b.size : Int) := by rw [IntKind.wrap_u64]; omega
  have hwt : IntKind.u64.wrap (t.size : Int) = (t.size : Int) := by rw [IntKind.wrap_u64]; omega
  refine wlk_eff fun K hK => ?_
  go_simp
  refine (rlow8 _ _ (by omega) (by omega)).mono ?_
  rintro e w4 ⟨rfl, hb4⟩
  replace hb1 := below_then hb1 hb1.size hb4
  rw [EL1.out]
  refine hK _ _ ⟨_, rfl⟩ ?_
  clear hK K hb4
  repeat (refine wlk_pure fun K hK => ?_; go_simp; refine hK _ ?_; clear hK K)
  refine wlk_eff fun K hK => ?_
  go_simp
  refine (rlow8 _ _ (by omega) (by omega)).mono ?_
  rintro e w5 ⟨rfl, hb5⟩
  replace hb1 := below_then hb1 hb1.size hb5
  rw [EL2.out]
  refine hK _ _ ⟨_, rfl⟩ ?_
  clear hK K hb5
  repeat (refine wlk_pure fun K hK => ?_; go_simp; refine hK _ ?_; clear hK K)
  refine wlk_eff fun K hK => ?_
  go_simp
  refine (rpoly_any (S.extract 0 32) _ _ (by rw [ByteArray.size_extract, hSl.out]; rfl) hfs.out).mono ?_
  rintro e w6 ⟨rfl, hb6⟩
  replace hb1 := below_then hb1 hb1.size hb6
  refine hK _ _ ⟨_, rfl⟩ ?_
  clear hK K hb6
  repeat (refine wlk_pure fun K hK => ?_; go_simp; refine hK _ ?_; clear hK K)
  refine wlk_nil ?_
  go_wp2_with fail
  go_ret
  refine ⟨?_, hb1⟩
  rw [hSk.out, hfin.out, eI.out.symm]
  rfl

set_option maxRecDepth 100000 in
theorem rseal_any (key nonce b t : ByteArray) (w : World) (hk : key.size = 32) (hn : nonce.size = 12) (hb : b.size ≤ 200000) (ht : t.size ≤ 200000) :
    Calls Try.prog 17 #[.string key, .string nonce, .string b, .string t] w fun e w' =>
      e = .returned (.string (strOfNums (sealL (bytesOf key) (bytesOf nonce) (bytesOf b) (bytesOf t)))) ∧ Below w.heap.size w w' := by
  have HK := Go.Lib.hid hk
  have HN := Go.Lib.hid hn
  clear hk hn
  go_enter Try.func17, Try.ntmps17
  go_wp2_with fail
  refine (rturn_any key nonce t 1 _ HK.out HN.out (by omega) (by omega) (by omega)).mono ?_
  rintro e w1 ⟨rfl, hb1⟩
  obtain ⟨x, ex⟩ : ∃ x, x = turnL (initL (bytesOf key) 1 (bytesOf nonce)) (bytesOf t) := ⟨_, rfl⟩
  rw [← ex]
  have hxl : Hid (x.length = t.size) := Go.Lib.hid (by rw [ex, turnL_len, bytesOf_length])
  have hxb : Hid (bytesOf (strOfNums x) = x) := Go.Lib.hid (bytesOf_str (by rw [ex]; exact turnL_byt _ _))
  obtain ⟨g, eg⟩ : ∃ g, g = tagOf (initL (bytesOf key) 0 (bytesOf nonce)) (bytesOf b) x := ⟨_, rfl⟩
  have hgl : Hid (g.length = 16) := Go.Lib.hid (by rw [eg, tagOf_len])
  have hfin : Hid (strOfNums (sealL (bytesOf key) (bytesOf nonce) (bytesOf b) (bytesOf t)) = strOfNums x ++ strOfNums g) := Go.Lib.hid (by rw [str_append, eg, ex]; rfl)
  have hz : ¬ 9223372036854775807 < (strOfNums x).size + (strOfNums g).size := by rw [size_str, size_str, hxl.out, hgl.out]; omega
  replace ex := Go.Lib.hid ex
  replace eg := Go.Lib.hid eg
  go_wp2_with fail
  refine (rtag_any key nonce b _ _ HK.out HN.out hb (by rw [size_str, hxl.out]; exact ht)).mono ?_
  rintro e w2 ⟨rfl, hb2⟩
  rw [hxb.out, ← eg.out]
  go_wp2_with fail
  go_ret
  exact ⟨by rw [hfin.out]; rfl, below_then hb1 hb1.size hb2⟩

set_option maxRecDepth 100000 in
theorem ropen_any (key nonce b t : ByteArray) (w : World) (hk : key.size = 32) (hn : nonce.size = 12) (hb : b.size ≤ 200000) (ht : t.size ≤ 200000) :
    Calls Try.prog 18 #[.string key, .string nonce, .string b, .string t] w fun e w' =>
      (∃ s ok, e = .returned (.tuple #[.string s, .bool ok]) ∧ ok = (decide (16 ≤ t.size) && openOk (bytesOf key) (bytesOf nonce) (bytesOf b) (bytesOf t)) ∧ (ok = true → s = strOfNums (openL (bytesOf key) (bytesOf nonce) (bytesOf t)))) ∧ Below w.heap.size w w' := by
  have HK := Go.Lib.hid hk
  have HN := Go.Lib.hid hn
  clear hk hn
  by_cases h16 : t.size < 16
  · have hd : decide ((t.size : Int) - 16 < 0) = true := by simp; omega
    go_enter Try.func18, Try.ntmps18
    go_wp2_with fail
    go_ret2
    exact ⟨⟨_, _, rfl, by have : ¬ 16 ≤ t.size := by omega
                          simp [this], by simp⟩, Below.refl _ _⟩
  · have hd : decide ((t.size : Int) - 16 < 0) = false := by simp; omega
    have hd1 : (0 : Int) ≤ (t.size : Int) - 16 := by omega
    have hd2 : ((t.size : Int) - 16).toNat = t.size - 16 := by omega
    have hd4 : (t.size : Int) - 16 ≤ (t.size : Int) := by omega
    have hd7 : (16 : Int) ≤ (t.size : Int) := by omega
    have h16' : decide (16 ≤ t.size) = true := by simp; omega
    rw [h16', Bool.true_and]
    obtain ⟨m, em⟩ : ∃ m, m = t.size - 16 := ⟨_, rfl⟩
    have hA : bytesOf (t.extract 0 (t.size - 16)) = (bytesOf t).take (t.size - 16) := by rw [bytesOf_extract, List.drop_zero]
    have hB : bytesOf (t.extract (t.size - 16) t.size) = (bytesOf t).drop (t.size - 16) := by rw [bytesOf_extract, List.take_of_length_le (by rw [bytesOf_length]; omega)]
    have hsz : (t.extract 0 (t.size - 16)).size ≤ 200000 := by simp [ByteArray.size_extract]; omega
    obtain ⟨r, er⟩ : ∃ r, r = openOk (bytesOf key) (bytesOf nonce) (bytesOf b) (bytesOf t) := ⟨_, rfl⟩
    rw [← er]
    obtain ⟨g, eg⟩ : ∃ g, g = tagOf (initL (bytesOf key) 0 (bytesOf nonce)) (bytesOf b) ((bytesOf t).take (t.size - 16)) := ⟨_, rfl⟩
    have hgb : Byt g := by rw [eg]; exact tagL_byt _ _
    have hcmp : ((strOfNums g).toList == (t.extract (t.size - 16) t.size).toList) = r := by
      rw [er, beq_list]
      unfold openOk
      rw [bytesOf_length, ← eg, ← hB]
      by_cases h : g = bytesOf (t.extract (t.size - 16) t.size)
      · rw [decide_eq_true h, decide_eq_true (by rw [h, strOf_bytes])]
      · rw [decide_eq_false h, decide_eq_false (fun e => h (by rw [← e, bytesOf_str hgb]))]
    have hol : Hid (strOfNums (openL (bytesOf key) (bytesOf nonce) (bytesOf t)) = strOfNums (turnL (initL (bytesOf key) 1 (bytesOf nonce)) ((bytesOf t).take (t.size - 16)))) := Go.Lib.hid (by unfold openL; rw [bytesOf_length])
    replace hA := Go.Lib.hid hA
    replace hB := Go.Lib.hid hB
    replace hcmp := Go.Lib.hid hcmp
    replace er := Go.Lib.hid er
    replace eg := Go.Lib.hid eg
    replace em := Go.Lib.hid em
    clear h16'
    go_enter Try.func18, Try.ntmps18
    go_wp2_with fail
    refine (rtag_any key nonce b (t.extract 0 (t.size - 16)) _ HK.out HN.out hb hsz).mono ?_
    rintro e w1 ⟨rfl, hb1⟩
    rw [hA.out, ← eg.out]
    have hc2 := hcmp.out
    cases r with
    | false =>
      go_wp2_with fail
      go_ret2
      exact ⟨⟨_, _, rfl, rfl, by simp⟩, hb1⟩
    | true =>
      go_wp2_with fail
      refine (rturn_any key nonce _ 1 _ HK.out HN.out (by omega) (by omega) (by omega)).mono ?_
      rintro e w2 ⟨rfl, hb2⟩
      rw [hA.out]
      go_wp2_with fail
      go_ret2
      exact ⟨⟨_, _, rfl, rfl, fun _ => hol.out.symm⟩, below_then hb1 hb1.size hb2⟩
end Go.Proofs.Ytdocbmgledebaaa
