/-
  The stream turns a text: the reference's.
-/
import Derived.Test.YtdocbmgledebaaaRB
import Derived.Test.YtdocbmgledebaaaT
import Derived.Test.YtdocbmgledebaaaLib4
namespace Go.Proofs.Ytdocbmgledebaaa
set_option linter.unusedVariables false
set_option linter.unusedSimpArgs false
open Go.RowKit Go.Proofs.YtdocbmgledebaaaW.PrintWords

theorem bump_init (key nonce : List Int) (ctr : Int) (q : Nat) : bump (initL key ctr nonce) q = initL key ((ctr + q) % 4294967296) nonce := by
  apply ext_el (by rw [bump_len, initL_len, initL_len])
  intro i hi
  rw [bump_len, initL_len] at hi
  unfold bump
  rw [el_set, initL_ctr, initL_len]
  by_cases h : 12 = i
  · subst h; rw [if_pos ⟨rfl, by omega⟩, initL_ctr]
  · rw [if_neg (fun e => h e.1)]
    by_cases h4 : i < 4
    · rw [initL_head _ _ _ _ h4, initL_head _ _ _ _ h4]
    · by_cases h12 : i < 12
      · obtain ⟨j, rfl⟩ : ∃ j, i = 4 + j := ⟨i - 4, by omega⟩
        rw [initL_key _ _ _ _ (by omega), initL_key _ _ _ _ (by omega)]
      · obtain ⟨j, rfl⟩ : ∃ j, i = 13 + j := ⟨i - 13, by omega⟩
        rw [initL_nonce _ _ _ _ (by omega), initL_nonce _ _ _ _ (by omega)]

structure Rt (B gb : Nat) (I t : List Int) (i : Nat) (w wr : World) (o : List Int) : Prop where
  len : o.length = t.length
  done : ∀ j, j < i → j < t.length → el o j = turnB I t j
  rest : ∀ j, i ≤ j → el o j = el t j
  buf : Buf wr gb .u8 o
  hg : B ≤ gb
  bel : Below B w wr
  lt : B ≤ wr.heap.size
theorem Rt.below {B gb : Nat} {I t : List Int} {i : Nat} {w wr w2 : World} {o : List Int} (h : Rt B gb I t i w wr o) (hb : Below wr.heap.size wr w2) : Rt B gb I t i w w2 o :=
  ⟨h.len, h.done, h.rest, h.buf.below hb, h.hg, h.bel.trans (hb.mono h.lt), Nat.le_trans h.lt hb.size⟩
theorem Rt.set {B gb : Nat} {I t : List Int} {i : Nat} {w wr : World} {o : List Int} (h : Rt B gb I t i w wr o) (hi : i < t.length) : Rt B gb I t (i + 1) w (wr.setCell ⟨gb, i, none⟩ (.int .u8 (turnB I t i))) (o.set i (turnB I t i)) := by
  refine ⟨by simp [h.len], fun j hj hjn => ?_, fun j hj => ?_, h.buf.set i _, h.hg, h.bel.setCell h.hg _, by simp [World.setCell]; exact h.lt⟩
  · rw [el_set]
    by_cases e : i = j
    · rw [if_pos ⟨e, by rw [h.len]; omega⟩, e]
    · rw [if_neg (fun h => e h.1)]; exact h.done j (by omega) hjn
  · rw [el_set, if_neg (fun h => by omega)]; exact h.rest j (by omega)

set_option maxRecDepth 100000 in
set_option maxHeartbeats 1000000 in
theorem rturn_any (key nonce text : ByteArray) (ctr : Int) (w : World) (hk : key.size = 32) (hn : nonce.size = 12) (hc : 0 ≤ ctr) (hc1 : ctr ≤ 4294967295) (ht : text.size ≤ 1000000) :
    Calls Try.prog 12 #[.string key, .int .u32 ctr, .string nonce, .string text] w fun e w' =>
      e = .returned (.string (strOfNums (turnL (initL (bytesOf key) ctr (bytesOf nonce)) (bytesOf text)))) ∧ Below w.heap.size w w' := by
  have kb := fun s W => print_bytes (P := Try.prog) 9 23 5 Try.underlying9 Try.underlying23 Try.underlying5 s W
  have HK := Go.Lib.hid hk
  have HN := Go.Lib.hid hn
  clear hk hn
  go_enter Try.func12, Try.ntmps12
  go_wp2_with fail
  obtain ⟨I, eI⟩ : ∃ I, I = initL (bytesOf key) ctr (bytesOf nonce) := ⟨_, rfl⟩
  obtain ⟨t, et⟩ : ∃ t, t = bytesOf text := ⟨_, rfl⟩
  have htl : t.length = text.size := by rw [et, bytesOf_length]
  have hO : Hid (∃ o, Rt w.heap.size w.heap.size I t 0 w (Lib.bytesWorld w 5 text) o) := Go.Lib.hid ⟨t, rfl, fun j hj => by omega, fun j _ => rfl, by rw [et]; exact Buf.of_str w _ text, Nat.le_refl _, bytes_below (Below.refl _ _) (Nat.le_refl _) _ _, by rw [Lib.bytesWorld_size]; omega⟩
  generalize Lib.bytesWorld w 5 text = w0 at hO ⊢
  generalize grownCap w text.size 0 5 = cap
  obtain ⟨gb, egb⟩ : ∃ gb, gb = w.heap.size := ⟨_, rfl⟩
  rw [← egb]
  replace hO : Hid (∃ o, Rt w.heap.size gb I t 0 w w0 o) := by rw [egb]; exact hO
  generalize text.size = n at ht htl ⊢
  have hI1 : Hid (∀ q : Nat, initL (bytesOf key) ((ctr + q) % 4294967296) (bytesOf nonce) = bump I q) := Go.Lib.hid (fun q => by rw [eI, bump_init])
  replace eI := Go.Lib.hid eI
  replace et := Go.Lib.hid et
  replace htl := Go.Lib.hid htl
  clear egb kb
  go_loopw [10, 11] (fun s x wr => ∃ (i : Nat) (S : ByteArray), i ≤ n ∧ x = .int .i64 i ∧ s = .string S ∧ Hid (i % 64 ≠ 0 → S = strOfNums (blockL (bump I (i / 64)))) ∧ Hid (∃ o, Rt w.heap.size gb I t i w wr o)) (fun _ x _ => n - (intOf x).toNat)
  case atStart => exact ⟨0, _, by omega, rfl, rfl, Go.Lib.hid (fun h => by omega), hO⟩
  case round =>
    obtain ⟨i, S, hi, rfl, rfl, hS, hO⟩ := hrel
    by_cases hlt : i < n
    · obtain ⟨r, hr⟩ : ∃ r, r = i % 64 := ⟨_, rfl⟩
      have hmod : (i : Int) % 64 = (r : Int) := by omega
      have hmod2 : (i : Int).tmod 64 = (r : Int) := by rw [Int.tmod_eq_emod_of_nonneg (by omega)]; exact hmod
      by_cases h0 : r = 0
      · have t0 : ((r : Int) == 0) = true := by simp; exact h0
        replace hr := Go.Lib.hid hr
        replace h0 := Go.Lib.hid h0
        go_wp2_with fail
        refine (rblock_any _ _ _ _ HK.out HN.out (by omega) (by omega)).mono ?_
        rintro e w3 ⟨rfl, hb3⟩
        have hS3 : strOfNums (blockL (initL (bytesOf key) ((ctr + (i : Int) / 64) % 4294967296) (bytesOf nonce))) = strOfNums (blockL (bump I (i / 64))) := by
          rw [← hI1.out (i / 64), show (((i / 64 : Nat)) : Int) = (i : Int) / 64 from by omega]
        rw [hS3]
        have hO3 : Hid (∃ o, Rt w.heap.size gb I t i w w3 o) := Go.Lib.hid (by obtain ⟨o, h⟩ := hO.out; exact ⟨o, h.below hb3⟩)
        clear hS3 hb3
        obtain ⟨o, hR⟩ := hO3.out
        obtain ⟨S2, hS2⟩ : ∃ S2, S2 = strOfNums (blockL (bump I (i / 64))) := ⟨_, rfl⟩
        rw [← hS2]
        have hSb : bytesOf S2 = blockL (bump I (i / 64)) := by rw [hS2, bytesOf_str (blockL_byt _)]
        have qs : r < S2.size := by have := hr.out; rw [size_bytesOf, hSb, blockL_len]; omega
        have ns : (r : Int) < (S2.size : Int) := by omega
        have xs : ∀ h : r < S2.size, ((S2[r]'h).toNat : Int) = el (blockL (bump I (i / 64))) r := fun h => by rw [← hSb]; exact byt_at S2 r h
        have c1 := hR.buf.cell i (by rw [hR.len, htl.out]; exact hlt)
        have f1 := hR.buf.frozen i (by rw [hR.len, htl.out]; exact hlt)
        have hval : bits .xor .u8 (el o i) (el (blockL (bump I (i / 64))) r) = turnB I t i := by
          have h1 := hr.out
          rw [turnB, hR.rest i (Nat.le_refl _), h1]
        replace hval := Go.Lib.hid hval
        replace hS2 := Go.Lib.hid hS2
        replace hR := Go.Lib.hid hR
        have iln : (i : Int) < (n : Int) := by omega
        clear hSb hO
        go_wp2_with fail
        refine region_tail (C := fun w' => ∃ n, w' = w3.drewN n) 12 (by kernel_rfl) (by kernel_rfl) ⟨1, rfl⟩ ?_
        simp only [List.take_succ_cons, List.take_zero, List.drop_succ_cons, List.drop_zero]
        repeat quiet_step (fail)
        refine wpQuiet_nil ?_
        rintro _ ⟨nq, rfl⟩
        go_wp2_with fail
        go_roundw
        case rel =>
          refine ⟨i + 1, S2, by omega, by go_num, rfl, Go.Lib.hid (fun h => ?_), Go.Lib.hid ?_⟩
          · rw [hS2.out, show (i + 1) / 64 = i / 64 from by omega]
          · rw [hval.out]
            exact ⟨_, (hR.out.below (pw_below_drewN (Below.refl _ w3) nq)).set (by rw [htl.out]; exact hlt)⟩
        case measure => simp [intOf]; omega
      · have t0 : ((r : Int) == 0) = false := by simp; exact h0
        have hS4 := hS.out (by rw [← hr]; exact h0)
        subst hS4
        replace hr := Go.Lib.hid hr
        replace h0 := Go.Lib.hid h0
        clear hS
        obtain ⟨o, hR⟩ := hO.out
        obtain ⟨S2, hS2⟩ : ∃ S2, S2 = strOfNums (blockL (bump I (i / 64))) := ⟨_, rfl⟩
        rw [← hS2]
        have hSb : bytesOf S2 = blockL (bump I (i / 64)) := by rw [hS2, bytesOf_str (blockL_byt _)]
        have qs : r < S2.size := by have := hr.out; rw [size_bytesOf, hSb, blockL_len]; omega
        have ns : (r : Int) < (S2.size : Int) := by omega
        have xs : ∀ h : r < S2.size, ((S2[r]'h).toNat : Int) = el (blockL (bump I (i / 64))) r := fun h => by rw [← hSb]; exact byt_at S2 r h
        have c1 := hR.buf.cell i (by rw [hR.len, htl.out]; exact hlt)
        have f1 := hR.buf.frozen i (by rw [hR.len, htl.out]; exact hlt)
        have hval : bits .xor .u8 (el o i) (el (blockL (bump I (i / 64))) r) = turnB I t i := by
          have h1 := hr.out
          rw [turnB, hR.rest i (Nat.le_refl _), h1]
        replace hval := Go.Lib.hid hval
        replace hS2 := Go.Lib.hid hS2
        replace hR := Go.Lib.hid hR
        have iln : (i : Int) < (n : Int) := by omega
        clear hSb hO
        go_wp2_with fail
        refine region_tail (C := fun w' => ∃ n, w' = wr.drewN n) 12 (by kernel_rfl) (by kernel_rfl) ⟨1, rfl⟩ ?_
        simp only [List.take_succ_cons, List.take_zero, List.drop_succ_cons, List.drop_zero]
        repeat quiet_step (fail)
        refine wpQuiet_nil ?_
        rintro _ ⟨nq, rfl⟩
        go_wp2_with fail
        go_roundw
        case rel =>
          refine ⟨i + 1, S2, by omega, by go_num, rfl, Go.Lib.hid (fun h => ?_), Go.Lib.hid ?_⟩
          · rw [hS2.out, show (i + 1) / 64 = i / 64 from by omega]
          · rw [hval.out]
            exact ⟨_, (hR.out.below (pw_below_drewN (Below.refl _ wr) nq)).set (by rw [htl.out]; exact hlt)⟩
        case measure => simp [intOf]; omega
    · obtain rfl : i = n := by omega
      obtain ⟨o, hR⟩ := hO.out
      have e : o = turnL I t := ext_el (by rw [hR.len, turnL_len]) (fun j hj => by
        have h1 := hR.len
        have h2 := htl.out
        rw [hR.done j (by omega) (by omega), turnL_el _ _ _ (by omega)])
      have hcv := string_of_reads (P := Try.prog) (src := 23) (dst := 9) (c := cap) Try.underlying23 Try.underlying5 Try.underlying9 (rd_len (hR.buf.reads (by have := hR.len; have := htl.out; omega)) (by rw [hR.len, htl.out]))
      have hbel := hR.bel
      replace e := Go.Lib.hid e
      clear hR hO
      go_wp2_with fail
      go_ret
      refine ⟨?_, hbel⟩
      rw [← eI.out, ← et.out, ← e.out]
      rfl
end Go.Proofs.Ytdocbmgledebaaa
