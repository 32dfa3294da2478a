/-
  The reference's block.
-/
import Derived.Test.YtdocbmgledebaaaR
import Derived.Outline
namespace Go.Proofs.Ytdocbmgledebaaa
set_option linter.unusedVariables false
set_option linter.unusedSimpArgs false
open Go.RowKit Go.Proofs.YtdocbmgledebaaaW.PrintWords

/-- what is written out for a block: the head, the key, the count, the nonce -/
def allL (key : List Int) (ctr : Int) (nonce : List Int) : List Int := bytesOf headS ++ key ++ lowL ctr 4 ++ nonce

theorem el_app_l (a b : List Int) (i : Nat) (h : i < a.length) : el (a ++ b) i = el a i := by simp [el, List.getD_eq_getElem?_getD, List.getElem?_append_left h]
theorem el_app_r (a b : List Int) (i : Nat) (h : a.length ≤ i) : el (a ++ b) i = el b (i - a.length) := by simp [el, List.getD_eq_getElem?_getD, List.getElem?_append_right h]
theorem w4_app_l (a b : List Int) (i : Nat) (h : i + 4 ≤ a.length) : w4 (a ++ b) i = w4 a i := by
  simp only [w4]
  rw [el_app_l _ _ _ (by omega), el_app_l _ _ _ (by omega), el_app_l _ _ _ (by omega), el_app_l _ _ _ (by omega)]
theorem w4_app_r (a b : List Int) (i : Nat) (h : a.length ≤ i) : w4 (a ++ b) i = w4 b (i - a.length) := by
  simp only [w4]
  rw [el_app_r _ _ _ (by omega), el_app_r _ _ _ (by omega), el_app_r _ _ _ (by omega), el_app_r _ _ _ (by omega)]
  rw [show i + 1 - a.length = i - a.length + 1 from by omega, show i + 2 - a.length = i - a.length + 2 from by omega, show i + 3 - a.length = i - a.length + 3 from by omega]
theorem w4_low (v : Int) (h0 : 0 ≤ v) (h1 : v ≤ 4294967295) : w4 (lowL v 4) 0 = v := by
  have e : lowL v 4 = [v / 256 ^ 0 % 256, v / 256 ^ 1 % 256, v / 256 ^ 2 % 256, v / 256 ^ 3 % 256] := rfl
  rw [e]
  simp only [w4, el, le4, List.getD_cons_zero, List.getD_cons_succ]
  omega
theorem allL_w4 (key nonce : List Int) (ctr : Int) (hk : key.length = 32) (hn : nonce.length = 12) (h0 : 0 ≤ ctr) (h1 : ctr ≤ 4294967295) (i : Nat) (hi : i < 16) :
    w4 (allL key ctr nonce) (4 * i) = el (initL key ctr nonce) i := by
  have hh : (bytesOf headS).length = 16 := rfl
  have hl : (lowL ctr 4).length = 4 := lowL_len _ _
  unfold allL
  by_cases h4 : i < 4
  · rw [initL_head _ _ _ _ h4, w4_app_l _ _ _ (by simp [hh, hk, hl]; omega), w4_app_l _ _ _ (by simp [hh, hk]; omega), w4_app_l _ _ _ (by simp [hh]; omega)]
  · by_cases h12 : i < 12
    · obtain ⟨j, rfl⟩ : ∃ j, i = 4 + j := ⟨i - 4, by omega⟩
      rw [initL_key _ _ _ _ (by omega), w4_app_l _ _ _ (by simp [hh, hk, hl]; omega), w4_app_l _ _ _ (by simp [hh, hk]; omega), w4_app_r _ _ _ (by simp [hh]; omega), hh]
      congr 1; omega
    · by_cases h13 : i = 12
      · subst h13
        rw [initL_ctr, w4_app_l _ _ _ (by simp [hh, hk, hl]), w4_app_r _ _ _ (by simp [hh, hk])]
        have e : 4 * 12 - (bytesOf headS ++ key).length = 0 := by simp [hh, hk]
        rw [e, w4_low _ h0 h1]
      · obtain ⟨j, rfl⟩ : ∃ j, i = 13 + j := ⟨i - 13, by omega⟩
        rw [initL_nonce _ _ _ _ (by omega), w4_app_r _ _ _ (by simp [hh, hk, hl]; omega)]
        congr 1
        simp [hh, hk, hl]; omega
theorem take_succ (l : List Int) (k : Nat) (h : k < l.length) : l.take (k + 1) = l.take k ++ [el l k] := by
  rw [List.take_succ_eq_append_getElem h]; simp [el, h]
theorem allL_len (key nonce : List Int) (ctr : Int) (hk : key.length = 32) (hn : nonce.length = 12) : (allL key ctr nonce).length = 64 := by simp [allL, hk, hn, lowL_len]; rfl

theorem rq_0_4_8_12 (base g cap : Nat) (l : List Int) (w : World) (hl : l.length = 16) (h : w.ownsRow base 22 1 (.slice (some ⟨g, 0, none⟩) 16 cap) 16 (nums .u32 l)) (hr : U32s l) :
    Calls Try.prog 25 #[.slice (some ⟨g, 0, none⟩) 16 cap, .int .i64 0, .int .i64 4, .int .i64 8, .int .i64 12] w fun e w' =>
      e = .returned (.tuple #[]) ∧ w'.ownsRow base 22 1 (.slice (some ⟨g, 0, none⟩) 16 cap) 16 (nums .u32 (quarter l 0 4 8 12)) ∧ w.grownBy w' (some g) :=
  rquarter_any base g cap 0 4 8 12 l w hl (by omega) (by omega) (by omega) (by omega) h hr
theorem rq_1_5_9_13 (base g cap : Nat) (l : List Int) (w : World) (hl : l.length = 16) (h : w.ownsRow base 22 1 (.slice (some ⟨g, 0, none⟩) 16 cap) 16 (nums .u32 l)) (hr : U32s l) :
    Calls Try.prog 25 #[.slice (some ⟨g, 0, none⟩) 16 cap, .int .i64 1, .int .i64 5, .int .i64 9, .int .i64 13] w fun e w' =>
      e = .returned (.tuple #[]) ∧ w'.ownsRow base 22 1 (.slice (some ⟨g, 0, none⟩) 16 cap) 16 (nums .u32 (quarter l 1 5 9 13)) ∧ w.grownBy w' (some g) :=
  rquarter_any base g cap 1 5 9 13 l w hl (by omega) (by omega) (by omega) (by omega) h hr
theorem rq_2_6_10_14 (base g cap : Nat) (l : List Int) (w : World) (hl : l.length = 16) (h : w.ownsRow base 22 1 (.slice (some ⟨g, 0, none⟩) 16 cap) 16 (nums .u32 l)) (hr : U32s l) :
    Calls Try.prog 25 #[.slice (some ⟨g, 0, none⟩) 16 cap, .int .i64 2, .int .i64 6, .int .i64 10, .int .i64 14] w fun e w' =>
      e = .returned (.tuple #[]) ∧ w'.ownsRow base 22 1 (.slice (some ⟨g, 0, none⟩) 16 cap) 16 (nums .u32 (quarter l 2 6 10 14)) ∧ w.grownBy w' (some g) :=
  rquarter_any base g cap 2 6 10 14 l w hl (by omega) (by omega) (by omega) (by omega) h hr
theorem rq_3_7_11_15 (base g cap : Nat) (l : List Int) (w : World) (hl : l.length = 16) (h : w.ownsRow base 22 1 (.slice (some ⟨g, 0, none⟩) 16 cap) 16 (nums .u32 l)) (hr : U32s l) :
    Calls Try.prog 25 #[.slice (some ⟨g, 0, none⟩) 16 cap, .int .i64 3, .int .i64 7, .int .i64 11, .int .i64 15] w fun e w' =>
      e = .returned (.tuple #[]) ∧ w'.ownsRow base 22 1 (.slice (some ⟨g, 0, none⟩) 16 cap) 16 (nums .u32 (quarter l 3 7 11 15)) ∧ w.grownBy w' (some g) :=
  rquarter_any base g cap 3 7 11 15 l w hl (by omega) (by omega) (by omega) (by omega) h hr
theorem rq_0_5_10_15 (base g cap : Nat) (l : List Int) (w : World) (hl : l.length = 16) (h : w.ownsRow base 22 1 (.slice (some ⟨g, 0, none⟩) 16 cap) 16 (nums .u32 l)) (hr : U32s l) :
    Calls Try.prog 25 #[.slice (some ⟨g, 0, none⟩) 16 cap, .int .i64 0, .int .i64 5, .int .i64 10, .int .i64 15] w fun e w' =>
      e = .returned (.tuple #[]) ∧ w'.ownsRow base 22 1 (.slice (some ⟨g, 0, none⟩) 16 cap) 16 (nums .u32 (quarter l 0 5 10 15)) ∧ w.grownBy w' (some g) :=
  rquarter_any base g cap 0 5 10 15 l w hl (by omega) (by omega) (by omega) (by omega) h hr
theorem rq_1_6_11_12 (base g cap : Nat) (l : List Int) (w : World) (hl : l.length = 16) (h : w.ownsRow base 22 1 (.slice (some ⟨g, 0, none⟩) 16 cap) 16 (nums .u32 l)) (hr : U32s l) :
    Calls Try.prog 25 #[.slice (some ⟨g, 0, none⟩) 16 cap, .int .i64 1, .int .i64 6, .int .i64 11, .int .i64 12] w fun e w' =>
      e = .returned (.tuple #[]) ∧ w'.ownsRow base 22 1 (.slice (some ⟨g, 0, none⟩) 16 cap) 16 (nums .u32 (quarter l 1 6 11 12)) ∧ w.grownBy w' (some g) :=
  rquarter_any base g cap 1 6 11 12 l w hl (by omega) (by omega) (by omega) (by omega) h hr
theorem rq_2_7_8_13 (base g cap : Nat) (l : List Int) (w : World) (hl : l.length = 16) (h : w.ownsRow base 22 1 (.slice (some ⟨g, 0, none⟩) 16 cap) 16 (nums .u32 l)) (hr : U32s l) :
    Calls Try.prog 25 #[.slice (some ⟨g, 0, none⟩) 16 cap, .int .i64 2, .int .i64 7, .int .i64 8, .int .i64 13] w fun e w' =>
      e = .returned (.tuple #[]) ∧ w'.ownsRow base 22 1 (.slice (some ⟨g, 0, none⟩) 16 cap) 16 (nums .u32 (quarter l 2 7 8 13)) ∧ w.grownBy w' (some g) :=
  rquarter_any base g cap 2 7 8 13 l w hl (by omega) (by omega) (by omega) (by omega) h hr
theorem rq_3_4_9_14 (base g cap : Nat) (l : List Int) (w : World) (hl : l.length = 16) (h : w.ownsRow base 22 1 (.slice (some ⟨g, 0, none⟩) 16 cap) 16 (nums .u32 l)) (hr : U32s l) :
    Calls Try.prog 25 #[.slice (some ⟨g, 0, none⟩) 16 cap, .int .i64 3, .int .i64 4, .int .i64 9, .int .i64 14] w fun e w' =>
      e = .returned (.tuple #[]) ∧ w'.ownsRow base 22 1 (.slice (some ⟨g, 0, none⟩) 16 cap) 16 (nums .u32 (quarter l 3 4 9 14)) ∧ w.grownBy w' (some g) :=
  rquarter_any base g cap 3 4 9 14 l w hl (by omega) (by omega) (by omega) (by omega) h hr

/-- two rows of the call's own: the first words, the words that are turned -/
structure Two (B gf cf gx cx : Nat) (I X : List Int) (w w' : World) : Prop where
  f : w'.ownsRow B 22 1 (.slice (some ⟨gf, 0, none⟩) 16 cf) 16 (nums .u32 I)
  x : w'.ownsRow B 22 1 (.slice (some ⟨gx, 0, none⟩) 16 cx) 16 (nums .u32 X)
  ne : gf ≠ gx
  hx : B ≤ gx
  bel : Below B w w'
  lt : B ≤ w'.heap.size
theorem Two.quarter {B gf cf gx cx : Nat} {I X X' : List Int} {w w' w2 : World} (h : Two B gf cf gx cx I X w w') (hx : w2.ownsRow B 22 1 (.slice (some ⟨gx, 0, none⟩) 16 cx) 16 (nums .u32 X')) (hg : w'.grownBy w2 (some gx)) : Two B gf cf gx cx I X' w w2 :=
  ⟨h.f.kept hg (.inr (by simp [Value.ownBlock]; exact h.ne)), hx, h.ne, h.hx, h.bel.grown hg h.lt (fun k hk => by injection hk with hk; have := h.hx; omega), Nat.le_trans h.lt hg.size⟩
theorem str_append (a b : List Int) : strOfNums a ++ strOfNums b = strOfNums (a ++ b) := by
  apply bytesOf_inj
  rw [bytesOf_append]
  simp [bytesOf, strOfNums]
theorem block_step (I : List Int) (k : Nat) (hk : k < 16) : strOfNums ((blockL I).take (4 * k)) ++ strOfNums (lowL ((el (rounds 10 I) k + el I k) % 4294967296) 4) = strOfNums ((blockL I).take (4 * (k + 1))) := by
  rw [str_append]
  congr 1
  have hl := blockL_len I
  apply ext_el
  · simp [hl, lowL_len]; omega
  · intro i hi
    have hi2 : i < 4 * k + 4 := by simp [hl, lowL_len] at hi; omega
    have hlt : ((blockL I).take (4 * k)).length = 4 * k := by simp [hl]; omega
    by_cases h : i < 4 * k
    · rw [el_app_l _ _ _ (by omega), el_take _ _ _ h, el_take _ _ _ (by omega)]
    · rw [el_app_r _ _ _ (by omega), el_take _ _ _ (by omega), blockL_el _ _ (by omega), hlt, show i / 4 = k from by omega, show i % 4 = i - 4 * k from by omega]
      obtain h | h | h | h : i - 4 * k = 0 ∨ i - 4 * k = 1 ∨ i - 4 * k = 2 ∨ i - 4 * k = 3 := by omega
      all_goals (rw [h]; rfl)
theorem U32s_init {key nonce : List Int} {ctr : Int} (hk : Byt key) (hn : Byt nonce) (hc : 0 ≤ ctr) (hc1 : ctr ≤ 4294967295) : U32s (initL key ctr nonce) := by
  have hw : ∀ (l : List Int) (i : Nat), Byt l → 0 ≤ w4 l i ∧ w4 l i ≤ 4294967295 := fun l i h => le4_range _ _ _ _ (h.el _) (h.el _) (h.el _) (h.el _)
  intro x hx
  simp only [initL, List.mem_append, List.mem_map, List.mem_singleton] at hx
  rcases hx with ((⟨i, _, rfl⟩ | ⟨i, _, rfl⟩) | rfl) | ⟨i, _, rfl⟩
  · exact hw _ _ (Byt.of _)
  · exact hw _ _ hk
  · exact ⟨hc, hc1⟩
  · exact hw _ _ hn

set_option maxRecDepth 100000 in
set_option maxHeartbeats 2000000 in
theorem rblock_any (key nonce : ByteArray) (ctr : Int) (w : World) (hk : key.size = 32) (hn : nonce.size = 12) (hc : 0 ≤ ctr) (hc1 : ctr ≤ 4294967295) :
    Calls Try.prog 11 #[.string key, .int .u32 ctr, .string nonce] w fun e w' =>
      e = .returned (.string (strOfNums (blockL (initL (bytesOf key) ctr (bytesOf nonce))))) ∧ Below w.heap.size w w' := by
  have b1 : key.size ≤ 32 := by omega
  have b2 : nonce.size ≤ 12 := by omega
  have b3 : (strOfNums (lowL ctr 4)).size ≤ 4 := by rw [size_str, lowL_len]; omega
  have HK := Go.Lib.hid hk
  have HN := Go.Lib.hid hn
  clear hk hn
  have hb0 := Below.refl w.heap.size w
  go_enter Try.func11, Try.ntmps11
  go_wp2_with (first
    | (go_at_call 23; refine (rlow4 _ _ (by omega) (by omega)).mono ?_; rintro e w1 ⟨rfl, hb1⟩))
  obtain ⟨S, hS⟩ : ∃ S, S = (⟨#[101, 120, 112, 97, 110, 100, 32, 51, 50, 45, 98, 121, 116, 101, 32, 107]⟩ : ByteArray) ++ key ++ strOfNums (lowL ctr 4) ++ nonce := ⟨_, rfl⟩
  rw [← hS]
  have hSb : bytesOf S = allL (bytesOf key) ctr (bytesOf nonce) := by
    rw [hS]; simp only [bytesOf_append, bytesOf_str (lowL_byt _ _), allL]; rfl
  have hSs : S.size = 64 := by rw [size_bytesOf, hSb, allL_len _ _ _ (by rw [bytesOf_length, HK.out]) (by rw [bytesOf_length, HN.out])]
  obtain ⟨I, hI⟩ : ∃ I, I = initL (bytesOf key) ctr (bytesOf nonce) := ⟨_, rfl⟩
  have hw : Hid (∀ i, i < 16 → w4 (bytesOf S) (4 * i) = el I i) := Go.Lib.hid (fun i hi => by
    rw [hSb, hI, allL_w4 _ _ _ (by rw [bytesOf_length, HK.out]) (by rw [bytesOf_length, HN.out]) hc hc1 i hi])
  have hIl : Hid (I.length = 16) := Go.Lib.hid (by rw [hI, initL_len])
  replace hI := Go.Lib.hid hI
  obtain ⟨B, eB⟩ : ∃ B, B = w.heap.size := ⟨_, rfl⟩
  rw [← eB] at hb1
  have hBw : B ≤ w.heap.size := Nat.le_of_eq eB
  replace eB := Go.Lib.hid eB
  clear hS hSb hb0 b3
  replace hSs := Go.Lib.hid hSs
  have hO : Hid (w1.ownsRow B 22 1 (.slice none 0 0) (I.take 0).length (nums .u32 (I.take 0))) := Go.Lib.hid (by simpa [nums] using own_nil w1 B 22 1)
  go_loopw [8, 9] (fun v i wr => ∃ k : Nat, k ≤ 16 ∧ i = .int .i64 k ∧ Hid (wr.ownsRow B 22 1 v (I.take k).length (nums .u32 (I.take k))) ∧ Below B w wr) (fun _ i _ => 16 - (intOf i).toNat)
  case atStart => exact ⟨0, by omega, rfl, hO, hb1⟩
  case round =>
    obtain ⟨k, hk, rfl, hO, hb⟩ := hrel
    by_cases hlt : k < 16
    · have hbd : 4 * (k : Int) ≤ (S.size : Int) := by rw [hSs.out]; omega
      have hl4 : ((I.take k).length + 1) * 4 ≤ 140737488355328 := by rw [List.length_take, hIl.out]; omega
      have hbB : B ≤ wr.heap.size := Nat.le_trans hBw hb.size
      have hv : le4 (el (bytesOf (S.extract (4 * k) S.size)) 0) (el (bytesOf (S.extract (4 * k) S.size)) 1) (el (bytesOf (S.extract (4 * k) S.size)) 2) (el (bytesOf (S.extract (4 * k) S.size)) 3) = el I k := by
        rw [← hw.out k hlt, bytesOf_extract]
        exact w4_drop _ _ _ 0 (by rw [hSs.out]; omega)
      replace hv := Go.Lib.hid hv
      go_wp2_with (first
        | (go_at_call 24; go_must (refine (word_any _ _ (by rw [ByteArray.size_extract, hSs.out]; omega)).mono ?_; rintro e w2 ⟨rfl, m2, rfl⟩; rw [hv.out]))
        | (at_builtin; refine print_append_num (w0 := w) (W := wr.drewN _) B rfl (.tmp 28) (.tmp 34) 51 22 .u32 4 rfl Try.underlying51 info_u32 (by omega) _ (I.take k) _ rfl rfl hO.out (pw_below_drewN hb _) hbB hl4 ?_; intro v1 w3 ho3 hb3 hg3 hat3))
      go_roundw
      case rel => exact ⟨k + 1, by omega, by go_num, Go.Lib.hid (by rw [take_succ I k (by rw [hIl.out]; exact hlt)]; exact ho3), hb3⟩
      case measure => simp [intOf]; omega
    · obtain rfl : k = 16 := by omega
      rw [show ((16 : Nat) : Int) = 16 from rfl]
      rw [show I.take 16 = I from List.take_of_length_le (by rw [hIl.out]; omega)] at hO
      clear hb1
      replace hO := hO.out
      rw [hIl.out] at hO
      obtain ⟨gf, capf, hvf, hgf, hlf⟩ := hO.form (by omega)
      subst hvf
      have hOf := Go.Lib.hid hO
      clear hO
      have hbB : B ≤ wr.heap.size := Nat.le_trans hBw hb.size
      have HO0 := own_lit wr B 22 .u32 [] hbB (by simp)
      have HR := (own_reads' hOf.out).below (below_alloc (Below.refl _ wr) (.cells (nums .u32 []).toArray 22))
      have hb' := hb.alloc hbB (.cells (nums .u32 []).toArray 22)
      have hbase : B ≤ (wr.alloc (.cells (nums .u32 []).toArray 22)).heap.size := by simp; omega
      have HOf := (hOf.out.alloc (.cells (nums .u32 []).toArray 22))
      replace HO0 := Go.Lib.hid HO0
      replace HR := Go.Lib.hid HR
      replace HOf := Go.Lib.hid HOf
      go_wp2_with (at_builtin; go_must (refine print_append_row (w0 := w) (W := wr.alloc (.cells (nums .u32 []).toArray 22)) B rfl (.tmp 36) (.tmp 37) 51 22 .u32 4 rfl Try.underlying51 info_u32 (by omega) (.slice (some ⟨wr.heap.size, 0, none⟩) 0 0) [] I (some ⟨gf, 0, none⟩) 16 capf rfl rfl HO0.out HR.out hb' hbase (by simp) ?_; intro v2 w4 ho4 hb4 hg4 hat4; clear hbase hb' HO0 HR))
      simp only [List.nil_append] at ho4
      rw [hIl.out] at ho4
      obtain ⟨gx, capx, hvx, hgx, hlx⟩ := ho4.form (by omega)
      subst hvx
      have hne : gf ≠ gx := by
        rcases hat4 with h | ⟨b, h, hb2⟩
        · simp [Value.ownBlock] at h; omega
        · simp [Value.ownBlock] at h hb2; omega
      have hT : Two B gf capf gx capx I (rounds 0 I) w w4 := ⟨HOf.out.kept hg4 (.inr (by simp [Value.ownBlock]; omega)), ho4, hne, hgx, hb4, Nat.le_trans hBw hb4.size⟩
      have hIu : Hid (U32s I) := Go.Lib.hid (by rw [hI.out]; exact U32s_init (Byt.of _) (Byt.of _) hc hc1)
      clear hat4 hg4 ho4 hb4 HOf hOf hlx hlf hb hO hk hlt hw hSs
      go_loopw [11] (fun i wr => ∃ k : Nat, k ≤ 10 ∧ i = .int .i64 k ∧ Two B gf capf gx capx I (rounds k I) w wr) (fun i _ => 10 - (intOf i).toNat)
      case atStart => exact ⟨0, by omega, rfl, hT⟩
      case round =>
        obtain ⟨k, hk, rfl, hT⟩ := hrel
        by_cases hlt : k < 10
        · have hl0 : Hid ((rounds k I).length = 16) := Go.Lib.hid (by rw [rounds_len, hIl.out])
          have hu0 : Hid (U32s (rounds k I)) := Go.Lib.hid (rounds_u32 k hIu.out)
          go_wp2_with fail
          refine wp_loop_rounds 5 ?_
          rw [rounds_succ]
          go_wp2_with fail
          refine (rq_0_4_8_12 B gx capx _ _ hl0.out hT.x hu0.out).mono ?_
          rintro e v0 ⟨rfl, hx, hg⟩
          replace hT := hT.quarter hx hg
          have hl1 := Go.Lib.hid ((quarter_len _ 0 4 8 12).trans hl0.out)
          have hu1 := Go.Lib.hid (quarter_u32 hu0.out 0 4 8 12)
          clear hx hg
          go_wp2_with fail
          rw [rounds_succ]
          go_wp2_with fail
          refine (rq_1_5_9_13 B gx capx _ _ hl1.out hT.x hu1.out).mono ?_
          rintro e v1 ⟨rfl, hx, hg⟩
          replace hT := hT.quarter hx hg
          have hl2 := Go.Lib.hid ((quarter_len _ 1 5 9 13).trans hl1.out)
          have hu2 := Go.Lib.hid (quarter_u32 hu1.out 1 5 9 13)
          clear hx hg
          go_wp2_with fail
          rw [rounds_succ]
          go_wp2_with fail
          refine (rq_2_6_10_14 B gx capx _ _ hl2.out hT.x hu2.out).mono ?_
          rintro e v2 ⟨rfl, hx, hg⟩
          replace hT := hT.quarter hx hg
          have hl3 := Go.Lib.hid ((quarter_len _ 2 6 10 14).trans hl2.out)
          have hu3 := Go.Lib.hid (quarter_u32 hu2.out 2 6 10 14)
          clear hx hg
          go_wp2_with fail
          rw [rounds_succ]
          go_wp2_with fail
          refine (rq_3_7_11_15 B gx capx _ _ hl3.out hT.x hu3.out).mono ?_
          rintro e v3 ⟨rfl, hx, hg⟩
          replace hT := hT.quarter hx hg
          have hl4 := Go.Lib.hid ((quarter_len _ 3 7 11 15).trans hl3.out)
          have hu4 := Go.Lib.hid (quarter_u32 hu3.out 3 7 11 15)
          clear hx hg
          go_wp2_with fail
          rw [rounds_succ]
          go_wp2_with fail
          go_wp2_with fail
          refine wp_loop_rounds 5 ?_
          rw [rounds_succ]
          go_wp2_with fail
          refine (rq_0_5_10_15 B gx capx _ _ hl4.out hT.x hu4.out).mono ?_
          rintro e v4 ⟨rfl, hx, hg⟩
          replace hT := hT.quarter hx hg
          have hl5 := Go.Lib.hid ((quarter_len _ 0 5 10 15).trans hl4.out)
          have hu5 := Go.Lib.hid (quarter_u32 hu4.out 0 5 10 15)
          clear hx hg
          go_wp2_with fail
          rw [rounds_succ]
          go_wp2_with fail
          refine (rq_1_6_11_12 B gx capx _ _ hl5.out hT.x hu5.out).mono ?_
          rintro e v5 ⟨rfl, hx, hg⟩
          replace hT := hT.quarter hx hg
          have hl6 := Go.Lib.hid ((quarter_len _ 1 6 11 12).trans hl5.out)
          have hu6 := Go.Lib.hid (quarter_u32 hu5.out 1 6 11 12)
          clear hx hg
          go_wp2_with fail
          rw [rounds_succ]
          go_wp2_with fail
          refine (rq_2_7_8_13 B gx capx _ _ hl6.out hT.x hu6.out).mono ?_
          rintro e v6 ⟨rfl, hx, hg⟩
          replace hT := hT.quarter hx hg
          have hl7 := Go.Lib.hid ((quarter_len _ 2 7 8 13).trans hl6.out)
          have hu7 := Go.Lib.hid (quarter_u32 hu6.out 2 7 8 13)
          clear hx hg
          go_wp2_with fail
          rw [rounds_succ]
          go_wp2_with fail
          refine (rq_3_4_9_14 B gx capx _ _ hl7.out hT.x hu7.out).mono ?_
          rintro e v7 ⟨rfl, hx, hg⟩
          replace hT := hT.quarter hx hg
          have hl8 := Go.Lib.hid ((quarter_len _ 3 4 9 14).trans hl7.out)
          have hu8 := Go.Lib.hid (quarter_u32 hu7.out 3 4 9 14)
          clear hx hg
          go_wp2_with fail
          rw [rounds_succ]
          go_wp2_with fail
          go_roundw
          case rel => exact ⟨k + 1, by omega, by go_num, hT⟩
          case measure => simp [intOf]; omega
        · obtain rfl : k = 10 := by omega
          rw [show ((10 : Nat) : Int) = 10 from rfl]
          go_wp2_with fail
          obtain ⟨R, eR⟩ : ∃ R, R = blockL I := ⟨_, rfl⟩
          obtain ⟨X, eX⟩ : ∃ X, X = rounds 10 I := ⟨_, rfl⟩
          rw [← eX] at hT
          have hRl : Hid (R.length = 64) := Go.Lib.hid (by rw [eR, blockL_len])
          have hRk : Hid (∀ k, k < 16 → strOfNums (R.take (4 * k)) ++ strOfNums (lowL ((el X k + el I k) % 4294967296) 4) = strOfNums (R.take (4 * (k + 1)))) := Go.Lib.hid (fun k hk => by rw [eR, eX]; exact block_step I k hk)
          have hXu : Hid (U32s X) := Go.Lib.hid (by rw [eX]; exact rounds_u32 10 hIu.out)
          have ER := Go.Lib.hid eR
          clear eR eX
          go_loopw [14, 15] (fun s i wr => ∃ k : Nat, k ≤ 16 ∧ i = .int .i64 k ∧ s = .string (strOfNums (R.take (4 * k))) ∧ Two B gf capf gx capx I X w wr) (fun _ i _ => 16 - (intOf i).toNat)
          case atStart => exact ⟨0, by omega, rfl, by simp [strOfNums], hT⟩
          case round =>
            obtain ⟨k, hk, rfl, rfl, hT⟩ := hrel
            by_cases hlt : k < 16
            · have cx := own_cell hT.x k hlt
              have cf := own_cell hT.f k hlt
              have ik : (k : Int) < 16 := by omega
              go_wp2_with fail
              have hsz : ¬ 9223372036854775807 < (strOfNums (R.take (4 * k))).size + (strOfNums (lowL ((el X k + el I k) % 4294967296) 4)).size := by rw [size_str, size_str, lowL_len, List.length_take, hRl.out]; omega
              obtain ⟨T, f, neT, hf, hs⟩ := class_type (fun w' => Below wr.heap.size wr w') wr (Below.refl _ _)
              have lx : ∀ s : T, (f s).cell? ⟨gx, k, none⟩ = some (.int .u32 (el X k)) := fun s => pw_cell_below (hf s) cx
              have lf : ∀ s : T, (f s).cell? ⟨gf, k, none⟩ = some (.int .u32 (el I k)) := fun s => pw_cell_below (hf s) cf
              have hwrap' : IntKind.u64.wrap (IntKind.u32.wrap (el X k + el I k)) = (el X k + el I k) % 4294967296 := by rw [IntKind.wrap_u32, IntKind.wrap_u64]; omega
              replace hwrap' := Go.Lib.hid hwrap'
              clear cx cf
              refine wp_region_quiet (C := fun w' => ∃ s : T, w' = f s) (by kernel_rfl) (by kernel_rfl) (hs _ (below_drew (Below.refl _ _))) ?_
              simp only [List.toList_toArray]
              repeat quiet_step ((rw [hwrap'.out]; exact (rlow4 _ _ (by omega) (by omega)).mono fun e w'' h => ⟨h.1, hs _ (below_then (hf _) (hf _).size h.2)⟩))
              refine wpQuiet_nil ?_
              rintro _ ⟨s, rfl⟩
              have hfs := hf s
              clear lx lf
              generalize f s = w9 at hfs ⊢
              go_wp2_with fail
              go_roundw
              case rel =>
                refine ⟨k + 1, by omega, by go_num, by rw [hRk.out k hlt], ?_⟩
                exact ⟨pw_own_below hT.f hfs, pw_own_below hT.x hfs, hT.ne, hT.hx, hT.bel.trans (hfs.mono hT.lt), Nat.le_trans hT.lt hfs.size⟩
              case measure => simp [intOf]; omega
            · obtain rfl : k = 16 := by omega
              go_wp2_with fail
              go_ret
              refine ⟨?_, by rw [← eB.out]; exact hT.bel⟩
              rw [← hI.out, ← ER.out, show R.take (4 * 16) = R from List.take_of_length_le (by rw [hRl.out]; omega)]
              rfl
end Go.Proofs.Ytdocbmgledebaaa
