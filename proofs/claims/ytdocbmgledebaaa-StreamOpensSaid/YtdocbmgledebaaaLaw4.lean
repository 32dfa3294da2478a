/-
  The law StreamOpens: the walk.
-/
import Derived.Test.YtdocbmgledebaaaO1
import Derived.Test.YtdocbmgledebaaaLaw1
namespace Go.Proofs.Ytdocbmgledebaaa
set_option linter.unusedVariables false
set_option linter.unusedSimpArgs false
open Go.RowKit Go.Proofs.YtdocbmgledebaaaW.PrintWords

/-- the first n bytes of a text, filled with noughts -/
def cutL (n : Nat) (s : List Int) : List Int := s.take (Nat.min s.length n) ++ (List.replicate n 0).drop (Nat.min s.length n)
theorem cutL_len (n : Nat) (s : List Int) : (cutL n s).length = n := by
  have : Nat.min s.length n ≤ n := Nat.min_le_right _ _
  have : Nat.min s.length n ≤ s.length := Nat.min_le_left _ _
  simp only [cutL, List.length_append, List.length_take, List.length_drop, List.length_replicate]
  omega
theorem cutL_byt (n : Nat) {s : List Int} (h : Byt s) : Byt (cutL n s) := fun x hx => by
  simp only [cutL, List.mem_append] at hx
  rcases hx with hx | hx
  · exact h x (List.mem_of_mem_take hx)
  · have := List.mem_of_mem_drop hx
    simp at this
    omega

theorem own_ptr {w : World} {base n : Nat} {e : TypeId} {v : Value} {l : List Value} (h : w.ownsRow base e 1 v n l) (hn : 0 < n) : ∃ g c, v = .slice (some ⟨g, 0, none⟩) n c ∧ base ≤ g ∧ n ≤ c ∧ g < w.heap.size := by
  obtain ⟨_, ⟨_, h2⟩ | ⟨g', cap', cur, h3, h4, h5, h6, _⟩⟩ := h
  · omega
  · exact ⟨g', cap', h3, h4, h6, (Array.getElem?_eq_some_iff.1 h5).1⟩

set_option maxRecDepth 100000 in
set_option maxHeartbeats 4000000 in
theorem law_opens (key nonce beside text : ByteArray) (at_ by_ : Int) (w : World) (ha0 : -9223372036854775808 ≤ at_) (ha1 : at_ ≤ 9223372036854775807) (hb0 : -9223372036854775808 ≤ by_) (hb1 : by_ ≤ 9223372036854775807) :
    Calls Try.prog 6 #[.string key, .string nonce, .string beside, .string text, .int .i64 at_, .int .i64 by_] w fun e w' => e = .returned (.bool true) ∧ Below w.heap.size w w' := by
  by_cases h1 : (65536 : Int) < (text.size : Int)
  · go_enter Try.func6, Try.ntmps6
    go_wp2_with fail
    go_ret
    exact ⟨rfl, Below.refl _ _⟩
  by_cases h2 : (65536 : Int) < (beside.size : Int)
  · go_enter Try.func6, Try.ntmps6
    go_wp2_with fail
    go_ret
    exact ⟨rfl, Below.refl _ _⟩
  have t3 : beside.size ≤ 200000 := by omega
  have t4 : text.size ≤ 65536 := by omega
  have kb := fun s W => print_bytes (P := Try.prog) 9 23 5 Try.underlying9 Try.underlying23 Try.underlying5 s W
  have hm1 := print_make (P := Try.prog) 23 5 .u8 1 Try.underlying23 info_b8 (by omega) 32 (by omega)
  have hm2 := print_make (P := Try.prog) 23 5 .u8 1 Try.underlying23 info_b8 (by omega) 12 (by omega)
  rw [show ((32 : Nat) : Int) = 32 from rfl] at hm1
  rw [show ((12 : Nat) : Int) = 12 from rfl] at hm2
  have bk := Blk.made w .u8 5 32
  have hbel0 : Below w.heap.size w (w.alloc (.cells (madeCells #[.int .u8 0] 32) 5)) := (Below.refl _ _).alloc (Nat.le_refl _) _
  obtain ⟨gk, egk⟩ : ∃ gk, gk = w.heap.size := ⟨_, rfl⟩
  replace ha0 := Go.Lib.hid ha0
  replace ha1 := Go.Lib.hid ha1
  replace hb0 := Go.Lib.hid hb0
  replace hb1 := Go.Lib.hid hb1
  replace egk := Go.Lib.hid egk
  go_enter Try.func6, Try.ntmps6
  go_wp2_with (first
    | (refine ev_copystr2 rfl (.tmp 34) (.tmp 35) 23 9 rfl 5 Try.underlying23 infos_u8 _ rfl rfl bk rfl (by simp) ?_; intro w1 k1 b1; clear bk; have bn := Blk.made w1 .u8 5 12)
    | (refine ev_copystr2 rfl (.tmp 38) (.tmp 39) 23 9 rfl 5 Try.underlying23 infos_u8 _ rfl rfl bn rfl (by simp) ?_; intro w2 k2 b2; clear bn))
  have s0 := k1.size
  have s1 := k2.size
  have hbel1 : Below w.heap.size w w1 := k1.bel hbel0 (by simp) (Nat.le_refl _)
  have hle1 := hbel1.size
  have hsz1 : w.heap.size < w1.heap.size := by simp at s0; omega
  have hbel2 : Below w.heap.size w w2 := k2.bel (hbel1.alloc hle1 _) (by simp; omega) hle1
  have b1' : Blk w2 w.heap.size .u8 5 _ := k2.blk (b1.alloc _) (by omega)
  obtain ⟨K, eK⟩ : ∃ K, K = cutL 32 (bytesOf key) := ⟨_, rfl⟩
  obtain ⟨N, eN⟩ : ∃ N, N = cutL 12 (bytesOf nonce) := ⟨_, rfl⟩
  have e1 : List.take (key.size.min 32) (bytesOf key) ++ List.drop (key.size.min 32) (List.replicate 32 0) = K := by rw [eK, cutL, bytesOf_length]
  have e2 : List.take (nonce.size.min 12) (bytesOf nonce) ++ List.drop (nonce.size.min 12) (List.replicate 12 0) = N := by rw [eN, cutL, bytesOf_length]
  rw [e1] at b1'
  rw [e2] at b2
  have hKl : K.length = 32 := by rw [eK, cutL_len]
  have hNl : N.length = 12 := by rw [eN, cutL_len]
  have hKb : Hid (Byt K) := Go.Lib.hid (by rw [eK]; exact cutL_byt _ (Byt.of _))
  have hNb : Hid (Byt N) := Go.Lib.hid (by rw [eN]; exact cutL_byt _ (Byt.of _))
  have rK := Go.Lib.hid (rd_len (b1'.reads (by omega)) hKl)
  have rN := Go.Lib.hid (rd_len (b2.reads (by omega)) hNl)
  clear b1 k1 k2 hbel0 hbel1 b1' b2 e1 e2 eK eN hKl hNl s0 s1
  generalize w1.heap.size = gn at *
  have tb := two_bel w2 beside text
  refine (pseal_yes _ _ _ _ _ _ _ _ _ _ K N (bytesOf beside) (bytesOf text) _ (rK.out.below tb) (rN.out.below tb) (two_key w2 beside text rfl (by omega)) (two_nonce w2 beside text rfl (by omega)) hKb.out hNb.out (Byt.of _) (by omega) (by omega) t3 (by omega)).mono ?_
  rintro e w3 ⟨vs, rfl, hos, hb3⟩
  obtain ⟨S, eS⟩ : ∃ S, S = sealL K N (bytesOf beside) (bytesOf text) := ⟨_, rfl⟩
  rw [← eS] at hos
  have hSl : S.length = text.size + 16 := by rw [eS, sealL_len, bytesOf_length]
  have hSb : Hid (Byt S) := Go.Lib.hid (by rw [eS]; exact sealL_byt _ _ _ _)
  have hSo : Hid (openB K N (bytesOf beside) S = true) := Go.Lib.hid (by rw [eS]; exact open_seal _ _ _ _)
  have hSt : Hid (openL K N S = bytesOf text) := Go.Lib.hid (by rw [eS]; exact openL_seal _ _ _ _ (Byt.of _))
  replace hos := own_cast (own_weaken hos tb.size) rfl hSl
  replace hSl := Go.Lib.hid hSl
  replace eS := Go.Lib.hid eS
  replace hb3 := below_then tb tb.size hb3
  obtain ⟨As, cs, rfl, hcs, hrs⟩ := own_slice hos
  replace hrs := Go.Lib.hid hrs
  replace rK := Go.Lib.hid (rK.out.below hb3)
  replace rN := Go.Lib.hid (rN.out.below hb3)
  replace hbel2 := below_then hbel2 hbel2.size hb3
  clear tb hos hb3 hm1 hm2
  have q0 : (((text.size : Int) + 16) != ((text.size : Int) + 16)) = false := by simp
  have q00 : (((text.size + 16 : Nat) : Int) != ((text.size : Int) + 16)) = false := by simp
  go_wp2_with fail
  have ob := one_bel w3 beside
  refine (popen_any _ _ _ _ _ _ _ _ _ _ K N (bytesOf beside) S _ (rK.out.below ob) (rN.out.below ob) (one_key w3 beside rfl (by omega)) (hrs.out.below ob) hKb.out hNb.out (Byt.of _) hSb.out (by omega) (by omega) hcs t3 (by omega)).mono ?_
  rintro e w4 ⟨vt, ct, rfl, hot, hb4⟩
  rcases hot with ⟨_, rfl, hot⟩ | ⟨hno, _⟩
  rotate_left
  · rw [hSo.out] at hno; cases hno
  rw [hSt.out] at hot
  obtain ⟨At, c4, rfl, hrt⟩ := own_reads hot
  have qt := str_readsP (P := Try.prog) (src := 23) (dst := 9) Try.underlying23 Try.underlying5 Try.underlying9 c4 hrt
  rw [strOf_bytes] at qt
  have qtt : (text.toList == text.toList) = true := by simp
  replace hb4 := below_then ob ob.size hb4
  replace rK := Go.Lib.hid (rK.out.below hb4)
  replace rN := Go.Lib.hid (rN.out.below hb4)
  replace hrs := Go.Lib.hid (hrs.out.below hb4)
  replace hbel2 := below_then hbel2 hbel2.size hb4
  clear ob hot hrt hb4
  have HO0 := Go.Lib.hid (own_lit w4 w4.heap.size 5 .u8 [] (Nat.le_refl _) (by simp))
  have HB0 : Below w4.heap.size w4 (w4.alloc (.cells (nums .u8 []).toArray 5)) := (Below.refl _ _).alloc (Nat.le_refl _) _
  have HR0 := Go.Lib.hid (hrs.out.below HB0)
  have hz4 : w4.heap.size ≤ (w4.alloc (.cells (nums .u8 []).toArray 5)).heap.size := by simp
  have hlen : (([] : List Int).length + (text.size + 16)) * 1 ≤ 140737488355328 := by simp; omega
  obtain ⟨aN, haN⟩ : ∃ aN : Nat, (at_ < 0 ∧ -(at_ + 1) = (aN : Int)) ∨ (0 ≤ at_ ∧ at_ = (aN : Int)) := by
    rcases Int.lt_or_le at_ 0 with h | h
    · exact ⟨(-(at_ + 1)).toNat, .inl ⟨h, by omega⟩⟩
    · exact ⟨at_.toNat, .inr ⟨h, by omega⟩⟩
  obtain ⟨bN, hbN⟩ : ∃ bN : Nat, (by_ < 0 ∧ -(by_ + 1) = (bN : Int)) ∨ (0 ≤ by_ ∧ by_ = (bN : Int)) := by
    rcases Int.lt_or_le by_ 0 with h | h
    · exact ⟨(-(by_ + 1)).toNat, .inl ⟨h, by omega⟩⟩
    · exact ⟨by_.toNat, .inr ⟨h, by omega⟩⟩
  have haM : (aN : Int) ≤ 9223372036854775807 := by have := ha0.out; have := ha1.out; omega
  have hbM : (bN : Int) ≤ 9223372036854775807 := by have := hb0.out; have := hb1.out; omega
  have wa : at_ < 0 → IntKind.i64.wrap (at_ + 1) = at_ + 1 := fun h => by have := ha0.out; rw [IntKind.wrap_i64]; omega
  have wb : by_ < 0 → IntKind.i64.wrap (by_ + 1) = by_ + 1 := fun h => by have := hb0.out; rw [IntKind.wrap_i64]; omega
  have wa2 : IntKind.i64.wrap (aN : Int) = (aN : Int) := by rw [IntKind.wrap_i64]; omega
  have wb2 : IntKind.i64.wrap (bN : Int) = (bN : Int) := by rw [IntKind.wrap_i64]; omega
  replace haN := Go.Lib.hid haN
  replace hbN := Go.Lib.hid hbN
  rcases haN.out with ⟨ha, ea⟩ | ⟨ha, rfl⟩
  all_goals
    rcases hbN.out with ⟨hb, eb⟩ | ⟨hb, rfl⟩
    all_goals
      first | have wa := wa ha | skip
      first | have wb := wb hb | skip
      go_wp2_with (at_builtin; refine print_append_row (w0 := w4) (W := w4.alloc (.cells (nums .u8 []).toArray 5)) w4.heap.size rfl (.tmp 88) (.tmp 89) 23 5 .u8 1 rfl Try.underlying23 info_b8 (by omega) (.slice (some ⟨w4.heap.size, 0, none⟩) 0 0) [] S As (text.size + 16) cs rfl rfl HO0.out HR0.out HB0 hz4 hlen ?_; intro v5 w5 ho5 hb5 hg5 hat5; simp only [List.nil_append] at ho5; replace ho5 := Go.Lib.hid ho5)
      have ho5' := own_cast ho5.out rfl hSl.out
      obtain ⟨g5, c5, rfl, hg5', hc5, hlt5⟩ := own_ptr ho5' (by omega)
      obtain ⟨i, ei⟩ : ∃ i, i = aN % (text.size + 16) := ⟨_, rfl⟩
      have hi : i < text.size + 16 := by rw [ei]; exact Nat.mod_lt _ (by omega)
      have hmod : (aN : Int).tmod ((text.size : Int) + 16) = (i : Int) := by rw [Int.tmod_eq_emod_of_nonneg (by omega), ei]; simp
      have hz16 : ¬ ((text.size : Int) + 16 = 0) := by omega
      have ilt : (i : Int) < (text.size : Int) + 16 := by omega
      obtain ⟨d, ed⟩ : ∃ d, d = bN % 255 := ⟨_, rfl⟩
      have hd : d ≤ 254 := by omega
      have hd' : (d : Int) ≤ 254 := by omega
      have hmod2 : (bN : Int).tmod 255 = (d : Int) := by rw [Int.tmod_eq_emod_of_nonneg (by omega), ed]; simp
      have hwd : IntKind.u8.wrap (1 + (d : Int)) = 1 + (d : Int) := by rw [IntKind.wrap_u8]; omega
      have hwd2 : IntKind.i64.wrap (1 + (d : Int)) = 1 + (d : Int) := by rw [IntKind.wrap_i64]; omega
      replace ed := Go.Lib.hid ed
      have ci := own_cell ho5' i hi
      have fi := own_frozen ho5' i
      replace ei := Go.Lib.hid ei
      have ho5'' := Go.Lib.hid ho5'
      clear hg5 hat5 ho5' ho5
      refine region_tail (C := fun w' => ∃ n, w' = w5.drewN n) 18 (by kernel_rfl) (by kernel_rfl) ⟨1, rfl⟩ ?_
      simp only [List.take_succ_cons, List.take_zero, List.drop_succ_cons, List.drop_zero]
      repeat quiet_step (fail)
      refine wpQuiet_nil ?_
      rintro _ ⟨nq, rfl⟩
      have hb5' := pw_below_drewN hb5 nq
      have ho6 := Go.Lib.hid (own_set (show (w5.drewN nq).ownsRow _ _ _ _ _ _ from ho5''.out) i (bits .xor .u8 (el S i) (1 + (d : Int))))
      have hb46 : Below w4.heap.size w4 ((w5.drewN nq).setCell ⟨g5, i, none⟩ (.int .u8 (bits .xor .u8 (el S i) (1 + (d : Int))))) := hb5'.setCell hg5' _
      have hcx : (bits .xor .u8 (el S i) (1 + (d : Int))) ≠ el S i := xor_ne _ _ (hSb.out.el i) (by omega)
      have hcr := bits_u8 .xor (el S i) (1 + (d : Int))
      go_wp2_with fail
      obtain ⟨w6, e6⟩ : ∃ w6, w6 = (w5.drewN nq).setCell ⟨g5, i, none⟩ (.int .u8 (bits .xor .u8 (el S i) (1 + (d : Int)))) := ⟨_, rfl⟩
      have h56 : w5.heap.size = w6.heap.size := by rw [e6]; simp
      rw [← e6] at ho6 hb46 ⊢
      rw [h56]
      obtain ⟨C, eC⟩ : ∃ C, C = S.set i (bits .xor .u8 (el S i) (1 + (d : Int))) := ⟨_, rfl⟩
      rw [← eC] at ho6
      have hCb : Hid (Byt C) := Go.Lib.hid (by rw [eC]; exact hSb.out.set i _ hcr)
      have hCS : Hid (C ≠ S) := Go.Lib.hid (fun e => hcx (by
        have h := el_set S i i (bits .xor .u8 (el S i) (1 + (d : Int)))
        rw [← eC, e, if_pos ⟨rfl, by rw [hSl.out]; exact hi⟩] at h
        exact h.symm))
      replace rK := Go.Lib.hid (rK.out.below hb46)
      replace rN := Go.Lib.hid (rN.out.below hb46)
      replace hbel2 := below_then hbel2 hbel2.size hb46
      replace eC := Go.Lib.hid eC
      replace hcx := Go.Lib.hid hcx
      obtain ⟨A6, c6, eA6, hc6, hr6⟩ := own_slice ho6.out
      injection eA6 with eA6 _ ec6
      subst eA6
      subst ec6
      replace hr6 := Go.Lib.hid hr6
      clear ho6 hb46 hb5 hb5' ho5'' ci fi hmod hmod2 hwd hwd2 e6 h56 hcr HO0 HB0 HR0 hz4 hlen hrs qtt qt hlt5 hg5'
      have ob := one_bel w6 beside
      refine (popen_any _ _ _ _ _ _ _ _ _ _ K N (bytesOf beside) C _ (rK.out.below ob) (rN.out.below ob) (one_key w6 beside rfl (by omega)) (hr6.out.below ob) hKb.out hNb.out (Byt.of _) hCb.out (by omega) (by omega) hc6 t3 (by omega)).mono ?_
      rintro e w7 ⟨vu, cu, rfl, hou, hb7⟩
      replace hb7 := below_then ob ob.size hb7
      replace rK := Go.Lib.hid (rK.out.below hb7)
      replace rN := Go.Lib.hid (rN.out.below hb7)
      replace hr6 := Go.Lib.hid (hr6.out.below hb7)
      replace hbel2 := below_then hbel2 hbel2.size hb7
      clear ob hb7
      have hend : ∀ (W : World) (ww : World), W = ww → True := fun _ _ _ => trivial
      rcases hou with ⟨hok, rfl, hou⟩ | ⟨hok, rfl, rfl⟩
      case' inl =>
        obtain ⟨Au, c7, rfl, hc7, hru⟩ := own_slice hou
        have hso := Go.Lib.hid (seal_open K N (bytesOf beside) C hCb.out hok)
        have hlo : (openL K N C).length ≤ 200000 := by rw [openL_len, hr6.out.1]; omega
        obtain ⟨U, eU⟩ : ∃ U, U = openL K N C := ⟨_, rfl⟩
        rw [← eU] at hru hlo ⊢
        replace hso : Hid (sealL K N (bytesOf beside) U = C) := Go.Lib.hid (by rw [eU]; exact hso.out)
        have hUb : Hid (Byt U) := Go.Lib.hid (by rw [eU]; exact turnL_byt _ _)
        have hut : Hid ((strOfNums U).toList == text.toList) = Hid False → True := fun _ => trivial
        have hU : ((strOfNums U).toList == text.toList) = false := by
          rw [beq_list, decide_eq_false_iff_not]
          intro e
          refine hCS.out ?_
          rw [← hso.out, eS.out]
          congr 1
          rw [← bytesOf_str hUb.out, e]
        replace hru := Go.Lib.hid hru
        replace eU := Go.Lib.hid eU
        clear hok hou hut hend
        go_wp2_with fail
        have ob := one_bel w7 beside
        refine (pseal_yes _ _ _ _ _ _ _ _ _ _ K N (bytesOf beside) U _ (rK.out.below ob) (rN.out.below ob) (one_key w7 beside rfl (by omega)) (hru.out.below ob) hKb.out hNb.out (Byt.of _) (by omega) (by omega) t3 hlo).mono ?_
        rintro e w8 ⟨vv, rfl, hov, hb8⟩
        replace hb8 := below_then ob ob.size hb8
        rw [hso.out] at hov
        obtain ⟨Av, c8, rfl, hrv⟩ := own_reads hov
        have q1 := str_readsP (P := Try.prog) (src := 23) (dst := 9) Try.underlying23 Try.underlying5 Try.underlying9 c8 hrv
        have q2 := str_readsP (P := Try.prog) (src := 23) (dst := 9) Try.underlying23 Try.underlying5 Try.underlying9 c5 (hr6.out.below hb8)
        have q3 := str_readsP (P := Try.prog) (src := 23) (dst := 9) Try.underlying23 Try.underlying5 Try.underlying9 c7 (hru.out.below hb8)
        have qcc : ((strOfNums C).toList == (strOfNums C).toList) = true := by simp
        replace rK := Go.Lib.hid (rK.out.below hb8)
        replace rN := Go.Lib.hid (rN.out.below hb8)
        replace hbel2 := below_then hbel2 hbel2.size hb8
        clear ob hb8 hov hrv hru
        go_wp2_with fail
      case' inr =>
        clear hok hend
        go_wp2_with fail
      all_goals
        refine (pturn_yes _ _ _ _ _ _ _ K N (bytesOf text) _ _ (rK.out.below (one_bel _ text)) (rN.out.below (one_bel _ text)) (one_key _ text rfl (by omega)) hKb.out hNb.out (by omega) (by omega) (by omega) (by omega) (by omega)).mono ?_
        rintro e w9 ⟨v9, rfl, ho9, hb9⟩
        replace hb9 := below_then (one_bel _ text) (one_bel _ text).size hb9
        obtain ⟨A9, c9, rfl, hc9, hr9⟩ := own_slice ho9
        replace hr9 := Go.Lib.hid hr9
        replace rK := Go.Lib.hid (rK.out.below hb9)
        replace rN := Go.Lib.hid (rN.out.below hb9)
        replace hbel2 := below_then hbel2 hbel2.size hb9
        clear ho9 hb9
        go_wp2_with fail
        refine (pturn_yes _ _ _ _ _ _ _ K N _ _ _ rK.out rN.out hr9.out hKb.out hNb.out (by omega) (by omega) (by omega) (by omega) (by omega)).mono ?_
        rintro e w10 ⟨v10, rfl, ho10, hb10⟩
        rw [turn_twice _ _ (Byt.of _)] at ho10
        obtain ⟨A10, c10, rfl, hr10⟩ := own_reads ho10
        have q10 := str_readsP (P := Try.prog) (src := 23) (dst := 9) Try.underlying23 Try.underlying5 Try.underlying9 c10 hr10
        rw [strOf_bytes] at q10
        have qtt : (text.toList == text.toList) = true := by simp
        replace hbel2 := below_then hbel2 hbel2.size hb10
        clear ho10 hr10 hb10
        go_wp2_with fail
        go_ret
        exact ⟨rfl, hbel2⟩
end Go.Proofs.Ytdocbmgledebaaa
