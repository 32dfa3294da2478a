/-
  Several texts in one.
-/
import Derived.Test.YtamfbmchamgddaaDoorMB
import Derived.Deep.MidRow
/-
  A product modulo a prime, walked.
-/
namespace Go.Proofs.YtamfbmchamgddaaDoor
set_option linter.unusedVariables false
set_option linter.unusedSimpArgs false
open Go.RowKit Go.Proofs.YtamfbmchamgddaaDoorW.PrintWords

set_option maxRecDepth 100000 in
set_option maxHeartbeats 2000000 in
theorem mul_any (p : Par) (hp : p.Ok) (gp : Nat) (A B : Int) (w : World) (hA : 0 ≤ A ∧ A < RR) (hB : 0 ≤ B ∧ B < p.M) (hb : Blk w gp .u64 55 p.mem) :
    Calls Tryd.prog 41 #[.pointer (some ⟨gp, 0, none⟩), arr (WN A), arr (WN B)] w fun e w' => e = .returned (arr (WN ((A * B * p.rinv) % p.M))) ∧ Below w.heap.size w w' := by
  have z53 : (Tryd.prog.info? 53).map (fun i => (i.zero, i.size)) = some (some (.agg ((List.replicate 4 (0 : Int)).map (Value.int .u64)).toArray), 4) := by kernel_rfl
  have z67 : (Tryd.prog.info? 67).map (fun i => (i.zero, i.size)) = some (some (.agg ((List.replicate 4 (0 : Int)).map (Value.int .u64)).toArray), 4) := by kernel_rfl
  have z85 : (Tryd.prog.info? 85).map (fun i => (i.zero, i.size)) = some (some (.agg ((List.replicate 6 (0 : Int)).map (Value.int .u64)).toArray), 6) := by kernel_rfl
  replace z53 := Go.Lib.hid z53
  replace z67 := Go.Lib.hid z67
  replace z85 := Go.Lib.hid z85
  obtain ⟨i51, hi51, hz51⟩ := Option.map_eq_some_iff.1 (show (Tryd.prog.info? 51).map (·.size) = some 1 by kernel_rfl)
  replace hi51 := Go.Lib.hid hi51
  replace hz51 := Go.Lib.hid hz51
  have vA := vW_WN A hA
  have vB := vW_WN B (by have := hp.hi; omega)
  have vM := vW_WN p.M (by have := hp.lo; have := hp.hi; omega)
  have hneg := Go.Lib.hid hp.hneg
  have hMr := Go.Lib.hid (And.intro hp.lo hp.hi)
  have hngw : Hid (Word p.neg) := Go.Lib.hid hp.neg
  obtain ⟨a, ea⟩ : ∃ a, a = WN A := ⟨_, rfl⟩
  obtain ⟨b, eb⟩ : ∃ b, b = WN B := ⟨_, rfl⟩
  obtain ⟨m, em⟩ : ∃ m, m = WN p.M := ⟨_, rfl⟩
  rw [← ea] at vA ⊢
  rw [← eb] at vB ⊢
  rw [← em] at vM
  have la : Hid (a.length = 4 ∧ DW a) := Go.Lib.hid (by rw [ea]; exact ⟨WN_len _, WN_dig _⟩)
  have lb : Hid (b.length = 4 ∧ DW b) := Go.Lib.hid (by rw [eb]; exact ⟨WN_len _, WN_dig _⟩)
  have lm : Hid (m.length = 4 ∧ DW m) := Go.Lib.hid (by rw [em]; exact ⟨WN_len _, WN_dig _⟩)
  have hBp := Go.Lib.hid hb
  have hgp := hb.lt
  obtain ⟨R, eR⟩ : ∃ R, R = WN ((A * B * p.rinv) % p.M) := ⟨_, rfl⟩
  rw [← eR]
  have hfin : Hid (∀ (r : List Int) (c z : Int), r.length = 4 → DW r → vW r < p.M → RR * (vW r + c * p.M) = A * B + z * p.M → r = R) := Go.Lib.hid (fun r c z h1 h2 h3 h4 => by
    rw [eR]
    exact WN_of h1 h2 (mul_end ⟨(vW_range h2).1, h3⟩ h4 hp.hr))
  have hRl : Hid (R.length = 4) := Go.Lib.hid (by rw [eR]; exact WN_len _)
  have hAB := Go.Lib.hid (And.intro hA hB)
  replace vA := Go.Lib.hid vA
  replace vB := Go.Lib.hid vB
  replace vM := Go.Lib.hid vM
  replace eR := Go.Lib.hid eR
  replace em := Go.Lib.hid em
  clear hA hB ea eb hb
  obtain ⟨ng, eng⟩ : ∃ ng, ng = p.neg := ⟨_, rfl⟩
  obtain ⟨M, eM⟩ : ∃ M, M = p.M := ⟨_, rfl⟩
  rw [← eng] at hneg hngw
  rw [← eM] at hneg hMr hfin hAB vM
  replace eng := Go.Lib.hid eng
  replace eM := Go.Lib.hid eM
  go_enter Tryd.func41, Tryd.ntmps41
  go_wp2_with (first
    | (refine ev_boxg (x := .tmp 1) rfl rfl rfl ?_; intro ga w1 h1 b1; change Blk w1 ga .u64 67 a at b1)
    | (refine ev_boxg (x := .tmp 2) rfl rfl rfl ?_; intro gb w2 h2 b2; change Blk w2 gb .u64 67 b at b2; replace b1 := h2.blk b1)
    | (refine ev_allocg (ty := 67) rfl rfl z67.out ?_; intro gr w3 h3 b3; change Blk w3 gr .u64 67 (List.replicate 4 0) at b3; replace b1 := h3.blk b1; replace b2 := h3.blk b2)
    | (refine ev_allocg (ty := 85) rfl rfl z85.out ?_; intro gt w4 h4 b4; change Blk w4 gt .u64 85 (List.replicate 6 0) at b4; replace b1 := h4.blk b1; replace b2 := h4.blk b2; replace b3 := h4.blk b3)
    | (refine ev_loadarr (x := .tmp 4) rfl rfl rfl b1 Tryd.underlying67 rfl (by rw [la.out.1]; kernel_rfl) ?_))
  have e1 := h1.le
  have e2 := h2.le
  have e3 := h3.le
  have e4 := h4.le
  have s1 := h1.size
  have s2 := h2.size
  have s3 := h3.size
  have s4 := h4.size
  have hbel4 : Below w.heap.size w w4 := h4.bel (h3.bel (h2.bel (h1.bel (Below.refl _ _) (Nat.le_refl _)) (by omega)) (by omega)) (by omega)
  have hgrt : gr < gt := by omega
  have hgr0 : w.heap.size ≤ gr := by omega
  have hO : Hid (∃ T : List Int, T.length = 6 ∧ DW T ∧ el T 5 = 0 ∧ (0 ≤ v6 T ∧ v6 T < 2 * M) ∧ (∃ z, 18446744073709551616 ^ 0 * v6 T = vW (a.take 0) * B + z * M) ∧ Blk w4 gr .u64 67 (List.replicate 4 0) ∧ Mm w.heap.size gt gb b T w w4) :=
    Go.Lib.hid ⟨_, by simp, Dig.zeros (by omega) 6, by simp [el], by have := hMr.out.1; simp [v6, vW, dL, el]; omega, ⟨0, by simp [v6, vW, dL, el]⟩, b3, ⟨b4, b2, by omega, by omega, by omega, hbel4⟩⟩
  clear h1 h2 h3 h4 b1 b2 b3 b4 e1 e2 e3 e4 s1 s2 s3 s4 hbel4
  go_loopw [15] (fun i wr => ∃ (k : Nat), k ≤ 4 ∧ i = .int .i64 k ∧ Hid (∃ T : List Int, T.length = 6 ∧ DW T ∧ el T 5 = 0 ∧ (0 ≤ v6 T ∧ v6 T < 2 * M) ∧ (∃ z, 18446744073709551616 ^ k * v6 T = vW (a.take k) * B + z * M) ∧ Blk wr gr .u64 67 (List.replicate 4 0) ∧ Mm w.heap.size gt gb b T w wr)) (fun i _ => 4 - (intOf i).toNat)
  case atStart => exact ⟨0, by omega, rfl, hO⟩
  case round =>
    obtain ⟨k, hk, rfl, hO⟩ := hrel
    obtain ⟨T, hl, hd, h5, hV, ⟨z, hz⟩, hbr, hS⟩ := hO.out
    by_cases hlt : k < 4
    · have hix := run_index_arr (P := Tryd.prog) Tryd.underlying67 Tryd.underlying51 hi51.out hz51.out a .u64 k la.out.1 hlt
      have c4 := hS.ht.cell 4 (by omega)
      have hbb := hS.hb
      have ilt : (k : Int) < 4 := by omega
      obtain ⟨x, ex⟩ : ∃ x, x = el a k := ⟨_, rfl⟩
      rw [← ex] at hix
      have hx : Hid (Word x) := Go.Lib.hid (by rw [ex]; exact la.out.2.word k)
      have hcall := Go.Lib.hid (line_any gt T b x (el T 4) wr hl hd lb.out.1 lb.out.2 hx.out (hd.word 4) hS.ht)
      obtain ⟨tp, etp⟩ : ∃ tp, tp = el T 4 := ⟨_, rfl⟩
      rw [← etp] at c4 hcall
      replace hl := Go.Lib.hid hl
      replace hd := Go.Lib.hid hd
      replace h5 := Go.Lib.hid h5
      replace hV := Go.Lib.hid hV
      replace hz := Go.Lib.hid hz
      replace hbr := Go.Lib.hid hbr
      replace hS := Go.Lib.hid hS
      replace ex := Go.Lib.hid ex
      replace etp := Go.Lib.hid etp
      clear hO
      go_wp2_with (first
        | (refine ev_loadarr (x := .tmp 5) rfl rfl rfl hbb Tryd.underlying67 rfl (by rw [lb.out.1]; kernel_rfl) ?_)
        | (go_at_call 63; refine hcall.out.mono ?_; rintro e w2 ⟨T1, s, q, rfl, hL, hb2, hf2⟩
           have c4' := hb2.cell 4 (by have := hL.1; omega)
           have c5' := hb2.cell 5 (by have := hL.1; omega)
           have f4' := hb2.frozen 4
           have f5' := hb2.frozen 5
           replace hL := Go.Lib.hid hL
           replace hb2 := Go.Lib.hid hb2
           replace hf2 := Go.Lib.hid hf2))
      obtain ⟨w3, e3⟩ : ∃ w3, w3 = (w2.setCell ⟨gt, 4, none⟩ (.int .u64 s)).setCell ⟨gt, 5, none⟩ (.int .u64 q) := ⟨_, rfl⟩
      obtain ⟨T2, eT2⟩ : ∃ T2, T2 = (T1.set 4 s).set 5 q := ⟨_, rfl⟩
      rw [← e3]
      have hS3 : Mm w.heap.size gt gb b T2 w w3 := by rw [e3, eT2]; exact ((hS.out.fr hb2.out hf2.out).set 4 s).set 5 q
      have hbr3 : Blk w3 gr .u64 67 (List.replicate 4 0) := by rw [e3]; exact ((hbr.out.grown hf2.out.grown (by simp; omega)).far (by simp; omega) _).far (by simp; omega) _
      have l2 : T2.length = 6 := by rw [eT2]; simp [hL.out.1]
      have d2 : DW T2 := by rw [eT2]; exact (hL.out.2.1.put 4 s hL.out.2.2.2.1).put 5 q ⟨hL.out.2.2.2.2.1.1, by have := hL.out.2.2.2.2.1.2; omega⟩
      have v2 : v6 T2 = v6 T + x * B := by
        rw [eT2, v6_set _ _ _ hL.out.1, hL.out.2.2.2.2.2, vB.out, etp.out]
        unfold v6
        rw [h5.out]
        grind
      have t25 : el T2 5 ≤ 1000 := by rw [eT2, el_setv _ _ _ (by simp [hL.out.1])]; have := hL.out.2.2.2.2.1.2; omega
      obtain ⟨t0, et0⟩ : ∃ t0, t0 = el T2 0 := ⟨_, rfl⟩
      have c0 := hS3.ht.cell 0 (by omega)
      rw [← et0] at c0
      have cn : w3.cell? ⟨gp, 4, none⟩ = some (.int .u64 ng) := by
        have h := (hBp.out.below hS3.bel).cell 4 (by rw [Par.mem_len]; omega)
        rw [mem_neg, ← eng.out] at h
        exact h
      obtain ⟨qd, eqd⟩ : ∃ qd, qd = t0 * ng % 18446744073709551616 := ⟨_, rfl⟩
      have hqd : IntKind.u64.wrap (t0 * ng) = qd := by rw [IntKind.wrap_u64, eqd]
      have hqw : Hid (Word qd) := Go.Lib.hid (by rw [eqd]; exact ⟨by omega, by omega⟩)
      have rM3 : Hid (ReadsInt w3 .u64 (some ⟨gp, 0, none⟩) 4 m) := Go.Lib.hid (by
        have h := (hBp.out.below hS3.bel).part 0 4 (by rw [Par.mem_len]; omega) (by omega)
        rw [mem_M, ← em.out] at h
        exact h)
      have hcall2 := Go.Lib.hid (fun W (hB : Blk W gt .u64 85 T2) => lineTop_any gt T2 m qd W l2 d2 t25 lm.out.1 lm.out.2 hqw.out hB)
      replace hS3 := Go.Lib.hid hS3
      replace hbr3 := Go.Lib.hid hbr3
      replace l2 := Go.Lib.hid l2
      replace v2 := Go.Lib.hid v2
      replace et0 := Go.Lib.hid et0
      replace eqd := Go.Lib.hid eqd
      replace d2 := Go.Lib.hid d2
      clear e3 c4' c5' f4' f5' hL hb2 hf2 eT2 c4 hbb hcall hix hS hbr t25
      go_wp2_with fail
      go_quiet (fail)
      have rM4 := Go.Lib.hid (show ReadsInt (w3.drewN nq) .u64 (some ⟨gp, 0, none⟩) 4 m from rM3.out)
      have hS4 := Go.Lib.hid (hS3.out.draw nq)
      have hbr4 := Go.Lib.hid (hbr3.out.drewN nq)
      obtain ⟨w4', e4'⟩ : ∃ w4', w4' = w3.drewN nq := ⟨_, rfl⟩
      rw [← e4'] at rM4 hS4 hbr4 ⊢
      clear c0 cn hqd rM3 hS3 hbr3 e4'
      go_wp2_with (first
        | (refine ev_loadpart (x := .tmp 39) rfl rfl rfl rM4.out (by omega) Tryd.underlying53 (by kernel_rfl) ?_)
        | (go_at_call 64; refine (hcall2.out _ hS4.out.ht).mono ?_; rintro e w5 ⟨T3, s3, q3, rfl, hL, hb5, hf5⟩
           have c4' := hb5.cell 4 (by have := hL.1; omega)
           have c5' := hb5.cell 5 (by have := hL.1; omega)
           have f4' := hb5.frozen 4
           have f5' := hb5.frozen 5
           replace hL := Go.Lib.hid hL
           replace hb5 := Go.Lib.hid hb5
           replace hf5 := Go.Lib.hid hf5))
      obtain ⟨w6, e6⟩ : ∃ w6, w6 = (w5.setCell ⟨gt, 4, none⟩ (.int .u64 s3)).setCell ⟨gt, 5, none⟩ (.int .u64 q3) := ⟨_, rfl⟩
      obtain ⟨T4, eT4⟩ : ∃ T4, T4 = (T3.set 4 s3).set 5 q3 := ⟨_, rfl⟩
      rw [← e6]
      have hS6 : Mm w.heap.size gt gb b T4 w w6 := by rw [e6, eT4]; exact ((hS4.out.fr hb5.out hf5.out).set 4 s3).set 5 q3
      have hbr6 : Blk w6 gr .u64 67 (List.replicate 4 0) := by rw [e6]; exact ((hbr4.out.grown hf5.out.grown (by simp; omega)).far (by simp; omega) _).far (by simp; omega) _
      have l4 : T4.length = 6 := by rw [eT4]; simp [hL.out.1]
      have d4 : DW T4 := by rw [eT4]; exact (hL.out.2.1.put 4 s3 hL.out.2.2.1).put 5 q3 hL.out.2.2.2.1
      have v4 : v6 T4 = v6 T + x * B + qd * M := by
        rw [eT4, v6_set _ _ _ hL.out.1, hL.out.2.2.2.2, v2.out, vM.out]
      have hT40 : el T4 0 = 0 := by
        have h1 := v6_cons T4 l4
        have h2 := low_mod t0 (vW (T2.drop 1)) 0 M ng hneg.out
        have h3 := v6_cons T2 l2.out
        rw [← et0.out] at h3
        rw [← eqd.out] at h2
        have h4 : v6 T4 = t0 + 18446744073709551616 * vW (T2.drop 1) + qd * M := by rw [v4, ← v2.out, h3]
        have h5 := d4.el (by omega) 0
        generalize vW (T2.drop 1) = X2 at *
        generalize vW (T4.drop 1) = X4 at *
        generalize qd * M = Y at *
        omega
      have hstep : 18446744073709551616 * vW (T4.drop 1) = v6 T + x * B + qd * M := by
        have h1 := v6_cons T4 l4
        rw [hT40] at h1
        rw [← v4, h1]; omega
      have hns := mul_round (X := 0) (t0 := 0) hV.out hx.out hAB.out.2 hqw.out hstep
      have hinv := mul_inv hz.out hstep
      obtain ⟨T5, eT5⟩ : ∃ T5, T5 = (T4.drop 1).take 5 ++ T4.drop 5 := ⟨_, rfl⟩
      have l5 : T5.length = 6 := by rw [eT5]; simp [l4]
      have hres : Hid ((T5.set 5 0).length = 6 ∧ DW (T5.set 5 0) ∧ el (T5.set 5 0) 5 = 0 ∧ (0 ≤ v6 (T5.set 5 0) ∧ v6 (T5.set 5 0) < 2 * M) ∧ (∃ z, 18446744073709551616 ^ (k + 1) * v6 (T5.set 5 0) = vW (a.take (k + 1)) * B + z * M)) := Go.Lib.hid (by
        have hv5 : v6 (T5.set 5 0) = vW (T4.drop 1) := by rw [eT5]; exact v6_shift T4 l4
        refine ⟨by simp [l5], by rw [eT5]; exact shift_dig d4, el_setv _ _ _ (by omega), by rw [hv5]; exact hns, ⟨z + 18446744073709551616 ^ k * qd, ?_⟩⟩
        have hh : vW (a.take (k + 1)) = vW (a.take k) + x * 18446744073709551616 ^ k := by unfold vW; rw [dL_take, ← ex.out]
        rw [hv5, Int.pow_succ, hinv, hh])
      have rT := hS6.ht.part 1 5 (by omega) (by omega)
      have hbT := hS6.ht
      replace hS6 := Go.Lib.hid hS6
      replace hbr6 := Go.Lib.hid hbr6
      replace eT5 := Go.Lib.hid eT5
      replace l4 := Go.Lib.hid l4
      replace l5 := Go.Lib.hid l5
      clear e6 c4' c5' f4' f5' hL hb5 hf5 eT4 d4 v4 hT40 hstep hns hinv hcall2 hS4 hbr4 rM4 v2 l2 d2 hz hV hd h5 hl
      refine region_tail (C := fun w' => ∃ n, w' = w6.drewN n) 2 (by kernel_rfl) (by kernel_rfl) ⟨1, rfl⟩ ?_
      simp only [List.take_succ_cons, List.take_zero, List.drop_succ_cons, List.drop_zero]
      repeat quiet_step (fail)
      refine wpQuiet_nil ?_
      rintro _ ⟨nq2, rfl⟩
      refine ev_copysl rfl (.tmp 46) (.tmp 47) 90 90 rfl 51 Tryd.underlying90 (by kernel_rfl) rfl rfl (show ReadsInt (w6.drewN nq2) .u64 (some ⟨gt, 1, none⟩) 5 _ from rT) (hbT.drewN nq2) (by omega) (by omega) (by rw [l4.out]; omega) ?_
      intro w7 h7 b7
      rw [← eT5.out] at b7
      have hS7 := (hS6.out.draw nq2).stored h7 b7 hS6.out.bel.size
      have hbr7 := h7.blk (hbr6.out.drewN nq2) (by omega)
      have c5 := b7.cell 5 (by rw [l5.out]; omega)
      have f5 := b7.frozen 5
      replace hS7 := Go.Lib.hid hS7
      replace hbr7 := Go.Lib.hid hbr7
      clear h7 b7 rT hbT hS6 hbr6
      go_wp2_with fail
      go_roundw
      case rel =>
        exact ⟨k + 1, by omega, by go_num, Go.Lib.hid ⟨_, hres.out.1, hres.out.2.1, hres.out.2.2.1, hres.out.2.2.2.1, hres.out.2.2.2.2, hbr7.out.far (by simp; omega) _, hS7.out.set 5 0⟩⟩
      case measure => simp [intOf]; omega
    · obtain rfl : k = 4 := by omega
      rw [show ((4 : Nat) : Int) = 4 from rfl]
      rw [List.take_of_length_le (l := a) (by rw [la.out.1]; omega), vA.out] at hz
      obtain ⟨s, es⟩ : ∃ s, s = T.take 4 := ⟨_, rfl⟩
      obtain ⟨t4, et4⟩ : ∃ t4, t4 = el T 4 := ⟨_, rfl⟩
      have hs0 : Hid (s.length = 4 ∧ DW s) := Go.Lib.hid ⟨by rw [es]; simp; omega, by rw [es]; exact hd.take 4⟩
      have ht4 : 0 ≤ t4 := by rw [et4]; exact (hd.word 4).1
      have hV6 : v6 T = vW s + RR * t4 := by unfold v6; rw [h5, es, et4, RR_pow, Int.mul_zero, Int.add_zero]
      have hMpos : 0 < M ∧ M < RR := by have := hMr.out; omega
      have hfin2 : Hid (∀ (d : List Int) (c : Int), (d.length = 4 ∧ DW d ∧ (0 ≤ c ∧ c ≤ 1) ∧ vW d - 18446744073709551616 ^ 4 * c = vW s - vW m) → (t4 = 0 ∧ c = 1 → s = R) ∧ (¬ (t4 = 0 ∧ c = 1) → d = R)) := Go.Lib.hid (fun d c ⟨d1, d2, d3, d4⟩ => by
        have r1 := vW_range hs0.out.2
        have r2 := vW_range d2
        rw [hs0.out.1, RR_pow] at r1
        rw [d1, RR_pow] at r2
        rw [RR_pow, vM.out] at d4
        rw [RR_pow] at hz
        obtain ⟨k1, k2⟩ := mul_fin hMpos r1 r2 d3 ht4 hV hV6 d4
        exact ⟨fun h => hfin.out s 0 z hs0.out.1 hs0.out.2 (k1 h).1 (by rw [← (k1 h).2]; exact hz), fun h => hfin.out d 1 z d1 d2 (k2 h).1 (by rw [← (k2 h).2]; exact hz)⟩)
      have rs := hS.ht.part 0 4 (by omega) (by omega)
      rw [List.drop_zero, ← es] at rs
      replace rs := Go.Lib.hid rs
      have c4 := hS.ht.cell 4 (by omega)
      rw [← et4] at c4
      have hBs := hS.h1
      have hbelr := hS.bel
      have hsz := hbelr.size
      have hgtl := hS.ht.lt
      replace c4 := Go.Lib.hid c4
      replace et4 := Go.Lib.hid et4
      replace hbr := Go.Lib.hid hbr
      clear hO hl hd h5 hV hz hS es hV6 hMpos
      go_wp2_with (first
        | (refine Kd.event_run rfl (exec_arr (x := .tmp 51) rfl Tryd.underlying53 rfl (by omega)) ?_)
        | (refine ev_loadpart (x := .tmp 52) rfl rfl rfl rs.out (by omega) Tryd.underlying53 (by kernel_rfl) ?_)
        | (refine ev_allocg (ty := 53) rfl rfl z53.out ?_; intro gd w5 h5 b5; change Blk w5 gd .u64 53 (List.replicate 4 0) at b5)
        | (refine ev_storearrg rfl rfl rfl b5 rfl (by rw [hs0.out.1]; simp) (by rw [hs0.out.1]; kernel_rfl) ?_; intro w6 h6 b6))
      have s5 := h5.size
      have s6 := h6.size
      have e5 := h5.le
      have hb36 : Below wr.heap.size wr w6 := h6.bel (h5.bel (Below.refl _ _) (Nat.le_refl _)) (by omega) (by omega)
      have hbel6 := below_then hbelr hsz hb36
      have b3' := hbr.out.below hb36
      have c46 : Hid (w6.cell? ⟨gt, 4, none⟩ = some (.int .u64 t4)) := Go.Lib.hid (by rw [hb36.cell (p := ⟨gt, 4, none⟩) hgtl]; exact c4.out)
      have rM6 : Hid (ReadsInt w6 .u64 (some ⟨gp, 0, none⟩) 4 m) := Go.Lib.hid (by
        have h := (hBp.out.below hbel6).part 0 4 (by rw [Par.mem_len]; omega) (by omega)
        rw [mem_M, ← em.out] at h
        exact h)
      have hgr : w.heap.size ≤ gr := hgr0
      have hgr6 : gr < w6.heap.size := by omega
      have hgd6 : gd < w6.heap.size := by omega
      have hgt6 : gt < w6.heap.size := by omega
      clear h5 h6 b5 hb36 e5 s5 s6 rs hbelr c4 hbr hsz
      obtain ⟨TT, f, neT, hf, hs⟩ := class_type (fun w' => Below w6.heap.size w6 w') w6 (Below.refl _ _)
      replace hf := Go.Lib.hid hf
      replace hs := Go.Lib.hid hs
      have rs6 := Go.Lib.hid (rd_len (b6.reads (by rw [hs0.out.1]; omega)) hs0.out.1)
      have rM7 := Go.Lib.hid (fun z : TT => rM6.out.below (hf.out z))
      have rs7 := Go.Lib.hid (fun z : TT => rs6.out.below (hf.out z))
      refine region_effs f [false, false, false, false, false, true, false, false, false, true, true] [[0, 1, 2, 3, 4, 5, 6, 7, 8, 9, 10, 11], [9, 0, 1, 2, 3, 4, 5, 6, 7, 8, 10, 11]] (by kernel_rfl) (by kernel_rfl) (hs.out _ (Below.refl _ _).drew) ?_
      intro ps hps
      simp only [List.mem_cons, List.mem_nil_iff, or_false] at hps
      rcases hps with rfl | rfl
      case' inl =>
        simp only [walks, List.filterMap_cons, List.filterMap_nil, List.getElem?_cons_succ, List.getElem?_cons_zero, Option.map_some, List.getD_cons_succ, List.getD_cons_zero, List.getD_nil]
        refine wlk_pure fun K hK => ?_
        rw [if_pos (by rfl)]
        refine ⟨_, fun z => exec_load rfl rfl (run_loadVar_reads (rs7.out z) (by omega) Tryd.underlying53 (by kernel_rfl)), hK _ ?_⟩
        clear hK K
        repeat (refine wlk_pure fun K hK => ?_; go_simp; refine hK _ ?_; clear hK K)
        refine wlk_pure fun K hK => ?_
        rw [if_pos (by rfl)]
        refine ⟨_, fun z => exec_load rfl rfl (run_loadVar_reads (rM7.out z) (by omega) Tryd.underlying53 (by kernel_rfl)), hK _ ?_⟩
        clear hK K
        refine wlk_eff fun K hK => ?_
        go_simp
        refine (minus_any s m _ hs0.out.1 lm.out.1 hs0.out.2 lm.out.2).mono ?_
        rintro e w7 ⟨d, c, rfl, hld, hdd, hc, hv, hb7⟩
        replace hb7 : Below w6.heap.size w6 w7 := (Below.refl _ _).drew.trans hb7
        have hD := Go.Lib.hid (And.intro hld (And.intro hdd (And.intro hc hv)))
        clear hld hdd hv
        refine hK _ _ (hs.out _ hb7) ?_
        clear hK K
        repeat (refine wlk_pure fun K hK => ?_; go_simp; refine hK _ ?_; clear hK K)
        refine wlk_list ?_ rfl
        refine ev_allocg (ty := 53) rfl rfl z53.out ?_
        intro g8 w8 h8 b8
        change Blk w8 g8 .u64 53 (List.replicate 4 0) at b8
        have s7 := hb7.size
        have e8 := h8.le
        have s8 := h8.size
        have hb8 : Below w6.heap.size w6 w8 := h8.bel hb7 s7
        refine ⟨rfl, hs.out _ hb8, ?_⟩
        refine wlk_list ?_ rfl
        refine ev_storearrg rfl rfl rfl b8 rfl (by rw [hD.out.1]; simp) (by rw [hD.out.1]; kernel_rfl) ?_
        intro w9 h9 b9
        have s9 := h9.size
        have hb9 : Below w6.heap.size w6 w9 := h9.bel hb8 (by omega) (by omega)
        refine ⟨rfl, hs.out _ hb9, ?_⟩
        repeat (refine wlk_pure fun K hK => ?_; go_simp; refine hK _ ?_; clear hK K)
        refine wlk_nil ?_
      case' inr =>
        simp only [walks, List.filterMap_cons, List.filterMap_nil, List.getElem?_cons_succ, List.getElem?_cons_zero, Option.map_some, List.getD_cons_succ, List.getD_cons_zero, List.getD_nil]
        refine wlk_list ?_ rfl
        refine ev_allocg (ty := 53) rfl rfl z53.out ?_
        intro g8 w8 h8 b8
        change Blk w8 g8 .u64 53 (List.replicate 4 0) at b8
        have e8 : w6.heap.size ≤ g8 := h8.le
        have s8 := h8.size
        have hb8 : Below w6.heap.size w6 w8 := h8.bel (Below.refl _ _).drew (Nat.le_refl _)
        refine ⟨rfl, hs.out _ hb8, ?_⟩
        refine wlk_pure fun K hK => ?_
        rw [if_pos (by rfl)]
        refine ⟨_, fun z => exec_load rfl rfl (run_loadVar_reads (rs7.out z) (by omega) Tryd.underlying53 (by kernel_rfl)), hK _ ?_⟩
        clear hK K
        repeat (refine wlk_pure fun K hK => ?_; go_simp; refine hK _ ?_; clear hK K)
        refine wlk_pure fun K hK => ?_
        rw [if_pos (by rfl)]
        refine ⟨_, fun z => exec_load rfl rfl (run_loadVar_reads (rM7.out z) (by omega) Tryd.underlying53 (by kernel_rfl)), hK _ ?_⟩
        clear hK K
        refine wlk_eff fun K hK => ?_
        go_simp
        refine (minus_any s m _ hs0.out.1 lm.out.1 hs0.out.2 lm.out.2).mono ?_
        rintro e w7 ⟨d, c, rfl, hld, hdd, hc, hv, hb7⟩
        replace b8 := b8.below hb7
        have s7 := hb7.size
        replace hb7 := below_then hb8 hb8.size hb7
        have hD := Go.Lib.hid (And.intro hld (And.intro hdd (And.intro hc hv)))
        clear hld hdd hv
        refine hK _ _ (hs.out _ hb7) ?_
        clear hK K
        repeat (refine wlk_pure fun K hK => ?_; go_simp; refine hK _ ?_; clear hK K)
        refine wlk_list ?_ rfl
        refine ev_storearrg rfl rfl rfl b8 rfl (by rw [hD.out.1]; simp) (by rw [hD.out.1]; kernel_rfl) ?_
        intro w9 h9 b9
        have s9 := h9.size
        have hb9 : Below w6.heap.size w6 w9 := h9.bel hb7 (by omega) (by omega)
        refine ⟨rfl, hs.out _ hb9, ?_⟩
        repeat (refine wlk_pure fun K hK => ?_; go_simp; refine hK _ ?_; clear hK K)
        refine wlk_nil ?_
      all_goals
        have hfin' := hfin2.out d c hD.out
        have b6' := b6.below hb9
        have b3'' := b3'.below hb9
        have hbel9 := below_then hbel6 hbel6.size hb9
        have s69 := hb9.size
        have c49 : w9.cell? ⟨gt, 4, none⟩ = some (.int .u64 t4) := by rw [hb9.cell (p := ⟨gt, 4, none⟩) hgt6]; exact c46.out
        replace hfin' := Go.Lib.hid hfin'
        by_cases hqc : t4 = 0 ∧ c = 1
        case pos =>
          have hb1 : (t4 == 0) = true := by rw [hqc.1]; rfl
          have hb2 : (c == 1) = true := by rw [hqc.2]; rfl
          have hR := hfin'.out.1 hqc
          subst hR
          clear hqc
          go_wp2_with (first
            | (refine ev_loadarr (x := .tmp 11) rfl rfl rfl b6' Tryd.underlying53 rfl (by rw [hs0.out.1]; kernel_rfl) ?_)
            | (refine ev_storearrg rfl rfl rfl b3'' rfl (by rw [hs0.out.1]; simp) (by rw [hs0.out.1]; kernel_rfl) ?_; intro w10 h10 b10))
          refine bodyPost_ret (results_one rfl _ _ rfl b10 Tryd.underlying67 rfl (by rw [hs0.out.1]; kernel_rfl)) rfl ⟨rfl, h10.bel hbel9 (by omega) hgr⟩
        case neg =>
          have hR := hfin'.out.2 hqc
          subst hR
          rcases (show (t4 == 0) = false ∨ ((t4 == 0) = true ∧ (c == 1) = false) by
            by_cases h : t4 = 0
            · right; refine ⟨by simp [h], by simp; exact fun h2 => hqc ⟨h, h2⟩⟩
            · left; simp [h]) with hb1 | ⟨hb1, hb2⟩
          all_goals
            clear hqc
            go_wp2_with (first
              | (refine ev_loadarr rfl rfl rfl b9 Tryd.underlying53 rfl (by rw [hD.out.1]; kernel_rfl) ?_)
              | (refine ev_storearrg rfl rfl rfl b3'' rfl (by rw [hD.out.1]; simp) (by rw [hD.out.1]; kernel_rfl) ?_; intro w10 h10 b10))
            refine bodyPost_ret (results_one rfl _ _ rfl b10 Tryd.underlying67 rfl (by rw [hD.out.1]; kernel_rfl)) rfl ⟨rfl, h10.bel hbel9 (by omega) hgr⟩
end Go.Proofs.YtamfbmchamgddaaDoor

/-
  To, From, One, int, Bit.
-/
namespace Go.Proofs.YtamfbmchamgddaaDoor
set_option linter.unusedVariables false
set_option linter.unusedSimpArgs false
open Go.RowKit Go.Proofs.YtamfbmchamgddaaDoorW.PrintWords

theorem rd_grown {w w1 : World} {k : IntKind} {g o n : Nat} {xs : List Int} {row : Option Nat} (h : ReadsInt w k (some ⟨g, o, none⟩) n xs) (hg : w.grownBy w1 row) (hne : some g ≠ row) : ReadsInt w1 k (some ⟨g, o, none⟩) n xs := by
  refine ⟨h.1, h.2.1, fun hn => ?_⟩
  obtain ⟨ad, ha, hc⟩ := h.2.2 hn
  obtain rfl := Option.some.inj ha
  refine ⟨_, rfl, fun j hj => ?_⟩
  have h1 := hc j hj
  rw [add_off] at h1 ⊢
  have hlt := World.block_lt_of_cell? w _ h1
  have hb := hg.block g hlt hne
  simp only [World.cell?] at h1 ⊢
  rw [hb]
  exact h1

def Par.to (p : Par) (N : Int) : Int := (N * RR) % p.M
theorem Par.Ok.pos {p : Par} (h : p.Ok) : 0 < p.M := by have := h.lo; omega
theorem to_eq {p : Par} (h : p.Ok) (N : Int) : (N * p.sq * p.rinv) % p.M = p.to N := by
  have h1 : (N * p.sq * p.rinv) % p.M = (N * (RR * RR) * p.rinv) % p.M := by
    rw [h.hsq]
    have e1 : ((RR * RR) % p.M) % p.M = (RR * RR) % p.M := Int.emod_emod_of_dvd _ (Int.dvd_refl _)
    rw [Int.mul_emod, Int.mul_emod N, e1, ← Int.mul_emod N, ← Int.mul_emod]
  have h2 : N * (RR * RR) * p.rinv = (N * RR) * (RR * p.rinv) := by grind
  rw [h1, h2, Int.mul_emod, h.hr, Int.mul_one, Int.emod_emod_of_dvd _ (Int.dvd_refl _)]
  rfl
theorem to_range {p : Par} (h : p.Ok) (N : Int) : 0 ≤ p.to N ∧ p.to N < p.M := ⟨Int.emod_nonneg _ (by have := h.pos; omega), Int.emod_lt_of_pos _ h.pos⟩
theorem from_to {p : Par} (h : p.Ok) (N : Int) : (p.to N * 1 * p.rinv) % p.M = N % p.M := by
  unfold Par.to
  rw [Int.mul_one, Int.mul_emod, Int.emod_emod_of_dvd _ (Int.dvd_refl _), ← Int.mul_emod, Int.mul_assoc, Int.mul_emod, h.hr, Int.mul_one, Int.emod_emod_of_dvd _ (Int.dvd_refl _)]
theorem mul_to {p : Par} (h : p.Ok) (X Y : Int) : (p.to X * p.to Y * p.rinv) % p.M = p.to (X * Y) := by
  unfold Par.to
  have h1 : ((X * RR) % p.M * ((Y * RR) % p.M) * p.rinv) % p.M = (X * RR * (Y * RR) * p.rinv) % p.M := by
    rw [Int.mul_emod, ← Int.mul_emod (X * RR), ← Int.mul_emod]
  have h2 : X * RR * (Y * RR) * p.rinv = (X * Y * RR) * (RR * p.rinv) := by grind
  rw [h1, h2, Int.mul_emod, h.hr, Int.mul_one, Int.emod_emod_of_dvd _ (Int.dvd_refl _)]
theorem add_to {p : Par} (X Y : Int) : (p.to X + p.to Y) % p.M = p.to (X + Y) := by
  unfold Par.to
  rw [← Int.add_emod, Int.add_mul]
theorem one_to {p : Par} (h : p.Ok) : p.one = p.to 1 := by unfold Par.to; rw [h.hone, Int.one_mul]
theorem to_mod {p : Par} (N : Int) : p.to (N % p.M) = p.to N := by
  unfold Par.to
  rw [Int.mul_emod, Int.emod_emod_of_dvd _ (Int.dvd_refl _), ← Int.mul_emod]

set_option maxRecDepth 100000 in
theorem eint_any (l : List Int) (w : World) (hl : l.length = 4) :
    Calls Tryd.prog 72 #[arr l] w fun e w' => e = .returned (arr l) ∧ Below w.heap.size w w' := by
  have z53 : (Tryd.prog.info? 53).map (fun i => (i.zero, i.size)) = some (some (.agg ((List.replicate 4 (0 : Int)).map (Value.int .u64)).toArray), 4) := by kernel_rfl
  replace z53 := Go.Lib.hid z53
  replace hl := Go.Lib.hid hl
  go_enter Tryd.func72, Tryd.ntmps72
  go_wp2_with (first
    | (refine ev_boxg rfl rfl rfl ?_; intro ga w1 h1 b1; change Blk w1 ga .u64 67 l at b1)
    | (refine ev_allocg (ty := 53) rfl rfl z53.out ?_; intro gr w3 h3 b3; change Blk w3 gr .u64 53 (List.replicate 4 0) at b3; replace b1 := h3.blk b1)
    | (refine ev_loadarr rfl rfl rfl b1 Tryd.underlying67 rfl (by rw [hl.out]; kernel_rfl) ?_)
    | (refine ev_storearrg rfl rfl rfl b3 rfl (by rw [hl.out]; simp) (by rw [hl.out]; kernel_rfl) ?_; intro w4 h4 b4))
  have e1 := h1.le
  have s1 := h1.size
  have e3 := h3.le
  have s3 := h3.size
  refine bodyPost_ret (results_one rfl _ _ rfl b4 Tryd.underlying53 rfl (by rw [hl.out]; kernel_rfl)) rfl ⟨rfl, h4.bel (h3.bel (h1.bel (Below.refl _ _) (Nat.le_refl _)) (by omega)) (by omega) (by omega)⟩

set_option maxRecDepth 100000 in
theorem to_any (p : Par) (hp : p.Ok) (gp : Nat) (N : Int) (w : World) (hN : 0 ≤ N ∧ N < RR) (hb : Blk w gp .u64 55 p.mem) :
    Calls Tryd.prog 59 #[.pointer (some ⟨gp, 0, none⟩), arr (WN N)] w fun e w' => e = .returned (arr (WN (p.to N))) ∧ Below w.heap.size w w' := by
  have z67 : (Tryd.prog.info? 67).map (fun i => (i.zero, i.size)) = some (some (.agg ((List.replicate 4 (0 : Int)).map (Value.int .u64)).toArray), 4) := by kernel_rfl
  replace z67 := Go.Lib.hid z67
  obtain ⟨n, en⟩ : ∃ n, n = WN N := ⟨_, rfl⟩
  rw [← en]
  have hnl : Hid (n.length = 4) := Go.Lib.hid (by rw [en, WN_len])
  have hsr : 0 ≤ p.sq ∧ p.sq < p.M := by rw [hp.hsq]; exact ⟨Int.emod_nonneg _ (by have := hp.pos; omega), Int.emod_lt_of_pos _ hp.pos⟩
  obtain ⟨sq, esq⟩ : ∃ sq, sq = WN p.sq := ⟨_, rfl⟩
  have hcall := Go.Lib.hid (fun W (hB : Blk W gp .u64 55 p.mem) => mul_any p hp gp N p.sq W hN hsr hB)
  rw [to_eq hp, ← en, ← esq] at hcall
  have rS := hb.part 9 4 (by rw [Par.mem_len]; omega) (by omega)
  rw [mem_sq, ← esq] at rS
  have hgp := hb.lt
  have hBp := Go.Lib.hid hb
  replace rS := Go.Lib.hid rS
  obtain ⟨R, eR⟩ : ∃ R, R = WN (p.to N) := ⟨_, rfl⟩
  rw [← eR] at hcall ⊢
  have hRl : Hid (R.length = 4) := Go.Lib.hid (by rw [eR, WN_len])
  clear hb en esq hsr eR hN
  go_enter Tryd.func59, Tryd.ntmps59
  go_wp2_with (first
    | (refine ev_boxg rfl rfl rfl ?_; intro ga w1 h1 b1; change Blk w1 ga .u64 53 n at b1)
    | (refine ev_allocg (ty := 67) rfl rfl z67.out ?_; intro gr w3 h3 b3; change Blk w3 gr .u64 67 (List.replicate 4 0) at b3; replace b1 := h3.blk b1))
  have e1 := h1.le
  have s1 := h1.size
  have e3 := h3.le
  have s3 := h3.size
  have hbel : Below w.heap.size w w3 := h3.bel (h1.bel (Below.refl _ _) (Nat.le_refl _)) (by omega)
  have hgr : w.heap.size ≤ gr := by omega
  have hgr3 : gr < w3.heap.size := by omega
  have rn3 := rd_len (b1.reads (by rw [hnl.out]; omega)) hnl.out
  have rS3 := rS.out.below hbel
  have hga : ga ≠ gr := by omega
  have hgp3 : gp ≠ gr := by omega
  obtain ⟨TT, f, neT, hf, hs⟩ := class_type (fun w' => ReadsInt w' .u64 (some ⟨ga, 0, none⟩) 4 n ∧ ReadsInt w' .u64 (some ⟨gp, 9, none⟩) 4 sq) w3 ⟨rn3, rS3⟩
  have rn4 := Go.Lib.hid (fun z => (hf z).1)
  have rS4 := Go.Lib.hid (fun z => (hf z).2)
  replace hs := Go.Lib.hid hs
  replace rn3 := Go.Lib.hid rn3
  replace rS3 := Go.Lib.hid rS3
  clear hf h1 h3 b1 e1 s1 e3 s3
  refine region_eff f [false, false, false, false, false, false, true, true] (by kernel_rfl) (by kernel_rfl) (hs.out _ ⟨rn3.out.below (Below.refl _ _).drew, rS3.out.below (Below.refl _ _).drew⟩) ?_
  simp only [masked_cons, masked_out, masked_nil]
  refine wlk_pure fun K hK => ?_; go_simp; refine hK _ ?_; clear hK K
  refine wlk_pure fun K hK => ?_
  rw [if_pos (by rfl)]
  refine ⟨_, fun z => exec_load rfl rfl (run_loadVar_reads (rn4.out z) (by omega) Tryd.underlying53 (by kernel_rfl)), hK _ ?_⟩
  clear hK K
  iterate 3 (refine wlk_pure fun K hK => ?_; go_simp; refine hK _ ?_; clear hK K)
  refine wlk_pure fun K hK => ?_
  rw [if_pos (by rfl)]
  refine ⟨_, fun z => exec_load rfl rfl (run_loadVar_reads (rS4.out z) (by omega) Tryd.underlying53 (by kernel_rfl)), hK _ ?_⟩
  clear hK K
  refine wlk_eff fun K hK => ?_
  go_simp
  refine (hcall.out _ ((hBp.out.below hbel).drew)).mono ?_
  rintro e w4 ⟨rfl, hb4⟩
  replace hb4 : Below w3.heap.size w3 w4 := (Below.refl _ _).drew.trans hb4
  refine hK _ _ (hs.out _ ⟨rn3.out.below hb4, rS3.out.below hb4⟩) ?_
  clear hK K
  have b4 := b3.below hb4
  have s4 := hb4.size
  refine wlk_list ?_ rfl
  refine ev_storearrg rfl rfl rfl b4 rfl (by rw [hRl.out]; simp) (by rw [hRl.out]; kernel_rfl) ?_
  intro w5 h5 b5
  refine ⟨rfl, hs.out _ ⟨rd_grown (rn3.out.below hb4) h5.grown (by simp; exact hga), rd_grown (rS3.out.below hb4) h5.grown (by simp; exact hgp3)⟩, ?_⟩
  refine wlk_nil ?_
  go_wp2_with fail
  have s5 := h5.size
  have hb5 := h5.bel (below_then hbel hbel.size hb4) (by have := hbel.size; omega) hgr
  refine bodyPost_ret (results_one rfl _ _ rfl b5 Tryd.underlying67 rfl (by rw [hRl.out]; kernel_rfl)) rfl ⟨rfl, hb5⟩

set_option maxRecDepth 100000 in
theorem from_any (p : Par) (hp : p.Ok) (gp : Nat) (N : Int) (w : World) (hb : Blk w gp .u64 55 p.mem) :
    Calls Tryd.prog 54 #[.pointer (some ⟨gp, 0, none⟩), arr (WN (p.to N))] w fun e w' => e = .returned (arr (WN (N % p.M))) ∧ Below w.heap.size w w' := by
  have z53 : (Tryd.prog.info? 53).map (fun i => (i.zero, i.size)) = some (some (.agg ((List.replicate 4 (0 : Int)).map (Value.int .u64)).toArray), 4) := by kernel_rfl
  replace z53 := Go.Lib.hid z53
  have hr := to_range hp N
  have hcall := Go.Lib.hid (fun W (hB : Blk W gp .u64 55 p.mem) => mul_any p hp gp (p.to N) 1 W ⟨hr.1, by have := hp.hi; omega⟩ ⟨by omega, by have := hp.lo; omega⟩ hB)
  rw [from_to hp] at hcall
  obtain ⟨n, en⟩ : ∃ n, n = WN (p.to N) := ⟨_, rfl⟩
  obtain ⟨R, eR⟩ : ∃ R, R = WN (N % p.M) := ⟨_, rfl⟩
  rw [← eR, ← en] at hcall
  rw [← eR, ← en]
  have hRl : Hid (R.length = 4) := Go.Lib.hid (by rw [eR, WN_len])
  have hnl : Hid (n.length = 4) := Go.Lib.hid (by rw [en, WN_len])
  have hone : arr (WN 1) = .agg #[.int .u64 1, .int .u64 0, .int .u64 0, .int .u64 0] := by rfl
  rw [hone] at hcall
  have hBp := Go.Lib.hid hb
  clear hb en eR hr hone
  go_enter Tryd.func54, Tryd.ntmps54
  go_wp2_with (first
    | (refine ev_boxg rfl rfl rfl ?_; intro ga w1 h1 b1; change Blk w1 ga .u64 67 n at b1)
    | (refine ev_allocg (ty := 53) rfl rfl z53.out ?_; intro gr w3 h3 b3; change Blk w3 gr .u64 53 (List.replicate 4 0) at b3; replace b1 := h3.blk b1)
    | (refine ev_loadarr (x := .tmp 3) rfl rfl rfl b1 Tryd.underlying67 rfl (by rw [hnl.out]; kernel_rfl) ?_)
    | (go_at_call 41; refine (hcall.out _ (h3.blk (h1.blk hBp.out))).mono ?_; rintro e w4 ⟨rfl, hb4⟩)
    | (go_at_call 72; refine (eint_any R _ hRl.out).mono ?_; rintro e w5 ⟨rfl, hb5⟩; have b5 := (b3.below hb4).below hb5)
    | (refine ev_storearrg rfl rfl rfl b5 rfl (by rw [hRl.out]; simp) (by rw [hRl.out]; kernel_rfl) ?_; intro w6 h6 b6))
  have e1 := h1.le
  have s1 := h1.size
  have e3 := h3.le
  have s3 := h3.size
  have s4 := hb4.size
  have s5 := hb5.size
  have hbel : Below w.heap.size w w3 := h3.bel (h1.bel (Below.refl _ _) (Nat.le_refl _)) (by omega)
  have hbel5 := below_then (below_then hbel hbel.size hb4) (by omega) hb5
  refine bodyPost_ret (results_one rfl _ _ rfl b6 Tryd.underlying53 rfl (by rw [hRl.out]; kernel_rfl)) rfl ⟨rfl, h6.bel hbel5 (by omega) (by omega)⟩

set_option maxRecDepth 100000 in
theorem one_any (p : Par) (hp : p.Ok) (gp : Nat) (w : World) (hb : Blk w gp .u64 55 p.mem) :
    Calls Tryd.prog 70 #[.pointer (some ⟨gp, 0, none⟩)] w fun e w' => e = .returned (arr (WN (p.to 1))) ∧ Below w.heap.size w w' := by
  have z67 : (Tryd.prog.info? 67).map (fun i => (i.zero, i.size)) = some (some (.agg ((List.replicate 4 (0 : Int)).map (Value.int .u64)).toArray), 4) := by kernel_rfl
  replace z67 := Go.Lib.hid z67
  obtain ⟨R, eR⟩ : ∃ R, R = WN (p.to 1) := ⟨_, rfl⟩
  rw [← eR]
  have hRl : Hid (R.length = 4) := Go.Lib.hid (by rw [eR, WN_len])
  have rS := hb.part 5 4 (by rw [Par.mem_len]; omega) (by omega)
  rw [mem_one, one_to hp, ← eR] at rS
  replace rS := Go.Lib.hid rS
  clear hb eR
  go_enter Tryd.func70, Tryd.ntmps70
  go_wp2_with (first
    | (refine ev_allocg (ty := 67) rfl rfl z67.out ?_; intro gr w3 h3 b3; change Blk w3 gr .u64 67 (List.replicate 4 0) at b3)
    | (refine ev_loadpart (x := .tmp 5) rfl rfl rfl (h3.rd rS.out) (by omega) Tryd.underlying53 (by kernel_rfl) ?_)
    | (refine ev_storearrg rfl rfl rfl b3 rfl (by rw [hRl.out]; simp) (by rw [hRl.out]; kernel_rfl) ?_; intro w4 h4 b4))
  have e3 := h3.le
  have s3 := h3.size
  refine bodyPost_ret (results_one rfl _ _ rfl b4 Tryd.underlying67 rfl (by rw [hRl.out]; kernel_rfl)) rfl ⟨rfl, h4.bel (h3.bel (Below.refl _ _) (Nat.le_refl _)) (by omega) e3⟩
end Go.Proofs.YtamfbmchamgddaaDoor

/-
  Bit, Bytes, FromBytes.
-/
namespace Go.Proofs.YtamfbmchamgddaaDoor
set_option linter.unusedVariables false
set_option linter.unusedSimpArgs false
open Go.RowKit Go.Proofs.YtamfbmchamgddaaDoorW.PrintWords

theorem el_WN (N : Int) (j : Nat) (h : j < 4) : el (WN N) j = N / 18446744073709551616 ^ j % 18446744073709551616 := el_dN (by omega) 4 N j h
theorem pow_b (j : Nat) : (18446744073709551616 : Int) ^ j = 2 ^ (64 * j) := by rw [Int.pow_mul]; rfl
/-- a few bits of a word, as of the number -/
theorem bits_of (N : Int) (hN : 0 ≤ N) (j r s : Nat) (hr : r + s ≤ 64) : (N / 18446744073709551616 ^ j % 18446744073709551616) / 2 ^ r % 2 ^ s = N / 2 ^ (64 * j + r) % 2 ^ s := by
  obtain ⟨n, rfl⟩ := Int.eq_ofNat_of_zero_le hN
  have h : (n / 18446744073709551616 ^ j % 18446744073709551616) / 2 ^ r % 2 ^ s = n / 2 ^ (64 * j + r) % 2 ^ s := by
    rw [show (18446744073709551616 : Nat) ^ j = 2 ^ (64 * j) by rw [Nat.pow_mul]]
    rw [show (18446744073709551616 : Nat) = 2 ^ r * 2 ^ (64 - r) by rw [← Nat.pow_add, show r + (64 - r) = 64 by omega]]
    rw [Nat.mod_mul_right_div_self, Nat.mod_mod_of_dvd _ (Nat.pow_dvd_pow 2 (by omega)), Nat.div_div_eq_div_mul, ← Nat.pow_add]
  have := congrArg (fun x : Nat => (x : Int)) h
  simpa using this

set_option maxRecDepth 100000 in
theorem bit_any (N : Int) (i : Nat) (w : World) (hN : 0 ≤ N) (hi : i ≤ 255) :
    Calls Tryd.prog 71 #[arr (WN N), .int .i64 (i : Int)] w fun e w' => e = .returned (.int .u64 (N / 2 ^ i % 2)) ∧ Below w.heap.size w w' := by
  obtain ⟨l, el_⟩ : ∃ l, l = WN N := ⟨_, rfl⟩
  rw [← el_]
  have hl : Hid (l.length = 4) := Go.Lib.hid (by rw [el_, WN_len])
  obtain ⟨j, ej⟩ : ∃ j, j = i / 64 := ⟨_, rfl⟩
  obtain ⟨r, er⟩ : ∃ r, r = i % 64 := ⟨_, rfl⟩
  have hj : (i : Int) / 64 = (j : Int) := by rw [ej]; omega
  have hr : (i : Int) % 64 = (r : Int) := by rw [er]; omega
  have hjl : (j : Int) < 4 := by omega
  have hr64 : (r : Int) < 64 := by omega
  have hrr : (r : Int).toNat = r := by omega
  obtain ⟨v, ev⟩ : ∃ v, v = el l j := ⟨_, rfl⟩
  have hv : 0 ≤ v ∧ v ≤ 18446744073709551615 := by rw [ev, el_]; have := (WN_dig N).el (by omega) j; omega
  have hb : bits .and .u64 (v / 2 ^ r) 1 = N / 2 ^ i % 2 := by
    have h1 : bits .and .u64 (v / 2 ^ r) 1 = v / 2 ^ r % 2 := by
      obtain ⟨n, rfl⟩ := Int.eq_ofNat_of_zero_le hv.1
      have h2 : ((n : Int) / 2 ^ r) = ((n / 2 ^ r : Nat) : Int) := by simp
      have h3 : n / 2 ^ r < 18446744073709551616 := by have := Nat.div_le_self n (2 ^ r); omega
      have h4 := bits_and_u64_nat (n / 2 ^ r) 1 h3 (by omega)
      rw [h2]
      have h5 : n / 2 ^ r &&& 1 = n / 2 ^ r % 2 := Nat.and_two_pow_sub_one_eq_mod _ 1
      rw [h5] at h4
      rw [show (1 : Int) = ((1 : Nat) : Int) from rfl, h4]
      simp
    rw [h1, ev, el_, el_WN _ _ (by omega)]
    have := bits_of N hN j r 1 (by omega)
    rw [show (2 : Int) ^ 1 = 2 from rfl] at this
    rw [this]
    congr 2
    rw [ej, er]
    congr 1
    omega
  replace ej := Go.Lib.hid ej
  replace er := Go.Lib.hid er
  replace el_ := Go.Lib.hid el_
  replace ev := Go.Lib.hid ev
  replace hb := Go.Lib.hid hb
  go_enter Tryd.func71, Tryd.ntmps71
  go_wp2_with (first
    | (refine ev_boxg rfl rfl rfl ?_; intro ga w1 h1 b1; change Blk w1 ga .u64 53 l at b1; have c1 := b1.cell j (by rw [hl.out]; omega); rw [← ev.out] at c1))
  go_ret
  exact ⟨by rw [← hb.out]; rfl, h1.bel (Below.refl _ _) (Nat.le_refl _)⟩

/-- a number as n bytes, the highest first -/
def beL (n : Nat) (V : Int) : List Int := (dN 256 n V).reverse
theorem beL_len (n : Nat) (V : Int) : (beL n V).length = n := by simp [beL, dN_len]
theorem el_rev (l : List Int) (i : Nat) (h : i < l.length) : el l.reverse i = el l (l.length - 1 - i) := by
  simp only [el, List.getD_eq_getElem?_getD]
  rw [List.getElem?_reverse h]
theorem el_beL (n : Nat) (V : Int) (i : Nat) (h : i < n) : el (beL n V) i = V / 256 ^ (n - 1 - i) % 256 := by
  unfold beL
  rw [el_rev _ _ (by rw [dN_len]; exact h), dN_len, el_dN (by omega) _ _ _ (by omega)]
theorem beL_byt (n : Nat) (V : Int) : Byt (beL n V) := fun x hx => by
  have := dN_dig (B := 256) (by omega) n V x (List.mem_reverse.1 hx)
  omega
theorem info_b8 : (Tryd.prog.info? 5).map (fun i => (i.zero, i.size, i.bytes)) = some (some (.int .u8 0), 1, 1) := by kernel_rfl

set_option maxRecDepth 100000 in
set_option maxHeartbeats 1000000 in
theorem bytes_any (N : Int) (w : World) (hN : 0 ≤ N) :
    Calls Tryd.prog 29 #[arr (WN N)] w fun e w' => ∃ g, e = .returned (.slice (some ⟨g, 0, none⟩) 32 32) ∧ Blk w' g .u8 5 (beL 32 N) ∧ w.heap.size ≤ g ∧ Below w.heap.size w w' := by
  have hm1 := print_make (P := Tryd.prog) 23 5 .u8 1 Tryd.underlying23 info_b8 (by omega) 32 (by omega)
  rw [show ((32 : Nat) : Int) = 32 from rfl] at hm1
  obtain ⟨l, el_⟩ : ∃ l, l = WN N := ⟨_, rfl⟩
  rw [← el_]
  have hl : Hid (l.length = 4 ∧ DW l) := Go.Lib.hid (by rw [el_]; exact ⟨WN_len _, WN_dig _⟩)
  have hval : Hid (∀ k, k < 32 → el l (k / 8) / 2 ^ (8 * (k % 8)) % 256 = N / 256 ^ k % 256) := Go.Lib.hid (fun k hk => by
    rw [el_, el_WN _ _ (by omega)]
    have h := bits_of N hN (k / 8) (8 * (k % 8)) 8 (by omega)
    rw [show (2 : Int) ^ 8 = 256 from rfl] at h
    rw [h, show 64 * (k / 8) + 8 * (k % 8) = 8 * k by omega, Int.pow_mul]
    rfl)
  replace el_ := Go.Lib.hid el_
  go_enter Tryd.func29, Tryd.ntmps29
  go_wp2_with (first
    | (refine ev_boxg rfl rfl rfl ?_; intro ga w1 h1 b1; change Blk w1 ga .u64 53 l at b1))
  have hO : Hid (∃ L : List Int, L.length = 32 ∧ (∀ j, j < 0 → el L j = el (beL 32 N) j) ∧ Blk (w1.alloc (.cells (madeCells #[.int .u8 0] 32) 5)) w1.heap.size .u8 5 L ∧ Blk (w1.alloc (.cells (madeCells #[.int .u8 0] 32) 5)) ga .u64 53 l ∧ Below w.heap.size w (w1.alloc (.cells (madeCells #[.int .u8 0] 32) 5))) :=
    Go.Lib.hid ⟨_, by simp, fun j hj => by omega, Blk.made w1 .u8 5 32, b1.alloc _, (h1.bel (Below.refl _ _) (Nat.le_refl _)).alloc (by have := h1.le; have := h1.size; omega) _⟩
  have hgo : w.heap.size ≤ w1.heap.size := by have := h1.le; have := h1.size; omega
  have hne : ga < w1.heap.size := by have := h1.size; omega
  clear b1 h1 hm1
  generalize w1.alloc _ = w2 at hO ⊢
  generalize w1.heap.size = go at *
  go_loopw [9] (fun i wr => ∃ k : Nat, k ≤ 32 ∧ i = .int .i64 k ∧ Hid (∃ L : List Int, L.length = 32 ∧ (∀ j, j < k → el L j = el (beL 32 N) j) ∧ Blk wr go .u8 5 L ∧ Blk wr ga .u64 53 l ∧ Below w.heap.size w wr)) (fun i _ => 32 - (intOf i).toNat)
  case atStart => exact ⟨0, by omega, rfl, hO⟩
  case round =>
    obtain ⟨k, hk, rfl, hO⟩ := hrel
    obtain ⟨L, h1, h2, bo, ba, hbel⟩ := hO.out
    by_cases hlt : k < 32
    · obtain ⟨m, em⟩ : ∃ m, m = 31 - k := ⟨_, rfl⟩
      obtain ⟨j, ej⟩ : ∃ j, j = m / 8 := ⟨_, rfl⟩
      obtain ⟨r, er⟩ : ∃ r, r = m % 8 := ⟨_, rfl⟩
      have e1 : 31 - (k : Int) = (m : Int) := by omega
      have e2 : (m : Int) / 8 = (j : Int) := by omega
      have e3 : (m : Int) % 8 = (r : Int) := by omega
      have hr8 : (r : Int) < 8 := by omega
      have hj4 : (j : Int) < 4 := by omega
      have hk32 : (k : Int) < 32 := by omega
      obtain ⟨v, ev⟩ : ∃ v, v = el l j := ⟨_, rfl⟩
      have ca := ba.cell j (by rw [hl.out.1]; omega)
      rw [← ev] at ca
      have hv : 0 ≤ v ∧ v ≤ 18446744073709551615 := by rw [ev]; have := hl.out.2.el (by omega) j; omega
      have co := bo.cell k (by omega)
      have fo := bo.frozen k
      have hfin : Hid (v / 2 ^ (8 * r) % 256 = el (beL 32 N) k) := Go.Lib.hid (by rw [el_beL _ _ _ hlt, ev, ej, er, hval.out m (by omega), em])
      replace em := Go.Lib.hid em
      replace ej := Go.Lib.hid ej
      replace er := Go.Lib.hid er
      replace ev := Go.Lib.hid ev
      replace h1 := Go.Lib.hid h1
      replace h2 := Go.Lib.hid h2
      replace bo := Go.Lib.hid bo
      replace ba := Go.Lib.hid ba
      clear hO
      go_wp2_with fail
      go_roundw
      case rel =>
        refine ⟨k + 1, by omega, by go_num, Go.Lib.hid ⟨_, set_len h1.out k _, fun j' hj' => ?_, bo.out.set k _, ba.out.far (by simp; omega) _, hbel.setCell hgo _⟩⟩
        rw [el_set]
        by_cases e : k = j'
        · rw [if_pos ⟨e, by rw [h1.out]; omega⟩, hfin.out, e]
        · rw [if_neg (fun h => e h.1)]; exact h2.out j' (by omega)
      case measure => simp [intOf]; omega
    · obtain rfl : k = 32 := by omega
      rw [show ((32 : Nat) : Int) = 32 from rfl]
      have e : L = beL 32 N := ext_el (by rw [h1, beL_len]) (fun j hj => h2 j (by omega))
      rw [e] at bo
      replace bo := Go.Lib.hid bo
      clear hO h1 h2 ba e
      go_wp2_with fail
      go_ret
      exact ⟨go, rfl, bo.out, hgo, hbel⟩

theorem take_snoc' (l : List Int) (k : Nat) (h : k < l.length) : l.take (k + 1) = l.take k ++ [el l k] := by
  rw [List.take_succ_eq_append_getElem h]; simp [el, h]
/-- bytes as a number, the highest first -/
def beV (b : List Int) : Int := dL 256 b.reverse
theorem beV_snoc (b : List Int) (x : Int) : beV (b ++ [x]) = 256 * beV b + x := by simp only [beV, List.reverse_append, List.reverse_cons, List.reverse_nil, List.nil_append, List.cons_append, dL]; omega
theorem Byt.dig {b : List Int} (h : Byt b) : Dig 256 b := fun x hx => by have := h x hx; omega
theorem beV_range {b : List Int} (h : Byt b) : 0 ≤ beV b ∧ beV b < 256 ^ b.length := by
  have := dL_range (B := 256) (by omega) b.reverse (fun x hx => h.dig x (List.mem_reverse.1 hx))
  simpa [beV] using this
theorem from_step (U x k : Nat) (hk : k < 32) (hU : 256 ^ (k + 1) * U < 256 ^ 32) (hx : x < 256) :
    ((((256 ^ (k + 1) * U) / 18446744073709551616 ^ (k / 8) % 18446744073709551616) ||| (x * 2 ^ (8 * (k % 8)))) = ((256 ^ (k + 1) * U) / 18446744073709551616 ^ (k / 8) % 18446744073709551616) + x * 2 ^ (8 * (k % 8))) ∧
    ((256 ^ (k + 1) * U) / 18446744073709551616 ^ (k / 8) % 18446744073709551616) + x * 2 ^ (8 * (k % 8)) < 18446744073709551616 := by
  obtain ⟨j, r, hr, rfl⟩ : ∃ j r, r < 8 ∧ k = 8 * j + r := ⟨k / 8, k % 8, by omega, by omega⟩
  rw [show (8 * j + r) / 8 = j by omega, show (8 * j + r) % 8 = r by omega]
  have e1 : (256 ^ (8 * j + r + 1) * U) / 18446744073709551616 ^ j = 2 ^ (8 * (r + 1)) * U := by
    rw [show (18446744073709551616 : Nat) ^ j = 256 ^ (8 * j) by rw [Nat.pow_mul], show 8 * j + r + 1 = 8 * j + (r + 1) by omega, Nat.pow_add, Nat.mul_assoc, Nat.mul_div_cancel_left _ (Nat.pow_pos (by omega)), show (256 : Nat) ^ (r + 1) = 2 ^ (8 * (r + 1)) by rw [Nat.pow_mul]]
  have e2 : (2 ^ (8 * (r + 1)) * U) % 18446744073709551616 = 2 ^ (8 * (r + 1)) * (U % 2 ^ (64 - 8 * (r + 1))) := by
    rw [show (18446744073709551616 : Nat) = 2 ^ (8 * (r + 1)) * 2 ^ (64 - 8 * (r + 1)) by rw [← Nat.pow_add, show 8 * (r + 1) + (64 - 8 * (r + 1)) = 64 by omega], Nat.mul_mod_mul_left]
  rw [e1, e2]
  have hlt : x * 2 ^ (8 * r) < 2 ^ (8 * (r + 1)) := by
    rw [show 8 * (r + 1) = 8 + 8 * r by omega, Nat.pow_add]
    exact Nat.mul_lt_mul_of_pos_right hx (Nat.pow_pos (by omega))
  refine ⟨(Nat.two_pow_add_eq_or_of_lt hlt _).symm, ?_⟩
  have h1 : U % 2 ^ (64 - 8 * (r + 1)) + 1 ≤ 2 ^ (64 - 8 * (r + 1)) := Nat.mod_lt _ (Nat.pow_pos (by omega))
  have h2 := Nat.mul_le_mul_left (2 ^ (8 * (r + 1))) h1
  rw [← Nat.pow_add, show 8 * (r + 1) + (64 - 8 * (r + 1)) = 64 by omega, Nat.mul_add, Nat.mul_one] at h2
  have : (2 : Nat) ^ 64 = 18446744073709551616 := by rfl
  omega

/-- the number that the first i bytes come to -/
theorem from_round {L b : List Int} {n i : Nat} (hL : L.length = 4) (hLd : DW L) (hb : Byt b) (hn : b.length = n) (hn32 : n ≤ 32) (hi : i < n) (hV : vW L = 256 ^ (n - i) * beV (b.take i)) :
    bits .or .u64 (el L ((n - 1 - i) / 8)) (el b i * 2 ^ (8 * ((n - 1 - i) % 8))) = el L ((n - 1 - i) / 8) + el b i * 2 ^ (8 * ((n - 1 - i) % 8)) ∧
    (0 ≤ el b i * 2 ^ (8 * ((n - 1 - i) % 8)) ∧ el b i * 2 ^ (8 * ((n - 1 - i) % 8)) ≤ 18446744073709551615) ∧
    Word (el L ((n - 1 - i) / 8) + el b i * 2 ^ (8 * ((n - 1 - i) % 8))) ∧
    vW (L.set ((n - 1 - i) / 8) (el L ((n - 1 - i) / 8) + el b i * 2 ^ (8 * ((n - 1 - i) % 8)))) = 256 ^ (n - (i + 1)) * beV (b.take (i + 1)) := by
  obtain ⟨k, ek⟩ : ∃ k, k = n - 1 - i := ⟨_, rfl⟩
  rw [← ek]
  have hUr := beV_range (hb.take i)
  obtain ⟨U, eU⟩ := Int.eq_ofNat_of_zero_le hUr.1
  have hx := hb.el i
  obtain ⟨x, ex⟩ := Int.eq_ofNat_of_zero_le hx.1
  have hLw : L = WN (vW L) := WN_of hL hLd rfl
  have hLr := vW_range hLd
  rw [hL] at hLr
  have hV' : vW L = ((256 ^ (k + 1) * U : Nat) : Int) := by rw [hV, eU, show n - i = k + 1 by omega]; simp
  have hUl : 256 ^ (k + 1) * U < 256 ^ 32 := by
    have : ((256 ^ (k + 1) * U : Nat) : Int) < 18446744073709551616 ^ 4 := by rw [← hV']; exact hLr.2
    have h2 : (18446744073709551616 : Int) ^ 4 = ((256 ^ 32 : Nat) : Int) := by simp only [Int.reducePow]; rfl
    rw [h2] at this
    exact Int.ofNat_lt.1 this
  obtain ⟨s1, s2⟩ := from_step U x k (by omega) hUl (by omega)
  have hel : el L (k / 8) = (((256 ^ (k + 1) * U) / 18446744073709551616 ^ (k / 8) % 18446744073709551616 : Nat) : Int) := by
    rw [hLw, el_WN _ _ (by omega), hV']
    simp
  have hsh : (el b i * 2 ^ (8 * (k % 8)) : Int) = ((x * 2 ^ (8 * (k % 8)) : Nat) : Int) := by rw [ex]; simp
  obtain ⟨E, eE⟩ : ∃ E, E = (256 ^ (k + 1) * U) / 18446744073709551616 ^ (k / 8) % 18446744073709551616 := ⟨_, rfl⟩
  obtain ⟨S, eS⟩ : ∃ S, S = x * 2 ^ (8 * (k % 8)) := ⟨_, rfl⟩
  rw [← eE, ← eS] at s1 s2
  rw [← eE] at hel
  rw [← eS] at hsh
  rw [hel, hsh]
  refine ⟨?_, by omega, by unfold Word; omega, ?_⟩
  · rw [bits_or_u64_nat E S (by omega) (by omega), s1]
    simp
  · unfold vW
    rw [dL_set _ _ _ _ (by omega), hel]
    have h1 : dL 18446744073709551616 L = 256 ^ (n - i) * beV (b.take i) := hV
    rw [h1, Go.Proofs.YtamfbmchamgddaaDoor.take_snoc' b i (by omega), beV_snoc, show n - i = k + 1 by omega, show n - (i + 1) = k by omega]
    have h2 : ((S : Int)) * 18446744073709551616 ^ (k / 8) = el b i * 256 ^ k := by
      rw [← hsh, show (18446744073709551616 : Int) ^ (k / 8) = 2 ^ (8 * (8 * (k / 8))) by rw [show 8 * (8 * (k / 8)) = 64 * (k / 8) by omega, Int.pow_mul]; rfl, Int.mul_assoc, ← Int.pow_add, show 8 * (k % 8) + 8 * (8 * (k / 8)) = 8 * k by omega, Int.pow_mul]
      rfl
    rw [show ((E : Int) + (S : Int) - (E : Int)) = (S : Int) by omega, h2, Int.pow_succ]
    grind
end Go.Proofs.YtamfbmchamgddaaDoor

/-
  FromBytes, fold.
-/
namespace Go.Proofs.YtamfbmchamgddaaDoor
set_option linter.unusedVariables false
set_option linter.unusedSimpArgs false
open Go.RowKit Go.Proofs.YtamfbmchamgddaaDoorW.PrintWords

set_option maxRecDepth 100000 in
set_option maxHeartbeats 1000000 in
theorem fromBytes_any (A : Option Addr) (n c : Nat) (b : List Int) (w : World) (hb : ReadsInt w .u8 A n b) (hbb : Byt b) (hn : n ≤ 32) :
    Calls Tryd.prog 57 #[.slice A n c] w fun e w' => e = .returned (arr (WN (beV b))) ∧ Below w.heap.size w w' := by
  have z53 : (Tryd.prog.info? 53).map (fun i => (i.zero, i.size)) = some (some (.agg ((List.replicate 4 (0 : Int)).map (Value.int .u64)).toArray), 4) := by kernel_rfl
  replace z53 := Go.Lib.hid z53
  have hB := Go.Lib.hid hb
  have hBb := Go.Lib.hid hbb
  have hlen := Go.Lib.hid hb.1
  clear hb hbb
  go_enter Tryd.func57, Tryd.ntmps57
  go_wp2_with (first
    | (refine ev_allocg (ty := 53) rfl rfl z53.out ?_; intro gr w1 h1 b1; change Blk w1 gr .u64 53 (List.replicate 4 0) at b1))
  have hO : Hid (∃ L : List Int, L.length = 4 ∧ DW L ∧ vW L = 256 ^ (n - 0) * beV (b.take 0) ∧ Blk w1 gr .u64 53 L ∧ Below w.heap.size w w1) :=
    Go.Lib.hid ⟨_, by simp, Dig.zeros (by omega) 4, by simp [vW, dL, beV], b1, h1.bel (Below.refl _ _) (Nat.le_refl _)⟩
  have hgr := h1.le
  clear h1 b1
  go_loopw [8] (fun i wr => ∃ k : Nat, k ≤ n ∧ i = .int .i64 k ∧ Hid (∃ L : List Int, L.length = 4 ∧ DW L ∧ vW L = 256 ^ (n - k) * beV (b.take k) ∧ Blk wr gr .u64 53 L ∧ Below w.heap.size w wr)) (fun i _ => n - (intOf i).toNat)
  case atStart => exact ⟨0, by omega, rfl, hO⟩
  case round =>
    obtain ⟨i, hi, rfl, hO⟩ := hrel
    obtain ⟨L, hl, hd, hv, bo, hbel⟩ := hO.out
    by_cases hlt : i < n
    · obtain ⟨f1, f2, f3, f4⟩ := from_round hl hd hBb.out hlen.out hn hlt hv
      obtain ⟨gb, ob, hA, hcb⟩ := rd_open (hB.out.below hbel) (by omega)
      subst hA
      have cb := hcb i hlt
      obtain ⟨x, ex⟩ : ∃ x, x = el b i := ⟨_, rfl⟩
      rw [← ex] at f1 f2 f3 f4 cb
      have hx : 0 ≤ x ∧ x ≤ 255 := by rw [ex]; exact hBb.out.el i
      obtain ⟨m, em⟩ : ∃ m, m = n - 1 - i := ⟨_, rfl⟩
      rw [← em] at f1 f2 f3 f4
      obtain ⟨j, ej⟩ : ∃ j, j = m / 8 := ⟨_, rfl⟩
      obtain ⟨r, er⟩ : ∃ r, r = m % 8 := ⟨_, rfl⟩
      simp only [← ej, ← er] at f1 f2 f3 f4
      have e1 : (n : Int) - 1 - (i : Int) = (m : Int) := by omega
      have e2 : (m : Int) / 8 = (j : Int) := by omega
      have e3 : (m : Int) % 8 = (r : Int) := by omega
      have hn1 : (0 : Int) ≤ (n : Int) - 1 := by omega
      have hwj : IntKind.i64.wrap (j : Int) = (j : Int) := by rw [IntKind.wrap_i64]; omega
      have hwr : IntKind.i64.wrap (r : Int) = (r : Int) := by rw [IntKind.wrap_i64]; omega
      have hw8 : IntKind.i64.wrap (8 * (r : Int)) = 8 * (r : Int) := by rw [IntKind.wrap_i64]; omega
      have htm : (m : Int).tmod 8 = (r : Int) := by rw [Int.tmod_eq_emod_of_nonneg (by omega)]; exact e3
      have htd : (m : Int).tdiv 8 = (j : Int) := by rw [Int.tdiv_eq_ediv_of_nonneg (by omega)]; exact e2
      have hn8 : (8 * (r : Int)).toNat = 8 * r := by omega
      have hp8 : (0 : Int) ≤ 8 * (r : Int) := by omega
      have hr8 : (r : Int) < 8 := by omega
      have hj4 : (j : Int) < 4 := by omega
      have hkn : (i : Int) < (n : Int) := by omega
      have hjl : j < 4 := by omega
      have hsh : IntKind.u64.wrap (x * 2 ^ (8 * r)) = x * 2 ^ (8 * r) := by rw [IntKind.wrap_u64]; exact Int.emod_eq_of_lt f2.1 (by have := f2.2; omega)
      obtain ⟨v, ev⟩ : ∃ v, v = el L j := ⟨_, rfl⟩
      have co := bo.cell j (by omega)
      have fo := bo.frozen j
      rw [← ev] at co f1 f3 f4
      have f1' : bits .or .u64 v (x * 2 ^ (8 * r)) = v + x * 2 ^ (8 * r) := f1
      obtain ⟨S, eS⟩ : ∃ S, S = v + x * 2 ^ (8 * r) := ⟨_, rfl⟩
      rw [← eS] at f1' f3 f4
      have hres : Hid ((L.set j S).length = 4 ∧ DW (L.set j S) ∧ vW (L.set j S) = 256 ^ (n - (i + 1)) * beV (b.take (i + 1))) := Go.Lib.hid ⟨by simp [hl], hd.put j S f3, f4⟩
      replace em := Go.Lib.hid em
      replace ej := Go.Lib.hid ej
      replace er := Go.Lib.hid er
      replace ev := Go.Lib.hid ev
      replace ex := Go.Lib.hid ex
      replace eS := Go.Lib.hid eS
      replace bo := Go.Lib.hid bo
      clear hO hl hd hv f1 f2 f3 f4 hcb
      go_wp2_with fail
      refine region_tail (C := fun w' => ∃ n, w' = wr.drewN n) 12 (by kernel_rfl) (by kernel_rfl) ⟨1, rfl⟩ ?_
      simp only [List.take_succ_cons, List.take_zero, List.drop_succ_cons, List.drop_zero]
      repeat quiet_step (fail)
      refine wpQuiet_nil ?_
      rintro _ ⟨nq, rfl⟩
      go_wp2_with fail
      go_roundw
      case rel =>
        refine ⟨i + 1, by omega, by go_num, Go.Lib.hid ⟨_, hres.out.1, hres.out.2.1, hres.out.2.2, ?_, ?_⟩⟩
        · exact (bo.out.drewN nq).set j S
        · exact (pw_below_drewN hbel nq).setCell hgr _
      case measure => simp [intOf]; omega
    · obtain rfl : i = n := by omega
      rw [List.take_of_length_le (by rw [hlen.out]; omega), Nat.sub_self, Int.pow_zero, Int.one_mul] at hv
      have hL := WN_of hl hd hv
      replace hl := Go.Lib.hid hl
      clear hO hd hv
      go_wp2_with (first
        | (refine ev_loadarr rfl rfl rfl bo Tryd.underlying53 rfl (by rw [hl.out]; kernel_rfl) ?_)
        | (refine ev_storearrg rfl rfl rfl bo rfl rfl (by rw [hl.out]; kernel_rfl) ?_; intro w7 h7 b7))
      refine bodyPost_ret (results_one rfl _ _ rfl b7 Tryd.underlying53 rfl (by rw [hl.out]; kernel_rfl)) rfl ⟨by rw [← hL], ?_⟩
      exact h7.bel hbel hbel.size hgr

/-! ### fold -/
structure Fo (Bs gr gn go g1 : Nat) (p : Par) (N X : Int) (w wr : World) : Prop where
  br : Blk wr gr .u64 67 (List.replicate 4 0)
  bn : Blk wr gn .u64 53 (WN N)
  bo : Blk wr go .u64 67 (WN (p.to X))
  b1 : Blk wr g1 .u64 67 (WN (p.to 1))
  h0 : Bs ≤ gr
  h1 : gr < gn
  h2 : gn < go
  h3 : go < g1
  bel : Below Bs w wr
theorem Fo.below {Bs gr gn go g1 : Nat} {p : Par} {N X : Int} {w wr w2 : World} (h : Fo Bs gr gn go g1 p N X w wr) (hB : Bs ≤ wr.heap.size) (hb : Below wr.heap.size wr w2) : Fo Bs gr gn go g1 p N X w w2 :=
  ⟨h.br.below hb, h.bn.below hb, h.bo.below hb, h.b1.below hb, h.h0, h.h1, h.h2, h.h3, h.bel.trans (hb.mono hB)⟩
theorem Fo.stored {Bs gr gn go g1 : Nat} {p : Par} {N X Y : Int} {w wr w2 : World} (h : Fo Bs gr gn go g1 p N X w wr) (hB : Bs ≤ wr.heap.size) (hs : Stored go wr w2) (hb : Blk w2 go .u64 67 (WN (p.to Y))) : Fo Bs gr gn go g1 p N Y w w2 := by
  have e1 := h.h1
  have e2 := h.h2
  have e3 := h.h3
  exact ⟨hs.blk h.br (by omega), hs.blk h.bn (by omega), hb, hs.blk h.b1 (by omega), h.h0, h.h1, h.h2, h.h3, hs.bel h.bel hB (by have := h.h0; omega)⟩
theorem half_step (N : Int) (hN : 0 ≤ N) (i : Nat) : N / 2 ^ i = 2 * (N / 2 ^ (i + 1)) + N / 2 ^ i % 2 := by
  have : N / 2 ^ (i + 1) = N / 2 ^ i / 2 := by rw [Int.pow_succ, Int.ediv_ediv_of_nonneg (Int.le_of_lt (Int.pow_pos (by omega)))]
  rw [this]
  omega

set_option maxRecDepth 100000 in
set_option maxHeartbeats 2000000 in
theorem fold_any (p : Par) (hp : p.Ok) (gp : Nat) (A : Option Addr) (n c : Nat) (b : List Int) (w : World) (hr : ReadsInt w .u8 A n b) (hbb : Byt b) (hn : n ≤ 32) (hb : Blk w gp .u64 55 p.mem) :
    Calls Tryd.prog 53 #[.pointer (some ⟨gp, 0, none⟩), .slice A n c] w fun e w' => e = .returned (arr (WN (p.to (beV b)))) ∧ Below w.heap.size w w' := by
  have z53 : (Tryd.prog.info? 53).map (fun i => (i.zero, i.size)) = some (some (.agg ((List.replicate 4 (0 : Int)).map (Value.int .u64)).toArray), 4) := by kernel_rfl
  have z67 : (Tryd.prog.info? 67).map (fun i => (i.zero, i.size)) = some (some (.agg ((List.replicate 4 (0 : Int)).map (Value.int .u64)).toArray), 4) := by kernel_rfl
  replace z53 := Go.Lib.hid z53
  replace z67 := Go.Lib.hid z67
  have hBp := Go.Lib.hid hb
  have hR := Go.Lib.hid hr
  have hBb := Go.Lib.hid hbb
  have hgp := hb.lt
  have hNr : 0 ≤ beV b ∧ beV b < RR := by
    have h := beV_range hbb
    rw [hr.1] at h
    refine ⟨h.1, Int.lt_of_lt_of_le h.2 ?_⟩
    have h2 : ((256 : Int) ^ n) ≤ 256 ^ 32 := by
      have := Nat.pow_le_pow_right (n := 256) (by omega) hn
      have h3 : ((256 ^ n : Nat) : Int) ≤ ((256 ^ 32 : Nat) : Int) := Int.ofNat_le.2 this
      simpa using h3
    have h4 : (256 : Int) ^ 32 = RR := by simp only [Int.reducePow]
    rw [h4] at h2
    exact h2
  obtain ⟨N, eN⟩ : ∃ N, N = beV b := ⟨_, rfl⟩
  rw [← eN] at hNr ⊢
  have hMr : 0 ≤ p.M ∧ p.M < RR := by have := hp.lo; have := hp.hi; omega
  have hcall : Hid (∀ W, Calls Tryd.prog 58 #[arr (WN N), arr (WN p.M)] W fun e w' => e = .returned (.bool (decide (N < p.M))) ∧ Below W.heap.size W w') := Go.Lib.hid (fun W => by
    have h := less_any (WN N) (WN p.M) W (WN_len _) (WN_len _) (WN_dig _) (WN_dig _)
    rw [vW_WN N hNr, vW_WN p.M hMr] at h
    exact h)
  have rM := hb.part 0 4 (by rw [Par.mem_len]; omega) (by omega)
  rw [mem_M] at rM
  replace rM := Go.Lib.hid rM
  have eN' := Go.Lib.hid eN
  have hNR := Go.Lib.hid hNr
  clear hr hbb hb eN hNr hMr
  obtain ⟨wn, ewn⟩ : ∃ wn, wn = WN N := ⟨_, rfl⟩
  have lwn : Hid (wn.length = 4) := Go.Lib.hid (by rw [ewn, WN_len])
  obtain ⟨wm, ewm⟩ : ∃ wm, wm = WN p.M := ⟨_, rfl⟩
  rw [← ewn, ← ewm] at hcall
  rw [← ewm] at rM
  obtain ⟨q, eq⟩ : ∃ q, q = decide (N < p.M) := ⟨_, rfl⟩
  rw [← eq] at hcall
  replace eq := Go.Lib.hid eq
  go_enter Tryd.func53, Tryd.ntmps53
  replace ewn := Go.Lib.hid ewn
  replace ewm := Go.Lib.hid ewm
  go_wp2_with (first
    | (refine ev_allocg (ty := 67) rfl rfl z67.out ?_; intro gr w1 h1 b1; change Blk w1 gr .u64 67 (List.replicate 4 0) at b1)
    | (go_at_call 57; refine (fromBytes_any A n c b _ (h1.rd hR.out) hBb.out hn).mono ?_; rintro e w2 ⟨rfl, hb2⟩; rw [← eN'.out, ← ewn.out]; replace b1 := b1.below hb2)
    | (refine ev_allocg (ty := 53) rfl rfl z53.out ?_; intro gn w3 h3 b3; change Blk w3 gn .u64 53 (List.replicate 4 0) at b3; replace b1 := h3.blk b1)
    | (refine ev_storearrg rfl rfl rfl b3 rfl (by rw [lwn.out]; simp) (by rw [lwn.out]; kernel_rfl) ?_; intro w4 h4 b4))
  have e1 := h1.le
  have s1 := h1.size
  have s2 := hb2.size
  have e3 := h3.le
  have s3 := h3.size
  have s4 := h4.size
  have hbel4 : Below w.heap.size w w4 := h4.bel (h3.bel (below_then (h1.bel (Below.refl _ _) (Nat.le_refl _)) (by omega) hb2) (by omega)) (by omega) (by omega)
  have b14 := h4.blk b1 (by omega)
  have hrn : gr < gn := by omega
  have hgn4 : gn < w4.heap.size := by omega
  have hwr : w.heap.size ≤ gr := e1
  have hsz4 := hbel4.size
  replace b14 := Go.Lib.hid b14
  clear h1 hb2 h3 h4 b1 b3 e1 s1 s2 e3 s3 s4
  -- less?
  obtain ⟨TT, f, neT, hf, hs⟩ := class_type (fun w' => Below w4.heap.size w4 w') w4 (Below.refl _ _)
  have rn4 := rd_len (b4.reads (by rw [lwn.out]; omega)) lwn.out
  have rM4 := rM.out.below hbel4
  have rn5 := Go.Lib.hid (fun z => rn4.below (hf z))
  have rM5 := Go.Lib.hid (fun z => rM4.below (hf z))
  replace hs := Go.Lib.hid hs
  clear hf rn4 rM4
  replace b4 := Go.Lib.hid b4
  refine region_eff f [false, false, false, false, false, true] (by kernel_rfl) (by kernel_rfl) (hs.out _ (Below.refl _ _).drew) ?_
  simp only [masked_cons, masked_out, masked_nil]
  refine wlk_pure fun K hK => ?_
  rw [if_pos (by rfl)]
  refine ⟨_, fun z => exec_load rfl rfl (run_loadVar_reads (rn5.out z) (by omega) Tryd.underlying53 (by kernel_rfl)), hK _ ?_⟩
  clear hK K
  iterate 3 (refine wlk_pure fun K hK => ?_; go_simp; refine hK _ ?_; clear hK K)
  refine wlk_pure fun K hK => ?_
  rw [if_pos (by rfl)]
  refine ⟨_, fun z => exec_load rfl rfl (run_loadVar_reads (rM5.out z) (by omega) Tryd.underlying53 (by kernel_rfl)), hK _ ?_⟩
  clear hK K
  refine wlk_eff fun K hK => ?_
  go_simp
  refine (hcall.out _).mono ?_
  rintro e w5 ⟨rfl, hb5⟩
  replace hb5 : Below w4.heap.size w4 w5 := (Below.refl _ _).drew.trans hb5
  refine hK _ _ (hs.out _ hb5) ?_
  clear hK K
  refine wlk_nil ?_
  have b45 := b4.out.below hb5
  have b15 := b14.out.below hb5
  have hbel5 := below_then hbel4 hsz4 hb5
  have s5 := hb5.size
  clear hb5 rn5 rM5 hs b4 b14
  cases q
  case' true =>
    have hto := Go.Lib.hid (to_any p hp gp N w5 hNR.out (hBp.out.below hbel5))
    rw [← ewn.out] at hto
    obtain ⟨R, eR⟩ : ∃ R, R = WN (p.to N) := ⟨_, rfl⟩
    rw [← eR] at hto
    have hRl : Hid (R.length = 4) := Go.Lib.hid (by rw [eR, WN_len])
    replace eR := Go.Lib.hid eR
    go_wp2_with (first
      | (refine ev_loadarr (x := .tmp 5) rfl rfl rfl b45 Tryd.underlying53 rfl (by rw [lwn.out]; kernel_rfl) ?_)
      | (go_at_call 59; refine hto.out.mono ?_; rintro e w6 ⟨rfl, hb6⟩; have b16 := b15.below hb6)
      | (refine ev_storearrg rfl rfl rfl b16 rfl (by rw [hRl.out]; simp) (by rw [hRl.out]; kernel_rfl) ?_; intro w7 h7 b7))
    have hbel6 := below_then hbel5 hbel5.size hb6
    refine bodyPost_ret (results_one rfl _ _ rfl b7 Tryd.underlying67 rfl (by rw [hRl.out]; kernel_rfl)) rfl ⟨by rw [eR.out], h7.bel hbel6 hbel6.size hwr⟩
  case' false =>
    obtain ⟨R1, eR1⟩ : ∃ R1, R1 = WN (p.to 1) := ⟨_, rfl⟩
    have hR1 : Hid (R1.length = 4) := Go.Lib.hid (by rw [eR1, WN_len])
    replace eR1 := Go.Lib.hid eR1
    go_wp2_with (first
      | (refine ev_allocg (ty := 67) rfl rfl z67.out ?_; intro go w6 h6 b6; change Blk w6 go .u64 67 (List.replicate 4 0) at b6))
    have b46 := h6.blk b45
    have b16 := h6.blk b15
    have e6 := h6.le
    have s6 := h6.size
    have hbel6 := h6.bel hbel5 hbel5.size
    have hgo : gn < go := by omega
    clear h6 b45 b15
    refine (one_any p hp gp _ (hBp.out.below hbel6)).mono ?_
    rintro e w7 ⟨rfl, hb7⟩
    rw [← eR1.out]
    have b47 := b46.below hb7
    have b17 := b16.below hb7
    have b67 := b6.below hb7
    have hbel7 := below_then hbel6 hbel6.size hb7
    have s7 := hb7.size
    clear b46 b16 b6 hb7 hbel6
    go_wp2_with (first
      | (refine ev_allocg (ty := 67) rfl rfl z67.out ?_; intro g1 w8 h8 b8; change Blk w8 g1 .u64 67 (List.replicate 4 0) at b8)
      | (refine ev_storearrg rfl rfl rfl b8 rfl (by rw [hR1.out]; simp) (by rw [hR1.out]; kernel_rfl) ?_; intro w9 h9 b9))
    have e8 := h8.le
    have s8 := h8.size
    have s9 := h9.size
    have hF : Hid (Fo w.heap.size gr gn go g1 p N (N / 2 ^ (256 - 0)) w w9) := Go.Lib.hid (by
      have hz : N / 2 ^ (256 - 0) = 0 := Int.ediv_eq_zero_of_lt hNR.out.1 (by have := hNR.out.2; simp only [Nat.sub_zero, Int.reducePow]; exact this)
      have hz2 : WN (p.to 0) = List.replicate 4 0 := by unfold Par.to; rw [Int.zero_mul, Int.zero_emod]; rfl
      rw [hz]
      refine ⟨h9.blk (h8.blk b17) (by omega), ?_, ?_, ?_, hwr, hrn, hgo, by omega, h9.bel (h8.bel hbel7 hbel7.size) (by have := hbel7.size; omega) (by omega)⟩
      · rw [← ewn.out]; exact h9.blk (h8.blk b47) (by omega)
      · rw [hz2]; exact h9.blk (h8.blk b67) (by omega)
      · rw [← eR1.out]; exact b9)
    clear h8 h9 b8 b9 b47 b17 b67 e8 s8 s9 s7 e6 s6
    go_loopw [8] (fun i wr => ∃ k : Nat, k ≤ 256 ∧ i = .int .i64 (255 - (k : Int)) ∧ Hid (Fo w.heap.size gr gn go g1 p N (N / 2 ^ (256 - k)) w wr)) (fun i _ => (intOf i + 1).toNat)
    case atStart => exact ⟨0, by omega, rfl, hF⟩
    case round =>
      obtain ⟨k, hk, rfl, hF⟩ := hrel
      by_cases hlt : k < 256
      · obtain ⟨i, ei⟩ : ∃ i, i = 255 - k := ⟨_, rfl⟩
        have hii : 255 - (k : Int) = (i : Int) := by omega
        have hge : (0 : Int) ≤ (i : Int) := by omega
        have hi255 : (i : Int) ≤ 255 := by omega
        have bo := hF.out.bo
        have hstep := half_step N hNR.out.1 i
        obtain ⟨X, eX⟩ : ∃ X, X = N / 2 ^ (256 - k) := ⟨_, rfl⟩
        rw [show i + 1 = 256 - k from by omega, ← eX] at hstep
        rw [← eX] at hF bo
        obtain ⟨bt, ebt⟩ : ∃ bt, bt = N / 2 ^ i % 2 := ⟨_, rfl⟩
        have hbt : bt = 0 ∨ bt = 1 := by omega
        rw [← ebt] at hstep
        have hx := to_range hp X
        have hadd := Go.Lib.hid (fun W (hB : Blk W gp .u64 55 p.mem) => add_any p hp gp (p.to X) (p.to X) W hx hx hB)
        have hbit := Go.Lib.hid (fun W => bit_any N i W hNR.out.1 (by omega))
        rw [add_to] at hadd
        rw [← ebt, ← ewn.out] at hbit
        obtain ⟨L, eL⟩ : ∃ L, L = WN (p.to X) := ⟨_, rfl⟩
        obtain ⟨L2, eL2⟩ : ∃ L2, L2 = WN (p.to (X + X)) := ⟨_, rfl⟩
        rw [← eL, ← eL2] at hadd
        rw [← eL] at bo
        have hLl : Hid (L.length = 4 ∧ L2.length = 4) := Go.Lib.hid (by rw [eL, eL2]; exact ⟨WN_len _, WN_len _⟩)
        replace eX := Go.Lib.hid eX
        replace ebt := Go.Lib.hid ebt
        replace eL := Go.Lib.hid eL
        replace eL2 := Go.Lib.hid eL2
        replace ei := Go.Lib.hid ei
        replace hstep := Go.Lib.hid hstep
        rw [hii]
        clear hx hii
        go_wp2_with (first
          | (refine ev_loadarr (x := .tmp 6) rfl rfl rfl bo Tryd.underlying67 rfl (by rw [hLl.out.1]; kernel_rfl) ?_))
        have hbr := hF.bel
        have hsr := hbr.size
        refine (hadd.out _ (hBp.out.below hbr)).mono ?_
        rintro e w10 ⟨rfl, hb10⟩
        have hF10 := hF.below hsr hb10
        have bo10 := hF10.bo
        rw [← eL.out] at bo10
        clear hF bo
        go_wp2_with (first
          | (refine ev_storearrg rfl rfl rfl bo10 rfl (by rw [hLl.out.1, hLl.out.2]) (by rw [hLl.out.2]; kernel_rfl) ?_; intro w11 h11 b11; rw [eL2.out] at b11; have hF11 := hF10.stored hF10.bel.size h11 b11; have bn11 := hF11.bn; rw [← ewn.out] at bn11)
          | (refine ev_loadarr (x := .tmp 5) rfl rfl rfl bn11 Tryd.underlying53 rfl (by rw [lwn.out]; kernel_rfl) ?_))
        refine (hbit.out _).mono ?_
        rintro e w12 ⟨rfl, hb12⟩
        have hF12 := hF11.below hF11.bel.size hb12
        clear hF10 hF11 bo10 bn11 hb12 h11 b11 hb10
        rcases hbt with rfl | rfl
        · have hX : Hid (N / 2 ^ (256 - (k + 1)) = X + X) := Go.Lib.hid (by have h1 := hstep.out; rw [show 256 - (k + 1) = i by have := ei.out; omega]; omega)
          go_wp2_with fail
          go_roundw
          case rel => exact ⟨k + 1, by omega, by rw [show (255 : Int) - ((k + 1 : Nat) : Int) = (i : Int) - 1 by have := ei.out; omega], Go.Lib.hid (by rw [hX.out]; exact hF12)⟩
          case measure => simp [intOf]
        · have hX : Hid (N / 2 ^ (256 - (k + 1)) = X + X + 1) := Go.Lib.hid (by have h1 := hstep.out; rw [show 256 - (k + 1) = i by have := ei.out; omega]; omega)
          have hx2 := to_range hp (X + X)
          have h1r := to_range hp 1
          have hadd2 := Go.Lib.hid (fun W (hB : Blk W gp .u64 55 p.mem) => add_any p hp gp (p.to (X + X)) (p.to 1) W hx2 h1r hB)
          rw [add_to] at hadd2
          obtain ⟨L3, eL3⟩ : ∃ L3, L3 = WN (p.to (X + X + 1)) := ⟨_, rfl⟩
          rw [← eL3, ← eL2.out, ← eR1.out] at hadd2
          have hL3 : Hid (L3.length = 4) := Go.Lib.hid (by rw [eL3, WN_len])
          have bo12 := hF12.bo
          have b112 := hF12.b1
          rw [← eL2.out] at bo12
          rw [← eR1.out] at b112
          replace eL3 := Go.Lib.hid eL3
          replace hF12 := Go.Lib.hid hF12
          clear hx2 h1r
          go_wp2_with (first
            | (refine ev_loadarr (x := .tmp 6) rfl rfl rfl bo12 Tryd.underlying67 rfl (by rw [hLl.out.2]; kernel_rfl) ?_)
            | (refine ev_loadarr (x := .tmp 7) rfl rfl rfl b112 Tryd.underlying67 rfl (by rw [hR1.out]; kernel_rfl) ?_)
            | (go_at_call 39; refine (hadd2.out _ (hBp.out.below hF12.out.bel)).mono ?_; rintro e w13 ⟨rfl, hb13⟩; have hF13 := hF12.out.below hF12.out.bel.size hb13; have bo13 := hF13.bo; rw [← eL2.out] at bo13; replace hF13 := Go.Lib.hid hF13)
            | (refine ev_storearrg rfl rfl rfl bo13 rfl (by rw [hLl.out.2, hL3.out]) (by rw [hL3.out]; kernel_rfl) ?_; intro w14 h14 b14; rw [eL3.out] at b14; have hF14 := Go.Lib.hid (hF13.out.stored hF13.out.bel.size h14 b14)))
          go_roundw
          case rel => exact ⟨k + 1, by omega, by rw [show (255 : Int) - ((k + 1 : Nat) : Int) = (i : Int) - 1 by have := ei.out; omega], Go.Lib.hid (by rw [hX.out]; exact hF14.out)⟩
          case measure => simp [intOf]
      · obtain rfl : k = 256 := by omega
        rw [show 255 - ((256 : Nat) : Int) = -1 from rfl]
        have hz : N / 2 ^ (256 - 256) = N := by simp
        rw [hz] at hF
        obtain ⟨R, eR⟩ : ∃ R, R = WN (p.to N) := ⟨_, rfl⟩
        have hRl : Hid (R.length = 4) := Go.Lib.hid (by rw [eR, WN_len])
        have bo := hF.bo
        have br := hF.br
        have hbel := hF.bel
        rw [← eR] at bo
        replace eR := Go.Lib.hid eR
        clear hF hz
        go_wp2_with (first
          | (refine ev_loadarr (x := .tmp 6) rfl rfl rfl bo Tryd.underlying67 rfl (by rw [hRl.out]; kernel_rfl) ?_)
          | (refine ev_storearrg rfl rfl rfl br rfl (by rw [hRl.out]; simp) (by rw [hRl.out]; kernel_rfl) ?_; intro w7 h7 b7))
        refine bodyPost_ret (results_one rfl _ _ rfl b7 Tryd.underlying67 rfl (by rw [hRl.out]; kernel_rfl)) rfl ⟨by rw [eR.out], h7.bel hbel hbel.size hwr⟩
end Go.Proofs.YtamfbmchamgddaaDoor

/-
  Reduce.
-/
namespace Go.Proofs.YtamfbmchamgddaaDoor
set_option linter.unusedVariables false
set_option linter.unusedSimpArgs false
open Go.RowKit Go.Proofs.YtamfbmchamgddaaDoorW.PrintWords

theorem beV_app (a b : List Int) : beV (a ++ b) = 256 ^ b.length * beV a + beV b := by
  unfold beV
  rw [List.reverse_append, dL_app, List.length_reverse]
  omega
theorem pow32 : (256 : Int) ^ 32 = RR := by simp only [Int.reducePow]

/-- part of a slice that is read -/
theorem rd_sub {w : World} {k : IntKind} {g o n : Nat} {xs : List Int} (h : ReadsInt w k (some ⟨g, o, none⟩) n xs) (i m : Nat) (hi : i + m ≤ n) : ReadsInt w k (some ⟨g, o + i, none⟩) m ((xs.drop i).take m) := by
  obtain ⟨h1, h2, h3⟩ := h
  refine ⟨by simp; omega, by omega, fun hm => ⟨_, rfl, fun j hj => ?_⟩⟩
  obtain ⟨ad, ha, hc⟩ := h3 (by omega)
  obtain rfl := Option.some.inj ha
  have := hc (i + j) (by omega)
  rw [add_off] at this ⊢
  rw [Nat.add_assoc, this]
  simp [List.getD_eq_getElem?_getD, List.getElem?_take, hj]

theorem rd_take {w : World} {k : IntKind} {A : Option Addr} {n : Nat} {xs : List Int} (h : ReadsInt w k A n xs) (m : Nat) (hm : m ≤ n) : ReadsInt w k A m (xs.take m) := by
  obtain ⟨h1, h2, h3⟩ := h
  refine ⟨by simp; omega, by omega, fun hm0 => ?_⟩
  obtain ⟨ad, ha, hc⟩ := h3 (by omega)
  refine ⟨ad, ha, fun j hj => ?_⟩
  rw [hc j (by omega)]
  simp [List.getD_eq_getElem?_getD, List.getElem?_take, hj]
theorem to_to {p : Par} (X : Int) : p.to (p.to X) = p.to (X * RR) := by
  unfold Par.to
  rw [Int.mul_emod, Int.emod_emod_of_dvd _ (Int.dvd_refl _), ← Int.mul_emod]
def lenV : Value → Nat
  | .slice _ n _ => n
  | _ => 0

structure Rd (Bs gr gx : Nat) (p : Par) (X : Int) (w wr : World) : Prop where
  br : Blk wr gr .u64 53 (List.replicate 4 0)
  bx : Blk wr gx .u64 67 (WN (p.to X))
  h0 : Bs ≤ gr
  h1 : gr < gx
  bel : Below Bs w wr
theorem Rd.below {Bs gr gx : Nat} {p : Par} {X : Int} {w wr w2 : World} (h : Rd Bs gr gx p X w wr) (hB : Bs ≤ wr.heap.size) (hb : Below wr.heap.size wr w2) : Rd Bs gr gx p X w w2 :=
  ⟨h.br.below hb, h.bx.below hb, h.h0, h.h1, h.bel.trans (hb.mono hB)⟩
theorem Rd.stored {Bs gr gx : Nat} {p : Par} {X Y : Int} {w wr w2 : World} (h : Rd Bs gr gx p X w wr) (hB : Bs ≤ wr.heap.size) (hs : Stored gx wr w2) (hb : Blk w2 gx .u64 67 (WN (p.to Y))) : Rd Bs gr gx p Y w w2 :=
  ⟨hs.blk h.br (by have := h.h1; omega), hb, h.h0, h.h1, hs.bel h.bel hB (by have := h.h0; have := h.h1; omega)⟩

set_option maxRecDepth 100000 in
set_option maxHeartbeats 2000000 in
theorem reduce_any (p : Par) (hp : p.Ok) (gp : Nat) (A : Option Addr) (n c : Nat) (b : List Int) (w : World) (hr : ReadsInt w .u8 A n b) (hbb : Byt b) (hn : n ≤ 1024) (hnc : n ≤ c) (hb : Blk w gp .u64 55 p.mem) :
    Calls Tryd.prog 30 #[.pointer (some ⟨gp, 0, none⟩), .slice A n c] w fun e w' => e = .returned (arr (WN (beV b % p.M))) ∧ Below w.heap.size w w' := by
  have z53 : (Tryd.prog.info? 53).map (fun i => (i.zero, i.size)) = some (some (.agg ((List.replicate 4 (0 : Int)).map (Value.int .u64)).toArray), 4) := by kernel_rfl
  have z67 : (Tryd.prog.info? 67).map (fun i => (i.zero, i.size)) = some (some (.agg ((List.replicate 4 (0 : Int)).map (Value.int .u64)).toArray), 4) := by kernel_rfl
  replace z53 := Go.Lib.hid z53
  replace z67 := Go.Lib.hid z67
  have hBp := Go.Lib.hid hb
  have hR := Go.Lib.hid hr
  have hBb := Go.Lib.hid hbb
  have hgp := hb.lt
  have hbl := Go.Lib.hid hr.1
  obtain ⟨i8, hi8, _, hz8, _⟩ := info_parts info_b8
  replace hi8 := Go.Lib.hid hi8
  replace hz8 := Go.Lib.hid hz8
  clear hr hbb hb
  go_enter Tryd.func30, Tryd.ntmps30
  go_wp2_with (first
    | (refine ev_allocg (ty := 53) rfl rfl z53.out ?_; intro gr w1 h1 b1; change Blk w1 gr .u64 53 (List.replicate 4 0) at b1)
    | (refine ev_allocg (ty := 67) rfl rfl z67.out ?_; intro gx w2 h2 b2; change Blk w2 gx .u64 67 (List.replicate 4 0) at b2))
  have e1 := h1.le
  have s1 := h1.size
  have e2 := h2.le
  have hz2 : WN (p.to 0) = List.replicate 4 0 := by unfold Par.to; rw [Int.zero_mul, Int.zero_emod]; rfl
  have hF : Hid (Rd w.heap.size gr gx p 0 w w2) := Go.Lib.hid ⟨h2.blk b1, by rw [hz2]; exact b2, e1, by omega, h2.bel (h1.bel (Below.refl _ _) (Nat.le_refl _)) (by omega)⟩
  clear h1 h2 b1 b2 hz2 e1 s1 e2
  -- what is over
  obtain ⟨r, er⟩ : ∃ r, r = n % 32 := ⟨_, rfl⟩
  have hr32 : r < 32 := by omega
  have hrn : r ≤ n := by omega
  have hrm : (n : Int) % 32 = (r : Int) := by rw [er]; omega
  have hnr : (n - r) % 32 = 0 := by omega
  replace er := Go.Lib.hid er
  simp only [Act.put, List.setIfInBounds_toArray, List.set_cons_succ, List.set_cons_zero]
  go_loopw [1] (fun v wr => ∃ (A' : Option Addr) (d : Nat), (d = 0 ∨ d = r) ∧ v = .slice A' (n - d) (c - d) ∧ Hid (ReadsInt w .u8 A' (n - d) (b.drop d)) ∧ Hid (Rd w.heap.size gr gx p (beV (b.take d)) w wr)) (fun v _ => lenV v)
  case atStart =>
    exact ⟨A, 0, .inl rfl, rfl, Go.Lib.hid (by simpa using hR.out), by simpa [beV, dL] using hF⟩
  case round =>
    obtain ⟨A', d, hd, rfl, hRd, hF⟩ := hrel
    by_cases hgo : d = r
    · -- nothing is over
      subst hgo
      have hm0 : ((n - d : Nat) : Int) % 32 = 0 := by omega
      obtain ⟨wo, rfl⟩ : ∃ wo : World, wo = wr := ⟨_, rfl⟩
      go_wp2_with fail
      go_loopw [1] (fun v wr => ∃ (A' : Option Addr) (d : Nat), d ≤ n ∧ (n - d) % 32 = 0 ∧ v = .slice A' (n - d) (c - d) ∧ Hid (ReadsInt w .u8 A' (n - d) (b.drop d)) ∧ Hid (Rd w.heap.size gr gx p (beV (b.take d)) w wr)) (fun v _ => lenV v)
      case atStart => exact ⟨A', d, hrn, by omega, rfl, hRd, hF⟩
      case round =>
        clear hRd hF
        obtain ⟨A', d, hdn, hd32, rfl, hRd, hF⟩ := hrel
        by_cases hlt : d < n
        · have hlen : (0 : Int) < ((n - d : Nat) : Int) := by omega
          have h32 : (32 : Int) ≤ ((n - d : Nat) : Int) := by omega
          have h32c : (32 : Int) ≤ ((c - d : Nat) : Int) := by omega
          obtain ⟨A2, hcut, hA2⟩ := print_cut (P := Tryd.prog) 23 5 .i64 Tryd.underlying23 hi8.out hz8.out A' (n - d) (c - d) 32 (by omega)
          rw [show ((32 : Nat) : Int) = 32 from rfl] at hcut
          obtain ⟨X, eX⟩ : ∃ X, X = beV (b.take d) := ⟨_, rfl⟩
          rw [← eX] at hF
          obtain ⟨C, eC⟩ : ∃ C, C = (b.drop d).take 32 := ⟨_, rfl⟩
          have hCb : Hid (Byt C) := Go.Lib.hid (by rw [eC]; exact (hBb.out.drop _).take _)
          have hnext : Hid (beV (b.take (d + 32)) = X * RR + beV C) := Go.Lib.hid (by
            rw [List.take_add, beV_app, ← eC, ← eX, show C.length = 32 by rw [eC]; simp [hbl.out]; omega, pow32, Int.mul_comm])
          have hrc := Go.Lib.hid (fun W (h : Below w.heap.size w W) => (rd_take hRd.out 32 (by omega)).below h)
          rw [← eC] at hrc
          have hrn2 := Go.Lib.hid (hA2 w .u8 (b.drop d) (by omega) hRd.out)
          obtain ⟨L, eL⟩ : ∃ L, L = WN (p.to X) := ⟨_, rfl⟩
          have hLl : Hid (L.length = 4) := Go.Lib.hid (by rw [eL, WN_len])
          obtain ⟨sq, esq⟩ : ∃ sq, sq = WN p.sq := ⟨_, rfl⟩
          have hxr := to_range hp X
          have hsr : 0 ≤ p.sq ∧ p.sq < p.M := by rw [hp.hsq]; exact ⟨Int.emod_nonneg _ (by have := hp.pos; omega), Int.emod_lt_of_pos _ hp.pos⟩
          have hmul := Go.Lib.hid (fun W (hB : Blk W gp .u64 55 p.mem) => mul_any p hp gp (p.to X) p.sq W ⟨hxr.1, by have := hp.hi; omega⟩ hsr hB)
          rw [to_eq hp, to_to, ← eL, ← esq] at hmul
          obtain ⟨L2, eL2⟩ : ∃ L2, L2 = WN (p.to (X * RR)) := ⟨_, rfl⟩
          have hadd := Go.Lib.hid (fun W (hB : Blk W gp .u64 55 p.mem) => add_any p hp gp (p.to (X * RR)) (p.to (beV C)) W (to_range hp _) (to_range hp _) hB)
          rw [add_to, ← eL2] at hadd
          rw [← eL2] at hmul
          obtain ⟨L3, eL3⟩ : ∃ L3, L3 = WN (p.to (beV C)) := ⟨_, rfl⟩
          obtain ⟨L4, eL4⟩ : ∃ L4, L4 = WN (p.to (X * RR + beV C)) := ⟨_, rfl⟩
          rw [← eL3, ← eL4] at hadd
          have hL4 : Hid (L4.length = 4) := Go.Lib.hid (by rw [eL4, WN_len])
          have bx := hF.out.bx
          rw [← eL] at bx
          have hbelr := hF.out.bel
          have hsr2 := hbelr.size
          have rS := hBp.out.below hbelr |>.part 9 4 (by rw [Par.mem_len]; omega) (by omega)
          rw [mem_sq, ← esq] at rS
          have hgx : gp ≠ gx := by have := hF.out.h0; have := hF.out.h1; omega
          obtain ⟨TT, f, neT, hf, hs⟩ := class_type (fun w' => ReadsInt w' .u64 (some ⟨gp, 9, none⟩) 4 sq) wr rS
          have rS4 := Go.Lib.hid hf
          replace hs := Go.Lib.hid hs
          replace rS := Go.Lib.hid rS
          replace eX := Go.Lib.hid eX
          replace eL := Go.Lib.hid eL
          replace eL2 := Go.Lib.hid eL2
          replace eL3 := Go.Lib.hid eL3
          replace eL4 := Go.Lib.hid eL4
          replace esq := Go.Lib.hid esq
          replace eC := Go.Lib.hid eC
          clear hf hxr hsr hA2
          obtain ⟨wo2, rfl⟩ : ∃ wo2 : World, wo2 = wr := ⟨_, rfl⟩
          go_wp2_with fail
          refine region_eff f [false, false, true, false, false, false, false, true, false, false, false, true, true, true] (by kernel_rfl) (by kernel_rfl) (hs.out _ (rS.out.below (Below.refl _ _).drew)) ?_
          simp only [masked_cons, masked_out, masked_nil]
          repeat (refine wlk_pure fun K hK => ?_; go_simp; refine hK _ ?_; clear hK K)
          refine wlk_list ?_ rfl
          refine ev_loadarr rfl rfl rfl (bx.drew) Tryd.underlying67 rfl (by rw [hLl.out]; kernel_rfl) ?_
          refine ⟨rfl, hs.out _ (rS.out.below (Below.refl _ _).drew), ?_⟩
          iterate 3 (refine wlk_pure fun K hK => ?_; go_simp; refine hK _ ?_; clear hK K)
          refine wlk_pure fun K hK => ?_
          rw [if_pos (by rfl)]
          refine ⟨_, fun z => exec_load rfl rfl (run_loadVar_reads (rS4.out z) (by omega) Tryd.underlying53 (by kernel_rfl)), hK _ ?_⟩
          clear hK K
          refine wlk_eff fun K hK => ?_
          go_simp
          refine (hmul.out _ ((hBp.out.below hbelr).drew)).mono ?_
          rintro e w5 ⟨rfl, hb5⟩
          replace hb5 : Below wo2.heap.size wo2 w5 := (Below.refl _ _).drew.trans hb5
          refine hK _ _ (hs.out _ (rS.out.below hb5)) ?_
          clear hK K
          repeat (refine wlk_pure fun K hK => ?_; go_simp; refine hK _ ?_; clear hK K)
          refine wlk_eff fun K hK => ?_
          go_simp
          refine (fold_any p hp gp _ _ _ C _ (hrc.out _ (below_then hbelr hsr2 hb5)) hCb.out (by omega) (hBp.out.below (below_then hbelr hsr2 hb5))).mono ?_
          rintro e w6 ⟨rfl, hb6⟩
          replace hb6 := below_then hb5 hb5.size hb6
          refine hK _ _ (hs.out _ (rS.out.below hb6)) ?_
          clear hK K
          rw [← eL3.out]
          refine wlk_eff fun K hK => ?_
          go_simp
          refine (hadd.out _ (hBp.out.below (below_then hbelr hsr2 hb6))).mono ?_
          rintro e w7 ⟨rfl, hb7⟩
          replace hb7 := below_then hb6 hb6.size hb7
          refine hK _ _ (hs.out _ (rS.out.below hb7)) ?_
          clear hK K
          refine wlk_list ?_ rfl
          refine ev_storearrg rfl rfl rfl (bx.below hb7) rfl (by rw [hLl.out, hL4.out]) (by rw [hL4.out]; kernel_rfl) ?_
          intro w8 h8 b8
          refine ⟨rfl, hs.out _ (rd_grown (rS.out.below hb7) h8.grown (by simp; exact hgx)), ?_⟩
          refine wlk_nil ?_
          rw [eL4.out] at b8
          have hF8 := Go.Lib.hid ((hF.out.below hsr2 hb7).stored (by have := hb7.size; omega) h8 b8)
          go_wp2_with fail
          go_roundw
          case rel =>
            refine ⟨A2, d + 32, by omega, by omega, ?_, ?_, ?_⟩
            · rw [show n - d - 32 = n - (d + 32) by omega, show c - d - 32 = c - (d + 32) by omega]
            · have h := hrn2.out
              rw [show n - d - 32 = n - (d + 32) by omega] at h
              rw [List.drop_drop] at h
              exact Go.Lib.hid h
            · rw [hnext.out]; exact hF8
          case measure => simp [lenV]; omega
        · obtain rfl : n = d := by omega
          obtain ⟨X, eX⟩ : ∃ X, X = beV (b.take n) := ⟨_, rfl⟩
          have hXn : Hid (beV b = X) := Go.Lib.hid (by rw [eX, List.take_of_length_le (by rw [hbl.out]; omega)])
          rw [← eX] at hF
          have hxr := to_range hp X
          have hfr := Go.Lib.hid (fun W (hB : Blk W gp .u64 55 p.mem) => from_any p hp gp X W hB)
          obtain ⟨wo2, rfl⟩ : ∃ wo2 : World, wo2 = wr := ⟨_, rfl⟩
          replace eX := Go.Lib.hid eX
          have hbelr := hF.out.bel
          have hsr2 := hbelr.size
          have bx := hF.out.bx
          obtain ⟨R, eR⟩ : ∃ R, R = WN (X % p.M) := ⟨_, rfl⟩
          rw [← eR] at hfr
          have hRl : Hid (R.length = 4) := Go.Lib.hid (by rw [eR, WN_len])
          obtain ⟨L, eL⟩ : ∃ L, L = WN (p.to X) := ⟨_, rfl⟩
          rw [← eL] at hfr bx
          have hLl : Hid (L.length = 4) := Go.Lib.hid (by rw [eL, WN_len])
          replace eL := Go.Lib.hid eL
          replace eR := Go.Lib.hid eR
          have h0 := hF.out.h0
          have hB4 := Go.Lib.hid (hBp.out.below hbelr)
          have br := hF.out.br
          go_wp2_with (first
            | (refine ev_loadarr (x := .tmp 5) rfl rfl rfl bx Tryd.underlying67 rfl (by rw [hLl.out]; kernel_rfl) ?_)
            | (go_at_call 54; refine (hfr.out _ hB4.out).mono ?_; rintro e w4 ⟨rfl, hb4⟩)
            | (refine ev_storearrg rfl rfl rfl (br.below hb4) rfl (by rw [hRl.out]; simp) (by rw [hRl.out]; kernel_rfl) ?_; intro w6 h6 b6))
          refine bodyPost_ret (results_one rfl _ _ rfl b6 Tryd.underlying53 rfl (by rw [hRl.out]; kernel_rfl)) rfl ⟨by rw [hXn.out, ← eR.out], h6.bel (below_then hbelr hsr2 hb4) (by have := hb4.size; omega) (by omega)⟩
    · -- the bytes that are over
      obtain rfl : d = 0 := by omega
      have hr0 : (r : Int) ≠ 0 := by omega
      have hrc : (r : Int) ≤ (c : Int) := by omega
      have hrn' : (r : Int) ≤ (n : Int) := by omega
      have hrp : (0 : Int) ≤ (r : Int) := by omega
      obtain ⟨A2, hcut, hA2⟩ := print_cut (P := Tryd.prog) 23 5 .i64 Tryd.underlying23 hi8.out hz8.out A' n c r (by omega)
      rw [Nat.sub_zero] at hRd
      rw [List.drop_zero] at hRd
      obtain ⟨C, eC⟩ : ∃ C, C = b.take r := ⟨_, rfl⟩
      have hCb : Hid (Byt C) := Go.Lib.hid (by rw [eC]; exact hBb.out.take _)
      have hrc2 := Go.Lib.hid (fun W (h : Below w.heap.size w W) => (rd_take hRd.out r hrn).below h)
      rw [← eC] at hrc2
      have hrn2 := Go.Lib.hid (hA2 w .u8 b (by omega) hRd.out)
      obtain ⟨L3, eL3⟩ : ∃ L3, L3 = WN (p.to (beV C)) := ⟨_, rfl⟩
      have hL3 : Hid (L3.length = 4) := Go.Lib.hid (by rw [eL3, WN_len])
      have hfold := Go.Lib.hid (fun W (h : Below w.heap.size w W) => fold_any p hp gp A' r c C W (hrc2.out _ h) hCb.out (by omega) (hBp.out.below h))
      rw [← eL3] at hfold
      have hbelr := hF.out.bel
      have hsr2 := hbelr.size
      have bx := hF.out.bx
      replace eL3 := Go.Lib.hid eL3
      replace eC := Go.Lib.hid eC
      clear hA2
      obtain ⟨wo2, rfl⟩ : ∃ wo2 : World, wo2 = wr := ⟨_, rfl⟩
      go_wp2_with (first
        | (go_at_call 53; refine (hfold.out _ hbelr).mono ?_; rintro e w4 ⟨rfl, hb4⟩)
        | (refine ev_storearrg rfl rfl rfl (bx.below hb4) rfl (by rw [hL3.out, WN_len]) (by rw [hL3.out]; kernel_rfl) ?_; intro w6 h6 b6))
      rw [eL3.out] at b6
      have hF6 := Go.Lib.hid ((hF.out.below hsr2 hb4).stored (by have := hb4.size; omega) h6 b6)
      go_roundw
      case rel =>
        refine ⟨A2, r, .inr rfl, rfl, hrn2, ?_⟩
        rw [← eC.out]
        exact hF6
      case measure => simp [lenV]; omega
end Go.Proofs.YtamfbmchamgddaaDoor

/-
  The four primes; Of; Modulus and Reduce of package field.
-/
namespace Go.Proofs.YtamfbmchamgddaaDoor
set_option linter.unusedVariables false
set_option linter.unusedSimpArgs false
open Go.RowKit Go.Proofs.YtamfbmchamgddaaDoorW.PrintWords

def par0 : Par := ⟨57896044618658097711785492504343953926634992332820282019728792003956564819949, 9708812670373448219, 38, 1444, 10665060850805439052171011777115991512801182798151104582581619579676209308938⟩
def par1 : Par := ⟨7237005577332262213973186563042994240857116359379907606001950938285454250989, 15183074304973897243, 7237005577332262213973186563042994240413239274941949949428319933631315875101, 1627715501170711445284395025044413883736156588369414752970002579683115011841, 4458503529701987551646482192314240623644693141688353256590997718326214331684⟩
def par2 : Par := ⟨115792089210356248762697446949407573530086143415290314195533631308867097853951, 1, 26959946660873538059280334323183841250350249843923952699046031785985, 134799733323198995502561713907086292154532538166959272814710328655875, 115792089183396302114378112356516095823261736990586219612555396166510339686400⟩
def par3 : Par := ⟨115792089210356248762697446949407573529996955224135760342422259061068512044369, 14758798090332847183, 26959946660873538059280334323273029441504803697035324946844617595567, 46533765739406314298121036767150998762426774378559716911348521029833835802274, 43790243014242295660885426880012836369732278457577312309071968676491870960761⟩
def par : Nat → Par
  | 0 => par0
  | 1 => par1
  | 2 => par2
  | _ => par3
theorem par0_ok : par0.Ok := ⟨by decide, by decide, by decide, by decide, by decide, by decide, by decide⟩
theorem par1_ok : par1.Ok := ⟨by decide, by decide, by decide, by decide, by decide, by decide, by decide⟩
theorem par2_ok : par2.Ok := ⟨by decide, by decide, by decide, by decide, by decide, by decide, by decide⟩
theorem par3_ok : par3.Ok := ⟨by decide, by decide, by decide, by decide, by decide, by decide, by decide⟩
theorem par_ok : ∀ k, (par k).Ok
  | 0 => par0_ok
  | 1 => par1_ok
  | 2 => par2_ok
  | _ + 3 => par3_ok

/-- The table of the primes, as the program lays it. -/
def Primes (w : World) : Prop := ∀ k, k < 4 → ReadsInt w .u64 (some ⟨0, k * 13, none⟩) 13 (par k).mem
theorem Primes.below {w w' : World} (h : Primes w) (hb : Below w.heap.size w w') : Primes w' := fun k hk => (h k hk).below hb

/-- a whole structure, out of a larger block -/
theorem exec_loadany {P : Program} {w : World} {p : Addr} {k : IntKind} {n : Nat} {xs : List Int} {ty : TypeId} {d : TypeDesc} (h : ReadsInt w k (some p) n xs) (hn : 0 < n) (hu : P.underlying ty = some d) (hd : (match d with | .struct _ | .array _ _ => true | _ => false) = true) (hi : (P.info? ty).map (·.size) = some n) :
    (loadVar ty p).run P w = .ok (.agg (xs.map (Value.int k)).toArray) w := by
  obtain ⟨hl, _, hc⟩ := h
  obtain ⟨ad, ha, hc⟩ := hc hn
  obtain rfl := Option.some.inj ha
  have h1 := run_loadCells_list (P := P) w p (xs.map (Value.int k)) (fun j v hv => by
    simp only [List.getElem?_map, Option.map_eq_some_iff] at hv
    obtain ⟨x, hx, rfl⟩ := hv
    have hj : j < xs.length := (List.getElem?_eq_some_iff.1 hx).1
    rw [hc j (by omega), List.getD_eq_getElem?_getD, hx]
    rfl)
  obtain ⟨i, hi1, hi2⟩ := Option.map_eq_some_iff.1 hi
  simp only [List.length_map, hl] at h1
  have hagg : (isAgg ty).run P w = .ok true w := by
    unfold isAgg
    rw [Sem.run_bind, run_underlying hu w]
    cases d <;> simp_all
  simp [loadVar, hagg, sizeOf, typeInfo, hi1, hi2, h1]
theorem ev_loadany {P : Program} {ops : Array Oper} {rest : List Oper} {o : Oper} {a : Act} {w : World} {Q : Exit → Act → World → Prop} (hgd : o.guard = none) {ty : TypeId} {x : Operand} (ho : o.op = .load ty x) {q : Addr} (hx : a.eval x = .pointer (some q)) {k : IntKind} {n : Nat} {xs : List Int} (hr : ReadsInt w k (some q) n xs) (hn : 0 < n)
    {d : TypeDesc} (hu : P.underlying ty = some d) (hd : (match d with | .struct _ | .array _ _ => true | _ => false) = true) (hi : (P.info? ty).map (·.size) = some n) (h : wpList P ops Q rest (a.put o.dst (.agg (xs.map (Value.int k)).toArray)) w) : wpList P ops Q (o :: rest) a w :=
  Kd.event_run hgd (exec_load ho hx (exec_loadany hr hn hu hd hi)) h

set_option maxRecDepth 100000 in
theorem of_not (k : Int) (w : World) (hk : ¬ (0 ≤ k ∧ k < 4)) :
    Calls Tryd.prog 28 #[.int .i64 k] w fun e w' => e = .returned (.tuple #[.pointer none, .bool false]) ∧ w' = w := by
  go_enter Tryd.func28, Tryd.ntmps28
  by_cases h0 : k < 0
  · go_wp2
    go_ret2
    exact ⟨rfl, rfl⟩
  · have h4 : 4 ≤ k := by omega
    go_wp2
    go_ret2
    exact ⟨rfl, rfl⟩

set_option maxRecDepth 100000 in
set_option maxHeartbeats 1000000 in
theorem of_any (k : Nat) (w : World) (hk : k < 4) (hL : Primes w) :
    Calls Tryd.prog 28 #[.int .i64 (k : Int)] w fun e w' => ∃ g, e = .returned (.tuple #[.pointer (some ⟨g, 0, none⟩), .bool true]) ∧ Blk w' g .u64 55 (par k).mem ∧ w.heap.size ≤ g ∧ Below w.heap.size w w' := by
  have z55 : (Tryd.prog.info? 55).map (fun i => (i.zero, i.size)) = some (some (.agg ((List.replicate 13 (0 : Int)).map (Value.int .u64)).toArray), 13) := by kernel_rfl
  replace z55 := Go.Lib.hid z55
  have hR := Go.Lib.hid (hL k hk)
  have hml := Go.Lib.hid (par k).mem_len
  obtain ⟨ms, ems⟩ : ∃ ms, ms = (par k).mem := ⟨_, rfl⟩
  rw [← ems] at hR hml ⊢
  clear hL ems
  have h0 : ¬ ((k : Int) < 0) := by omega
  have h4 : ¬ (4 ≤ (k : Int)) := by omega
  have h4' : (k : Int) < 4 := by omega
  go_enter Tryd.func28, Tryd.ntmps28
  go_wp2_with (first
    | (refine ev_loadany rfl rfl rfl hR.out (by omega) Tryd.underlying55 rfl (by kernel_rfl) ?_)
    | (refine ev_allocg (ty := 55) rfl rfl z55.out ?_; intro gr w3 h3 b3; change Blk w3 gr .u64 55 (List.replicate 13 0) at b3)
    | (refine ev_storearrg rfl rfl rfl b3 rfl (by rw [hml.out]; rfl) (by rw [hml.out]; kernel_rfl) ?_; intro w6 h6 b6))
  go_ret2
  exact ⟨_, rfl, b6, h3.le, h6.bel (h3.bel (Below.refl _ _) (Nat.le_refl _)) (by have := h3.size; have := h3.le; omega) h3.le⟩

theorem word_wgot (p : Par) (hp : p.Ok) : 0 ≤ p.M ∧ p.M < RR := ⟨by have := hp.pos; omega, hp.hi⟩

set_option maxRecDepth 100000 in
theorem modulus_not (k : Int) (w : World) (hk : ¬ (0 ≤ k ∧ k < 4)) :
    Calls Tryd.prog 7 #[.int .i64 k] w fun e w' => e = .returned (.tuple #[.slice none 0 0, .int .i64 2]) ∧ w' = w := by
  go_enter Tryd.func7, Tryd.ntmps7
  go_wp2_with (go_at_call 28; refine (of_not k w hk).mono ?_; rintro e w1 ⟨rfl, rfl⟩)
  go_ret2
  exact ⟨rfl, rfl⟩
set_option maxRecDepth 100000 in
theorem reduce_not (k : Int) (A : Option Addr) (n c : Nat) (w : World) (hk : ¬ (0 ≤ k ∧ k < 4)) :
    Calls Tryd.prog 9 #[.int .i64 k, .slice A n c] w fun e w' => e = .returned (.tuple #[.slice none 0 0, .int .i64 2]) ∧ w' = w := by
  go_enter Tryd.func9, Tryd.ntmps9
  go_wp2_with (go_at_call 28; refine (of_not k w hk).mono ?_; rintro e w1 ⟨rfl, rfl⟩)
  go_ret2
  exact ⟨rfl, rfl⟩
set_option maxRecDepth 100000 in
theorem reduce_long (k : Nat) (A : Option Addr) (n c : Nat) (w : World) (hk : k < 4) (hL : Primes w) (hn : 1024 < n) :
    Calls Tryd.prog 9 #[.int .i64 (k : Int), .slice A n c] w fun e w' => e = .returned (.tuple #[.slice none 0 0, .int .i64 1]) ∧ Below w.heap.size w w' := by
  have hn' : (1024 : Int) < (n : Int) := by omega
  go_enter Tryd.func9, Tryd.ntmps9
  go_wp2_with (go_at_call 28; refine (of_any k w hk hL).mono ?_; rintro e w1 ⟨gp, rfl, b1, e1, hb1⟩)
  go_ret2
  exact ⟨rfl, hb1⟩
set_option maxRecDepth 100000 in
set_option maxHeartbeats 1000000 in
theorem modulus_any (k : Nat) (w : World) (hk : k < 4) (hL : Primes w) :
    Calls Tryd.prog 7 #[.int .i64 (k : Int)] w fun e w' => ∃ g, e = .returned (.tuple #[.slice (some ⟨g, 0, none⟩) 32 32, .int .i64 0]) ∧ Blk w' g .u8 5 (beL 32 (par k).M) ∧ w.heap.size ≤ g ∧ Below w.heap.size w w' := by
  have hp := par_ok k
  have hof := Go.Lib.hid (of_any k w hk hL)
  obtain ⟨p, ep⟩ : ∃ p, p = par k := ⟨_, rfl⟩
  rw [← ep] at hof hp ⊢
  obtain ⟨l, el⟩ : ∃ l, l = WN p.M := ⟨_, rfl⟩
  have hll : Hid (l.length = 4) := Go.Lib.hid (by rw [el, WN_len])
  have hby := Go.Lib.hid (fun W => bytes_any p.M W (by have := hp.pos; omega))
  rw [← el] at hby
  obtain ⟨B, eB⟩ : ∃ B, B = beL 32 p.M := ⟨_, rfl⟩
  rw [← eB] at hby ⊢
  clear hL ep
  replace eB := Go.Lib.hid eB
  replace el := Go.Lib.hid el
  go_enter Tryd.func7, Tryd.ntmps7
  go_wp2_with (first
    | (go_at_call 28; refine hof.out.mono ?_; rintro e w1 ⟨gp, rfl, b1, e1, hb1⟩
       have rM := b1.part 0 4 (by rw [Par.mem_len]; omega) (by omega)
       rw [mem_M, ← el.out] at rM)
    | (refine ev_loadany rfl rfl rfl rM (by omega) Tryd.underlying53 rfl (by kernel_rfl) ?_)
    | (go_at_call 29; refine (hby.out _).mono ?_; rintro e w2 ⟨g, rfl, b2, e2, hb2⟩))
  have s1 := hb1.size
  go_ret2
  exact ⟨_, rfl, b2, by omega, below_then hb1 s1 hb2⟩
set_option maxRecDepth 100000 in
theorem reduce_ok (k : Nat) (A : Option Addr) (n c : Nat) (b : List Int) (w : World) (hk : k < 4) (hL : Primes w) (hr : ReadsInt w .u8 A n b) (hbb : Byt b) (hn : n ≤ 1024) (hnc : n ≤ c) :
    Calls Tryd.prog 9 #[.int .i64 (k : Int), .slice A n c] w fun e w' => ∃ g, e = .returned (.tuple #[.slice (some ⟨g, 0, none⟩) 32 32, .int .i64 0]) ∧ Blk w' g .u8 5 (beL 32 (beV b % (par k).M)) ∧ w.heap.size ≤ g ∧ Below w.heap.size w w' := by
  have hp := par_ok k
  have hn' : (n : Int) ≤ 1024 := by omega
  have hof := Go.Lib.hid (of_any k w hk hL)
  obtain ⟨p, ep⟩ : ∃ p, p = par k := ⟨_, rfl⟩
  rw [← ep] at hof hp ⊢
  obtain ⟨l, el⟩ : ∃ l, l = WN (beV b % p.M) := ⟨_, rfl⟩
  have hll : Hid (l.length = 4) := Go.Lib.hid (by rw [el, WN_len])
  have hby := Go.Lib.hid (fun W => bytes_any (beV b % p.M) W (Int.emod_nonneg _ (by have := hp.pos; omega)))
  have hre := Go.Lib.hid (fun gp W hW hB => reduce_any p hp gp A n c b W hW hbb hn hnc hB)
  rw [← el] at hby hre
  obtain ⟨B, eB⟩ : ∃ B, B = beL 32 (beV b % p.M) := ⟨_, rfl⟩
  rw [← eB] at hby ⊢
  clear hL ep
  replace eB := Go.Lib.hid eB
  replace el := Go.Lib.hid el
  replace hr := Go.Lib.hid hr
  go_enter Tryd.func9, Tryd.ntmps9
  go_wp2_with (first
    | (go_at_call 28; refine hof.out.mono ?_; rintro e w1 ⟨gp, rfl, b1, e1, hb1⟩)
    | (go_at_call 30; refine (hre.out gp _ (hr.out.below hb1) b1).mono ?_; rintro e w2 ⟨rfl, hb2⟩)
    | (go_at_call 29; refine (hby.out _).mono ?_; rintro e w3 ⟨g, rfl, b3, e3, hb3⟩))
  have s1 := hb1.size
  have s2 := hb2.size
  go_ret2
  exact ⟨_, rfl, b3, by omega, below_then (below_then hb1 s1 hb2) (by omega) hb3⟩
end Go.Proofs.YtamfbmchamgddaaDoor
