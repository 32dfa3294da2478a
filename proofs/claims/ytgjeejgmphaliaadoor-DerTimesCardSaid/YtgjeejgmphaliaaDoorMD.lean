/-
  Several texts in one.
-/
import Derived.Test.YtgjeejgmphaliaaDoorMC
import Derived.Deep.DeepCutAuto
/-
  The program's readClock, walked by hand, where the length and the end fit.
-/
namespace Go.Proofs.YtgjeejgmphaliaaDoor
set_option linter.unusedVariables false
set_option linter.unusedSimpArgs false
open Go.RowKit Go.Proofs.YtgjeejgmphaliaaDoorW.PrintWords PDerTimes


set_option maxRecDepth 100000 in
set_option maxHeartbeats 4000000 in
theorem rclock_any2 (A : Option Addr) (c : Nat) (b : List Int) (w : World) (hr : ReadsInt w .u8 A 13 b) (hbb : Byt b) (h : el b 12 = 90) :
    Calls Tryd.prog 42 #[.slice A 13 c, .int .i64 2] w fun e w' => e = .returned (.tuple #[.agg ((clkL b 2).map (Value.int .i64)).toArray, .bool (clkOk b 2)]) ∧ Below w.heap.size w w' := by
  have hsz : (Tryd.prog.info? 69).map (·.size) = some 6 := by kernel_rfl
  have hbl : ∀ (x y z : Obj), Below w.heap.size w (((w.alloc x).alloc y).alloc z) := fun x y z => (((Below.refl _ _).alloc (Nat.le_refl _) _).alloc (by simp) _).alloc (by simp; omega) _
  have hr' := Go.Lib.hid hr
  obtain ⟨g, o, rfl, hc⟩ := rd_open hr (by omega)
  have kc := hc 12 (by omega)
  rw [h] at kc
  have kc3 := pw_cell_below (hbl (Obj.cells #[Value.slice (some ⟨g, o, none⟩) 13 c] 22) (Obj.cells #[Value.int .i64 0, Value.int .i64 0, Value.int .i64 0, Value.int .i64 0, Value.int .i64 0, Value.int .i64 0] 69) (Obj.cells #[Value.bool false] 4)) kc
  clear hc hr hbl
  replace hbb := Go.Lib.hid hbb
  replace h := Go.Lib.hid h
  have hread := Go.Lib.hid (fun (n k k' : Nat) (ok ok' : Bool) (l : List Int) (W : World) (hn : n ≤ 4) (hk : k + n ≤ 13) (hk' : k' = k + n) (ho : ok' = (ok && okV b k n)) (hW : KS w (.slice (some ⟨g, o, none⟩) 13 c) l k ok W) => (read_any w.heap.size w.heap.size (w.heap.size + 1 + 1 + 1) (w.heap.size + 1 + 1) n 13 c k (some ⟨g, o, none⟩) b ok w W hW.rs hr'.out hbb.out hW.bel rfl (by omega) (by omega) hn hk).mono (fun e w' ⟨h1, h2⟩ => (⟨h1, hW.next h2 hk' ho⟩ : e = Ending.returned (.int .i64 (rdV b k n)) ∧ KS w (.slice (some ⟨g, o, none⟩) 13 c) l k' ok' w')))
  have hread2 := Go.Lib.hid (hread.out 2)
  rw [show ((2 : Nat) : Int) = 2 from rfl] at hread2
  have hread4 := Go.Lib.hid (hread.out 4)
  rw [show ((4 : Nat) : Int) = 4 from rfl] at hread4
  go_enter Tryd.func42, Tryd.ntmps42
  go_wp2_with fail
  refine (hread2.out 0 2 true _ _ _ (by omega) (by omega) rfl rfl (KS.first _ _)).mono ?_
  rintro e w1 ⟨rfl, h1⟩
  replace h1 := Go.Lib.hid h1
  go_wp2_with fail
  refine (hread2.out 2 4 _ _ _ _ (by omega) (by omega) rfl rfl h1.out).mono ?_
  rintro e w2 ⟨rfl, h2⟩
  replace h2 := Go.Lib.hid h2
  clear h1
  go_wp2_with fail
  refine (hread2.out 4 6 _ _ _ _ (by omega) (by omega) rfl rfl h2.out).mono ?_
  rintro e w3 ⟨rfl, h3⟩
  replace h3 := Go.Lib.hid h3
  clear h2
  go_wp2_with fail
  refine (hread2.out 6 8 _ _ _ _ (by omega) (by omega) rfl rfl h3.out).mono ?_
  rintro e w4 ⟨rfl, h4⟩
  replace h4 := Go.Lib.hid h4
  clear h3
  go_wp2_with fail
  refine (hread2.out 8 10 _ _ _ _ (by omega) (by omega) rfl rfl h4.out).mono ?_
  rintro e w5 ⟨rfl, h5⟩
  replace h5 := Go.Lib.hid h5
  clear h4
  go_wp2_with fail
  refine (hread2.out 10 12 _ _ _ _ (by omega) (by omega) rfl rfl h5.out).mono ?_
  rintro e w6 ⟨rfl, h6⟩
  clear h5
  have b6 := h6.clk
  replace h6 := Go.Lib.hid h6
  have r0 := rdV_range b 0 2 (by omega)
  have r1 := rdV_range b 2 2 (by omega)
  have r2 := rdV_range b 4 2 (by omega)
  have r3 := rdV_range b 6 2 (by omega)
  have r4 := rdV_range b 8 2 (by omega)
  have r5 := rdV_range b 10 2 (by omega)
  have hy1 : yearV 2 (rdV b 0 2) = yearV 2 (rdV b 0 2) := rfl
  conv at hy1 => rhs; unfold yearV
  have hok : okAll b 2 = okAll b 2 := rfl
  conv at hok => rhs; unfold okAll
  simp only [Nat.reduceAdd] at hok
  rw [← hok] at h6
  obtain ⟨y0, ey0⟩ : ∃ y0, y0 = rdV b 0 2 := ⟨_, rfl⟩
  obtain ⟨m, em⟩ : ∃ m, m = rdV b 2 2 := ⟨_, rfl⟩
  obtain ⟨d, ed⟩ : ∃ d, d = rdV b 4 2 := ⟨_, rfl⟩
  obtain ⟨hh, ehh⟩ : ∃ hh, hh = rdV b 6 2 := ⟨_, rfl⟩
  obtain ⟨mi, emi⟩ : ∃ mi, mi = rdV b 8 2 := ⟨_, rfl⟩
  obtain ⟨ss, ess⟩ : ∃ ss, ss = rdV b 10 2 := ⟨_, rfl⟩
  obtain ⟨Y, eY⟩ : ∃ Y, Y = yearV 2 (rdV b 0 2) := ⟨_, rfl⟩
  obtain ⟨ok, eok⟩ : ∃ ok, ok = okAll b 2 := ⟨_, rfl⟩
  have hL : Hid (clkL b 2 = [Y, m, d, hh, mi, ss]) := Go.Lib.hid (by simp only [clkL, eY, em, ed, ehh, emi, ess])
  have hR : Hid (clkOk b 2 = (ok && (decide (1 ≤ m) && decide (m ≤ 12) && decide (1 ≤ d) && decide (hh < 24) && decide (mi < 60) && decide (ss < 60)) && decide (d ≤ mDays Y m))) := Go.Lib.hid (by simp only [clkOk, eY, em, ed, ehh, emi, ess, eok])
  rw [← ey0, ← em, ← ed, ← ehh, ← emi, ← ess]
  rw [← ey0] at r0 hy1
  rw [← em] at r1
  rw [← ed] at r2
  rw [← ehh] at r3
  rw [← emi] at r4
  rw [← ess] at r5
  rw [← eok] at h6
  rw [← ey0] at eY
  rw [← eY] at hy1
  have hY0 : 0 ≤ Y := by
    rw [hy1]
    repeat' split
    all_goals omega
  have hcase : (Y = y0 + 1900 + 100 ∧ y0 + 1900 < 1950 ∨ Y = y0 + 1900 ∧ ¬ (y0 + 1900 < 1950)) ∧ ((ok = false ∨ ok = true ∧ m < 1 ∨ ok = true ∧ 1 ≤ m ∧ 12 < m ∨ ok = true ∧ 1 ≤ m ∧ m ≤ 12 ∧ d < 1 ∨ ok = true ∧ 1 ≤ m ∧ m ≤ 12 ∧ 1 ≤ d ∧ 24 ≤ hh ∨ ok = true ∧ 1 ≤ m ∧ m ≤ 12 ∧ 1 ≤ d ∧ hh < 24 ∧ 60 ≤ mi ∨ ok = true ∧ 1 ≤ m ∧ m ≤ 12 ∧ 1 ≤ d ∧ hh < 24 ∧ mi < 60 ∧ 60 ≤ ss) ∨ (ok = true ∧ 1 ≤ m ∧ m ≤ 12 ∧ 1 ≤ d ∧ hh < 24 ∧ mi < 60 ∧ ss < 60)) := by
    refine ⟨by rw [hy1]; simp only [if_true]; split <;> omega, ?_⟩
    cases ok
    · exact .inl (.inl rfl)
    · by_cases hg : 1 ≤ m ∧ m ≤ 12 ∧ 1 ≤ d ∧ hh < 24 ∧ mi < 60 ∧ ss < 60
      · exact .inr ⟨rfl, hg⟩
      · exact .inl (.inr (by simp only [true_and]; omega))
  clear hok eok
  replace em := Go.Lib.hid em
  replace ed := Go.Lib.hid ed
  replace ehh := Go.Lib.hid ehh
  replace emi := Go.Lib.hid emi
  replace ess := Go.Lib.hid ess
  replace eY := Go.Lib.hid eY
  replace ey0 := Go.Lib.hid ey0
  replace hy1 := Go.Lib.hid hy1
  obtain ⟨hcase1, hcase2⟩ := hcase
  rcases hcase1 with ⟨eYY, z1⟩ | ⟨eYY, z1⟩
  all_goals
    replace eYY := Go.Lib.hid eYY
    go_upto_region 11 with (refine ev_storeany (ty := 69) rfl rfl rfl b6 rfl rfl hsz (by simp [Value.oneCell']) ?_; intro w7 s7 b7
                            have h7 := h6.out.stored (l' := [y0, m, d, hh, mi, ss]) s7 b7
                            have ko := cell_of_row w7 (w.heap.size + 1 + 1) 0 _ _ _ h7.rs.o
                            have fo := frozen_of h7.rs.o 0
                            replace h7 := Go.Lib.hid h7
                            have k0 := cell_of_row w7 (w.heap.size + 1) 0 _ _ _ b7
                            have k1 := cell_of_row w7 (w.heap.size + 1) 1 _ _ _ b7
                            have k2 := cell_of_row w7 (w.heap.size + 1) 2 _ _ _ b7
                            have k3 := cell_of_row w7 (w.heap.size + 1) 3 _ _ _ b7
                            have k4 := cell_of_row w7 (w.heap.size + 1) 4 _ _ _ b7
                            have k5 := cell_of_row w7 (w.heap.size + 1) 5 _ _ _ b7
                            simp at k0 k1 k2 k3 k4 k5 ko
                            have f0 := frozen_of b7 0
                            clear b7)
    go_cut [] (fun wx => ∃ R, KS w (.slice (some ⟨g, o, none⟩) 13 c) [Y, m, d, hh, mi, ss] 12 R wx ∧ R = (ok && (decide (1 ≤ m) && decide (m ≤ 12) && decide (1 ≤ d) && decide (hh < 24) && decide (mi < 60) && decide (ss < 60))))
    case first =>
      have hW : ∃ W, True := ⟨w, trivial⟩
      clear hW
      rcases hcase2 with hcf | ⟨rfl, c1, c2, c3, c4, c5, c6⟩
      · rcases hcf with rfl | ⟨rfl, c1⟩ | ⟨rfl, c1, c2⟩ | ⟨rfl, c1, c2, c3⟩ | ⟨rfl, c1, c2, c3, c4⟩ | ⟨rfl, c1, c2, c3, c4, c5⟩ | ⟨rfl, c1, c2, c3, c4, c5, c6⟩
        all_goals
          first
            | (have c7 : decide (ss < 60) = false := by simp; omega)
            | skip
          go_wp2_with fail
          go_meet
          case rel =>
            refine ⟨false, ?_, ?_⟩
            · rw [eYY.out]
              first | exact h7.out.seto _ | exact (h7.out.setc 0 _).seto _ | exact ((h7.out.setc 0 _).setc 0 _).seto _
            · first | rfl | (symm; simp; omega)
      · have c7 : decide (ss < 60) = true := by simp; omega
        go_wp2_with fail
        go_meet
        case rel =>
          refine ⟨true, ?_, ?_⟩
          · rw [eYY.out]
            first | exact h7.out.seto _ | exact (h7.out.setc 0 _).seto _ | exact ((h7.out.setc 0 _).setc 0 _).seto _
          · symm; simp; omega
    case rest =>
      obtain ⟨R, hW, eR⟩ := hcut
      replace eR := Go.Lib.hid eR
      clear k0 k1 k2 k3 k4 k5 ko f0 fo
      clear hcase2 hread hread2 hread4 kc3
      cases R
      · go_wp2_with fail
        have ko := cell_of_row wc (w.heap.size + 1 + 1) 0 _ _ _ hW.rs.o
        simp at ko
        have hB := hW.bel
        have hblk := hW.clk
        have hrs := Go.Lib.hid hW
        obtain ⟨T, f, neT, hf, hs⟩ := class_type (fun W' => Blk W' (w.heap.size + 1) .i64 69 [Y, m, d, hh, mi, ss]) wc hblk
        replace hf := Go.Lib.hid hf
        replace hs := Go.Lib.hid hs
        replace hblk := Go.Lib.hid hblk
        replace hW := Go.Lib.hid hW
        replace hB := Go.Lib.hid hB
        refine region_eff f [false, true, false, false, false, false, false, false, false, true, false, false, true, true] (by kernel_rfl) (by kernel_rfl) (hs.out _ hblk.out) ?_
        simp only [masked_cons, masked_out, masked_nil]
        refine @wlk_pure _ _ _ _ _ _ _ _ _ ?_; intro K hK
        rw [if_pos (by rfl)]
        refine ⟨_, fun s => exec_load rfl rfl (run_loadVar_row (f s) _ 69 69 _ (0, 0) _ (hf.out s) Tryd.underlying69 rfl hsz), hK _ ?_⟩
        clear hK K
        refine @wlk_eff _ _ _ _ _ _ _ _ _ ?_; intro K hK
        go_simp
        refine hK _ _ (hs.out _ hblk.out) ?_
        clear hK K
        repeat (refine @wlk_pure _ _ _ _ _ _ _ _ _ ?_; intro K hK; go_simp; refine hK _ ?_; clear hK K)
        refine @wlk_eff _ _ _ _ _ _ _ _ _ ?_; intro K hK
        go_simp
        refine fun K2 hK2 => hK2 _ _ ?_
        clear hK K
        repeat (refine @wlk_pure _ _ _ _ _ _ _ _ _ ?_; intro K hK; go_simp; refine hK _ ?_; clear hK K)
        have hP : Hid (KS w (.slice (some ⟨g, o, none⟩) 13 c) [Y, m, d, hh, mi, ss] 12 false wc.drew) := Go.Lib.hid (hW.out.drew)
        refine wlk_list ?_ rfl
        refine ev_storeany (ty := 69) rfl rfl rfl (hP.out.clk) rfl rfl hsz (by simp [Value.oneCell']) ?_
        intro w9 s9 b9
        have h9 := hP.out.stored (l' := [Y, m, d, hh, mi, ss]) s9 b9
        refine ⟨rfl, hs.out _ b9, ?_⟩
        replace h9 := Go.Lib.hid h9
        have k9 := cell_of_row w9 (w.heap.size + 1 + 1) 0 _ _ _ h9.out.rs.o
        simp at k9
        have f9 := frozen_of h9.out.rs.o 0
        refine @wlk_eff _ _ _ _ _ _ _ _ _ ?_; intro K hK
        go_simp
        refine hK _ _ (hs.out _ (h9.out.clk.far (by simp only; omega) _)) ?_
        clear hK K
        refine wlk_nil ?_
        go_wp2_with fail
        have hE := h9.out.seto false
        refine bodyPost_ret (results_cell_bool rfl _ _ rfl rfl hE.clk hE.rs.o Tryd.underlying69 rfl hsz Tryd.underlying4 (by kernel_rfl)) rfl ⟨?_, hE.bel⟩
        rw [hL.out, hR.out]
        rw [← eR.out, Bool.false_and]
      · go_wp2_with fail
        have ko := cell_of_row wc (w.heap.size + 1 + 1) 0 _ _ _ hW.rs.o
        simp at ko
        have hB := hW.bel
        have hblk := hW.clk
        have hrs := Go.Lib.hid hW
        obtain ⟨T, f, neT, hf, hs⟩ := class_type (fun W' => Blk W' (w.heap.size + 1) .i64 69 [Y, m, d, hh, mi, ss]) wc hblk
        replace hf := Go.Lib.hid hf
        replace hs := Go.Lib.hid hs
        replace hblk := Go.Lib.hid hblk
        replace hW := Go.Lib.hid hW
        replace hB := Go.Lib.hid hB
        refine region_eff f [false, true, false, false, false, false, false, false, false, true, false, false, true, true] (by kernel_rfl) (by kernel_rfl) (hs.out _ hblk.out) ?_
        simp only [masked_cons, masked_out, masked_nil]
        refine @wlk_pure _ _ _ _ _ _ _ _ _ ?_; intro K hK
        rw [if_pos (by rfl)]
        refine ⟨_, fun s => exec_load rfl rfl (run_loadVar_row (f s) _ 69 69 _ (0, 0) _ (hf.out s) Tryd.underlying69 rfl hsz), hK _ ?_⟩
        clear hK K
        refine @wlk_eff _ _ _ _ _ _ _ _ _ ?_; intro K hK
        go_simp
        refine hK _ _ (hs.out _ hblk.out) ?_
        clear hK K
        have g0 : ∀ s, (f s).cell? ⟨w.heap.size + 1, 0, none⟩ = some (.int .i64 Y) := fun s => (hf.out s).cell 0 (by simp)
        have g1 : ∀ s, (f s).cell? ⟨w.heap.size + 1, 1, none⟩ = some (.int .i64 m) := fun s => (hf.out s).cell 1 (by simp)
        have g2 : ∀ s, (f s).cell? ⟨w.heap.size + 1, 2, none⟩ = some (.int .i64 d) := fun s => (hf.out s).cell 2 (by simp)
        repeat (refine @wlk_pure _ _ _ _ _ _ _ _ _ ?_; intro K hK; go_simp; refine hK _ ?_; clear hK K)
        clear g0 g1 g2
        refine @wlk_eff _ _ _ _ _ _ _ _ _ ?_; intro K hK
        go_simp
        refine (monthDays_any Y m hY0 _).mono ?_
        rintro e w8 ⟨rfl, hb8⟩
        have hP := hW.out.drew.below hb8
        refine hK _ _ (hs.out _ hP.clk) ?_
        clear hK K hb8
        replace hP := Go.Lib.hid hP
        repeat (refine @wlk_pure _ _ _ _ _ _ _ _ _ ?_; intro K hK; go_simp; refine hK _ ?_; clear hK K)
        refine wlk_list ?_ rfl
        refine ev_storeany (ty := 69) rfl rfl rfl (hP.out.clk) rfl rfl hsz (by simp [Value.oneCell']) ?_
        intro w9 s9 b9
        have h9 := hP.out.stored (l' := [Y, m, d, hh, mi, ss]) s9 b9
        refine ⟨rfl, hs.out _ b9, ?_⟩
        replace h9 := Go.Lib.hid h9
        have k9 := cell_of_row w9 (w.heap.size + 1 + 1) 0 _ _ _ h9.out.rs.o
        simp at k9
        have f9 := frozen_of h9.out.rs.o 0
        refine @wlk_eff _ _ _ _ _ _ _ _ _ ?_; intro K hK
        go_simp
        refine hK _ _ (hs.out _ (h9.out.clk.far (by simp only; omega) _)) ?_
        clear hK K
        refine wlk_nil ?_
        go_wp2_with fail
        have hE := h9.out.seto (decide (d ≤ mDays Y m))
        refine bodyPost_ret (results_cell_bool rfl _ _ rfl rfl hE.clk hE.rs.o Tryd.underlying69 rfl hsz Tryd.underlying4 (by kernel_rfl)) rfl ⟨?_, hE.bel⟩
        rw [hL.out, hR.out]
        rw [← eR.out, Bool.true_and]
end Go.Proofs.YtgjeejgmphaliaaDoor

/-
  The program's readClock, walked by hand, where the length and the end fit.
-/
namespace Go.Proofs.YtgjeejgmphaliaaDoor
set_option linter.unusedVariables false
set_option linter.unusedSimpArgs false
open Go.RowKit Go.Proofs.YtgjeejgmphaliaaDoorW.PrintWords PDerTimes


set_option maxRecDepth 100000 in
set_option maxHeartbeats 4000000 in
theorem rclock_any4 (A : Option Addr) (c : Nat) (b : List Int) (w : World) (hr : ReadsInt w .u8 A 15 b) (hbb : Byt b) (h : el b 14 = 90) :
    Calls Tryd.prog 42 #[.slice A 15 c, .int .i64 4] w fun e w' => e = .returned (.tuple #[.agg ((clkL b 4).map (Value.int .i64)).toArray, .bool (clkOk b 4)]) ∧ Below w.heap.size w w' := by
  have hsz : (Tryd.prog.info? 69).map (·.size) = some 6 := by kernel_rfl
  have hbl : ∀ (x y z : Obj), Below w.heap.size w (((w.alloc x).alloc y).alloc z) := fun x y z => (((Below.refl _ _).alloc (Nat.le_refl _) _).alloc (by simp) _).alloc (by simp; omega) _
  have hr' := Go.Lib.hid hr
  obtain ⟨g, o, rfl, hc⟩ := rd_open hr (by omega)
  have kc := hc 14 (by omega)
  rw [h] at kc
  have kc3 := pw_cell_below (hbl (Obj.cells #[Value.slice (some ⟨g, o, none⟩) 15 c] 22) (Obj.cells #[Value.int .i64 0, Value.int .i64 0, Value.int .i64 0, Value.int .i64 0, Value.int .i64 0, Value.int .i64 0] 69) (Obj.cells #[Value.bool false] 4)) kc
  clear hc hr hbl
  replace hbb := Go.Lib.hid hbb
  replace h := Go.Lib.hid h
  have hread := Go.Lib.hid (fun (n k k' : Nat) (ok ok' : Bool) (l : List Int) (W : World) (hn : n ≤ 4) (hk : k + n ≤ 15) (hk' : k' = k + n) (ho : ok' = (ok && okV b k n)) (hW : KS w (.slice (some ⟨g, o, none⟩) 15 c) l k ok W) => (read_any w.heap.size w.heap.size (w.heap.size + 1 + 1 + 1) (w.heap.size + 1 + 1) n 15 c k (some ⟨g, o, none⟩) b ok w W hW.rs hr'.out hbb.out hW.bel rfl (by omega) (by omega) hn hk).mono (fun e w' ⟨h1, h2⟩ => (⟨h1, hW.next h2 hk' ho⟩ : e = Ending.returned (.int .i64 (rdV b k n)) ∧ KS w (.slice (some ⟨g, o, none⟩) 15 c) l k' ok' w')))
  have hread2 := Go.Lib.hid (hread.out 2)
  rw [show ((2 : Nat) : Int) = 2 from rfl] at hread2
  have hread4 := Go.Lib.hid (hread.out 4)
  rw [show ((4 : Nat) : Int) = 4 from rfl] at hread4
  go_enter Tryd.func42, Tryd.ntmps42
  go_wp2_with fail
  refine (hread4.out 0 4 true _ _ _ (by omega) (by omega) rfl rfl (KS.first _ _)).mono ?_
  rintro e w1 ⟨rfl, h1⟩
  replace h1 := Go.Lib.hid h1
  go_wp2_with fail
  refine (hread2.out 4 6 _ _ _ _ (by omega) (by omega) rfl rfl h1.out).mono ?_
  rintro e w2 ⟨rfl, h2⟩
  replace h2 := Go.Lib.hid h2
  clear h1
  go_wp2_with fail
  refine (hread2.out 6 8 _ _ _ _ (by omega) (by omega) rfl rfl h2.out).mono ?_
  rintro e w3 ⟨rfl, h3⟩
  replace h3 := Go.Lib.hid h3
  clear h2
  go_wp2_with fail
  refine (hread2.out 8 10 _ _ _ _ (by omega) (by omega) rfl rfl h3.out).mono ?_
  rintro e w4 ⟨rfl, h4⟩
  replace h4 := Go.Lib.hid h4
  clear h3
  go_wp2_with fail
  refine (hread2.out 10 12 _ _ _ _ (by omega) (by omega) rfl rfl h4.out).mono ?_
  rintro e w5 ⟨rfl, h5⟩
  replace h5 := Go.Lib.hid h5
  clear h4
  go_wp2_with fail
  refine (hread2.out 12 14 _ _ _ _ (by omega) (by omega) rfl rfl h5.out).mono ?_
  rintro e w6 ⟨rfl, h6⟩
  clear h5
  have b6 := h6.clk
  replace h6 := Go.Lib.hid h6
  have r0 := rdV_range b 0 4 (by omega)
  have r1 := rdV_range b 4 2 (by omega)
  have r2 := rdV_range b 6 2 (by omega)
  have r3 := rdV_range b 8 2 (by omega)
  have r4 := rdV_range b 10 2 (by omega)
  have r5 := rdV_range b 12 2 (by omega)
  have hy1 : yearV 4 (rdV b 0 4) = yearV 4 (rdV b 0 4) := rfl
  conv at hy1 => rhs; unfold yearV
  have hok : okAll b 4 = okAll b 4 := rfl
  conv at hok => rhs; unfold okAll
  simp only [Nat.reduceAdd] at hok
  rw [← hok] at h6
  obtain ⟨y0, ey0⟩ : ∃ y0, y0 = rdV b 0 4 := ⟨_, rfl⟩
  obtain ⟨m, em⟩ : ∃ m, m = rdV b 4 2 := ⟨_, rfl⟩
  obtain ⟨d, ed⟩ : ∃ d, d = rdV b 6 2 := ⟨_, rfl⟩
  obtain ⟨hh, ehh⟩ : ∃ hh, hh = rdV b 8 2 := ⟨_, rfl⟩
  obtain ⟨mi, emi⟩ : ∃ mi, mi = rdV b 10 2 := ⟨_, rfl⟩
  obtain ⟨ss, ess⟩ : ∃ ss, ss = rdV b 12 2 := ⟨_, rfl⟩
  obtain ⟨Y, eY⟩ : ∃ Y, Y = yearV 4 (rdV b 0 4) := ⟨_, rfl⟩
  obtain ⟨ok, eok⟩ : ∃ ok, ok = okAll b 4 := ⟨_, rfl⟩
  have hL : Hid (clkL b 4 = [Y, m, d, hh, mi, ss]) := Go.Lib.hid (by simp only [clkL, eY, em, ed, ehh, emi, ess])
  have hR : Hid (clkOk b 4 = (ok && (decide (1 ≤ m) && decide (m ≤ 12) && decide (1 ≤ d) && decide (hh < 24) && decide (mi < 60) && decide (ss < 60)) && decide (d ≤ mDays Y m))) := Go.Lib.hid (by simp only [clkOk, eY, em, ed, ehh, emi, ess, eok])
  rw [← ey0, ← em, ← ed, ← ehh, ← emi, ← ess]
  rw [← ey0] at r0 hy1
  rw [← em] at r1
  rw [← ed] at r2
  rw [← ehh] at r3
  rw [← emi] at r4
  rw [← ess] at r5
  rw [← eok] at h6
  rw [← ey0] at eY
  rw [← eY] at hy1
  have hY0 : 0 ≤ Y := by
    rw [hy1]
    repeat' split
    all_goals omega
  have hcase : (Y = y0) ∧ ((ok = false ∨ ok = true ∧ m < 1 ∨ ok = true ∧ 1 ≤ m ∧ 12 < m ∨ ok = true ∧ 1 ≤ m ∧ m ≤ 12 ∧ d < 1 ∨ ok = true ∧ 1 ≤ m ∧ m ≤ 12 ∧ 1 ≤ d ∧ 24 ≤ hh ∨ ok = true ∧ 1 ≤ m ∧ m ≤ 12 ∧ 1 ≤ d ∧ hh < 24 ∧ 60 ≤ mi ∨ ok = true ∧ 1 ≤ m ∧ m ≤ 12 ∧ 1 ≤ d ∧ hh < 24 ∧ mi < 60 ∧ 60 ≤ ss) ∨ (ok = true ∧ 1 ≤ m ∧ m ≤ 12 ∧ 1 ≤ d ∧ hh < 24 ∧ mi < 60 ∧ ss < 60)) := by
    refine ⟨by rw [hy1]; rfl, ?_⟩
    cases ok
    · exact .inl (.inl rfl)
    · by_cases hg : 1 ≤ m ∧ m ≤ 12 ∧ 1 ≤ d ∧ hh < 24 ∧ mi < 60 ∧ ss < 60
      · exact .inr ⟨rfl, hg⟩
      · exact .inl (.inr (by simp only [true_and]; omega))
  clear hok eok
  replace em := Go.Lib.hid em
  replace ed := Go.Lib.hid ed
  replace ehh := Go.Lib.hid ehh
  replace emi := Go.Lib.hid emi
  replace ess := Go.Lib.hid ess
  replace eY := Go.Lib.hid eY
  replace ey0 := Go.Lib.hid ey0
  replace hy1 := Go.Lib.hid hy1
  obtain ⟨hcase1, hcase2⟩ := hcase
  have eYY := hcase1; clear hcase1
  all_goals
    replace eYY := Go.Lib.hid eYY
    go_upto_region 11 with (refine ev_storeany (ty := 69) rfl rfl rfl b6 rfl rfl hsz (by simp [Value.oneCell']) ?_; intro w7 s7 b7
                            have h7 := h6.out.stored (l' := [y0, m, d, hh, mi, ss]) s7 b7
                            have ko := cell_of_row w7 (w.heap.size + 1 + 1) 0 _ _ _ h7.rs.o
                            have fo := frozen_of h7.rs.o 0
                            replace h7 := Go.Lib.hid h7
                            have k0 := cell_of_row w7 (w.heap.size + 1) 0 _ _ _ b7
                            have k1 := cell_of_row w7 (w.heap.size + 1) 1 _ _ _ b7
                            have k2 := cell_of_row w7 (w.heap.size + 1) 2 _ _ _ b7
                            have k3 := cell_of_row w7 (w.heap.size + 1) 3 _ _ _ b7
                            have k4 := cell_of_row w7 (w.heap.size + 1) 4 _ _ _ b7
                            have k5 := cell_of_row w7 (w.heap.size + 1) 5 _ _ _ b7
                            simp at k0 k1 k2 k3 k4 k5 ko
                            have f0 := frozen_of b7 0
                            clear b7)
    go_cut [] (fun wx => ∃ R, KS w (.slice (some ⟨g, o, none⟩) 15 c) [Y, m, d, hh, mi, ss] 14 R wx ∧ R = (ok && (decide (1 ≤ m) && decide (m ≤ 12) && decide (1 ≤ d) && decide (hh < 24) && decide (mi < 60) && decide (ss < 60))))
    case first =>
      have hW : ∃ W, True := ⟨w, trivial⟩
      clear hW
      rcases hcase2 with hcf | ⟨rfl, c1, c2, c3, c4, c5, c6⟩
      · rcases hcf with rfl | ⟨rfl, c1⟩ | ⟨rfl, c1, c2⟩ | ⟨rfl, c1, c2, c3⟩ | ⟨rfl, c1, c2, c3, c4⟩ | ⟨rfl, c1, c2, c3, c4, c5⟩ | ⟨rfl, c1, c2, c3, c4, c5, c6⟩
        all_goals
          first
            | (have c7 : decide (ss < 60) = false := by simp; omega)
            | skip
          go_wp2_with fail
          go_meet
          case rel =>
            refine ⟨false, ?_, ?_⟩
            · rw [eYY.out]
              first | exact h7.out.seto _ | exact (h7.out.setc 0 _).seto _ | exact ((h7.out.setc 0 _).setc 0 _).seto _
            · first | rfl | (symm; simp; omega)
      · have c7 : decide (ss < 60) = true := by simp; omega
        go_wp2_with fail
        go_meet
        case rel =>
          refine ⟨true, ?_, ?_⟩
          · rw [eYY.out]
            first | exact h7.out.seto _ | exact (h7.out.setc 0 _).seto _ | exact ((h7.out.setc 0 _).setc 0 _).seto _
          · symm; simp; omega
    case rest =>
      obtain ⟨R, hW, eR⟩ := hcut
      replace eR := Go.Lib.hid eR
      clear k0 k1 k2 k3 k4 k5 ko f0 fo
      clear hcase2 hread hread2 hread4 kc3
      cases R
      · go_wp2_with fail
        have ko := cell_of_row wc (w.heap.size + 1 + 1) 0 _ _ _ hW.rs.o
        simp at ko
        have hB := hW.bel
        have hblk := hW.clk
        have hrs := Go.Lib.hid hW
        obtain ⟨T, f, neT, hf, hs⟩ := class_type (fun W' => Blk W' (w.heap.size + 1) .i64 69 [Y, m, d, hh, mi, ss]) wc hblk
        replace hf := Go.Lib.hid hf
        replace hs := Go.Lib.hid hs
        replace hblk := Go.Lib.hid hblk
        replace hW := Go.Lib.hid hW
        replace hB := Go.Lib.hid hB
        refine region_eff f [false, true, false, false, false, false, false, false, false, true, false, false, true, true] (by kernel_rfl) (by kernel_rfl) (hs.out _ hblk.out) ?_
        simp only [masked_cons, masked_out, masked_nil]
        refine @wlk_pure _ _ _ _ _ _ _ _ _ ?_; intro K hK
        rw [if_pos (by rfl)]
        refine ⟨_, fun s => exec_load rfl rfl (run_loadVar_row (f s) _ 69 69 _ (0, 0) _ (hf.out s) Tryd.underlying69 rfl hsz), hK _ ?_⟩
        clear hK K
        refine @wlk_eff _ _ _ _ _ _ _ _ _ ?_; intro K hK
        go_simp
        refine hK _ _ (hs.out _ hblk.out) ?_
        clear hK K
        repeat (refine @wlk_pure _ _ _ _ _ _ _ _ _ ?_; intro K hK; go_simp; refine hK _ ?_; clear hK K)
        refine @wlk_eff _ _ _ _ _ _ _ _ _ ?_; intro K hK
        go_simp
        refine fun K2 hK2 => hK2 _ _ ?_
        clear hK K
        repeat (refine @wlk_pure _ _ _ _ _ _ _ _ _ ?_; intro K hK; go_simp; refine hK _ ?_; clear hK K)
        have hP : Hid (KS w (.slice (some ⟨g, o, none⟩) 15 c) [Y, m, d, hh, mi, ss] 14 false wc.drew) := Go.Lib.hid (hW.out.drew)
        refine wlk_list ?_ rfl
        refine ev_storeany (ty := 69) rfl rfl rfl (hP.out.clk) rfl rfl hsz (by simp [Value.oneCell']) ?_
        intro w9 s9 b9
        have h9 := hP.out.stored (l' := [Y, m, d, hh, mi, ss]) s9 b9
        refine ⟨rfl, hs.out _ b9, ?_⟩
        replace h9 := Go.Lib.hid h9
        have k9 := cell_of_row w9 (w.heap.size + 1 + 1) 0 _ _ _ h9.out.rs.o
        simp at k9
        have f9 := frozen_of h9.out.rs.o 0
        refine @wlk_eff _ _ _ _ _ _ _ _ _ ?_; intro K hK
        go_simp
        refine hK _ _ (hs.out _ (h9.out.clk.far (by simp only; omega) _)) ?_
        clear hK K
        refine wlk_nil ?_
        go_wp2_with fail
        have hE := h9.out.seto false
        refine bodyPost_ret (results_cell_bool rfl _ _ rfl rfl hE.clk hE.rs.o Tryd.underlying69 rfl hsz Tryd.underlying4 (by kernel_rfl)) rfl ⟨?_, hE.bel⟩
        rw [hL.out, hR.out]
        rw [← eR.out, Bool.false_and]
      · go_wp2_with fail
        have ko := cell_of_row wc (w.heap.size + 1 + 1) 0 _ _ _ hW.rs.o
        simp at ko
        have hB := hW.bel
        have hblk := hW.clk
        have hrs := Go.Lib.hid hW
        obtain ⟨T, f, neT, hf, hs⟩ := class_type (fun W' => Blk W' (w.heap.size + 1) .i64 69 [Y, m, d, hh, mi, ss]) wc hblk
        replace hf := Go.Lib.hid hf
        replace hs := Go.Lib.hid hs
        replace hblk := Go.Lib.hid hblk
        replace hW := Go.Lib.hid hW
        replace hB := Go.Lib.hid hB
        refine region_eff f [false, true, false, false, false, false, false, false, false, true, false, false, true, true] (by kernel_rfl) (by kernel_rfl) (hs.out _ hblk.out) ?_
        simp only [masked_cons, masked_out, masked_nil]
        refine @wlk_pure _ _ _ _ _ _ _ _ _ ?_; intro K hK
        rw [if_pos (by rfl)]
        refine ⟨_, fun s => exec_load rfl rfl (run_loadVar_row (f s) _ 69 69 _ (0, 0) _ (hf.out s) Tryd.underlying69 rfl hsz), hK _ ?_⟩
        clear hK K
        refine @wlk_eff _ _ _ _ _ _ _ _ _ ?_; intro K hK
        go_simp
        refine hK _ _ (hs.out _ hblk.out) ?_
        clear hK K
        have g0 : ∀ s, (f s).cell? ⟨w.heap.size + 1, 0, none⟩ = some (.int .i64 Y) := fun s => (hf.out s).cell 0 (by simp)
        have g1 : ∀ s, (f s).cell? ⟨w.heap.size + 1, 1, none⟩ = some (.int .i64 m) := fun s => (hf.out s).cell 1 (by simp)
        have g2 : ∀ s, (f s).cell? ⟨w.heap.size + 1, 2, none⟩ = some (.int .i64 d) := fun s => (hf.out s).cell 2 (by simp)
        repeat (refine @wlk_pure _ _ _ _ _ _ _ _ _ ?_; intro K hK; go_simp; refine hK _ ?_; clear hK K)
        clear g0 g1 g2
        refine @wlk_eff _ _ _ _ _ _ _ _ _ ?_; intro K hK
        go_simp
        refine (monthDays_any Y m hY0 _).mono ?_
        rintro e w8 ⟨rfl, hb8⟩
        have hP := hW.out.drew.below hb8
        refine hK _ _ (hs.out _ hP.clk) ?_
        clear hK K hb8
        replace hP := Go.Lib.hid hP
        repeat (refine @wlk_pure _ _ _ _ _ _ _ _ _ ?_; intro K hK; go_simp; refine hK _ ?_; clear hK K)
        refine wlk_list ?_ rfl
        refine ev_storeany (ty := 69) rfl rfl rfl (hP.out.clk) rfl rfl hsz (by simp [Value.oneCell']) ?_
        intro w9 s9 b9
        have h9 := hP.out.stored (l' := [Y, m, d, hh, mi, ss]) s9 b9
        refine ⟨rfl, hs.out _ b9, ?_⟩
        replace h9 := Go.Lib.hid h9
        have k9 := cell_of_row w9 (w.heap.size + 1 + 1) 0 _ _ _ h9.out.rs.o
        simp at k9
        have f9 := frozen_of h9.out.rs.o 0
        refine @wlk_eff _ _ _ _ _ _ _ _ _ ?_; intro K hK
        go_simp
        refine hK _ _ (hs.out _ (h9.out.clk.far (by simp only; omega) _)) ?_
        clear hK K
        refine wlk_nil ?_
        go_wp2_with fail
        have hE := h9.out.seto (decide (d ≤ mDays Y m))
        refine bodyPost_ret (results_cell_bool rfl _ _ rfl rfl hE.clk hE.rs.o Tryd.underlying69 rfl hsz Tryd.underlying4 (by kernel_rfl)) rfl ⟨?_, hE.bel⟩
        rw [hL.out, hR.out]
        rw [← eR.out, Bool.true_and]
end Go.Proofs.YtgjeejgmphaliaaDoor
