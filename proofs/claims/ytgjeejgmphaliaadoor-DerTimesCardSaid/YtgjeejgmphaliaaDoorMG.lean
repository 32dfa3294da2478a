/-
  Several texts in one.
-/
import Derived.Test.YtgjeejgmphaliaaDoorMF
import Derived.Test.YtgjeejgmphaliaaDoorVLay
import Derived.Lib.ConvBytes
import Derived.Test.YtgjeejgmphaliaaDoorPDerTimesx9
import Derived.Test.YtgjeejgmphaliaaDoorRows
import Derived.Lib.LaidU8T
import Derived.LaidMore
import Derived.PinnedBridge
import Derived.Lay
/-
  The law's 'of' of a value without items; a printed time parsed again; the contract of ValidString.
-/
namespace Go.Proofs.YtgjeejgmphaliaaDoor
set_option linter.unusedVariables false
set_option linter.unusedSimpArgs false
open Go.RowKit Go.Proofs.YtgjeejgmphaliaaDoorW.PrintWords PDerTimes

theorem rd_block {w w' : World} {k : IntKind} {g o n : Nat} {xs : List Int} (h : ReadsInt w k (some ⟨g, o, none⟩) n xs) (hb : w'.heap[g]? = w.heap[g]?) : ReadsInt w' k (some ⟨g, o, none⟩) n xs :=
  ⟨h.1, h.2.1, fun hn => by
    obtain ⟨ad, e, hc⟩ := h.2.2 hn
    injection e with e
    subst e
    refine ⟨_, rfl, fun j hj => ?_⟩
    have := hc j hj
    rw [add_off] at this ⊢
    exact (World.cell?_of_block (w := w) (a := ⟨g, o + j, none⟩) hb).trans this⟩
theorem results_cellany {P : Program} {fn : Func} {p : Tmp} {ty : TypeId} (h : fn.results = #[.cell p ty]) (tmps : Array Value) (w : World) {g : Nat} {t : TypeId} {cs : Array Value} (hp : tmps.getD p undef = .pointer (some ⟨g, 0, none⟩)) (hb : w.heap[g]? = some (.cells cs t (0, 0)))
    {d : TypeDesc} (hu : P.underlying ty = some d) (hd : (match d with | .struct _ | .array _ _ => true | _ => false) = true) (hi : (P.info? ty).map (·.size) = some cs.size) :
    (results fn tmps).run P w = .ok (.agg cs) w := results_cell_row h tmps w g t _ (0, 0) d hp hb hu hd hi
/-- the tables of utf8 -/
def Tabs (w : World) : Prop := Lib.Utf8Tabs (Tryd.laysValid_ren.g 3) (Tryd.laysValid_ren.g 4) w
theorem vstr_any (s : ByteArray) (w : World) (hs : s.size ≤ 65536) (hT : Tabs w) (w' : World) (hb : Below w.heap.size w w') : Calls Tryd.prog 94 #[.string s] w' (SomeB w') := by
  have h := Any.utf8_ValidString Tryd.laysValid s w' (by omega) (Utf8Tabs_below hT hb)
  exact h.mono fun e w2 ⟨a, b⟩ => ⟨_, a, b⟩

set_option maxRecDepth 100000 in
set_option maxHeartbeats 1000000 in
theorem of_any (tag : Int) (s : ByteArray) (w : World) (hs : s.size ≤ 65536) :
    Calls Tryd.prog 12 #[.agg #[.int .u8 tag, .string s, .slice none 0 0]] w fun e w' => ∃ A c, e = .returned (.agg #[.int .u8 tag, .slice A s.size c, .slice none 0 0]) ∧ ReadsInt w' .u8 A s.size (bytesOf s) ∧ Below w.heap.size w w' := by
  have hsz : (Tryd.prog.info? 25).map (·.size) = some 3 := by kernel_rfl
  obtain ⟨W3, G, C, kc, hb3, hz3, hk, hrd, hbB, hG⟩ : ∃ (W3 : World) (G C : Nat), (convert 9 22 (.string s)).run Tryd.prog ((w.alloc (Obj.cells #[Value.int .u8 tag, Value.string s, Value.slice none 0 0] 31)).alloc (Obj.cells #[Value.int .u8 0, Value.slice none 0 0, Value.slice none 0 0] 25)) = .ok (.slice (some ⟨G, 0, none⟩) s.size C) W3 ∧ W3.heap[w.heap.size + 1]? = some (Obj.cells #[Value.int .u8 0, Value.slice none 0 0, Value.slice none 0 0] 25 (0, 0)) ∧ w.heap.size + 1 < W3.heap.size ∧ W3.cell? ⟨w.heap.size, 2, none⟩ = some (.slice none 0 0) ∧ ReadsInt W3 .u8 (some ⟨G, 0, none⟩) s.size (bytesOf s) ∧ Below w.heap.size w W3 ∧ w.heap.size + 1 < G ∧ G < W3.heap.size := by
    obtain ⟨W2, eW2⟩ : ∃ W2, W2 = (w.alloc (Obj.cells #[Value.int .u8 tag, Value.string s, Value.slice none 0 0] 31)).alloc (Obj.cells #[Value.int .u8 0, Value.slice none 0 0, Value.slice none 0 0] 25) := ⟨_, rfl⟩
    have z2 : W2.heap.size = w.heap.size + 2 := by rw [eW2]; simp
    have b2 : W2.heap[w.heap.size + 1]? = some (Obj.cells #[Value.int .u8 0, Value.slice none 0 0, Value.slice none 0 0] 25 (0, 0)) := by
      have h := heap_new (w.alloc (Obj.cells #[Value.int .u8 tag, Value.string s, Value.slice none 0 0] 31)) (Obj.cells #[Value.int .u8 0, Value.slice none 0 0, Value.slice none 0 0] 25)
      rw [eW2]
      simpa using h
    have b1 : W2.heap[w.heap.size]? = some (Obj.cells #[Value.int .u8 tag, Value.string s, Value.slice none 0 0] 31 (0, 0)) := by
      rw [eW2]
      exact (Below.heap_alloc _ _ _ (by simp)).trans (heap_new _ _)
    have hb2 : Below w.heap.size w W2 := by
      rw [eW2]
      exact ((Below.refl _ _).alloc (Nat.le_refl _) _).alloc (by simp) _
    have hbB : Below W2.heap.size W2 (Lib.bytesWorld W2 5 s) := bytes_below (Below.refl _ _) (Nat.le_refl _) _ _
    have hc1 := (hbB.block w.heap.size (by omega)).trans b1
    rw [← eW2]
    refine ⟨_, _, _, Lib.run_convert_string_bytes (P := Tryd.prog) W2 9 22 5 s Tryd.underlying9 Tryd.underlying22 Tryd.underlying5, (hbB.block _ (by omega)).trans b2, by have := hbB.size; omega, ?_, bytes_reads W2 5 s (by omega), hb2.trans (hbB.mono (by omega)), by omega, by rw [Lib.bytesWorld_size]; omega⟩
    have := cell_of_row _ w.heap.size 2 _ _ _ hc1
    simpa using this
  have hfin : ∀ o, (W3.alloc o).heap[w.heap.size + 1]? = some (Obj.cells #[Value.int .u8 0, Value.slice none 0 0, Value.slice none 0 0] 25 (0, 0)) := fun o => (Below.heap_alloc _ _ _ hz3).trans hb3
  have hbF : ∀ o, Below w.heap.size w (W3.alloc o) := fun o => hbB.alloc (by omega) o
  have hkF : ∀ o, (W3.alloc o).cell? ⟨w.heap.size, 2, none⟩ = some (.slice none 0 0) := fun o => pw_cell_below ((Below.refl _ W3).alloc (Nat.le_refl _) o) hk
  replace hfin := Go.Lib.hid hfin
  replace hbF := Go.Lib.hid hbF
  replace hrd := Go.Lib.hid hrd
  clear hbB hk hb3
  go_enter Tryd.func12, Tryd.ntmps12
  go_wp2_with fail
  refine wp_loop_rounds 1 ?_
  rw [rounds_succ]
  go_wp2_with (refine ev_storeany (ty := 25) rfl rfl rfl (hfin.out _) rfl rfl hsz (by simp [Value.oneCell']) ?_; intro w8 h8 b8)
  refine bodyPost_ret (results_cellany rfl _ _ rfl b8 Tryd.underlying25 rfl hsz) rfl ⟨_, _, rfl, ?_, h8.bel (hbF.out _) (hbF.out _).size (by omega)⟩
  have hr4 := hrd.out.below ((Below.refl _ W3).alloc (Nat.le_refl _) (Obj.cells #[Value.int .u8 tag, Value.slice (some ⟨G, 0, none⟩) s.size C, Value.slice none 0 0] 25))
  exact rd_block hr4 (h8.grown.block G (by simp; omega) (by simp; omega))

theorem dgs2 (v : Int) : dgs 2 v = [48 + v / 10 % 10, 48 + v % 10] := by simp [dgs]
theorem dgs4 (v : Int) : dgs 4 v = [48 + v / 10 / 10 / 10 % 10, 48 + v / 10 / 10 % 10, 48 + v / 10 % 10, 48 + v % 10] := by simp [dgs]
/-- the years' digits -/
def ydOf (y : Int) : Nat := if 1950 ≤ y ∧ y < 2050 then 2 else 4
/-- what PutTime writes is a time, and that one -/
theorem put_back (t s N y d : Int) (M : Nat) (es : s = (t + 62167219200) % 86400) (eN : N = (t + 62167219200) / 86400) (hD : Date y M d N) (hy : 0 ≤ y ∧ y ≤ 9999) :
    timeOk (timeT y M d s).2 (ydOf y) = true ∧ timeV (timeT y M d s).2 (ydOf y) = t ∧ (timeT y M d s).1 = (if ydOf y = 2 then 23 else 24) ∧ Byt (timeT y M d s).2 := by
  have hs : 0 ≤ s ∧ s < 86400 := by omega
  have hm1 := hD.m1
  have hm2 := hD.m2
  have hd1 := hD.d1
  have hd2 := hD.d2
  have hmr := mDays_range y M
  have hde := hD.eq
  have hde2 := dayN_eq y M d hm1 hm2
  have d70 := day_1970
  have fin : ∀ (b : List Int) (yd : Nat), (yd = 2 ∨ yd = 4) → b.length = yd + 11 → el b (yd + 10) = 90 → okV b 0 (yd + 10) = true → yearV yd (rdV b 0 yd) = y → rdV b yd 2 = (M : Int) → rdV b (yd + 2) 2 = d → rdV b (yd + 4) 2 = s / 3600 → rdV b (yd + 6) 2 = s / 60 % 60 → rdV b (yd + 8) 2 = s % 60 → (yd = 4 → ¬ (1950 ≤ y ∧ y < 2050)) → timeOk b yd = true ∧ timeV b yd = t := by
    intro b yd hyd hl hz hok e0 e1 e2 e3 e4 e5 hny
    have hall : okAll b yd = true := by
      rcases hyd with rfl | rfl
      · rw [okAll_12]; exact hok
      · rw [okAll_14]; exact hok
    constructor
    · have hrc : rcOk b yd = true := by
        simp only [rcOk, clkOk, hl, hz, hall, e0, e1, e2, e3, e4, e5, decide_true, Bool.true_and, Bool.and_eq_true, decide_eq_true_eq]
        omega
      simp only [timeOk, hrc, e0, Bool.true_and, Bool.not_eq_true', Bool.and_eq_false_iff, decide_eq_false_iff_not]
      omega
    · simp only [timeV, e0, e1, e2, e3, e4, e5]
      rw [hde2, d70]
      omega
  by_cases hc : 1950 ≤ y ∧ y < 2050
  · have eyd : ydOf y = 2 := by unfold ydOf; rw [if_pos hc]
    have e1 : (timeT y M d s).1 = 23 := by unfold timeT; rw [if_pos hc]
    obtain ⟨b, eb⟩ : ∃ b, b = (timeT y M d s).2 := ⟨_, rfl⟩
    have eL : b = [48 + y / 10 % 10, 48 + y % 10, 48 + (M : Int) / 10 % 10, 48 + (M : Int) % 10, 48 + d / 10 % 10, 48 + d % 10, 48 + s / 3600 / 10 % 10, 48 + s / 3600 % 10, 48 + s / 60 % 60 / 10 % 10, 48 + s / 60 % 60 % 10, 48 + s % 60 / 10 % 10, 48 + s % 60 % 10, 90] := by
      rw [eb]
      unfold timeT restT
      rw [if_pos hc]
      simp only [dgs2, List.cons_append, List.nil_append]
    have d0 : dv b 0 = y / 10 % 10 := by rw [eL]; simp only [dv, el, List.getD_cons_zero]; omega
    have d1 : dv b 1 = y % 10 := by rw [eL]; simp only [dv, el, List.getD_cons_succ, List.getD_cons_zero]; omega
    have d2 : dv b 2 = (M : Int) / 10 % 10 := by rw [eL]; simp only [dv, el, List.getD_cons_succ, List.getD_cons_zero]; omega
    have d3 : dv b 3 = (M : Int) % 10 := by rw [eL]; simp only [dv, el, List.getD_cons_succ, List.getD_cons_zero]; omega
    have d4 : dv b 4 = d / 10 % 10 := by rw [eL]; simp only [dv, el, List.getD_cons_succ, List.getD_cons_zero]; omega
    have d5 : dv b 5 = d % 10 := by rw [eL]; simp only [dv, el, List.getD_cons_succ, List.getD_cons_zero]; omega
    have d6 : dv b 6 = s / 3600 / 10 % 10 := by rw [eL]; simp only [dv, el, List.getD_cons_succ, List.getD_cons_zero]; omega
    have d7 : dv b 7 = s / 3600 % 10 := by rw [eL]; simp only [dv, el, List.getD_cons_succ, List.getD_cons_zero]; omega
    have d8 : dv b 8 = s / 60 % 60 / 10 % 10 := by rw [eL]; simp only [dv, el, List.getD_cons_succ, List.getD_cons_zero]; omega
    have d9 : dv b 9 = s / 60 % 60 % 10 := by rw [eL]; simp only [dv, el, List.getD_cons_succ, List.getD_cons_zero]; omega
    have d10 : dv b 10 = s % 60 / 10 % 10 := by rw [eL]; simp only [dv, el, List.getD_cons_succ, List.getD_cons_zero]; omega
    have d11 : dv b 11 = s % 60 % 10 := by rw [eL]; simp only [dv, el, List.getD_cons_succ, List.getD_cons_zero]; omega
    have hbyt : Byt b := by
      rw [eL]
      intro x hx
      simp only [List.mem_cons, List.not_mem_nil, or_false] at hx
      omega
    have hokV : okV b 0 12 = true := by
      simp only [okV, Nat.zero_add, d0, d1, d2, d3, d4, d5, d6, d7, d8, d9, d10, d11, Bool.true_and, Bool.and_eq_true, decide_eq_true_eq]
      omega
    rw [← eb, e1, eyd]
    obtain ⟨p1, p2⟩ := fin b 2 (.inl rfl) (by rw [eL]; rfl) (by rw [eL]; rfl) hokV (by
      unfold yearV
      rw [if_pos rfl, rdV2, d0, d1]
      split <;> omega) (by rw [rdV2, d2, d3]; omega) (by rw [rdV2, d4, d5]; omega) (by rw [rdV2, d6, d7]; omega) (by rw [rdV2, d8, d9]; omega) (by rw [rdV2, d10, d11]; omega) (fun h => by omega)
    exact ⟨p1, p2, rfl, hbyt⟩
  · have eyd : ydOf y = 4 := by unfold ydOf; rw [if_neg hc]
    have e1 : (timeT y M d s).1 = 24 := by unfold timeT; rw [if_neg hc]
    obtain ⟨b, eb⟩ : ∃ b, b = (timeT y M d s).2 := ⟨_, rfl⟩
    have eL : b = [48 + y / 10 / 10 / 10 % 10, 48 + y / 10 / 10 % 10, 48 + y / 10 % 10, 48 + y % 10, 48 + (M : Int) / 10 % 10, 48 + (M : Int) % 10, 48 + d / 10 % 10, 48 + d % 10, 48 + s / 3600 / 10 % 10, 48 + s / 3600 % 10, 48 + s / 60 % 60 / 10 % 10, 48 + s / 60 % 60 % 10, 48 + s % 60 / 10 % 10, 48 + s % 60 % 10, 90] := by
      rw [eb]
      unfold timeT restT
      rw [if_neg hc]
      simp only [dgs2, dgs4, List.cons_append, List.nil_append]
    have d0 : dv b 0 = y / 10 / 10 / 10 % 10 := by rw [eL]; simp only [dv, el, List.getD_cons_succ, List.getD_cons_zero]; omega
    have d1 : dv b 1 = y / 10 / 10 % 10 := by rw [eL]; simp only [dv, el, List.getD_cons_succ, List.getD_cons_zero]; omega
    have d2 : dv b 2 = y / 10 % 10 := by rw [eL]; simp only [dv, el, List.getD_cons_succ, List.getD_cons_zero]; omega
    have d3 : dv b 3 = y % 10 := by rw [eL]; simp only [dv, el, List.getD_cons_succ, List.getD_cons_zero]; omega
    have d4 : dv b 4 = (M : Int) / 10 % 10 := by rw [eL]; simp only [dv, el, List.getD_cons_succ, List.getD_cons_zero]; omega
    have d5 : dv b 5 = (M : Int) % 10 := by rw [eL]; simp only [dv, el, List.getD_cons_succ, List.getD_cons_zero]; omega
    have d6 : dv b 6 = d / 10 % 10 := by rw [eL]; simp only [dv, el, List.getD_cons_succ, List.getD_cons_zero]; omega
    have d7 : dv b 7 = d % 10 := by rw [eL]; simp only [dv, el, List.getD_cons_succ, List.getD_cons_zero]; omega
    have d8 : dv b 8 = s / 3600 / 10 % 10 := by rw [eL]; simp only [dv, el, List.getD_cons_succ, List.getD_cons_zero]; omega
    have d9 : dv b 9 = s / 3600 % 10 := by rw [eL]; simp only [dv, el, List.getD_cons_succ, List.getD_cons_zero]; omega
    have d10 : dv b 10 = s / 60 % 60 / 10 % 10 := by rw [eL]; simp only [dv, el, List.getD_cons_succ, List.getD_cons_zero]; omega
    have d11 : dv b 11 = s / 60 % 60 % 10 := by rw [eL]; simp only [dv, el, List.getD_cons_succ, List.getD_cons_zero]; omega
    have d12 : dv b 12 = s % 60 / 10 % 10 := by rw [eL]; simp only [dv, el, List.getD_cons_succ, List.getD_cons_zero]; omega
    have d13 : dv b 13 = s % 60 % 10 := by rw [eL]; simp only [dv, el, List.getD_cons_succ, List.getD_cons_zero]; omega
    have hbyt : Byt b := by
      rw [eL]
      intro x hx
      simp only [List.mem_cons, List.not_mem_nil, or_false] at hx
      omega
    have hokV : okV b 0 14 = true := by
      simp only [okV, Nat.zero_add, d0, d1, d2, d3, d4, d5, d6, d7, d8, d9, d10, d11, d12, d13, Bool.true_and, Bool.and_eq_true, decide_eq_true_eq]
      omega
    have ey : rdV b 0 4 = 10 * (10 * (10 * (10 * 0 + dv b (0 + 0)) + dv b (0 + 1)) + dv b (0 + 2)) + dv b (0 + 3) := rfl
    simp only [Nat.zero_add, d0, d1, d2, d3] at ey
    rw [← eb, e1, eyd]
    obtain ⟨p1, p2⟩ := fin b 4 (.inr rfl) (by rw [eL]; rfl) (by rw [eL]; rfl) hokV (by
      unfold yearV
      rw [if_neg (by decide), ey]
      omega) (by rw [rdV2, d4, d5]; omega) (by rw [rdV2, d6, d7]; omega) (by rw [rdV2, d8, d9]; omega) (by rw [rdV2, d10, d11]; omega) (by rw [rdV2, d12, d13]; omega) (fun h => hc)
    exact ⟨p1, p2, rfl, hbyt⟩
end Go.Proofs.YtgjeejgmphaliaaDoor

/-
  The law DerTimes, walked.
-/
namespace Go.Proofs.YtgjeejgmphaliaaDoor
set_option linter.unusedVariables false
set_option linter.unusedSimpArgs false
open Go.RowKit Go.Proofs.YtgjeejgmphaliaaDoorW.PrintWords PDerTimes

theorem same_leaf (a : Int) (l : List Int) (hl : Byt l) : Ev (fun k => securelinklaw7_same.f k a l [] a (strOfNums l) []) true := by
  refine Ev.step (G := fun k => securelinklaw7_same.j0 k false a l [] a (strOfNums l) []) (Ev.step (G := fun k => securelinklaw7_same.l0 k 0 a l [] a (strOfNums l) []) (Ev.last fun k => ?_) fun k => ?_) fun k => ?_
  · simp [securelinklaw7_same.l0]
  · simp [securelinklaw7_same.j0]
  · simp [securelinklaw7_same.f]
theorem same_any (a : Int) (v : Value) (l : List Int) (hl : Byt l) (B : Nat) (w : World) (ho : w.ownsRow B 5 1 v l.length (nums .u8 l)) :
    Calls Tryd.prog 10 #[.agg #[.int .u8 a, v, .slice none 0 0], .agg #[.int .u8 a, .string (strOfNums l), .slice none 0 0]] w fun e w' => e = .returned (.bool true) ∧ Below w.heap.size w w' := by
  obtain ⟨K, hK⟩ := same_leaf a l hl
  have hR : (Kd.int .u8).R 5 w B (fun _ => True) v l := Kd.R_of_own ho (fun _ _ => trivial)
  obtain ⟨A, c, rfl, hc, hr⟩ := Kd.R_reads hR
  have := securelinklaw7_same.calls K a A c l none 0 [] a (strOfNums l) none 0 [] true w hr hc (Kd.C_nil _ _) (by simp) (Kd.C_nil _ _) (by simp) (hK K (Nat.le_refl _))
  exact this

/-- a date of a time in range -/
theorem date_of (N : Int) (h : 0 ≤ N) (h2 : N ≤ 3652424) : ∃ (y : Int) (M : Nat) (d : Int), Date y M d N ∧ 0 ≤ y ∧ y ≤ 9999 := by
  have hst := mar_start (N + 146037) (by omega)
  obtain ⟨Y, a1, a2, a3, a4⟩ := mar_find (N + 146037) 399 (by unfold marY; omega) (((N + 146037) * 400 / 146097 + 1).toNat - 399) (by
    rw [show ((399 + (((N + 146037) * 400 / 146097 + 1).toNat - 399) : Nat) : Int) = (N + 146037) * 400 / 146097 + 1 by omega]
    exact hst)
  obtain ⟨q1, q2⟩ := clock_date Y (N + 146037) (by omega) a3 a4 _ _ rfl rfl
  rw [show N + 146037 - 146037 = N by omega] at q1 q2
  have key : ∀ (y : Int) (M : Nat) (d : Int), Date y M d N → 0 ≤ y ∧ y ≤ 9999 := fun y M d hD => by
    obtain ⟨b1, b2⟩ := hD.in_year
    constructor
    · have e0 : bef 0 = 0 := by decide
      rcases (by omega : 0 ≤ y ∨ y + 1 ≤ 0) with h3 | h3
      · exact h3
      · have := bef_le (0 - (y + 1)).toNat (y + 1)
        rw [show y + 1 + ((0 - (y + 1)).toNat : Int) = 0 by omega] at this
        omega
    · have e1 : bef 10000 = 3652425 := by decide
      rcases (by omega : y ≤ 9999 ∨ 10000 ≤ y) with h3 | h3
      · exact h3
      · have := bef_le (y - 10000).toNat 10000
        rw [show 10000 + ((y - 10000).toNat : Int) = y by omega] at this
        omega
  by_cases hc : (5 * (N + 146037 - marY Y) + 2) / 153 + 3 ≤ 12
  · exact ⟨_, _, _, q1 hc, key _ _ _ (q1 hc)⟩
  · exact ⟨_, _, _, q2 (by omega), key _ _ _ (q2 (by omega))⟩

/-- the program's Time of any value without items, and the document's -/
theorem two_times (tag : Int) (s : ByteArray) (ht : 0 ≤ tag ∧ tag ≤ 255) (hs : s.size ≤ 65536) : ∃ (ok : Bool) (a : Int), (ok = false → a = 0) ∧
    (∀ (A : Option Addr) (c : Nat) (w : World), ReadsInt w .u8 A s.size (bytesOf s) → Calls Tryd.prog 11 #[.agg #[.int .u8 tag, .slice A s.size c, .slice none 0 0]] w fun e w' => e = .returned (.tuple #[.int .i64 a, .int .i64 (if ok = true then 0 else 3)]) ∧ Below w.heap.size w w') ∧
    (∀ w : World, Tabs w → Calls Tryd.prog 13 #[.agg #[.int .u8 tag, .string s, .slice none 0 0]] w fun e w' => e = .returned (.tuple #[.int .i64 a, .bool ok]) ∧ Below w.heap.size w w') := by
  have hbb := Byt.of s
  by_cases h23 : tag = 23
  · subst h23
    cases hrc : rcOk (bytesOf s) 2 with
    | false => exact ⟨false, 0, fun _ => rfl, fun A c w hr => ptime_no A s.size c 2 (bytesOf s) w (.inl rfl) hr hbb hrc, fun w hT => rtime_no 23 s w (by omega) hs (fun w' hb => vstr_any s w hs hT w' hb) (.inr (.inl ⟨rfl, hrc⟩))⟩
    | true =>
      have hok : timeOk (bytesOf s) 2 = true := by simp [timeOk, hrc]
      exact ⟨true, timeV (bytesOf s) 2, fun h => (by cases h), fun A c w hr => ptime_yes A s.size c 2 (bytesOf s) w (.inl rfl) hr hbb hok, fun w hT => rtime_23 s w hs (fun w' hb => vstr_any s w hs hT w' hb) hrc⟩
  by_cases h24 : tag = 24
  · subst h24
    cases hrc : rcOk (bytesOf s) 4 with
    | false => exact ⟨false, 0, fun _ => rfl, fun A c w hr => ptime_no A s.size c 4 (bytesOf s) w (.inr rfl) hr hbb hrc, fun w hT => rtime_no 24 s w (by omega) hs (fun w' hb => vstr_any s w hs hT w' hb) (.inr (.inr ⟨rfl, hrc⟩))⟩
    | true =>
      cases hok : timeOk (bytesOf s) 4 with
      | true =>
        refine ⟨true, timeV (bytesOf s) 4, fun h => (by cases h), fun A c w hr => ptime_yes A s.size c 4 (bytesOf s) w (.inr rfl) hr hbb hok, fun w hT => (rtime_24 s w hs (fun w' hb => vstr_any s w hs hT w' hb) hrc).mono ?_⟩
        rintro e w' ⟨⟨_, rfl⟩ | ⟨h, _⟩, hb⟩
        · exact ⟨rfl, hb⟩
        · rw [hok] at h; cases h
      | false =>
        have hy : 1950 ≤ yearV 4 (rdV (bytesOf s) 0 4) ∧ yearV 4 (rdV (bytesOf s) 0 4) < 2050 := by
          simp only [timeOk, hrc, Bool.true_and, decide_true, Bool.not_eq_false', Bool.and_eq_true, decide_eq_true_eq] at hok
          exact hok
        refine ⟨false, 0, fun _ => rfl, fun A c w hr => ptime_mid A s.size c (bytesOf s) w hr hbb hrc hy, fun w hT => (rtime_24 s w hs (fun w' hb => vstr_any s w hs hT w' hb) hrc).mono ?_⟩
        rintro e w' ⟨⟨h, _⟩ | ⟨_, rfl⟩, hb⟩
        · rw [hok] at h; cases h
        · exact ⟨rfl, hb⟩
  · exact ⟨false, 0, fun _ => rfl, fun A c w hr => ptime_tag tag _ _ w ⟨h23, h24⟩, fun w hT => rtime_no tag s w ht hs (fun w' hb => vstr_any s w hs hT w' hb) (.inl ⟨h23, h24⟩)⟩
end Go.Proofs.YtgjeejgmphaliaaDoor

/-
  The law DerTimes, walked.
-/
namespace Go.Proofs.YtgjeejgmphaliaaDoor
set_option linter.unusedVariables false
set_option linter.unusedSimpArgs false
open Go.RowKit Go.Proofs.YtgjeejgmphaliaaDoorW.PrintWords PDerTimes

set_option maxRecDepth 100000 in
set_option maxHeartbeats 4000000 in
theorem law_times (t tag : Int) (s : ByteArray) (w : World) (ht : 0 ≤ tag ∧ tag ≤ 255) (hT : Tabs w) :
    Calls Tryd.prog 3 #[.int .i64 t, .int .u8 tag, .string s] w fun e w' => e = .returned (.bool true) ∧ Below w.heap.size w w' := by
  by_cases h1 : (65536 : Int) < (s.size : Int)
  · go_enter Tryd.func3, Tryd.ntmps3
    go_wp2_with fail
    go_ret
    exact ⟨rfl, Below.refl _ _⟩
  have hs : s.size ≤ 65536 := by omega
  obtain ⟨ok, a, ha, hP, hR⟩ := two_times tag s ht hs
  replace ha := Go.Lib.hid ha
  obtain ⟨f, ef⟩ : ∃ f : Int, f = (if ok = true then 0 else 3) := ⟨_, rfl⟩
  replace ef := Go.Lib.hid ef
  replace hP := Go.Lib.hid hP
  replace hR := Go.Lib.hid hR
  replace hT := Go.Lib.hid hT
  have hO := Go.Lib.hid (fun W => of_any tag s W hs)
  by_cases hr : -62167219200 ≤ t ∧ t ≤ 253402300799
  · obtain ⟨r1, r2⟩ := hr
    obtain ⟨S, eS⟩ : ∃ S, S = (t + 62167219200) % 86400 := ⟨_, rfl⟩
    obtain ⟨N, eN⟩ : ∃ N, N = (t + 62167219200) / 86400 := ⟨_, rfl⟩
    obtain ⟨y, M, d, hD, hy⟩ := date_of N (by omega) (by omega)
    have hpp := pput_any t S N y d M w r1 r2 eS eN hD (by omega)
    have hrp := Go.Lib.hid (fun W => rput_any t S N y d M W r1 r2 eS eN hD (by omega))
    obtain ⟨pb1, pb2, pb3, pb4⟩ := put_back t S N y d M eS eN hD hy
    obtain ⟨T1, eT⟩ : ∃ T1, T1 = (timeT y M d S).1 := ⟨_, rfl⟩
    obtain ⟨L, eL⟩ : ∃ L, L = (timeT y M d S).2 := ⟨_, rfl⟩
    rw [← eT] at hpp hrp pb3
    rw [← eL] at hpp hrp pb1 pb2 pb4
    have hyd : ydOf y = 2 ∨ ydOf y = 4 := by unfold ydOf; split <;> simp
    have hPT : Hid (∀ (A : Option Addr) (c : Nat) (W : World), ReadsInt W .u8 A L.length L → Calls Tryd.prog 11 #[.agg #[.int .u8 T1, .slice A L.length c, .slice none 0 0]] W fun e w' => e = .returned (.tuple #[.int .i64 t, .int .i64 0]) ∧ Below W.heap.size W w') := Go.Lib.hid (fun A c W hrd => by
      have := ptime_yes A L.length c (ydOf y) L W hyd hrd pb4 pb1
      rw [← pb3, pb2] at this
      exact this)
    have hsame := Go.Lib.hid (fun v W ho => same_any T1 v L pb4 w.heap.size W ho)
    replace hpp := Go.Lib.hid hpp
    clear hD eS eN pb1 pb2 pb3 pb4 eT eL hyd hy r1 r2
    go_enter Tryd.func3, Tryd.ntmps3
    go_wp2_with fail
    refine hpp.out.mono ?_
    rintro e w1 ⟨v, rfl, ho, hb1⟩
    obtain ⟨A, c, rfl, _⟩ := own_reads ho
    have hz1 := hb1.size
    have k0 : (w1.alloc (Obj.cells #[.int .u8 T1, .slice A L.length c, .slice none 0 0] 25)).cell? ⟨w1.heap.size, 0, none⟩ = some (.int .u8 T1) := cell_of_row _ w1.heap.size 0 _ _ _ (heap_new w1 _)
    have k1 : (w1.alloc (Obj.cells #[.int .u8 T1, .slice A L.length c, .slice none 0 0] 25)).cell? ⟨w1.heap.size, 1, none⟩ = some (.slice A L.length c) := cell_of_row _ w1.heap.size 1 _ _ _ (heap_new w1 _)
    have k2 : (w1.alloc (Obj.cells #[.int .u8 T1, .slice A L.length c, .slice none 0 0] 25)).cell? ⟨w1.heap.size, 2, none⟩ = some (.slice none 0 0) := cell_of_row _ w1.heap.size 2 _ _ _ (heap_new w1 _)
    have ho1 := Go.Lib.hid (pw_own_below ho ((Below.refl _ w1).alloc (Nat.le_refl _) (Obj.cells #[.int .u8 T1, .slice A L.length c, .slice none 0 0] 25)))
    have hb1' := Go.Lib.hid (hb1.alloc hb1.size (Obj.cells #[.int .u8 T1, .slice A L.length c, .slice none 0 0] 25))
    clear ho hb1
    go_wp2_with fail
    refine (hrp.out _).mono ?_
    rintro e w2 ⟨rfl, hb2⟩
    replace k0 := pw_cell_below hb2 k0
    replace k1 := pw_cell_below hb2 k1
    replace k2 := pw_cell_below hb2 k2
    have hz2 : w1.heap.size + 1 ≤ w2.heap.size := by have := hb2.size; simpa using this
    have ho2 := Go.Lib.hid (pw_own_below ho1.out hb2)
    have hbw2 := Go.Lib.hid (below_then hb1'.out hb1'.out.size hb2)
    clear hb2 ho1 hb1'
    have hbl2 : ∀ o, Below w2.heap.size w2 (w2.alloc o) := fun o => (Below.refl _ w2).alloc (Nat.le_refl _) o
    have j0 : ∀ o, (w2.alloc o).cell? ⟨w1.heap.size, 0, none⟩ = some (.int .u8 T1) := fun o => pw_cell_below (hbl2 o) k0
    have j1 : ∀ o, (w2.alloc o).cell? ⟨w1.heap.size, 1, none⟩ = some (.slice A L.length c) := fun o => pw_cell_below (hbl2 o) k1
    have j2 : ∀ o, (w2.alloc o).cell? ⟨w1.heap.size, 2, none⟩ = some (.slice none 0 0) := fun o => pw_cell_below (hbl2 o) k2
    have ho3 := Go.Lib.hid (fun o => pw_own_below ho2.out (hbl2 o))
    have hbw3 := Go.Lib.hid (fun o => hbw2.out.alloc hbw2.out.size o)
    replace hbl2 := Go.Lib.hid hbl2
    clear k0 k1 k2 ho2
    go_wp2_with fail
    refine (hsame.out _ _ (ho3.out _)).mono ?_
    rintro e w3 ⟨rfl, hb3⟩
    have i0 := pw_cell_below hb3 (j0 _)
    have i1 := pw_cell_below hb3 (j1 _)
    have i2 := pw_cell_below hb3 (j2 _)
    have ho4 := pw_own_below (ho3.out _) hb3
    have hbw4 := Go.Lib.hid (below_then (hbw3.out _) (hbw3.out _).size hb3)
    have hrd := Go.Lib.hid (own_reads' ho4)
    clear j0 j1 j2 ho3 hb3 ho4 hbw3 hbw2
    go_wp2_with fail
    refine (hPT.out _ _ _ hrd.out).mono ?_
    rintro e w4 ⟨rfl, hb5⟩
    have hbw5 := Go.Lib.hid (below_then hbw4.out hbw4.out.size hb5)
    clear i0 i1 i2 hrd hbw4 hb5
    go_wp2_with fail
    have q0 : (w4.alloc (Obj.cells #[.int .u8 tag, .string s, .slice none 0 0] 31)).cell? ⟨w4.heap.size, 0, none⟩ = some (.int .u8 tag) := cell_of_row _ w4.heap.size 0 _ _ _ (heap_new w4 _)
    have q1 : (w4.alloc (Obj.cells #[.int .u8 tag, .string s, .slice none 0 0] 31)).cell? ⟨w4.heap.size, 1, none⟩ = some (.string s) := cell_of_row _ w4.heap.size 1 _ _ _ (heap_new w4 _)
    have q2 : (w4.alloc (Obj.cells #[.int .u8 tag, .string s, .slice none 0 0] 31)).cell? ⟨w4.heap.size, 2, none⟩ = some (.slice none 0 0) := cell_of_row _ w4.heap.size 2 _ _ _ (heap_new w4 _)
    refine (hO.out _).mono ?_
    rintro e w5 ⟨A5, c5, rfl, hrd5, hb6⟩
    replace q0 := pw_cell_below hb6 q0
    replace q1 := pw_cell_below hb6 q1
    replace q2 := pw_cell_below hb6 q2
    have hbw6 := Go.Lib.hid (below_then (hbw5.out.alloc hbw5.out.size _) (hbw5.out.alloc hbw5.out.size _).size hb6)
    replace hrd5 := Go.Lib.hid hrd5
    clear hb6
    go_wp2_with fail
    refine (hP.out _ _ _ hrd5.out).mono ?_
    rintro e w6 ⟨rfl, hb7⟩
    replace q0 := pw_cell_below hb7 q0
    replace q1 := pw_cell_below hb7 q1
    replace q2 := pw_cell_below hb7 q2
    have hbw7 := Go.Lib.hid (below_then hbw6.out hbw6.out.size hb7)
    clear hb7 hbw6
    rw [← ef.out]
    go_wp2_with fail
    refine (hR.out _ (Utf8Tabs_below hT.out hbw7.out)).mono ?_
    rintro e w7 ⟨rfl, hb8⟩
    have hbw8 := Go.Lib.hid (below_then hbw7.out hbw7.out.size hb8)
    clear hb8 q0 q1 q2
    cases ok with
    | true =>
      obtain rfl : f = 0 := ef.out
      go_wp2_with fail
      go_ret
      exact ⟨rfl, hbw8.out⟩
    | false =>
      obtain rfl : f = 3 := ef.out
      obtain rfl : a = 0 := ha.out rfl
      go_wp2_with fail
      go_ret
      exact ⟨rfl, hbw8.out⟩
  · have hpp := Go.Lib.hid (pput_out t w (by omega))
    have hrp := Go.Lib.hid (fun W => rput_out t W (by omega))
    clear hr
    go_enter Tryd.func3, Tryd.ntmps3
    go_wp2_with fail
    refine hpp.out.mono ?_
    rintro e w1 ⟨rfl, hb1⟩
    have k0 : (w1.alloc (Obj.cells #[.int .u8 0, .slice none 0 0, .slice none 0 0] 25)).cell? ⟨w1.heap.size, 0, none⟩ = some (.int .u8 0) := cell_of_row _ w1.heap.size 0 _ _ _ (heap_new w1 _)
    have k1 : (w1.alloc (Obj.cells #[.int .u8 0, .slice none 0 0, .slice none 0 0] 25)).cell? ⟨w1.heap.size, 1, none⟩ = some (.slice none 0 0) := cell_of_row _ w1.heap.size 1 _ _ _ (heap_new w1 _)
    have hb1' := Go.Lib.hid (hb1.alloc hb1.size (Obj.cells #[.int .u8 0, .slice none 0 0, .slice none 0 0] 25))
    have hz1 := hb1.size
    clear hb1
    go_wp2_with fail
    refine (hrp.out _).mono ?_
    rintro e w2 ⟨rfl, hb2⟩
    replace k0 := pw_cell_below hb2 k0
    replace k1 := pw_cell_below hb2 k1
    have hbw2 := Go.Lib.hid (below_then hb1'.out hb1'.out.size hb2)
    clear hb2 hb1'
    have hbl2 : ∀ o, Below w2.heap.size w2 (w2.alloc o) := fun o => (Below.refl _ w2).alloc (Nat.le_refl _) o
    have j0 : ∀ o, (w2.alloc o).cell? ⟨w1.heap.size, 0, none⟩ = some (.int .u8 0) := fun o => pw_cell_below (hbl2 o) k0
    have j1 : ∀ o, (w2.alloc o).cell? ⟨w1.heap.size, 1, none⟩ = some (.slice none 0 0) := fun o => pw_cell_below (hbl2 o) k1
    have hbw3 := Go.Lib.hid (fun o => hbw2.out.alloc hbw2.out.size o)
    clear k0 k1 hbl2
    go_wp2_with fail
    have ez : (w2.alloc (Obj.cells #[.int .u8 0, .string ⟨#[]⟩, .slice none 0 0] 31)).heap.size = w2.heap.size + 1 := by simp
    have q0 : ((w2.alloc (Obj.cells #[.int .u8 0, .string ⟨#[]⟩, .slice none 0 0] 31)).alloc (Obj.cells #[.int .u8 tag, .string s, .slice none 0 0] 31)).cell? ⟨w2.heap.size + 1, 0, none⟩ = some (.int .u8 tag) := by rw [← ez]; exact cell_of_row _ _ 0 _ _ _ (heap_new (w2.alloc (Obj.cells #[.int .u8 0, .string ⟨#[]⟩, .slice none 0 0] 31)) _)
    have q1 : ((w2.alloc (Obj.cells #[.int .u8 0, .string ⟨#[]⟩, .slice none 0 0] 31)).alloc (Obj.cells #[.int .u8 tag, .string s, .slice none 0 0] 31)).cell? ⟨w2.heap.size + 1, 1, none⟩ = some (.string s) := by rw [← ez]; exact cell_of_row _ _ 1 _ _ _ (heap_new (w2.alloc (Obj.cells #[.int .u8 0, .string ⟨#[]⟩, .slice none 0 0] 31)) _)
    have q2 : ((w2.alloc (Obj.cells #[.int .u8 0, .string ⟨#[]⟩, .slice none 0 0] 31)).alloc (Obj.cells #[.int .u8 tag, .string s, .slice none 0 0] 31)).cell? ⟨w2.heap.size + 1, 2, none⟩ = some (.slice none 0 0) := by rw [← ez]; exact cell_of_row _ _ 2 _ _ _ (heap_new (w2.alloc (Obj.cells #[.int .u8 0, .string ⟨#[]⟩, .slice none 0 0] 31)) _)
    clear ez j0 j1
    refine (hO.out _).mono ?_
    rintro e w5 ⟨A5, c5, rfl, hrd5, hb6⟩
    replace q0 := pw_cell_below hb6 q0
    replace q1 := pw_cell_below hb6 q1
    replace q2 := pw_cell_below hb6 q2
    have hbw6 := Go.Lib.hid (below_then ((hbw3.out _).alloc (hbw3.out _).size _) ((hbw3.out _).alloc (hbw3.out _).size _).size hb6)
    replace hrd5 := Go.Lib.hid hrd5
    clear hb6
    go_wp2_with fail
    refine (hP.out _ _ _ hrd5.out).mono ?_
    rintro e w6 ⟨rfl, hb7⟩
    replace q0 := pw_cell_below hb7 q0
    replace q1 := pw_cell_below hb7 q1
    replace q2 := pw_cell_below hb7 q2
    have hbw7 := Go.Lib.hid (below_then hbw6.out hbw6.out.size hb7)
    clear hb7 hbw6
    rw [← ef.out]
    go_wp2_with fail
    refine (hR.out _ (Utf8Tabs_below hT.out hbw7.out)).mono ?_
    rintro e w7 ⟨rfl, hb8⟩
    have hbw8 := Go.Lib.hid (below_then hbw7.out hbw7.out.size hb8)
    clear hb8 q0 q1 q2
    cases ok with
    | true =>
      obtain rfl : f = 0 := ef.out
      go_wp2_with fail
      go_ret
      exact ⟨rfl, hbw8.out⟩
    | false =>
      obtain rfl : f = 3 := ef.out
      obtain rfl : a = 0 := ha.out rfl
      go_wp2_with fail
      go_ret
      exact ⟨rfl, hbw8.out⟩
end Go.Proofs.YtgjeejgmphaliaaDoor

/-
  The row's condition on the two tables of utf8, as the law's walk asks it.
-/
namespace Go.Proofs.YtgjeejgmphaliaaDoor
set_option linter.unusedVariables false
open Go.RowKit Go.Proofs.YtgjeejgmphaliaaDoorW.PrintWords

theorem met_tabs {W : World} (h : laidMetH Tryd.prog [("unicode/utf8.acceptRanges", Rows.laid_unicode_utf8_acceptRanges), ("unicode/utf8.first", Rows.laid_unicode_utf8_first)] W) : laidMet Tryd.prog [("unicode/utf8.acceptRanges", Rows.laid_unicode_utf8_acceptRanges), ("unicode/utf8.first", Rows.laid_unicode_utf8_first)] W := by
  rwa [MakeChecks.laidMetH_plain _ _ _ (by kernel_rfl)] at h
theorem first_eq : Rows.laid_unicode_utf8_first = Lib.firstData := Pinned.utf8First_eq
set_option maxRecDepth 100000 in
theorem accept_eq : (Rows.laid_unicode_utf8_acceptRanges : DataW Unit) = Lib.acceptData := by kernel_rfl
theorem tabs_of_laid {W : World} (h : laidMetH Tryd.prog [("unicode/utf8.acceptRanges", Rows.laid_unicode_utf8_acceptRanges), ("unicode/utf8.first", Rows.laid_unicode_utf8_first)] W) : Tabs W :=
  utf8Tabs_of_readsT (U8Types.of196 Tryd.laysValid) ⟨by kernel_rfl, by kernel_rfl, by kernel_rfl, by kernel_rfl, by kernel_rfl, by kernel_rfl, by kernel_rfl⟩ (first_eq ▸ Lib.laidMet.reads (met_tabs h) (.tail _ (.head _))) (accept_eq ▸ Lib.laidMet.reads (met_tabs h) (.head _))
theorem door_tabs (os : Os) (args : Array Value) : laidMetH Tryd.prog [("unicode/utf8.acceptRanges", Rows.laid_unicode_utf8_acceptRanges), ("unicode/utf8.first", Rows.laid_unicode_utf8_first)] ((World.laidAll Tryd.prog os [("unicode/utf8.acceptRanges", Rows.laid_unicode_utf8_acceptRanges), ("unicode/utf8.first", Rows.laid_unicode_utf8_first)]).forCall (fun _ _ => 0) ⟨#[], args, []⟩).memory := by
  rw [MakeChecks.laidMetH_plain _ _ _ (by kernel_rfl)]
  exact laidMet_laidAll _ (by kernel_rfl) (by kernel_rfl)
end Go.Proofs.YtgjeejgmphaliaaDoor
