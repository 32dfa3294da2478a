/-
  The quarter of ChaCha20: the program's and the reference's come to one list.
-/
import Derived.Test.YtdocbmgledebaaaProg
import Derived.Test.YtdocbmgledebaaaLib
import Derived.Test.YtdocbmgledebaaaReg
import Derived.WalkKit
import Derived.WalkSpells
import Derived.WalkLawsBesides
import Derived.BigQuiet
import Derived.LoopN
namespace Go.Proofs.Ytdocbmgledebaaa
set_option linter.unusedVariables false
set_option linter.unusedSimpArgs false
open Go.RowKit Go.Proofs.YtdocbmgledebaaaW.PrintWords

def rotl (x : Int) (k : Nat) : Int := bits .or .u32 (x * 2 ^ k % 4294967296) (x / 2 ^ (32 - k))
theorem rotl_range (x : Int) (k : Nat) : 0 ≤ rotl x k ∧ rotl x k ≤ 4294967295 := bits_u32 _ _ _
set_option maxRecDepth 100000 in
theorem rot_16 (x : Int) (w : World) (h0 : 0 ≤ x) (h1 : x ≤ 4294967295) :
    Calls Try.prog 42 #[.int .u32 x, .int .i64 16] w fun e w' => e = .returned (.int .u32 (rotl x 16)) ∧ w' = w := by
  have hb : bits .and .u64 16 31 = 16 := by decide +kernel
  go_enter Try.func42, Try.ntmps42
  go_wp2
  go_ret
  exact ⟨rfl, rfl⟩
set_option maxRecDepth 100000 in
theorem left_16 (x : Int) (w : World) (h0 : 0 ≤ x) (h1 : x ≤ 4294967295) :
    Calls Try.prog 35 #[.int .u32 x, .int .i64 16] w fun e w' => e = .returned (.int .u32 (rotl x 16)) ∧ ∃ m, w' = w.drewN m := by
  go_enter Try.func35, Try.ntmps35
  go_wp2
  go_quiet (fail)
  go_wp2
  go_ret
  exact ⟨rfl, _, rfl⟩
set_option maxRecDepth 100000 in
theorem rot_12 (x : Int) (w : World) (h0 : 0 ≤ x) (h1 : x ≤ 4294967295) :
    Calls Try.prog 42 #[.int .u32 x, .int .i64 12] w fun e w' => e = .returned (.int .u32 (rotl x 12)) ∧ w' = w := by
  have hb : bits .and .u64 12 31 = 12 := by decide +kernel
  go_enter Try.func42, Try.ntmps42
  go_wp2
  go_ret
  exact ⟨rfl, rfl⟩
set_option maxRecDepth 100000 in
theorem left_12 (x : Int) (w : World) (h0 : 0 ≤ x) (h1 : x ≤ 4294967295) :
    Calls Try.prog 35 #[.int .u32 x, .int .i64 12] w fun e w' => e = .returned (.int .u32 (rotl x 12)) ∧ ∃ m, w' = w.drewN m := by
  go_enter Try.func35, Try.ntmps35
  go_wp2
  go_quiet (fail)
  go_wp2
  go_ret
  exact ⟨rfl, _, rfl⟩
set_option maxRecDepth 100000 in
theorem rot_8 (x : Int) (w : World) (h0 : 0 ≤ x) (h1 : x ≤ 4294967295) :
    Calls Try.prog 42 #[.int .u32 x, .int .i64 8] w fun e w' => e = .returned (.int .u32 (rotl x 8)) ∧ w' = w := by
  have hb : bits .and .u64 8 31 = 8 := by decide +kernel
  go_enter Try.func42, Try.ntmps42
  go_wp2
  go_ret
  exact ⟨rfl, rfl⟩
set_option maxRecDepth 100000 in
theorem left_8 (x : Int) (w : World) (h0 : 0 ≤ x) (h1 : x ≤ 4294967295) :
    Calls Try.prog 35 #[.int .u32 x, .int .i64 8] w fun e w' => e = .returned (.int .u32 (rotl x 8)) ∧ ∃ m, w' = w.drewN m := by
  go_enter Try.func35, Try.ntmps35
  go_wp2
  go_quiet (fail)
  go_wp2
  go_ret
  exact ⟨rfl, _, rfl⟩
set_option maxRecDepth 100000 in
theorem rot_7 (x : Int) (w : World) (h0 : 0 ≤ x) (h1 : x ≤ 4294967295) :
    Calls Try.prog 42 #[.int .u32 x, .int .i64 7] w fun e w' => e = .returned (.int .u32 (rotl x 7)) ∧ w' = w := by
  have hb : bits .and .u64 7 31 = 7 := by decide +kernel
  go_enter Try.func42, Try.ntmps42
  go_wp2
  go_ret
  exact ⟨rfl, rfl⟩
set_option maxRecDepth 100000 in
theorem left_7 (x : Int) (w : World) (h0 : 0 ≤ x) (h1 : x ≤ 4294967295) :
    Calls Try.prog 35 #[.int .u32 x, .int .i64 7] w fun e w' => e = .returned (.int .u32 (rotl x 7)) ∧ ∃ m, w' = w.drewN m := by
  go_enter Try.func35, Try.ntmps35
  go_wp2
  go_quiet (fail)
  go_wp2
  go_ret
  exact ⟨rfl, _, rfl⟩

/-- one half of a quarter -/
def half (l : List Int) (a b c d m n : Nat) : List Int :=
  let l := l.set a ((el l a + el l b) % 4294967296)
  let l := l.set d (rotl (bits .xor .u32 (el l d) (el l a)) m)
  let l := l.set c ((el l c + el l d) % 4294967296)
  l.set b (rotl (bits .xor .u32 (el l b) (el l c)) n)
def quarter (l : List Int) (a b c d : Nat) : List Int := half (half l a b c d 16 12) a b c d 8 7
theorem half_len (l : List Int) (a b c d m n : Nat) : (half l a b c d m n).length = l.length := by simp [half]
theorem quarter_len (l : List Int) (a b c d : Nat) : (quarter l a b c d).length = l.length := by simp [quarter, half_len]
theorem half_u32 {l : List Int} (h : U32s l) (a b c d m n : Nat) : U32s (half l a b c d m n) := by
  unfold half
  exact (((h.set _ _ ⟨by omega, by omega⟩).set _ _ (rotl_range _ _)).set _ _ ⟨by omega, by omega⟩).set _ _ (rotl_range _ _)
theorem quarter_u32 {l : List Int} (h : U32s l) (a b c d : Nat) : U32s (quarter l a b c d) := half_u32 (half_u32 h _ _ _ _ _ _) _ _ _ _ _ _

set_option maxRecDepth 100000 in
set_option maxHeartbeats 2000000 in
theorem quarter_any (B g a b c d : Nat) (l : List Int) (w : World) (hBw : B ≤ w.heap.size) (hl : l.length = 16) (ha : a < 16) (hb : b < 16) (hc : c < 16) (hd : d < 16) (h : Blk w g .u32 45 l) (hr : U32s l) :
    Calls Try.prog 34 #[.pointer (some ⟨g, 0, none⟩), .int .i64 a, .int .i64 b, .int .i64 c, .int .i64 d] w fun e w' =>
      e = .returned (.tuple #[]) ∧ Blk w' g .u32 45 (quarter l a b c d) ∧ Fr B g w w' := by
  have i0 : ∀ w, (Instr.index 75 (.agg #[.int .i64 16, .int .i64 12, .int .i64 8, .int .i64 7]) (.int .i64 0)).run Try.prog w = .ok (.agg #[.int .i64 16, .int .i64 12]) w := fun _ => by kernel_rfl
  have i1 : ∀ w, (Instr.index 75 (.agg #[.int .i64 16, .int .i64 12, .int .i64 8, .int .i64 7]) (.int .i64 1)).run Try.prog w = .ok (.agg #[.int .i64 8, .int .i64 7]) w := fun _ => by kernel_rfl
  have hL := Go.Lib.hid hl
  have hR := Go.Lib.hid hr
  have hF := Fr.refl B g w
  have hg := h.lt
  clear hl hr
  have ia : (a : Int) < 16 := by omega
  have ib : (b : Int) < 16 := by omega
  have ic : (c : Int) < 16 := by omega
  have id : (d : Int) < 16 := by omega
  go_enter Try.func34, Try.ntmps34
  go_wp2_with fail
  refine wp_loop_rounds 3 ?_
  rw [rounds_succ]
  go_wp2_with fail
  skip
  replace h := h.alloc (Obj.cells #[Value.int IntKind.i64 16, Value.int IntKind.i64 12] 74)
  have hN : (w.alloc (Obj.cells #[Value.int IntKind.i64 16, Value.int IntKind.i64 12] 74)).heap[w.heap.size]? = some (Obj.cells #[Value.int IntKind.i64 16, Value.int IntKind.i64 12] 74) := heap_alloc_new _ _
  replace hF := hF.alloc (hBw) (Obj.cells #[Value.int IntKind.i64 16, Value.int IntKind.i64 12] 74)
  have hne : w.heap.size ≠ g := Nat.ne_of_gt hg
  generalize w.alloc (Obj.cells #[Value.int IntKind.i64 16, Value.int IntKind.i64 12] 74) = x0 at *
  generalize w.heap.size = G0 at hN hne ⊢
  have c1 := h.cell a (by rw [hL.out]; exact ha)
  have c2 := h.cell b (by rw [hL.out]; exact hb)
  have c3 : x0.cell? ⟨G0, 0, none⟩ = some (.int .i64 16) := by rw [cell_of_row x0 G0 0 _ _ _ hN]; rfl
  have c4 : x0.cell? ⟨G0, 1, none⟩ = some (.int .i64 12) := by rw [cell_of_row x0 G0 1 _ _ _ hN]; rfl
  have f1 := h.frozen a
  refine region_tail (C := fun w' => ∃ n, w' = x0.drewN n) 13 (by kernel_rfl) (by kernel_rfl) ⟨1, rfl⟩ ?_
  simp only [List.take_succ_cons, List.take_zero, List.drop_succ_cons, List.drop_zero]
  repeat quiet_step (fail)
  refine wpQuiet_nil ?_
  rintro _ ⟨nq, rfl⟩
  clear c1 c2 c3 c4
  replace h := h.drewN nq
  replace hN : (x0.drewN nq).heap[G0]? = _ := hN
  replace hF := (Sm.drewN x0 nq).fr hF
  have c1 := h.cell a (by rw [hL.out]; exact ha)
  have f1 := h.frozen a
  generalize x0.drewN nq = w1 at *
  go_wp2_with fail
  clear c1 f1
  replace h := h.set a ((el l a + el l b) % 4294967296)
  replace hN := blk_other (i := a) (v := .int .u32 ((el l a + el l b) % 4294967296)) hN hne
  replace hF := hF.set a (.int .u32 ((el l a + el l b) % 4294967296))
  replace hL := Go.Lib.hid (set_len hL.out a ((el l a + el l b) % 4294967296))
  replace hR := Go.Lib.hid (hR.out.set a ((el l a + el l b) % 4294967296) (⟨by omega, by omega⟩))
  replace hg := h.lt
  generalize w1.setCell ⟨g, a, none⟩ (.int .u32 ((el l a + el l b) % 4294967296)) = w2 at *
  obtain ⟨l1, E1⟩ : ∃ x, x = l.set a ((el l a + el l b) % 4294967296) := ⟨_, rfl⟩
  rw [← E1] at h hL hR
  replace E1 := Go.Lib.hid E1
  have c1 := h.cell d (by rw [hL.out]; exact hd)
  have c2 := h.cell a (by rw [hL.out]; exact ha)
  have c3 : w2.cell? ⟨G0, 0, none⟩ = some (.int .i64 16) := by rw [cell_of_row w2 G0 0 _ _ _ hN]; rfl
  have c4 : w2.cell? ⟨G0, 1, none⟩ = some (.int .i64 12) := by rw [cell_of_row w2 G0 1 _ _ _ hN]; rfl
  have f1 := h.frozen d
  refine region_tail (C := fun w' => ∃ n, w' = w2.drewN n) 18 (by kernel_rfl) (by kernel_rfl) ⟨1, rfl⟩ ?_
  simp only [List.take_succ_cons, List.take_zero, List.drop_succ_cons, List.drop_zero]
  repeat quiet_step (exact Calls.quiet_of_same (rot_16 _ _ (bits_u32 _ _ _).1 (bits_u32 _ _ _).2))
  refine wpQuiet_nil ?_
  rintro _ ⟨nq, rfl⟩
  clear c1 c2 c3 c4
  replace h := h.drewN nq
  replace hN : (w2.drewN nq).heap[G0]? = _ := hN
  replace hF := (Sm.drewN w2 nq).fr hF
  have c1 := h.cell d (by rw [hL.out]; exact hd)
  have f1 := h.frozen d
  generalize w2.drewN nq = w3 at *
  go_wp2_with fail
  clear c1 f1
  replace h := h.set d (rotl (bits BinOp.xor IntKind.u32 (el l1 d) (el l1 a)) 16)
  replace hN := blk_other (i := d) (v := .int .u32 (rotl (bits BinOp.xor IntKind.u32 (el l1 d) (el l1 a)) 16)) hN hne
  replace hF := hF.set d (.int .u32 (rotl (bits BinOp.xor IntKind.u32 (el l1 d) (el l1 a)) 16))
  replace hL := Go.Lib.hid (set_len hL.out d (rotl (bits BinOp.xor IntKind.u32 (el l1 d) (el l1 a)) 16))
  replace hR := Go.Lib.hid (hR.out.set d (rotl (bits BinOp.xor IntKind.u32 (el l1 d) (el l1 a)) 16) (rotl_range _ _))
  replace hg := h.lt
  generalize w3.setCell ⟨g, d, none⟩ (.int .u32 (rotl (bits BinOp.xor IntKind.u32 (el l1 d) (el l1 a)) 16)) = w4 at *
  obtain ⟨l2, E2⟩ : ∃ x, x = l1.set d (rotl (bits BinOp.xor IntKind.u32 (el l1 d) (el l1 a)) 16) := ⟨_, rfl⟩
  rw [← E2] at h hL hR
  replace E2 := Go.Lib.hid E2
  have c1 := h.cell c (by rw [hL.out]; exact hc)
  have c2 := h.cell d (by rw [hL.out]; exact hd)
  have c3 : w4.cell? ⟨G0, 0, none⟩ = some (.int .i64 16) := by rw [cell_of_row w4 G0 0 _ _ _ hN]; rfl
  have c4 : w4.cell? ⟨G0, 1, none⟩ = some (.int .i64 12) := by rw [cell_of_row w4 G0 1 _ _ _ hN]; rfl
  have f1 := h.frozen c
  refine region_tail (C := fun w' => ∃ n, w' = w4.drewN n) 13 (by kernel_rfl) (by kernel_rfl) ⟨1, rfl⟩ ?_
  simp only [List.take_succ_cons, List.take_zero, List.drop_succ_cons, List.drop_zero]
  repeat quiet_step (fail)
  refine wpQuiet_nil ?_
  rintro _ ⟨nq, rfl⟩
  clear c1 c2 c3 c4
  replace h := h.drewN nq
  replace hN : (w4.drewN nq).heap[G0]? = _ := hN
  replace hF := (Sm.drewN w4 nq).fr hF
  have c1 := h.cell c (by rw [hL.out]; exact hc)
  have f1 := h.frozen c
  generalize w4.drewN nq = w5 at *
  go_wp2_with fail
  clear c1 f1
  replace h := h.set c ((el l2 c + el l2 d) % 4294967296)
  replace hN := blk_other (i := c) (v := .int .u32 ((el l2 c + el l2 d) % 4294967296)) hN hne
  replace hF := hF.set c (.int .u32 ((el l2 c + el l2 d) % 4294967296))
  replace hL := Go.Lib.hid (set_len hL.out c ((el l2 c + el l2 d) % 4294967296))
  replace hR := Go.Lib.hid (hR.out.set c ((el l2 c + el l2 d) % 4294967296) (⟨by omega, by omega⟩))
  replace hg := h.lt
  generalize w5.setCell ⟨g, c, none⟩ (.int .u32 ((el l2 c + el l2 d) % 4294967296)) = w6 at *
  obtain ⟨l3, E3⟩ : ∃ x, x = l2.set c ((el l2 c + el l2 d) % 4294967296) := ⟨_, rfl⟩
  rw [← E3] at h hL hR
  replace E3 := Go.Lib.hid E3
  have c1 := h.cell b (by rw [hL.out]; exact hb)
  have c2 := h.cell c (by rw [hL.out]; exact hc)
  have c3 : w6.cell? ⟨G0, 0, none⟩ = some (.int .i64 16) := by rw [cell_of_row w6 G0 0 _ _ _ hN]; rfl
  have c4 : w6.cell? ⟨G0, 1, none⟩ = some (.int .i64 12) := by rw [cell_of_row w6 G0 1 _ _ _ hN]; rfl
  have f1 := h.frozen b
  refine region_tail (C := fun w' => ∃ n, w' = w6.drewN n) 18 (by kernel_rfl) (by kernel_rfl) ⟨1, rfl⟩ ?_
  simp only [List.take_succ_cons, List.take_zero, List.drop_succ_cons, List.drop_zero]
  repeat quiet_step (exact Calls.quiet_of_same (rot_12 _ _ (bits_u32 _ _ _).1 (bits_u32 _ _ _).2))
  refine wpQuiet_nil ?_
  rintro _ ⟨nq, rfl⟩
  clear c1 c2 c3 c4
  replace h := h.drewN nq
  replace hN : (w6.drewN nq).heap[G0]? = _ := hN
  replace hF := (Sm.drewN w6 nq).fr hF
  have c1 := h.cell b (by rw [hL.out]; exact hb)
  have f1 := h.frozen b
  generalize w6.drewN nq = w7 at *
  go_wp2_with fail
  clear c1 f1
  replace h := h.set b (rotl (bits BinOp.xor IntKind.u32 (el l3 b) (el l3 c)) 12)
  replace hN := blk_other (i := b) (v := .int .u32 (rotl (bits BinOp.xor IntKind.u32 (el l3 b) (el l3 c)) 12)) hN hne
  replace hF := hF.set b (.int .u32 (rotl (bits BinOp.xor IntKind.u32 (el l3 b) (el l3 c)) 12))
  replace hL := Go.Lib.hid (set_len hL.out b (rotl (bits BinOp.xor IntKind.u32 (el l3 b) (el l3 c)) 12))
  replace hR := Go.Lib.hid (hR.out.set b (rotl (bits BinOp.xor IntKind.u32 (el l3 b) (el l3 c)) 12) (rotl_range _ _))
  replace hg := h.lt
  generalize w7.setCell ⟨g, b, none⟩ (.int .u32 (rotl (bits BinOp.xor IntKind.u32 (el l3 b) (el l3 c)) 12)) = w8 at *
  obtain ⟨l4, E4⟩ : ∃ x, x = l3.set b (rotl (bits BinOp.xor IntKind.u32 (el l3 b) (el l3 c)) 12) := ⟨_, rfl⟩
  rw [← E4] at h hL hR
  replace E4 := Go.Lib.hid E4
  go_wp2_with fail
  rw [rounds_succ]
  go_wp2_with fail
  clear hN hne
  replace h := h.alloc (Obj.cells #[Value.int IntKind.i64 8, Value.int IntKind.i64 7] 74)
  have hN : (w8.alloc (Obj.cells #[Value.int IntKind.i64 8, Value.int IntKind.i64 7] 74)).heap[w8.heap.size]? = some (Obj.cells #[Value.int IntKind.i64 8, Value.int IntKind.i64 7] 74) := heap_alloc_new _ _
  replace hF := hF.alloc (Nat.le_trans hBw hF.size) (Obj.cells #[Value.int IntKind.i64 8, Value.int IntKind.i64 7] 74)
  have hne : w8.heap.size ≠ g := Nat.ne_of_gt hg
  generalize w8.alloc (Obj.cells #[Value.int IntKind.i64 8, Value.int IntKind.i64 7] 74) = x1 at *
  generalize w8.heap.size = G1 at hN hne ⊢
  have c1 := h.cell a (by rw [hL.out]; exact ha)
  have c2 := h.cell b (by rw [hL.out]; exact hb)
  have c3 : x1.cell? ⟨G1, 0, none⟩ = some (.int .i64 8) := by rw [cell_of_row x1 G1 0 _ _ _ hN]; rfl
  have c4 : x1.cell? ⟨G1, 1, none⟩ = some (.int .i64 7) := by rw [cell_of_row x1 G1 1 _ _ _ hN]; rfl
  have f1 := h.frozen a
  refine region_tail (C := fun w' => ∃ n, w' = x1.drewN n) 13 (by kernel_rfl) (by kernel_rfl) ⟨1, rfl⟩ ?_
  simp only [List.take_succ_cons, List.take_zero, List.drop_succ_cons, List.drop_zero]
  repeat quiet_step (fail)
  refine wpQuiet_nil ?_
  rintro _ ⟨nq, rfl⟩
  clear c1 c2 c3 c4
  replace h := h.drewN nq
  replace hN : (x1.drewN nq).heap[G1]? = _ := hN
  replace hF := (Sm.drewN x1 nq).fr hF
  have c1 := h.cell a (by rw [hL.out]; exact ha)
  have f1 := h.frozen a
  generalize x1.drewN nq = w9 at *
  go_wp2_with fail
  clear c1 f1
  replace h := h.set a ((el l4 a + el l4 b) % 4294967296)
  replace hN := blk_other (i := a) (v := .int .u32 ((el l4 a + el l4 b) % 4294967296)) hN hne
  replace hF := hF.set a (.int .u32 ((el l4 a + el l4 b) % 4294967296))
  replace hL := Go.Lib.hid (set_len hL.out a ((el l4 a + el l4 b) % 4294967296))
  replace hR := Go.Lib.hid (hR.out.set a ((el l4 a + el l4 b) % 4294967296) (⟨by omega, by omega⟩))
  replace hg := h.lt
  generalize w9.setCell ⟨g, a, none⟩ (.int .u32 ((el l4 a + el l4 b) % 4294967296)) = w10 at *
  obtain ⟨l5, E5⟩ : ∃ x, x = l4.set a ((el l4 a + el l4 b) % 4294967296) := ⟨_, rfl⟩
  rw [← E5] at h hL hR
  replace E5 := Go.Lib.hid E5
  have c1 := h.cell d (by rw [hL.out]; exact hd)
  have c2 := h.cell a (by rw [hL.out]; exact ha)
  have c3 : w10.cell? ⟨G1, 0, none⟩ = some (.int .i64 8) := by rw [cell_of_row w10 G1 0 _ _ _ hN]; rfl
  have c4 : w10.cell? ⟨G1, 1, none⟩ = some (.int .i64 7) := by rw [cell_of_row w10 G1 1 _ _ _ hN]; rfl
  have f1 := h.frozen d
  refine region_tail (C := fun w' => ∃ n, w' = w10.drewN n) 18 (by kernel_rfl) (by kernel_rfl) ⟨1, rfl⟩ ?_
  simp only [List.take_succ_cons, List.take_zero, List.drop_succ_cons, List.drop_zero]
  repeat quiet_step (exact Calls.quiet_of_same (rot_8 _ _ (bits_u32 _ _ _).1 (bits_u32 _ _ _).2))
  refine wpQuiet_nil ?_
  rintro _ ⟨nq, rfl⟩
  clear c1 c2 c3 c4
  replace h := h.drewN nq
  replace hN : (w10.drewN nq).heap[G1]? = _ := hN
  replace hF := (Sm.drewN w10 nq).fr hF
  have c1 := h.cell d (by rw [hL.out]; exact hd)
  have f1 := h.frozen d
  generalize w10.drewN nq = w11 at *
  go_wp2_with fail
  clear c1 f1
  replace h := h.set d (rotl (bits BinOp.xor IntKind.u32 (el l5 d) (el l5 a)) 8)
  replace hN := blk_other (i := d) (v := .int .u32 (rotl (bits BinOp.xor IntKind.u32 (el l5 d) (el l5 a)) 8)) hN hne
  replace hF := hF.set d (.int .u32 (rotl (bits BinOp.xor IntKind.u32 (el l5 d) (el l5 a)) 8))
  replace hL := Go.Lib.hid (set_len hL.out d (rotl (bits BinOp.xor IntKind.u32 (el l5 d) (el l5 a)) 8))
  replace hR := Go.Lib.hid (hR.out.set d (rotl (bits BinOp.xor IntKind.u32 (el l5 d) (el l5 a)) 8) (rotl_range _ _))
  replace hg := h.lt
  generalize w11.setCell ⟨g, d, none⟩ (.int .u32 (rotl (bits BinOp.xor IntKind.u32 (el l5 d) (el l5 a)) 8)) = w12 at *
  obtain ⟨l6, E6⟩ : ∃ x, x = l5.set d (rotl (bits BinOp.xor IntKind.u32 (el l5 d) (el l5 a)) 8) := ⟨_, rfl⟩
  rw [← E6] at h hL hR
  replace E6 := Go.Lib.hid E6
  have c1 := h.cell c (by rw [hL.out]; exact hc)
  have c2 := h.cell d (by rw [hL.out]; exact hd)
  have c3 : w12.cell? ⟨G1, 0, none⟩ = some (.int .i64 8) := by rw [cell_of_row w12 G1 0 _ _ _ hN]; rfl
  have c4 : w12.cell? ⟨G1, 1, none⟩ = some (.int .i64 7) := by rw [cell_of_row w12 G1 1 _ _ _ hN]; rfl
  have f1 := h.frozen c
  refine region_tail (C := fun w' => ∃ n, w' = w12.drewN n) 13 (by kernel_rfl) (by kernel_rfl) ⟨1, rfl⟩ ?_
  simp only [List.take_succ_cons, List.take_zero, List.drop_succ_cons, List.drop_zero]
  repeat quiet_step (fail)
  refine wpQuiet_nil ?_
  rintro _ ⟨nq, rfl⟩
  clear c1 c2 c3 c4
  replace h := h.drewN nq
  replace hN : (w12.drewN nq).heap[G1]? = _ := hN
  replace hF := (Sm.drewN w12 nq).fr hF
  have c1 := h.cell c (by rw [hL.out]; exact hc)
  have f1 := h.frozen c
  generalize w12.drewN nq = w13 at *
  go_wp2_with fail
  clear c1 f1
  replace h := h.set c ((el l6 c + el l6 d) % 4294967296)
  replace hN := blk_other (i := c) (v := .int .u32 ((el l6 c + el l6 d) % 4294967296)) hN hne
  replace hF := hF.set c (.int .u32 ((el l6 c + el l6 d) % 4294967296))
  replace hL := Go.Lib.hid (set_len hL.out c ((el l6 c + el l6 d) % 4294967296))
  replace hR := Go.Lib.hid (hR.out.set c ((el l6 c + el l6 d) % 4294967296) (⟨by omega, by omega⟩))
  replace hg := h.lt
  generalize w13.setCell ⟨g, c, none⟩ (.int .u32 ((el l6 c + el l6 d) % 4294967296)) = w14 at *
  obtain ⟨l7, E7⟩ : ∃ x, x = l6.set c ((el l6 c + el l6 d) % 4294967296) := ⟨_, rfl⟩
  rw [← E7] at h hL hR
  replace E7 := Go.Lib.hid E7
  have c1 := h.cell b (by rw [hL.out]; exact hb)
  have c2 := h.cell c (by rw [hL.out]; exact hc)
  have c3 : w14.cell? ⟨G1, 0, none⟩ = some (.int .i64 8) := by rw [cell_of_row w14 G1 0 _ _ _ hN]; rfl
  have c4 : w14.cell? ⟨G1, 1, none⟩ = some (.int .i64 7) := by rw [cell_of_row w14 G1 1 _ _ _ hN]; rfl
  have f1 := h.frozen b
  refine region_tail (C := fun w' => ∃ n, w' = w14.drewN n) 18 (by kernel_rfl) (by kernel_rfl) ⟨1, rfl⟩ ?_
  simp only [List.take_succ_cons, List.take_zero, List.drop_succ_cons, List.drop_zero]
  repeat quiet_step (exact Calls.quiet_of_same (rot_7 _ _ (bits_u32 _ _ _).1 (bits_u32 _ _ _).2))
  refine wpQuiet_nil ?_
  rintro _ ⟨nq, rfl⟩
  clear c1 c2 c3 c4
  replace h := h.drewN nq
  replace hN : (w14.drewN nq).heap[G1]? = _ := hN
  replace hF := (Sm.drewN w14 nq).fr hF
  have c1 := h.cell b (by rw [hL.out]; exact hb)
  have f1 := h.frozen b
  generalize w14.drewN nq = w15 at *
  go_wp2_with fail
  clear c1 f1
  replace h := h.set b (rotl (bits BinOp.xor IntKind.u32 (el l7 b) (el l7 c)) 7)
  replace hN := blk_other (i := b) (v := .int .u32 (rotl (bits BinOp.xor IntKind.u32 (el l7 b) (el l7 c)) 7)) hN hne
  replace hF := hF.set b (.int .u32 (rotl (bits BinOp.xor IntKind.u32 (el l7 b) (el l7 c)) 7))
  replace hL := Go.Lib.hid (set_len hL.out b (rotl (bits BinOp.xor IntKind.u32 (el l7 b) (el l7 c)) 7))
  replace hR := Go.Lib.hid (hR.out.set b (rotl (bits BinOp.xor IntKind.u32 (el l7 b) (el l7 c)) 7) (rotl_range _ _))
  replace hg := h.lt
  generalize w15.setCell ⟨g, b, none⟩ (.int .u32 (rotl (bits BinOp.xor IntKind.u32 (el l7 b) (el l7 c)) 7)) = w16 at *
  obtain ⟨l8, E8⟩ : ∃ x, x = l7.set b (rotl (bits BinOp.xor IntKind.u32 (el l7 b) (el l7 c)) 7) := ⟨_, rfl⟩
  rw [← E8] at h hL hR
  replace E8 := Go.Lib.hid E8
  go_wp2_with fail
  rw [rounds_succ]
  go_wp2_with fail
  go_end0
  refine ⟨rfl, ?_, hF⟩
  have e : quarter l a b c d = l8 := by rw [E8.out, E7.out, E6.out, E5.out, E4.out, E3.out, E2.out, E1.out]; rfl
  rw [e]; exact h

set_option maxRecDepth 100000 in
set_option maxHeartbeats 2000000 in
theorem rquarter_any (base g cap a b c d : Nat) (l : List Int) (w : World) (hl : l.length = 16) (ha : a < 16) (hb : b < 16) (hc : c < 16) (hd : d < 16) (h : w.ownsRow base 22 1 (.slice (some ⟨g, 0, none⟩) 16 cap) 16 (nums .u32 l)) (hr : U32s l) :
    Calls Try.prog 25 #[.slice (some ⟨g, 0, none⟩) 16 cap, .int .i64 a, .int .i64 b, .int .i64 c, .int .i64 d] w fun e w' =>
      e = .returned (.tuple #[]) ∧ w'.ownsRow base 22 1 (.slice (some ⟨g, 0, none⟩) 16 cap) 16 (nums .u32 (quarter l a b c d)) ∧ w.grownBy w' (some g) := by
  have hL := Go.Lib.hid hl
  have hR := Go.Lib.hid hr
  have hF : w.grownBy w (some g) := World.grownBy.refl w _
  clear hl hr
  have ia : (a : Int) < 16 := by omega
  have ib : (b : Int) < 16 := by omega
  have ic : (c : Int) < 16 := by omega
  have id : (d : Int) < 16 := by omega
  go_enter Try.func25, Try.ntmps25
  go_wp2_with fail
  have c1 := own_cell h a ha
  have c2 := own_cell h b hb
  refine region_tail (C := fun w' => ∃ n, w' = w.drewN n) 12 (by kernel_rfl) (by kernel_rfl) ⟨1, rfl⟩ ?_
  simp only [List.take_succ_cons, List.take_zero, List.drop_succ_cons, List.drop_zero]
  repeat quiet_step (fail)
  refine wpQuiet_nil ?_
  rintro _ ⟨nq, rfl⟩
  clear c1 c2
  replace h : (w.drewN nq).ownsRow _ _ _ _ _ _ := h
  replace hF : w.grownBy (w.drewN nq) (some g) := ⟨hF.os, hF.tape, hF.output, hF.size, hF.block⟩
  have c1 := own_cell h a ha
  have f1 := own_frozen h a
  generalize w.drewN nq = w1 at h hF c1 f1 ⊢
  go_wp2_with fail
  clear c1 f1
  replace hF := grown_set hF a (.int .u32 ((el l a + el l b) % 4294967296))
  replace h := own_set h a ((el l a + el l b) % 4294967296)
  replace hL := Go.Lib.hid (set_len hL.out a ((el l a + el l b) % 4294967296))
  replace hR := Go.Lib.hid (hR.out.set a ((el l a + el l b) % 4294967296) (⟨by omega, by omega⟩))
  generalize w1.setCell ⟨g, a, none⟩ (.int .u32 ((el l a + el l b) % 4294967296)) = w2 at h hF ⊢
  obtain ⟨l1, E1⟩ : ∃ x, x = l.set a ((el l a + el l b) % 4294967296) := ⟨_, rfl⟩
  rw [← E1] at h hL hR
  replace E1 := Go.Lib.hid E1
  have c1 := own_cell h d hd
  have c2 := own_cell h a ha
  refine region_tail (C := fun w' => ∃ n, w' = w2.drewN n) 13 (by kernel_rfl) (by kernel_rfl) ⟨1, rfl⟩ ?_
  simp only [List.take_succ_cons, List.take_zero, List.drop_succ_cons, List.drop_zero]
  repeat quiet_step (exact Calls.quiet_of (left_16 _ _ (bits_u32 _ _ _).1 (bits_u32 _ _ _).2))
  refine wpQuiet_nil ?_
  rintro _ ⟨nq, rfl⟩
  clear c1 c2
  replace h : (w2.drewN nq).ownsRow _ _ _ _ _ _ := h
  replace hF : w.grownBy (w2.drewN nq) (some g) := ⟨hF.os, hF.tape, hF.output, hF.size, hF.block⟩
  have c1 := own_cell h d hd
  have f1 := own_frozen h d
  generalize w2.drewN nq = w3 at h hF c1 f1 ⊢
  go_wp2_with fail
  clear c1 f1
  replace hF := grown_set hF d (.int .u32 (rotl (bits BinOp.xor IntKind.u32 (el l1 d) (el l1 a)) 16))
  replace h := own_set h d (rotl (bits BinOp.xor IntKind.u32 (el l1 d) (el l1 a)) 16)
  replace hL := Go.Lib.hid (set_len hL.out d (rotl (bits BinOp.xor IntKind.u32 (el l1 d) (el l1 a)) 16))
  replace hR := Go.Lib.hid (hR.out.set d (rotl (bits BinOp.xor IntKind.u32 (el l1 d) (el l1 a)) 16) (rotl_range _ _))
  generalize w3.setCell ⟨g, d, none⟩ (.int .u32 (rotl (bits BinOp.xor IntKind.u32 (el l1 d) (el l1 a)) 16)) = w4 at h hF ⊢
  obtain ⟨l2, E2⟩ : ∃ x, x = l1.set d (rotl (bits BinOp.xor IntKind.u32 (el l1 d) (el l1 a)) 16) := ⟨_, rfl⟩
  rw [← E2] at h hL hR
  replace E2 := Go.Lib.hid E2
  have c1 := own_cell h c hc
  have c2 := own_cell h d hd
  refine region_tail (C := fun w' => ∃ n, w' = w4.drewN n) 12 (by kernel_rfl) (by kernel_rfl) ⟨1, rfl⟩ ?_
  simp only [List.take_succ_cons, List.take_zero, List.drop_succ_cons, List.drop_zero]
  repeat quiet_step (fail)
  refine wpQuiet_nil ?_
  rintro _ ⟨nq, rfl⟩
  clear c1 c2
  replace h : (w4.drewN nq).ownsRow _ _ _ _ _ _ := h
  replace hF : w.grownBy (w4.drewN nq) (some g) := ⟨hF.os, hF.tape, hF.output, hF.size, hF.block⟩
  have c1 := own_cell h c hc
  have f1 := own_frozen h c
  generalize w4.drewN nq = w5 at h hF c1 f1 ⊢
  go_wp2_with fail
  clear c1 f1
  replace hF := grown_set hF c (.int .u32 ((el l2 c + el l2 d) % 4294967296))
  replace h := own_set h c ((el l2 c + el l2 d) % 4294967296)
  replace hL := Go.Lib.hid (set_len hL.out c ((el l2 c + el l2 d) % 4294967296))
  replace hR := Go.Lib.hid (hR.out.set c ((el l2 c + el l2 d) % 4294967296) (⟨by omega, by omega⟩))
  generalize w5.setCell ⟨g, c, none⟩ (.int .u32 ((el l2 c + el l2 d) % 4294967296)) = w6 at h hF ⊢
  obtain ⟨l3, E3⟩ : ∃ x, x = l2.set c ((el l2 c + el l2 d) % 4294967296) := ⟨_, rfl⟩
  rw [← E3] at h hL hR
  replace E3 := Go.Lib.hid E3
  have c1 := own_cell h b hb
  have c2 := own_cell h c hc
  refine region_tail (C := fun w' => ∃ n, w' = w6.drewN n) 13 (by kernel_rfl) (by kernel_rfl) ⟨1, rfl⟩ ?_
  simp only [List.take_succ_cons, List.take_zero, List.drop_succ_cons, List.drop_zero]
  repeat quiet_step (exact Calls.quiet_of (left_12 _ _ (bits_u32 _ _ _).1 (bits_u32 _ _ _).2))
  refine wpQuiet_nil ?_
  rintro _ ⟨nq, rfl⟩
  clear c1 c2
  replace h : (w6.drewN nq).ownsRow _ _ _ _ _ _ := h
  replace hF : w.grownBy (w6.drewN nq) (some g) := ⟨hF.os, hF.tape, hF.output, hF.size, hF.block⟩
  have c1 := own_cell h b hb
  have f1 := own_frozen h b
  generalize w6.drewN nq = w7 at h hF c1 f1 ⊢
  go_wp2_with fail
  clear c1 f1
  replace hF := grown_set hF b (.int .u32 (rotl (bits BinOp.xor IntKind.u32 (el l3 b) (el l3 c)) 12))
  replace h := own_set h b (rotl (bits BinOp.xor IntKind.u32 (el l3 b) (el l3 c)) 12)
  replace hL := Go.Lib.hid (set_len hL.out b (rotl (bits BinOp.xor IntKind.u32 (el l3 b) (el l3 c)) 12))
  replace hR := Go.Lib.hid (hR.out.set b (rotl (bits BinOp.xor IntKind.u32 (el l3 b) (el l3 c)) 12) (rotl_range _ _))
  generalize w7.setCell ⟨g, b, none⟩ (.int .u32 (rotl (bits BinOp.xor IntKind.u32 (el l3 b) (el l3 c)) 12)) = w8 at h hF ⊢
  obtain ⟨l4, E4⟩ : ∃ x, x = l3.set b (rotl (bits BinOp.xor IntKind.u32 (el l3 b) (el l3 c)) 12) := ⟨_, rfl⟩
  rw [← E4] at h hL hR
  replace E4 := Go.Lib.hid E4
  have c1 := own_cell h a ha
  have c2 := own_cell h b hb
  refine region_tail (C := fun w' => ∃ n, w' = w8.drewN n) 12 (by kernel_rfl) (by kernel_rfl) ⟨1, rfl⟩ ?_
  simp only [List.take_succ_cons, List.take_zero, List.drop_succ_cons, List.drop_zero]
  repeat quiet_step (fail)
  refine wpQuiet_nil ?_
  rintro _ ⟨nq, rfl⟩
  clear c1 c2
  replace h : (w8.drewN nq).ownsRow _ _ _ _ _ _ := h
  replace hF : w.grownBy (w8.drewN nq) (some g) := ⟨hF.os, hF.tape, hF.output, hF.size, hF.block⟩
  have c1 := own_cell h a ha
  have f1 := own_frozen h a
  generalize w8.drewN nq = w9 at h hF c1 f1 ⊢
  go_wp2_with fail
  clear c1 f1
  replace hF := grown_set hF a (.int .u32 ((el l4 a + el l4 b) % 4294967296))
  replace h := own_set h a ((el l4 a + el l4 b) % 4294967296)
  replace hL := Go.Lib.hid (set_len hL.out a ((el l4 a + el l4 b) % 4294967296))
  replace hR := Go.Lib.hid (hR.out.set a ((el l4 a + el l4 b) % 4294967296) (⟨by omega, by omega⟩))
  generalize w9.setCell ⟨g, a, none⟩ (.int .u32 ((el l4 a + el l4 b) % 4294967296)) = w10 at h hF ⊢
  obtain ⟨l5, E5⟩ : ∃ x, x = l4.set a ((el l4 a + el l4 b) % 4294967296) := ⟨_, rfl⟩
  rw [← E5] at h hL hR
  replace E5 := Go.Lib.hid E5
  have c1 := own_cell h d hd
  have c2 := own_cell h a ha
  refine region_tail (C := fun w' => ∃ n, w' = w10.drewN n) 13 (by kernel_rfl) (by kernel_rfl) ⟨1, rfl⟩ ?_
  simp only [List.take_succ_cons, List.take_zero, List.drop_succ_cons, List.drop_zero]
  repeat quiet_step (exact Calls.quiet_of (left_8 _ _ (bits_u32 _ _ _).1 (bits_u32 _ _ _).2))
  refine wpQuiet_nil ?_
  rintro _ ⟨nq, rfl⟩
  clear c1 c2
  replace h : (w10.drewN nq).ownsRow _ _ _ _ _ _ := h
  replace hF : w.grownBy (w10.drewN nq) (some g) := ⟨hF.os, hF.tape, hF.output, hF.size, hF.block⟩
  have c1 := own_cell h d hd
  have f1 := own_frozen h d
  generalize w10.drewN nq = w11 at h hF c1 f1 ⊢
  go_wp2_with fail
  clear c1 f1
  replace hF := grown_set hF d (.int .u32 (rotl (bits BinOp.xor IntKind.u32 (el l5 d) (el l5 a)) 8))
  replace h := own_set h d (rotl (bits BinOp.xor IntKind.u32 (el l5 d) (el l5 a)) 8)
  replace hL := Go.Lib.hid (set_len hL.out d (rotl (bits BinOp.xor IntKind.u32 (el l5 d) (el l5 a)) 8))
  replace hR := Go.Lib.hid (hR.out.set d (rotl (bits BinOp.xor IntKind.u32 (el l5 d) (el l5 a)) 8) (rotl_range _ _))
  generalize w11.setCell ⟨g, d, none⟩ (.int .u32 (rotl (bits BinOp.xor IntKind.u32 (el l5 d) (el l5 a)) 8)) = w12 at h hF ⊢
  obtain ⟨l6, E6⟩ : ∃ x, x = l5.set d (rotl (bits BinOp.xor IntKind.u32 (el l5 d) (el l5 a)) 8) := ⟨_, rfl⟩
  rw [← E6] at h hL hR
  replace E6 := Go.Lib.hid E6
  have c1 := own_cell h c hc
  have c2 := own_cell h d hd
  refine region_tail (C := fun w' => ∃ n, w' = w12.drewN n) 12 (by kernel_rfl) (by kernel_rfl) ⟨1, rfl⟩ ?_
  simp only [List.take_succ_cons, List.take_zero, List.drop_succ_cons, List.drop_zero]
  repeat quiet_step (fail)
  refine wpQuiet_nil ?_
  rintro _ ⟨nq, rfl⟩
  clear c1 c2
  replace h : (w12.drewN nq).ownsRow _ _ _ _ _ _ := h
  replace hF : w.grownBy (w12.drewN nq) (some g) := ⟨hF.os, hF.tape, hF.output, hF.size, hF.block⟩
  have c1 := own_cell h c hc
  have f1 := own_frozen h c
  generalize w12.drewN nq = w13 at h hF c1 f1 ⊢
  go_wp2_with fail
  clear c1 f1
  replace hF := grown_set hF c (.int .u32 ((el l6 c + el l6 d) % 4294967296))
  replace h := own_set h c ((el l6 c + el l6 d) % 4294967296)
  replace hL := Go.Lib.hid (set_len hL.out c ((el l6 c + el l6 d) % 4294967296))
  replace hR := Go.Lib.hid (hR.out.set c ((el l6 c + el l6 d) % 4294967296) (⟨by omega, by omega⟩))
  generalize w13.setCell ⟨g, c, none⟩ (.int .u32 ((el l6 c + el l6 d) % 4294967296)) = w14 at h hF ⊢
  obtain ⟨l7, E7⟩ : ∃ x, x = l6.set c ((el l6 c + el l6 d) % 4294967296) := ⟨_, rfl⟩
  rw [← E7] at h hL hR
  replace E7 := Go.Lib.hid E7
  have c1 := own_cell h b hb
  have c2 := own_cell h c hc
  refine region_tail (C := fun w' => ∃ n, w' = w14.drewN n) 13 (by kernel_rfl) (by kernel_rfl) ⟨1, rfl⟩ ?_
  simp only [List.take_succ_cons, List.take_zero, List.drop_succ_cons, List.drop_zero]
  repeat quiet_step (exact Calls.quiet_of (left_7 _ _ (bits_u32 _ _ _).1 (bits_u32 _ _ _).2))
  refine wpQuiet_nil ?_
  rintro _ ⟨nq, rfl⟩
  clear c1 c2
  replace h : (w14.drewN nq).ownsRow _ _ _ _ _ _ := h
  replace hF : w.grownBy (w14.drewN nq) (some g) := ⟨hF.os, hF.tape, hF.output, hF.size, hF.block⟩
  have c1 := own_cell h b hb
  have f1 := own_frozen h b
  generalize w14.drewN nq = w15 at h hF c1 f1 ⊢
  go_wp2_with fail
  clear c1 f1
  replace hF := grown_set hF b (.int .u32 (rotl (bits BinOp.xor IntKind.u32 (el l7 b) (el l7 c)) 7))
  replace h := own_set h b (rotl (bits BinOp.xor IntKind.u32 (el l7 b) (el l7 c)) 7)
  replace hL := Go.Lib.hid (set_len hL.out b (rotl (bits BinOp.xor IntKind.u32 (el l7 b) (el l7 c)) 7))
  replace hR := Go.Lib.hid (hR.out.set b (rotl (bits BinOp.xor IntKind.u32 (el l7 b) (el l7 c)) 7) (rotl_range _ _))
  generalize w15.setCell ⟨g, b, none⟩ (.int .u32 (rotl (bits BinOp.xor IntKind.u32 (el l7 b) (el l7 c)) 7)) = w16 at h hF ⊢
  obtain ⟨l8, E8⟩ : ∃ x, x = l7.set b (rotl (bits BinOp.xor IntKind.u32 (el l7 b) (el l7 c)) 7) := ⟨_, rfl⟩
  rw [← E8] at h hL hR
  replace E8 := Go.Lib.hid E8
  go_wp2_with fail
  go_end0
  refine ⟨rfl, ?_, hF⟩
  have e : quarter l a b c d = l8 := by rw [E8.out, E7.out, E6.out, E5.out, E4.out, E3.out, E2.out, E1.out]; rfl
  rw [e]; exact h
end Go.Proofs.Ytdocbmgledebaaa
