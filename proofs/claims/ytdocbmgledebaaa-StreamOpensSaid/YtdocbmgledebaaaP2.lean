/-
  A number in three words: the sum of another.
-/
import Derived.Test.YtdocbmgledebaaaP1
import Derived.Test.YtdocbmgledebaaaLib2
import Derived.Test.YtdocbmgledebaaaPh
namespace Go.Proofs.Ytdocbmgledebaaa
set_option linter.unusedVariables false
set_option linter.unusedSimpArgs false
open Go.RowKit Go.Proofs.YtdocbmgledebaaaW.PrintWords

def Words (l : List Int) : Prop := ∀ x ∈ l, 0 ≤ x ∧ x ≤ 18446744073709551615
theorem Words.el {l : List Int} (h : Words l) (i : Nat) : 0 ≤ el l i ∧ el l i ≤ 18446744073709551615 := by
  unfold Go.Proofs.Ytdocbmgledebaaa.el
  by_cases hi : i < l.length
  · rw [List.getD_eq_getElem?_getD, List.getElem?_eq_getElem hi]; exact h _ (List.getElem_mem hi)
  · rw [List.getD_eq_getElem?_getD, List.getElem?_eq_none (by omega)]; simp
theorem Words.set {l : List Int} (h : Words l) (i : Nat) (v : Int) (hv : 0 ≤ v ∧ v ≤ 18446744073709551615) : Words (l.set i v) := fun x hx => by
  rcases List.mem_or_eq_of_mem_set hx with hx | rfl
  · exact h x hx
  · exact hv
/-- the carry into word k -/
def cy (a b : List Int) : Nat → Int
  | 0 => 0
  | k + 1 => (el a k + el b k + cy a b k) / 18446744073709551616
def sumL (a b : List Int) (n : Nat) : List Int := (List.range n).map fun j => (el a j + el b j + cy a b j) % 18446744073709551616
theorem cy_range {a b : List Int} (ha : Words a) (hb : Words b) (k : Nat) : 0 ≤ cy a b k ∧ cy a b k ≤ 1 := by
  induction k with
  | zero => exact ⟨Int.le_refl (0 : Int), show (0 : Int) ≤ 1 by decide⟩
  | succ k ih =>
    have h1 := ha.el k
    have h2 := hb.el k
    simp only [cy]
    omega
theorem sumL_len (a b : List Int) (n : Nat) : (sumL a b n).length = n := by simp [sumL]
theorem sumL_words (a b : List Int) (n : Nat) : Words (sumL a b n) := fun x hx => by
  simp only [sumL, List.mem_map] at hx
  obtain ⟨j, _, rfl⟩ := hx
  omega
theorem el_sumL (a b : List Int) (n j : Nat) (h : j < n) : el (sumL a b n) j = (el a j + el b j + cy a b j) % 18446744073709551616 := by
  simp [sumL, el, List.getD_eq_getElem?_getD, h]
/-- three words as a number -/
def v3 (l : List Int) : Int := el l 0 + 18446744073709551616 * el l 1 + 340282366920938463463374607431768211456 * el l 2
theorem v3_sum {a b : List Int} (ha : Words a) (hb : Words b) (h : v3 a + v3 b < 6277101735386680763835789423207666416102355444464034512896) : v3 (sumL a b 3) = v3 a + v3 b := by
  have a0 := ha.el 0; have a1 := ha.el 1; have a2 := ha.el 2
  have b0 := hb.el 0; have b1 := hb.el 1; have b2 := hb.el 2
  unfold v3 at *
  rw [el_sumL _ _ _ _ (by omega), el_sumL _ _ _ _ (by omega), el_sumL _ _ _ _ (by omega)]
  simp only [cy]
  omega

set_option maxRecDepth 100000 in
theorem ladd_any (g : Nat) (a b : List Int) (w : World) (hla : a.length = 3) (hlb : b.length = 3) (ha : Words a) (hb : Words b) (h : Blk w g .u64 66 a) :
    Calls Try.prog 37 #[.pointer (some ⟨g, 0, none⟩), .agg (b.map (Value.int .u64)).toArray] w fun e w' =>
      e = .returned (.tuple #[]) ∧ Blk w' g .u64 66 (sumL a b 3) ∧ Fr w.heap.size g w w' := by
  have hL := Go.Lib.hid hla
  have hLb := Go.Lib.hid hlb
  have hA := Go.Lib.hid ha
  have hB := Go.Lib.hid hb
  clear hla hlb ha hb
  go_enter Try.func37, Try.ntmps37
  go_wp2_with (first
    | (refine ev_boxg rfl rfl rfl ?_; intro gb w1 h1 b1; change Blk w1 gb .u64 66 b at b1))
  have hO : Hid (∃ L : List Int, L.length = 3 ∧ (∀ j, j < 0 → el L j = el (sumL a b 3) j) ∧ (∀ j, 0 ≤ j → el L j = el a j) ∧ Blk w1 g .u64 66 L ∧ Blk w1 gb .u64 66 b ∧ g < gb ∧ w.heap.size ≤ gb ∧ Fr w.heap.size g w w1) :=
    Go.Lib.hid ⟨a, hL.out, fun j hj => by omega, fun _ _ => rfl, h1.blk h, b1, h1.ne h, h1.le, ⟨h1.grown.os, h1.grown.tape, h1.grown.output, h1.grown.size, fun k hk _ => h1.grown.block k hk (by simp)⟩⟩
  clear h1 b1 h
  go_loopw [6, 5, 4] (fun i _ c wr => ∃ k : Nat, k ≤ 3 ∧ i = .int .i64 k ∧ c = .int .u64 (cy a b k) ∧ Hid (∃ L : List Int, L.length = 3 ∧ (∀ j, j < k → el L j = el (sumL a b 3) j) ∧ (∀ j, k ≤ j → el L j = el a j) ∧ Blk wr g .u64 66 L ∧ Blk wr gb .u64 66 b ∧ g < gb ∧ w.heap.size ≤ gb ∧ Fr w.heap.size g w wr)) (fun i _ _ _ => 3 - (intOf i).toNat)
  case atStart => exact ⟨0, by omega, rfl, rfl, hO⟩
  case round =>
    obtain ⟨k, hk, rfl, rfl, hO⟩ := hrel
    obtain ⟨L, hl, hl1, hl2, hb1, hb2, hgg, hgb, hf⟩ := hO.out
    by_cases hlt : k < 3
    · have c1 := hb1.cell k (by omega)
      have c2 := hb2.cell k (by rw [hLb.out]; exact hlt)
      have f1 := hb1.frozen k
      have ilt : (k : Int) < 3 := by omega
      have hs := fun W => add64 (el a k) (el b k) (cy a b k) (hA.out.el k).1 (hB.out.el k).1 (cy_range hA.out hB.out k).1 (cy_range hA.out hB.out k).2 W
      rw [hl2 k (Nat.le_refl _)] at c1
      replace hl1 := Go.Lib.hid hl1
      replace hl2 := Go.Lib.hid hl2
      replace hb1 := Go.Lib.hid hb1
      replace hb2 := Go.Lib.hid hb2
      replace hf := Go.Lib.hid hf
      replace hl := Go.Lib.hid hl
      clear hO
      go_wp2_with fail
      refine region_float (C := fun w' => ∃ n, w' = wr.drewN n)
        [true, true, true, true, true, true, true, true, true, true, true, true, true, true, false, true, true]
        [false, false, false, false, false, false, false, false, false, false, false, false, false, false, true]
        [false, false, false, false, false, false, false, false, false, false, false, false, false, false, false, false, false, true, true]
        (by kernel_rfl) (by simp) (by kernel_rfl) ⟨1, rfl⟩ ?_
      simp only [pick_t, pick_f, pick_n]
      repeat quiet_step (fail)
      refine wpQuiet_nil ?_
      refine pList_step fun K hK => ?_
      go_simp
      refine hK _ ?_
      clear hK K
      refine pList_nil ?_
      rintro _ ⟨nq, rfl⟩
      refine nList_step fun K hK => ?_
      go_simp
      refine ⟨undef, _, And.intro rfl rfl, hK _ _ ?_⟩
      clear hK K
      refine nList_step fun K hK => ?_
      go_simp
      refine ⟨_, _, And.intro rfl rfl, hK _ _ ?_⟩
      clear hK K
      refine nList_nil ?_
      go_wp2_with fail
      go_roundw
      case rel =>
        refine ⟨k + 1, by omega, by go_num, rfl, Go.Lib.hid ⟨_, set_len hl.out _ _, fun j hj => ?_, fun j hj => ?_, (hb1.out.drewN nq).set k _, (hb2.out.drewN nq).far (by simp; omega) _, hgg, hgb, ((Sm.drewN wr nq).fr hf.out).set k _⟩⟩
        · rw [el_set]
          by_cases e : k = j
          · rw [if_pos ⟨e, by rw [hl.out]; omega⟩, el_sumL _ _ _ _ (by omega), e]
          · rw [if_neg (fun h => e h.1)]; exact hl1.out j (by omega)
        · rw [el_set, if_neg (fun h => by omega)]; exact hl2.out j (by omega)
      case measure => simp [intOf]; omega
    · obtain rfl : k = 3 := by omega
      rw [show ((3 : Nat) : Int) = 3 from rfl]
      have e : L = sumL a b 3 := ext_el (by rw [hl, sumL_len]) (fun j hj => hl1 j (by omega))
      rw [e] at hb1
      replace hl1 := Go.Lib.hid hl1
      replace hl2 := Go.Lib.hid hl2
      clear hO e hl
      go_wp2_with fail
      go_end0
      exact ⟨rfl, hb1, hf⟩
end Go.Proofs.Ytdocbmgledebaaa
