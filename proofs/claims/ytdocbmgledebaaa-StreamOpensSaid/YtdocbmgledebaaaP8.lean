/-
  The reference's numbers in digits of 2^8: the product of two.
-/
import Derived.Test.YtdocbmgledebaaaP7
namespace Go.Proofs.Ytdocbmgledebaaa
set_option linter.unusedVariables false
set_option linter.unusedSimpArgs false
open Go.RowKit Go.Proofs.YtdocbmgledebaaaW.PrintWords

theorem el_rep (n j : Nat) : el (List.replicate n (0 : Int)) j = 0 := by
  unfold el
  rw [List.getD_eq_getElem?_getD, List.getElem?_replicate]
  split <;> rfl
/-- one digit of a product: s = c + o + x·y -/
theorem times_step (V0 X Y VL c o s x y : Int) (Mi Mj : Int) (h : VL + c * (Mi * Mj) = V0 + X * Y * Mi) (hs : s = c + o + x) (hx : x = X * y) :
    VL + (s % 256 - o) * (Mi * Mj) + s / 256 * (Mi * (Mj * 256)) = V0 + X * (Y + y * Mj) * Mi := by
  have e : s % 256 = s - 256 * (s / 256) := by omega
  rw [e]
  generalize s / 256 = q at *
  subst hs hx
  grind
theorem dig_mul (x y : Int) (hx : 0 ≤ x ∧ x ≤ 255) (hy : 0 ≤ y ∧ y ≤ 255) : 0 ≤ x * y ∧ x * y ≤ 65025 :=
  ⟨Int.mul_nonneg hx.1 hy.1, Int.mul_le_mul hx.2 hy.2 hy.1 (by decide)⟩

set_option maxRecDepth 100000 in
set_option maxHeartbeats 1000000 in
theorem times_any (A1 A2 : Option Addr) (n1 n2 c1 c2 : Nat) (xs ys : List Int) (w : World) (h1 : ReadsInt w .u8 A1 n1 xs) (h2 : ReadsInt w .u8 A2 n2 ys) (b1 : Byt xs) (b2 : Byt ys) (hn1 : n1 ≤ 1000000) (hn2 : n2 ≤ 1000000) :
    Calls Try.prog 29 #[.slice A1 n1 c1, .slice A2 n2 c2] w fun e w' =>
      ∃ g zs, e = .returned (.slice (some ⟨g, 0, none⟩) (n1 + n2 + 1) (n1 + n2 + 1)) ∧ Blk w' g .u8 5 zs ∧ w.heap.size ≤ g ∧ Byt zs ∧ lev zs = lev xs * lev ys ∧ zs.length = n1 + n2 + 1 ∧ Below w.heap.size w w' := by
  have hmk := print_make (P := Try.prog) 23 5 .u8 1 Try.underlying23 info_b (by omega) (n1 + n2 + 1) (by omega)
  rw [show ((n1 + n2 + 1 : Nat) : Int) = (n1 : Int) + (n2 : Int) + 1 from by omega] at hmk
  have b0 := Blk.made w .u8 5 (n1 + n2 + 1)
  have hbel : Below w.heap.size w (w.alloc (.cells (madeCells #[.int .u8 0] (n1 + n2 + 1)) 5)) := (Below.refl _ _).alloc (Nat.le_refl _) _
  have H1 := Go.Lib.hid h1
  have H2 := Go.Lib.hid h2
  obtain ⟨g, eg⟩ : ∃ g, g = w.heap.size := ⟨_, rfl⟩
  have EG := Go.Lib.hid eg
  clear h1 h2
  go_enter Try.func29, Try.ntmps29
  go_wp2_with fail
  rw [← eg] at b0 hbel ⊢
  have hO : Hid (∃ o : List Int, o.length = n1 + n2 + 1 ∧ Byt o ∧ (∀ j, 0 + n2 ≤ j → el o j = 0) ∧ lev o = lev (xs.take 0) * lev ys ∧ Blk (w.alloc (.cells (madeCells #[.int .u8 0] (n1 + n2 + 1)) 5)) g .u8 5 o ∧ Below g w (w.alloc (.cells (madeCells #[.int .u8 0] (n1 + n2 + 1)) 5))) :=
    Go.Lib.hid ⟨_, by simp, fun x hx => (by simp at hx; omega), fun j _ => el_rep _ _, by rw [lev_zeros]; simp [lev], b0, hbel⟩
  clear b0 hbel hmk eg
  generalize w.alloc _ = w1 at hO ⊢
  go_loopw [6] (fun x wr => ∃ i : Nat, i ≤ n1 ∧ x = .int .i64 i ∧ Hid (∃ o : List Int, o.length = n1 + n2 + 1 ∧ Byt o ∧ (∀ j, i + n2 ≤ j → el o j = 0) ∧ lev o = lev (xs.take i) * lev ys ∧ Blk wr g .u8 5 o ∧ Below g w wr)) (fun x _ => n1 - (intOf x).toNat)
  case atStart => exact ⟨0, by omega, rfl, hO⟩
  case round =>
    obtain ⟨i, hi, rfl, hO⟩ := hrel
    obtain ⟨o0, hl0, hb0, hz0, hv0, hB0, hbe0⟩ := hO.out
    by_cases hlt : i < n1
    · have ilt : (i : Int) < (n1 : Int) := by omega
      have hI : Hid (∃ o : List Int, o.length = n1 + n2 + 1 ∧ Byt o ∧ (∀ m, i + n2 + (0 - n2) ≤ m → el o m = 0) ∧ lev o + 0 * (256 ^ i * 256 ^ 0) = lev o0 + el xs i * lev (ys.take 0) * 256 ^ i ∧ Blk wr g .u8 5 o ∧ Below g w wr) :=
        Go.Lib.hid ⟨o0, hl0, hb0, fun m hm => hz0 m (by omega), by simp [lev], hB0, hbe0⟩
      replace hv0 := Go.Lib.hid hv0
      replace hl0 := Go.Lib.hid hl0
      clear hO hB0 hz0
      go_wp2_with fail
      go_loopw [8, 7] (fun x y wr => ∃ (j : Nat) (c : Int), x = .int .i64 j ∧ y = .int .i64 c ∧ 0 ≤ c ∧ c ≤ 255 ∧ j ≤ n2 + 1 ∧ (n2 < j → c = 0) ∧ Hid (∃ o : List Int, o.length = n1 + n2 + 1 ∧ Byt o ∧ (∀ m, i + n2 + (j - n2) ≤ m → el o m = 0) ∧ lev o + c * (256 ^ i * 256 ^ j) = lev o0 + el xs i * lev (ys.take j) * 256 ^ i ∧ Blk wr g .u8 5 o ∧ Below g w wr)) (fun x _ _ => n2 + 1 - (intOf x).toNat)
      case atStart => exact ⟨0, 0, rfl, rfl, by omega, by omega, by omega, fun _ => rfl, hI⟩
      case round =>
        obtain ⟨j, c, rfl, rfl, hc0, hc1, hj, hjc, hI⟩ := hrel
        obtain ⟨o, hl, hb, hz, hv, hB, hbe⟩ := hI.out
        have x0 := b1.el i
        have y0 := b2.el j
        have o0' := hb.el (i + j)
        have r0 := dig_mul (el xs i) (el ys j) x0 y0
        have fin : ∀ (wr : World) (s : Int), Blk wr g .u8 5 o → Below g w wr → s = c + el o (i + j) + el xs i * el ys j → j ≤ n2 → (n2 ≤ j → s ≤ 255) →
            ∃ (j' : Nat) (c' : Int), Value.int .i64 ((j : Int) + 1) = .int .i64 j' ∧ Value.int .i64 (s / 256) = .int .i64 c' ∧ 0 ≤ c' ∧ c' ≤ 255 ∧ j' ≤ n2 + 1 ∧ (n2 < j' → c' = 0) ∧ Hid (∃ o : List Int, o.length = n1 + n2 + 1 ∧ Byt o ∧ (∀ m, i + n2 + (j' - n2) ≤ m → el o m = 0) ∧ lev o + c' * (256 ^ i * 256 ^ j') = lev o0 + el xs i * lev (ys.take j') * 256 ^ i ∧ Blk (wr.setCell ⟨g, i + j, none⟩ (.int .u8 (s % 256))) g .u8 5 o ∧ Below g w (wr.setCell ⟨g, i + j, none⟩ (.int .u8 (s % 256)))) := fun wr s hB hbe hs hj2 hs2 => by
          refine ⟨j + 1, s / 256, by go_num, rfl, by omega, by omega, by omega, fun h => by have := hs2 (by omega); omega, Go.Lib.hid ⟨_, set_len hl (i + j) _, hb.set _ _ (by omega), fun m hm => ?_, ?_, hB.set _ _, hbe.setCell (Nat.le_refl _) _⟩⟩
          · rw [el_set, if_neg (fun h => by omega)]
            exact hz m (by omega)
          · rw [lev_set _ _ _ (by omega), lev_take, Int.pow_add, Int.pow_succ]
            exact times_step _ _ _ _ _ _ _ _ _ _ _ hv hs rfl
        have c3 := hB.cell (i + j) (by omega)
        have f3 := hB.frozen (i + j)
        have hz2 : n2 ≤ j → el o (i + j) = 0 ∧ el ys j = 0 := fun h => ⟨hz _ (by omega), el_past _ _ (by rw [H2.out.1]; omega)⟩
        have ij : (i : Int) + (j : Int) < (n1 : Int) + (n2 : Int) + 1 := by omega
        replace hz2 := Go.Lib.hid hz2
        replace fin := Go.Lib.hid fin
        replace hjc := Go.Lib.hid hjc
        by_cases e2 : j < n2
        · have i2 : (j : Int) < (n2 : Int) := by omega
          obtain ⟨g1, o1, rfl, hc1'⟩ := rd_open (H1.out.below (EG.out ▸ hbe)) (by omega)
          have d1 := hc1' i hlt
          obtain ⟨g2, o2, rfl, hc2'⟩ := rd_open (H2.out.below (EG.out ▸ hbe)) (by omega)
          have d2 := hc2' j e2
          clear hc1' hc2' hz hv hI
          replace hB := Go.Lib.hid hB
          go_wp2_with fail
          go_quiet (fail)
          have f4 := f3
          rw [show wr.frozen? ⟨g, i + j, none⟩ = (wr.drewN nq).frozen? ⟨g, i + j, none⟩ from rfl] at f4
          go_wp2_with fail
          go_roundw
          case rel => exact fin.out (wr.drewN nq) _ (hB.out.drewN nq) (pw_below_drewN hbe nq) rfl (by omega) (fun h => by omega)
          case measure => simp [intOf]; omega
        · have i2 : (n2 : Int) ≤ (j : Int) := by omega
          obtain ⟨z1, z2⟩ := hz2.out (by omega)
          rw [z1] at c3
          replace z1 := Go.Lib.hid z1
          replace z2 := Go.Lib.hid z2
          replace hz := Go.Lib.hid hz
          replace hv := Go.Lib.hid hv
          replace hl := Go.Lib.hid hl
          replace hB := Go.Lib.hid hB
          clear hI
          by_cases e3 : 0 < c
          · go_wp2_with fail
            go_roundw
            case rel =>
              have := fin.out wr c hB.out hbe (by rw [z1.out, z2.out]; omega) (by have := hjc.out; omega) (fun h => by omega)
              rw [show c % 256 = c from by omega] at this
              exact this
            case measure => have := hjc.out; simp [intOf]; omega
          · obtain rfl : c = 0 := by omega
            go_wp2_with fail
            go_roundw
            case rel =>
              refine ⟨i + 1, by omega, by go_num, Go.Lib.hid ⟨o, hl.out, hb, fun m hm => hz.out m (by omega), ?_, hB.out, hbe⟩⟩
              have h := hv.out
              rw [List.take_of_length_le (by rw [H2.out.1]; omega)] at h
              rw [lev_take]
              have h2 := hv0.out
              rw [h2] at h
              grind
            case measure => simp [intOf]; omega
    · obtain rfl : i = n1 := by omega
      replace hl0 := Go.Lib.hid hl0
      replace hz0 := Go.Lib.hid hz0
      replace hv0 := Go.Lib.hid hv0
      clear hO
      go_wp2_with fail
      go_ret
      refine ⟨g, o0, rfl, hB0, Nat.le_of_eq EG.out.symm, hb0, ?_, hl0.out, EG.out ▸ hbe0⟩
      rw [hv0.out, List.take_of_length_le (Nat.le_of_eq H1.out.1)]
end Go.Proofs.Ytdocbmgledebaaa
