/-
  A number in three words: its product by r, made less.
-/
import Derived.Test.YtdocbmgledebaaaP3
namespace Go.Proofs.Ytdocbmgledebaaa
set_option linter.unusedVariables false
set_option linter.unusedSimpArgs false
open Go.RowKit Go.Proofs.YtdocbmgledebaaaW.PrintWords

theorem andNot3_nat (a : Nat) (h : a < 18446744073709551616) : a &&& (18446744073709551615 - 3) = 2 ^ 2 * (a / 4) := by
  apply Nat.eq_of_testBit_eq
  intro i
  rw [show 18446744073709551615 - 3 = 2 ^ 2 * (2 ^ 62 - 1) from rfl, Nat.testBit_and, Nat.testBit_two_pow_mul, Nat.testBit_two_pow_mul, Nat.testBit_two_pow_sub_one, show (4 : Nat) = 2 ^ 2 from rfl, Nat.testBit_div_two_pow]
  by_cases h2 : 2 ≤ i
  · simp only [h2, decide_true, Bool.true_and, Nat.sub_add_cancel h2]
    by_cases h3 : i - 2 < 62
    · simp [h3]
    · have : a.testBit i = false := Nat.testBit_lt_two_pow (Nat.lt_of_lt_of_le h (by rw [show 18446744073709551616 = 2 ^ 64 from rfl]; exact Nat.pow_le_pow_right (by omega) (by omega)))
      simp [this]
  · simp [h2]
theorem andNot3 (x : Int) (h : 0 ≤ x ∧ x ≤ 18446744073709551615) : bits .andNot .u64 x 3 = x - x % 4 := by
  obtain ⟨a, rfl⟩ := Int.eq_ofNat_of_zero_le h.1
  have h2 := u64_andNot_nat a 3 (by omega) (by omega)
  rw [andNot3_nat a (by omega)] at h2
  exact h2.trans (by omega)

theorem el_rep5 (j : Nat) : el (List.replicate 5 (0 : Int)) j = 0 := by
  unfold el
  rw [List.getD_eq_getElem?_getD, List.getElem?_replicate]
  split <;> rfl
/-- the blocks of a call of mul -/
structure Mu (B g gr gp : Nat) (w : World) (a r P : List Int) (wr : World) : Prop where
  a : Blk wr g .u64 66 a
  r : Blk wr gr .u64 64 r
  p : Blk wr gp .u64 77 P
  h1 : g < gr
  h2 : gr < gp
  h3 : B ≤ gr
  fr : Fr B g w wr
theorem Mu.draw {B g gr gp : Nat} {w wr : World} {a r P : List Int} (h : Mu B g gr gp w a r P wr) (n : Nat) : Mu B g gr gp w a r P (wr.drewN n) := ⟨h.a.drewN n, h.r.drewN n, h.p.drewN n, h.h1, h.h2, h.h3, (Sm.drewN wr n).fr h.fr⟩
theorem Mu.setP {B g gr gp : Nat} {w wr : World} {a r P : List Int} (h : Mu B g gr gp w a r P wr) (i : Nat) (v : Int) : Mu B g gr gp w a r (P.set i v) (wr.setCell ⟨gp, i, none⟩ (.int .u64 v)) :=
  have e1 := h.h1; have e2 := h.h2; have e3 := h.h3
  ⟨h.a.far (by simp; omega) _, h.r.far (by simp; omega) _, h.p.set i v, e1, e2, e3, h.fr.far (by simp; omega) _⟩

theorem Fresh.fr {B g g0 : Nat} {w0 w w1 : World} (h : Fresh g w w1) (hf : Fr B g0 w0 w) (hB : B ≤ w.heap.size) : Fr B g0 w0 w1 :=
  ⟨h.grown.os.trans hf.os, h.grown.tape.trans hf.tape, h.grown.output.trans hf.output, Nat.le_trans hf.size h.grown.size, fun k hk hg => (h.grown.block k (by omega) (by simp)).trans (hf.block k hk hg)⟩
theorem Stored.fr {B g g0 : Nat} {w0 w w1 : World} (h : Stored g w w1) (hf : Fr B g0 w0 w) (hB : B ≤ w.heap.size) (hg : g = g0 ∨ B ≤ g) : Fr B g0 w0 w1 :=
  ⟨h.grown.os.trans hf.os, h.grown.tape.trans hf.tape, h.grown.output.trans hf.output, Nat.le_trans hf.size h.grown.size, fun k hk hk2 => (h.grown.block k (by omega) (by simp; omega)).trans (hf.block k hk hk2)⟩
/-- the sum's block and the block of what stands high -/
structure Hi (B g gh : Nat) (w : World) (A H : List Int) (wr : World) : Prop where
  a : Blk wr g .u64 66 A
  h : Blk wr gh .u64 66 H
  ne : g ≠ gh
  hB : B ≤ gh
  fr : Fr B g w wr
theorem Hi.add {B g gh : Nat} {w wr w2 : World} {A H A' : List Int} (h : Hi B g gh w A H wr) (hBw : B ≤ wr.heap.size) (b : Blk w2 g .u64 66 A') (f : Fr wr.heap.size g wr w2) : Hi B g gh w A' H w2 :=
  ⟨b, h.h.grown f.grown (by simp; exact fun e => h.ne e.symm), h.ne, h.hB, h.fr.trans (f.mono hBw)⟩
theorem Hi.set {B g gh : Nat} {w wr : World} {A H : List Int} (h : Hi B g gh w A H wr) (i : Nat) (v : Int) : Hi B g gh w A (H.set i v) (wr.setCell ⟨gh, i, none⟩ (.int .u64 v)) :=
  ⟨h.a.far (by simp; exact h.ne) _, h.h.set i v, h.ne, h.hB, h.fr.far h.hB _⟩
theorem mul_step (V0 X carry p VL pk T : Int) (Mi Mk : Int) (h : VL + carry * (Mi * Mk) = V0 + T * Mi) :
    VL + ((X + p + carry) % 18446744073709551616 - p) * (Mi * Mk) + (X + p + carry) / 18446744073709551616 * (Mi * Mk * 18446744073709551616) = V0 + (T + X * Mk) * Mi := by
  have e : (X + p + carry) % 18446744073709551616 = (X + p + carry) - 18446744073709551616 * ((X + p + carry) / 18446744073709551616) := by omega
  rw [e]
  generalize (X + p + carry) / 18446744073709551616 = q
  grind

/-- a sum, by letters -/
theorem add64_let (x y : Int) (hx : 0 ≤ x) (hx1 : x ≤ 18446744073709551615) (hy : 0 ≤ y) (hy1 : y ≤ 18446744073709551615) : ∃ s c : Int, (∀ W : World, (callFunc 39 #[.int .u64 x, .int .u64 y, .int .u64 0]).run Try.prog W = .ok (.value (.tuple #[.int .u64 s, .int .u64 c])) W) ∧
    0 ≤ s ∧ s ≤ 18446744073709551615 ∧ 0 ≤ c ∧ c ≤ 1 ∧ s + 18446744073709551616 * c = x + y :=
  ⟨_, _, fun W => add64_0 x y hx hy W, by omega, by omega, by omega, by omega, by omega⟩
/-- a product, by letters -/
theorem mul64_let (x y : Int) (hx : Word x) (hy : Word y) : ∃ hi lo : Int, (∀ W : World, Calls Try.prog 43 #[.int .u64 x, .int .u64 y] W fun e w' => e = .returned (.tuple #[.int .u64 hi, .int .u64 lo]) ∧ w' = W) ∧
    0 ≤ hi ∧ hi ≤ 18446744073709551614 ∧ 0 ≤ lo ∧ lo ≤ 18446744073709551615 ∧ hi * 18446744073709551616 + lo = x * y := by
  have h := mul_range x y hx hy
  exact ⟨_, _, fun W => mul64 x y hx hy W, by omega, by omega, by omega, by omega, by omega⟩
theorem mul_step' (V0 X carry p VL T : Int) (Mi Mk p' carry' : Int) (h : VL + carry * (Mi * Mk) = V0 + T * Mi) (e : p' + 18446744073709551616 * carry' = X + p + carry) :
    VL + (p' - p) * (Mi * Mk) + carry' * (Mi * (Mk * 18446744073709551616)) = V0 + (T + X * Mk) * Mi := by grind
theorem mac_le (hi lo X c p lo1 c1 p' c2 : Int) (hX : hi * 18446744073709551616 + lo = X) (e1 : lo1 + 18446744073709551616 * c1 = lo + c) (e2 : p' + 18446744073709551616 * c2 = p + lo1) : p' + 18446744073709551616 * (hi + c1 + c2) = X + p + c := by omega
theorem mac_le2 (hi lo X c p lo1 c1 p' c2 : Int) (hX : hi * 18446744073709551616 + lo = X) (e1 : lo1 + 18446744073709551616 * c1 = lo + c) (e2 : p' + 18446744073709551616 * c2 = p + lo1) (h : X ≤ 340282366920938463426481119284349108225) (hp : p ≤ 18446744073709551615) (hc : c ≤ 18446744073709551615) (h0 : 0 ≤ p') : hi + c1 + c2 ≤ 18446744073709551615 := by omega

set_option maxRecDepth 100000 in
set_option maxHeartbeats 1000000 in
theorem lmul_any (g : Nat) (a r : List Int) (w : World) (hla : a.length = 3) (hlr : r.length = 2) (ha : Words a) (hr : Words r) (h : Blk w g .u64 66 a) (hA : v3 a < 2722258935367507707706996859454145691648) (hR : vL r < 21267647932558653966460912964485513216) :
    Calls Try.prog 38 #[.pointer (some ⟨g, 0, none⟩), .agg (r.map (Value.int .u64)).toArray] w fun e w' =>
      e = .returned (.tuple #[]) ∧ ∃ a', a'.length = 3 ∧ Words a' ∧ v3 a' = (v3 a * vL r) % 1361129467683753853853498429727072845824 + 5 * ((v3 a * vL r) / 1361129467683753853853498429727072845824) ∧ Blk w' g .u64 66 a' ∧ Fr w.heap.size g w w' := by
  have z77 : (Try.prog.info? 77).map (fun i => (i.zero, i.size)) = some (some (.agg ((List.replicate 5 (0 : Int)).map (Value.int .u64)).toArray), 5) := by kernel_rfl
  replace z77 := Go.Lib.hid z77
  have z66 : (Try.prog.info? 66).map (fun i => (i.zero, i.size)) = some (some (.agg ((List.replicate 3 (0 : Int)).map (Value.int .u64)).toArray), 3) := by kernel_rfl
  replace z66 := Go.Lib.hid z66
  have info64 : (Try.prog.info? 50).map (fun i => (i.zero, i.size, i.bytes)) = some (some (.int .u64 0), 1, 8) := by kernel_rfl
  obtain ⟨i64, hi64, q1, hz64, q2⟩ := info_parts info64
  replace hi64 := Go.Lib.hid hi64
  replace hz64 := Go.Lib.hid hz64
  replace hla := Go.Lib.hid hla
  replace hlr := Go.Lib.hid hlr
  replace ha := Go.Lib.hid ha
  replace hr := Go.Lib.hid hr
  replace hA := Go.Lib.hid hA
  replace hR := Go.Lib.hid hR
  clear q1 q2 info64
  go_enter Try.func38, Try.ntmps38
  go_wp2_with (first
    | (refine ev_boxg rfl rfl rfl ?_; intro gr w1 h1 b1; change Blk w1 gr .u64 64 r at b1)
    | (refine ev_allocg (ty := 77) rfl rfl z77.out ?_; intro gp w2 h2 b2; change Blk w2 gp .u64 77 _ at b2))
  have hM : Mu w.heap.size g gr gp w a r (List.replicate 5 0) w2 :=
    ⟨h2.blk (h1.blk h), h2.blk b1, b2, h1.ne h, h2.ne b1, h1.le,
      ⟨h2.grown.os.trans h1.grown.os, h2.grown.tape.trans h1.grown.tape, h2.grown.output.trans h1.grown.output, Nat.le_trans h1.grown.size h2.grown.size,
        fun k hk _ => (h2.grown.block k (Nat.lt_of_lt_of_le hk h1.grown.size) (by simp)).trans (h1.grown.block k hk (by simp))⟩⟩
  clear h1 h2 b1 b2 h
  have hO : Hid (∃ P : List Int, P.length = 5 ∧ Words P ∧ (∀ j, 0 + 2 ≤ j → el P j = 0) ∧ vL P = vL (a.take 0) * vL r ∧ Mu w.heap.size g gr gp w a r P w2) :=
    Go.Lib.hid ⟨_, by simp, fun x hx => (by simp at hx; subst hx; omega), fun j hj => el_rep5 j, by simp [vL], hM⟩
  clear hM
  go_loopw [15] (fun i wr => ∃ k : Nat, k ≤ 3 ∧ i = .int .i64 k ∧ Hid (∃ P : List Int, P.length = 5 ∧ Words P ∧ (∀ j, k + 2 ≤ j → el P j = 0) ∧ vL P = vL (a.take k) * vL r ∧ Mu w.heap.size g gr gp w a r P wr)) (fun i _ => 3 - (intOf i).toNat)
  case atStart => exact ⟨0, by omega, rfl, hO⟩
  case round =>
    obtain ⟨i, hk, rfl, hO⟩ := hrel
    obtain ⟨P0, hl, hw0, hz, hv, hM⟩ := hO.out
    by_cases hlt : i < 3
    · have c1 := hM.a.cell i (by rw [hla.out]; omega)
      have ilt : (i : Int) < 3 := by omega
      have hlen2 : Hid (r.length = 2) := hlr
      replace hM := Go.Lib.hid hM
      replace hz := Go.Lib.hid hz
      replace hw0 := Go.Lib.hid hw0
      replace hv := Go.Lib.hid hv
      replace hl := Go.Lib.hid hl
      clear hO
      go_wp2_with fail
      go_quiet (fail)
      replace hM := Go.Lib.hid (hM.out.draw nq)
      generalize wr.drewN nq = wr at hM ⊢
      have br := hM.out.r
      clear c1
      go_wp2_with (refine ev_loadarr rfl rfl rfl br Try.underlying64 rfl (by rw [hlr.out]; kernel_rfl) ?_)
      clear br
      have hI : Hid (∃ P : List Int, P.length = 5 ∧ Words P ∧ (∀ j, i + 2 ≤ j → el P j = 0) ∧ (0 : Int) ≤ 18446744073709551615 ∧ vL P + 0 * (18446744073709551616 ^ i * 18446744073709551616 ^ 0) = vL P0 + (el a i * vL (r.take 0)) * 18446744073709551616 ^ i ∧ Mu w.heap.size g gr gp w a r P wr) :=
        Go.Lib.hid ⟨P0, hl.out, hw0.out, hz.out, by decide, by simp [vL], hM.out⟩
      go_loopw [22, 7] (fun x c wr => ∃ k : Nat, k ≤ 2 ∧ x = .int .i64 k ∧ ∃ carry : Int, c = .int .u64 carry ∧ 0 ≤ carry ∧ Hid (∃ P : List Int, P.length = 5 ∧ Words P ∧ (∀ j, i + 2 ≤ j → el P j = 0) ∧ carry ≤ 18446744073709551615 ∧ vL P + carry * (18446744073709551616 ^ i * 18446744073709551616 ^ k) = vL P0 + (el a i * vL (r.take k)) * 18446744073709551616 ^ i ∧ Mu w.heap.size g gr gp w a r P wr)) (fun x _ _ => 2 - (intOf x).toNat)
      case atStart => exact ⟨0, by omega, rfl, 0, rfl, by omega, hI⟩
      case round =>
        obtain ⟨k, hk2, rfl, carry, rfl, hc0, hI⟩ := hrel
        obtain ⟨P, hl3, hw3, hz3, hc1, hv3, hM3⟩ := hI.out
        by_cases hlt2 : k < 2
        · have klt : (k : Int) < 2 := by omega
          have hik : (i : Int) + (k : Int) < 5 := by omega
          have hidx := fun W => run_index_arr (P := Try.prog) (T := 64) (e := 50) (n := 2) Try.underlying64 Try.underlying50 hi64.out hz64.out r .u64 k hlr.out hlt2 W
          have d1 := hM3.p.cell (i + k) (by omega)
          have d2 := hM3.p.frozen (i + k)
          have rx := mul_range (el a i) (el r k) (ha.out.el i) (hr.out.el k)
          have rp := hw3.el (i + k)
          have wa : Word (el a i) := ha.out.el i
          have wr' : Word (el r k) := hr.out.el k
          obtain ⟨hi, lo, hmul, u1, u2, u3, u4, u5⟩ := mul64_let _ _ wa wr'
          obtain ⟨lo1, ca1, s1, v1, v2, v3, v4, v5⟩ := add64_let lo carry u3 u4 hc0 hc1
          obtain ⟨p', ca2, s2, x1, x2, x3, x4, x5⟩ := add64_let (el P (i + k)) lo1 rp.1 rp.2 v1 v2
          have hle := mac_le2 _ _ _ _ _ _ _ _ _ u5 v5 x5 rx.2 rp.2 hc1 x1
          have hmac := Go.Lib.hid (mac_le _ _ _ _ _ _ _ _ _ u5 v5 x5)
          have hle1 : hi + ca1 ≤ 18446744073709551615 := by omega
          have hpos : 0 ≤ hi + ca1 := by omega
          have hpos2 : 0 ≤ hi + ca1 + ca2 := by omega
          replace u5 := Go.Lib.hid u5
          replace v5 := Go.Lib.hid v5
          replace x5 := Go.Lib.hid x5
          replace rx := Go.Lib.hid rx
          replace rp := Go.Lib.hid rp
          replace hl3 := Go.Lib.hid hl3
          replace hw3 := Go.Lib.hid hw3
          replace hz3 := Go.Lib.hid hz3
          replace hv3 := Go.Lib.hid hv3
          replace hM3 := Go.Lib.hid hM3
          replace hc1 := Go.Lib.hid hc1
          clear hI
          go_wp2_with (go_at_call 43; refine (hmul _).mono ?_; rintro e w1 ⟨rfl, rfl⟩)
          go_roundw
          case rel =>
            refine ⟨k + 1, by omega, by go_num, _, rfl, hpos2, Go.Lib.hid ⟨P.set (i + k) p', set_len hl3.out _ _, hw3.out.set _ _ ⟨x1, x2⟩, fun j hj => ?_, hle, ?_, hM3.out.setP _ _⟩⟩
            · rw [el_set, if_neg (fun h => by omega)]; exact hz3.out j hj
            · have := mul_step' (vL P0) (el a i * el r k) carry (el P (i + k)) (vL P) (el a i * vL (r.take k)) (18446744073709551616 ^ i) (18446744073709551616 ^ k) p' (hi + ca1 + ca2) hv3.out hmac.out
              rw [vL_set _ _ _ (by rw [hl3.out]; omega), vL_take _ _ (by rw [hlr.out]; omega), Int.pow_add, Int.pow_succ, this]
              grind
          case measure => simp [intOf]; omega
        · obtain rfl : k = 2 := by omega
          rw [show ((2 : Nat) : Int) = 2 from rfl]
          have d1 := hM3.p.cell (i + 2) (by omega)
          have d2 := hM3.p.frozen (i + 2)
          rw [hz3 (i + 2) (Nat.le_refl _)] at d1
          have hik : (i : Int) + 2 < 5 := by omega
          replace hl3 := Go.Lib.hid hl3
          replace hw3 := Go.Lib.hid hw3
          replace hz3 := Go.Lib.hid hz3
          replace hv3 := Go.Lib.hid hv3
          replace hM3 := Go.Lib.hid hM3
          clear hI
          go_wp2_with fail
          go_roundw
          case rel =>
            refine ⟨i + 1, by omega, by go_num, Go.Lib.hid ⟨P.set (i + 2) carry, set_len hl3.out _ _, hw3.out.set _ _ ⟨hc0, hc1⟩, fun j hj => ?_, ?_, hM3.out.setP _ _⟩⟩
            · rw [el_set, if_neg (fun h => by omega)]; exact hz3.out j (by omega)
            · have h1 := hv3.out
              have h2 := hv.out
              rw [List.take_of_length_le (Nat.le_of_eq hlr.out)] at h1
              rw [vL_set _ _ _ (by rw [hl3.out]; omega), vL_take _ _ (by rw [hla.out]; omega), Int.pow_add, hz3.out _ (Nat.le_refl _)]
              grind
          case measure => simp [intOf]; omega
    · obtain rfl : i = 3 := by omega
      rw [show ((3 : Nat) : Int) = 3 from rfl]
      rw [List.take_of_length_le (Nat.le_of_eq hla.out), vL_3 a hla.out] at hv
      match P0, hl with
      | [p0, p1, p2, p3, p4], _ =>
        have r0 : 0 ≤ p0 ∧ p0 ≤ 18446744073709551615 := hw0 _ (by simp)
        have r1 : 0 ≤ p1 ∧ p1 ≤ 18446744073709551615 := hw0 _ (by simp)
        have r2 : 0 ≤ p2 ∧ p2 ≤ 18446744073709551615 := hw0 _ (by simp)
        have r3 : 0 ≤ p3 ∧ p3 ≤ 18446744073709551615 := hw0 _ (by simp)
        have r4 : 0 ≤ p4 ∧ p4 ≤ 18446744073709551615 := hw0 _ (by simp)
        have c0 : wr.cell? ⟨gp, 0, none⟩ = some (.int .u64 p0) := hM.p.cell 0 (by simp)
        have c1 : wr.cell? ⟨gp, 1, none⟩ = some (.int .u64 p1) := hM.p.cell 1 (by simp)
        have c2 : wr.cell? ⟨gp, 2, none⟩ = some (.int .u64 p2) := hM.p.cell 2 (by simp)
        have c3 : wr.cell? ⟨gp, 3, none⟩ = some (.int .u64 p3) := hM.p.cell 3 (by simp)
        have c4 : wr.cell? ⟨gp, 4, none⟩ = some (.int .u64 p4) := hM.p.cell 4 (by simp)
        have m1 := andNot3 p2 r2
        have m2 := or_0 (p2 - p2 % 4) (by omega)
        have m3 := and3 p2 r2
        obtain ⟨ba, br, bp, g1, g2, g3, hfr⟩ := hM
        have hBw : w.heap.size ≤ wr.heap.size := hfr.size
        replace hv := Go.Lib.hid hv
        clear hO hw0 hz
        go_wp2_with (first
          | (refine ev_allocg (ty := 66) rfl rfl z66.out ?_; intro gh w3 h3 b3; change Blk w3 gh .u64 66 (List.replicate 3 0) at b3; replace c0 := h3.cell c0; replace c1 := h3.cell c1; replace c2 := h3.cell c2; replace c3 := h3.cell c3; replace c4 := h3.cell c4; have gne := h3.ne ba; have gpn := h3.ne bp; replace ba := h3.blk ba; replace hfr := h3.fr hfr hBw; have hle := h3.le; have hs3 := h3.size; replace bp := h3.blk bp)
          | (refine ev_storearrg rfl rfl rfl b3 (l' := [p2 - p2 % 4, p3, p4]) rfl rfl (by kernel_rfl) ?_; intro w4 h4 b4; replace ba := h4.blk ba (by omega); replace bp := h4.blk bp (by omega); replace c0 : w4.cell? ⟨gp, 0, none⟩ = some (.int .u64 p0) := bp.cell 0 (by simp); replace c1 : w4.cell? ⟨gp, 1, none⟩ = some (.int .u64 p1) := bp.cell 1 (by simp); replace c2 : w4.cell? ⟨gp, 2, none⟩ = some (.int .u64 p2) := bp.cell 2 (by simp); replace hfr := h4.fr hfr (by omega) (.inr (by omega)))
          | (refine ev_storearrg rfl rfl rfl ba (l' := [p0, p1, p2 % 4]) rfl hla.out (by kernel_rfl) ?_; intro w5 h5 b5; replace b4 := h5.blk b4 (by omega); replace hfr := h5.fr hfr (by have := h4.size; omega) (.inl rfl); replace hBw : w.heap.size ≤ w5.heap.size := hfr.size)
          | (refine ev_loadarr rfl rfl rfl b4 Try.underlying66 rfl (by kernel_rfl) ?_))
        have hH : Hi w.heap.size g gh w [p0, p1, p2 % 4] [p2 - p2 % 4, p3, p4] w5 := ⟨b5, b4, by omega, by omega, hfr⟩
        have wA : Words [p0, p1, p2 % 4] := fun x hx => by simp at hx; omega
        have wH : Words [p2 - p2 % 4, p3, p4] := fun x hx => by simp at hx; omega
        have hV : v3 [p0, p1, p2 % 4] = (v3 a * vL r) % 1361129467683753853853498429727072845824 := by
          have := hv.out
          generalize v3 a * vL r = V at this ⊢
          simp only [vL] at this
          simp only [v3, el_cons_0, el_cons_s]
          omega
        have hV2 : v3 [p2 - p2 % 4, p3, p4] = 4 * ((v3 a * vL r) / 1361129467683753853853498429727072845824) := by
          have := hv.out
          generalize v3 a * vL r = V at this ⊢
          simp only [vL] at this
          simp only [v3, el_cons_0, el_cons_s]
          omega
        have lA : Hid ([p0, p1, p2 % 4].length = 3) := Go.Lib.hid rfl
        generalize [p0, p1, p2 % 4] = A0 at hH wA hV lA
        refine (ladd_any g _ [p2 - p2 % 4, p3, p4] w5 lA.out rfl wA wH hH.a).mono ?_
        rintro e w6 ⟨rfl, ba6, hf6⟩
        replace hH := hH.add hBw ba6 hf6
        have hnn : 0 ≤ v3 a * vL r := by
          have h1 : 0 ≤ v3 a := by have := ha.out.el 0; have := ha.out.el 1; have := ha.out.el 2; unfold v3; omega
          have h2 : 0 ≤ vL r := by
            have h0 := hr.out.el 0; have h1 := hr.out.el 1
            match r, hlr.out with
            | [x, y], _ => simp only [el_cons_0, el_cons_s] at h0 h1; simp only [vL]; omega
          exact Int.mul_nonneg h1 h2
        have hlt : v3 a * vL r < 57896044618658097711785492504343953926634992332820282019728792003956564819968 := by
          have h1 : 0 ≤ v3 a := by have := ha.out.el 0; have := ha.out.el 1; have := ha.out.el 2; unfold v3; omega
          have h3 := hA.out
          have h4 := hR.out
          have h5 : v3 a * vL r ≤ v3 a * 21267647932558653966460912964485513215 := Int.mul_le_mul_of_nonneg_left (by omega) h1
          have h6 : v3 a * 21267647932558653966460912964485513215 ≤ 2722258935367507707706996859454145691647 * 21267647932558653966460912964485513215 := Int.mul_le_mul_of_nonneg_right (by omega) (by decide)
          omega
        obtain ⟨V, eV⟩ : ∃ V, V = v3 a * vL r := ⟨_, rfl⟩
        rw [← eV] at hV hV2 hnn hlt
        replace eV := Go.Lib.hid eV
        have hV3 : v3 (sumL A0 [p2 - p2 % 4, p3, p4] 3) = V % 1361129467683753853853498429727072845824 + 4 * (V / 1361129467683753853853498429727072845824) := by
          rw [v3_sum wA wH (by rw [hV, hV2]; omega), hV, hV2]
        have lS := Go.Lib.hid (sumL_len A0 [p2 - p2 % 4, p3, p4] 3)
        have wS := sumL_words A0 [p2 - p2 % 4, p3, p4] 3
        generalize sumL A0 [p2 - p2 % 4, p3, p4] 3 = S at hH hV3 lS wS
        have lH : Hid ([p2 - p2 % 4, p3, p4].length = 3) := Go.Lib.hid rfl
        generalize [p2 - p2 % 4, p3, p4] = H0 at hH wH hV2 lH
        replace hV3 := Go.Lib.hid hV3
        have hL : Hid (∃ H : List Int, H.length = 3 ∧ Words H ∧ v3 H * 2 ^ 0 = 4 * (V / 1361129467683753853853498429727072845824) ∧ Hi w.heap.size g gh w S H w6) := Go.Lib.hid ⟨H0, lH.out, wH, by omega, hH⟩
        clear hV2 wH hH
        go_wp2_with fail
        go_loopw [89] (fun x wr => ∃ k : Nat, k ≤ 2 ∧ x = .int .i64 k ∧ Hid (∃ H : List Int, H.length = 3 ∧ Words H ∧ v3 H * 2 ^ k = 4 * (V / 1361129467683753853853498429727072845824) ∧ Hi w.heap.size g gh w S H wr)) (fun x _ => 2 - (intOf x).toNat)
        case atStart => exact ⟨0, by omega, rfl, hL⟩
        case round =>
          obtain ⟨k, hk, rfl, hL⟩ := hrel
          obtain ⟨H, hl, hw, hv2, hH⟩ := hL.out
          by_cases hlt : k < 2
          · match H, hl with
            | [x0, x1, x2], _ =>
              have r0 : 0 ≤ x0 ∧ x0 ≤ 18446744073709551615 := hw _ (by simp)
              have r1 : 0 ≤ x1 ∧ x1 ≤ 18446744073709551615 := hw _ (by simp)
              have r2 : 0 ≤ x2 ∧ x2 ≤ 18446744073709551615 := hw _ (by simp)
              have c0 : wr.cell? ⟨gh, 0, none⟩ = some (.int .u64 x0) := hH.h.cell 0 (by simp)
              have c1 : wr.cell? ⟨gh, 1, none⟩ = some (.int .u64 x1) := hH.h.cell 1 (by simp)
              have c2 : wr.cell? ⟨gh, 2, none⟩ = some (.int .u64 x2) := hH.h.cell 2 (by simp)
              have f0 := hH.h.frozen 0
              have f1 := hH.h.frozen 1
              have f2 := hH.h.frozen 2
              have e1 := or_63 x0 x1 r0 r1
              have e2 := or_63 x1 x2 r1 r2
              have klt : (k : Int) < 2 := by omega
              replace hv2 := Go.Lib.hid hv2
              replace hH := Go.Lib.hid hH
              clear hL hw
              go_wp2_with fail
              go_roundw
              case rel =>
                refine ⟨k + 1, by omega, by go_num, Go.Lib.hid ⟨[x0 / 2 + 9223372036854775808 * (x1 % 2), x1 / 2 + 9223372036854775808 * (x2 % 2), x2 / 2], rfl, fun x hx => by simp at hx; omega, ?_, ((hH.out.set 0 (x0 / 2 + 9223372036854775808 * (x1 % 2))).set 1 (x1 / 2 + 9223372036854775808 * (x2 % 2))).set 2 (x2 / 2)⟩⟩
                have := hv2.out
                simp only [v3, el_cons_0, el_cons_s] at this ⊢
                obtain rfl | rfl : k = 0 ∨ k = 1 := by omega
                · omega
                · omega
              case measure => simp [intOf]; omega
          · obtain rfl : k = 2 := by omega
            rw [show ((2 : Nat) : Int) = 2 from rfl]
            have bh := hH.h
            have hv4 : v3 H = V / 1361129467683753853853498429727072845824 := by omega
            have hBw : w.heap.size ≤ wr.heap.size := hH.fr.size
            have lh := Go.Lib.hid hl
            replace hv4 := Go.Lib.hid hv4
            replace hH := Go.Lib.hid hH
            clear hL hv2 hl
            go_wp2_with (refine ev_loadarr rfl rfl rfl bh Try.underlying66 rfl (by rw [lh.out]; kernel_rfl) ?_)
            refine (ladd_any g _ _ wr lS.out lh.out wS hw hH.out.a).mono ?_
            rintro e w7 ⟨rfl, ba7, hf7⟩
            go_wp2_with fail
            go_end0
            refine ⟨rfl, _, sumL_len _ _ _, sumL_words _ _ _, ?_, ba7, hH.out.fr.trans (hf7.mono hBw)⟩
            rw [v3_sum wS hw (by rw [hV3.out, hv4.out]; omega), hV3.out, hv4.out, ← eV.out]
            omega
end Go.Proofs.Ytdocbmgledebaaa
