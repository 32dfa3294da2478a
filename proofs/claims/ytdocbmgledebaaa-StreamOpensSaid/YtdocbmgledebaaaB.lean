/-
  The block of the stream, the program's.
-/
import Derived.Test.YtdocbmgledebaaaW
import Derived.Test.YtdocbmgledebaaaLib2
import Derived.Outline
namespace Go.Proofs.Ytdocbmgledebaaa
set_option linter.unusedVariables false
set_option linter.unusedSimpArgs false
open Go.RowKit Go.Proofs.YtdocbmgledebaaaW.PrintWords

theorem info_u32 : (Try.prog.info? 22).map (fun i => (i.zero, i.size, i.bytes)) = some (some (.int .u32 0), 1, 4) := by kernel_rfl
def dround (l : List Int) : List Int :=
  let l := quarter l 0 4 8 12
  let l := quarter l 1 5 9 13
  let l := quarter l 2 6 10 14
  let l := quarter l 3 7 11 15
  let l := quarter l 0 5 10 15
  let l := quarter l 1 6 11 12
  let l := quarter l 2 7 8 13
  let l := quarter l 3 4 9 14
  l
def rounds : Nat → List Int → List Int
  | 0, l => l
  | k + 1, l => dround (rounds k l)
theorem dround_len (l : List Int) : (dround l).length = l.length := by simp [dround, quarter_len]
theorem dround_u32 {l : List Int} (h : U32s l) : U32s (dround l) := by
  unfold dround
  exact quarter_u32 (quarter_u32 (quarter_u32 (quarter_u32 (quarter_u32 (quarter_u32 (quarter_u32 (quarter_u32 h _ _ _ _) _ _ _ _) _ _ _ _) _ _ _ _) _ _ _ _) _ _ _ _) _ _ _ _) _ _ _ _
theorem rounds_len (k : Nat) (l : List Int) : (rounds k l).length = l.length := by induction k with
  | zero => rfl
  | succ k ih => rw [rounds, dround_len, ih]
theorem rounds_u32 (k : Nat) {l : List Int} (h : U32s l) : U32s (rounds k l) := by induction k with
  | zero => exact h
  | succ k ih => exact dround_u32 ih
/-- byte k of a word -/
def byteOf (v : Int) (k : Nat) : Int := v / 2 ^ (8 * k) % 256
def blockL (l : List Int) : List Int := (List.range 64).map fun j => byteOf ((el (rounds 10 l) (j / 4) + el l (j / 4)) % 4294967296) (j % 4)
theorem blockL_len (l : List Int) : (blockL l).length = 64 := by simp [blockL]
theorem blockL_el (l : List Int) (j : Nat) (h : j < 64) : el (blockL l) j = byteOf ((el (rounds 10 l) (j / 4) + el l (j / 4)) % 4294967296) (j % 4) := by
  simp [blockL, el, List.getD_eq_getElem?_getD, h]
theorem byteOf_range (v : Int) (k : Nat) : 0 ≤ byteOf v k ∧ byteOf v k ≤ 255 := by unfold byteOf; omega
theorem blockL_byt (l : List Int) : Byt (blockL l) := fun x hx => by
  simp only [blockL, List.mem_map] at hx
  obtain ⟨j, _, rfl⟩ := hx
  exact byteOf_range _ _
theorem q_0_4_8_12 (g : Nat) (l : List Int) (w : World) (hl : l.length = 16) (h : Blk w g .u32 45 l) (hr : U32s l) :
    Calls Try.prog 34 #[.pointer (some ⟨g, 0, none⟩), .int .i64 0, .int .i64 4, .int .i64 8, .int .i64 12] w fun e w' =>
      e = .returned (.tuple #[]) ∧ Blk w' g .u32 45 (quarter l 0 4 8 12) ∧ Fr w.heap.size g w w' :=
  quarter_any w.heap.size g 0 4 8 12 l w (Nat.le_refl _) hl (by omega) (by omega) (by omega) (by omega) h hr
theorem q_1_5_9_13 (g : Nat) (l : List Int) (w : World) (hl : l.length = 16) (h : Blk w g .u32 45 l) (hr : U32s l) :
    Calls Try.prog 34 #[.pointer (some ⟨g, 0, none⟩), .int .i64 1, .int .i64 5, .int .i64 9, .int .i64 13] w fun e w' =>
      e = .returned (.tuple #[]) ∧ Blk w' g .u32 45 (quarter l 1 5 9 13) ∧ Fr w.heap.size g w w' :=
  quarter_any w.heap.size g 1 5 9 13 l w (Nat.le_refl _) hl (by omega) (by omega) (by omega) (by omega) h hr
theorem q_2_6_10_14 (g : Nat) (l : List Int) (w : World) (hl : l.length = 16) (h : Blk w g .u32 45 l) (hr : U32s l) :
    Calls Try.prog 34 #[.pointer (some ⟨g, 0, none⟩), .int .i64 2, .int .i64 6, .int .i64 10, .int .i64 14] w fun e w' =>
      e = .returned (.tuple #[]) ∧ Blk w' g .u32 45 (quarter l 2 6 10 14) ∧ Fr w.heap.size g w w' :=
  quarter_any w.heap.size g 2 6 10 14 l w (Nat.le_refl _) hl (by omega) (by omega) (by omega) (by omega) h hr
theorem q_3_7_11_15 (g : Nat) (l : List Int) (w : World) (hl : l.length = 16) (h : Blk w g .u32 45 l) (hr : U32s l) :
    Calls Try.prog 34 #[.pointer (some ⟨g, 0, none⟩), .int .i64 3, .int .i64 7, .int .i64 11, .int .i64 15] w fun e w' =>
      e = .returned (.tuple #[]) ∧ Blk w' g .u32 45 (quarter l 3 7 11 15) ∧ Fr w.heap.size g w w' :=
  quarter_any w.heap.size g 3 7 11 15 l w (Nat.le_refl _) hl (by omega) (by omega) (by omega) (by omega) h hr
theorem q_0_5_10_15 (g : Nat) (l : List Int) (w : World) (hl : l.length = 16) (h : Blk w g .u32 45 l) (hr : U32s l) :
    Calls Try.prog 34 #[.pointer (some ⟨g, 0, none⟩), .int .i64 0, .int .i64 5, .int .i64 10, .int .i64 15] w fun e w' =>
      e = .returned (.tuple #[]) ∧ Blk w' g .u32 45 (quarter l 0 5 10 15) ∧ Fr w.heap.size g w w' :=
  quarter_any w.heap.size g 0 5 10 15 l w (Nat.le_refl _) hl (by omega) (by omega) (by omega) (by omega) h hr
theorem q_1_6_11_12 (g : Nat) (l : List Int) (w : World) (hl : l.length = 16) (h : Blk w g .u32 45 l) (hr : U32s l) :
    Calls Try.prog 34 #[.pointer (some ⟨g, 0, none⟩), .int .i64 1, .int .i64 6, .int .i64 11, .int .i64 12] w fun e w' =>
      e = .returned (.tuple #[]) ∧ Blk w' g .u32 45 (quarter l 1 6 11 12) ∧ Fr w.heap.size g w w' :=
  quarter_any w.heap.size g 1 6 11 12 l w (Nat.le_refl _) hl (by omega) (by omega) (by omega) (by omega) h hr
theorem q_2_7_8_13 (g : Nat) (l : List Int) (w : World) (hl : l.length = 16) (h : Blk w g .u32 45 l) (hr : U32s l) :
    Calls Try.prog 34 #[.pointer (some ⟨g, 0, none⟩), .int .i64 2, .int .i64 7, .int .i64 8, .int .i64 13] w fun e w' =>
      e = .returned (.tuple #[]) ∧ Blk w' g .u32 45 (quarter l 2 7 8 13) ∧ Fr w.heap.size g w w' :=
  quarter_any w.heap.size g 2 7 8 13 l w (Nat.le_refl _) hl (by omega) (by omega) (by omega) (by omega) h hr
theorem q_3_4_9_14 (g : Nat) (l : List Int) (w : World) (hl : l.length = 16) (h : Blk w g .u32 45 l) (hr : U32s l) :
    Calls Try.prog 34 #[.pointer (some ⟨g, 0, none⟩), .int .i64 3, .int .i64 4, .int .i64 9, .int .i64 14] w fun e w' =>
      e = .returned (.tuple #[]) ∧ Blk w' g .u32 45 (quarter l 3 4 9 14) ∧ Fr w.heap.size g w w' :=
  quarter_any w.heap.size g 3 4 9 14 l w (Nat.le_refl _) hl (by omega) (by omega) (by omega) (by omega) h hr

/-- the three blocks of a call of block -/
structure St (B gl go gx : Nat) (w : World) (l x o : List Int) (wr : World) : Prop where
  l : Blk wr gl .u32 45 l
  o : Blk wr go .u8 43 o
  x : Blk wr gx .u32 45 x
  h1 : B ≤ gl
  h2 : gl < go
  h3 : go < gx
  bel : Below B w wr
theorem St.quarter {B gl go gx : Nat} {w wr w2 : World} {l x o x' : List Int} (h : St B gl go gx w l x o wr) (hx : Blk w2 gx .u32 45 x') (hf : Fr wr.heap.size gx wr w2) : St B gl go gx w l x' o w2 :=
  have e1 := h.h1; have e2 := h.h2; have e3 := h.h3
  ⟨h.l.grown hf.grown (by simp; omega), h.o.grown hf.grown (by simp; omega), hx, e1, e2, e3, h.bel.trans ((hf.mono (by have := h.l.lt; omega)).below (by omega))⟩
theorem St.out {B gl go gx : Nat} {w wr : World} {l x o : List Int} (h : St B gl go gx w l x o wr) (i : Nat) (v : Int) : St B gl go gx w l x (o.set i v) (wr.setCell ⟨go, i, none⟩ (.int .u8 v)) :=
  have e1 := h.h1; have e2 := h.h2; have e3 := h.h3
  ⟨h.l.far (by simp; omega) _, h.o.set i v, h.x.far (by simp; omega) _, e1, e2, e3, h.bel.setCell (by simp; omega) _⟩

set_option maxRecDepth 100000 in
set_option maxHeartbeats 2000000 in
theorem block_any (l : List Int) (w : World) (hl : l.length = 16) (hr : U32s l) :
    Calls Try.prog 21 #[.agg (l.map (Value.int .u32)).toArray] w fun e w' =>
      e = .returned (.agg ((blockL l).map (Value.int .u8)).toArray) ∧ Below w.heap.size w w' := by
  have z43 : (Try.prog.info? 43).map (fun i => (i.zero, i.size)) = some (some (.agg ((List.replicate 64 (0 : Int)).map (Value.int .u8)).toArray), 64) := by kernel_rfl
  have z45 : (Try.prog.info? 45).map (fun i => (i.zero, i.size)) = some (some (.agg ((List.replicate 16 (0 : Int)).map (Value.int .u32)).toArray), 16) := by kernel_rfl
  replace z43 := Go.Lib.hid z43
  replace z45 := Go.Lib.hid z45
  have hL := Go.Lib.hid hl
  have hR := Go.Lib.hid hr
  obtain ⟨i22, hi22, q1, hz22, q2⟩ := info_parts info_u32
  replace hi22 := Go.Lib.hid hi22
  replace hz22 := Go.Lib.hid hz22
  clear hl hr q1 q2
  go_enter Try.func21, Try.ntmps21
  go_wp2_with (first
    | (refine ev_boxg rfl rfl rfl ?_; intro gl w1 h1 b1; change Blk w1 gl .u32 45 l at b1)
    | (refine ev_allocg (ty := 43) rfl rfl z43.out ?_; intro go w2 h2 b2; change Blk w2 go .u8 43 _ at b2; have e12 := h2.ne b1; replace b1 := h2.blk b1)
    | (refine ev_loadarr rfl rfl rfl b1 Try.underlying45 rfl (by rw [hL.out]; kernel_rfl) ?_)
    | (refine ev_allocg (ty := 45) rfl rfl z45.out ?_; intro gx w3 h3 b3; change Blk w3 gx .u32 45 _ at b3; have e23 := h3.ne b2; replace b1 := h3.blk b1; replace b2 := h3.blk b2)
    | (refine ev_storearrg rfl rfl rfl b3 rfl (by simp [hL.out]) (by rw [hL.out]; kernel_rfl) ?_; intro w5 h5 b5; replace b1 := h5.blk b1 (by omega); replace b2 := h5.blk b2 (by omega)))
  have hS : St w.heap.size gl go gx w l (rounds 0 l) (List.replicate 64 0) w5 := by
    have k1 := h1.le
    have k2 := h1.grown.size
    have k3 := h2.grown.size
    have k4 := h3.grown.size
    exact ⟨b1, b2, b5, by omega, by omega, by omega, h5.bel (h3.bel (h2.bel h1.below (by omega)) (by omega)) (by omega) (by omega)⟩
  obtain ⟨B, eB⟩ : ∃ B, B = w.heap.size := ⟨_, rfl⟩
  rw [← eB] at hS
  replace eB := Go.Lib.hid eB
  clear b1 b2 b3 b5 h1 h2 h3 h5 e12 e23
  go_loopw [8] (fun i wr => ∃ k : Nat, k ≤ 10 ∧ i = .int .i64 k ∧ St B gl go gx w l (rounds k l) (List.replicate 64 0) wr) (fun i _ => 10 - (intOf i).toNat)
  case atStart => exact ⟨0, by omega, rfl, hS⟩
  case round =>
    obtain ⟨k, hk, rfl, hS⟩ := hrel
    by_cases hlt : k < 10
    · have hlen : Hid ((rounds k l).length = 16) := Go.Lib.hid (by rw [rounds_len, hL.out])
      have hu : Hid (U32s (rounds k l)) := Go.Lib.hid (rounds_u32 k hR.out)
      have hfin : Hid (∀ k l, dround (rounds k l) = rounds (k + 1) l) := Go.Lib.hid (fun _ _ => rfl)
      go_wp2_with fail
      refine (q_0_4_8_12 _ _ _ hlen.out hS.x hu.out).mono ?_
      rintro e v0 ⟨rfl, hx, hf⟩
      replace hS := hS.quarter hx hf
      have hlen1 := Go.Lib.hid ((quarter_len _ 0 4 8 12).trans hlen.out)
      have hu1 := Go.Lib.hid (quarter_u32 hu.out 0 4 8 12)
      clear hx hf
      go_wp2_with fail
      refine (q_1_5_9_13 _ _ _ hlen1.out hS.x hu1.out).mono ?_
      rintro e v1 ⟨rfl, hx, hf⟩
      replace hS := hS.quarter hx hf
      have hlen2 := Go.Lib.hid ((quarter_len _ 1 5 9 13).trans hlen1.out)
      have hu2 := Go.Lib.hid (quarter_u32 hu1.out 1 5 9 13)
      clear hx hf
      go_wp2_with fail
      refine (q_2_6_10_14 _ _ _ hlen2.out hS.x hu2.out).mono ?_
      rintro e v2 ⟨rfl, hx, hf⟩
      replace hS := hS.quarter hx hf
      have hlen3 := Go.Lib.hid ((quarter_len _ 2 6 10 14).trans hlen2.out)
      have hu3 := Go.Lib.hid (quarter_u32 hu2.out 2 6 10 14)
      clear hx hf
      go_wp2_with fail
      refine (q_3_7_11_15 _ _ _ hlen3.out hS.x hu3.out).mono ?_
      rintro e v3 ⟨rfl, hx, hf⟩
      replace hS := hS.quarter hx hf
      have hlen4 := Go.Lib.hid ((quarter_len _ 3 7 11 15).trans hlen3.out)
      have hu4 := Go.Lib.hid (quarter_u32 hu3.out 3 7 11 15)
      clear hx hf
      go_wp2_with fail
      refine (q_0_5_10_15 _ _ _ hlen4.out hS.x hu4.out).mono ?_
      rintro e v4 ⟨rfl, hx, hf⟩
      replace hS := hS.quarter hx hf
      have hlen5 := Go.Lib.hid ((quarter_len _ 0 5 10 15).trans hlen4.out)
      have hu5 := Go.Lib.hid (quarter_u32 hu4.out 0 5 10 15)
      clear hx hf
      go_wp2_with fail
      refine (q_1_6_11_12 _ _ _ hlen5.out hS.x hu5.out).mono ?_
      rintro e v5 ⟨rfl, hx, hf⟩
      replace hS := hS.quarter hx hf
      have hlen6 := Go.Lib.hid ((quarter_len _ 1 6 11 12).trans hlen5.out)
      have hu6 := Go.Lib.hid (quarter_u32 hu5.out 1 6 11 12)
      clear hx hf
      go_wp2_with fail
      refine (q_2_7_8_13 _ _ _ hlen6.out hS.x hu6.out).mono ?_
      rintro e v6 ⟨rfl, hx, hf⟩
      replace hS := hS.quarter hx hf
      have hlen7 := Go.Lib.hid ((quarter_len _ 2 7 8 13).trans hlen6.out)
      have hu7 := Go.Lib.hid (quarter_u32 hu6.out 2 7 8 13)
      clear hx hf
      go_wp2_with fail
      refine (q_3_4_9_14 _ _ _ hlen7.out hS.x hu7.out).mono ?_
      rintro e v7 ⟨rfl, hx, hf⟩
      replace hS := hS.quarter hx hf
      have hlen8 := Go.Lib.hid ((quarter_len _ 3 4 9 14).trans hlen7.out)
      have hu8 := Go.Lib.hid (quarter_u32 hu7.out 3 4 9 14)
      clear hx hf
      go_wp2_with fail
      go_roundw
      case rel => exact ⟨k + 1, by omega, by go_num, hS⟩
      case measure => simp [intOf]; omega
    · obtain rfl : k = 10 := by omega
      rw [show ((10 : Nat) : Int) = 10 from rfl]
      obtain ⟨X, eX⟩ : ∃ X, X = rounds 10 l := ⟨_, rfl⟩
      rw [← eX] at hS
      have hXl : Hid (X.length = 16) := Go.Lib.hid (by rw [eX, rounds_len, hL.out])
      have hOut : Hid (∀ i k, i < 16 → k < 4 → el (blockL l) (4 * i + k) = byteOf ((el X i + el l i) % 4294967296) k) := Go.Lib.hid (fun i k h1 h2 => by
        rw [eX, blockL_el _ _ (by omega), show (4 * i + k) / 4 = i from by omega, show (4 * i + k) % 4 = k from by omega])
      obtain ⟨R, eR⟩ : ∃ R, R = blockL l := ⟨_, rfl⟩
      rw [← eR] at hOut
      have ER := Go.Lib.hid eR
      have hRl : Hid (R.length = 64) := Go.Lib.hid (by rw [eR, blockL_len])
      have hO : Hid (∃ o : List Int, o.length = 64 ∧ (∀ j, j < 4 * 0 → el o j = el R j) ∧ St B gl go gx w l X o wr) := Go.Lib.hid ⟨_, by simp, fun j hj => by omega, hS⟩
      have hx := hS.x
      clear hS eX eR
      go_wp2_with (refine ev_loadarr rfl rfl rfl hx Try.underlying45 rfl (by rw [hXl.out]; kernel_rfl) ?_)
      clear hx
      go_loopw [20] (fun i wr => ∃ n : Nat, n ≤ 16 ∧ i = .int .i64 n ∧ Hid (∃ o : List Int, o.length = 64 ∧ (∀ j, j < 4 * n → el o j = el R j) ∧ St B gl go gx w l X o wr)) (fun i _ => 16 - (intOf i).toNat)
      case atStart => exact ⟨0, by omega, rfl, hO⟩
      case round =>
        obtain ⟨n, hn, rfl, hO⟩ := hrel
        by_cases hlt : n < 16
        · have hix := run_index_arr (P := Try.prog) Try.underlying45 Try.underlying22 hi22.out hz22.out X .u32 n hXl.out hlt
          have hcl : wr.cell? ⟨gl, n, none⟩ = some (.int .u32 (el l n)) := by
            obtain ⟨o, _, _, hS⟩ := hO.out
            exact hS.l.cell n (by rw [hL.out]; exact hlt)
          have ilt : (n : Int) < 16 := by omega
          go_wp2_with fail
          clear hcl hix
          obtain ⟨wo, rfl⟩ : ∃ wo : World, wo = wr := ⟨_, rfl⟩
          go_loopw [29] (fun i wr => ∃ k : Nat, k ≤ 4 ∧ i = .int .i64 k ∧ Hid (∃ o : List Int, o.length = 64 ∧ (∀ j, j < 4 * n + k → el o j = el R j) ∧ St B gl go gx w l X o wr)) (fun i _ => 4 - (intOf i).toNat)
          case atStart => exact ⟨0, by omega, rfl, hO⟩
          case round =>
            obtain ⟨k, hk, rfl, hO2⟩ := hrel
            by_cases hk4 : k < 4
            · have hcl : ∃ u, wr.cell? ⟨go, 4 * n + k, none⟩ = some (.int .u8 u) ∧ wr.frozen? ⟨go, 4 * n + k, none⟩ = false := by
                obtain ⟨o, h1, _, hS⟩ := hO2.out
                exact ⟨_, hS.o.cell (4 * n + k) (by omega), hS.o.frozen _⟩
              obtain ⟨u, hcl, hfr⟩ := hcl
              have ik : (k : Int) < 4 := by omega
              have ib : 4 * (n : Int) + (k : Int) < 64 := by omega
              go_wp2_with fail
              go_roundw
              case rel =>
                refine ⟨k + 1, by omega, by go_num, Go.Lib.hid ?_⟩
                obtain ⟨o, h1, h2, hS⟩ := hO2.out
                refine ⟨_, set_len h1 _ _, fun j hj => ?_, hS.out (4 * n + k) _⟩
                rw [el_set]
                by_cases e : 4 * n + k = j
                · rw [if_pos ⟨e, by omega⟩, ← e, hOut.out n k hlt hk4]; rfl
                · rw [if_neg (fun h => e h.1)]; exact h2 j (by omega)
              case measure => simp [intOf]; omega
            · obtain rfl : k = 4 := by omega
              rw [show ((4 : Nat) : Int) = 4 from rfl]
              go_wp2_with fail
              go_roundw
              case rel => exact ⟨n + 1, by omega, by go_num, hO2⟩
              case measure => simp [intOf]; omega
        · obtain rfl : n = 16 := by omega
          rw [show ((16 : Nat) : Int) = 16 from rfl]
          obtain ⟨o, ho, hp, hS⟩ := hO.out
          have e : o = R := ext_el (by rw [ho, hRl.out]) (fun i hi => hp i (by omega))
          rw [e] at hS
          have hb := hS.o
          have h1 := hS.h1
          have h2 := hS.h2
          have hbel := hS.bel
          clear hS hp ho hO e
          go_wp2_with (first
            | (refine ev_loadarr rfl rfl rfl hb Try.underlying43 rfl (by rw [hRl.out]; kernel_rfl) ?_)
            | (refine ev_storearrg rfl rfl rfl hb rfl rfl (by rw [hRl.out]; kernel_rfl) ?_; intro w7 h7 b7))
          refine bodyPost_ret (results_blk rfl _ _ rfl b7 Try.underlying43 rfl (by rw [hRl.out]; kernel_rfl)) rfl ⟨by rw [ER.out], ?_⟩
          rw [← eB.out]
          exact h7.bel hbel (by have := hb.lt; omega) (by omega)
end Go.Proofs.Ytdocbmgledebaaa
