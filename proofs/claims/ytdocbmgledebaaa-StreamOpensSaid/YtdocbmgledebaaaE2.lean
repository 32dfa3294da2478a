/-
  What the tag is taken of: parts, walked.
-/
import Derived.Test.YtdocbmgledebaaaE1
namespace Go.Proofs.Ytdocbmgledebaaa
set_option linter.unusedVariables false
set_option linter.unusedSimpArgs false
open Go.RowKit Go.Proofs.YtdocbmgledebaaaW.PrintWords

theorem info_int : (Try.prog.info? 3).map (fun i => (i.zero, i.size, i.bytes)) = some (some (.int .i64 0), 1, 8) := by kernel_rfl

set_option maxRecDepth 100000 in
set_option maxHeartbeats 1000000 in
theorem parts_any (A1 A2 : Option Addr) (n1 n2 c1 c2 : Nat) (b t : List Int) (w : World) (h1 : ReadsInt w .u8 A1 n1 b) (h2 : ReadsInt w .u8 A2 n2 t) (hn1 : n1 ≤ 1000000) (hn2 : n2 ≤ 1000000) :
    Calls Try.prog 40 #[.slice A1 n1 c1, .slice A2 n2 c2] w fun e w' =>
      ∃ v, e = .returned v ∧ w'.ownsRow w.heap.size 5 1 v (partsL b t).length (nums .u8 (partsL b t)) ∧ Below w.heap.size w w' := by
  obtain ⟨B, eB⟩ : ∃ B, B = w.heap.size := ⟨_, rfl⟩
  rw [← eB]
  have EB := Go.Lib.hid eB
  have hb0 : Below B w w := Below.refl _ _
  have hB : B ≤ w.heap.size := Nat.le_of_eq eB
  have HO := Go.Lib.hid (own_nil w B 5 1)
  have h1' := Go.Lib.hid h1
  have h2' := Go.Lib.hid h2
  clear eB h1 h2
  have info23 : (Try.prog.info? 23).map (·.size) = some 1 := by kernel_rfl
  obtain ⟨i23, hi23, hz23⟩ := Option.map_eq_some_iff.1 info23
  obtain ⟨hx0, hx1⟩ : (∀ W : World, (Instr.index 79 (.agg #[.slice A1 n1 c1, .slice A2 n2 c2]) (.int .i64 0)).run Try.prog W = .ok (.slice A1 n1 c1) W) ∧ (∀ W : World, (Instr.index 79 (.agg #[.slice A1 n1 c1, .slice A2 n2 c2]) (.int .i64 1)).run Try.prog W = .ok (.slice A2 n2 c2) W) :=
    ⟨fun W => (index_pair Try.underlying79 Try.underlying23 hi23 hz23 _ _ W).1, fun W => (index_pair Try.underlying79 Try.underlying23 hi23 hz23 _ _ W).2⟩
  clear info23 hi23 hz23
  have hlb : Hid (b.length = n1) := Go.Lib.hid h1'.out.1
  have hlt : Hid (t.length = n2) := Go.Lib.hid h2'.out.1
  go_enter Try.func40, Try.ntmps40
  go_wp2_with fail
  refine wp_loop_rounds 3 ?_
  rw [rounds_succ]
  go_wp2_with (at_builtin; refine print_append_row (w0 := w) (W := w) B rfl (.tmp 18) (.tmp 19) 23 5 .u8 1 rfl Try.underlying23 info_b8 (by omega) (.slice none 0 0) [] b A1 n1 c1 rfl rfl HO.out h1'.out hb0 hB (by simp; omega) ?_; intro v1 w1 ho1 hb1 hg1 hat1; simp only [List.nil_append] at ho1; replace ho1 := Go.Lib.hid ho1)
  refine (pad_any _ _ _ _ hn1).mono ?_
  rintro e w2 ⟨g2, rfl, bp, hg2', hb2⟩
  have hB1 : B ≤ w1.heap.size := by have := hb1.size; omega
  have hb2w : Below B w w2 := below_then hb1 hB1 hb2
  have ho1w := Go.Lib.hid (pw_own_below ho1.out hb2)
  have hB2 : B ≤ w2.heap.size := by have := hb2.size; omega
  have rp := rd_len (bp.reads (by simp; unfold padN; omega)) (by simp : (List.replicate (padN n1) (0 : Int)).length = padN n1)
  replace rp := Go.Lib.hid rp
  have hln : (b.length + padN n1) * 1 ≤ 140737488355328 := by have := hlb.out; unfold padN; omega
  clear bp hg2' hb2 ho1 hg1 hat1
  go_wp2_with (at_builtin; refine print_append_row (w0 := w) (W := w2) B rfl (.tmp 20) (.tmp 23) 23 5 .u8 1 rfl Try.underlying23 info_b8 (by omega) v1 b (List.replicate (padN n1) 0) (some ⟨g2, 0, none⟩) (padN n1) (padN n1) rfl rfl ho1w.out rp.out hb2w hB2 hln ?_; intro v3 w3 ho3 hb3 hg3 hat3; replace ho3 := Go.Lib.hid ho3)
  have hB3 : B ≤ w3.heap.size := by have := hb3.size; omega
  rw [rounds_succ]
  have h2'' := Go.Lib.hid (h2'.out.below (EB.out ▸ hb3))
  have hln3 : ((b ++ List.replicate (padN n1) 0).length + n2) * 1 ≤ 140737488355328 := by have := hlb.out; simp; unfold padN; omega
  go_wp2_with (at_builtin; refine print_append_row (w0 := w) (W := w3) B rfl (.tmp 18) (.tmp 19) 23 5 .u8 1 rfl Try.underlying23 info_b8 (by omega) v3 _ t A2 n2 c2 rfl rfl ho3.out h2''.out hb3 hB3 hln3 ?_; intro v4 w4 ho4 hb4 hg4 hat4; replace ho4 := Go.Lib.hid ho4)
  refine (pad_any _ _ _ _ hn2).mono ?_
  rintro e w5 ⟨g5, rfl, bp5, hg5', hb5⟩
  have hB4 : B ≤ w4.heap.size := by have := hb4.size; omega
  have hb5w : Below B w w5 := below_then hb4 hB4 hb5
  have ho5w := Go.Lib.hid (pw_own_below ho4.out hb5)
  have hB5 : B ≤ w5.heap.size := by have := hb5.size; omega
  have rp5 := rd_len (bp5.reads (by simp; unfold padN; omega)) (by simp : (List.replicate (padN n2) (0 : Int)).length = padN n2)
  replace rp5 := Go.Lib.hid rp5
  have hln5 : ((b ++ List.replicate (padN n1) 0 ++ t).length + padN n2) * 1 ≤ 140737488355328 := by have := hlb.out; have := hlt.out; simp; unfold padN; omega
  clear bp5 hg5' hb5 ho4 hg4 hat4
  go_wp2_with (at_builtin; refine print_append_row (w0 := w) (W := w5) B rfl (.tmp 20) (.tmp 23) 23 5 .u8 1 rfl Try.underlying23 info_b8 (by omega) v4 _ (List.replicate (padN n2) 0) (some ⟨g5, 0, none⟩) (padN n2) (padN n2) rfl rfl ho5w.out rp5.out hb5w hB5 hln5 ?_; intro v6 w6 ho6 hb6 hg6 hat6; replace ho6 := Go.Lib.hid ho6)
  obtain ⟨i3, hi3, _, hz3, _⟩ := info_parts info_int
  obtain ⟨hy0, hy1⟩ : (∀ W : World, (Instr.index 74 (.agg #[.int .i64 (n1 : Int), .int .i64 (n2 : Int)]) (.int .i64 0)).run Try.prog W = .ok (.int .i64 (n1 : Int)) W) ∧ (∀ W : World, (Instr.index 74 (.agg #[.int .i64 (n1 : Int), .int .i64 (n2 : Int)]) (.int .i64 1)).run Try.prog W = .ok (.int .i64 (n2 : Int)) W) :=
    ⟨fun W => run_index_arr (P := Try.prog) (T := 74) (e := 3) (n := 2) Try.underlying74 Try.underlying3 hi3 hz3 [(n1 : Int), (n2 : Int)] .i64 0 rfl (by omega) W,
      fun W => run_index_arr (P := Try.prog) (T := 74) (e := 3) (n := 2) Try.underlying74 Try.underlying3 hi3 hz3 [(n1 : Int), (n2 : Int)] .i64 1 rfl (by omega) W⟩
  clear hi3 hz3 hx0 hx1
  rw [rounds_succ]
  go_wp2_with fail
  refine wp_loop_rounds 3 ?_
  rw [rounds_succ]
  go_wp2_with fail
  obtain ⟨L6, eL6⟩ : ∃ L6, L6 = b ++ List.replicate (padN n1) 0 ++ t ++ List.replicate (padN n2) 0 := ⟨_, rfl⟩
  rw [← eL6] at ho6
  have lL6 : Hid (L6.length ≤ 2000100) := Go.Lib.hid (by rw [eL6]; have := hlb.out; have := hlt.out; simp; unfold padN; omega)
  replace eL6 := Go.Lib.hid eL6
  have hOn1 : Hid (w6.ownsRow B 5 1 v6 (L6 ++ (leN 8 n1).take 0).length (nums .u8 (L6 ++ (leN 8 n1).take 0)) ∧ Below B w w6) := Go.Lib.hid ⟨by simpa using ho6.out, hb6⟩
  go_loopw [34, 6, 11] (fun x y _ wr => ∃ (k : Nat) (v : Value), x = .int .i64 k ∧ v = y ∧ k ≤ 8 ∧ Hid (wr.ownsRow B 5 1 v (L6 ++ (leN 8 n1).take k).length (nums .u8 (L6 ++ (leN 8 n1).take k)) ∧ Below B w wr)) (fun x _ _ _ => 8 - (intOf x).toNat)
  case atStart => exact ⟨0, _, rfl, rfl, by omega, hOn1⟩
  case round =>
    obtain ⟨k, v, rfl, rfl, hk, hO⟩ := hrel
    obtain ⟨ho, hb⟩ := hO.out
    by_cases hlt8 : k < 8
    · have klt : (k : Int) < 8 := by omega
      have hBw : B ≤ wr.heap.size := by have := hb.size; omega
      have hll : ((L6 ++ (leN 8 n1).take k).length + 1) * 1 ≤ 140737488355328 := by have := lL6.out; simp [leN_len]; omega
      replace ho := Go.Lib.hid ho
      clear hO
      go_wp2_with (at_builtin; refine print_append_num (w0 := w) (W := wr) B rfl (.tmp 37) (.tmp 43) 23 5 .u8 1 rfl Try.underlying23 info_b8 (by omega) _ (L6 ++ (leN 8 n1).take k) _ rfl rfl ho.out hb hBw hll ?_; intro v7 w7 ho7 hb7 hg7 hat7)
      go_roundw
      case rel =>
        refine ⟨k + 1, v7, by go_num, rfl, by omega, Go.Lib.hid ⟨?_, hb7⟩⟩
        rw [leN_snoc _ _ _ hlt8, ← List.append_assoc]
        exact ho7
      case measure => simp [intOf]; omega
    · obtain rfl : k = 8 := by omega
      rw [show ((8 : Nat) : Int) = 8 from rfl]
      rw [List.take_of_length_le (by rw [leN_len]; omega)] at ho
      obtain ⟨L7, eL7⟩ : ∃ L7, L7 = L6 ++ leN 8 n1 := ⟨_, rfl⟩
      rw [← eL7] at ho
      have lL7 : Hid (L7.length ≤ 2000200) := Go.Lib.hid (by rw [eL7]; have := lL6.out; simp [leN_len]; omega)
      replace eL7 := Go.Lib.hid eL7
      have ho9 := Go.Lib.hid ho
      clear ho hO
      obtain ⟨wr2, rfl⟩ : ∃ wr2, wr2 = wr := ⟨_, rfl⟩
      go_wp2_with fail
      rw [rounds_succ]
      go_wp2_with fail
      have hOn2 : Hid (wr2.ownsRow B 5 1 v (L7 ++ (leN 8 n2).take 0).length (nums .u8 (L7 ++ (leN 8 n2).take 0)) ∧ Below B w wr2) := Go.Lib.hid ⟨by simpa using ho9.out, hb⟩
      go_loopw [34, 6, 11] (fun x y _ wr => ∃ (k : Nat) (v : Value), x = .int .i64 k ∧ v = y ∧ k ≤ 8 ∧ Hid (wr.ownsRow B 5 1 v (L7 ++ (leN 8 n2).take k).length (nums .u8 (L7 ++ (leN 8 n2).take k)) ∧ Below B w wr)) (fun x _ _ _ => 8 - (intOf x).toNat)
      case atStart => exact ⟨0, _, rfl, rfl, by omega, hOn2⟩
      case round =>
        obtain ⟨k, v, rfl, rfl, hk, hO⟩ := hrel
        obtain ⟨ho, hb⟩ := hO.out
        by_cases hlt8 : k < 8
        · have klt : (k : Int) < 8 := by omega
          have hBw : B ≤ wr.heap.size := by have := hb.size; omega
          have hll : ((L7 ++ (leN 8 n2).take k).length + 1) * 1 ≤ 140737488355328 := by have := lL7.out; simp [leN_len]; omega
          replace ho := Go.Lib.hid ho
          clear hO
          go_wp2_with (at_builtin; refine print_append_num (w0 := w) (W := wr) B rfl (.tmp 37) (.tmp 43) 23 5 .u8 1 rfl Try.underlying23 info_b8 (by omega) _ (L7 ++ (leN 8 n2).take k) _ rfl rfl ho.out hb hBw hll ?_; intro v7 w7 ho7 hb7 hg7 hat7)
          go_roundw
          case rel =>
            refine ⟨k + 1, v7, by go_num, rfl, by omega, Go.Lib.hid ⟨?_, hb7⟩⟩
            rw [leN_snoc _ _ _ hlt8, ← List.append_assoc]
            exact ho7
          case measure => simp [intOf]; omega
        · obtain rfl : k = 8 := by omega
          rw [show ((8 : Nat) : Int) = 8 from rfl]
          rw [List.take_of_length_le (by rw [leN_len]; omega)] at ho
          have hfin : L7 ++ leN 8 n2 = partsL b t := by
            rw [eL7.out, eL6.out]
            unfold partsL padL
            rw [hlb.out, hlt.out]
            simp only [List.append_assoc]
          rw [hfin] at ho
          replace hfin := Go.Lib.hid hfin
          replace ho := Go.Lib.hid ho
          clear hO
          go_wp2_with fail
          rw [rounds_succ]
          go_wp2_with fail
          go_ret
          exact ⟨_, rfl, ho.out, hb⟩
end Go.Proofs.Ytdocbmgledebaaa
