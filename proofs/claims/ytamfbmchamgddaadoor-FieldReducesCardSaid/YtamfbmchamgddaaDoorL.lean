/-
  What the laws lend and hold: Lent, Still.
-/
import Derived.Test.YtamfbmchamgddaaDoorProg
import Derived.Test.YtamfbmchamgddaaDoorMA
import Derived.Outline
namespace Go.Proofs.YtamfbmchamgddaaDoor
set_option linter.unusedVariables false
set_option linter.unusedSimpArgs false
open Go.RowKit Go.Proofs.YtamfbmchamgddaaDoorW.PrintWords

def markB (i : Nat) : Int := bits .xor .u8 ((i : Int) % 251) 165
def lentL (t : List Int) : List Int := t ++ (List.range 160).map fun j => markB (t.length + j)
theorem lentL_len (t : List Int) : (lentL t).length = t.length + 160 := by simp [lentL]
theorem lentL_byt {t : List Int} (h : Byt t) : Byt (lentL t) := fun x hx => by
  simp only [lentL, List.mem_append, List.mem_map] at hx
  rcases hx with hx | ⟨j, _, rfl⟩
  · exact h x hx
  · exact bits_u8 _ _ _
theorem el_app_l' (a b : List Int) (i : Nat) (h : i < a.length) : el (a ++ b) i = el a i := by simp [el, List.getD_eq_getElem?_getD, List.getElem?_append_left h]
theorem lentL_lo (t : List Int) (i : Nat) (h : i < t.length) : el (lentL t) i = el t i := by simp [lentL, el, List.getD_eq_getElem?_getD, List.getElem?_append_left h]
theorem lentL_hi (t : List Int) (i : Nat) (h : t.length ≤ i) (h2 : i < t.length + 160) : el (lentL t) i = markB i := by
  simp only [lentL, el, List.getD_eq_getElem?_getD, List.getElem?_append_right h]
  rw [List.getElem?_map, List.getElem?_range (by omega)]
  simp only [Option.map_some, Option.getD_some]
  congr 1
  omega
theorem lentL_take (t : List Int) : (lentL t).take t.length = t := by simp [lentL]
theorem infoz_u8 : (Tryd.prog.info? 5).map (fun i => (i.zero, i.size, i.bytes)) = some (some (.int .u8 0), 1, 1) := by kernel_rfl
theorem infos_u8 : (Tryd.prog.info? 5).map (·.size) = some 1 := by kernel_rfl

set_option maxRecDepth 100000 in
theorem lent_any (s : ByteArray) (w : World) (hs : s.size ≤ 1000000) :
    Calls Tryd.prog 8 #[.string s] w fun e w' =>
      ∃ g, e = .returned (.slice (some ⟨g, 0, none⟩) (s.size + 160) (s.size + 160)) ∧ Blk w' g .u8 5 (lentL (bytesOf s)) ∧ w.heap.size ≤ g ∧ Below w.heap.size w w' := by
  have hmk := print_make (P := Tryd.prog) 23 5 .u8 1 Tryd.underlying23 infoz_u8 (by omega) (s.size + 160) (by omega)
  rw [show ((s.size + 160 : Nat) : Int) = (s.size : Int) + 160 from by omega] at hmk
  have b0 := Blk.made w .u8 5 (s.size + 160)
  have hn := size_bytesOf s
  obtain ⟨n, en⟩ : ∃ n, n = s.size := ⟨_, rfl⟩
  have hbel : Below w.heap.size w (w.alloc (.cells (madeCells #[.int .u8 0] (s.size + 160)) 5)) := (Below.refl _ _).alloc (Nat.le_refl _) _
  replace hn := Go.Lib.hid hn
  replace en := Go.Lib.hid en
  go_enter Tryd.func8, Tryd.ntmps8
  go_wp2_with (refine ev_copystr rfl (.tmp 9) (.tmp 10) 23 9 rfl 5 Tryd.underlying23 infos_u8 rfl rfl b0 (by omega) (by simp) ?_; intro w1 h1 b1; clear b0 hmk)
  have hB : Hid (∃ o : List Int, o.length = s.size + 160 ∧ (∀ j, j < s.size → el o j = el (lentL (bytesOf s)) j) ∧ Blk w1 w.heap.size .u8 5 o ∧ Below w.heap.size w w1) := Go.Lib.hid (by
    have e := hn.out
    refine ⟨_, by simp [bytesOf_length], fun j hj => ?_, b1, h1.bel hbel (by simp) (Nat.le_refl _)⟩
    rw [lentL_lo _ _ (by omega)]
    exact el_app_l' _ _ _ (by omega))
  clear b1 h1 hbel
  go_loopw [4] (fun x wr => ∃ i : Nat, s.size ≤ i ∧ i ≤ s.size + 160 ∧ x = .int .i64 i ∧ Hid (∃ o : List Int, o.length = s.size + 160 ∧ (∀ j, j < i → el o j = el (lentL (bytesOf s)) j) ∧ Blk wr w.heap.size .u8 5 o ∧ Below w.heap.size w wr)) (fun x _ => s.size + 160 - (intOf x).toNat)
  case atStart => exact ⟨s.size, by omega, by omega, rfl, hB⟩
  case round =>
    obtain ⟨i, hi1, hi2, rfl, hO⟩ := hrel
    obtain ⟨o, ho1, ho2, hb, hbel⟩ := hO.out
    by_cases hlt : i < s.size + 160
    · have c1 := hb.cell i (by omega)
      have f1 := hb.frozen i
      have ilt : (i : Int) < (s.size : Int) + 160 := by omega
      replace ho1 := Go.Lib.hid ho1
      replace ho2 := Go.Lib.hid ho2
      replace hb := Go.Lib.hid hb
      clear hO
      go_wp2_with fail
      go_roundw
      case rel =>
        refine ⟨i + 1, by omega, by omega, by go_num, Go.Lib.hid ⟨_, set_len ho1.out i (markB i), fun j hj => ?_, hb.out.set i _, hbel.setCell (Nat.le_refl _) _⟩⟩
        rw [el_set]
        have e := hn.out
        by_cases e2 : i = j
        · rw [if_pos ⟨e2, by rw [ho1.out]; omega⟩, ← e2, lentL_hi _ _ (by omega) (by omega)]
        · rw [if_neg (fun h => e2 h.1)]; exact ho2.out j (by omega)
      case measure => simp [intOf]; omega
    · obtain rfl : i = s.size + 160 := by omega
      have e : o = lentL (bytesOf s) := ext_el (by rw [ho1, lentL_len, hn.out]) (fun j hj => ho2 j (by omega))
      rw [e] at hb
      replace hb := Go.Lib.hid hb
      clear hO ho1 ho2 e
      go_wp2_with fail
      go_ret
      exact ⟨_, rfl, hb.out, Nat.le_refl _, hbel⟩

theorem lent_reads {w : World} {g : Nat} {s : ByteArray} (h : Blk w g .u8 5 (lentL (bytesOf s))) (hs : s.size ≤ 1000000) : ReadsInt w .u8 (some ⟨g, 0, none⟩) (s.size + 160) (lentL (bytesOf s)) :=
  rd_len (h.reads (by rw [lentL_len, ← size_bytesOf]; omega)) (by rw [lentL_len, ← size_bytesOf])
theorem lent_text {w : World} {g : Nat} {s : ByteArray} (h : Blk w g .u8 5 (lentL (bytesOf s))) (hs : s.size ≤ 1000000) : ReadsInt w .u8 (some ⟨g, 0, none⟩) s.size (bytesOf s) := by
  have := (lent_reads h hs).take_ s.size (by omega)
  rwa [size_bytesOf s, lentL_take, ← size_bytesOf] at this

set_option maxRecDepth 100000 in
theorem still_any (A : Option Addr) (n c : Nat) (L : List Int) (s : ByteArray) (w : World) (hs : s.size ≤ 1000000) (h : ReadsInt w .u8 A n L) (hL : L = lentL (bytesOf s)) :
    Calls Tryd.prog 10 #[.slice A n c, .string s] w fun e w' => e = .returned (.bool true) ∧ Below w.heap.size w w' := by
  have hcv := fun (A : Option Addr) (n c : Nat) (xs : List Int) (w : World) (h : ReadsInt w .u8 A n xs) => string_of_reads (P := Tryd.prog) (src := 23) (dst := 9) (c := c) Tryd.underlying23 Tryd.underlying5 Tryd.underlying9 h
  replace hcv := Go.Lib.hid hcv
  replace h := Go.Lib.hid h
  replace hL := Go.Lib.hid hL
  go_enter Tryd.func10, Tryd.ntmps10
  go_wp2_with fail
  refine (lent_any s _ hs).mono ?_
  rintro e w1 ⟨g, rfl, hb, hg, hbel⟩
  have k1 := hcv.out _ _ (s.size + 160) _ _ (lent_reads hb hs)
  have k2 := hcv.out _ _ c _ _ (h.out.below hbel)
  rw [hL.out] at k2
  clear hb
  go_wp2_with fail
  go_ret
  exact ⟨by simp, hbel⟩
end Go.Proofs.YtamfbmchamgddaaDoor
