/-
  The reference's numbers in digits of 2^8: the sum and the product of two.
-/
import Derived.Test.YtdocbmgledebaaaP6
namespace Go.Proofs.Ytdocbmgledebaaa
set_option linter.unusedVariables false
set_option linter.unusedSimpArgs false
open Go.RowKit Go.Proofs.YtdocbmgledebaaaW.PrintWords

theorem el_past (l : List Int) (i : Nat) (h : l.length ≤ i) : el l i = 0 := by
  unfold el
  rw [List.getD_eq_getElem?_getD, List.getElem?_eq_none h]
  rfl
theorem lev_take : ∀ (l : List Int) (k : Nat), lev (l.take (k + 1)) = lev (l.take k) + el l k * 256 ^ k
  | [], k => by simp [lev, el]
  | x :: l, 0 => by simp [lev, el_cons_0]
  | x :: l, k + 1 => by
    rw [List.take_succ_cons, List.take_succ_cons]
    simp only [lev, el_cons_s]
    rw [lev_take l k, Int.pow_succ]
    grind
theorem lev_set : ∀ (l : List Int) (j : Nat) (v : Int), j < l.length → lev (l.set j v) = lev l + (v - el l j) * 256 ^ j
  | [], _, _, h => by simp at h
  | x :: l, 0, v, _ => by simp only [List.set_cons_zero, lev, el_cons_0]; omega
  | x :: l, j + 1, v, h => by
    simp only [List.set_cons_succ, lev, el_cons_s]
    rw [lev_set l j v (by simpa using h), Int.pow_succ]
    grind
theorem lev_one (l : List Int) (v : Int) : lev (l ++ [v]) = lev l + v * 256 ^ l.length := by
  rw [lev_app]
  simp only [lev]
  grind
theorem Byt.app {a b : List Int} (ha : Byt a) (hb : Byt b) : Byt (a ++ b) := fun x hx => by
  rcases List.mem_append.1 hx with h | h
  · exact ha x h
  · exact hb x h
theorem Byt.one {v : Int} (h : 0 ≤ v ∧ v ≤ 255) : Byt [v] := fun x hx => by simp at hx; subst hx; exact h
theorem Byt.set {l : List Int} (h : Byt l) (i : Nat) (v : Int) (hv : 0 ≤ v ∧ v ≤ 255) : Byt (l.set i v) := fun x hx => by
  rcases List.mem_or_eq_of_mem_set hx with hx | rfl
  · exact h x hx
  · exact hv
theorem plus_step (zs : List Int) (c X Y x y s : Int) (h : lev zs + c * 256 ^ zs.length = X + Y) (hs : s = c + x + y) :
    lev (zs ++ [s % 256]) + s / 256 * 256 ^ (zs.length + 1) = X + x * 256 ^ zs.length + (Y + y * 256 ^ zs.length) := by
  rw [lev_one, Int.pow_succ]
  have e : s % 256 = s - 256 * (s / 256) := by omega
  rw [e]
  generalize s / 256 = q at *
  generalize (256 : Int) ^ zs.length = p at *
  subst hs
  grind

theorem info_b : (Try.prog.info? 5).map (fun i => (i.zero, i.size, i.bytes)) = some (some (.int .u8 0), 1, 1) := by kernel_rfl

set_option maxRecDepth 100000 in
set_option maxHeartbeats 1000000 in
theorem plus_any (A1 A2 : Option Addr) (n1 n2 c1 c2 : Nat) (xs ys : List Int) (w : World) (h1 : ReadsInt w .u8 A1 n1 xs) (h2 : ReadsInt w .u8 A2 n2 ys) (b1 : Byt xs) (b2 : Byt ys) (hn1 : n1 ≤ 1000000) (hn2 : n2 ≤ 1000000) :
    Calls Try.prog 27 #[.slice A1 n1 c1, .slice A2 n2 c2] w fun e w' =>
      ∃ v zs, e = .returned v ∧ w'.ownsRow w.heap.size 5 1 v zs.length (nums .u8 zs) ∧ Byt zs ∧ lev zs = lev xs + lev ys ∧ zs.length ≤ max n1 n2 + 1 ∧ n1 ≤ zs.length ∧ n2 ≤ zs.length ∧ Below w.heap.size w w' := by
  have H1 := Go.Lib.hid h1
  have H2 := Go.Lib.hid h2
  clear h1 h2
  obtain ⟨B, eB⟩ : ∃ B, B = w.heap.size := ⟨_, rfl⟩
  rw [← eB]
  have EB := Go.Lib.hid eB
  have hb0 : Below B w w := Below.refl _ _
  have hB : B ≤ w.heap.size := Nat.le_of_eq eB
  clear eB
  go_enter Try.func27, Try.ntmps27
  go_wp2_with fail
  have hO : Hid (w.ownsRow B 5 1 (.slice none 0 0) ([] : List Int).length (nums .u8 [])) := Go.Lib.hid (own_nil _ _ _ _)
  go_loopw [7, 6, 5] (fun x y z wr => ∃ (i : Nat) (c : Int) (v : Value) (zs : List Int), x = .int .i64 i ∧ y = .int .i64 c ∧ z = v ∧ 0 ≤ c ∧ c ≤ 1 ∧ i ≤ max n1 n2 + 1 ∧ (max n1 n2 < i → c = 0) ∧ zs.length = i ∧ Byt zs ∧ Hid (lev zs + c * 256 ^ zs.length = lev (xs.take i) + lev (ys.take i)) ∧ Hid (wr.ownsRow B 5 1 v zs.length (nums .u8 zs)) ∧ Below B w wr) (fun x _ _ _ => max n1 n2 + 1 - (intOf x).toNat)
  case atStart => exact ⟨0, 0, _, [], rfl, rfl, rfl, by omega, by omega, by omega, fun _ => rfl, rfl, fun x hx => (by cases hx), Go.Lib.hid (by simp [lev]), hO, hb0⟩
  case round =>
    obtain ⟨i, c, v, zs, rfl, rfl, rfl, hc0, hc1, hi, hic, hz, hzb, hv, hO, hb⟩ := hrel
    have x0 := b1.el i
    have y0 := b2.el i
    have fin : ∀ (s : Int) (v1 : Value) (w1 : World), s = c + el xs i + el ys i → i ≤ max n1 n2 → w1.ownsRow B 5 1 v1 (zs ++ [s % 256]).length (nums .u8 (zs ++ [s % 256])) → Below B w w1 →
        ∃ (i' : Nat) (c' : Int) (v' : Value) (zs' : List Int), Value.int .i64 ((i : Int) + 1) = .int .i64 i' ∧ Value.int .i64 (s / 256) = .int .i64 c' ∧ v1 = v' ∧ 0 ≤ c' ∧ c' ≤ 1 ∧ i' ≤ max n1 n2 + 1 ∧ (max n1 n2 < i' → c' = 0) ∧ zs'.length = i' ∧ Byt zs' ∧ Hid (lev zs' + c' * 256 ^ zs'.length = lev (xs.take i') + lev (ys.take i')) ∧ Hid (w1.ownsRow B 5 1 v' zs'.length (nums .u8 zs')) ∧ Below B w w1 := fun s v1 w1 hs him ho hb' => by
      refine ⟨i + 1, s / 256, v1, _, by go_num, rfl, rfl, by omega, by omega, by omega, fun hm => ?_, by simp [hz], hzb.app (Byt.one (by omega)), Go.Lib.hid ?_, Go.Lib.hid ho, hb'⟩
      · rw [el_past xs i (by rw [H1.out.1]; omega), el_past ys i (by rw [H2.out.1]; omega)] at hs
        omega
      · rw [lev_take, lev_take, ← hz, List.length_append, List.length_singleton]
        exact plus_step zs c _ _ _ _ s (by rw [hz]; rw [← hz]; rw [hv.out, hz]) (by rw [hz]; exact hs)
    have hl : (zs.length + 1) * 1 ≤ 140737488355328 := by omega
    have hBr : B ≤ wr.heap.size := Nat.le_trans hB hb.size
    replace hz := Go.Lib.hid hz
    replace hzb := Go.Lib.hid hzb
    replace hic := Go.Lib.hid hic
    replace fin := Go.Lib.hid fin
    by_cases e1 : i < n1
    · have i1 : (i : Int) < (n1 : Int) := by omega
      obtain ⟨g1, o1, rfl, hc1⟩ := rd_open (H1.out.below (EB.out ▸ hb)) (by omega)
      have d1 := hc1 i e1
      clear hc1
      by_cases e2 : i < n2
      · have i2 : (i : Int) < (n2 : Int) := by omega
        obtain ⟨g2, o2, rfl, hc2⟩ := rd_open (H2.out.below (EB.out ▸ hb)) (by omega)
        have d2 := hc2 i e2
        clear hc2
        go_wp2_with (at_builtin; refine print_append_num (w0 := w) (W := wr) B rfl (.tmp 46) (.tmp 49) 23 5 .u8 1 rfl Try.underlying23 info_b (by omega) _ zs _ rfl rfl hO.out hb hBr hl ?_; intro v1 w3 ho3 hb3 hg3 hat3)
        go_roundw
        case rel => exact fin.out _ v1 w3 rfl (by omega) ho3 hb3
        case measure => simp [intOf]; omega
      · have i2 : (n2 : Int) ≤ (i : Int) := by omega
        go_wp2_with (at_builtin; refine print_append_num (w0 := w) (W := wr) B rfl (.tmp 46) (.tmp 49) 23 5 .u8 1 rfl Try.underlying23 info_b (by omega) _ zs _ rfl rfl hO.out hb hBr hl ?_; intro v1 w3 ho3 hb3 hg3 hat3)
        go_roundw
        case rel => exact fin.out (c + el xs i) v1 w3 (by rw [el_past ys i (by rw [H2.out.1]; omega)]; omega) (by omega) ho3 hb3
        case measure => simp [intOf]; omega
    · have i1 : (n1 : Int) ≤ (i : Int) := by omega
      by_cases e2 : i < n2
      · have i2 : (i : Int) < (n2 : Int) := by omega
        obtain ⟨g2, o2, rfl, hc2⟩ := rd_open (H2.out.below (EB.out ▸ hb)) (by omega)
        have d2 := hc2 i e2
        clear hc2
        go_wp2_with (at_builtin; refine print_append_num (w0 := w) (W := wr) B rfl (.tmp 46) (.tmp 49) 23 5 .u8 1 rfl Try.underlying23 info_b (by omega) _ zs _ rfl rfl hO.out hb hBr hl ?_; intro v1 w3 ho3 hb3 hg3 hat3)
        go_roundw
        case rel => exact fin.out (c + el ys i) v1 w3 (by rw [el_past xs i (by rw [H1.out.1]; omega)]; omega) (by omega) ho3 hb3
        case measure => simp [intOf]; omega
      · have i2 : (n2 : Int) ≤ (i : Int) := by omega
        by_cases e3 : 0 < c
        · go_wp2_with (at_builtin; refine print_append_num (w0 := w) (W := wr) B rfl (.tmp 46) (.tmp 49) 23 5 .u8 1 rfl Try.underlying23 info_b (by omega) _ zs _ rfl rfl hO.out hb hBr hl ?_; intro v1 w3 ho3 hb3 hg3 hat3)
          go_roundw
          case rel => exact fin.out c v1 w3 (by rw [el_past xs i (by rw [H1.out.1]; omega), el_past ys i (by rw [H2.out.1]; omega)]; omega) (by have := hic.out; omega) (by rw [show c % 256 = c from by omega]; exact ho3) hb3
          case measure => have := hic.out; simp [intOf]; omega
        · have e3' : c ≤ 0 := by omega
          go_wp2_with fail
          go_ret
          refine ⟨_, rfl, zs, hO.out, hzb.out, ?_, by have := hz.out; omega, by have := hz.out; omega, by have := hz.out; omega, hb⟩
          have h := hv.out
          rw [List.take_of_length_le (by rw [H1.out.1]; omega), List.take_of_length_le (by rw [H2.out.1]; omega), show c = 0 from by omega] at h
          omega
end Go.Proofs.Ytdocbmgledebaaa
