/-
  Seal and Open, walked.
-/
import Derived.Test.YtdocbmgledebaaaE3
import Derived.Test.YtdocbmgledebaaaS
namespace Go.Proofs.Ytdocbmgledebaaa
set_option linter.unusedVariables false
set_option linter.unusedSimpArgs false
open Go.RowKit Go.Proofs.YtdocbmgledebaaaW.PrintWords

def sealL (key nonce b t : List Int) : List Int := turnL (initL key 1 nonce) t ++ tagOf (initL key 0 nonce) b (turnL (initL key 1 nonce) t)

theorem own_cast {w : World} {base b' n m : Nat} {e : TypeId} {v : Value} {l : List Value} (h : w.ownsRow base e 1 v n l) (e1 : base = b') (e2 : n = m) : w.ownsRow b' e 1 v m l := by subst e1; subst e2; exact h

theorem pseal_no (A0 A1 : Option Addr) (n0 n1 c0 c1 : Nat) (v2 v3 : Value) (w : World) (h : n0 ≠ 32 ∨ n1 ≠ 12) :
    Calls Try.prog 15 #[.slice A0 n0 c0, .slice A1 n1 c1, v2, v3] w fun e w' => e = .returned (.tuple #[.slice none 0 0, .int .i64 2]) ∧ w' = w := by
  go_enter Try.func15, Try.ntmps15
  go_wp2_with fail
  refine (fits_no _ _ _ _ _ _ _ h).mono ?_
  rintro e w' ⟨rfl, rfl⟩
  go_wp2_with fail
  go_ret2
  exact ⟨rfl, rfl⟩

set_option maxRecDepth 100000 in
theorem pseal_yes (A0 A1 A2 A3 : Option Addr) (c0 c1 n2 c2 n3 c3 : Nat) (key nonce b t : List Int) (w : World) (hk : ReadsInt w .u8 A0 32 key) (hn : ReadsInt w .u8 A1 12 nonce) (h2 : ReadsInt w .u8 A2 n2 b) (h3 : ReadsInt w .u8 A3 n3 t)
    (hkb : Byt key) (hnb : Byt nonce) (hb : Byt b) (hc0 : 32 ≤ c0) (hc1 : 12 ≤ c1) (hn2 : n2 ≤ 200000) (hn3 : n3 ≤ 200000) :
    Calls Try.prog 15 #[.slice A0 32 c0, .slice A1 12 c1, .slice A2 n2 c2, .slice A3 n3 c3] w fun e w' =>
      ∃ v, e = .returned (.tuple #[v, .int .i64 0]) ∧ w'.ownsRow w.heap.size 5 1 v (sealL key nonce b t).length (nums .u8 (sealL key nonce b t)) ∧ Below w.heap.size w w' := by
  have z54 : (Try.prog.info? 54).map (fun i => (i.zero, i.size)) = some (some (.agg ((List.replicate 16 (0 : Int)).map (Value.int .u8)).toArray), 16) := by kernel_rfl
  replace z54 := Go.Lib.hid z54
  have hu1 := Go.Lib.hid (U32s_init' hkb hnb (by omega : (0 : Int) ≤ 1) (by omega))
  have hu0 := Go.Lib.hid (U32s_init' hkb hnb (by omega : (0 : Int) ≤ 0) (by omega))
  have HKB := Go.Lib.hid hkb
  have HNB := Go.Lib.hid hnb
  replace hk := Go.Lib.hid hk
  replace hn := Go.Lib.hid hn
  replace h2 := Go.Lib.hid h2
  replace h3 := Go.Lib.hid h3
  replace hb := Go.Lib.hid hb
  obtain ⟨B, eB⟩ : ∃ B, B = w.heap.size := ⟨_, rfl⟩
  rw [← eB]
  have EB := Go.Lib.hid eB
  have hB0 : B ≤ w.heap.size := Nat.le_of_eq eB
  clear hkb hnb eB
  go_enter Try.func15, Try.ntmps15
  go_wp2_with fail
  refine (fits_yes _ _ _ _ _).mono ?_
  rintro e w' ⟨rfl, hw'⟩
  rw [hw']
  clear hw' w'
  go_wp2_with fail
  refine (newWords_any A0 A1 c0 c1 key nonce 1 _ hk.out hn.out HKB.out HNB.out hc0 hc1).mono ?_
  rintro e w1 ⟨rfl, hb1⟩
  go_wp2_with fail
  refine (turn_any _ _ _ _ _ _ (initL_len _ _ _) hu1.out (h3.out.below hb1) (by omega)).mono ?_
  rintro e w2 ⟨v2, rfl, ho2, hb2⟩
  have hb02 := below_then hb1 hb1.size hb2
  replace ho2 := own_weaken ho2 hb1.size
  obtain ⟨A4, c4, rfl, hc4, hr4⟩ := own_slice ho2
  obtain ⟨x, ex⟩ : ∃ x, x = turnL (initL key 1 nonce) t := ⟨_, rfl⟩
  have hxb : Hid (Byt x) := Go.Lib.hid (by rw [ex]; exact turnL_byt _ _)
  have hxl : Hid (x.length = n3) := Go.Lib.hid (by rw [ex, turnL_len]; exact h3.out.1)
  rw [← ex] at ho2 hr4
  have hfin : sealL key nonce b t = x ++ tagOf (initL key 0 nonce) b x := by rw [ex]; rfl
  replace hfin := Go.Lib.hid hfin
  replace ex := Go.Lib.hid ex
  have ha : Hid (ReadsInt w2 .u8 A0 32 key ∧ ReadsInt w2 .u8 A1 12 nonce ∧ ReadsInt w2 .u8 A2 n2 b) := Go.Lib.hid ⟨hk.out.below hb02, hn.out.below hb02, h2.out.below hb02⟩
  replace hr4 := Go.Lib.hid hr4
  replace ho2 := Go.Lib.hid ho2
  clear hb1 hb2
  rw [← EB.out] at hb02
  go_wp2_with fail
  refine (newWords_any A0 A1 c0 c1 key nonce 0 _ ha.out.1 ha.out.2.1 HKB.out HNB.out hc0 hc1).mono ?_
  rintro e w3 ⟨rfl, hb3⟩
  go_wp2_with fail
  refine (tag_any _ _ _ _ _ _ _ b x _ (initL_len _ _ _) hu0.out (ha.out.2.2.below hb3) (hr4.out.below hb3) hb.out hxb.out hn2 hn3).mono ?_
  rintro e w4 ⟨rfl, hb4⟩
  have hb34 := below_then hb3 hb3.size hb4
  clear hb3 hb4
  have ho4 := Go.Lib.hid (pw_own_below ho2.out hb34)
  have hb04 : Below B w w4 := below_then hb02 (by have := hb02.size; omega) hb34
  have hB4 : B ≤ w4.heap.size := by have := hb04.size; omega
  obtain ⟨g, eg⟩ : ∃ g, g = tagOf (initL key 0 nonce) b x := ⟨_, rfl⟩
  have hgl : Hid (g.length = 16) := Go.Lib.hid (by rw [eg, tagOf_len])
  rw [← eg]
  replace eg := Go.Lib.hid eg
  clear ho2 hb34
  go_wp2_with (first
    | (refine ev_allocg (ty := 54) rfl rfl z54.out ?_; intro gb w5 k5 b5; change Blk w5 gb .u8 54 _ at b5)
    | (refine ev_storearrg rfl rfl rfl b5 rfl (by rw [hgl.out]; simp) (by rw [hgl.out]; kernel_rfl) ?_; intro w6 k6 b6
       have s5 := k5.size
       have e5 := k5.le
       have s6 := k6.size
       have hb06 : Below B w w6 := k6.bel (k5.bel hb04 hB4) (by omega) (by omega)
       have hb46 : Below w4.heap.size w4 w6 := k6.bel (k5.bel (Below.refl _ _) (Nat.le_refl _)) (by omega) (by omega)
       have ho6 := Go.Lib.hid (own_cast (pw_own_below ho4.out hb46) EB.out.symm hxl.out.symm)
       have hr6 := Go.Lib.hid (rd_len (b6.reads (by rw [hgl.out]; omega)) hgl.out)
       have hB6 : B ≤ w6.heap.size := by omega
       have hlen : (x.length + 16) * 1 ≤ 140737488355328 := by have := hxl.out; omega
       clear k5 k6 b5 b6 hb04 hb46 ho4)
    | (at_builtin; refine print_append_row (w0 := w) (W := w6) B rfl (.tmp 27) (.tmp 28) 23 5 .u8 1 rfl Try.underlying23 info_b8 (by omega) _ x g (some ⟨gb, 0, none⟩) 16 16 rfl rfl ho6.out hr6.out hb06 hB6 hlen ?_; intro v7 w7 ho7 hb7 hg7 hat7; replace ho7 := Go.Lib.hid ho7))
  go_ret2
  exact ⟨v7, rfl, by rw [hfin.out, ← eg.out]; exact ho7.out, hb7⟩
end Go.Proofs.Ytdocbmgledebaaa
