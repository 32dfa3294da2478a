/-
  Block and Turn of the stream, the program's exported ones.
-/
import Derived.Test.YtdocbmgledebaaaT
import Derived.Test.YtdocbmgledebaaaL
import Derived.Outline
namespace Go.Proofs.Ytdocbmgledebaaa
set_option linter.unusedVariables false
set_option linter.unusedSimpArgs false
open Go.RowKit Go.Proofs.YtdocbmgledebaaaW.PrintWords

theorem fits_yes (A0 A1 : Option Addr) (c0 c1 : Nat) (w : World) :
    Calls Try.prog 19 #[.slice A0 32 c0, .slice A1 12 c1] w fun e w' => e = .returned (.bool true) ∧ w' = w := by
  go_enter Try.func19, Try.ntmps19
  go_wp2
  go_ret
  exact ⟨rfl, rfl⟩
theorem fits_no (A0 A1 : Option Addr) (n0 n1 c0 c1 : Nat) (w : World) (h : n0 ≠ 32 ∨ n1 ≠ 12) :
    Calls Try.prog 19 #[.slice A0 n0 c0, .slice A1 n1 c1] w fun e w' => e = .returned (.bool false) ∧ w' = w := by
  by_cases h0 : n0 = 32
  · subst h0
    have h1 : ((n1 : Int) == 12) = false := by simp; omega
    go_enter Try.func19, Try.ntmps19
    go_wp2
    go_ret
    exact ⟨rfl, rfl⟩
  · have h1 : ((n0 : Int) == 32) = false := by simp; omega
    go_enter Try.func19, Try.ntmps19
    go_wp2
    go_ret
    exact ⟨rfl, rfl⟩

theorem pblock_no (A0 A1 : Option Addr) (n0 n1 c0 c1 : Nat) (ctr : Int) (w : World) (h : n0 ≠ 32 ∨ n1 ≠ 12) :
    Calls Try.prog 8 #[.slice A0 n0 c0, .int .u32 ctr, .slice A1 n1 c1] w fun e w' => e = .returned (.tuple #[.slice none 0 0, .int .i64 2]) ∧ w' = w := by
  go_enter Try.func8, Try.ntmps8
  go_wp2_with fail
  refine (fits_no _ _ _ _ _ _ _ h).mono ?_
  rintro e w' ⟨rfl, rfl⟩
  go_wp2_with fail
  go_ret2
  exact ⟨rfl, rfl⟩

set_option maxRecDepth 100000 in
theorem pblock_yes (A0 A1 : Option Addr) (c0 c1 : Nat) (key nonce : List Int) (ctr : Int) (w : World) (hk : ReadsInt w .u8 A0 32 key) (hn : ReadsInt w .u8 A1 12 nonce)
    (hkb : Byt key) (hnb : Byt nonce) (hc0 : 32 ≤ c0) (hc1 : 12 ≤ c1) (hc : 0 ≤ ctr) (hc2 : ctr ≤ 4294967295) :
    Calls Try.prog 8 #[.slice A0 32 c0, .int .u32 ctr, .slice A1 12 c1] w fun e w' =>
      ∃ g, e = .returned (.tuple #[.slice (some ⟨g, 0, none⟩) 64 64, .int .i64 0]) ∧ ReadsInt w' .u8 (some ⟨g, 0, none⟩) 64 (blockL (initL key ctr nonce)) ∧ Below w.heap.size w w' := by
  have z43 : (Try.prog.info? 43).map (fun i => (i.zero, i.size)) = some (some (.agg ((List.replicate 64 (0 : Int)).map (Value.int .u8)).toArray), 64) := by kernel_rfl
  replace z43 := Go.Lib.hid z43
  have hcall := newWords_any A0 A1 c0 c1 key nonce ctr w hk hn hkb hnb hc0 hc1
  have hu := U32s_init' hkb hnb hc hc2
  replace hcall := Go.Lib.hid hcall
  replace hu := Go.Lib.hid hu
  clear hk hn
  go_enter Try.func8, Try.ntmps8
  go_wp2_with fail
  refine (fits_yes _ _ _ _ _).mono ?_
  rintro e w' ⟨rfl, rfl⟩
  go_wp2_with fail
  refine hcall.out.mono ?_
  rintro e w1 ⟨rfl, hb1⟩
  go_wp2_with (first
    | (go_at_call 21; refine (block_any _ _ (initL_len _ _ _) hu.out).mono ?_; rintro e w2 ⟨rfl, hb2⟩)
    | (refine ev_allocg (ty := 43) rfl rfl z43.out ?_; intro gb w4 h4 b4; change Blk w4 gb .u8 43 _ at b4)
    | (refine ev_storearrg rfl rfl rfl b4 rfl (by rw [blockL_len]; simp) (by rw [blockL_len]; kernel_rfl) ?_; intro w5 h5 b5))
  go_ret2
  refine ⟨gb, rfl, rd_len (b5.reads (by rw [blockL_len]; omega)) (blockL_len _), ?_⟩
  have k1 := hb1.size
  have k2 := hb2.size
  have k3 := h4.le
  have k4 := h4.size
  exact h5.bel (h4.bel (below_then hb1 k1 hb2) (by omega)) (by omega) (by omega)

theorem pturn_no (A0 A1 : Option Addr) (n0 n1 c0 c1 : Nat) (ctr : Int) (v : Value) (w : World) (h : n0 ≠ 32 ∨ n1 ≠ 12) :
    Calls Try.prog 9 #[.slice A0 n0 c0, .int .u32 ctr, .slice A1 n1 c1, v] w fun e w' => e = .returned (.tuple #[.slice none 0 0, .int .i64 2]) ∧ w' = w := by
  go_enter Try.func9, Try.ntmps9
  go_wp2_with fail
  refine (fits_no _ _ _ _ _ _ _ h).mono ?_
  rintro e w' ⟨rfl, rfl⟩
  go_wp2_with fail
  go_ret2
  exact ⟨rfl, rfl⟩

set_option maxRecDepth 100000 in
theorem pturn_yes (A0 A1 A : Option Addr) (c0 c1 n c : Nat) (key nonce t : List Int) (ctr : Int) (w : World) (hk : ReadsInt w .u8 A0 32 key) (hn : ReadsInt w .u8 A1 12 nonce) (ht : ReadsInt w .u8 A n t)
    (hkb : Byt key) (hnb : Byt nonce) (hc0 : 32 ≤ c0) (hc1 : 12 ≤ c1) (hc : 0 ≤ ctr) (hc2 : ctr ≤ 4294967295) (hnn : n ≤ 1000000) :
    Calls Try.prog 9 #[.slice A0 32 c0, .int .u32 ctr, .slice A1 12 c1, .slice A n c] w fun e w' =>
      ∃ v, e = .returned (.tuple #[v, .int .i64 0]) ∧ w'.ownsRow w.heap.size 5 1 v n (nums .u8 (turnL (initL key ctr nonce) t)) ∧ Below w.heap.size w w' := by
  have hcall := newWords_any A0 A1 c0 c1 key nonce ctr w hk hn hkb hnb hc0 hc1
  have hu := U32s_init' hkb hnb hc hc2
  replace hcall := Go.Lib.hid hcall
  replace hu := Go.Lib.hid hu
  replace ht := Go.Lib.hid ht
  clear hk hn
  go_enter Try.func9, Try.ntmps9
  go_wp2_with fail
  refine (fits_yes _ _ _ _ _).mono ?_
  rintro e w' ⟨rfl, rfl⟩
  go_wp2_with fail
  refine hcall.out.mono ?_
  rintro e w1 ⟨rfl, hb1⟩
  go_wp2_with fail
  refine (turn_any _ _ _ _ _ _ (initL_len _ _ _) hu.out (ht.out.below hb1) hnn).mono ?_
  rintro e w2 ⟨v, rfl, hown, hb2⟩
  go_wp2_with fail
  go_ret2
  exact ⟨v, rfl, own_weaken hown hb1.size, below_then hb1 hb1.size hb2⟩
end Go.Proofs.Ytdocbmgledebaaa
