/-
  The law StreamPolys, walked.
-/
import Derived.Test.YtdocbmgledebaaaPC
import Derived.Test.YtdocbmgledebaaaL
namespace Go.Proofs.Ytdocbmgledebaaa
set_option linter.unusedVariables false
set_option linter.unusedSimpArgs false
open Go.RowKit Go.Proofs.YtdocbmgledebaaaW.PrintWords

theorem str_readsP {P : Program} {src dst e : TypeId} (hs : P.underlying src = some (.slice e)) (he : P.underlying e = some (.int .u8)) (hd : P.underlying dst = some .string) {A : Option Addr} {n : Nat} (c : Nat) {xs : List Int} {w : World} (h : ReadsInt w .u8 A n xs) :
    (convert src dst (.slice A n c)).run P w = .ok (.string (strOfNums xs)) w := string_of_reads hs he hd h
theorem one_key (w : World) (k : ByteArray) {m : Nat} (hm : k.size = m) (hs : m ≤ 1000000) : ReadsInt (Lib.bytesWorld w 5 k) .u8 (some ⟨w.heap.size, 0, none⟩) m (bytesOf k) :=
  rd_len (bytes_reads w 5 k (by omega)) hm
theorem one_bel (w : World) (k : ByteArray) : Below w.heap.size w (Lib.bytesWorld w 5 k) := bytes_below (Below.refl _ _) (Nat.le_refl _) _ _

theorem ppoly_no (A0 A1 : Option Addr) (n0 n1 c0 c1 : Nat) (w : World) (h : n0 ≠ 32) :
    Calls Try.prog 13 #[.slice A0 n0 c0, .slice A1 n1 c1] w fun e w' => e = .returned (.tuple #[.slice none 0 0, .int .i64 2]) ∧ w' = w := by
  have h1 : ((n0 : Int) != 32) = true := by simp only [bne_iff_ne]; omega
  go_enter Try.func13, Try.ntmps13
  go_wp2_with fail
  go_ret2
  exact ⟨rfl, rfl⟩

set_option maxRecDepth 100000 in
theorem ppoly_yes (A0 A : Option Addr) (c0 n c : Nat) (key t : List Int) (w : World) (hk : ReadsInt w .u8 A0 32 key) (ht : ReadsInt w .u8 A n t) (hkb : Byt key) (htb : Byt t) (hc0 : 32 ≤ c0) (hcn : n ≤ c) (hnn : n ≤ 1000000) :
    Calls Try.prog 13 #[.slice A0 32 c0, .slice A n c] w fun e w' =>
      ∃ g, e = .returned (.tuple #[.slice (some ⟨g, 0, none⟩) 16 16, .int .i64 0]) ∧ ReadsInt w' .u8 (some ⟨g, 0, none⟩) 16 (tagL key t) ∧ Below w.heap.size w w' := by
  have z54 : (Try.prog.info? 54).map (fun i => (i.zero, i.size)) = some (some (.agg ((List.replicate 16 (0 : Int)).map (Value.int .u8)).toArray), 16) := by kernel_rfl
  replace z54 := Go.Lib.hid z54
  have hcall := poly_any A0 A c0 n c key t w hk ht hkb htb hc0 hcn hnn
  replace hcall := Go.Lib.hid hcall
  clear hk ht
  go_enter Try.func13, Try.ntmps13
  go_wp2_with fail
  refine hcall.out.mono ?_
  rintro e w1 ⟨rfl, hb1⟩
  go_wp2_with (first
    | (refine ev_allocg (ty := 54) rfl rfl z54.out ?_; intro gb w4 h4 b4; change Blk w4 gb .u8 54 _ at b4)
    | (refine ev_storearrg rfl rfl rfl b4 rfl (by rw [tagL_len]; simp) (by rw [tagL_len]; kernel_rfl) ?_; intro w5 h5 b5))
  go_ret2
  refine ⟨gb, rfl, rd_len (b5.reads (by rw [tagL_len]; omega)) (tagL_len _ _), ?_⟩
  have k1 := hb1.size
  have k3 := h4.le
  have k4 := h4.size
  exact h5.bel (h4.bel hb1 (by omega)) (by omega) (by omega)

theorem law_polys (key s : ByteArray) (w : World) :
    Calls Try.prog 4 #[.string key, .string s] w fun e w' => e = .returned (.bool true) ∧ Below w.heap.size w w' := by
  by_cases h1 : (65536 : Int) < (key.size : Int)
  · go_enter Try.func4, Try.ntmps4
    go_wp2_with fail
    go_ret
    exact ⟨rfl, Below.refl _ _⟩
  by_cases h3 : (65536 : Int) < (s.size : Int)
  · go_enter Try.func4, Try.ntmps4
    go_wp2_with fail
    go_ret
    exact ⟨rfl, Below.refl _ _⟩
  have t3 : s.size ≤ 1000000 := by omega
  have kb := fun s W => print_bytes (P := Try.prog) 9 23 5 Try.underlying9 Try.underlying23 Try.underlying5 s W
  by_cases hk : key.size = 32
  · go_enter Try.func4, Try.ntmps4
    go_wp2_with fail
    refine (lent_any s _ t3).mono ?_
    rintro e w1 ⟨g, rfl, hb, hg, hbel⟩
    replace hb := Go.Lib.hid hb
    go_wp2_with fail
    refine (ppoly_yes _ _ _ _ _ (bytesOf key) (bytesOf s) _ (one_key w1 key hk (by omega)) (lent_text (hb.out.below (one_bel w1 key)) t3) (Byt.of _) (Byt.of _) (grownCap_ge _ _ _ _) (by omega) t3).mono ?_
    rintro e w2 ⟨ga, rfl, hra, hb2⟩
    replace hb2 := below_then (one_bel w1 key) (one_bel w1 key).size hb2
    replace hra := Go.Lib.hid hra
    replace hb := Go.Lib.hid (hb.out.below hb2)
    replace hbel := below_then hbel hbel.size hb2
    clear hb2
    go_wp2_with fail
    refine (still_any _ _ _ _ s _ t3 (lent_reads hb.out t3) rfl).mono ?_
    rintro e w4 ⟨rfl, hb4⟩
    replace hra := Go.Lib.hid (hra.out.below hb4)
    replace hbel := below_then hbel hbel.size hb4
    clear hb4 hb
    go_wp2_with fail
    refine (rpoly_any key s _ hk t3).mono ?_
    rintro e w5 ⟨rfl, hb5⟩
    replace hra := Go.Lib.hid (hra.out.below hb5)
    replace hbel := below_then hbel hbel.size hb5
    clear hb5
    have q1 := str_readsP (P := Try.prog) (src := 23) (dst := 9) Try.underlying23 Try.underlying5 Try.underlying9 16 hra.out
    go_wp2_with fail
    go_ret
    exact ⟨by simp, hbel⟩
  · have hq : ((key.size : Int) != 32) = true := by simp only [bne_iff_ne]; omega
    replace hq := Go.Lib.hid hq
    go_enter Try.func4, Try.ntmps4
    go_wp2_with fail
    refine (lent_any s _ t3).mono ?_
    rintro e w1 ⟨g, rfl, hb, hg, hbel⟩
    replace hb := Go.Lib.hid hb
    go_wp2_with fail
    refine (ppoly_no _ _ _ _ _ _ _ hk).mono ?_
    rintro e w2 ⟨rfl, hw2⟩
    have hb2 := one_bel w1 key
    rw [← hw2] at hb2
    replace hb := Go.Lib.hid (hb.out.below hb2)
    replace hbel := below_then hbel hbel.size hb2
    clear hb2 hw2
    go_wp2_with fail
    refine (still_any _ _ _ _ s _ t3 (lent_reads hb.out t3) rfl).mono ?_
    rintro e w4 ⟨rfl, hb4⟩
    replace hbel := below_then hbel hbel.size hb4
    clear hb4 hb
    have hq2 := hq.out
    go_wp2_with fail
    go_ret
    exact ⟨by simp, hbel⟩
end Go.Proofs.Ytdocbmgledebaaa
