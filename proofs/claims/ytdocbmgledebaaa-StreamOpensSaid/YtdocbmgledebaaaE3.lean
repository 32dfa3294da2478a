/-
  The tag, walked.
-/
import Derived.Test.YtdocbmgledebaaaE2
import Derived.Test.YtdocbmgledebaaaEff
namespace Go.Proofs.Ytdocbmgledebaaa
set_option linter.unusedVariables false
set_option linter.unusedSimpArgs false
open Go.RowKit Go.Proofs.YtdocbmgledebaaaW.PrintWords

def tagOf (l b t : List Int) : List Int := tagL ((blockL l).take 32) (partsL b t)
theorem tagOf_len (l b t : List Int) : (tagOf l b t).length = 16 := tagL_len _ _
theorem partsL_len (b t : List Int) : (partsL b t).length ≤ b.length + t.length + 48 := by
  simp only [partsL, padL, List.length_append, List.length_replicate, leN_len, padN]
  omega
theorem own_slice {w : World} {base n : Nat} {e : TypeId} {k : IntKind} {v : Value} {xs : List Int} (h : w.ownsRow base e 1 v n (nums k xs)) : ∃ A c, v = .slice A n c ∧ n ≤ c ∧ ReadsInt w k A n xs := by
  obtain ⟨A, c, rfl, hr⟩ := own_reads h
  refine ⟨A, c, rfl, ?_, hr⟩
  rcases h.2 with ⟨h', hn⟩ | ⟨g', cap', cur, h', _, _, hc, _⟩
  · cases h'; simp
  · cases h'; exact hc

set_option maxRecDepth 100000 in
theorem tag_any (l : List Int) (A1 A2 : Option Addr) (n1 n2 c1 c2 : Nat) (b t : List Int) (w : World) (hl : l.length = 16) (hr : U32s l) (h1 : ReadsInt w .u8 A1 n1 b) (h2 : ReadsInt w .u8 A2 n2 t) (hb : Byt b) (ht : Byt t) (hn1 : n1 ≤ 200000) (hn2 : n2 ≤ 200000) :
    Calls Try.prog 31 #[.agg (l.map (Value.int .u32)).toArray, .slice A1 n1 c1, .slice A2 n2 c2] w fun e w' =>
      e = .returned (.agg ((tagOf l b t).map (Value.int .u8)).toArray) ∧ Below w.heap.size w w' := by
  have z43 : (Try.prog.info? 43).map (fun i => (i.zero, i.size)) = some (some (.agg ((List.replicate 64 (0 : Int)).map (Value.int .u8)).toArray), 64) := by kernel_rfl
  have z54 : (Try.prog.info? 54).map (fun i => (i.zero, i.size)) = some (some (.agg ((List.replicate 16 (0 : Int)).map (Value.int .u8)).toArray), 16) := by kernel_rfl
  replace z43 := Go.Lib.hid z43
  replace z54 := Go.Lib.hid z54
  have hL := Go.Lib.hid hl
  have hR := Go.Lib.hid hr
  replace h1 := Go.Lib.hid h1
  replace h2 := Go.Lib.hid h2
  replace hb := Go.Lib.hid hb
  replace ht := Go.Lib.hid ht
  clear hl hr
  go_enter Try.func31, Try.ntmps31
  go_wp2_with (first
    | (refine ev_boxg rfl rfl rfl ?_; intro gw w1 k1 b1; change Blk w1 gw .u32 45 l at b1)
    | (refine ev_allocg (ty := 54) rfl rfl z54.out ?_; intro go w2 k2 b2; change Blk w2 go .u8 54 (List.replicate 16 0) at b2; replace b1 := k2.blk b1)
    | (refine ev_loadarr rfl rfl rfl b1 Try.underlying45 rfl (by rw [hL.out]; kernel_rfl) ?_)
    | (go_at_call 21; refine (block_any _ _ hL.out hR.out).mono ?_; rintro e w3 ⟨rfl, hb3⟩)
    | (refine ev_allocg (ty := 43) rfl rfl z43.out ?_; intro gb w4 k4 b4; change Blk w4 gb .u8 43 _ at b4)
    | (refine ev_storearrg rfl rfl rfl b4 rfl (by rw [blockL_len]; simp) (by rw [blockL_len]; kernel_rfl) ?_; intro w5 k5 b5))
  have s1 := k1.size
  have s2 := k2.size
  have s3 := hb3.size
  have s4 := k4.size
  have s5 := k5.size
  have e1 := k1.le
  have e2 := k2.le
  have e4 := k4.le
  have hbw2 : Below w.heap.size w w2 := k2.bel (k1.bel (Below.refl _ _) (Nat.le_refl _)) (by omega)
  have hb2' : Below w2.heap.size w2 w5 := k5.bel (k4.bel hb3 (by omega)) (by omega) (by omega)
  have hbw5 : Below w.heap.size w w5 := below_then hbw2 hbw2.size hb2'
  have b2' := b2.below hb2'
  have hgo : go < w5.heap.size := by omega
  have hr1 := Go.Lib.hid (h1.out.below hbw5)
  have hr2 := Go.Lib.hid (h2.out.below hbw5)
  have hrk := Go.Lib.hid (rd_len (b5.reads (by rw [blockL_len]; omega)) (blockL_len l))
  have hwgo : w.heap.size ≤ go := by omega
  clear k1 k2 k4 k5 b1 b2 hb3 b4 hb2' hbw2 s1 s2 s3 s4 s5 e1 e2 e4
  replace hbw5 := Go.Lib.hid hbw5
  replace b2' := Go.Lib.hid b2'
  clear z43 z54
  have hle := hbw5.out.size
  refine region_eff (T := World) id [false, false, false, true, true, true] (by kernel_rfl) (by kernel_rfl) ⟨_, rfl⟩ ?_
  simp only [masked_cons, masked_out, masked_nil]
  repeat (refine wlk_pure fun K hK => ?_; go_simp; refine hK _ ?_; clear hK K)
  refine wlk_eff fun K hK => ?_
  go_simp
  refine (parts_any A1 A2 n1 n2 c1 c2 b t _ (hr1.out.below (Below.refl _ _).drew) (hr2.out.below (Below.refl _ _).drew) (by omega) (by omega)).mono ?_
  rintro e w6 ⟨v, rfl, ho, hb6⟩
  refine hK _ _ ⟨_, rfl⟩ ?_
  clear hK K
  obtain ⟨A6, c6, rfl, hc6, hr6⟩ := own_slice ho
  replace hb6 : Below w5.heap.size w5 w6 := (Below.refl _ _).drew.trans hb6
  have hpl := partsL_len b t
  have hbl := hr1.out.1
  have htl := hr2.out.1
  have hrk6 := Go.Lib.hid (by
    have h7 : ReadsInt w5 .u8 (some ⟨gb, 0, none⟩) 32 ((blockL l).take 32) := by
      have := hrk.out
      refine ⟨by simp [blockL_len], by omega, fun _ => ⟨_, rfl, fun j hj => ?_⟩⟩
      obtain ⟨A', hA', hcc⟩ := this.2.2 (by omega)
      obtain rfl := Option.some.inj hA'
      rw [hcc j (by omega)]
      simp [List.getD_eq_getElem?_getD, List.getElem?_take, hj]
    exact h7.below hb6)
  replace hr6 := Go.Lib.hid hr6
  refine wlk_eff fun K hK => ?_
  go_simp
  refine (poly_any _ _ _ _ _ _ _ _ hrk6.out hr6.out ((blockL_byt l).take 32) (partsL_byt hb.out ht.out) (by omega) hc6 (by omega)).mono ?_
  rintro e w7 ⟨rfl, hb7⟩
  refine hK _ _ ⟨_, rfl⟩ ?_
  clear hK K
  have hb67 := below_then hb6 hb6.size hb7
  have b7 := b2'.out.below hb67
  refine wlk_list ?_ rfl
  refine ev_storearrg rfl rfl rfl b7 rfl (by rw [tagL_len]; simp) (by rw [tagL_len]; kernel_rfl) ?_
  intro w8 k8 b8
  refine ⟨rfl, ⟨_, rfl⟩, ?_⟩
  refine wlk_nil ?_
  have h67 := hb67.size
  go_wp2_with fail
  refine bodyPost_ret (results_blk rfl _ _ rfl b8 Try.underlying54 rfl (by rw [tagL_len]; kernel_rfl)) rfl ⟨rfl, ?_⟩
  exact k8.bel (below_then hbw5.out hle hb67) (by omega) (by omega)
end Go.Proofs.Ytdocbmgledebaaa
