/-
  The stream turns a text: the program's.
-/
import Derived.Test.YtdocbmgledebaaaB
import Derived.Test.YtdocbmgledebaaaLib3
import Derived.Outline
namespace Go.Proofs.Ytdocbmgledebaaa
set_option linter.unusedVariables false
set_option linter.unusedSimpArgs false
open Go.RowKit Go.Proofs.YtdocbmgledebaaaW.PrintWords

theorem U32s_init' {key nonce : List Int} {ctr : Int} (hk : Byt key) (hn : Byt nonce) (hc : 0 ≤ ctr) (hc1 : ctr ≤ 4294967295) : U32s (initL key ctr nonce) := by
  have hw : ∀ (l : List Int) (i : Nat), Byt l → 0 ≤ w4 l i ∧ w4 l i ≤ 4294967295 := fun l i h => le4_range _ _ _ _ (h.el _) (h.el _) (h.el _) (h.el _)
  intro x hx
  simp only [initL, List.mem_append, List.mem_map, List.mem_singleton] at hx
  rcases hx with ((⟨i, _, rfl⟩ | ⟨i, _, rfl⟩) | rfl) | ⟨i, _, rfl⟩
  · exact hw _ _ (Byt.of _)
  · exact hw _ _ hk
  · exact ⟨hc, hc1⟩
  · exact hw _ _ hn
/-- the words of a later block -/
def bump (l : List Int) (n : Nat) : List Int := l.set 12 ((el l 12 + n) % 4294967296)
theorem bump_len (l : List Int) (n : Nat) : (bump l n).length = l.length := by simp [bump]
theorem bump_u32 {l : List Int} (h : U32s l) (n : Nat) : U32s (bump l n) := h.set _ _ ⟨by omega, by omega⟩
theorem bump_zero {l : List Int} (h : U32s l) : bump l 0 = l := by
  unfold bump
  have := h.el 12
  rw [show (el l 12 + ((0 : Nat) : Int)) % 4294967296 = el l 12 from by omega]
  apply ext_el (by simp)
  intro i hi
  rw [el_set]
  split
  · rename_i h; rw [h.1]
  · rfl
theorem bump_succ {l : List Int} (hl : l.length = 16) (n : Nat) : (bump l n).set 12 ((el (bump l n) 12 + 1) % 4294967296) = bump l (n + 1) := by
  have e : el (bump l n) 12 = (el l 12 + n) % 4294967296 := by unfold bump; rw [el_set, if_pos ⟨rfl, by omega⟩]
  rw [e]
  unfold bump
  rw [List.set_set]
  congr 1
  omega
/-- the byte at place j of a text that is turned -/
def turnB (l t : List Int) (j : Nat) : Int := bits .xor .u8 (el t j) (el (blockL (bump l (j / 64))) (j % 64))
def turnL (l t : List Int) : List Int := (List.range t.length).map (turnB l t)
theorem turnL_len (l t : List Int) : (turnL l t).length = t.length := by simp [turnL]
theorem turnL_el (l t : List Int) (j : Nat) (h : j < t.length) : el (turnL l t) j = turnB l t j := by simp [turnL, el, List.getD_eq_getElem?_getD, h]
theorem turnL_byt (l t : List Int) : Byt (turnL l t) := fun x hx => by
  simp only [turnL, List.mem_map] at hx
  obtain ⟨j, _, rfl⟩ := hx
  exact bits_u8 _ _ _

/-- the words, and what is written out -/
structure Tn (B gw go n : Nat) (l o : List Int) (q : Nat) (w wr : World) : Prop where
  wd : Blk wr gw .u32 45 (bump l q)
  ow : wr.ownsRow B 5 1 (.slice (some ⟨go, 0, none⟩) n n) n (nums .u8 o)
  ne : gw ≠ go
  hw : B ≤ gw
  ho : B ≤ go
  bel : Below B w wr
  lt : B ≤ wr.heap.size
theorem Tn.below {B gw go n : Nat} {l o : List Int} {q : Nat} {w wr w2 : World} (h : Tn B gw go n l o q w wr) (hb : Below wr.heap.size wr w2) : Tn B gw go n l o q w w2 :=
  ⟨h.wd.below hb, pw_own_below h.ow hb, h.ne, h.hw, h.ho, h.bel.trans (hb.mono h.lt), Nat.le_trans h.lt hb.size⟩
theorem Tn.set {B gw go n : Nat} {l o : List Int} {q : Nat} {w wr : World} (h : Tn B gw go n l o q w wr) (i : Nat) (v : Int) : Tn B gw go n l (o.set i v) q w (wr.setCell ⟨go, i, none⟩ (.int .u8 v)) :=
  ⟨h.wd.far h.ne _, own_set h.ow i v, h.ne, h.hw, h.ho, h.bel.setCell h.ho _, by simp [World.setCell]; exact h.lt⟩
theorem Tn.next {B gw go n : Nat} {l o : List Int} {q : Nat} {w wr : World} (h : Tn B gw go n l o q w wr) (hl : l.length = 16) : Tn B gw go n l o (q + 1) w (wr.setCell ⟨gw, 12, none⟩ (.int .u32 ((el (bump l q) 12 + 1) % 4294967296))) := by
  refine ⟨?_, own_setCell h.ow (by simp [Value.ownBlock]; exact h.ne) _, h.ne, h.hw, h.ho, h.bel.setCell h.hw _, by simp [World.setCell]; exact h.lt⟩
  have := h.wd.set 12 ((el (bump l q) 12 + 1) % 4294967296)
  rwa [bump_succ hl] at this

set_option maxRecDepth 100000 in
set_option maxHeartbeats 1000000 in
theorem turn_any (l : List Int) (A : Option Addr) (n c : Nat) (t : List Int) (w : World) (hl : l.length = 16) (hr : U32s l) (ht : ReadsInt w .u8 A n t) (hn : n ≤ 1000000) :
    Calls Try.prog 22 #[.agg (l.map (Value.int .u32)).toArray, .slice A n c] w fun e w' =>
      ∃ v, e = .returned v ∧ w'.ownsRow w.heap.size 5 1 v n (nums .u8 (turnL l t)) ∧ Below w.heap.size w w' := by
  have z43 : (Try.prog.info? 43).map (fun i => (i.zero, i.size)) = some (some (.agg ((List.replicate 64 (0 : Int)).map (Value.int .u8)).toArray), 64) := by kernel_rfl
  replace z43 := Go.Lib.hid z43
  have hL := Go.Lib.hid hl
  have hR := Go.Lib.hid hr
  have hmk := print_make (P := Try.prog) 23 5 .u8 1 Try.underlying23 info_u8 (by omega) n (by omega)
  clear hl hr
  go_enter Try.func22, Try.ntmps22
  go_wp2_with (first
    | (refine ev_boxg rfl rfl rfl ?_; intro gw w1 h1 b1; change Blk w1 gw .u32 45 l at b1))
  have e1 := h1.le
  have e2 := h1.grown.size
  have hT : Hid (∃ o : List Int, o.length = n ∧ (∀ j, j < 0 → j < n → el o j = turnB l t j) ∧ Tn w.heap.size gw w1.heap.size n l o 0 w (w1.alloc (.cells (madeCells #[.int .u8 0] n) 5))) :=
    Go.Lib.hid ⟨List.replicate n 0, by simp, fun j hj => by omega, by rw [bump_zero hR.out]; exact b1.alloc _, own_made w1 _ _ _ _ (by omega) (by omega), by have := b1.lt; omega, e1, by omega, h1.below.alloc (by omega) _, by simp; omega⟩
  generalize w1.alloc _ = w2 at hT ⊢
  generalize w1.heap.size = go at hT ⊢
  have hrd := Go.Lib.hid ht
  clear e1 e2 h1 b1 hmk ht
  go_loopw [6] (fun x wr => ∃ q i : Nat, Hid (i = 64 * q) ∧ i ≤ n + 63 ∧ x = .int .i64 i ∧ Hid (∃ o : List Int, o.length = n ∧ (∀ j, j < i → j < n → el o j = turnB l t j) ∧ Tn w.heap.size gw go n l o q w wr)) (fun x _ => n - (intOf x).toNat)
  case atStart => exact ⟨0, 0, Go.Lib.hid rfl, by omega, rfl, hT⟩
  case round =>
    obtain ⟨q, i, hq, hi, rfl, hT⟩ := hrel
    by_cases hlt : i < n
    · obtain ⟨gt, ot, hA, hct⟩ := rd_open hrd.out (by omega)
      subst hA
      replace hct := Go.Lib.hid hct
      obtain ⟨o, ho1, ho2, hTn⟩ := hT.out
      have hwd := hTn.wd
      have hblen : (bump l q).length = 16 := by rw [bump_len, hL.out]
      have hbu : U32s (bump l q) := bump_u32 hR.out q
      obtain ⟨L, eL⟩ : ∃ L, L = bump l q := ⟨_, rfl⟩
      rw [← eL] at hwd hblen hbu
      replace hblen := Go.Lib.hid hblen
      replace hbu := Go.Lib.hid hbu
      replace eL := Go.Lib.hid eL
      obtain ⟨o, rfl⟩ : ∃ o', o' = o := ⟨_, rfl⟩
      replace ho1 := Go.Lib.hid ho1
      replace ho2 := Go.Lib.hid ho2
      clear hT
      go_wp2_with (first
        | (refine ev_loadarr rfl rfl rfl hwd Try.underlying45 rfl (by rw [hblen.out]; kernel_rfl) ?_)
        | (go_at_call 21; refine (block_any _ _ hblen.out hbu.out).mono ?_; rintro e w3 ⟨rfl, hb3⟩)
        | (refine ev_allocg (ty := 43) rfl rfl z43.out ?_; intro gb w4 h4 b4; change Blk w4 gb .u8 43 _ at b4)
        | (refine ev_storearrg rfl rfl rfl b4 rfl (by rw [blockL_len]; simp) (by rw [blockL_len]; kernel_rfl) ?_; intro w5 h5 b5))
      have k1 := hTn.lt
      have k2 := hb3.size
      have k3 := h4.le
      have k4 := h4.size
      have hb5 : Below wr.heap.size wr w5 := h5.bel (h4.bel hb3 k2) (by omega) (by omega)
      have hT5 := hTn.below hb5
      have hgo : gb ≠ go := by
        have := (hTn.ow).lt go rfl
        omega
      have hgw : gb ≠ gw := by
        have := hTn.wd.lt
        omega
      have hgB : w.heap.size ≤ gb := by omega
      have hO : Hid (∃ o : List Int, o.length = n ∧ (∀ j, j < i → j < n → el o j = turnB l t j) ∧ Tn w.heap.size gw go n l o q w w5 ∧ Blk w5 gb .u8 43 (blockL L)) := Go.Lib.hid ⟨o, ho1.out, ho2.out, hT5, b5⟩
      clear hwd hb3 h4 b4 h5 b5 k1 k2 k3 k4 hb5 hT5 hTn ho1 ho2 o
      obtain ⟨wo, rfl⟩ : ∃ wo : World, wo = wr := ⟨_, rfl⟩
      go_loopw [8] (fun x wr => ∃ k : Nat, i ≤ k ∧ k ≤ i + 64 ∧ k ≤ n ∧ x = .int .i64 k ∧ Hid (∃ o : List Int, o.length = n ∧ (∀ j, j < k → j < n → el o j = turnB l t j) ∧ Tn w.heap.size gw go n l o q w wr ∧ Blk wr gb .u8 43 (blockL L))) (fun x _ => n - (intOf x).toNat)
      case atStart => exact ⟨i, by omega, by omega, by omega, rfl, hO⟩
      case round =>
        obtain ⟨k, hik, hk64, hkn, rfl, hO⟩ := hrel
        by_cases hin : k < n ∧ k < i + 64
        · obtain ⟨hk1, hk2⟩ := hin
          obtain ⟨o, ho1, ho2, hTn, hb⟩ := hO.out
          obtain ⟨r, hr⟩ : ∃ r, k = i + r := ⟨k - i, by omega⟩
          have hr64 : r < 64 := by omega
          have hval : bits .xor .u8 (el t k) (el (blockL L) r) = turnB l t k := by
            have h1 := hq.out
            rw [turnB, eL.out, show k / 64 = q from by omega, show k % 64 = r from by omega]
          replace hval := Go.Lib.hid hval
          replace hr := Go.Lib.hid hr
          have ct : wr.cell? ⟨gt, ot + k, none⟩ = some (.int .u8 (el t k)) := by
            have h1 := hct.out k hk1
            rw [hTn.bel.cell (World.block_lt_of_cell? w _ h1)]
            exact h1
          have cb := hb.cell r (by rw [blockL_len]; exact hr64)
          have co := own_cell hTn.ow k hk1
          have fo := own_frozen hTn.ow k
          have hsub : IntKind.i64.wrap ((k : Int) - (i : Int)) = (r : Int) := by
            have h1 := hr.out
            rw [IntKind.wrap_i64]; omega
          have ir : (r : Int) < 64 := by omega
          have ikn : (k : Int) < (n : Int) := by omega
          replace ho1 := Go.Lib.hid ho1
          replace ho2 := Go.Lib.hid ho2
          replace hTn := Go.Lib.hid hTn
          replace hb := Go.Lib.hid hb
          rcases Nat.lt_or_ge n (i + 64) with hm | hm
          all_goals
            go_wp2_with fail
            refine region_tail (C := fun w' => ∃ n, w' = wr.drewN n) 13 (by kernel_rfl) (by kernel_rfl) ⟨1, rfl⟩ ?_
            simp only [List.take_succ_cons, List.take_zero, List.drop_succ_cons, List.drop_zero]
            repeat quiet_step (fail)
            refine wpQuiet_nil ?_
            rintro _ ⟨nq, rfl⟩
            go_wp2_with fail
            go_roundw
            case rel =>
              refine ⟨k + 1, by omega, by omega, by omega, by go_num, Go.Lib.hid ?_⟩
              have hT2 := hTn.out.below (pw_below_drewN (Below.refl _ wr) nq)
              rw [hval.out]
              refine ⟨_, set_len ho1.out _ _, fun j hj hjn => ?_, hT2.set k _, (hb.out.drewN nq).far (by simpa using hgo) _⟩
              rw [el_set]
              by_cases e : k = j
              · rw [if_pos ⟨e, by rw [ho1.out]; omega⟩, e]
              · rw [if_neg (fun h => e h.1)]; exact ho2.out j (by omega) hjn
            case measure => simp [intOf]; omega
        · obtain ⟨o, ho1, ho2, hTn, hb⟩ := hO.out
          have c12 := hTn.wd.cell 12 (by rw [bump_len, hL.out]; omega)
          have f12 := hTn.wd.frozen 12
          replace ho1 := Go.Lib.hid ho1
          replace ho2 := Go.Lib.hid ho2
          replace hTn := Go.Lib.hid hTn
          replace hb := Go.Lib.hid hb
          rcases Nat.lt_or_ge n (i + 64) with hm | hm
          all_goals
            go_wp2_with fail
            go_roundw
            case rel =>
              refine ⟨q + 1, i + 64, Go.Lib.hid (by have := hq.out; omega), by omega, by go_num, Go.Lib.hid ⟨o, ho1.out, fun j hj hjn => ho2.out j (by omega) hjn, hTn.out.next hL.out⟩⟩
            case measure => simp [intOf]; omega
    · obtain ⟨o, ho1, ho2, hTn⟩ := hT.out
      have e : o = turnL l t := ext_el (by rw [ho1, turnL_len]; exact hrd.out.1.symm) (fun j hj => by
        have h1 := hrd.out.1
        rw [ho2 j (by omega) (by omega), turnL_el _ _ _ (by omega)])
      rw [e] at hTn
      replace hTn := Go.Lib.hid hTn
      clear hT ho1 ho2 e
      go_wp2_with fail
      go_ret
      exact ⟨_, rfl, hTn.out.ow, hTn.out.bel⟩
end Go.Proofs.Ytdocbmgledebaaa
