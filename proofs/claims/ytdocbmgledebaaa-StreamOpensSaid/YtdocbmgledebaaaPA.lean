/-
  The reference's numbers in digits of 2^8: less, walked.
-/
import Derived.Test.YtdocbmgledebaaaP9
namespace Go.Proofs.Ytdocbmgledebaaa
set_option linter.unusedVariables false
set_option linter.unusedSimpArgs false
open Go.RowKit Go.Proofs.YtdocbmgledebaaaW.PrintWords

theorem own_reads_len {w : World} {base n : Nat} {e : TypeId} {k : IntKind} {v : Value} {xs : List Int} (h : w.ownsRow base e 1 v n (nums k xs)) : ∃ A c, v = .slice A n c ∧ n ≤ c ∧ ReadsInt w k A n xs := by
  obtain ⟨A, c, rfl, hr⟩ := own_reads h
  exact ⟨A, c, rfl, own_cap h, hr⟩
theorem redV_le (V : Int) (h : 0 ≤ V) : redV V ≤ V := by unfold redV; omega

set_option maxRecDepth 100000 in
set_option maxHeartbeats 2000000 in
theorem less_any (A : Option Addr) (n c : Nat) (xs : List Int) (w : World) (h : ReadsInt w .u8 A n xs) (hb : Byt xs) (hnc : n ≤ c) (hn : n ≤ 100) :
    Calls Try.prog 28 #[.slice A n c] w fun e w' =>
      ∃ A' n' c' zs, e = .returned (.slice A' n' c') ∧ ReadsInt w' .u8 A' n' zs ∧ Byt zs ∧ n' ≤ 17 ∧ n' ≤ c' ∧ lev zs < 1361129467683753853853498429727072845824 ∧ lev zs % 1361129467683753853853498429727072845819 = lev xs % 1361129467683753853853498429727072845819 ∧ Below w.heap.size w w' := by
  have hO0 : Hid (ReadsInt w .u8 A n xs ∧ lev xs % 1361129467683753853853498429727072845819 = lev xs % 1361129467683753853853498429727072845819) := Go.Lib.hid ⟨h, rfl⟩
  obtain ⟨V, eV⟩ : ∃ V, V = lev xs := ⟨_, rfl⟩
  have hO : Hid (∃ zs : List Int, ReadsInt w .u8 A n zs ∧ Byt zs ∧ lev zs % 1361129467683753853853498429727072845819 = V % 1361129467683753853853498429727072845819 ∧ Below w.heap.size w w) := Go.Lib.hid ⟨xs, h, hb, by rw [eV], Below.refl _ _⟩
  replace eV := Go.Lib.hid eV
  clear h hb hO0
  go_enter Try.func28, Try.ntmps28
  go_wp2_with fail
  go_loopw [0] (fun x wr => ∃ (A' : Option Addr) (n' c' : Nat), x = .slice A' n' c' ∧ n' ≤ c' ∧ n' ≤ 100 ∧ Hid (∃ zs : List Int, ReadsInt wr .u8 A' n' zs ∧ Byt zs ∧ lev zs % 1361129467683753853853498429727072845819 = V % 1361129467683753853853498429727072845819 ∧ Below w.heap.size w wr)) (fun x wr => lessM (numsAt wr x))
  case atStart => exact ⟨A, n, c, rfl, hnc, hn, hO⟩
  case round =>
    obtain ⟨A', n', c', rfl, hnc', hn', hO⟩ := hrel
    obtain ⟨zs, hR, hzb, hv, hbe⟩ := hO.out
    have hm := numsAt_reads (c := c') hR
    replace hm := Go.Lib.hid hm
    have hlen := Go.Lib.hid hR.1
    rcases (by omega : n' < 17 ∨ (n' = 17 ∧ el zs 16 ≤ 3) ∨ (n' = 17 ∧ 3 < el zs 16) ∨ 17 < n') with hlt | ⟨hlt, h3⟩ | ⟨hlt, h3'⟩ | hlt
    · have i1 : (n' : Int) ≤ 17 := by omega
      have i2 : ((n' : Int) == 17) = false := by simp; omega
      replace hv := Go.Lib.hid hv
      clear hO
      go_wp2_with fail
      go_ret
      refine ⟨A', n', c', zs, rfl, hR, hzb, by omega, hnc', ?_, by rw [hv.out, eV.out], hbe⟩
      have r := lev_range zs hzb
      have h1 := Nat.pow_le_pow_right (show 0 < 256 by omega) (show zs.length ≤ 16 by rw [hlen.out]; omega)
      have e : (256 : Int) ^ zs.length = ((256 ^ zs.length : Nat) : Int) := by rw [Int.natCast_pow]; rfl
      rw [e] at r
      omega
    · have i1 : (n' : Int) ≤ 17 := by omega
      have i2 : ((n' : Int) == 17) = true := by simp; omega
      obtain ⟨ga, oa, rfl, hcells⟩ := rd_open hR (by omega)
      have ca16 := hcells 16 (by omega)
      have i16 : (16 : Int) < (n' : Int) := by omega
      replace hv := Go.Lib.hid hv
      clear hO hcells
      go_wp2_with fail
      go_ret
      refine ⟨_, n', c', zs, rfl, hR, hzb, by omega, hnc', ?_, by rw [hv.out, eV.out], hbe⟩
      have e1 := (split130 zs hzb (by rw [hlen.out]; omega)).2
      have e2 : lev (shr2 (zs.drop 16)) = 0 := by
        rw [lev_shr2]
        have : zs.drop 16 = [el zs 16] := by
          refine ext_el (by simp [hlen.out]; omega) (fun i hi => ?_)
          have : i = 0 := by simp [hlen.out] at hi; omega
          subst this
          rw [el_drop]; rfl
        rw [this]
        have := hzb.el 16
        simp only [lev]
        omega
      omega
    case inr.inr.inl =>
      have i1 : (n' : Int) ≤ 17 := by omega
      have i2 : ((n' : Int) == 17) = true := by simp; omega
      have i16 : (16 : Int) < (n' : Int) := by omega
      have hcond : 17 < zs.length ∨ (zs.length = 17 ∧ 3 < el zs 16) := .inr ⟨by rw [hlen.out]; exact hlt, h3'⟩
      obtain ⟨ga, oa, rfl, hcells⟩ := rd_open hR (by omega)
      have ca16 := hcells 16 (by omega)
      have e16 := and3_u8 (el zs 16) (hzb.el 16)
      obtain ⟨wo, rfl⟩ : ∃ wo, wo = wr := ⟨_, rfl⟩
      obtain ⟨Bk, eB⟩ : ∃ Bk, Bk = wo.heap.size := ⟨_, rfl⟩
      have hBw : w.heap.size ≤ Bk := by rw [eB]; exact hbe.size
      have HO0 := own_lit wo Bk 5 .u8 [] (Nat.le_of_eq eB) (by simp)
      have hb0 : Below Bk wo (wo.alloc (.cells (nums .u8 []).toArray 5)) := (Below.refl _ _).alloc (Nat.le_of_eq eB) _
      have hbase : Bk ≤ (wo.alloc (.cells (nums .u8 []).toArray 5)).heap.size := by simp; omega
      obtain ⟨z17, ez17⟩ : ∃ z, z = zs.take 17 := ⟨_, rfl⟩
      have lz17 : Hid (z17.length = 17) := Go.Lib.hid (by rw [ez17]; simp [hlen.out]; omega)
      have bz17 : Byt z17 := by rw [ez17]; exact hzb.take 17
      have el17 : el z17 16 = el zs 16 := by rw [ez17]; exact el_take _ _ _ (by omega)
      have HR := (hR.take_ 17 (by omega)).below (below_alloc (Below.refl _ wo) (.cells (nums .u8 []).toArray 5))
      rw [← ez17] at HR
      replace ez17 := Go.Lib.hid ez17
      have EB := Go.Lib.hid eB
      replace HO0 := Go.Lib.hid HO0
      replace HR := Go.Lib.hid HR
      replace hR := Go.Lib.hid hR
      replace hv := Go.Lib.hid hv
      replace hbe := Go.Lib.hid hbe
      have h17 : (17 : Int) ≤ (c' : Int) := by omega
      clear hO eB
      go_wp2_with (at_builtin; go_must (refine print_append_row (w0 := wo) (W := wo.alloc (.cells (nums .u8 []).toArray 5)) Bk rfl (.tmp 22) (.tmp 24) 23 5 .u8 1 rfl Try.underlying23 info_b (by omega) (.slice (some ⟨wo.heap.size, 0, none⟩) 0 0) [] z17 (some ⟨ga, oa, none⟩) 17 c' rfl rfl HO0.out HR.out hb0 hbase (by simp) ?_; intro v2 w4 ho4 hb4 hg4 hat4; clear hbase hb0 HO0 HR; clear ca16; simp only [List.nil_append] at ho4; rw [lz17.out] at ho4; obtain ⟨gl, capl, hvl, hgl1, hgl2⟩ := ho4.form (by omega); subst hvl; have cl := own_cell ho4 16 (by omega); have fl := own_frozen ho4 16; rw [el17] at cl; replace ho4 := Go.Lib.hid ho4; clear hg4 hat4))
      have ho5 := own_set ho4.out 16 (el zs 16 % 4)
      have hb5 := hb4.setCell (p := ⟨gl, 16, none⟩) hgl1 (.int .u8 (el zs 16 % 4))
      generalize w4.setCell ⟨gl, 16, none⟩ (.int .u8 (el zs 16 % 4)) = w5 at ho5 hb5 ⊢
      obtain ⟨D, eD⟩ : ∃ D, D = shr2 (zs.drop 16) := ⟨_, rfl⟩
      have lD : Hid (D.length = n' - 16) := Go.Lib.hid (by rw [eD, shr2_len]; simp [hlen.out])
      have bD : Byt D := by rw [eD]; exact shr2_byt _ (hzb.drop _)
      have hDi : Hid (∀ i, 16 ≤ i → i < n' → el D (i - 16) = el zs i / 4 + 64 * (el zs (i + 1) % 4)) := Go.Lib.hid (fun i h1 h2 => by
        rw [eD, el_shr2 _ _ (by simp [hlen.out]; omega), el_drop, el_drop, show 16 + (i - 16) = i by omega, show 16 + (i - 16 + 1) = i + 1 by omega])
      have hgl3 : gl < w5.heap.size := by have := hb5.size; have := own_frozen ho5 0; rcases ho5.form (by omega) with ⟨g, cp, e, _, h⟩; injection e with e; injection e with e; injection e with e; omega
      replace eD := Go.Lib.hid eD
      have hL : Hid (w5.ownsRow Bk 5 1 (.slice none 0 0) (D.take (16 - 16)).length (nums .u8 (D.take (16 - 16))) ∧ w5.ownsRow Bk 5 1 (.slice (some ⟨gl, 0, none⟩) 17 capl) 17 (nums .u8 (z17.set 16 (el zs 16 % 4))) ∧ (Value.slice none 0 0).ownBlock ≠ some gl ∧ Below Bk wo w5) :=
        Go.Lib.hid ⟨own_nil _ _ _ _, ho5, by simp [Value.ownBlock], hb5⟩
      clear ho4 ho5 cl fl hb4 e16 el17
      replace hcells := Go.Lib.hid hcells
      replace hgl3 := Go.Lib.hid hgl3
      go_loopw [5, 4] (fun x y w6 => ∃ (i : Nat) (v : Value), x = .int .i64 i ∧ v = y ∧ 16 ≤ i ∧ i ≤ n' ∧ Hid (w6.ownsRow Bk 5 1 v (D.take (i - 16)).length (nums .u8 (D.take (i - 16))) ∧ w6.ownsRow Bk 5 1 (.slice (some ⟨gl, 0, none⟩) 17 capl) 17 (nums .u8 (z17.set 16 (el zs 16 % 4))) ∧ v.ownBlock ≠ some gl ∧ Below Bk wo w6)) (fun x _ _ => n' - (intOf x).toNat)
      case atStart => exact ⟨16, _, rfl, rfl, by omega, by omega, hL⟩
      case round =>
        obtain ⟨i, v, rfl, rfl, hi1, hi2, hL⟩ := hrel
        obtain ⟨hov, hol, hnb, hb6⟩ := hL.out
        by_cases hlti : i < n'
        · have ilt : (i : Int) < (n' : Int) := by omega
          have q1 := pw_cell_below (EB.out ▸ hb6) (hcells.out i hlti)
          have x0 := hzb.el i
          have x1 := hzb.el (i + 1)
          have hsd := hDi.out i hi1 hlti
          have hll : ((D.take (i - 16)).length + 1) * 1 ≤ 140737488355328 := by simp [lD.out]; omega
          have hB6 : Bk ≤ wr.heap.size := by have := hb6.size; have := EB.out; omega
          have fin : ∀ (y : Int) (v1 : Value) (w7 : World), y = el D (i - 16) → w7.ownsRow Bk 5 1 v1 ((D.take (i - 16)) ++ [y]).length (nums .u8 ((D.take (i - 16)) ++ [y])) → Below Bk wo w7 → wr.grownBy w7 v.ownBlock → (v1.ownBlock = v.ownBlock ∨ ∃ b, v1.ownBlock = some b ∧ wr.heap.size ≤ b) →
              ∃ (i' : Nat) (v' : Value), Value.int .i64 ((i : Int) + 1) = .int .i64 i' ∧ v' = v1 ∧ 16 ≤ i' ∧ i' ≤ n' ∧ Hid (w7.ownsRow Bk 5 1 v' (D.take (i' - 16)).length (nums .u8 (D.take (i' - 16))) ∧ w7.ownsRow Bk 5 1 (.slice (some ⟨gl, 0, none⟩) 17 capl) 17 (nums .u8 (z17.set 16 (el zs 16 % 4))) ∧ v'.ownBlock ≠ some gl ∧ Below Bk wo w7) := fun y v1 w7 hy ho hbb hgg hat => by
            refine ⟨i + 1, v1, by go_num, rfl, by omega, by omega, Go.Lib.hid ⟨?_, own_other hol hgg (.inr (by simp [Value.ownBlock]; exact fun h => hnb h.symm)), ?_, hbb⟩⟩
            · rw [show i + 1 - 16 = i - 16 + 1 by omega, take_snoc D (i - 16) (by rw [lD.out]; omega), ← hy]
              exact ho
            · rcases hat with h | ⟨b, h, hb⟩
              · rw [h]; exact hnb
              · rw [h]
                intro hh
                injection hh with hh
                have := hgl3.out
                have := hb6.size
                have : gl < wr.heap.size := by
                  rcases hol.form (by omega) with ⟨g, cp, e, _, h⟩
                  injection e with e; injection e with e; injection e with e
                  omega
                omega
          replace hov := Go.Lib.hid hov
          replace hol := Go.Lib.hid hol
          replace hnb := Go.Lib.hid hnb
          replace fin := Go.Lib.hid fin
          replace hsd := Go.Lib.hid hsd
          clear hL
          by_cases hi3 : i + 1 < n'
          · exfalso; omega
          · have ilt3 : (n' : Int) ≤ (i : Int) + 1 := by omega
            have hz : el zs (i + 1) = 0 := el_past _ _ (by rw [hlen.out]; omega)
            replace hz := Go.Lib.hid hz
            go_wp2_with (at_builtin; refine print_append_num (w0 := wo) (W := wr) Bk rfl (.tmp 58) (.tmp 61) 23 5 .u8 1 rfl Try.underlying23 info_b (by omega) _ (D.take (i - 16)) _ rfl rfl hov.out hb6 hB6 hll ?_; intro v1 w7 ho7 hb7 hg7 hat7)
            go_roundw
            case rel => exact fin.out _ v1 w7 (by rw [hsd.out, hz.out]; omega) ho7 hb7 hg7 hat7
            case measure => simp [intOf]; omega
        · obtain rfl : n' = i := by omega
          rw [List.take_of_length_le (Nat.le_of_eq lD.out)] at hov
          have lD1 : Hid (1 ≤ D.length) := Go.Lib.hid (by rw [lD.out]; omega)
          obtain ⟨gh, caph, rfl, hgh1, hgh2⟩ := hov.form lD1.out
          have hcap := own_cap hov
          have lDc : (D.length : Int) ≤ (caph : Int) := by omega
          have hDn : D.length ≤ 100 := by rw [lD.out]; omega
          have hlv : Hid (lev (D.take D.length) = lev D) := Go.Lib.hid (by rw [List.take_of_length_le (Nat.le_refl _)])
          replace hov := Go.Lib.hid hov
          replace hol := Go.Lib.hid hol
          clear hL
          go_wp2_with fail
          go_loopw [7] (fun x w7 => ∃ m : Nat, x = .int .i64 m ∧ m ≤ D.length ∧ Hid (lev (D.take m) = lev D) ∧ w7 = wr) (fun x _ => (intOf x).toNat)
          case atStart => exact ⟨_, rfl, Nat.le_refl _, hlv, rfl⟩
          case round =>
            obtain ⟨m, rfl, hm1, hlm, rfl⟩ := hrel
            by_cases hgo : ∃ k, m = k + 1 ∧ el D k = 0
            · obtain ⟨k, rfl, hz⟩ := hgo
              have ck := own_cell hov.out k (by omega)
              rw [hz] at ck
              have klt : (k : Int) < (D.length : Int) := by omega
              go_wp2_with fail
              go_roundw
              case rel =>
                refine ⟨k, by go_num, by omega, Go.Lib.hid ?_, trivial⟩
                have := hlm.out
                rw [lev_take, hz] at this
                omega
              case measure => simp [intOf]
            · have hrh := (own_reads' hov.out).take_ m (by omega)
              have hM : Hid (m ≤ 100) := Go.Lib.hid (by omega)
              have hM2 : Hid (m ≤ n' - 16) := Go.Lib.hid (by have := lD.out; omega)
              have cases0 : m = 0 ∨ ∃ k, m = k + 1 ∧ k < D.length ∧ el D k ≠ 0 := by
                rcases Nat.eq_zero_or_pos m with h | h
                · exact .inl h
                · exact .inr ⟨m - 1, by omega, by omega, fun hz => hgo ⟨m - 1, by omega, hz⟩⟩
              have h5 := own_lit wr Bk 5 .u8 [5] (by have := hb6.size; have := EB.out; omega) (by simp)
              have r5 : ReadsInt (wr.alloc (.cells #[.int .u8 5] 5)) .u8 (some ⟨wr.heap.size, 0, none⟩) 1 [5] := own_reads' h5
              have rh := hrh.below (below_alloc (Below.refl _ wr) (.cells #[.int .u8 5] 5))
              have hol5 := own_reads' (hol.out.alloc (.cells #[.int .u8 5] 5))
              have hb7 : Below Bk wo (wr.alloc (.cells #[.int .u8 5] 5)) := hb6.alloc (by have := hb6.size; have := EB.out; omega) _
              have bl : Byt (z17.set 16 (el zs 16 % 4)) := bz17.set _ _ (by omega)
              have hval := split130 zs hzb (by rw [hlen.out]; omega)
              rw [← ez17.out, ← eD.out] at hval
              replace hval := Go.Lib.hid hval
              replace r5 := Go.Lib.hid r5
              replace rh := Go.Lib.hid rh
              replace hol5 := Go.Lib.hid hol5
              replace hb7 := Go.Lib.hid hb7
              clear hrh h5 hgo
              rcases cases0 with h0 | ⟨k, h0, hkl, hkz⟩
              all_goals first
                | (have ck := own_cell hov.out k hkl
                   have klt : (k : Int) < (D.length : Int) := by omega
                   have hz2 : (el D k == 0) = false := by simp [hkz]
                   clear hkz
                   subst h0
                   go_wp2_with fail)
                | (subst h0
                   go_wp2_with fail)
              all_goals
                refine (times_any _ _ _ _ _ _ _ _ _ rh.out r5.out (bD.take _) (Byt.one (by omega)) (by have := hM.out; omega) (by omega)).mono ?_
                rintro e w8 ⟨gt, zt, rfl, bt, hgt, bzt, hlt2, llt, hb8⟩
                have rt := bt.reads (by rw [llt]; have := hM.out; omega)
                rw [llt] at rt
                have rl := hol5.out.below hb8
                have bb8 : Below Bk wo w8 := hb7.out.trans (hb8.mono (by have := hb6.size; have := EB.out; simp; omega))
                have hzlow := hval.out.1
                have hztime : lev zt = lev D * 5 := by rw [hlt2, hlm.out]; rfl
                replace hlt2 := Go.Lib.hid hlt2
                replace llt := Go.Lib.hid llt
                replace rt := Go.Lib.hid rt
                replace rl := Go.Lib.hid rl
                replace hztime := Go.Lib.hid hztime
                replace hzlow := Go.Lib.hid hzlow
                go_wp2_with fail
                refine (plus_any _ _ _ _ _ _ _ _ _ rl.out rt.out bl bzt (by omega) (by have := hM.out; omega)).mono ?_
                rintro e w9 ⟨v9, zp, rfl, ho9, bzp, hlp, hl1, hl2, hl3, hb9⟩
                have bb9 : Below Bk wo w9 := bb8.trans (hb9.mono (by have := bb8.size; have := EB.out; omega))
                obtain ⟨Ap, cp, rfl, hcp, rp⟩ := own_reads_len ho9
                have hzp : lev zp = redV (lev zs) := by
                  rw [hlp, hzlow.out, hztime.out, hval.out.2]
                  unfold redV
                  omega
                have hln : zp.length ≤ 100 := by have := hM2.out; omega
                have hO4 : Hid (lev (zp.take zp.length) = lev zp) := Go.Lib.hid (by rw [List.take_of_length_le (Nat.le_refl _)])
                replace hzp := Go.Lib.hid hzp
                replace rp := Go.Lib.hid rp
                replace bb9 := Go.Lib.hid bb9
                clear rh r5 hol5 hb7 rt rl hlp hl1 hl2 hl3 hb8 hb9 bb8 ho9 hztime hzlow hlt2 llt bt
                go_wp2_with fail
                go_loopw [0] (fun x w10 => ∃ m : Nat, x = .slice Ap m cp ∧ m ≤ zp.length ∧ Hid (lev (zp.take m) = lev zp) ∧ w10 = w9) (fun x _ => lenV x)
                case atStart => exact ⟨_, rfl, Nat.le_refl _, hO4, rfl⟩
                case round =>
                  obtain ⟨m, rfl, hm1, hlm, rfl⟩ := hrel
                  rcases Nat.eq_zero_or_pos m with h0 | h0
                  · subst h0
                    go_wp2_with fail
                    go_roundw
                    case rel => exact ⟨_, _, _, rfl, by omega, by omega, Go.Lib.hid ⟨zp.take 0, rp.out.take_ 0 (by omega), bzp.take _, by rw [hlm.out, hzp.out]; have h := hv.out; unfold redV; omega, hbe.out.trans (bb9.out.mono hBw)⟩⟩
                    case measure =>
                      have e1 := numsAt_reads (c := cp) (rp.out.take_ 0 (by omega))
                      rw [hm.out, e1]
                      exact lessM_lt _ _ hzb (by simp [tr]) (by rw [hlm.out, hzp.out]) hcond
                  · obtain ⟨k, rfl⟩ : ∃ k, m = k + 1 := ⟨m - 1, by omega⟩
                    obtain ⟨gp, op, rfl, hcp2⟩ := rd_open rp.out (by omega)
                    have cq := hcp2 k (by omega)
                    clear hcp2
                    have kcp : (k : Int) ≤ (cp : Int) := by omega
                    by_cases hz : el zp k = 0
                    · rw [hz] at cq
                      go_wp2_with fail
                      go_roundw
                      case rel =>
                        refine ⟨k, rfl, by omega, Go.Lib.hid ?_, trivial⟩
                        have := hlm.out
                        rw [lev_take, hz] at this
                        omega
                      case measure => simp [lenV]
                    · have hz2 : (el zp k == 0) = false := by simp [hz]
                      have htr : tr (zp.take (k + 1)) = 0 := by
                        unfold tr
                        have e1 : (zp.take (k + 1)).length = k + 1 := by simp; omega
                        rw [e1, show k + 1 - 1 = k by omega, el_take _ _ _ (by omega), if_neg (fun h => hz h.2)]
                      replace htr := Go.Lib.hid htr
                      clear hz
                      go_wp2_with fail
                      go_roundw
                      case rel => exact ⟨_, _, _, rfl, by omega, by omega, Go.Lib.hid ⟨zp.take (k + 1), rp.out.take_ (k + 1) (by omega), bzp.take _, by rw [hlm.out, hzp.out]; have h := hv.out; unfold redV; omega, hbe.out.trans (bb9.out.mono hBw)⟩⟩
                      case measure =>
                        have e1 := numsAt_reads (c := cp) (rp.out.take_ (k + 1) (by omega))
                        rw [hm.out, e1]
                        exact lessM_lt _ _ hzb htr.out (by rw [hlm.out, hzp.out]) hcond
    case inr.inr.inr =>
      have i1 : (17 : Int) < (n' : Int) := by omega
      have i16 : (16 : Int) < (n' : Int) := by omega
      have hcond : 17 < zs.length ∨ (zs.length = 17 ∧ 3 < el zs 16) := .inl (by rw [hlen.out]; exact hlt)
      obtain ⟨ga, oa, rfl, hcells⟩ := rd_open hR (by omega)
      have ca16 := hcells 16 (by omega)
      have e16 := and3_u8 (el zs 16) (hzb.el 16)
      obtain ⟨wo, rfl⟩ : ∃ wo, wo = wr := ⟨_, rfl⟩
      obtain ⟨Bk, eB⟩ : ∃ Bk, Bk = wo.heap.size := ⟨_, rfl⟩
      have hBw : w.heap.size ≤ Bk := by rw [eB]; exact hbe.size
      have HO0 := own_lit wo Bk 5 .u8 [] (Nat.le_of_eq eB) (by simp)
      have hb0 : Below Bk wo (wo.alloc (.cells (nums .u8 []).toArray 5)) := (Below.refl _ _).alloc (Nat.le_of_eq eB) _
      have hbase : Bk ≤ (wo.alloc (.cells (nums .u8 []).toArray 5)).heap.size := by simp; omega
      obtain ⟨z17, ez17⟩ : ∃ z, z = zs.take 17 := ⟨_, rfl⟩
      have lz17 : Hid (z17.length = 17) := Go.Lib.hid (by rw [ez17]; simp [hlen.out]; omega)
      have bz17 : Byt z17 := by rw [ez17]; exact hzb.take 17
      have el17 : el z17 16 = el zs 16 := by rw [ez17]; exact el_take _ _ _ (by omega)
      have HR := (hR.take_ 17 (by omega)).below (below_alloc (Below.refl _ wo) (.cells (nums .u8 []).toArray 5))
      rw [← ez17] at HR
      replace ez17 := Go.Lib.hid ez17
      have EB := Go.Lib.hid eB
      replace HO0 := Go.Lib.hid HO0
      replace HR := Go.Lib.hid HR
      replace hR := Go.Lib.hid hR
      replace hv := Go.Lib.hid hv
      replace hbe := Go.Lib.hid hbe
      have h17 : (17 : Int) ≤ (c' : Int) := by omega
      clear hO eB
      go_wp2_with (at_builtin; go_must (refine print_append_row (w0 := wo) (W := wo.alloc (.cells (nums .u8 []).toArray 5)) Bk rfl (.tmp 22) (.tmp 24) 23 5 .u8 1 rfl Try.underlying23 info_b (by omega) (.slice (some ⟨wo.heap.size, 0, none⟩) 0 0) [] z17 (some ⟨ga, oa, none⟩) 17 c' rfl rfl HO0.out HR.out hb0 hbase (by simp) ?_; intro v2 w4 ho4 hb4 hg4 hat4; clear hbase hb0 HO0 HR; clear ca16; simp only [List.nil_append] at ho4; rw [lz17.out] at ho4; obtain ⟨gl, capl, hvl, hgl1, hgl2⟩ := ho4.form (by omega); subst hvl; have cl := own_cell ho4 16 (by omega); have fl := own_frozen ho4 16; rw [el17] at cl; replace ho4 := Go.Lib.hid ho4; clear hg4 hat4))
      have ho5 := own_set ho4.out 16 (el zs 16 % 4)
      have hb5 := hb4.setCell (p := ⟨gl, 16, none⟩) hgl1 (.int .u8 (el zs 16 % 4))
      generalize w4.setCell ⟨gl, 16, none⟩ (.int .u8 (el zs 16 % 4)) = w5 at ho5 hb5 ⊢
      obtain ⟨D, eD⟩ : ∃ D, D = shr2 (zs.drop 16) := ⟨_, rfl⟩
      have lD : Hid (D.length = n' - 16) := Go.Lib.hid (by rw [eD, shr2_len]; simp [hlen.out])
      have bD : Byt D := by rw [eD]; exact shr2_byt _ (hzb.drop _)
      have hDi : Hid (∀ i, 16 ≤ i → i < n' → el D (i - 16) = el zs i / 4 + 64 * (el zs (i + 1) % 4)) := Go.Lib.hid (fun i h1 h2 => by
        rw [eD, el_shr2 _ _ (by simp [hlen.out]; omega), el_drop, el_drop, show 16 + (i - 16) = i by omega, show 16 + (i - 16 + 1) = i + 1 by omega])
      have hgl3 : gl < w5.heap.size := by have := hb5.size; have := own_frozen ho5 0; rcases ho5.form (by omega) with ⟨g, cp, e, _, h⟩; injection e with e; injection e with e; injection e with e; omega
      replace eD := Go.Lib.hid eD
      have hL : Hid (w5.ownsRow Bk 5 1 (.slice none 0 0) (D.take (16 - 16)).length (nums .u8 (D.take (16 - 16))) ∧ w5.ownsRow Bk 5 1 (.slice (some ⟨gl, 0, none⟩) 17 capl) 17 (nums .u8 (z17.set 16 (el zs 16 % 4))) ∧ (Value.slice none 0 0).ownBlock ≠ some gl ∧ Below Bk wo w5) :=
        Go.Lib.hid ⟨own_nil _ _ _ _, ho5, by simp [Value.ownBlock], hb5⟩
      clear ho4 ho5 cl fl hb4 e16 el17
      replace hcells := Go.Lib.hid hcells
      replace hgl3 := Go.Lib.hid hgl3
      go_loopw [5, 4] (fun x y w6 => ∃ (i : Nat) (v : Value), x = .int .i64 i ∧ v = y ∧ 16 ≤ i ∧ i ≤ n' ∧ Hid (w6.ownsRow Bk 5 1 v (D.take (i - 16)).length (nums .u8 (D.take (i - 16))) ∧ w6.ownsRow Bk 5 1 (.slice (some ⟨gl, 0, none⟩) 17 capl) 17 (nums .u8 (z17.set 16 (el zs 16 % 4))) ∧ v.ownBlock ≠ some gl ∧ Below Bk wo w6)) (fun x _ _ => n' - (intOf x).toNat)
      case atStart => exact ⟨16, _, rfl, rfl, by omega, by omega, hL⟩
      case round =>
        obtain ⟨i, v, rfl, rfl, hi1, hi2, hL⟩ := hrel
        obtain ⟨hov, hol, hnb, hb6⟩ := hL.out
        by_cases hlti : i < n'
        · have ilt : (i : Int) < (n' : Int) := by omega
          have q1 := pw_cell_below (EB.out ▸ hb6) (hcells.out i hlti)
          have x0 := hzb.el i
          have x1 := hzb.el (i + 1)
          have hsd := hDi.out i hi1 hlti
          have hll : ((D.take (i - 16)).length + 1) * 1 ≤ 140737488355328 := by simp [lD.out]; omega
          have hB6 : Bk ≤ wr.heap.size := by have := hb6.size; have := EB.out; omega
          have fin : ∀ (y : Int) (v1 : Value) (w7 : World), y = el D (i - 16) → w7.ownsRow Bk 5 1 v1 ((D.take (i - 16)) ++ [y]).length (nums .u8 ((D.take (i - 16)) ++ [y])) → Below Bk wo w7 → wr.grownBy w7 v.ownBlock → (v1.ownBlock = v.ownBlock ∨ ∃ b, v1.ownBlock = some b ∧ wr.heap.size ≤ b) →
              ∃ (i' : Nat) (v' : Value), Value.int .i64 ((i : Int) + 1) = .int .i64 i' ∧ v' = v1 ∧ 16 ≤ i' ∧ i' ≤ n' ∧ Hid (w7.ownsRow Bk 5 1 v' (D.take (i' - 16)).length (nums .u8 (D.take (i' - 16))) ∧ w7.ownsRow Bk 5 1 (.slice (some ⟨gl, 0, none⟩) 17 capl) 17 (nums .u8 (z17.set 16 (el zs 16 % 4))) ∧ v'.ownBlock ≠ some gl ∧ Below Bk wo w7) := fun y v1 w7 hy ho hbb hgg hat => by
            refine ⟨i + 1, v1, by go_num, rfl, by omega, by omega, Go.Lib.hid ⟨?_, own_other hol hgg (.inr (by simp [Value.ownBlock]; exact fun h => hnb h.symm)), ?_, hbb⟩⟩
            · rw [show i + 1 - 16 = i - 16 + 1 by omega, take_snoc D (i - 16) (by rw [lD.out]; omega), ← hy]
              exact ho
            · rcases hat with h | ⟨b, h, hb⟩
              · rw [h]; exact hnb
              · rw [h]
                intro hh
                injection hh with hh
                have := hgl3.out
                have := hb6.size
                have : gl < wr.heap.size := by
                  rcases hol.form (by omega) with ⟨g, cp, e, _, h⟩
                  injection e with e; injection e with e; injection e with e
                  omega
                omega
          replace hov := Go.Lib.hid hov
          replace hol := Go.Lib.hid hol
          replace hnb := Go.Lib.hid hnb
          replace fin := Go.Lib.hid fin
          replace hsd := Go.Lib.hid hsd
          clear hL
          by_cases hi3 : i + 1 < n'
          · have ilt3 : (i : Int) + 1 < (n' : Int) := by omega
            have q2 := pw_cell_below (EB.out ▸ hb6) (hcells.out (i + 1) hi3)
            have hor := or_6 (el zs i) (el zs (i + 1)) x0 x1
            go_wp2_with (at_builtin; refine print_append_num (w0 := wo) (W := wr) Bk rfl (.tmp 58) (.tmp 61) 23 5 .u8 1 rfl Try.underlying23 info_b (by omega) _ (D.take (i - 16)) _ rfl rfl hov.out hb6 hB6 hll ?_; intro v1 w7 ho7 hb7 hg7 hat7)
            go_roundw
            case rel => exact fin.out _ v1 w7 (by rw [hsd.out]; omega) ho7 hb7 hg7 hat7
            case measure => simp [intOf]; omega
          · have ilt3 : (n' : Int) ≤ (i : Int) + 1 := by omega
            have hz : el zs (i + 1) = 0 := el_past _ _ (by rw [hlen.out]; omega)
            replace hz := Go.Lib.hid hz
            go_wp2_with (at_builtin; refine print_append_num (w0 := wo) (W := wr) Bk rfl (.tmp 58) (.tmp 61) 23 5 .u8 1 rfl Try.underlying23 info_b (by omega) _ (D.take (i - 16)) _ rfl rfl hov.out hb6 hB6 hll ?_; intro v1 w7 ho7 hb7 hg7 hat7)
            go_roundw
            case rel => exact fin.out _ v1 w7 (by rw [hsd.out, hz.out]; omega) ho7 hb7 hg7 hat7
            case measure => simp [intOf]; omega
        · obtain rfl : n' = i := by omega
          rw [List.take_of_length_le (Nat.le_of_eq lD.out)] at hov
          have lD1 : Hid (1 ≤ D.length) := Go.Lib.hid (by rw [lD.out]; omega)
          obtain ⟨gh, caph, rfl, hgh1, hgh2⟩ := hov.form lD1.out
          have hcap := own_cap hov
          have lDc : (D.length : Int) ≤ (caph : Int) := by omega
          have hDn : D.length ≤ 100 := by rw [lD.out]; omega
          have hlv : Hid (lev (D.take D.length) = lev D) := Go.Lib.hid (by rw [List.take_of_length_le (Nat.le_refl _)])
          replace hov := Go.Lib.hid hov
          replace hol := Go.Lib.hid hol
          clear hL
          go_wp2_with fail
          go_loopw [7] (fun x w7 => ∃ m : Nat, x = .int .i64 m ∧ m ≤ D.length ∧ Hid (lev (D.take m) = lev D) ∧ w7 = wr) (fun x _ => (intOf x).toNat)
          case atStart => exact ⟨_, rfl, Nat.le_refl _, hlv, rfl⟩
          case round =>
            obtain ⟨m, rfl, hm1, hlm, rfl⟩ := hrel
            by_cases hgo : ∃ k, m = k + 1 ∧ el D k = 0
            · obtain ⟨k, rfl, hz⟩ := hgo
              have ck := own_cell hov.out k (by omega)
              rw [hz] at ck
              have klt : (k : Int) < (D.length : Int) := by omega
              go_wp2_with fail
              go_roundw
              case rel =>
                refine ⟨k, by go_num, by omega, Go.Lib.hid ?_, trivial⟩
                have := hlm.out
                rw [lev_take, hz] at this
                omega
              case measure => simp [intOf]
            · have hrh := (own_reads' hov.out).take_ m (by omega)
              have hM : Hid (m ≤ 100) := Go.Lib.hid (by omega)
              have hM2 : Hid (m ≤ n' - 16) := Go.Lib.hid (by have := lD.out; omega)
              have cases0 : m = 0 ∨ ∃ k, m = k + 1 ∧ k < D.length ∧ el D k ≠ 0 := by
                rcases Nat.eq_zero_or_pos m with h | h
                · exact .inl h
                · exact .inr ⟨m - 1, by omega, by omega, fun hz => hgo ⟨m - 1, by omega, hz⟩⟩
              have h5 := own_lit wr Bk 5 .u8 [5] (by have := hb6.size; have := EB.out; omega) (by simp)
              have r5 : ReadsInt (wr.alloc (.cells #[.int .u8 5] 5)) .u8 (some ⟨wr.heap.size, 0, none⟩) 1 [5] := own_reads' h5
              have rh := hrh.below (below_alloc (Below.refl _ wr) (.cells #[.int .u8 5] 5))
              have hol5 := own_reads' (hol.out.alloc (.cells #[.int .u8 5] 5))
              have hb7 : Below Bk wo (wr.alloc (.cells #[.int .u8 5] 5)) := hb6.alloc (by have := hb6.size; have := EB.out; omega) _
              have bl : Byt (z17.set 16 (el zs 16 % 4)) := bz17.set _ _ (by omega)
              have hval := split130 zs hzb (by rw [hlen.out]; omega)
              rw [← ez17.out, ← eD.out] at hval
              replace hval := Go.Lib.hid hval
              replace r5 := Go.Lib.hid r5
              replace rh := Go.Lib.hid rh
              replace hol5 := Go.Lib.hid hol5
              replace hb7 := Go.Lib.hid hb7
              clear hrh h5 hgo
              rcases cases0 with h0 | ⟨k, h0, hkl, hkz⟩
              all_goals first
                | (have ck := own_cell hov.out k hkl
                   have klt : (k : Int) < (D.length : Int) := by omega
                   have hz2 : (el D k == 0) = false := by simp [hkz]
                   clear hkz
                   subst h0
                   go_wp2_with fail)
                | (subst h0
                   go_wp2_with fail)
              all_goals
                refine (times_any _ _ _ _ _ _ _ _ _ rh.out r5.out (bD.take _) (Byt.one (by omega)) (by have := hM.out; omega) (by omega)).mono ?_
                rintro e w8 ⟨gt, zt, rfl, bt, hgt, bzt, hlt2, llt, hb8⟩
                have rt := bt.reads (by rw [llt]; have := hM.out; omega)
                rw [llt] at rt
                have rl := hol5.out.below hb8
                have bb8 : Below Bk wo w8 := hb7.out.trans (hb8.mono (by have := hb6.size; have := EB.out; simp; omega))
                have hzlow := hval.out.1
                have hztime : lev zt = lev D * 5 := by rw [hlt2, hlm.out]; rfl
                replace hlt2 := Go.Lib.hid hlt2
                replace llt := Go.Lib.hid llt
                replace rt := Go.Lib.hid rt
                replace rl := Go.Lib.hid rl
                replace hztime := Go.Lib.hid hztime
                replace hzlow := Go.Lib.hid hzlow
                go_wp2_with fail
                refine (plus_any _ _ _ _ _ _ _ _ _ rl.out rt.out bl bzt (by omega) (by have := hM.out; omega)).mono ?_
                rintro e w9 ⟨v9, zp, rfl, ho9, bzp, hlp, hl1, hl2, hl3, hb9⟩
                have bb9 : Below Bk wo w9 := bb8.trans (hb9.mono (by have := bb8.size; have := EB.out; omega))
                obtain ⟨Ap, cp, rfl, hcp, rp⟩ := own_reads_len ho9
                have hzp : lev zp = redV (lev zs) := by
                  rw [hlp, hzlow.out, hztime.out, hval.out.2]
                  unfold redV
                  omega
                have hln : zp.length ≤ 100 := by have := hM2.out; omega
                have hO4 : Hid (lev (zp.take zp.length) = lev zp) := Go.Lib.hid (by rw [List.take_of_length_le (Nat.le_refl _)])
                replace hzp := Go.Lib.hid hzp
                replace rp := Go.Lib.hid rp
                replace bb9 := Go.Lib.hid bb9
                clear rh r5 hol5 hb7 rt rl hlp hl1 hl2 hl3 hb8 hb9 bb8 ho9 hztime hzlow hlt2 llt bt
                go_wp2_with fail
                go_loopw [0] (fun x w10 => ∃ m : Nat, x = .slice Ap m cp ∧ m ≤ zp.length ∧ Hid (lev (zp.take m) = lev zp) ∧ w10 = w9) (fun x _ => lenV x)
                case atStart => exact ⟨_, rfl, Nat.le_refl _, hO4, rfl⟩
                case round =>
                  obtain ⟨m, rfl, hm1, hlm, rfl⟩ := hrel
                  rcases Nat.eq_zero_or_pos m with h0 | h0
                  · subst h0
                    go_wp2_with fail
                    go_roundw
                    case rel => exact ⟨_, _, _, rfl, by omega, by omega, Go.Lib.hid ⟨zp.take 0, rp.out.take_ 0 (by omega), bzp.take _, by rw [hlm.out, hzp.out]; have h := hv.out; unfold redV; omega, hbe.out.trans (bb9.out.mono hBw)⟩⟩
                    case measure =>
                      have e1 := numsAt_reads (c := cp) (rp.out.take_ 0 (by omega))
                      rw [hm.out, e1]
                      exact lessM_lt _ _ hzb (by simp [tr]) (by rw [hlm.out, hzp.out]) hcond
                  · obtain ⟨k, rfl⟩ : ∃ k, m = k + 1 := ⟨m - 1, by omega⟩
                    obtain ⟨gp, op, rfl, hcp2⟩ := rd_open rp.out (by omega)
                    have cq := hcp2 k (by omega)
                    clear hcp2
                    have kcp : (k : Int) ≤ (cp : Int) := by omega
                    by_cases hz : el zp k = 0
                    · rw [hz] at cq
                      go_wp2_with fail
                      go_roundw
                      case rel =>
                        refine ⟨k, rfl, by omega, Go.Lib.hid ?_, trivial⟩
                        have := hlm.out
                        rw [lev_take, hz] at this
                        omega
                      case measure => simp [lenV]
                    · have hz2 : (el zp k == 0) = false := by simp [hz]
                      have htr : tr (zp.take (k + 1)) = 0 := by
                        unfold tr
                        have e1 : (zp.take (k + 1)).length = k + 1 := by simp; omega
                        rw [e1, show k + 1 - 1 = k by omega, el_take _ _ _ (by omega), if_neg (fun h => hz h.2)]
                      replace htr := Go.Lib.hid htr
                      clear hz
                      go_wp2_with fail
                      go_roundw
                      case rel => exact ⟨_, _, _, rfl, by omega, by omega, Go.Lib.hid ⟨zp.take (k + 1), rp.out.take_ (k + 1) (by omega), bzp.take _, by rw [hlm.out, hzp.out]; have h := hv.out; unfold redV; omega, hbe.out.trans (bb9.out.mono hBw)⟩⟩
                      case measure =>
                        have e1 := numsAt_reads (c := cp) (rp.out.take_ (k + 1) (by omega))
                        rw [hm.out, e1]
                        exact lessM_lt _ _ hzb htr.out (by rw [hlm.out, hzp.out]) hcond
end Go.Proofs.Ytdocbmgledebaaa
