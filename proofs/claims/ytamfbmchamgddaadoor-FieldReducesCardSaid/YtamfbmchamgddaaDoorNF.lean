/-
  The law FieldReduces: the walk.
-/
import Derived.Test.YtamfbmchamgddaaDoorNE
import Derived.Test.YtamfbmchamgddaaDoorL
namespace Go.Proofs.YtamfbmchamgddaaDoor
set_option linter.unusedVariables false
set_option linter.unusedSimpArgs false
open Go.RowKit Go.Proofs.YtamfbmchamgddaaDoorW.PrintWords Go.Proofs.YtamfbmchamgddaaDoorW.PrintMore Go.Proofs.YtamfbmchamgddaaDoorW.PrintLast PFieldReduces

theorem vv_NN8 (k : Nat) : vv (NN 8 (par k).M) = (par k).M := vv_NN _ _ ⟨by have := (par_ok k).pos; omega, by have := (par_ok k).hi; simp only [Int.reducePow]; exact this⟩
theorem of_range (t : ByteArray) : 0 ≤ beV (bytesOf t) ∧ beV (bytesOf t) < 4294967296 ^ ((t.size + 3) / 4) := by
  have h := beV_range (Byt.of t)
  refine ⟨h.1, Int.lt_of_lt_of_le h.2 ?_⟩
  rw [bytesOf_length, show (4294967296 : Int) = 256 ^ 4 from rfl, ← Int.pow_mul]
  obtain ⟨d, hd⟩ : ∃ d, 4 * ((t.size + 3) / 4) = t.size + d := ⟨4 * ((t.size + 3) / 4) - t.size, by omega⟩
  rw [hd, Int.pow_add]
  have h1 : (0 : Int) < 256 ^ t.size := Int.pow_pos (by omega)
  have h2 : (0 : Int) < 256 ^ d := Int.pow_pos (by omega)
  generalize (256 : Int) ^ t.size = P at *
  generalize (256 : Int) ^ d = Q at *
  have := Int.mul_le_mul_of_nonneg_left (show 1 ≤ Q by omega) (show 0 ≤ P by omega)
  omega

theorem known_any (k : Int) (w : World) : Calls Tryd.prog 11 #[.int .i64 k] w fun e w' => e = .returned (.bool (decide (0 ≤ k ∧ k < 4))) ∧ Below w.heap.size w w' :=
  (securelinkref4_Known.calls k _ w (known_f k)).mono fun e w' ⟨h1, h2⟩ => ⟨h1, h2.below⟩
theorem make_any (k : Nat) (hk : k < 4) (w : World) : Calls Tryd.prog 12 #[.int .i64 (k : Int)] w fun e w' => ∃ A c, e = .returned (.agg #[.slice A 8 c]) ∧ 8 ≤ c ∧ (Kd.int .u32).C w' A 8 (NN 8 (par k).M) ∧ Below w.heap.size w w' := by
  obtain ⟨K, hK⟩ := make_f k hk
  refine (securelinkref4_Make.calls K _ _ w (hK K (Nat.le_refl _))).mono ?_
  rintro e w' ⟨v, rfl, hR, hb⟩
  obtain ⟨A, c, rfl, hc, hC⟩ := Kd.R_reads hR
  rw [NN_len] at hc hC ⊢
  exact ⟨A, c, rfl, hc, hC, hb⟩
theorem nbytes_any (A : Option Addr) (n c : Nat) (l : List Int) (hl : l.length = n) (hd : DD l) (hn : n ≤ 1000000) (hc : n ≤ c) (w : World) (h : (Kd.int .u32).C w A n l) :
    Calls Tryd.prog 13 #[.slice A n c, .int .i64 32] w fun e w' => e = .returned (.string (strOfNums (beL 32 (vv l)))) ∧ Below w.heap.size w w' := by
  subst hl
  obtain ⟨K, hK⟩ := bytes_f l hd hn
  exact securelinkref4_Bytes.calls K A c l 32 _ w h hc (hK K (Nat.le_refl _))
theorem nof_any (t : ByteArray) (hs : t.size ≤ 1000000) (w : World) : Calls Tryd.prog 15 #[.string t] w fun e w' => ∃ A c, e = .returned (.slice A ((t.size + 3) / 4) c) ∧ (t.size + 3) / 4 ≤ c ∧ (Kd.int .u32).C w' A ((t.size + 3) / 4) (NN ((t.size + 3) / 4) (beV (bytesOf t))) ∧ Below w.heap.size w w' := by
  obtain ⟨K, hK⟩ := of_f t hs
  refine (securelinkref4_Of.calls K _ _ w (hK K (Nat.le_refl _))).mono ?_
  rintro e w' ⟨v, rfl, hR, hb⟩
  obtain ⟨A, c, rfl, hc, hC⟩ := Kd.R_reads hR
  rw [NN_len] at hc hC ⊢
  exact ⟨A, c, rfl, hc, hC, hb⟩
theorem nmod_any (k : Nat) (A B : Option Addr) (c n cb : Nat) (V : Int) (hV : 0 ≤ V ∧ V < 4294967296 ^ n) (hn : n ≤ 1000000) (hc : 8 ≤ c) (hcb : n ≤ cb) (w : World) (h : (Kd.int .u32).C w A 8 (NN 8 (par k).M)) (h' : (Kd.int .u32).C w B n (NN n V)) :
    Calls Tryd.prog 14 #[.agg #[.slice A 8 c], .slice B n cb] w fun e w' => ∃ A c, e = .returned (.slice A 8 c) ∧ 8 ≤ c ∧ (Kd.int .u32).C w' A 8 (NN 8 (V % (par k).M)) ∧ Below w.heap.size w w' := by
  have hv := vv_NN8 k
  have hlo := (par_ok k).lo
  obtain ⟨m, em⟩ : ∃ m, m = NN 8 (par k).M := ⟨_, rfl⟩
  obtain ⟨a, ea⟩ : ∃ a, a = NN n V := ⟨_, rfl⟩
  have hm : m.length = 8 := by rw [em, NN_len]
  have hmd : DD m := by rw [em]; exact NN_dig _ _
  have ha : a.length = n := by rw [ea, NN_len]
  have had : DD a := by rw [ea]; exact NN_dig _ _
  have hav : vv a = V := by rw [ea]; exact vv_NN _ _ hV
  rw [← em] at h hv
  rw [← ea] at h'
  obtain ⟨K, hK⟩ := fmod_f a m n had ha hn hmd hm (by rw [hv]; exact hlo)
  rw [hav, hv] at hK
  have hc2 : m.length ≤ c := by omega
  have hc3 : a.length ≤ cb := by omega
  rw [← hm] at h
  rw [← ha] at h'
  have hcall := securelinkref4_F_Mod.calls K A c m B cb a _ w h hc2 h' hc3 (hK K (Nat.le_refl _))
  rw [hm, ha] at hcall
  refine hcall.mono ?_
  rintro e w' ⟨v, rfl, hR, hb⟩
  obtain ⟨A, c, rfl, hc, hC⟩ := Kd.R_reads hR
  rw [NN_len] at hc hC ⊢
  exact ⟨A, c, rfl, hc, hC, hb⟩

theorem str_reads {P : Program} {src dst e : TypeId} (hs : P.underlying src = some (.slice e)) (he : P.underlying e = some (.int .u8)) (hd : P.underlying dst = some .string) {A : Option Addr} {n : Nat} (c : Nat) {xs : List Int} {w : World} (h : ReadsInt w .u8 A n xs) :
    (convert src dst (.slice A n c)).run P w = .ok (.string (strOfNums xs)) w := string_of_reads hs he hd h

theorem ev_storeone {P : Program} {ops : Array Oper} {rest : List Oper} {o : Oper} {a : Act} {w : World} {Q : Exit → Act → World → Prop} (hgd : o.guard = none) {ty : TypeId} {x y : Operand} (ho : o.op = .store ty x y) {g : Nat} (hx : a.eval x = .pointer (some ⟨g, 0, none⟩)) {t : TypeId} {u : Value} {A : Option Addr} {n c : Nat} (hb : w.heap[g]? = some (.cells #[u] t (0, 0)))
    (hy : a.eval y = .agg #[.slice A n c]) (hi : (P.info? ty).map (·.size) = some 1)
    (h : ∀ w1, Stored g w w1 → w1.heap[g]? = some (.cells #[.slice A n c] t (0, 0)) → wpList P ops Q rest (a.put o.dst undef) w1) : wpList P ops Q (o :: rest) a w :=
  wpList_store_row hgd ty x y ho g _ hx hy t _ hb (by rw [hi]; simp) (by simp) (by simp [Value.oneCell']) (h _ ⟨grown_setRow _ _ _, by simp⟩ (setRow_heap w g _ _ t _ hb))

set_option maxRecDepth 100000 in
set_option maxHeartbeats 1000000 in
theorem law_reduces_no (k : Int) (s : ByteArray) (w : World) (hk : ¬ (0 ≤ k ∧ k < 4)) :
    Calls Tryd.prog 3 #[.int .i64 k, .string s] w fun e w' => e = .returned (.bool true) ∧ Below w.heap.size w w' := by
  by_cases h1 : (16384 : Int) < (s.size : Int)
  · go_enter Tryd.func3, Tryd.ntmps3
    go_wp2_with fail
    go_ret
    exact ⟨rfl, Below.refl _ _⟩
  have hs : s.size ≤ 1000000 := by omega
  have hkd : decide (0 ≤ k ∧ k < 4) = false := decide_eq_false hk
  go_enter Tryd.func3, Tryd.ntmps3
  go_wp2_with (first
    | (go_at_call 7; refine (modulus_not k _ hk).mono ?_; rintro e w1 ⟨rfl, rfl⟩)
    | (go_at_call 8; refine (lent_any s _ hs).mono ?_; rintro e w2 ⟨g, rfl, hb, hg, hbel⟩)
    | (go_at_call 9; refine (reduce_not k _ _ _ _ hk).mono ?_; rintro e w3 ⟨rfl, rfl⟩)
    | (go_at_call 10; refine (still_any _ _ _ _ s _ hs (lent_reads hb hs) rfl).mono ?_; rintro e w4 ⟨rfl, hb4⟩)
    | (go_at_call 11; refine (known_any k _).mono ?_; rw [hkd]; rintro e w5 ⟨rfl, hb5⟩))
  go_ret
  exact ⟨rfl, below_then (below_then hbel hbel.size hb4) (by have := hbel.size; have := hb4.size; omega) hb5⟩

set_option maxRecDepth 100000 in
set_option maxHeartbeats 1000000 in
theorem law_reduces_yes (k : Nat) (s : ByteArray) (w : World) (hk : k < 4) (hL : Primes w) :
    Calls Tryd.prog 3 #[.int .i64 (k : Int), .string s] w fun e w' => e = .returned (.bool true) ∧ Below w.heap.size w w' := by
  by_cases h1 : (16384 : Int) < (s.size : Int)
  · go_enter Tryd.func3, Tryd.ntmps3
    go_wp2_with fail
    go_ret
    exact ⟨rfl, Below.refl _ _⟩
  have hs : s.size ≤ 1000000 := by omega
  have hkd : decide (0 ≤ (k : Int) ∧ (k : Int) < 4) = true := decide_eq_true (by omega)
  obtain ⟨M, eM⟩ : ∃ M, M = beL 32 (par k).M := ⟨_, rfl⟩
  have hmod := Go.Lib.hid (fun W (h : Primes W) => modulus_any k W hk h)
  rw [← eM] at hmod
  have hML : Hid (M.length = 32) := Go.Lib.hid (by rw [eM, beL_len])
  obtain ⟨m, em⟩ : ∃ m, m = NN 8 (par k).M := ⟨_, rfl⟩
  have hmake := Go.Lib.hid (fun W => make_any k hk W)
  rw [← em] at hmake
  have hmv : Hid (vv m = (par k).M) := Go.Lib.hid (by rw [em]; exact vv_NN8 k)
  have hml : Hid (m.length = 8) := Go.Lib.hid (by rw [em]; exact NN_len _ _)
  have hmd : Hid (DD m) := Go.Lib.hid (by rw [em]; exact NN_dig _ _)
  have hbm := Go.Lib.hid (fun A c (hc : 8 ≤ c) W h => nbytes_any A 8 c m hml.out hmd.out (by omega) hc W h)
  rw [hmv.out, ← eM] at hbm
  replace eM := Go.Lib.hid eM
  replace em := Go.Lib.hid em
  have z34 : (Tryd.prog.info? 34).map (fun i => (i.zero, i.size)) = some (some (.agg #[.slice none 0 0]), 1) := by kernel_rfl
  replace z34 := Go.Lib.hid z34
  by_cases hl : (1024 : Int) < (s.size : Int)
  · have hl' : 1024 < s.size := by omega
    go_enter Tryd.func3, Tryd.ntmps3
    go_wp2_with (first
      | (go_at_call 7; refine (hmod.out _ hL).mono ?_; rintro e w1 ⟨g1, rfl, b1, e1, hb⟩
         have r1 := Go.Lib.hid (rd_len (b1.reads (by rw [hML.out]; omega)) hML.out)
         have hL1 := Go.Lib.hid (hL.below hb)
         clear b1)
      | (go_at_call 8; refine (lent_any s _ hs).mono ?_; rintro e w2 ⟨g2, rfl, b2, e2, hb2⟩
         replace r1 := Go.Lib.hid (r1.out.below hb2)
         replace hL1 := Go.Lib.hid (hL1.out.below hb2)
         replace hb := below_then hb hb.size hb2
         replace b2 := Go.Lib.hid b2)
      | (go_at_call 9; refine (reduce_long k _ _ _ _ hk hL1.out hl').mono ?_; rintro e w3 ⟨rfl, hb3⟩
         replace r1 := Go.Lib.hid (r1.out.below hb3)
         replace b2 := Go.Lib.hid (b2.out.below hb3)
         replace hb := below_then hb hb.size hb3)
      | (go_at_call 10; refine (still_any _ _ _ _ s _ hs (lent_reads b2.out hs) rfl).mono ?_; rintro e w4 ⟨rfl, hb4⟩
         replace r1 := Go.Lib.hid (r1.out.below hb4)
         replace hb := below_then hb hb.size hb4)
      | (go_at_call 11; refine (known_any _ _).mono ?_; rw [hkd]; rintro e w5 ⟨rfl, hb5⟩
         replace r1 := Go.Lib.hid (r1.out.below hb5)
         replace hb := below_then hb hb.size hb5)
      | (go_at_call 12; refine (hmake.out _).mono ?_; rintro e w6 ⟨A, c, rfl, hc, hC, hb6⟩
         replace r1 := Go.Lib.hid (r1.out.below hb6)
         replace hb := below_then hb hb.size hb6
         replace hC := Go.Lib.hid hC)
      | (refine ev_allocg (ty := 34) rfl rfl z34.out ?_; intro gx wa ha ba
         have hba := ha.bel (Below.refl _ _) (Nat.le_refl _)
         have hxl := ha.le
         have hxs := ha.size)
      | (refine ev_storeone (ty := 34) rfl rfl rfl ba rfl (by kernel_rfl) ?_; intro wb hst bb
         have hbb := hst.bel hba (by omega) (by omega)
         replace r1 := Go.Lib.hid (r1.out.below hbb)
         replace hC := Go.Lib.hid (Kd.C_below hC.out hbb)
         replace hb := below_then hb hb.size hbb
         have cx : wb.cell? ⟨gx, 0, none⟩ = some (.slice A 8 c) := by simp [World.cell?, bb]
         have hxb : gx < wb.heap.size := by have := hst.size; omega)
      | (go_at_call 13; refine (hbm.out _ _ hc _ hC.out).mono ?_; rintro e w7 ⟨rfl, hb7⟩
         replace r1 := Go.Lib.hid (r1.out.below hb7)
         replace hb := below_then hb hb.size hb7
         replace hC := Go.Lib.hid (Kd.C_below hC.out hb7)
         have bx7 : w7.heap[gx]? = some (.cells #[.slice A 8 c] 34 (0, 0)) := (hb7.block gx hxb).trans bb
         have q1 := str_reads (P := Tryd.prog) (src := 23) (dst := 9) Tryd.underlying23 Tryd.underlying5 Tryd.underlying9 32 r1.out))
    go_ret
    exact ⟨rfl, hb⟩
  · have hl2 : (s.size : Int) ≤ 1024 := by omega
    have hV := Go.Lib.hid (of_range s)
    have hnof := Go.Lib.hid (nof_any s hs)
    obtain ⟨V, eV⟩ : ∃ V, V = beV (bytesOf s) := ⟨_, rfl⟩
    obtain ⟨R, eR⟩ : ∃ R, R = beL 32 (V % (par k).M) := ⟨_, rfl⟩
    have hrr : 0 ≤ V % (par k).M ∧ V % (par k).M < 4294967296 ^ 8 := ⟨Int.emod_nonneg _ (by have := (par_ok k).pos; omega), by
      have h := Int.emod_lt_of_pos V (par_ok k).pos
      have h2 : (par k).M < 115792089237316195423570985008687907853269984665640564039457584007913129639936 := (par_ok k).hi
      simp only [Int.reducePow]
      omega⟩
    have hbR := Go.Lib.hid (fun A c (hc : 8 ≤ c) W h => nbytes_any A 8 c (NN 8 (V % (par k).M)) (NN_len _ _) (NN_dig _ _) (by omega) hc W h)
    rw [vv_NN _ _ hrr, ← eR] at hbR
    rw [← eV] at hV hnof
    have hmodc := Go.Lib.hid (fun A B c n cb hV hn hc hcb W h h' => nmod_any k A B c n cb V hV hn hc hcb W h h')
    rw [← em.out] at hmodc
    obtain ⟨Q, eQ⟩ : ∃ Q, Q = NN 8 (V % (par k).M) := ⟨_, rfl⟩
    rw [← eQ] at hmodc hbR
    replace eQ := Go.Lib.hid eQ
    clear hrr
    obtain ⟨nn, enn⟩ : ∃ nn, nn = (s.size + 3) / 4 := ⟨_, rfl⟩
    rw [← enn] at hV hnof
    have hnn : nn ≤ 1000000 := by omega
    replace enn := Go.Lib.hid enn
    have hRL : Hid (R.length = 32) := Go.Lib.hid (by rw [eR, beL_len])
    have hred := Go.Lib.hid (fun g W (h : Primes W) h' => reduce_ok k (some ⟨g, 0, none⟩) s.size (s.size + 160) (bytesOf s) W hk h h' (Byt.of s) (by omega) (by omega))
    rw [← eV, ← eR] at hred
    replace eV := Go.Lib.hid eV
    replace eR := Go.Lib.hid eR
    go_enter Tryd.func3, Tryd.ntmps3
    go_wp2_with (first
      | (go_at_call 7; refine (hmod.out _ hL).mono ?_; rintro e w1 ⟨g1, rfl, b1, e1, hb⟩
         have r1 := Go.Lib.hid (rd_len (b1.reads (by rw [hML.out]; omega)) hML.out)
         have hL1 := Go.Lib.hid (hL.below hb)
         clear b1)
      | (go_at_call 8; refine (lent_any s _ hs).mono ?_; rintro e w2 ⟨g2, rfl, b2, e2, hb2⟩
         replace r1 := Go.Lib.hid (r1.out.below hb2)
         replace hL1 := Go.Lib.hid (hL1.out.below hb2)
         replace hb := below_then hb hb.size hb2
         replace b2 := Go.Lib.hid b2)
      | (go_at_call 9; refine (hred.out _ _ hL1.out (lent_text b2.out hs)).mono ?_; rintro e w3 ⟨g3, rfl, b3, e3, hb3⟩
         have r3 := Go.Lib.hid (rd_len (b3.reads (by rw [hRL.out]; omega)) hRL.out)
         replace r1 := Go.Lib.hid (r1.out.below hb3)
         replace b2 := Go.Lib.hid (b2.out.below hb3)
         replace hb := below_then hb hb.size hb3)
      | (go_at_call 10; refine (still_any _ _ _ _ s _ hs (lent_reads b2.out hs) rfl).mono ?_; rintro e w4 ⟨rfl, hb4⟩
         replace r1 := Go.Lib.hid (r1.out.below hb4)
         replace r3 := Go.Lib.hid (r3.out.below hb4)
         replace hb := below_then hb hb.size hb4)
      | (go_at_call 11; refine (known_any _ _).mono ?_; rw [hkd]; rintro e w5 ⟨rfl, hb5⟩
         replace r1 := Go.Lib.hid (r1.out.below hb5)
         replace r3 := Go.Lib.hid (r3.out.below hb5)
         replace hb := below_then hb hb.size hb5)
      | (go_at_call 12; refine (hmake.out _).mono ?_; rintro e w6 ⟨A, c, rfl, hc, hC, hb6⟩
         replace r1 := Go.Lib.hid (r1.out.below hb6)
         replace r3 := Go.Lib.hid (r3.out.below hb6)
         replace hb := below_then hb hb.size hb6
         replace hC := Go.Lib.hid hC)
      | (refine ev_allocg (ty := 34) rfl rfl z34.out ?_; intro gx wa ha ba
         have hba := ha.bel (Below.refl _ _) (Nat.le_refl _)
         have hxl := ha.le
         have hxs := ha.size)
      | (refine ev_storeone (ty := 34) rfl rfl rfl ba rfl (by kernel_rfl) ?_; intro wb hst bb
         have hbb := hst.bel hba (by omega) (by omega)
         replace r1 := Go.Lib.hid (r1.out.below hbb)
         replace r3 := Go.Lib.hid (r3.out.below hbb)
         replace hC := Go.Lib.hid (Kd.C_below hC.out hbb)
         replace hb := below_then hb hb.size hbb
         have cx : wb.cell? ⟨gx, 0, none⟩ = some (.slice A 8 c) := by simp [World.cell?, bb]
         have hxb : gx < wb.heap.size := by have := hst.size; omega)
      | (go_at_call 13; refine (hbm.out _ _ hc _ hC.out).mono ?_; rintro e w7 ⟨rfl, hb7⟩
         replace r1 := Go.Lib.hid (r1.out.below hb7)
         replace r3 := Go.Lib.hid (r3.out.below hb7)
         replace hb := below_then hb hb.size hb7
         replace hC := Go.Lib.hid (Kd.C_below hC.out hb7)
         have bx7 : w7.heap[gx]? = some (.cells #[.slice A 8 c] 34 (0, 0)) := (hb7.block gx hxb).trans bb
         have q1 := str_reads (P := Tryd.prog) (src := 23) (dst := 9) Tryd.underlying23 Tryd.underlying5 Tryd.underlying9 32 r1.out))
    obtain ⟨TT, f, neT, hf, hsT⟩ := class_type (fun w' : World => w'.heap[gx]? = some (.cells #[.slice A 8 c] 34 (0, 0))) w7 bx7
    replace hf := Go.Lib.hid hf
    replace hsT := Go.Lib.hid hsT
    have hx7 : gx < w7.heap.size := by have := hb7.size; omega
    clear q1 hb2 hb3 hb4 hb5 hb6 hba hbb hb7 cx ba bb ha hst
    refine region_eff f [false, false, true, true, true, false] (by kernel_rfl) (by kernel_rfl) (hsT.out _ bx7) ?_
    simp only [masked_cons, masked_out, masked_nil]
    refine wlk_pure fun K hK => ?_
    rw [if_pos (by rfl)]
    refine ⟨_, fun z => exec_load rfl rfl (run_loadVar_row _ gx 34 34 _ (0, 0) _ (hf.out z) Tryd.underlying34 rfl (by kernel_rfl)), hK _ ?_⟩
    clear hK K
    refine wlk_pure fun K hK => ?_; go_simp; refine hK _ ?_; clear hK K
    refine wlk_eff fun K hK => ?_
    go_simp
    refine (hnof.out _).mono ?_
    rintro e w8 ⟨B, cb, rfl, hcb, hCB, hb8⟩
    replace hb8 : Below w7.heap.size w7 w8 := (Below.refl _ _).drew.trans hb8
    refine hK _ _ (hsT.out _ ((hb8.block gx hx7).trans bx7)) ?_
    clear hK K
    refine wlk_eff fun K hK => ?_
    go_simp
    refine (hmodc.out _ _ _ _ _ hV.out hnn hc hcb _ (Kd.C_below hC.out hb8) hCB).mono ?_
    rintro e w9 ⟨D, cd, rfl, hcd, hCD, hb9⟩
    replace hb9 := below_then hb8 hb8.size hb9
    refine hK _ _ (hsT.out _ ((hb9.block gx hx7).trans bx7)) ?_
    clear hK K
    refine wlk_eff fun K hK => ?_
    go_simp
    refine (hbR.out _ _ hcd _ hCD).mono ?_
    rintro e w10 ⟨rfl, hb10⟩
    replace hb10 := below_then hb9 hb9.size hb10
    refine hK _ _ (hsT.out _ ((hb10.block gx hx7).trans bx7)) ?_
    clear hK K
    refine wlk_pure fun K hK => ?_; go_simp; refine hK _ ?_; clear hK K
    refine wlk_nil ?_
    have r10 := Go.Lib.hid (r3.out.below hb10)
    have q3 := str_reads (P := Tryd.prog) (src := 23) (dst := 9) Tryd.underlying23 Tryd.underlying5 Tryd.underlying9 32 r10.out
    replace hb := below_then hb hb.size hb10
    go_wp2_with fail
    go_ret
    exact ⟨by simp, hb⟩
end Go.Proofs.YtamfbmchamgddaaDoor
