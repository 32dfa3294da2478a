/-
  The law StreamSeals: the walk.
-/
import Derived.Test.YtdocbmgledebaaaE6
import Derived.Test.YtdocbmgledebaaaL
import Derived.Test.YtdocbmgledebaaaLaw2
namespace Go.Proofs.Ytdocbmgledebaaa
set_option linter.unusedVariables false
set_option linter.unusedSimpArgs false
open Go.RowKit Go.Proofs.YtdocbmgledebaaaW.PrintWords

def openB (key nonce b t : List Int) : Bool := decide (16 ≤ t.length) && openOk key nonce b t
theorem popen_any (A0 A1 A2 A3 : Option Addr) (c0 c1 n2 c2 n3 c3 : Nat) (key nonce b t : List Int) (w : World) (hk : ReadsInt w .u8 A0 32 key) (hn : ReadsInt w .u8 A1 12 nonce) (h2 : ReadsInt w .u8 A2 n2 b) (h3 : ReadsInt w .u8 A3 n3 t)
    (hkb : Byt key) (hnb : Byt nonce) (hb : Byt b) (ht : Byt t) (hc0 : 32 ≤ c0) (hc1 : 12 ≤ c1) (hc3 : n3 ≤ c3) (hn2 : n2 ≤ 200000) (hn3 : n3 ≤ 200000) :
    Calls Try.prog 16 #[.slice A0 32 c0, .slice A1 12 c1, .slice A2 n2 c2, .slice A3 n3 c3] w fun e w' =>
      ∃ v c, e = .returned (.tuple #[v, .int .i64 c]) ∧ ((openB key nonce b t = true ∧ c = 0 ∧ w'.ownsRow w.heap.size 5 1 v (openL key nonce t).length (nums .u8 (openL key nonce t))) ∨
       (openB key nonce b t = false ∧ c = 4 ∧ v = .slice none 0 0)) ∧ Below w.heap.size w w' := by
  by_cases h16 : 16 ≤ n3
  · have e16 : decide (16 ≤ t.length) = true := by rw [h3.1]; exact decide_eq_true h16
    refine (popen_yes A0 A1 A2 A3 c0 c1 n2 c2 n3 c3 key nonce b t w hk hn h2 h3 hkb hnb hb ht hc0 hc1 hc3 hn2 hn3 h16).mono ?_
    rintro e w' ⟨⟨h1, v, rfl, h2⟩ | ⟨h1, rfl⟩, hb'⟩
    · exact ⟨v, 0, rfl, .inl ⟨by simp [openB, e16, h1], rfl, h2⟩, hb'⟩
    · exact ⟨_, 4, rfl, .inr ⟨by simp [openB, h1], rfl, rfl⟩, hb'⟩
  · have e16 : decide (16 ≤ t.length) = false := by rw [h3.1]; exact decide_eq_false h16
    refine (popen_short A0 A1 A3 c0 c1 n3 c3 (.slice A2 n2 c2) w (by omega)).mono ?_
    rintro e w' ⟨rfl, hb'⟩
    exact ⟨_, 4, rfl, .inr ⟨by simp [openB, e16], rfl, rfl⟩, hb'⟩

theorem own_fr {w w' : World} {base n g : Nat} {e : TypeId} {v : Value} {l : List Value} (h : w.ownsRow base e 1 v n l) (hf : Fr w.heap.size g w w') (hg : g < base) : w'.ownsRow base e 1 v n l := by
  obtain ⟨h1, h2 | ⟨g', cap', cur, h3, h4, h5, h6⟩⟩ := h
  · exact ⟨h1, .inl h2⟩
  · refine ⟨h1, .inr ⟨g', cap', cur, h3, h4, ?_, h6⟩⟩
    rw [hf.block g' (Array.getElem?_eq_some_iff.1 h5).1 (by omega)]
    exact h5

def Res (w : World) (base : Nat) (v : Value) (c : Int) (ok : Bool) (L : List Int) : Prop :=
  (ok = true ∧ c = 0 ∧ w.ownsRow base 5 1 v L.length (nums .u8 L)) ∨ (ok = false ∧ c = 4 ∧ v = .slice none 0 0)
theorem Res.below {w w' : World} {base : Nat} {v : Value} {c : Int} {ok : Bool} {L : List Int} (h : Res w base v c ok L) (hb : Below w.heap.size w w') : Res w' base v c ok L :=
  h.imp (fun ⟨h1, h2, h3⟩ => ⟨h1, h2, pw_own_below h3 hb⟩) id
theorem Res.fr {w w' : World} {base g : Nat} {v : Value} {c : Int} {ok : Bool} {L : List Int} (h : Res w base v c ok L) (hf : Fr w.heap.size g w w') (hg : g < base) : Res w' base v c ok L :=
  h.imp (fun ⟨h1, h2, h3⟩ => ⟨h1, h2, own_fr h3 hf hg⟩) id

set_option maxRecDepth 100000 in
set_option maxHeartbeats 1000000 in
theorem law_seals (key nonce beside text : ByteArray) (w : World) :
    Calls Try.prog 5 #[.string key, .string nonce, .string beside, .string text] w fun e w' => e = .returned (.bool true) ∧ Below w.heap.size w w' := by
  by_cases h1 : (65536 : Int) < (key.size : Int)
  · go_enter Try.func5, Try.ntmps5
    go_wp2_with fail
    go_ret
    exact ⟨rfl, Below.refl _ _⟩
  by_cases h2 : (65536 : Int) < (nonce.size : Int)
  · go_enter Try.func5, Try.ntmps5
    go_wp2_with fail
    go_ret
    exact ⟨rfl, Below.refl _ _⟩
  by_cases h3 : (65536 : Int) < (beside.size : Int)
  · go_enter Try.func5, Try.ntmps5
    go_wp2_with fail
    go_ret
    exact ⟨rfl, Below.refl _ _⟩
  by_cases h4 : (65536 : Int) < (text.size : Int)
  · go_enter Try.func5, Try.ntmps5
    go_wp2_with fail
    go_ret
    exact ⟨rfl, Below.refl _ _⟩
  have t2 : nonce.size ≤ 1000000 := by omega
  have t3 : beside.size ≤ 200000 := by omega
  have t4 : text.size ≤ 200000 := by omega
  have kb := fun s W => print_bytes (P := Try.prog) 9 23 5 Try.underlying9 Try.underlying23 Try.underlying5 s W
  have p2 : (nonce.size : Int) ≤ (nonce.size : Int) + 160 := by omega
  have p3 : (beside.size : Int) ≤ (beside.size : Int) + 160 := by omega
  have p4 : (text.size : Int) ≤ (text.size : Int) + 160 := by omega
  by_cases hl : key.size = 32 ∧ nonce.size = 12
  · obtain ⟨hk, hn⟩ := hl
    replace hk := Go.Lib.hid hk
    replace hn := Go.Lib.hid hn
    go_enter Try.func5, Try.ntmps5
    go_wp2_with fail
    refine (lent_any beside _ (by omega)).mono ?_
    rintro e w1 ⟨gu, rfl, hbu, hgu, hbel⟩
    replace hbu := Go.Lib.hid hbu
    have s01 := hbel.size
    go_wp2_with fail
    refine (lent_any text _ (by omega)).mono ?_
    rintro e w2 ⟨gx, rfl, hbx, hgx, hb2⟩
    replace hbx := Go.Lib.hid hbx
    replace hbu := Go.Lib.hid (hbu.out.below hb2)
    replace hbel := below_then hbel hbel.size hb2
    clear hb2
    go_wp2_with fail
    refine (lent_any nonce _ (by omega)).mono ?_
    rintro e w3 ⟨gy, rfl, hby, hgy, hb3⟩
    replace hby := Go.Lib.hid hby
    replace hbu := Go.Lib.hid (hbu.out.below hb3)
    replace hbx := Go.Lib.hid (hbx.out.below hb3)
    replace hbel := below_then hbel hbel.size hb3
    have hx3 : gx < w3.heap.size := hbx.out.lt
    clear hb3
    go_wp2_with fail
    refine region_eff (T := World) id [false, true, false, false, false, false, false, false, false, false, false, false, false, false, true] (by kernel_rfl) (by kernel_rfl) ⟨_, rfl⟩ ?_
    simp only [masked_cons, masked_out, masked_nil]
    repeat (refine wlk_pure fun K hK => ?_; go_simp; refine hK _ ?_; clear hK K)
    refine wlk_eff fun K hK => ?_
    go_simp
    refine hK _ _ ⟨_, rfl⟩ ?_
    clear hK K
    repeat (refine wlk_pure fun K hK => ?_; go_simp; refine hK _ ?_; clear hK K)
    refine wlk_eff fun K hK => ?_
    go_simp
    have hw4 : Below w3.heap.size w3 (Lib.bytesWorld w3.drew 5 key) := (Below.refl _ _).drew.trans (one_bel w3.drew key)
    have rk4 : ReadsInt (Lib.bytesWorld w3.drew 5 key) .u8 (some ⟨w3.heap.size, 0, none⟩) 32 (bytesOf key) := one_key w3.drew key hk.out (by omega)
    have ry4 := rd_len (lent_text (hby.out.below hw4) t2) hn.out
    obtain ⟨kc, ekc⟩ : ∃ kc, kc = grownCap w3.drew key.size 0 5 := ⟨_, rfl⟩
    have hkc : 32 ≤ kc := by rw [ekc, ← hk.out]; exact grownCap_ge _ _ _ _
    rw [← ekc, hk.out, hn.out]
    clear ekc
    refine (pseal_yes _ _ _ _ _ _ _ _ _ _ (bytesOf key) (bytesOf nonce) (bytesOf beside) (bytesOf text) _ rk4 ry4 (lent_text (hbu.out.below hw4) (by omega)) (lent_text (hbx.out.below hw4) (by omega)) (Byt.of _) (Byt.of _) (Byt.of _) hkc (by omega) t3 t4).mono ?_
    rintro e w5 ⟨va, rfl, hoa, hb5⟩
    refine hK _ _ ⟨_, rfl⟩ ?_
    clear hK K rk4 ry4
    replace hb5 := below_then hw4 hw4.size hb5
    replace hoa := Go.Lib.hid (own_weaken hoa hw4.size)
    replace hbu := Go.Lib.hid (hbu.out.below hb5)
    replace hbx := Go.Lib.hid (hbx.out.below hb5)
    replace hby := Go.Lib.hid (hby.out.below hb5)
    replace hbel := below_then hbel hbel.size hb5
    have s35 := hb5.size
    clear hw4 hb5
    repeat (refine wlk_pure fun K hK => ?_; go_simp; refine hK _ ?_; clear hK K)
    refine wlk_nil ?_
    go_wp2_with fail
    have p5 : (nonce.size : Int) ≤ 172 := by rw [hn.out]; omega
    refine region_eff (T := World) id [false, true, false, false, false, false, false, false, false, false, false, false, false, false, true] (by kernel_rfl) (by kernel_rfl) ⟨_, rfl⟩ ?_
    simp only [masked_cons, masked_out, masked_nil]
    repeat (refine wlk_pure fun K hK => ?_; go_simp; refine hK _ ?_; clear hK K)
    refine wlk_eff fun K hK => ?_
    go_simp
    refine hK _ _ ⟨_, rfl⟩ ?_
    clear hK K
    repeat (refine wlk_pure fun K hK => ?_; go_simp; refine hK _ ?_; clear hK K)
    refine wlk_eff fun K hK => ?_
    go_simp
    have hw6 : Below w5.heap.size w5 (Lib.bytesWorld w5.drew 5 key) := (Below.refl _ _).drew.trans (one_bel w5.drew key)
    have rk6 : ReadsInt (Lib.bytesWorld w5.drew 5 key) .u8 (some ⟨w5.heap.size, 0, none⟩) 32 (bytesOf key) := one_key w5.drew key hk.out (by omega)
    have ry6 := rd_len (lent_text (hby.out.below hw6) t2) hn.out
    obtain ⟨kc2, ekc2⟩ : ∃ kc, kc = grownCap w5.drew key.size 0 5 := ⟨_, rfl⟩
    have hkc2 : 32 ≤ kc2 := by rw [ekc2, ← hk.out]; exact grownCap_ge _ _ _ _
    rw [← ekc2, hk.out, hn.out]
    clear ekc2
    refine (popen_any _ _ _ _ _ _ _ _ _ _ (bytesOf key) (bytesOf nonce) (bytesOf beside) (bytesOf text) _ rk6 ry6 (lent_text (hbu.out.below hw6) (by omega)) (lent_text (hbx.out.below hw6) (by omega)) (Byt.of _) (Byt.of _) (Byt.of _) (Byt.of _) hkc2 (by omega) (by omega) t3 t4).mono ?_
    rintro e w6 ⟨vb, cb, rfl, hob, hb6⟩
    refine hK _ _ ⟨_, rfl⟩ ?_
    clear hK K rk6 ry6
    replace hb6 := below_then hw6 hw6.size hb6
    replace hoa := Go.Lib.hid (pw_own_below hoa.out hb6)
    replace hob := Go.Lib.hid (show Res w6 _ vb cb _ _ from hob)
    have hob5 := hw6.size
    replace hbu := Go.Lib.hid (hbu.out.below hb6)
    replace hbx := Go.Lib.hid (hbx.out.below hb6)
    replace hby := Go.Lib.hid (hby.out.below hb6)
    replace hbel := below_then hbel hbel.size hb6
    clear hb6
    repeat (refine wlk_pure fun K hK => ?_; go_simp; refine hK _ ?_; clear hK K)
    refine wlk_nil ?_
    go_wp2_with fail
    refine (still_any _ _ _ _ beside _ (by omega) (lent_reads hbu.out (by omega)) rfl).mono ?_
    rintro e w7 ⟨rfl, hb7⟩
    replace hoa := Go.Lib.hid (pw_own_below hoa.out hb7)
    replace hob := Go.Lib.hid (hob.out.below hb7)
    replace hbx := Go.Lib.hid (hbx.out.below hb7)
    replace hby := Go.Lib.hid (hby.out.below hb7)
    replace hbel := below_then hbel hbel.size hb7
    clear hb7 hbu
    go_wp2_with fail
    refine (still_any _ _ _ _ text _ (by omega) (lent_reads hbx.out (by omega)) rfl).mono ?_
    rintro e w8 ⟨rfl, hb8⟩
    replace hoa := Go.Lib.hid (pw_own_below hoa.out hb8)
    replace hob := Go.Lib.hid (hob.out.below hb8)
    replace hbx := Go.Lib.hid (hbx.out.below hb8)
    replace hby := Go.Lib.hid (hby.out.below hb8)
    replace hbel := below_then hbel hbel.size hb8
    clear hb8
    go_wp2_with fail
    have hry := Go.Lib.hid (rd_len (lent_reads hby.out (by omega)) (by rw [hn.out] : nonce.size + 160 = 172))
    refine (still_any _ _ _ _ nonce _ (by omega) hry.out rfl).mono ?_
    rintro e w9 ⟨rfl, hb9⟩
    replace hoa := Go.Lib.hid (pw_own_below hoa.out hb9)
    replace hob := Go.Lib.hid (hob.out.below hb9)
    replace hbx := Go.Lib.hid (hbx.out.below hb9)
    replace hbel := below_then hbel hbel.size hb9
    clear hb9 hby hry
    go_wp2_with fail
    have hO : Hid (∃ L, Blk w9 gx .u8 5 L ∧ L.length = text.size + 160 ∧ Fr w9.heap.size gx w9 w9) := Go.Lib.hid ⟨_, hbx.out, by rw [lentL_len, bytesOf_length], Fr.refl _ _ _⟩
    clear hbx
    go_loopw [19] (fun x wr => ∃ k : Nat, k ≤ text.size + 160 ∧ x = .int .i64 k ∧ Hid (∃ L, Blk wr gx .u8 5 L ∧ L.length = text.size + 160 ∧ Fr w9.heap.size gx w9 wr)) (fun x _ => text.size + 160 - (intOf x).toNat)
    case atStart => exact ⟨0, by omega, rfl, hO⟩
    case round =>
      obtain ⟨k, hkk, rfl, hO⟩ := hrel
      obtain ⟨L, hL, hLl, hF⟩ := hO.out
      replace hLl := Go.Lib.hid hLl
      by_cases hlt : k < text.size + 160
      · have ck := hL.cell k (by rw [hLl.out]; exact hlt)
        have fk := hL.frozen k
        have ik : (k : Int) < (text.size : Int) + 160 := by omega
        replace hL := Go.Lib.hid hL
        replace hF := Go.Lib.hid hF
        clear hO
        go_wp2_with fail
        go_roundw
        case rel => exact ⟨k + 1, by omega, by go_num, Go.Lib.hid ⟨_, hL.out.set k 0, set_len hLl.out _ _, hF.out.set k _⟩⟩
        case measure => simp [intOf]; omega
      · obtain rfl : k = text.size + 160 := by omega
        have ik : ¬ ((text.size : Int) + 160 < (text.size : Int) + 160) := by omega
        replace hoa := Go.Lib.hid (own_fr hoa.out hF hx3)
        have hx6 : gx < (Lib.bytesWorld w5.drew 5 key).heap.size := by omega
        replace hob := Go.Lib.hid (hob.out.fr hF hx6)
        replace hbel : Below w.heap.size w wr := hbel.trans ((hF.mono hbel.size).below (by omega))
        clear hO hL hF
        have g1 : ((key.size : Int) != 32) = false := by rw [hk.out]; rfl
        have g2 : ((nonce.size : Int) != 12) = false := by rw [hn.out]; rfl
        obtain ⟨wo, rfl⟩ : ∃ wo : World, wo = wr := ⟨_, rfl⟩
        go_wp2_with fail
        refine (rseal_any key nonce beside text _ hk.out hn.out (by omega) (by omega)).mono ?_
        rintro e w10 ⟨rfl, hb10⟩
        replace hoa := Go.Lib.hid (pw_own_below hoa.out hb10)
        replace hob := Go.Lib.hid (hob.out.below hb10)
        replace hbel := below_then hbel hbel.size hb10
        obtain ⟨Aa, ca, rfl, hra⟩ := own_reads hoa.out
        have q1 := str_readsP (P := Try.prog) (src := 23) (dst := 9) Try.underlying23 Try.underlying5 Try.underlying9 ca hra
        obtain ⟨S, eS⟩ : ∃ S, S = strOfNums (sealL (bytesOf key) (bytesOf nonce) (bytesOf beside) (bytesOf text)) := ⟨_, rfl⟩
        rw [← eS] at q1 ⊢
        replace eS := Go.Lib.hid eS
        clear hra hoa hb10
        have hSS : (S.toList == S.toList) = true := by simp
        go_wp2_with fail
        refine (ropen_any key nonce beside text _ hk.out hn.out (by omega) (by omega)).mono ?_
        rintro e w11 ⟨⟨s, ok, rfl, hok, hs⟩, hb11⟩
        replace hob := hob.out.below hb11
        replace hbel := below_then hbel hbel.size hb11
        have hob2 : openB (bytesOf key) (bytesOf nonce) (bytesOf beside) (bytesOf text) = ok := by rw [hok, openB, bytesOf_length]
        replace hok := Go.Lib.hid hok
        rcases hob with ⟨ho, rfl, hov⟩ | ⟨ho, rfl, rfl⟩
        · obtain rfl : ok = true := hob2.symm.trans ho
          have es := hs rfl
          obtain ⟨Ab, cb, rfl, hrb⟩ := own_reads hov
          have q2 := str_readsP (P := Try.prog) (src := 23) (dst := 9) Try.underlying23 Try.underlying5 Try.underlying9 cb hrb
          rw [← es] at q2
          have hss : (s.toList == s.toList) = true := by simp
          replace es := Go.Lib.hid es
          clear hrb hov hs hob2 ho hb11 q1
          go_wp2_with fail
          go_ret
          exact ⟨rfl, hbel⟩
        · obtain rfl : ok = false := hob2.symm.trans ho
          clear hs hob2 ho hb11 q1
          go_wp2_with fail
          go_ret
          exact ⟨rfl, hbel⟩
  · have hl' : key.size ≠ 32 ∨ nonce.size ≠ 12 := by omega
    replace hl' := Go.Lib.hid hl'
    clear hl
    have hg1 : Hid ((((key.size : Int) != 32) = true) ∨ (((key.size : Int) != 32) = false ∧ ((nonce.size : Int) != 12) = true)) := Go.Lib.hid (by
      have := hl'.out
      by_cases h : key.size = 32
      · right; constructor
        · simp [bne, h]
        · simp only [bne_iff_ne]; omega
      · left; simp only [bne_iff_ne]; omega)
    go_enter Try.func5, Try.ntmps5
    go_wp2_with fail
    refine (lent_any beside _ (by omega)).mono ?_
    rintro e w1 ⟨gu, rfl, hbu, hgu, hbel⟩
    replace hbu := Go.Lib.hid hbu
    have s01 := hbel.size
    go_wp2_with fail
    refine (lent_any text _ (by omega)).mono ?_
    rintro e w2 ⟨gx, rfl, hbx, hgx, hb2⟩
    replace hbx := Go.Lib.hid hbx
    replace hbu := Go.Lib.hid (hbu.out.below hb2)
    replace hbel := below_then hbel hbel.size hb2
    clear hb2
    go_wp2_with fail
    refine (lent_any nonce _ (by omega)).mono ?_
    rintro e w3 ⟨gy, rfl, hby, hgy, hb3⟩
    replace hby := Go.Lib.hid hby
    replace hbu := Go.Lib.hid (hbu.out.below hb3)
    replace hbx := Go.Lib.hid (hbx.out.below hb3)
    replace hbel := below_then hbel hbel.size hb3
    clear hb3
    go_wp2_with fail
    refine region_eff (T := World) id [false, true, false, false, false, false, false, false, false, false, false, false, false, false, true] (by kernel_rfl) (by kernel_rfl) ⟨_, rfl⟩ ?_
    simp only [masked_cons, masked_out, masked_nil]
    repeat (refine wlk_pure fun K hK => ?_; go_simp; refine hK _ ?_; clear hK K)
    refine wlk_eff fun K hK => ?_
    go_simp
    refine hK _ _ ⟨_, rfl⟩ ?_
    clear hK K
    repeat (refine wlk_pure fun K hK => ?_; go_simp; refine hK _ ?_; clear hK K)
    refine wlk_eff fun K hK => ?_
    go_simp
    refine (pseal_no _ _ _ _ _ _ _ _ _ hl'.out).mono ?_
    rintro e w5 ⟨rfl, hw5⟩
    refine hK _ _ ⟨_, rfl⟩ ?_
    clear hK K
    have hb5 : Below w3.heap.size w3 w5 := by rw [hw5]; exact (Below.refl _ _).drew.trans (one_bel w3.drew key)
    replace hbu := Go.Lib.hid (hbu.out.below hb5)
    replace hbx := Go.Lib.hid (hbx.out.below hb5)
    replace hby := Go.Lib.hid (hby.out.below hb5)
    replace hbel := below_then hbel hbel.size hb5
    clear hb5 hw5
    repeat (refine wlk_pure fun K hK => ?_; go_simp; refine hK _ ?_; clear hK K)
    refine wlk_nil ?_
    go_wp2_with fail
    refine region_eff (T := World) id [false, true, false, false, false, false, false, false, false, false, false, false, false, false, true] (by kernel_rfl) (by kernel_rfl) ⟨_, rfl⟩ ?_
    simp only [masked_cons, masked_out, masked_nil]
    repeat (refine wlk_pure fun K hK => ?_; go_simp; refine hK _ ?_; clear hK K)
    refine wlk_eff fun K hK => ?_
    go_simp
    refine hK _ _ ⟨_, rfl⟩ ?_
    clear hK K
    repeat (refine wlk_pure fun K hK => ?_; go_simp; refine hK _ ?_; clear hK K)
    refine wlk_eff fun K hK => ?_
    go_simp
    refine (popen_no _ _ _ _ _ _ _ _ _ _ _ hl'.out (by omega)).mono ?_
    rintro e w6 ⟨rfl, hw6⟩
    refine hK _ _ ⟨_, rfl⟩ ?_
    clear hK K
    have hb6 : Below w5.heap.size w5 w6 := by rw [hw6]; exact (Below.refl _ _).drew.trans (one_bel w5.drew key)
    replace hbu := Go.Lib.hid (hbu.out.below hb6)
    replace hbx := Go.Lib.hid (hbx.out.below hb6)
    replace hby := Go.Lib.hid (hby.out.below hb6)
    replace hbel := below_then hbel hbel.size hb6
    clear hb6 hw6
    repeat (refine wlk_pure fun K hK => ?_; go_simp; refine hK _ ?_; clear hK K)
    refine wlk_nil ?_
    go_wp2_with fail
    refine (still_any _ _ _ _ beside _ (by omega) (lent_reads hbu.out (by omega)) rfl).mono ?_
    rintro e w7 ⟨rfl, hb7⟩
    replace hbx := Go.Lib.hid (hbx.out.below hb7)
    replace hby := Go.Lib.hid (hby.out.below hb7)
    replace hbel := below_then hbel hbel.size hb7
    clear hb7 hbu
    go_wp2_with fail
    refine (still_any _ _ _ _ text _ (by omega) (lent_reads hbx.out (by omega)) rfl).mono ?_
    rintro e w8 ⟨rfl, hb8⟩
    replace hbx := Go.Lib.hid (hbx.out.below hb8)
    replace hby := Go.Lib.hid (hby.out.below hb8)
    replace hbel := below_then hbel hbel.size hb8
    clear hb8
    go_wp2_with fail
    refine (still_any _ _ _ _ nonce _ (by omega) (lent_reads hby.out (by omega)) rfl).mono ?_
    rintro e w9 ⟨rfl, hb9⟩
    replace hbx := Go.Lib.hid (hbx.out.below hb9)
    replace hbel := below_then hbel hbel.size hb9
    clear hb9 hby
    go_wp2_with fail
    have hO : Hid (∃ L, Blk w9 gx .u8 5 L ∧ L.length = text.size + 160 ∧ Fr w9.heap.size gx w9 w9) := Go.Lib.hid ⟨_, hbx.out, by rw [lentL_len, bytesOf_length], Fr.refl _ _ _⟩
    clear hbx
    go_loopw [19] (fun x wr => ∃ k : Nat, k ≤ text.size + 160 ∧ x = .int .i64 k ∧ Hid (∃ L, Blk wr gx .u8 5 L ∧ L.length = text.size + 160 ∧ Fr w9.heap.size gx w9 wr)) (fun x _ => text.size + 160 - (intOf x).toNat)
    case atStart => exact ⟨0, by omega, rfl, hO⟩
    case round =>
      obtain ⟨k, hkk, rfl, hO⟩ := hrel
      obtain ⟨L, hL, hLl, hF⟩ := hO.out
      replace hLl := Go.Lib.hid hLl
      by_cases hlt : k < text.size + 160
      · have ck := hL.cell k (by rw [hLl.out]; exact hlt)
        have fk := hL.frozen k
        have ik : (k : Int) < (text.size : Int) + 160 := by omega
        replace hL := Go.Lib.hid hL
        replace hF := Go.Lib.hid hF
        clear hO
        go_wp2_with fail
        go_roundw
        case rel => exact ⟨k + 1, by omega, by go_num, Go.Lib.hid ⟨_, hL.out.set k 0, set_len hLl.out _ _, hF.out.set k _⟩⟩
        case measure => simp [intOf]; omega
      · obtain rfl : k = text.size + 160 := by omega
        have ik : ¬ ((text.size : Int) + 160 < (text.size : Int) + 160) := by omega
        replace hbel : Below w.heap.size w wr := hbel.trans ((hF.mono hbel.size).below (by omega))
        clear hO hL hF
        obtain ⟨wo, rfl⟩ : ∃ wo : World, wo = wr := ⟨_, rfl⟩
        rcases hg1.out with hq | ⟨hq, hq2⟩
        all_goals
          go_wp2_with fail
          go_ret
          exact ⟨rfl, hbel⟩
end Go.Proofs.Ytdocbmgledebaaa
