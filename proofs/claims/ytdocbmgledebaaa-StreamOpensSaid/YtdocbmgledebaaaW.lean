/-
  newWords: the words at the beginning of a block.
-/
import Derived.Test.YtdocbmgledebaaaN
import Derived.Outline
namespace Go.Proofs.Ytdocbmgledebaaa
set_option linter.unusedVariables false
set_option linter.unusedSimpArgs false
open Go.RowKit Go.Proofs.YtdocbmgledebaaaW.PrintWords

theorem results_blk {P : Program} {fn : Func} {p : Tmp} {ty : TypeId} (h : fn.results = #[.cell p ty]) (tmps : Array Value) (w : World) {g : Nat} {k : IntKind} {t : TypeId} {l : List Int} (hp : tmps.getD p undef = .pointer (some ⟨g, 0, none⟩)) (hb : Blk w g k t l)
    {d : TypeDesc} (hu : P.underlying ty = some d) (hd : (match d with | .struct _ | .array _ _ => true | _ => false) = true) (hi : (P.info? ty).map (·.size) = some l.length) :
    (results fn tmps).run P w = .ok (.agg (l.map (Value.int k)).toArray) w := results_cell_row h tmps w g t _ (0, 0) d hp hb hu hd (by rw [hi]; simp)

def w4 (l : List Int) (i : Nat) : Int := le4 (el l i) (el l (i + 1)) (el l (i + 2)) (el l (i + 3))
def headS : ByteArray := ⟨#[101, 120, 112, 97, 110, 100, 32, 51, 50, 45, 98, 121, 116, 101, 32, 107]⟩
def initL (key : List Int) (ctr : Int) (nonce : List Int) : List Int :=
  (List.range 4).map (fun i => w4 (bytesOf headS) (4 * i)) ++ (List.range 8).map (fun i => w4 key (4 * i)) ++ [ctr] ++ (List.range 3).map (fun i => w4 nonce (4 * i))

/-- block G holds sixteen words, the first k as in I; below B nothing has turned -/
def Part (B : Nat) (w : World) (G : Nat) (I : List Int) (k : Nat) (wr : World) : Prop :=
  ∃ L, Blk wr G .u32 45 L ∧ L.length = 16 ∧ (∀ i, i < k → el L i = el I i) ∧ Below B w wr
theorem Part.set {B G k : Nat} {w wr : World} {I : List Int} (h : Part B w G I k wr) (hG : B ≤ G) (hk : k < 16) (v : Int) (hv : v = el I k) : Part B w G I (k + 1) (wr.setCell ⟨G, k, none⟩ (.int .u32 v)) := by
  obtain ⟨L, hb, hl, hp, hbe⟩ := h
  refine ⟨_, hb.set k v, by simp [hl], fun i hi => ?_, hbe.setCell hG _⟩
  rw [el_set]
  by_cases e : k = i
  · rw [if_pos ⟨e, by omega⟩, hv, e]
  · rw [if_neg (fun h => e h.1)]; exact hp i (by omega)
theorem Part.cell {B G k : Nat} {w wr : World} {I : List Int} (h : Part B w G I k wr) (i : Nat) (hi : i < 16) : ∃ v, wr.cell? ⟨G, i, none⟩ = some (.int .u32 v) := by
  obtain ⟨L, hb, hl, _, _⟩ := h
  exact ⟨_, hb.cell i (by omega)⟩
theorem Part.frozen {B G k : Nat} {w wr : World} {I : List Int} (h : Part B w G I k wr) (i : Nat) : wr.frozen? ⟨G, i, none⟩ = false := by
  obtain ⟨L, hb, _⟩ := h
  exact hb.frozen i
theorem Part.below {B G k : Nat} {w wr w2 : World} {I : List Int} (h : Part B w G I k wr) (hB : B ≤ w.heap.size) (hb : Below wr.heap.size wr w2) : Part B w G I k w2 := by
  obtain ⟨L, h1, h2, h3, h4⟩ := h
  exact ⟨L, h1.below hb, h2, h3, h4.trans (hb.mono (Nat.le_trans hB h4.size))⟩
theorem Part.bel {B G k : Nat} {w wr : World} {I : List Int} (h : Part B w G I k wr) : Below B w wr := by
  obtain ⟨L, h1, h2, h3, h4⟩ := h
  exact h4
theorem Part.lt {B G k : Nat} {w wr : World} {I : List Int} (h : Part B w G I k wr) : G < wr.heap.size := by
  obtain ⟨L, h1, h2, h3, h4⟩ := h
  exact h1.lt

theorem info_u8 : (Try.prog.info? 5).map (fun i => (i.zero, i.size, i.bytes)) = some (some (.int .u8 0), 1, 1) := by kernel_rfl
theorem w4_drop (l : List Int) (a b i : Nat) (h : a + i + 4 ≤ b) : w4 ((l.take b).drop a) i = w4 l (a + i) := by
  simp only [w4, el_drop]
  rw [el_take _ _ _ (by omega), el_take _ _ _ (by omega), el_take _ _ _ (by omega), el_take _ _ _ (by omega)]
  simp only [Nat.add_assoc]
theorem initL_len (key : List Int) (ctr : Int) (nonce : List Int) : (initL key ctr nonce).length = 16 := by simp [initL]
theorem initL_head (key : List Int) (ctr : Int) (nonce : List Int) (k : Nat) (h : k < 4) : el (initL key ctr nonce) k = w4 (bytesOf headS) (4 * k) := by
  obtain rfl | rfl | rfl | rfl : k = 0 ∨ k = 1 ∨ k = 2 ∨ k = 3 := by omega
  all_goals rfl
theorem initL_key (key : List Int) (ctr : Int) (nonce : List Int) (k : Nat) (h : k < 8) : el (initL key ctr nonce) (4 + k) = w4 key (4 * k) := by
  obtain rfl | rfl | rfl | rfl | rfl | rfl | rfl | rfl : k = 0 ∨ k = 1 ∨ k = 2 ∨ k = 3 ∨ k = 4 ∨ k = 5 ∨ k = 6 ∨ k = 7 := by omega
  all_goals rfl
theorem initL_ctr (key : List Int) (ctr : Int) (nonce : List Int) : el (initL key ctr nonce) 12 = ctr := rfl
theorem initL_nonce (key : List Int) (ctr : Int) (nonce : List Int) (k : Nat) (h : k < 3) : el (initL key ctr nonce) (13 + k) = w4 nonce (4 * k) := by
  obtain rfl | rfl | rfl : k = 0 ∨ k = 1 ∨ k = 2 := by omega
  all_goals rfl

set_option maxRecDepth 100000 in
set_option maxHeartbeats 1000000 in
theorem newWords_any (A0 A1 : Option Addr) (c0 c1 : Nat) (key nonce : List Int) (ctr : Int) (w : World) (hk : ReadsInt w .u8 A0 32 key) (hn : ReadsInt w .u8 A1 12 nonce)
    (hkb : Byt key) (hnb : Byt nonce) (hc0 : 32 ≤ c0) (hc1 : 12 ≤ c1) :
    Calls Try.prog 20 #[.slice A0 32 c0, .int .u32 ctr, .slice A1 12 c1] w fun e w' =>
      e = .returned (.agg ((initL key ctr nonce).map (Value.int .u32)).toArray) ∧ Below w.heap.size w w' := by
  have kb := fun s W => print_bytes (P := Try.prog) 9 23 5 Try.underlying9 Try.underlying23 Try.underlying5 s W
  obtain ⟨i8, hi8, _, hz8, _⟩ := info_parts info_u8
  replace hi8 := Go.Lib.hid hi8
  replace hz8 := Go.Lib.hid hz8
  have HK := Go.Lib.hid hk
  have HN := Go.Lib.hid hn
  clear hk hn
  go_enter Try.func20, Try.ntmps20
  go_wp2_with fail
  have hP : Part w.heap.size w w.heap.size (initL key ctr nonce) 0 (w.alloc (.cells #[.int .u32 0, .int .u32 0, .int .u32 0, .int .u32 0, .int .u32 0, .int .u32 0, .int .u32 0, .int .u32 0, .int .u32 0, .int .u32 0, .int .u32 0, .int .u32 0, .int .u32 0, .int .u32 0, .int .u32 0, .int .u32 0] 45)) :=
    ⟨List.replicate 16 0, Blk.new w .u32 45 (List.replicate 16 0), by simp, fun i hi => by omega, (Below.refl _ _).alloc (Nat.le_refl _) _⟩
  generalize w.alloc _ = x0 at hP ⊢
  obtain ⟨B, eB⟩ : ∃ B, B = w.heap.size := ⟨_, rfl⟩
  obtain ⟨I, eI⟩ : ∃ I, I = initL key ctr nonce := ⟨_, rfl⟩
  rw [← eB, ← eI] at hP
  rw [← eB]
  have EB := Go.Lib.hid eB
  have EI := Go.Lib.hid eI
  have hBw : B ≤ w.heap.size := Nat.le_of_eq eB
  clear eB eI
  go_loopw [10, 7] (fun i _ wr => ∃ k : Nat, k ≤ 4 ∧ i = .int .i64 k ∧ Part B w B I k wr) (fun i _ _ => 4 - (intOf i).toNat)
  case atStart => exact ⟨0, by omega, rfl, hP⟩
  case round =>
    obtain ⟨k, hk, rfl, hP⟩ := hrel
    by_cases hlt : k < 4
    · go_wp2_with fail
      have hsz : (headS.extract (4 * k) 16).size = 16 - 4 * k := by simp [headS, ByteArray.size_extract]; rfl
      have hr := rd_len (bytes_reads wr 5 (headS.extract (4 * k) 16) (by omega)) hsz
      refine (low32_any _ _ _ _ _ hr (by omega) (Byt.of _)).mono ?_
      rintro e w1 ⟨rfl, hw1⟩
      have hP' : Part B w B I k w1 := by
        obtain ⟨m, rfl⟩ := hw1
        exact hP.below hBw (pw_below_drewN (bytes_below (Below.refl _ _) (Nat.le_refl _) _ _) _)
      have hv : w4 (bytesOf (headS.extract (4 * k) 16)) 0 = el I k := by
        rw [EI.out, initL_head _ _ _ _ hlt, bytesOf_extract, w4_drop _ _ _ _ (by omega)]; rfl
      replace hv := Go.Lib.hid hv
      obtain ⟨v0, hc⟩ := hP'.cell k (by omega)
      have hf := hP'.frozen k
      have hlt' : (k : Int) < 16 := by omega
      clear hr hP hw1 hsz
      go_wp2_with fail
      go_roundw
      case rel => exact ⟨k + 1, by omega, by go_num, hP'.set (Nat.le_refl _) (by omega) _ hv.out⟩
      case measure => simp [intOf]; omega
    · obtain rfl : k = 4 := by omega
      rw [show ((4 : Nat) : Int) = 4 from rfl]
      go_wp2_with fail
      go_loopw [21, 8] (fun i _ wr => ∃ k : Nat, k ≤ 8 ∧ i = .int .i64 k ∧ Part B w B I (4 + k) wr) (fun i _ _ => 8 - (intOf i).toNat)
      case atStart => exact ⟨0, by omega, rfl, hP⟩
      case round =>
        obtain ⟨k, hk, rfl, hP⟩ := hrel
        by_cases hlt : k < 8
        · obtain ⟨A', hcut, hA'⟩ := print_cut (P := Try.prog) 23 5 .i64 Try.underlying23 hi8.out hz8.out A0 32 c0 (4 * k) (by omega)
          rw [show ((4 * k : Nat) : Int) = 4 * (k : Int) from by omega] at hcut
          go_wp2_with fail
          have hr := hA' wr .u8 key hc0 (HK.out.below (EB.out ▸ hP.bel))
          clear hA'
          refine (low32_any _ _ _ _ _ hr (by omega) (hkb.drop _)).mono ?_
          rintro e w1 ⟨rfl, hw1⟩
          have hP' : Part B w B I (4 + k) w1 := by
            obtain ⟨m, rfl⟩ := hw1
            exact hP.below hBw (pw_below_drewN (Below.refl _ _) _)
          have hv : w4 (key.drop (4 * k)) 0 = el I (4 + k) := by
            rw [EI.out, initL_key _ _ _ _ hlt]; simp only [w4, el_drop, Nat.add_zero, Nat.zero_add, Nat.add_assoc]
          replace hv := Go.Lib.hid hv
          obtain ⟨v0, hc⟩ := hP'.cell (4 + k) (by omega)
          have hf := hP'.frozen (4 + k)
          have hlt' : (k : Int) < 8 := by omega
          clear hr hP hw1 hcut
          go_wp2_with fail
          go_roundw
          case rel => exact ⟨k + 1, by omega, by go_num, hP'.set (Nat.le_refl _) (by omega) _ hv.out⟩
          case measure => simp [intOf]; omega
        · obtain rfl : k = 8 := by omega
          rw [show ((8 : Nat) : Int) = 8 from rfl]
          obtain ⟨v0, hc⟩ := hP.cell 12 (by omega)
          have hf := hP.frozen 12
          go_wp2_with fail
          have hv : ctr = el I 12 := by rw [EI.out]; rfl
          replace hP := hP.set (Nat.le_refl _) (by omega) _ hv
          simp only [show 4 + 8 = 12 from rfl] at hP
          clear hv hc hf
          generalize wr.setCell _ _ = wr at hP ⊢
          go_loopw [35, 9] (fun i _ wr => ∃ k : Nat, k ≤ 3 ∧ i = .int .i64 k ∧ Part B w B I (13 + k) wr) (fun i _ _ => 3 - (intOf i).toNat)
          case atStart => exact ⟨0, by omega, rfl, hP⟩
          case round =>
            obtain ⟨k, hk, rfl, hP⟩ := hrel
            by_cases hlt : k < 3
            · obtain ⟨A', hcut, hA'⟩ := print_cut (P := Try.prog) 23 5 .i64 Try.underlying23 hi8.out hz8.out A1 12 c1 (4 * k) (by omega)
              rw [show ((4 * k : Nat) : Int) = 4 * (k : Int) from by omega] at hcut
              go_wp2_with fail
              have hr := hA' wr .u8 nonce hc1 (HN.out.below (EB.out ▸ hP.bel))
              clear hA'
              refine (low32_any _ _ _ _ _ hr (by omega) (hnb.drop _)).mono ?_
              rintro e w1 ⟨rfl, hw1⟩
              have hP' : Part B w B I (13 + k) w1 := by
                obtain ⟨m, rfl⟩ := hw1
                exact hP.below hBw (pw_below_drewN (Below.refl _ _) _)
              have hv : w4 (nonce.drop (4 * k)) 0 = el I (13 + k) := by
                rw [EI.out, initL_nonce _ _ _ _ hlt]; simp only [w4, el_drop, Nat.add_zero, Nat.zero_add, Nat.add_assoc]
              replace hv := Go.Lib.hid hv
              obtain ⟨v0, hc⟩ := hP'.cell (13 + k) (by omega)
              have hf := hP'.frozen (13 + k)
              have hlt' : (k : Int) < 3 := by omega
              clear hr hP hw1 hcut
              go_wp2_with fail
              go_roundw
              case rel => exact ⟨k + 1, by omega, by go_num, hP'.set (Nat.le_refl _) (by omega) _ hv.out⟩
              case measure => simp [intOf]; omega
            · obtain rfl : k = 3 := by omega
              rw [show ((3 : Nat) : Int) = 3 from rfl]
              obtain ⟨L, hb, hl, hp, hbe⟩ := hP
              have hLI : L = I := ext_el (by rw [hl, EI.out, initL_len]) (fun i hi => hp i (by omega))
              rw [hLI] at hb hl
              clear hp hLI
              go_wp2_with (first
                | (refine ev_loadarr rfl rfl rfl hb Try.underlying45 rfl (by rw [hl]; kernel_rfl) ?_)
                | (refine ev_storearr rfl rfl rfl hb rfl rfl (by rw [hl]; kernel_rfl) ?_; intro w2 hb2 hg2))
              refine bodyPost_ret (results_blk rfl _ _ rfl hb2 Try.underlying45 rfl (by rw [hl]; kernel_rfl)) rfl ⟨by rw [EI.out], ?_⟩
              have hfin := hbe.grown hg2 (Nat.le_of_lt hb.lt) (fun j hj => by injection hj with hj; omega)
              rw [← EB.out]
              exact hfin
end Go.Proofs.Ytdocbmgledebaaa
