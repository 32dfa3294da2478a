/-
  The one-time sum, walked.
-/
import Derived.Test.YtdocbmgledebaaaP5
import Derived.Test.YtdocbmgledebaaaLib4
namespace Go.Proofs.Ytdocbmgledebaaa
set_option linter.unusedVariables false
set_option linter.unusedSimpArgs false
open Go.RowKit Go.Proofs.YtdocbmgledebaaaW.PrintWords

section
variable {P : Program} {ops : Array Oper} {C : Nat → World → Prop}
theorem uList_step {Q : Act → Prop} {a : Act} {o : Oper} {rest : List Oper} (h : ∀ K : Act → Prop, (∀ a, uList P ops C Q rest a → K a) →
    if Region.wanted o (yielded ops a.tmps) then ∃ v, (∀ k w, C k w → o.quietAt P a (C k) w v) ∧ K (a.put o.dst v) else K (a.put o.dst undef)) : uList P ops C Q (o :: rest) a := by
  have := h (uList P ops C Q rest) (fun _ h => h)
  unfold uList
  exact this
theorem uList_nil {Q : Act → Prop} {a : Act} (h : Q a) : uList P ops C Q [] a := h
theorem tStep_step {C D : World → Prop} {K0 : Act → Prop} {o : Oper} {a : Act} (v : Value) (hw : Region.wanted o (yielded ops a.tmps) = true) (ht : ∀ w, C w → tUpon P D v ((execOp a.eval o).run P w))
    (h : ∀ K : Act → Prop, (∀ a, K0 a → K a) → K (a.put o.dst v)) : tStep P ops C D K0 o a := ⟨hw, v, ht, h K0 (fun _ h => h)⟩
theorem t_alloc {D : World → Prop} {o : Oper} {a : Act} {w : World} {ty : TypeId} (ho : o.op = .alloc ty) {cs : Array Value} {n B : Nat} (hz : (P.info? ty).map (fun i => (i.zero, i.size)) = some (some (.agg cs), n)) (hB : w.heap.size = B)
    (hD : D (w.alloc (.cells cs ty))) : tUpon P D (.pointer (some ⟨B, 0, none⟩)) ((execOp a.eval o).run P w) := by
  obtain ⟨i, hi, hz2⟩ := Option.map_eq_some_iff.1 hz
  simp only [Prod.mk.injEq] at hz2
  have hrun : (execOp a.eval o).run P w = .ok (.value (.pointer (some ⟨w.heap.size, 0, none⟩))) (w.alloc (.cells cs ty)) := by
    unfold execOp
    simp [ho, Instr.alloc, zeroValue, typeInfo, hi, hz2.1, Value.cells]
    rfl
  rw [hrun]
  exact ⟨by rw [hB], hD⟩
theorem t_store {D : World → Prop} {o : Oper} {a : Act} {w : World} {ty : TypeId} {x y : Operand} (ho : o.op = .store ty x y) {g : Nat} (hx : a.eval x = .pointer (some ⟨g, 0, none⟩)) {k k' : IntKind} {t : TypeId} {l l' : List Int} (hb : Blk w g k t l)
    (hy : a.eval y = .agg (l'.map (Value.int k')).toArray) (hl : l.length = l'.length) (hi : (P.info? ty).map (·.size) = some l'.length)
    (hD : D (w.setRow g (l'.map (Value.int k')).toArray)) : tUpon P D undef ((execOp a.eval o).run P w) := by
  have hrun := run_storeVar_row (P := P) w g t ty (l.map (Value.int k)).toArray (l'.map (Value.int k')).toArray hb (by rw [hi]; simp) (by simp [hl]) (by simp [Value.oneCell'])
  unfold execOp
  simp only [ho, hx, hy, Instr.storeAt, Instr.sureAddr, Sem.run_bind, Sem.run_pure, Result.andThen_ok, hrun]
  exact ⟨rfl, hD⟩
end

theorem ev_copysl {P : Program} {w : World} {ops : Array Oper} {rest : List Oper} {o : Oper} {a : Act} {Q : Exit → Act → World → Prop} (hgd : o.guard = none) (d s : Operand) (dT sT : TypeId)
    (ho : o.op = .call { callee := .builtin .copy, args := #[d, s], argTypes := #[dT, sT] }) (elem : TypeId) (hu : P.underlying dT = some (.slice elem)) (hsz : (P.info? elem).map (·.size) = some 1)
    {g dLen dCap n c : Nat} {A : Option Addr} {k : IntKind} {xs : List Int} (hd : a.eval d = .slice (some ⟨g, 0, none⟩) dLen dCap) (hs : a.eval s = .slice A n c) (hr : ReadsInt w k A n xs) {t : TypeId} {l : List Int} (hb : Blk w g k t l) (h0 : 0 < n) (hle : n ≤ dLen) (hdl : dLen ≤ l.length)
    (h : ∀ w1, Stored g w w1 → Blk w1 g k t (xs ++ l.drop n) → wpList P ops Q rest (a.put o.dst (goInt n)) w1) : wpList P ops Q (o :: rest) a w := by
  obtain ⟨hl, _, hc⟩ := hr
  obtain ⟨ad, rfl, hcell⟩ := hc h0
  refine wpList_copy_own hgd d s dT sT ho elem hu hsz g 0 dLen dCap ad n c hd hs _ t hb (xs.map (Value.int k)) (by simp [hl, Nat.min_eq_left hle]) (fun j v hj => ?_) (by simp [hl]; omega) (by simp [Value.oneCell']) ?_
  · have hj' : j < n := by
      rw [← hl]
      have := (List.getElem?_eq_some_iff.1 hj).1
      simpa using this
    rw [hcell j hj', ← hj, List.getElem?_map, List.getD_eq_getElem?_getD, List.getElem?_eq_getElem (by omega)]
    rfl
  · have e1 : goInt (xs.map (Value.int k)).length = goInt n := by simp [hl]
    have e2 : ((List.map (Value.int k) l).toArray.toList.take 0 ++ (xs.map (Value.int k) ++ (List.map (Value.int k) l).toArray.toList.drop (0 + (xs.map (Value.int k)).length))).toArray = ((xs ++ l.drop n).map (Value.int k)).toArray := by simp [hl]
    rw [e1, e2]
    exact h _ ⟨grown_setRow _ _ _, by simp⟩ (hb.setRow _)
theorem w8_drop8 (l : List Int) : w8 (l.drop 8) 0 = w8 l 8 := by simp only [w8, w4, el_drop, Nat.reduceAdd, Nat.zero_add]
/-- the sum, behind k of the two last steps -/
def sumK (S : Int) (k : Nat) : Int := match k with | 0 => S | _ + 1 => S % 1361129467683753853853498429727072845819
theorem add64_letc (x y c : Int) (hx : 0 ≤ x) (hx1 : x ≤ 18446744073709551615) (hy : 0 ≤ y) (hy1 : y ≤ 18446744073709551615) (hc : 0 ≤ c) (hc1 : c ≤ 1) : ∃ s c' : Int, (∀ W : World, (callFunc 39 #[.int .u64 x, .int .u64 y, .int .u64 c]).run Try.prog W = .ok (.value (.tuple #[.int .u64 s, .int .u64 c'])) W) ∧
    0 ≤ s ∧ s ≤ 18446744073709551615 ∧ s + 18446744073709551616 * c' = x + y + c :=
  ⟨_, _, fun W => add64 x y c hx hy hc hc1 W, by omega, by omega, by omega⟩
theorem lev_16 (l : List Int) (h : l.length = 16) : w8 l 0 + 18446744073709551616 * w8 l 8 = lev l := by
  match l, h with
  | [a0, a1, a2, a3, a4, a5, a6, a7, a8, a9, a10, a11, a12, a13, a14, a15], _ =>
    simp only [w8, w4, le4, lev, el_cons_0, el_cons_s, Nat.reduceAdd, Nat.zero_add]
    omega
theorem w8_take (l : List Int) (a n i : Nat) (h : i + 8 ≤ n) : w8 ((l.drop a).take n) i = w8 l (a + i) := by
  simp only [w8, w4]
  rw [el_take _ _ _ (by omega), el_take _ _ _ (by omega), el_take _ _ _ (by omega), el_take _ _ _ (by omega), el_take _ _ _ (by omega), el_take _ _ _ (by omega), el_take _ _ _ (by omega), el_take _ _ _ (by omega)]
  simp only [el_drop, Nat.add_assoc]
theorem low64_w (A : Option Addr) (n c : Nat) (xs : List Int) (i : Nat) (w : World) (h : ReadsInt w .u8 A n (xs.drop i)) (hn : 8 ≤ n) (hc : n ≤ c) (hb : Byt xs) :
    Calls Try.prog 36 #[.slice A n c] w fun e w' => e = .returned (.int .u64 (w8 xs i)) ∧ ∃ m, w' = w.drewN m := by
  have := low64_any A n c (xs.drop i) w h hn hc (hb.drop i)
  simpa only [w8, w4, el_drop, Nat.add_zero, Nat.zero_add, Nat.add_assoc] using this
theorem infoS_u8 : (Try.prog.info? 5).map (·.size) = some 1 := by kernel_rfl
theorem piece_set (c : List Int) (h : c.length ≤ 16) : (c ++ (List.replicate 17 (0 : Int)).drop c.length).set c.length 1 = pieceL c := by
  rw [List.drop_replicate, show 17 - c.length = (16 - c.length) + 1 by omega, List.replicate_succ]
  unfold pieceL
  simp
theorem chunk_eq (t : List Int) (j m n : Nat) (hn : n = t.length - 16 * j) (h : (16 < n ∧ m = 16) ∨ (n ≤ 16 ∧ m = n)) : (t.drop (16 * j)).take m = chunk t j ∧ ((t.drop (16 * j)).take m).length = m := by
  unfold chunk
  rcases h with ⟨h, rfl⟩ | ⟨h, rfl⟩
  · exact ⟨rfl, by simp; omega⟩
  · refine ⟨?_, by simp; omega⟩
    rw [List.take_of_length_le (by simp; omega), List.take_of_length_le (by simp; omega)]
def lenV : Value → Nat
  | .slice _ n _ => n
  | _ => 0

/-- the blocks of a call of poly: what comes out, r, the sum -/
structure Po (B go gr gs : Nat) (w : World) (r s : List Int) (wr : World) : Prop where
  o : Blk wr go .u8 54 (List.replicate 16 0)
  r : Blk wr gr .u64 64 r
  s : Blk wr gs .u64 66 s
  h1 : B ≤ go
  h2 : go < gr
  h3 : gr < gs
  bel : Below B w wr

theorem Po.fresh {B go gr gs g : Nat} {w wr w1 : World} {r s : List Int} (h : Po B go gr gs w r s wr) (hf : Fresh g wr w1) (n : Nat) : Po B go gr gs w r s (w1.drewN n) :=
  ⟨(hf.blk h.o).drewN n, (hf.blk h.r).drewN n, (hf.blk h.s).drewN n, h.h1, h.h2, h.h3, pw_below_drewN (hf.bel h.bel (Nat.le_trans h.h1 (Nat.le_of_lt h.o.lt))) n⟩

theorem Po.stored {B go gr gs g : Nat} {w wr w1 : World} {r s : List Int} (h : Po B go gr gs w r s wr) (hs : Stored g wr w1) (hg : gs < g) : Po B go gr gs w r s w1 :=
  have e1 := h.h1; have e2 := h.h2; have e3 := h.h3
  ⟨hs.blk h.o (by omega), hs.blk h.r (by omega), hs.blk h.s (by omega), h.h1, h.h2, h.h3, hs.bel h.bel (Nat.le_trans h.h1 (Nat.le_of_lt h.o.lt)) (by omega)⟩
theorem Po.cell {B go gr gs g : Nat} {w wr : World} {r s : List Int} (h : Po B go gr gs w r s wr) (hg : gs < g) (i : Nat) (v : Value) : Po B go gr gs w r s (wr.setCell ⟨g, i, none⟩ v) :=
  have e1 := h.h1; have e2 := h.h2; have e3 := h.h3
  ⟨h.o.far (by simp; omega) _, h.r.far (by simp; omega) _, h.s.far (by simp; omega) _, h.h1, h.h2, h.h3, h.bel.setCell (by simp; omega) _⟩
theorem Po.draw {B go gr gs : Nat} {w wr : World} {r s : List Int} (h : Po B go gr gs w r s wr) (n : Nat) : Po B go gr gs w r s (wr.drewN n) :=
  ⟨h.o.drewN n, h.r.drewN n, h.s.drewN n, h.h1, h.h2, h.h3, pw_below_drewN h.bel n⟩
theorem Po.sum {B go gr gs : Nat} {w wr w1 : World} {r s s' : List Int} (h : Po B go gr gs w r s wr) (b : Blk w1 gs .u64 66 s') (f : Fr wr.heap.size gs wr w1) : Po B go gr gs w r s' w1 :=
  have e1 := h.h1; have e2 := h.h2; have e3 := h.h3
  ⟨h.o.grown f.grown (by simp; omega), h.r.grown f.grown (by simp; omega), b, h.h1, h.h2, h.h3, h.bel.trans ((f.mono (Nat.le_trans h.h1 (Nat.le_of_lt h.o.lt))).below (by omega))⟩

theorem Po.storeS {B go gr gs : Nat} {w wr w1 : World} {r s s' : List Int} (h : Po B go gr gs w r s wr) (hs : Stored gs wr w1) (b : Blk w1 gs .u64 66 s') : Po B go gr gs w r s' w1 :=
  have e1 := h.h1; have e2 := h.h2; have e3 := h.h3
  ⟨hs.blk h.o (by omega), hs.blk h.r (by omega), b, h.h1, h.h2, h.h3, hs.bel h.bel (Nat.le_trans h.h1 (Nat.le_of_lt h.o.lt)) (by omega)⟩

theorem Po.setS {B go gr gs : Nat} {w wr : World} {r s : List Int} (h : Po B go gr gs w r s wr) (i : Nat) (v : Int) : Po B go gr gs w r (s.set i v) (wr.setCell ⟨gs, i, none⟩ (.int .u64 v)) :=
  have e1 := h.h1; have e2 := h.h2; have e3 := h.h3
  ⟨h.o.far (by simp; omega) _, h.r.far (by simp; omega) _, h.s.set i v, h.h1, h.h2, h.h3, h.bel.setCell (by simp; omega) _⟩

set_option maxRecDepth 100000 in
set_option maxHeartbeats 1000000 in
theorem poly_any (A0 A : Option Addr) (c0 n c : Nat) (key t : List Int) (w : World) (hk : ReadsInt w .u8 A0 32 key) (ht : ReadsInt w .u8 A n t) (hkb : Byt key) (htb : Byt t) (hc0 : 32 ≤ c0) (hcn : n ≤ c) (hnn : n ≤ 1000000) :
    Calls Try.prog 26 #[.slice A0 32 c0, .slice A n c] w fun e w' =>
      e = .returned (.agg ((tagL key t).map (Value.int .u8)).toArray) ∧ Below w.heap.size w w' := by
  have z54 : (Try.prog.info? 54).map (fun i => (i.zero, i.size)) = some (some (.agg ((List.replicate 16 (0 : Int)).map (Value.int .u8)).toArray), 16) := by kernel_rfl
  have z64 : (Try.prog.info? 64).map (fun i => (i.zero, i.size)) = some (some (.agg ((List.replicate 2 (0 : Int)).map (Value.int .u64)).toArray), 2) := by kernel_rfl
  have z66 : (Try.prog.info? 66).map (fun i => (i.zero, i.size)) = some (some (.agg ((List.replicate 3 (0 : Int)).map (Value.int .u64)).toArray), 3) := by kernel_rfl
  have z67 : (Try.prog.info? 67).map (fun i => (i.zero, i.size)) = some (some (.agg ((List.replicate 17 (0 : Int)).map (Value.int .u8)).toArray), 17) := by kernel_rfl
  obtain ⟨i8, hi8, _, hz8, _⟩ := info_parts info_u8
  obtain ⟨A8, hcut8, hA8⟩ := print_cut (P := Try.prog) 23 5 .i64 Try.underlying23 hi8 hz8 A0 32 c0 8 (by omega)
  rw [show ((8 : Nat) : Int) = 8 from rfl] at hcut8
  replace z54 := Go.Lib.hid z54
  replace z64 := Go.Lib.hid z64
  replace z66 := Go.Lib.hid z66
  replace z67 := Go.Lib.hid z67
  replace hi8 := Go.Lib.hid hi8
  replace hz8 := Go.Lib.hid hz8
  have HK := Go.Lib.hid hk
  have HT := Go.Lib.hid ht
  have m0 := and_r0 key hkb
  have m8 := and_r8 key hkb
  clear hk ht
  go_enter Try.func26, Try.ntmps26
  go_wp2_with (refine ev_allocg (ty := 54) rfl rfl z54.out ?_; intro go w1 h1 b1; change Blk w1 go .u8 54 (List.replicate 16 0) at b1)
  obtain ⟨gr, egr⟩ : ∃ gr, gr = w1.heap.size := ⟨_, rfl⟩
  obtain ⟨W, hW0, hW1, hW2⟩ : ∃ W : Nat → World, W 0 = w1 ∧ W 1 = w1.alloc (.cells ((List.replicate 2 (0 : Int)).map (Value.int .u64)).toArray 64) ∧ ∀ k, W (k + 2) = (w1.alloc (.cells ((List.replicate 2 (0 : Int)).map (Value.int .u64)).toArray 64)).setRow gr ((rL key).map (Value.int .u64)).toArray :=
    ⟨fun k => match k with | 0 => w1 | 1 => _ | _ + 2 => _, rfl, rfl, fun _ => rfl⟩
  have b1' : Blk (W 1) gr .u64 64 (List.replicate 2 0) := by rw [hW1, egr]; exact Blk.new _ _ _ _
  have hbel : ∀ k, Below w.heap.size w (W k) := by
    have e0 : Below w.heap.size w w1 := h1.below
    have e1 : Below w.heap.size w (w1.alloc (.cells ((List.replicate 2 (0 : Int)).map (Value.int .u64)).toArray 64)) := e0.alloc (by have := h1.size; have := h1.le; omega) _
    intro k
    match k with
    | 0 => rw [hW0]; exact e0
    | 1 => rw [hW1]; exact e1
    | k + 2 => rw [hW2]; exact e1.grown (grown_setRow _ _ _) (by have := h1.size; have := h1.le; simp; omega) (fun k hk => by injection hk with hk; have := h1.size; have := h1.le; omega)
  have HR0 : ∀ k, ReadsInt (W k) .u8 A0 32 key := fun k => HK.out.below (hbel k)
  have HR8 : ∀ k, ReadsInt (W k) .u8 A8 24 (key.drop 8) := fun k => hA8 _ .u8 key hc0 (HR0 k)
  replace HR0 := Go.Lib.hid HR0
  replace hW0 := Go.Lib.hid hW0
  replace hW1 := Go.Lib.hid hW1
  replace hW2 := Go.Lib.hid hW2
  have HEG := Go.Lib.hid egr
  have hC0 : ∃ n, w1.drew = (W 0).drewN n := ⟨1, by rw [hW0.out]; rfl⟩
  clear egr
  replace HR8 := Go.Lib.hid HR8
  refine region_phases (C := fun k w' => ∃ n, w' = (W k).drewN n)
    [([], [true, true, true, true, true, true, true, true], [false, false, false, false, false, false, false, false, true]), ([], [], [false, false, false, false, false, false, false, false, false, true])] []
    (by kernel_rfl) (by simp) (by kernel_rfl) hC0 ?_
  simp only [pickS, List.map_cons, List.map_nil, pick_t, pick_f, pick_n, wpSegs]
  refine wpQuiet_nil ?_
  refine uList_step fun K hK => ?_
  go_simp
  refine hK _ ?_
  clear hK K
  refine uList_step fun K hK => ?_
  go_simp
  refine ⟨_, fun k m => Calls.quiet_of (low64_any A0 32 c0 key _ ((HR0.out k).below (pw_below_drewN (Below.refl _ _) _)) (by omega) hc0 hkb), hK _ ?_⟩
  clear hK K
  refine uList_step fun K hK => ?_
  go_simp
  refine hK _ ?_
  clear hK K
  refine uList_step fun K hK => ?_
  go_simp
  refine hK _ ?_
  clear hK K
  refine uList_step fun K hK => ?_
  go_simp
  refine hK _ ?_
  clear hK K
  refine uList_step fun K hK => ?_
  go_simp
  refine ⟨_, fun k m => Calls.quiet_of (low64_any A8 (32 - 8) (c0 - 8) (key.drop 8) _ ((HR8.out k).below (pw_below_drewN (Below.refl _ _) _)) (by omega) (by omega) (hkb.drop _)), hK _ ?_⟩
  clear hK K
  rw [show w8 (key.drop 8) 0 = w8 key 8 from by simp only [w8, w4, el_drop, Nat.reduceAdd, Nat.zero_add]]
  refine uList_step fun K hK => ?_
  go_simp
  refine hK _ ?_
  clear hK K
  refine uList_step fun K hK => ?_
  go_simp
  refine hK _ ?_
  clear hK K
  refine uList_nil ?_
  refine tStep_step (.pointer (some ⟨gr, 0, none⟩)) rfl ?_ fun K hK => ?_
  · rintro w' ⟨m, rfl⟩
    exact t_alloc rfl z64.out (by rw [hW0.out, HEG.out]; rfl) ⟨m, by rw [hW0.out, hW1.out]; rfl⟩
  go_simp
  refine hK _ ?_
  clear hK K
  refine wpQuiet_nil ?_
  refine uList_nil ?_
  refine tStep_step undef rfl ?_ fun K hK => ?_
  · rintro w' ⟨m, rfl⟩
    exact t_store (l' := rL key) rfl rfl (b1'.drewN m) rfl rfl (by kernel_rfl) ⟨m, by rw [hW1.out, hW2.out 0]; rfl⟩
  go_simp
  refine hK _ ?_
  clear hK K
  refine uList_nil ?_
  have q1 : Blk (W (0 + 1 + 1)) gr .u64 64 (rL key) := by rw [hW2.out 0, ← hW1.out]; exact b1'.setRow _
  have q2 : Blk (W (0 + 1 + 1)) go .u8 54 (List.replicate 16 0) := by rw [hW2.out 0]; exact (b1.alloc _).grown (grown_setRow _ _ _) (by have := b1.lt; have := HEG.out; simp; omega)
  have q3 := hbel (0 + 1 + 1)
  have hgo := h1.le
  have hgs := h1.size
  rintro w' ⟨m, rfl⟩
  replace q1 := q1.drewN m
  replace q2 := q2.drewN m
  replace q3 := pw_below_drewN q3 m
  generalize (W (0 + 1 + 1)).drewN m = w2 at q1 q2 q3 ⊢
  clear hW0 hW1 hW2 b1' hbel HR0 HR8 hcut8 hA8 m0 m8
  go_wp2_with (refine ev_allocg (ty := 66) rfl rfl z66.out ?_; intro gs w3 h3 b3; change Blk w3 gs .u64 66 (List.replicate 3 0) at b3)
  simp only [Act.put, List.setIfInBounds_toArray, List.set_cons_succ, List.set_cons_zero]
  have hP : Po w.heap.size go gr gs w (rL key) (List.replicate 3 0) w3 := ⟨h3.blk q2, h3.blk q1, b3, hgo, by have := HEG.out; omega, h3.ne q1, h3.bel q3 q3.size⟩
  have hO : Hid (∃ L : List Int, L.length = 3 ∧ Words L ∧ v3 L = accP (lev (rm key)) t 0 ∧ Po w.heap.size go gr gs w (rL key) L w3 ∧ ReadsInt w .u8 A n (t.drop (16 * 0))) :=
    Go.Lib.hid ⟨_, by simp, fun x hx => (by simp at hx; omega), rfl, hP, HT.out⟩
  clear q1 q2 q3 h3 b3 hP h1 b1
  have HL := Go.Lib.hid HT.out.1
  go_loopw [1] (fun x wr => ∃ (j n' c' : Nat) (A' : Option Addr), x = .slice A' n' c' ∧ n' ≤ c' ∧ n' = n - 16 * j ∧ j ≤ (n + 15) / 16 ∧ Hid (∃ L : List Int, L.length = 3 ∧ Words L ∧ v3 L = accP (lev (rm key)) t j ∧ Po w.heap.size go gr gs w (rL key) L wr ∧ ReadsInt w .u8 A' n' (t.drop (16 * j)))) (fun x _ => lenV x)
  case atStart => exact ⟨0, n, c, A, rfl, hcn, by omega, by omega, hO⟩
  case round =>
    obtain ⟨j, n', c', A', rfl, hn', ej, hj, hO⟩ := hrel
    obtain ⟨L, hl, hw, hv, hP, hR⟩ := hO.out
    by_cases hlt : 0 < n'
    · have nlt : (0 : Int) < (n' : Int) := by omega
      obtain ⟨m, hm⟩ : ∃ m : Nat, (16 < n' ∧ m = 16) ∨ (n' ≤ 16 ∧ m = n') := by
        rcases Nat.lt_or_ge 16 n' with h | h
        · exact ⟨16, .inl ⟨h, rfl⟩⟩
        · exact ⟨n', .inr ⟨h, rfl⟩⟩
      have hmin : ∀ (ts : Array TypeId) (ty : TypeId) (W : World), (Builtin.min_ ts ty #[.int .i64 (n' : Int), .int .i64 16]).run Try.prog W = .ok (.int .i64 (m : Int)) W := fun ts ty W => by
        rw [run_min_int2]
        rcases hm with ⟨h1, rfl⟩ | ⟨h1, rfl⟩
        · rw [if_pos (by omega)]; rfl
        · by_cases h : (16 : Int) < (m : Int)
          · omega
          · rw [if_neg h]
      have hm1 : m ≤ n' := by omega
      have hm2 : (m : Int) < 17 := by omega
      have hm3 : (m : Int) ≤ (c' : Int) := by omega
      have hm0 : 0 < m := by omega
      obtain ⟨A2, hcut2, hA2⟩ := print_cut (P := Try.prog) 23 5 .i64 Try.underlying23 hi8.out hz8.out A' n' c' m hm1
      have hm4 : m ≤ 16 := by omega
      obtain ⟨hch, hcl⟩ := chunk_eq t j m n' (by rw [HL.out]; exact ej) hm
      have hcz := chunk_len t j
      have hcb := chunk_byt htb j
      rw [← hch] at hcz hcb
      replace hm := Go.Lib.hid hm
      replace hm1 := Go.Lib.hid hm1
      replace hm4 := Go.Lib.hid hm4
      replace hP := Go.Lib.hid hP
      replace hR := Go.Lib.hid hR
      replace hw := Go.Lib.hid hw
      replace hv := Go.Lib.hid hv
      replace hl := Go.Lib.hid hl
      replace ej := Go.Lib.hid ej
      replace hA2 := Go.Lib.hid hA2
      clear hO
      go_wp2_with (refine ev_allocg (ty := 67) rfl rfl z67.out ?_; intro gp w4 h4 b4; change Blk w4 gp .u8 67 (List.replicate 17 0) at b4)
      simp only [Act.put, List.setIfInBounds_toArray, List.set_cons_succ, List.set_cons_zero]
      refine region_tail (C := fun w' => ∃ n, w' = w4.drewN n) 4 (by kernel_rfl) (by kernel_rfl) ⟨1, rfl⟩ ?_
      simp only [List.take_succ_cons, List.take_zero, List.drop_succ_cons, List.drop_zero]
      repeat quiet_step (fail)
      refine wpQuiet_nil ?_
      rintro _ ⟨nq, rfl⟩
      have r4 := ((((hR.out.below hP.out.bel).below h4.below).drewN nq).take_ m hm1.out)
      replace b4 := b4.drewN nq
      generalize (t.drop (16 * j)).take m = ch at hch hcl r4 hcz hcb
      replace hch := Go.Lib.hid hch
      replace hcz := Go.Lib.hid hcz
      have hP4 := Go.Lib.hid (hP.out.fresh h4 nq)
      have hgp := Go.Lib.hid h4.eq
      generalize w4.drewN nq = w4' at *
      refine ev_copysl rfl (.tmp 26) (.tmp 29) 23 23 rfl 5 Try.underlying23 infoS_u8 rfl rfl r4 b4 hm0 (by omega) (by simp) ?_
      intro w5 h5 b5
      rw [← hcl] at b5
      have c5 := b5.cell m (by simp; omega)
      have f5 := b5.frozen m
      go_wp2_with fail
      have hgl : gs < gp := by rw [hgp.out]; exact hP.out.s.lt
      have b6 : Blk (w5.setCell ⟨gp, m, none⟩ (.int .u8 1)) gp .u8 67 (pieceL ch) := by
        have := b5.set m 1
        have e : (ch ++ List.drop ch.length (List.replicate 17 0)).set m 1 = pieceL ch := by rw [← hcl]; exact piece_set ch hcz.out
        rw [e] at this
        exact this
      have hP6 := (hP4.out.stored h5 hgl).cell hgl m (.int .u8 1)
      generalize w5.setCell ⟨gp, m, none⟩ (.int .u8 1) = w6 at b6 hP6 ⊢
      clear b4 b5 c5 f5 h5 hP4 hP
      have lp : Hid ((pieceL ch).length = 17) := Go.Lib.hid (pieceL_len ch hcz.out)
      have bp : Byt (pieceL ch) := fun x hx => by
        simp only [pieceL, List.mem_append, List.mem_cons, List.mem_replicate] at hx
        rcases hx with hx | rfl | ⟨_, rfl⟩
        · exact hcb x hx
        · omega
        · omega
      have hpv : v3 [w8 (pieceL ch) 0, w8 (pieceL ch) 8, el (pieceL ch) 16] = pieceV (chunk t j) := by
        rw [← hch.out, ← pieceL_lev, ← lev_17 _ lp.out]
        simp only [v3, el_cons_0, el_cons_s]
      have wp : Words [w8 (pieceL ch) 0, w8 (pieceL ch) 8, el (pieceL ch) 16] := fun x hx => by
        have e0 := w8_word bp 0
        have e8 := w8_word bp 8
        have e16 := bp.el 16
        unfold Word at e0 e8
        simp only [List.mem_cons, List.not_mem_nil, or_false] at hx
        rcases hx with rfl | rfl | rfl
        · exact e0
        · exact e8
        · omega
      have c16 : w6.cell? ⟨gp, 16, none⟩ = some (.int .u8 (el (pieceL ch) 16)) := b6.cell 16 (by rw [lp.out]; omega)
      obtain ⟨e16, e16'⟩ := bp.el 16
      have rp0 : ReadsInt w6 .u8 (some ⟨gp, 0, none⟩) 17 (pieceL ch) := rd_len (b6.reads (by rw [lp.out]; omega)) lp.out
      have rp8 : ReadsInt w6 .u8 (some ⟨gp, 8, none⟩) 9 ((pieceL ch).drop 8) := rp0.drop_ (c := 17) 8 (by omega) (by omega)
      replace hpv := Go.Lib.hid hpv
      refine region_tail (C := fun w' => ∃ n, w' = w6.drewN n) 8 (by kernel_rfl) (by kernel_rfl) ⟨1, rfl⟩ ?_
      simp only [List.take_succ_cons, List.take_zero, List.drop_succ_cons, List.drop_zero]
      repeat quiet_step (first
        | (go_at_call_has 36 (Value.slice (some ⟨gp, 0, none⟩) 17 17); refine Calls.quiet_of (low64_any (some ⟨gp, 0, none⟩) 17 17 (pieceL ch) _ (rp0.drewN _) (by omega) (by omega) bp))
        | (go_at_call_has 36 (Value.slice (some ⟨gp, 8, none⟩) 9 9); refine Calls.quiet_of (low64_any (some ⟨gp, 8, none⟩) 9 9 ((pieceL ch).drop 8) _ (rp8.drewN _) (by omega) (by omega) (bp.drop _))))
      refine wpQuiet_nil ?_
      rintro _ ⟨nq2, rfl⟩
      replace hP6 := hP6.draw nq2
      generalize w6.drewN nq2 = w7 at hP6 ⊢
      rw [w8_drop8]
      have hacc := accP_lt (lev (rm key)) t (lev_range _ (rm_byt hkb)).1 (by rw [← rL_lev]; exact rL_lt hkb) htb j
      have hsum : v3 (sumL L [w8 (pieceL ch) 0, w8 (pieceL ch) 8, el (pieceL ch) 16] 3) = accP (lev (rm key)) t j + pieceV (chunk t j) := by
        rw [v3_sum hw.out wp (by rw [hv.out, hpv.out]; omega), hv.out, hpv.out]
      have wS := sumL_words L [w8 (pieceL ch) 0, w8 (pieceL ch) 8, el (pieceL ch) 16] 3
      have lS := sumL_len L [w8 (pieceL ch) 0, w8 (pieceL ch) 8, el (pieceL ch) 16] 3
      have lt1 : v3 (sumL L [w8 (pieceL ch) 0, w8 (pieceL ch) 8, el (pieceL ch) 16] 3) < 2722258935367507707706996859454145691648 := by rw [hsum]; exact hacc.2
      replace hsum := Go.Lib.hid hsum
      replace hacc := Go.Lib.hid hacc
      replace lS := Go.Lib.hid lS
      replace hP6 := Go.Lib.hid hP6
      go_wp2_with fail
      refine (ladd_any gs L [w8 (pieceL ch) 0, w8 (pieceL ch) 8, el (pieceL ch) 16] w7 hl.out rfl hw.out wp hP6.out.s).mono ?_
      rintro e w8' ⟨rfl, bs, fs⟩
      have hP7 := hP6.out.sum bs fs
      have br := hP7.r
      have bs' := hP7.s
      replace hP7 := Go.Lib.hid hP7
      generalize sumL L [w8 (pieceL ch) 0, w8 (pieceL ch) 8, el (pieceL ch) 16] 3 = S at *
      clear bs fs
      go_wp2_with (refine ev_loadarr rfl rfl rfl br Try.underlying64 rfl (by kernel_rfl) ?_)
      refine (lmul_any gs S (rL key) w8' lS.out rfl wS (rL_words hkb) bs' lt1 (rL_lt hkb)).mono ?_
      rintro e w9 ⟨rfl, L', hl', hw', hv', bs2, fs2⟩
      have hP9 := Go.Lib.hid (hP7.out.sum bs2 fs2)
      replace hv' := Go.Lib.hid hv'
      replace hl' := Go.Lib.hid hl'
      go_wp2_with fail
      go_roundw
      case rel =>
        refine ⟨j + 1, n' - m, c' - m, A2, rfl, ?_, ?_, ?_, Go.Lib.hid ⟨L', hl'.out, hw', ?_, hP9.out, ?_⟩⟩
        · omega
        · have := ej.out; have := hm.out; omega
        · have := ej.out; omega
        · rw [hv'.out, rL_lev, hsum.out]; rfl
        · have h1 := hA2.out w .u8 _ hn' hR.out
          rw [List.drop_drop] at h1
          have h2 := hm.out
          rcases h2 with ⟨h2, h3⟩ | ⟨h2, h3⟩
          · rw [h3] at h1 ⊢; rw [show 16 * (j + 1) = 16 * j + 16 by omega]; exact h1
          · have e1 := ej.out
            have e2 : t.drop (16 * j + m) = [] := List.drop_eq_nil_of_le (by rw [HL.out]; omega)
            have e3 : t.drop (16 * (j + 1)) = [] := List.drop_eq_nil_of_le (by rw [HL.out]; omega)
            rw [e2] at h1
            rw [e3]
            exact h1
      case measure =>
        have := hm1.out
        simp only [lenV]
        omega
    · obtain rfl : n' = 0 := by omega
      have ej2 : j = (n + 15) / 16 := by omega
      have hacc := accP_range (lev (rm key)) t (lev_range _ (rm_byt hkb)).1 (by rw [← rL_lev]; exact rL_lt hkb) htb j
      obtain ⟨S, eS⟩ : ∃ S, S = accP (lev (rm key)) t j := ⟨_, rfl⟩
      rw [← eS] at hv hacc
      rw [ej2, ← HL.out] at eS
      replace eS := Go.Lib.hid eS
      replace hacc := Go.Lib.hid hacc
      have hO2 : Hid (∃ L : List Int, L.length = 3 ∧ Words L ∧ v3 L = sumK S 0 ∧ Po w.heap.size go gr gs w (rL key) L wr) := Go.Lib.hid ⟨L, hl, hw, hv, hP⟩
      clear hO hl hw hv hP hR ej ej2 hj
      go_wp2_with fail
      go_loopw [47] (fun x wr => ∃ k : Nat, k ≤ 2 ∧ x = .int .i64 k ∧ Hid (∃ L : List Int, L.length = 3 ∧ Words L ∧ v3 L = sumK S k ∧ Po w.heap.size go gr gs w (rL key) L wr)) (fun x _ => 2 - (intOf x).toNat)
      case atStart => exact ⟨0, by omega, rfl, hO2⟩
      case round =>
        obtain ⟨k, hk, rfl, hO⟩ := hrel
        obtain ⟨L, hl, hw, hv, hP⟩ := hO.out
        by_cases hlt2 : k < 2
        · have klt : (k : Int) < 2 := by omega
          have bs := hP.s
          replace hl := Go.Lib.hid hl
          replace hv := Go.Lib.hid hv
          replace hP := Go.Lib.hid hP
          clear hO
          go_wp2_with (first
            | (refine ev_loadarr rfl rfl rfl bs Try.underlying66 rfl (by rw [hl.out]; kernel_rfl) ?_)
            | (refine ev_allocg (ty := 66) rfl rfl z66.out ?_; intro gl w4 h4 b4; change Blk w4 gl .u64 66 (List.replicate 3 0) at b4)
            | (refine ev_storearrg rfl rfl rfl b4 (l' := L) rfl (by rw [hl.out]; rfl) (by rw [hl.out]; kernel_rfl) ?_; intro w5 h5 b5))
          have w5w : Words [5, 0, 0] := fun x hx => by simp at hx; omega
          refine (ladd_any gl L [5, 0, 0] w5 hl.out rfl hw w5w b5).mono ?_
          rintro e w6 ⟨rfl, b6, f6⟩
          have hK : 0 ≤ sumK S k ∧ sumK S k < 1361129467683753853853498429727072845824 + 212676479325586539664609129644855132160 := by
            have := hacc.out
            match k with
            | 0 => exact this
            | k + 1 => simp only [sumK]; omega
          have hD : v3 (sumL L [5, 0, 0] 3) = sumK S k + 5 := by
            rw [v3_sum hw w5w (by rw [hv.out]; simp only [v3, el_cons_0, el_cons_s]; omega), hv.out]
            rfl
          have hwD := sumL_words L [5, 0, 0] 3
          have hlD := Go.Lib.hid (sumL_len L [5, 0, 0] 3)
          have hP6 : Hid (Po w.heap.size go gr gs w (rL key) L w6) := Go.Lib.hid (by
            have q1 := (hP.out.fresh h4 0).stored h5 (h4.ne hP.out.s)
            have q2 := h4.ne hP.out.s
            have q3 := hP.out.h1; have q4 := hP.out.h2; have q5 := hP.out.h3
            exact ⟨q1.o.grown f6.grown (by simp; omega), q1.r.grown f6.grown (by simp; omega), q1.s.grown f6.grown (by simp; omega), q3, q4, q5, q1.bel.trans ((f6.mono (Nat.le_trans q3 (Nat.le_of_lt q1.o.lt))).below (by omega))⟩)
          have hgl : gs < gl := h4.ne hP.out.s
          generalize sumL L [5, 0, 0] 3 = D at *
          replace hD := Go.Lib.hid hD
          replace hK := Go.Lib.hid hK
          clear f6 h5 b5 b4 h4 bs hP
          have d0 := hwD.el 0
          have d1 := hwD.el 1
          have d2 := hwD.el 2
          have c2 := b6.cell 2 (by rw [hlD.out]; omega)
          have f2 := b6.frozen 2
          by_cases hge : (4 : Int) ≤ el D 2
          · have hsum : v3 (D.set 2 (el D 2 - 4)) = sumK S (k + 1) := by
              have e1 : v3 (D.set 2 (el D 2 - 4)) = v3 D - 1361129467683753853853498429727072845824 := by
                unfold v3
                rw [el_set, el_set, el_set, if_neg (by omega), if_neg (by omega), if_pos ⟨rfl, by rw [hlD.out]; omega⟩]
                omega
              rw [e1, hD.out]
              have hb := hK.out
              have hD2 := hD.out
              have h3 : 1361129467683753853853498429727072845824 ≤ v3 D := by unfold v3; omega
              match k with
              | 0 => simp only [sumK] at *; omega
              | k + 1 => simp only [sumK] at *; omega
            have wD : Words (D.set 2 (el D 2 - 4)) := hwD.set _ _ (by omega)
            have lD : Hid ((D.set 2 (el D 2 - 4)).length = 3) := Go.Lib.hid (set_len hlD.out _ _)
            have b7 := b6.set 2 (el D 2 - 4)
            have hP7 := hP6.out.cell hgl 2 (.int .u64 (el D 2 - 4))
            replace hsum := Go.Lib.hid hsum
            have bs7 := hP7.s
            replace hP7 := Go.Lib.hid hP7
            go_wp2_with (first
              | (refine ev_loadarr rfl rfl rfl b7 Try.underlying66 rfl (by rw [lD.out]; kernel_rfl) ?_)
              | (refine ev_storearrg rfl rfl rfl bs7 (l' := D.set 2 (el D 2 - 4)) rfl (by rw [hl.out, lD.out]) (by rw [lD.out]; kernel_rfl) ?_; intro w8' h8 b8))
            go_roundw
            case rel => exact ⟨k + 1, by omega, by go_num, Go.Lib.hid ⟨_, lD.out, wD, hsum.out, hP7.out.storeS h8 b8⟩⟩
            case measure => simp [intOf]; omega
          · have hge' : el D 2 < 4 := by omega
            have hsum : v3 L = sumK S (k + 1) := by
              rw [hv.out]
              have hb := hK.out
              have hD2 := hD.out
              have h3 : v3 D < 1361129467683753853853498429727072845824 := by unfold v3; omega
              match k with
              | 0 => simp only [sumK] at *; omega
              | k + 1 => simp only [sumK]
            replace hsum := Go.Lib.hid hsum
            go_wp2_with fail
            go_roundw
            case rel => exact ⟨k + 1, by omega, by go_num, Go.Lib.hid ⟨_, hl.out, hw, hsum.out, hP6.out⟩⟩
            case measure => simp [intOf]; omega
        · obtain rfl : k = 2 := by omega
          rw [show ((2 : Nat) : Int) = 2 from rfl]
          match L, hl with
          | [l0, l1, l2], _ =>
            obtain ⟨r0, r0'⟩ : 0 ≤ l0 ∧ l0 ≤ 18446744073709551615 := hw _ (by simp)
            obtain ⟨r1, r1'⟩ : 0 ≤ l1 ∧ l1 ≤ 18446744073709551615 := hw _ (by simp)
            obtain ⟨r2, r2'⟩ : 0 ≤ l2 ∧ l2 ≤ 18446744073709551615 := hw _ (by simp)
            obtain ⟨k0, k0'⟩ := w8_word hkb 16
            obtain ⟨k1, k1'⟩ := w8_word hkb 24
            obtain ⟨s0, ca0, a0, x0, x0', y0, y0', e0⟩ := add64_let l0 (w8 key 16) r0 r0' k0 k0'
            obtain ⟨s1, ca1, a1, x1, x1', e1⟩ := add64_letc l1 (w8 key 24) ca0 r1 r1' k1 k1' y0 y0'
            obtain ⟨A16, hcut16, hA16⟩ := print_cut (P := Try.prog) 23 5 .i64 Try.underlying23 hi8.out hz8.out A0 32 c0 16 (by omega)
            obtain ⟨A24, hcut24, hA24⟩ := print_cut (P := Try.prog) 23 5 .i64 Try.underlying23 hi8.out hz8.out A0 32 c0 24 (by omega)
            rw [show ((16 : Nat) : Int) = 16 from rfl] at hcut16
            rw [show ((24 : Nat) : Int) = 24 from rfl] at hcut24
            have rk16 := Go.Lib.hid (hA16 w .u8 key hc0 HK.out)
            have rk24 := Go.Lib.hid (hA24 w .u8 key hc0 HK.out)
            have hlev : lev ((key.drop 16).take 16) = w8 key 16 + 18446744073709551616 * w8 key 24 := by
              rw [← lev_16 _ (by simp [HK.out.1]), w8_take _ _ _ _ (by omega), w8_take _ _ _ _ (by omega)]
            have hT : ∀ i, i < 16 → el (tagL key t) i = (S % 1361129467683753853853498429727072845819 + lev ((key.drop 16).take 16)) / 256 ^ i % 256 := fun i hi => by
              unfold tagL
              rw [el_leN _ _ _ hi, ← eS.out]
            have hF : l0 + 18446744073709551616 * l1 + 340282366920938463463374607431768211456 * l2 = S % 1361129467683753853853498429727072845819 := hv
            generalize S % 1361129467683753853853498429727072845819 = F at hT hF
            replace hlev := Go.Lib.hid hlev
            replace e0 := Go.Lib.hid e0
            replace e1 := Go.Lib.hid e1
            replace hT := Go.Lib.hid hT
            replace hF := Go.Lib.hid hF
            have d0 : wr.cell? ⟨gs, 0, none⟩ = some (.int .u64 l0) := hP.s.cell 0 (by simp)
            have d1 : wr.cell? ⟨gs, 1, none⟩ = some (.int .u64 l1) := hP.s.cell 1 (by simp)
            have f0 := hP.s.frozen 0
            have f1 := hP.s.frozen 1
            replace hP := Go.Lib.hid hP
            clear hO hv hA16 hA24 hw
            go_wp2_with fail
            refine region_float (C := fun w' => ∃ n, w' = wr.drewN n)
              [true, true, true, true, true, true, true, true, false, true]
              [false, false, false, false, false, false, false, false, true]
              [false, false, false, false, false, false, false, false, false, false, true, true]
              (by kernel_rfl) (by simp) (by kernel_rfl) ⟨1, rfl⟩ ?_
            simp only [pick_t, pick_f, pick_n]
            repeat quiet_step (refine Calls.quiet_of (low64_w A16 (32 - 16) (c0 - 16) key 16 _ (((rk16.out.below hP.out.bel).drewN _)) (by omega) (by omega) hkb))
            refine wpQuiet_nil ?_
            refine pList_step fun K hK => ?_
            go_simp
            refine hK _ ?_
            clear hK K
            refine pList_nil ?_
            rintro _ ⟨nq, rfl⟩
            refine nList_step fun K hK => ?_
            go_simp
            refine ⟨undef, _, ⟨rfl, rfl⟩, hK _ _ ?_⟩
            clear hK K
            refine nList_step fun K hK => ?_
            go_simp
            refine ⟨_, _, ⟨rfl, rfl⟩, hK _ _ ?_⟩
            clear hK K
            refine nList_nil ?_
            replace hP := Go.Lib.hid ((hP.out.draw nq).setS 0 s0)
            have d0 : ((wr.drewN nq).setCell ⟨gs, 0, none⟩ (.int .u64 s0)).cell? ⟨gs, 1, none⟩ = some (.int .u64 l1) := hP.out.s.cell 1 (by simp)
            have f1 : ((wr.drewN nq).setCell ⟨gs, 0, none⟩ (.int .u64 s0)).frozen? ⟨gs, 1, none⟩ = false := hP.out.s.frozen 1
            generalize (wr.drewN nq).setCell ⟨gs, 0, none⟩ (.int .u64 s0) = w2' at *
            go_wp2_with fail
            refine region_float (C := fun w' => ∃ n, w' = w2'.drewN n)
              [true, true, true, true, true, true, true, true, true, false, true]
              [false, false, false, false, false, false, false, false, false, true]
              [false, false, false, false, false, false, false, false, false, false, false, true]
              (by kernel_rfl) (by simp) (by kernel_rfl) ⟨1, rfl⟩ ?_
            simp only [pick_t, pick_f, pick_n]
            repeat quiet_step (refine Calls.quiet_of (low64_w A24 (32 - 24) (c0 - 24) key 24 _ (((rk24.out.below hP.out.bel).drewN _)) (by omega) (by omega) hkb))
            refine wpQuiet_nil ?_
            refine pList_step fun K hK => ?_
            go_simp
            refine hK _ ?_
            clear hK K
            refine pList_nil ?_
            rintro _ ⟨nq2, rfl⟩
            refine nList_step fun K hK => ?_
            go_simp
            refine ⟨undef, _, ⟨rfl, rfl⟩, hK _ _ ?_⟩
            clear hK K
            refine nList_nil ?_
            replace hP := Go.Lib.hid ((hP.out.draw nq2).setS 1 s1)
            generalize (w2'.drewN nq2).setCell ⟨gs, 1, none⟩ (.int .u64 s1) = w3' at *
            have hTT : ∀ i, i < 16 → el (tagL key t) i = (s0 + 18446744073709551616 * s1) / 256 ^ i % 256 := fun i hi => by
              rw [hT.out i hi, hlev.out]
              have z0 := e0.out
              have z1 := e1.out
              have z2 := hF.out
              obtain ⟨q, hq⟩ : ∃ q : Int, F + (w8 key 16 + 18446744073709551616 * w8 key 24) = s0 + 18446744073709551616 * s1 + 340282366920938463463374607431768211456 * q := ⟨ca1 + l2, by omega⟩
              rw [hq]
              obtain rfl | rfl | rfl | rfl | rfl | rfl | rfl | rfl | rfl | rfl | rfl | rfl | rfl | rfl | rfl | rfl : i = 0 ∨ i = 1 ∨ i = 2 ∨ i = 3 ∨ i = 4 ∨ i = 5 ∨ i = 6 ∨ i = 7 ∨ i = 8 ∨ i = 9 ∨ i = 10 ∨ i = 11 ∨ i = 12 ∨ i = 13 ∨ i = 14 ∨ i = 15 := by omega
              all_goals (simp only [Int.reducePow]; omega)
            have hgg : go < gs := Nat.lt_trans hP.out.h2 hP.out.h3
            have hgo2 := hP.out.h1
            have hO3 : Hid (∃ o : List Int, o.length = 16 ∧ (∀ j, j < 0 → el o j = el (tagL key t) j) ∧ Blk w3' go .u8 54 o ∧ Blk w3' gs .u64 66 [s0, s1, l2] ∧ Below w.heap.size w w3') :=
              Go.Lib.hid ⟨_, by simp, fun j hj => by omega, hP.out.o, hP.out.s, hP.out.bel⟩
            replace hTT := Go.Lib.hid hTT
            clear hP a0 a1 e0 e1 hT hF hlev hcut16 hcut24 rk16 rk24
            go_wp2_with fail
            go_loopw [82, 11] (fun x _ wr => ∃ i : Nat, i ≤ 16 ∧ x = .int .i64 i ∧ Hid (∃ o : List Int, o.length = 16 ∧ (∀ j, j < i → el o j = el (tagL key t) j) ∧ Blk wr go .u8 54 o ∧ Blk wr gs .u64 66 [s0, s1, l2] ∧ Below w.heap.size w wr)) (fun x _ _ => 16 - (intOf x).toNat)
            case atStart => exact ⟨0, by omega, rfl, hO3⟩
            case round =>
              obtain ⟨i, hi, rfl, hO⟩ := hrel
              obtain ⟨o, ho1, ho2, bo, bs, hbel⟩ := hO.out
              by_cases hlt : i < 16
              · have d0 : wr.cell? ⟨gs, 0, none⟩ = some (.int .u64 s0) := bs.cell 0 (by simp)
                have d1 : wr.cell? ⟨gs, 1, none⟩ = some (.int .u64 s1) := bs.cell 1 (by simp)
                have c1 := bo.cell i (by omega)
                have f1 := bo.frozen i
                have hv := hTT.out i hlt
                replace ho1 := Go.Lib.hid ho1
                replace ho2 := Go.Lib.hid ho2
                replace bo := Go.Lib.hid bo
                replace bs := Go.Lib.hid bs
                replace hbel := Go.Lib.hid hbel
                have key2 : ∀ v : Int, v = el (tagL key t) i → ∃ k : Nat, k ≤ 16 ∧ Value.int .i64 ((i : Int) + 1) = .int .i64 k ∧ Hid (∃ o : List Int, o.length = 16 ∧ (∀ j, j < k → el o j = el (tagL key t) j) ∧ Blk (wr.setCell ⟨go, i, none⟩ (.int .u8 v)) go .u8 54 o ∧ Blk (wr.setCell ⟨go, i, none⟩ (.int .u8 v)) gs .u64 66 [s0, s1, l2] ∧ Below w.heap.size w (wr.setCell ⟨go, i, none⟩ (.int .u8 v))) := fun v hv => by
                  refine ⟨i + 1, by omega, by go_num, Go.Lib.hid ⟨_, set_len ho1.out i v, fun j hj => ?_, bo.out.set i v, bs.out.far (by simp; omega) _, hbel.out.setCell hgo2 _⟩⟩
                  rw [el_set]
                  by_cases e : i = j
                  · rw [if_pos ⟨e, by rw [ho1.out]; omega⟩, hv, e]
                  · rw [if_neg (fun h => e h.1)]; exact ho2.out j (by omega)
                replace hv := Go.Lib.hid hv
                replace key2 := Go.Lib.hid key2
                clear hO
                obtain rfl | rfl | rfl | rfl | rfl | rfl | rfl | rfl | rfl | rfl | rfl | rfl | rfl | rfl | rfl | rfl : i = 0 ∨ i = 1 ∨ i = 2 ∨ i = 3 ∨ i = 4 ∨ i = 5 ∨ i = 6 ∨ i = 7 ∨ i = 8 ∨ i = 9 ∨ i = 10 ∨ i = 11 ∨ i = 12 ∨ i = 13 ∨ i = 14 ∨ i = 15 := by omega
                all_goals
                  go_wp2_with fail
                  go_roundw
                  case rel =>
                    refine key2.out _ ?_
                    rw [hv.out]
                    simp only [Int.reducePow]
                    omega
                  case measure => simp [intOf]
              · obtain rfl : i = 16 := by omega
                rw [show ((16 : Nat) : Int) = 16 from rfl]
                have e : o = tagL key t := ext_el (by rw [ho1, tagL_len]) (fun j hj => ho2 j (by omega))
                rw [e] at bo
                have hl := tagL_len key t
                replace hl := Go.Lib.hid hl
                replace ho2 := Go.Lib.hid ho2
                clear hO e ho1 bs
                go_wp2_with (first
                  | (refine ev_loadarr rfl rfl rfl bo Try.underlying54 rfl (by rw [hl.out]; kernel_rfl) ?_)
                  | (refine ev_storearr rfl rfl rfl bo rfl rfl (by rw [hl.out]; kernel_rfl) ?_; intro w2 hb2 hg2))
                exact bodyPost_ret (results_blk rfl _ _ rfl hb2 Try.underlying54 rfl (by rw [hl.out]; kernel_rfl)) rfl ⟨rfl, hbel.grown hg2 (Nat.le_trans hgo2 (Nat.le_of_lt bo.lt)) (fun j hj => by injection hj with hj; omega)⟩
end Go.Proofs.Ytdocbmgledebaaa
