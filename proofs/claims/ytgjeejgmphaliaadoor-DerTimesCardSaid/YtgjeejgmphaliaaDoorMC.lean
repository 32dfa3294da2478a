/-
  Several texts in one.
-/
import Derived.Test.YtgjeejgmphaliaaDoorMB
import Derived.Test.YtgjeejgmphaliaaDoorWZeros
import Derived.Test.YtgjeejgmphaliaaDoorMA
/-
  The closure 'put' of the program's PutTime, walked by hand.
-/
namespace Go.Proofs.YtgjeejgmphaliaaDoor
set_option linter.unusedVariables false
set_option linter.unusedSimpArgs false
open Go.RowKit Go.Proofs.YtgjeejgmphaliaaDoorW.PrintWords PDerTimes

theorem info_b8 : (Tryd.prog.info? 5).map (fun i => (i.zero, i.size, i.bytes)) = some (some (.int .u8 0), 1, 1) := by kernel_rfl
theorem zeroCells_nums (k : IntKind) (m : Nat) : (Builtin.zeroCells (Value.int k 0).cells m).toList = nums k (List.replicate m 0) := by
  apply List.ext_getElem
  · simp [nums, Value.cells, size_zeroCells]
  · intro i h1 h2
    simp [nums, Builtin.zeroCells, Value.cells, Nat.mod_one]
theorem ev_append_zeros {P : Program} {ops : Array Oper} {rest : List Oper} {o : Oper} {a : Act} {W : World} {Q : Exit → Act → World → Prop} (base : Nat) (hgd : o.guard = none) (s x : Operand) (t ti e : TypeId) (k : IntKind) (bytes : Nat)
    (ho : o.op = .call { callee := .builtin .append, args := #[s, x], argTypes := #[t, ti] })
    (ht : P.underlying t = some (.slice e)) {kt : IntKind} (hti : P.underlying ti = some (.int kt)) (hinfo : (P.info? e).map (fun i => (i.zero, i.size, i.bytes)) = some (some (.int k 0), 1, bytes)) (hb0 : 0 < bytes)
    (v : Value) (l : List Int) (kx : IntKind) (m : Nat) (hs : a.eval s = v) (hx : a.eval x = .int kx (m : Int)) (HO : W.ownsRow base e 1 v l.length (nums k l)) (hbase : base ≤ W.heap.size) (hl : (l.length + m) * bytes ≤ 140737488355328)
    (h : ∀ v1 w1, w1.ownsRow base e 1 v1 (l ++ List.replicate m 0).length (nums k (l ++ List.replicate m 0)) → W.grownBy w1 v.ownBlock → (v1.ownBlock = v.ownBlock ∨ v1.ownBlock = some W.heap.size) → wpList P ops Q rest (a.put o.dst v1) w1) :
    wpList P ops Q (o :: rest) a W := by
  obtain ⟨i0, hi, hzz⟩ := Option.map_eq_some_iff.1 hinfo
  simp only [Prod.mk.injEq] at hzz
  obtain ⟨v1, w1, hr, h1, h2, h3⟩ := run_append_zeros (P := P) W base t ti o.type e i0 (.int k 0) 1 bytes ht hti hi hzz.1 hzz.2.1 hzz.2.2 rfl (by omega) hb0 v l.length (nums k l) HO kx m (by rw [zeroCells_nums]; intro u hu; simp [nums] at hu; rw [hu.2]; rfl) hl hbase
  refine wpList_plain hgd fun K hK => ?_
  unfold Oper.wp execOp
  simp only [ho, resolve, invoke, builtin, Sem.run_bind, Sem.run_pure, Result.andThen_ok, List.map_toArray, List.map_cons, List.map_nil, hs, hx, hr]
  refine hK _ _ (h v1 w1 ?_ h2 h3)
  rw [zeroCells_nums] at h1
  simpa [nums] using h1

/-- but for block g and blocks of bytes all is as it was -/
def TF (g : Nat) (w w' : World) : Prop := ∀ (k : Nat) (cs : Array Value) (t : TypeId) (r : Nat × Nat), w.heap[k]? = some (Obj.cells cs t r) → k ≠ g → t ≠ 5 → w'.heap[k]? = some (Obj.cells cs t r)
theorem TF.refl (g : Nat) (w : World) : TF g w w := fun _ _ _ _ h _ _ => h
theorem TF.trans {g : Nat} {a b c : World} (h : TF g a b) (h' : TF g b c) : TF g a c := fun k cs t r x p q => h' k cs t r (h k cs t r x p q) p q
/-- the value under way: its tag, its bytes -/
structure TV (B g : Nat) (tag : Int) (v : Value) (l : List Int) (w : World) : Prop where
  blk : w.heap[g]? = some (.cells #[.int .u8 tag, v, .slice none 0 0] 25 (0, 0))
  own : w.ownsRow B 5 1 v l.length (nums .u8 l)
  ge : B ≤ g
theorem TV.ne {B g : Nat} {tag : Int} {v : Value} {l : List Int} {w : World} (h : TV B g tag v l w) : some g ≠ v.ownBlock := own_ne h.own h.blk (by decide)
theorem TV.lt {B g : Nat} {tag : Int} {v : Value} {l : List Int} {w : World} (h : TV B g tag v l w) : g < w.heap.size := (Array.getElem?_eq_some_iff.1 h.blk).1
theorem TF.grown {B g : Nat} {tag : Int} {v : Value} {l : List Int} {w w1 : World} (h : TV B g tag v l w) (hg : w.grownBy w1 v.ownBlock) : TF g w w1 := fun k cs t r hk h1 h2 => by
  refine (hg.block k (Array.getElem?_eq_some_iff.1 hk).1 fun e => ?_).trans hk
  obtain ⟨c, hc⟩ := own_typed h.own k e.symm
  rw [hk] at hc
  injection hc with hc
  injection hc with _ hc _
  exact h2 hc
theorem TF.setVal (w : World) (g i : Nat) (v : Value) : TF g w (w.setCell ⟨g, i, none⟩ v) := fun k cs' t r' hk h1 h2 => (Below.heap_setCell _ _ _ _ h1).trans hk
theorem TF.setByte {w : World} {g gd i : Nat} {cs : Array Value} {r} (h : w.heap[gd]? = some (.cells cs 5 r)) (v : Value) : TF g w (w.setCell ⟨gd, i, none⟩ v) := fun k cs' t r' hk h1 h2 => by
  refine (Below.heap_setCell _ _ _ _ fun e => ?_).trans hk
  simp only at e
  subst e
  rw [h] at hk
  injection hk with hk
  injection hk with _ hk _
  exact h2 hk.symm
theorem TV.put {B g : Nat} {tag : Int} {v v1 : Value} {l l1 : List Int} {w w1 : World} (h : TV B g tag v l w) (hg : w.grownBy w1 v.ownBlock) (ho : w1.ownsRow B 5 1 v1 l1.length (nums .u8 l1)) : TV B g tag v1 l1 (w1.setCell ⟨g, 1, none⟩ v1) := by
  have h1 : w1.heap[g]? = _ := (hg.block g h.lt (h.ne)).trans h.blk
  have hne : some g ≠ v1.ownBlock := own_ne ho h1 (by decide)
  refine ⟨?_, ?_, h.ge⟩
  · rw [heap_setCell_same w1 g 1 _ _ _ h1]
    rfl
  · rcases ho with ⟨hl, ⟨e1, e2⟩ | ⟨g', cap, cur, e1, e2, e3, e4⟩⟩
    · exact ⟨hl, .inl ⟨e1, e2⟩⟩
    · subst e1
      exact ⟨hl, .inr ⟨g', cap, cur, rfl, e2, (Below.heap_setCell _ _ _ _ (fun e => hne (by simp only at e; rw [e]; rfl))).trans e3, e4⟩⟩
/-- what a call of put leaves -/
def PutPost (B g : Nat) (tag : Int) (l : List Int) (w0 w w' : World) : Prop := ∃ v', TV B g tag v' l w' ∧ Below B w0 w' ∧ TF g w w' ∧ w.heap.size ≤ w'.heap.size
theorem own_shape {w : World} {base : Nat} {e : TypeId} {size n : Nat} {v : Value} {xs : List Value} (h : w.ownsRow base e size v n xs) (hn : 0 < n) : ∃ g cap, v = .slice (some ⟨g, 0, none⟩) n cap ∧ n ≤ cap ∧ base ≤ g ∧ ∃ cs : Array Value, w.heap[g]? = some (Obj.cells cs e (0, 0)) := by
  rcases h.2 with ⟨_, e2⟩ | ⟨g', cap, cur, e1, e2, e3, e4, _⟩
  · omega
  · exact ⟨g', cap, e1, e4, e2, cur, e3⟩
theorem frozen_of {w : World} {g : Nat} {cs : Array Value} {t : TypeId} (h : w.heap[g]? = some (Obj.cells cs t (0, 0))) (i : Nat) : w.frozen? ⟨g, i, none⟩ = false := by simp [World.frozen?, h]
/-- one digit more -/
theorem dgs_set (l : List Int) (x : Int) (n j : Nat) (hj : j < n) : (l ++ List.replicate (n - j) 0 ++ dgs j x).set (l.length + (n - 1 - j)) (48 + x / 10 ^ j % 10) = l ++ List.replicate (n - (j + 1)) 0 ++ dgs (j + 1) x := by
  rw [dgs_front, show n - j = (n - (j + 1)) + 1 by omega, List.replicate_succ', List.append_assoc, List.append_assoc, List.set_append_right _ _ (by omega), List.append_assoc, List.set_append_right _ _ (by simp; omega)]
  simp only [List.append_assoc, List.length_replicate]
  rw [show l.length + (n - 1 - j) - l.length - (n - (j + 1)) = 0 by omega]
  rfl

/-- the loop of put -/
structure PW (B g gd cp1 n : Nat) (x tag : Int) (l : List Int) (w0 w : World) (j : Nat) (wr : World) : Prop where
  tv : TV B g tag (.slice (some ⟨gd, 0, none⟩) (l.length + n) cp1) (l ++ List.replicate (n - j) 0 ++ dgs j x) wr
  bel : Below B w0 wr
  tf : TF g w wr
  sz : w.heap.size ≤ wr.heap.size
theorem PW.step {B g gd cp1 n : Nat} {x tag : Int} {l : List Int} {w0 w : World} {j : Nat} {wr : World} (h : PW B g gd cp1 n x tag l w0 w j wr) (hj : j < n) : PW B g gd cp1 n x tag l w0 w (j + 1) (wr.setCell ⟨gd, l.length + (n - 1 - j), none⟩ (.int .u8 (48 + x / 10 ^ j % 10))) := by
  have hl : (l ++ List.replicate (n - j) 0 ++ dgs j x).length = l.length + n := by simp [dgs_len]; omega
  have ho := h.tv.own
  rw [hl] at ho
  have ho2 := own_set ho (l.length + (n - 1 - j)) (48 + x / 10 ^ j % 10)
  rw [dgs_set l x n j hj] at ho2
  obtain ⟨gx, _, e1, _, hgd, cs, hcs⟩ := own_shape ho (by omega)
  obtain rfl : gd = gx := by injection e1 with e1; injection e1 with e1; injection e1
  have hne : g ≠ gd := fun e => h.tv.ne (by rw [e]; rfl)
  refine ⟨⟨(Below.heap_setCell _ _ _ _ hne).trans h.tv.blk, ?_, h.tv.ge⟩, h.bel.setCell hgd _, h.tf.trans (TF.setByte hcs _), by simp [World.setCell]; exact h.sz⟩
  have hl2 : (l ++ List.replicate (n - (j + 1)) 0 ++ dgs (j + 1) x).length = l.length + n := by simp [dgs_len]; omega
  rw [hl2]
  exact ho2

set_option maxRecDepth 100000 in
set_option maxHeartbeats 400000 in
theorem put_any (B g n : Nat) (x tag : Int) (l : List Int) (v : Value) (w0 w : World) (h : TV B g tag v l w) (HB : Below B w0 w) (hBs : B ≤ w.heap.size) (hx : 0 ≤ x) (hx2 : x ≤ 1000000) (hn : 1 ≤ n) (hn2 : n ≤ 100) (hl : l.length ≤ 1000) :
    Calls Tryd.prog 38 #[.int .i64 x, .int .i64 (n : Int), .pointer (some ⟨g, 0, none⟩)] w fun e w' => e = .returned (.tuple #[]) ∧ PutPost B g tag (l ++ dgs n x) w0 w w' := by
  have c0 := cell_of_row w g 1 _ _ _ h.blk
  simp at c0
  obtain ⟨A, cp, rfl, hrd⟩ := own_reads h.own
  replace hrd := Go.Lib.hid hrd
  have H := Go.Lib.hid h
  have HB' := Go.Lib.hid HB
  have hlen : (l.length + n) * 1 ≤ 140737488355328 := by omega
  replace hlen := Go.Lib.hid hlen
  clear h HB
  go_enter Tryd.func38, Tryd.ntmps38
  go_wp2_with (at_builtin; refine ev_append_zeros B rfl (.tmp 11) (.tmp 12) 22 3 5 .u8 1 rfl Tryd.underlying22 Tryd.underlying3 info_b8 (by omega) (.slice A l.length cp) l .i64 n rfl rfl H.out.own hBs hlen.out ?_; intro v1 w1 ho1 hg1 hat1; have P := Go.Lib.hid (H.out.put hg1 ho1); obtain ⟨gd, cp1, rfl, hcp1, hgd, _, _⟩ := own_shape ho1 (by simp; omega); rw [show (l ++ List.replicate n (0 : Int)).length = l.length + n by simp] at P; have b1 := (hg1.block g H.out.lt (H.out.ne)).trans H.out.blk; have d1 := cell_of_row w1 g 1 _ _ _ b1; simp at d1; have f1 := frozen_of b1 1; clear b1; replace hg1 := Go.Lib.hid hg1; replace ho1 := Go.Lib.hid ho1; clear hat1)
  have hP : Hid (PW B g gd cp1 n x tag l w0 w 0 (w1.setCell ⟨g, 1, none⟩ (.slice (some ⟨gd, 0, none⟩) (l.length + n) cp1))) := Go.Lib.hid (by
    obtain ⟨cs, hcs⟩ : ∃ cs : Array Value, w1.heap[g]? = some (Obj.cells cs 25 (0, 0)) := ⟨_, (hg1.out.block g H.out.lt H.out.ne).trans H.out.blk⟩
    refine ⟨by simpa [dgs] using P.out, ?_, (TF.grown H.out hg1.out).trans (TF.setVal _ _ _ _), by simp [World.setCell]; exact hg1.out.size⟩
    refine (HB'.out.grown hg1.out hBs ?_).setCell H.out.ge _
    intro k hk
    rcases H.out.own.2 with ⟨e, _⟩ | ⟨g', cap, cur, e, hge, hh2⟩
    · rw [e] at hk
      cases hk
    · rw [e] at hk
      have hk' : g' = k := Option.some.inj hk
      omega)
  generalize w1.setCell _ _ = w2 at hP ⊢
  clear P ho1 hg1 d1 f1 c0 hcp1
  go_loopw [0, 6] (fun v0 v6 wr => ∃ j : Nat, j ≤ n ∧ v0 = .int .i64 (x / 10 ^ j) ∧ v6 = .int .i64 ((n : Int) - 1 - j) ∧ Hid (PW B g gd cp1 n x tag l w0 w j wr)) (fun _ v6 _ => (intOf v6 + 1).toNat)
  case atStart => exact ⟨0, Nat.zero_le _, by simp, by simp, hP⟩
  case round =>
    clear hP
    obtain ⟨j, hj, rfl, rfl, hP⟩ := hrel
    by_cases hlt : j < n
    · have hS := Go.Lib.hid (hP.out.step hlt)
      have k1 := cell_of_row wr g 1 _ _ _ hP.out.tv.blk
      simp at k1
      have hlen2 : (l ++ List.replicate (n - j) 0 ++ dgs j x).length = l.length + n := by simp [dgs_len]; omega
      have ho := hP.out.tv.own
      rw [hlen2] at ho
      have k2 := own_cell ho (l.length + (n - 1 - j)) (by omega)
      have f2 := own_frozen ho (l.length + (n - 1 - j))
      clear ho hlen2
      have hq1 : 0 ≤ x / 10 ^ j := Int.ediv_nonneg hx (Int.le_of_lt (Int.pow_pos (by omega)))
      have hq2 : x / 10 ^ j ≤ 1000000 := Int.le_trans (Int.ediv_le_self _ hx) hx2
      have hq3 : x / 10 ^ (j + 1) = x / 10 ^ j / 10 := by rw [Int.pow_succ, ← Int.ediv_ediv_of_nonneg (Int.le_of_lt (Int.pow_pos (by omega)))]
      replace hq3 := Go.Lib.hid hq3
      obtain ⟨q, eq⟩ : ∃ q, q = x / 10 ^ j := ⟨_, rfl⟩
      rw [← eq] at hq1 hq2 hS hq3 ⊢
      replace eq := Go.Lib.hid eq
      obtain ⟨i, ei⟩ : ∃ i : Nat, i = n - 1 - j := ⟨_, rfl⟩
      rw [← ei] at hS k2 f2
      rw [show (n : Int) - 1 - j = (i : Int) by omega]
      have hi : i < n := by omega
      replace ei := Go.Lib.hid ei
      have hr : 0 ≤ q % 10 ∧ q % 10 ≤ 9 := by omega
      go_wp2_with fail
      go_roundw
      case rel => exact ⟨j + 1, by omega, by rw [hq3.out], by rw [show (n : Int) - 1 - ((j + 1 : Nat) : Int) = (i : Int) - 1 by have := ei.out; omega], hS⟩
      case measure => simp [intOf]; try omega
    · obtain rfl : j = n := by omega
      rw [show (j : Int) - 1 - (j : Int) = -1 by omega]
      go_wp2_with fail
      go_end0
      exact ⟨rfl, _, by simpa using hP.out.tv, hP.out.bel, hP.out.tf, hP.out.sz⟩
end Go.Proofs.YtgjeejgmphaliaaDoor

/-
  The program's PutTime, walked by hand.
-/
namespace Go.Proofs.YtgjeejgmphaliaaDoor
set_option linter.unusedVariables false
set_option linter.unusedSimpArgs false
open Go.RowKit Go.Proofs.YtgjeejgmphaliaaDoorW.PrintWords PDerTimes

/-- the five numbers behind the year -/
def five (m d s : Int) : List Int := [m, d, s / 3600, s / 60 % 60, s % 60]
theorem five_take (m d s : Int) (k : Nat) (hk : k < 5) : ((five m d s).take (k + 1)).flatMap (dgs 2) = ((five m d s).take k).flatMap (dgs 2) ++ dgs 2 (el (five m d s) k) := by
  rw [List.take_succ_eq_append_getElem (by simp [five]; omega), List.flatMap_append]
  congr 1
  simp [el, List.getD_eq_getElem?_getD, List.getElem?_eq_getElem (show k < (five m d s).length by simp [five]; omega)]
theorem five_all (m d s : Int) : ((five m d s).take 5).flatMap (dgs 2) ++ [90] = restT m d s := by
  simp [five, restT, List.append_assoc]
theorem five_el (m d s : Int) (hm : 0 ≤ m ∧ m ≤ 100) (hd : 0 ≤ d ∧ d ≤ 100) (hs : 0 ≤ s ∧ s < 86400) (k : Nat) (hk : k < 5) : 0 ≤ el (five m d s) k ∧ el (five m d s) k ≤ 1000000 := by
  rcases (by omega : k = 0 ∨ k = 1 ∨ k = 2 ∨ k = 3 ∨ k = 4) with rfl | rfl | rfl | rfl | rfl <;> simp [five, el] <;> omega
theorem five_len (m d s : Int) (k : Nat) : (((five m d s).take k).flatMap (dgs 2)).length ≤ 10 := by
  rcases (by omega : k = 0 ∨ k = 1 ∨ k = 2 ∨ k = 3 ∨ k = 4 ∨ 5 ≤ k) with rfl | rfl | rfl | rfl | rfl | h
  · simp
  · simp [five, dgs_len]
  · simp [five, dgs_len]
  · simp [five, dgs_len]
  · simp [five, dgs_len]
  · rw [List.take_of_length_le (by simp [five]; omega)]
    simp [five, dgs_len]

/-- PutTime under way -/
structure PS (B c g : Nat) (cs : Array Value) (tag : Int) (v : Value) (l : List Int) (w wr : World) : Prop where
  tv : TV B g tag v l wr
  bel : Below B w wr
  clk : wr.heap[c]? = some (.cells cs 69 (0, 0))
  res : wr.heap[B]? = some (.cells #[.int .u8 0, .slice none 0 0, .slice none 0 0] 25 (0, 0))
theorem PS.next {B c g : Nat} {cs : Array Value} {tag : Int} {v : Value} {l l' : List Int} {w wr w' : World} (h : PS B c g cs tag v l w wr) (hp : PutPost B g tag l' w wr w') (hc : c ≠ g) (hB : B ≠ g) : ∃ v', PS B c g cs tag v' l' w w' := by
  obtain ⟨v', a, b, t, _⟩ := hp
  exact ⟨v', a, b, t c _ _ _ h.clk hc (by decide), t B _ _ _ h.res hB (by decide)⟩

set_option maxRecDepth 100000 in
set_option maxHeartbeats 2000000 in
theorem pput_any (t s N y d : Int) (M : Nat) (w : World) (h1 : -62167219200 ≤ t) (h2 : t ≤ 253402300799) (es : s = (t + 62167219200) % 86400) (eN : N = (t + 62167219200) / 86400) (hD : Date y M d N) (hy : 0 ≤ y ∧ y ≤ 100000) :
    Calls Tryd.prog 8 #[.int .i64 t] w fun e w' => ∃ v, e = .returned (.tuple #[.agg #[.int .u8 (timeT y M d s).1, v, .slice none 0 0], .int .i64 0]) ∧ w'.ownsRow w.heap.size 5 1 v (timeT y M d s).2.length (nums .u8 (timeT y M d s).2) ∧ Below w.heap.size w w' := by
  have g1 : ¬ t < -62167219200 := by omega
  have g2 : ¬ 253402300799 < t := by omega
  have HC := Go.Lib.hid (fun W => clockOf_any t s N y d M W h1 h2 es eN hD)
  have hfe := Go.Lib.hid (five_el M d s ⟨by omega, by have := hD.m2; omega⟩ ⟨by have := hD.d1; omega, by have := hD.d2; have := mDays_range y M; omega⟩ (by omega))
  replace hD := Go.Lib.hid hD
  replace eN := Go.Lib.hid eN
  replace es := Go.Lib.hid es
  have hbo := heap_new w (Obj.cells #[Value.int .u8 0, Value.slice none 0 0, Value.slice none 0 0] 25)
  replace hbo := Go.Lib.hid hbo
  obtain ⟨tag, etag⟩ : ∃ tag, tag = (timeT y M d s).1 := ⟨_, rfl⟩
  obtain ⟨n, L0, hn1, hn2, hL0, etl⟩ : ∃ (n : Nat) (L0 : List Int), 1 ≤ n ∧ n ≤ 100 ∧ L0 = dgs n y ∧ (timeT y M d s).2 = L0 ++ restT M d s := by
    unfold timeT
    split
    · exact ⟨2, _, by omega, by omega, rfl, rfl⟩
    · exact ⟨4, _, by omega, by omega, rfl, rfl⟩
  rw [← etag, etl, ← five_all]
  replace etl := Go.Lib.hid etl
  have hcase : (1950 ≤ y ∧ y < 2050 ∧ tag = 23 ∧ n = 2) ∨ (¬ (1950 ≤ y ∧ y < 2050) ∧ tag = 24 ∧ n = 4) := by
    have etl := etl.out
    by_cases hc : 1950 ≤ y ∧ y < 2050
    · unfold timeT at etl etag
      rw [if_pos hc] at etl etag
      have := congrArg List.length etl
      simp [hL0, dgs_len] at this
      exact .inl ⟨hc.1, hc.2, etag, by omega⟩
    · unfold timeT at etl etag
      rw [if_neg hc] at etl etag
      have := congrArg List.length etl
      simp [hL0, dgs_len] at this
      exact .inr ⟨hc, etag, by omega⟩
  replace etag := Go.Lib.hid etag
  go_enter Tryd.func8, Tryd.ntmps8
  go_wp2_with fail
  refine (HC.out _).mono ?_
  rintro e w1 ⟨rfl, hb1⟩
  have hsz1 : w.heap.size < w1.heap.size := by have := hb1.size; simp at this; omega
  have hput := Go.Lib.hid (fun (n : Nat) (x tag : Int) (l : List Int) (v : Value) (W : World) (h : TV w.heap.size (w1.heap.size + 1) tag v l W) (HB : Below w.heap.size w W) (hx : 0 ≤ x) (hx2 : x ≤ 1000000) (hn : 1 ≤ n) (hn2 : n ≤ 100) (hl : l.length ≤ 1000) => put_any w.heap.size (w1.heap.size + 1) n x tag l v w W h HB HB.size hx hx2 hn hn2 hl)
  obtain ⟨cs, ecs⟩ : ∃ cs, cs = #[Value.int IntKind.i64 y, Value.int IntKind.i64 ↑M, Value.int IntKind.i64 d, Value.int IntKind.i64 (s / 3600), Value.int IntKind.i64 (s / 60 % 60), Value.int IntKind.i64 (s % 60)] := ⟨_, rfl⟩
  have hP0 : Hid (∀ tag, PS w.heap.size w1.heap.size (w1.heap.size + 1) cs tag (.slice none 0 0) [] w ((w1.alloc (Obj.cells cs 69)).alloc (Obj.cells #[.int .u8 tag, Value.slice none 0 0, Value.slice none 0 0] 25))) := Go.Lib.hid (fun tag => by
    have hr1 : w1.heap[w.heap.size]? = _ := (hb1.block _ (by simp)).trans hbo.out
    have e1 : (w1.alloc (Obj.cells cs 69)).heap.size = w1.heap.size + 1 := by simp
    refine ⟨⟨?_, own_nil _ _ _ _, by omega⟩, ?_, ?_, ?_⟩
    · rw [← e1]
      exact heap_new _ _
    · exact ((below_then ((Below.refl _ _).alloc (Nat.le_refl _) _) (by simp) hb1).alloc (by omega) _).alloc (by rw [e1]; omega) _
    · exact (Below.heap_alloc _ _ _ (by rw [e1]; omega)).trans (heap_new _ _)
    · exact (Below.heap_alloc _ _ _ (by rw [e1]; omega)).trans ((Below.heap_alloc _ _ _ hsz1).trans hr1))
  have hsz25 : (Tryd.prog.info? 25).map (·.size) = some 3 := by kernel_rfl
  obtain ⟨i2, hi2, hzz2⟩ := Option.map_eq_some_iff.1 (show (Tryd.prog.info? 2).map (·.size) = some 1 by kernel_rfl)
  have hidx : Hid (∀ k : Nat, k < 5 → ∀ W, (Instr.index 72 (.agg #[.int .i64 (M : Int), .int .i64 d, .int .i64 (s / 3600), .int .i64 (s / 60 % 60), .int .i64 (s % 60)]) (.int .i64 (k : Int))).run Tryd.prog W = .ok (.int .i64 (el (five M d s) k)) W) := Go.Lib.hid (fun k hk W =>
    run_index_arr Tryd.underlying72 Tryd.underlying2 hi2 hzz2 (five M d s) .i64 k rfl hk W)
  clear hi2 hzz2
  have hL0l : L0.length ≤ 100 := by rw [hL0, dgs_len]; exact hn2
  have hput2 := Go.Lib.hid (hput.out 2)
  rw [show ((2 : Nat) : Int) = 2 from rfl] at hput2
  have hput4 := Go.Lib.hid (hput.out 4)
  rw [show ((4 : Nat) : Int) = 4 from rfl] at hput4
  have hP0' := hP0
  rw [ecs] at hP0'
  replace ecs := Go.Lib.hid ecs
  replace hcase : (1950 ≤ y ∧ y < 2050 ∧ tag = 23 ∧ n = 2) ∨ (y < 1950 ∧ tag = 24 ∧ n = 4) ∨ (1950 ≤ y ∧ 2050 ≤ y ∧ tag = 24 ∧ n = 4) := by omega
  rcases hcase with ⟨c1, c2, rfl, rfl⟩ | ⟨c1, rfl, rfl⟩ | ⟨c1, c2, rfl, rfl⟩
  all_goals
    go_wp2_with fail
    first
      | (with_reducible refine (hput2.out y 23 [] _ _ (hP0'.out 23).tv (hP0'.out 23).bel (by omega) (by omega) (by omega) (by omega) (by simp)).mono ?_)
      | (with_reducible refine (hput4.out y 24 [] _ _ (hP0'.out 24).tv (hP0'.out 24).bel (by omega) (by omega) (by omega) (by omega) (by simp)).mono ?_)
    rintro e w2 ⟨rfl, hpp⟩
    obtain ⟨v2, hP⟩ := (hP0'.out _).next hpp (by omega) (by omega)
    rw [← ecs.out] at hP
  all_goals
    rw [List.nil_append, ← hL0] at hP
    have q := hP.clk
    rw [ecs.out] at q
    replace hP := Go.Lib.hid hP
    replace hL0 := Go.Lib.hid hL0
    have k1 := cell_of_row w2 w1.heap.size 1 _ _ _ q
    have k2 := cell_of_row w2 w1.heap.size 2 _ _ _ q
    have k3 := cell_of_row w2 w1.heap.size 3 _ _ _ q
    have k4 := cell_of_row w2 w1.heap.size 4 _ _ _ q
    have k5 := cell_of_row w2 w1.heap.size 5 _ _ _ q
    simp at k1 k2 k3 k4 k5
    clear q hpp
    go_wp2_with fail
    clear k1 k2 k3 k4 k5
    go_loopw [48] (fun v48 wr => ∃ (k : Nat) (v : Value), k ≤ 5 ∧ v48 = .int .i64 (k : Int) ∧ Hid (PS w.heap.size w1.heap.size (w1.heap.size + 1) cs _ v (L0 ++ ((five M d s).take k).flatMap (dgs 2)) w wr)) (fun v48 _ => (5 - intOf v48).toNat)
    case atStart => exact ⟨0, v2, by omega, rfl, by simpa using hP⟩
    case round =>
      clear hP
      obtain ⟨k, v, hk, rfl, hP⟩ := hrel
      by_cases hlt : k < 5
      · have hix := hidx.out k hlt
        have he := hfe.out k hlt
        have hl2 := five_len M d s k
        go_wp2_with fail
        refine (hput2.out (el (five M d s) k) _ _ _ _ hP.out.tv hP.out.bel he.1 he.2 (by omega) (by omega) (by simp only [List.length_append]; omega)).mono ?_
        rintro e w3 ⟨rfl, hpp⟩
        obtain ⟨v3, hP3⟩ := hP.out.next hpp (by omega) (by omega)
        rw [List.append_assoc, ← five_take _ _ _ _ hlt] at hP3
        replace hP3 := Go.Lib.hid hP3
        clear hpp hix
        go_wp2_with fail
        go_roundw
        case rel => exact ⟨k + 1, v3, by omega, by go_num, hP3⟩
        case measure => simp [intOf]; omega
      · obtain rfl : k = 5 := by omega
        have hl2 := five_len M d s 5
        have hBw : w.heap.size ≤ wr.heap.size := hP.out.bel.size
        have hll : ((L0 ++ ((five M d s).take 5).flatMap (dgs 2)).length + 1) * 1 ≤ 140737488355328 := by simp only [List.length_append]; omega
        clear hl2
        obtain ⟨L, eL⟩ : ∃ L, L = L0 ++ ((five M d s).take 5).flatMap (dgs 2) := ⟨_, rfl⟩
        rw [← eL] at hP hll
        replace eL := Go.Lib.hid eL
        obtain ⟨A, cp, rfl, _⟩ := own_reads hP.out.tv.own
        have k1 := cell_of_row wr (w1.heap.size + 1) 1 _ _ _ hP.out.tv.blk
        simp at k1
        go_wp2_with (first
          | (at_builtin; refine print_append_num (w0 := w) (W := wr) w.heap.size rfl (.tmp 56) (.tmp 57) 22 5 .u8 1 rfl Tryd.underlying22 info_b8 (by omega) (.slice A L.length cp) L 90 rfl rfl hP.out.tv.own hP.out.bel hBw hll ?_; intro v7 w7 ho7 hb7 hg7 hat7; have P := Go.Lib.hid (hP.out.tv.put hg7 ho7); have hr := Go.Lib.hid ((Below.heap_setCell w7 ⟨w1.heap.size + 1, 1, none⟩ v7 w.heap.size (by simp only; omega)).trans ((hg7.block _ (Array.getElem?_eq_some_iff.1 hP.out.res).1 (own_ne hP.out.tv.own hP.out.res (by decide))).trans hP.out.res)); obtain ⟨gd, cp1, rfl, hcp1, hgd, _, _⟩ := own_shape ho7 (by simp); have el1 : (L ++ [(90 : Int)]).length = L.length + 1 := (by simp); have PO := P.out.own; rw [el1] at hr PO; clear el1; replace PO := Go.Lib.hid PO; clear P ho7; have b1 := (hg7.block _ hP.out.tv.lt (hP.out.tv.ne)).trans hP.out.tv.blk; have d0 := cell_of_row w7 (w1.heap.size + 1) 0 _ _ _ b1; have d1 := cell_of_row w7 (w1.heap.size + 1) 1 _ _ _ b1; have d2 := cell_of_row w7 (w1.heap.size + 1) 2 _ _ _ b1; simp at d0 d1 d2; have f1 := frozen_of b1 1; clear b1; have hB8 := Go.Lib.hid (hb7.setCell (p := ⟨w1.heap.size + 1, 1, none⟩) (show w.heap.size ≤ w1.heap.size + 1 by omega) (.slice (some ⟨gd, 0, none⟩) (L.length + 1) cp1)); replace hg7 := Go.Lib.hid hg7; replace hb7 := Go.Lib.hid hb7; clear hat7)
          | (refine ev_storeany (ty := 25) rfl rfl rfl hr.out rfl rfl hsz25 (by simp [Value.oneCell']) ?_; intro w8 h8 b8))
        refine bodyPost_ret (results_cell_tmp rfl _ _ rfl rfl b8 Tryd.underlying25 rfl hsz25) rfl ⟨_, rfl, ?_, h8.bel hB8.out hB8.out.size (Nat.le_refl _)⟩
        rw [← List.append_assoc, ← eL.out]
        have hown := PO.out.kept h8.grown (.inr (Ne.symm (own_ne PO.out hr.out (by decide))))
        simpa using hown
set_option maxRecDepth 100000 in
theorem pput_out (t : Int) (w : World) (h : t < -62167219200 ∨ (-62167219200 ≤ t ∧ 253402300799 < t)) :
    Calls Tryd.prog 8 #[.int .i64 t] w fun e w' => e = .returned (.tuple #[.agg #[.int .u8 0, .slice none 0 0, .slice none 0 0], .int .i64 3]) ∧ Below w.heap.size w w' := by
  have hsz : (Tryd.prog.info? 25).map (·.size) = some 3 := by kernel_rfl
  have hO : Below w.heap.size w (w.alloc (Obj.cells #[Value.int .u8 0, Value.slice none 0 0, Value.slice none 0 0] 25)) := (Below.refl _ _).alloc (Nat.le_refl _) _
  have bO := heap_new w (Obj.cells #[Value.int .u8 0, Value.slice none 0 0, Value.slice none 0 0] 25)
  replace hO := Go.Lib.hid hO
  go_enter Tryd.func8, Tryd.ntmps8
  rcases h with h | ⟨h0, h⟩
  all_goals
    go_wp2_with (refine ev_storeany (ty := 25) rfl rfl rfl bO rfl rfl hsz (by simp [Value.oneCell']) ?_; intro w8 h8 b8)
    exact bodyPost_ret (results_cell_tmp rfl _ _ rfl rfl b8 Tryd.underlying25 rfl hsz) rfl ⟨rfl, h8.bel hO.out hO.out.size (Nat.le_refl _)⟩
end Go.Proofs.YtgjeejgmphaliaaDoor

/-
  The closure 'read' of the program's readClock, walked by hand.
-/
namespace Go.Proofs.YtgjeejgmphaliaaDoor
set_option linter.unusedVariables false
set_option linter.unusedSimpArgs false
open Go.RowKit Go.Proofs.YtgjeejgmphaliaaDoorW.PrintWords PDerTimes

/-- a byte as a digit -/
def dv (b : List Int) (i : Nat) : Int := (el b i - 48) % 256
/-- n bytes from k on as a number -/
def rdV (b : List Int) (k : Nat) : Nat → Int
  | 0 => 0
  | n + 1 => 10 * rdV b k n + dv b (k + n)
/-- are n bytes from k on digits? -/
def okV (b : List Int) (k : Nat) : Nat → Bool
  | 0 => true
  | n + 1 => okV b k n && decide (dv b (k + n) ≤ 9)
theorem dv_range (b : List Int) (i : Nat) : 0 ≤ dv b i ∧ dv b i ≤ 255 := by unfold dv; omega
theorem rdV_range (b : List Int) (k n : Nat) (hn : n ≤ 4) : 0 ≤ rdV b k n ∧ rdV b k n ≤ 1000000 := by
  have h0 := dv_range b (k + 0)
  have h1 := dv_range b (k + 1)
  have h2 := dv_range b (k + 2)
  have h3 := dv_range b (k + 3)
  rcases (by omega : n = 0 ∨ n = 1 ∨ n = 2 ∨ n = 3 ∨ n = 4) with rfl | rfl | rfl | rfl | rfl <;> simp only [rdV] <;> omega

/-- but for blocks p, q all is as it was -/
structure RF (p q : Nat) (w w' : World) : Prop where
  os : w'.os = w.os
  tape : w'.tape = w.tape
  output : w'.output = w.output
  size : w'.heap.size = w.heap.size
  block : ∀ k, k ≠ p → k ≠ q → w'.heap[k]? = w.heap[k]?
theorem RF.refl (p q : Nat) (w : World) : RF p q w w := ⟨rfl, rfl, rfl, rfl, fun _ _ _ => rfl⟩
theorem RF.setp {p q : Nat} {w w' : World} (h : RF p q w w') (i : Nat) (v : Value) : RF p q w (w'.setCell ⟨p, i, none⟩ v) :=
  ⟨h.os, h.tape, h.output, by simp [World.setCell, h.size], fun k hk hg => (Below.heap_setCell _ _ _ _ hk).trans (h.block k hk hg)⟩
theorem RF.setq {p q : Nat} {w w' : World} (h : RF p q w w') (i : Nat) (v : Value) : RF p q w (w'.setCell ⟨q, i, none⟩ v) :=
  ⟨h.os, h.tape, h.output, by simp [World.setCell, h.size], fun k hk hg => (Below.heap_setCell _ _ _ _ hg).trans (h.block k hk hg)⟩
theorem RF.bel {B p q : Nat} {w0 w w' : World} (h : RF p q w w') (hb : Below B w0 w) (hp : B ≤ p) (hq : B ≤ q) : Below B w0 w' :=
  ⟨h.os.trans hb.os, h.tape.trans hb.tape, h.output.trans hb.output, by rw [h.size]; exact hb.size, fun k hk => (h.block k (by omega) (by omega)).trans (hb.block k hk)⟩
theorem RF.trans {p q : Nat} {a b c : World} (h : RF p q a b) (k : RF p q b c) : RF p q a c :=
  ⟨k.os.trans h.os, k.tape.trans h.tape, k.output.trans h.output, k.size.trans h.size, fun i hi hj => (k.block i hi hj).trans (h.block i hi hj)⟩
/-- the captured ones: the bytes' slice, the place, the flag -/
structure RS (pb pa po : Nat) (v : Value) (k : Nat) (ok : Bool) (w : World) : Prop where
  b : w.heap[pb]? = some (.cells #[v] 22 (0, 0))
  a : w.heap[pa]? = some (.cells #[.int .i64 (k : Int)] 3 (0, 0))
  o : w.heap[po]? = some (.cells #[.bool ok] 4 (0, 0))
theorem ne_type {w : World} {g g' : Nat} {cs cs' : Array Value} {t t' : TypeId} {r r' : Nat × Nat} (h : w.heap[g]? = some (.cells cs t r)) (h' : w.heap[g']? = some (.cells cs' t' r')) (ht : t ≠ t') : g ≠ g' := fun e => by
  subst e
  rw [h] at h'
  injection h' with h'
  injection h' with _ h' _
  exact ht h'
theorem RS.seta {pb pa po : Nat} {v : Value} {k k' : Nat} {ok : Bool} {w : World} (h : RS pb pa po v k ok w) : RS pb pa po v k' ok (w.setCell ⟨pa, 0, none⟩ (.int .i64 (k' : Int))) :=
  ⟨(Below.heap_setCell _ _ _ _ (ne_type h.b h.a (by decide))).trans h.b, by rw [heap_setCell_same w pa 0 _ _ _ h.a]; rfl, (Below.heap_setCell _ _ _ _ (ne_type h.o h.a (by decide))).trans h.o⟩
theorem RS.seto {pb pa po : Nat} {v : Value} {k : Nat} {ok ok' : Bool} {w : World} (h : RS pb pa po v k ok w) : RS pb pa po v k ok' (w.setCell ⟨po, 0, none⟩ (.bool ok')) :=
  ⟨(Below.heap_setCell _ _ _ _ (ne_type h.b h.o (by decide))).trans h.b, (Below.heap_setCell _ _ _ _ (ne_type h.a h.o (by decide))).trans h.a, by rw [heap_setCell_same w po 0 _ _ _ h.o]; rfl⟩

/-- what a call of read leaves -/
def ReadPost (pb pa po n : Nat) (v : Value) (b : List Int) (k : Nat) (ok : Bool) (w w' : World) : Prop := RS pb pa po v (k + n) (ok && okV b k n) w' ∧ RF pa po w w'
set_option maxRecDepth 100000 in
set_option maxHeartbeats 400000 in
theorem read_any (B pb pa po n nb c k : Nat) (A : Option Addr) (b : List Int) (ok : Bool) (w0 w : World) (h : RS pb pa po (.slice A nb c) k ok w) (hr : ReadsInt w0 .u8 A nb b) (hbb : Byt b) (hB : Below B w0 w) (hB0 : B = w0.heap.size) (hpa : B ≤ pa) (hpo : B ≤ po) (hn : n ≤ 4) (hk : k + n ≤ nb) :
    Calls Tryd.prog 74 #[.int .i64 (n : Int), .pointer (some ⟨pb, 0, none⟩), .pointer (some ⟨pa, 0, none⟩), .pointer (some ⟨po, 0, none⟩)] w fun e w' => e = .returned (.int .i64 (rdV b k n)) ∧ ReadPost pb pa po n (.slice A nb c) b k ok w w' := by
  have hr' := Go.Lib.hid hr
  have hbb' := Go.Lib.hid hbb
  have hB' := Go.Lib.hid hB
  have h' := Go.Lib.hid h
  have hnb : nb ≤ 9223372036854775807 := hr.2.1
  clear hr hbb hB h
  go_enter Tryd.func74, Tryd.ntmps74
  go_wp2_with fail
  go_loopw [5, 8] (fun v5 v8 wr => ∃ j : Nat, j ≤ n ∧ v5 = .int .i64 (rdV b k j) ∧ v8 = .int .i64 (j : Int) ∧ Hid (ReadPost pb pa po j (.slice A nb c) b k ok w wr)) (fun _ v8 _ => (n - intOf v8).toNat)
  case atStart => exact ⟨0, Nat.zero_le _, rfl, rfl, Go.Lib.hid ⟨by simpa [okV] using h'.out, RF.refl _ _ _⟩⟩
  case round =>
    obtain ⟨j, hj, rfl, rfl, hP⟩ := hrel
    by_cases hlt : j < n
    · have k1 := cell_of_row wr pb 0 _ _ _ hP.out.1.b
      have k2 := cell_of_row wr pa 0 _ _ _ hP.out.1.a
      have k3 := cell_of_row wr po 0 _ _ _ hP.out.1.o
      have f2 := frozen_of hP.out.1.a 0
      have f3 := frozen_of hP.out.1.o 0
      simp at k1 k2 k3
      obtain ⟨g, o, rfl, hc⟩ := rd_open hr'.out (by omega)
      have kc := hc (k + j) (by omega)
      have hgB := World.block_lt_of_cell? _ _ kc
      have kc' : wr.cell? ⟨g, o + (k + j), none⟩ = some (.int .u8 (el b (k + j))) := by
        rw [← kc]
        have hb2 := (RF.bel hP.out.2 hB'.out hpa hpo)
        exact hb2.cell (by rw [hB0]; exact hgB)
      clear hc kc
      have he := hbb'.out.el (k + j)
      obtain ⟨x, ex⟩ : ∃ x, x = el b (k + j) := ⟨_, rfl⟩
      rw [← ex] at kc' he
      have hd : dv b (k + j) = (x - 48) % 256 := by rw [ex]; rfl
      replace hd := Go.Lib.hid hd
      replace ex := Go.Lib.hid ex
      have hrv := rdV_range b k j (by omega)
      have hq : 0 ≤ (x - 48) % 256 ∧ (x - 48) % 256 ≤ 255 := by omega
      have n1 : pa ≠ po := ne_type hP.out.1.a hP.out.1.o (by decide)
      have n2 : po ≠ pa := Ne.symm n1
      by_cases h9 : 9 < (x - 48) % 256
      · go_wp2_with fail
        go_roundw
        case rel =>
          refine ⟨j + 1, by omega, by rw [rdV, hd.out], by go_num, Go.Lib.hid ⟨?_, (hP.out.2.setq 0 (.bool false)).setp 0 (.int .i64 ((k + j + 1 : Nat) : Int))⟩⟩
          have hf : (ok && okV b k (j + 1)) = false := by
            rw [okV, hd.out]
            simp
            intro _ _
            omega
          rw [hf]
          exact (hP.out.1.seto (ok' := false)).seta (k' := k + (j + 1))
        case measure => simp [intOf]; omega
      · go_wp2_with fail
        go_roundw
        case rel =>
          refine ⟨j + 1, by omega, by rw [rdV, hd.out]; exact congrArg (Value.int .i64) (by omega), by go_num, Go.Lib.hid ⟨?_, hP.out.2.setp 0 (.int .i64 ((k + j + 1 : Nat) : Int))⟩⟩
          have hf : (ok && okV b k (j + 1)) = (ok && okV b k j) := by
            rw [okV, hd.out]
            have : decide ((x - 48) % 256 ≤ 9) = true := by simp; omega
            rw [this, Bool.and_true]
          rw [hf]
          exact hP.out.1.seta (k' := k + (j + 1))
        case measure => simp [intOf]; omega
    · obtain rfl : j = n := by omega
      go_wp2_with fail
      go_ret
      exact ⟨rfl, hP.out⟩
end Go.Proofs.YtgjeejgmphaliaaDoor

/-
  The program's readClock, walked by hand.
-/
namespace Go.Proofs.YtgjeejgmphaliaaDoor
set_option linter.unusedVariables false
set_option linter.unusedSimpArgs false
open Go.RowKit Go.Proofs.YtgjeejgmphaliaaDoorW.PrintWords PDerTimes

theorem monthDays_any (y : Int) (m : Int) (h : 0 ≤ y) (w : World) : Calls Tryd.prog 75 #[.int .i64 y, .int .i64 m] w fun e w' => e = .returned (.int .i64 (mDays y m)) ∧ Below w.heap.size w w' :=
  (der_monthDays.calls y m _ w (monthDays_f y m h)).mono fun e w' ⟨a, b⟩ => ⟨a, b.below⟩
/-- the year out of its digits -/
def yearV (yd : Nat) (v : Int) : Int := if yd = 2 then (if v + 1900 < 1950 then v + 1900 + 100 else v + 1900) else v
/-- are they all digits? -/
def okAll (b : List Int) (yd : Nat) : Bool := (((((true && okV b 0 yd) && okV b yd 2) && okV b (yd + 2) 2) && okV b (yd + 4) 2) && okV b (yd + 6) 2) && okV b (yd + 8) 2
/-- is it a time? -/
def clkOk (b : List Int) (yd : Nat) : Bool := okAll b yd && (decide (1 ≤ rdV b yd 2) && decide (rdV b yd 2 ≤ 12) && decide (1 ≤ rdV b (yd + 2) 2) && decide (rdV b (yd + 4) 2 < 24) && decide (rdV b (yd + 6) 2 < 60) && decide (rdV b (yd + 8) 2 < 60)) && decide (rdV b (yd + 2) 2 ≤ mDays (yearV yd (rdV b 0 yd)) (rdV b yd 2))
/-- the six numbers -/
def clkL (b : List Int) (yd : Nat) : List Int := [yearV yd (rdV b 0 yd), rdV b yd 2, rdV b (yd + 2) 2, rdV b (yd + 4) 2, rdV b (yd + 6) 2, rdV b (yd + 8) 2]
/-- readClock under way -/
structure KS (w : World) (v : Value) (l : List Int) (k : Nat) (ok : Bool) (wr : World) : Prop where
  rs : RS w.heap.size (w.heap.size + 1 + 1 + 1) (w.heap.size + 1 + 1) v k ok wr
  bel : Below w.heap.size w wr
  clk : Blk wr (w.heap.size + 1) .i64 69 l
theorem KS.next {w : World} {v : Value} {l b : List Int} {k k' n : Nat} {ok ok' : Bool} {wr w' : World} (h : KS w v l k ok wr) (hp : ReadPost w.heap.size (w.heap.size + 1 + 1 + 1) (w.heap.size + 1 + 1) n v b k ok wr w') (hk : k' = k + n) (ho : ok' = (ok && okV b k n)) : KS w v l k' ok' w' := by
  subst hk ho
  exact ⟨hp.1, hp.2.bel h.bel (by omega) (by omega), (hp.2.block _ (by omega) (by omega)).trans h.clk⟩
theorem KS.first (w : World) (v : Value) : KS w v [0, 0, 0, 0, 0, 0] 0 true ((((w.alloc (Obj.cells #[v] 22)).alloc (Obj.cells #[Value.int .i64 0, Value.int .i64 0, Value.int .i64 0, Value.int .i64 0, Value.int .i64 0, Value.int .i64 0] 69)).alloc (Obj.cells #[Value.bool true] 4)).alloc (Obj.cells #[Value.int .i64 0] 3)) := by
  refine ⟨⟨?_, ?_, ?_⟩, ?_, ?_⟩
  · refine (Below.heap_alloc _ _ _ (by simp; omega)).trans ((Below.heap_alloc _ _ _ (by simp; omega)).trans ((Below.heap_alloc _ _ _ (by simp)).trans (heap_new _ _)))
  · have h := heap_new (((w.alloc (Obj.cells #[v] 22)).alloc (Obj.cells #[Value.int .i64 0, Value.int .i64 0, Value.int .i64 0, Value.int .i64 0, Value.int .i64 0, Value.int .i64 0] 69)).alloc (Obj.cells #[Value.bool true] 4)) (Obj.cells #[Value.int .i64 0] 3)
    simpa using h
  · have h := heap_new ((w.alloc (Obj.cells #[v] 22)).alloc (Obj.cells #[Value.int .i64 0, Value.int .i64 0, Value.int .i64 0, Value.int .i64 0, Value.int .i64 0, Value.int .i64 0] 69)) (Obj.cells #[Value.bool true] 4)
    refine (Below.heap_alloc _ _ _ (by simp)).trans ?_
    simpa using h
  · exact ((((Below.refl _ _).alloc (Nat.le_refl _) _).alloc (by simp) _).alloc (by simp; omega) _).alloc (by simp; omega) _
  · have h := heap_new (w.alloc (Obj.cells #[v] 22)) (Obj.cells #[Value.int .i64 0, Value.int .i64 0, Value.int .i64 0, Value.int .i64 0, Value.int .i64 0, Value.int .i64 0] 69)
    refine (Below.heap_alloc _ _ _ (by simp)).trans ((Below.heap_alloc _ _ _ (by simp)).trans ?_)
    simpa using h
theorem KS.stored {w : World} {v : Value} {l l' : List Int} {k : Nat} {ok : Bool} {wr w' : World} (h : KS w v l k ok wr) (hs : Stored (w.heap.size + 1) wr w') (hb : Blk w' (w.heap.size + 1) .i64 69 l') : KS w v l' k ok w' :=
  have q : ∀ (g : Nat) (o : Obj), wr.heap[g]? = some o → g ≠ w.heap.size + 1 → w'.heap[g]? = some o := fun g o h1 h2 => (hs.grown.block g (Array.getElem?_eq_some_iff.1 h1).1 (fun e => h2 (Option.some.inj e))).trans h1
  ⟨⟨q _ _ h.rs.b (by omega), q _ _ h.rs.a (by omega), q _ _ h.rs.o (by omega)⟩, hs.bel h.bel h.bel.size (by omega), hb⟩
theorem KS.setc {w : World} {v : Value} {l : List Int} {k : Nat} {ok : Bool} {wr : World} (h : KS w v l k ok wr) (i : Nat) (x : Int) : KS w v (l.set i x) k ok (wr.setCell ⟨w.heap.size + 1, i, none⟩ (.int .i64 x)) :=
  ⟨⟨(Below.heap_setCell _ _ _ _ (by simp only; omega)).trans h.rs.b, (Below.heap_setCell _ _ _ _ (by simp only; omega)).trans h.rs.a, (Below.heap_setCell _ _ _ _ (by simp only; omega)).trans h.rs.o⟩, h.bel.setCell (show w.heap.size ≤ w.heap.size + 1 by omega) _, h.clk.set i x⟩
theorem KS.seto {w : World} {v : Value} {l : List Int} {k : Nat} {ok : Bool} {wr : World} (h : KS w v l k ok wr) (ok' : Bool) : KS w v l k ok' (wr.setCell ⟨w.heap.size + 1 + 1, 0, none⟩ (.bool ok')) :=
  ⟨h.rs.seto, h.bel.setCell (show w.heap.size ≤ w.heap.size + 1 + 1 by omega) _, h.clk.far (by simp only; omega) _⟩
theorem KS.below {w : World} {v : Value} {l : List Int} {k : Nat} {ok : Bool} {wr w' : World} (h : KS w v l k ok wr) (hb : Below wr.heap.size wr w') : KS w v l k ok w' :=
  have q : ∀ (g : Nat) (o : Obj), wr.heap[g]? = some o → w'.heap[g]? = some o := fun g o h1 => (hb.block g (Array.getElem?_eq_some_iff.1 h1).1).trans h1
  ⟨⟨q _ _ h.rs.b, q _ _ h.rs.a, q _ _ h.rs.o⟩, below_then h.bel h.bel.size hb, h.clk.below hb⟩
theorem KS.drew {w : World} {v : Value} {l : List Int} {k : Nat} {ok : Bool} {wr : World} (h : KS w v l k ok wr) : KS w v l k ok wr.drew := ⟨⟨h.rs.b, h.rs.a, h.rs.o⟩, h.bel.drew, h.clk⟩
theorem name_world {P : Program} {id : Nat} {Q : Exit → Act → World → Prop} {a : Act} {l : Array Oper} {b : Bool} {C : World → Prop} {w : World} (h : C w) (k : ∀ W, C W → (Code.region id l b).wp P Q a W) : (Code.region id l b).wp P Q a w := k w h
theorem run_loadVar_i64 {P : Program} (w : World) (g i : Nat) (ty : TypeId) (k : IntKind) (v : Int) (hc : w.cell? ⟨g, i, none⟩ = some (.int k v)) (hu : P.underlying ty = some (.int k)) (hi : (P.info? ty).map (·.size) = some 1) : (loadVar ty ⟨g, i, none⟩).run P w = .ok (.int k v) w := by
  obtain ⟨i, hi, hz⟩ := Option.map_eq_some_iff.1 hi
  simp [loadVar, isAgg, run_underlying hu, sizeOf, typeInfo, hi, hz, hc, Sem.load]
theorem three1 (w : World) (x y z : Obj) : (((w.alloc x).alloc y).alloc z).heap[w.heap.size + 1]? = some y := by
  refine (Below.heap_alloc _ _ _ (by simp)).trans ?_
  have h := heap_new (w.alloc x) y
  simpa using h
theorem three2 (w : World) (x y z : Obj) : (((w.alloc x).alloc y).alloc z).heap[w.heap.size + 1 + 1]? = some z := by
  have h := heap_new ((w.alloc x).alloc y) z
  simpa using h
theorem three_bel (w : World) (x y z : Obj) : Below w.heap.size w (((w.alloc x).alloc y).alloc z) := (((Below.refl _ _).alloc (Nat.le_refl _) _).alloc (by simp) _).alloc (by simp; omega) _
theorem run_loadVar_bool {P : Program} (w : World) (g : Nat) (t ty : TypeId) (u : Bool) (hb : w.heap[g]? = some (.cells #[.bool u] t (0, 0))) (hu : P.underlying ty = some .bool) (hi : (P.info? ty).map (·.size) = some 1) : (loadVar ty ⟨g, 0, none⟩).run P w = .ok (.bool u) w := by
  obtain ⟨i, hi, hz⟩ := Option.map_eq_some_iff.1 hi
  have hc := cell_of_row w g 0 _ _ _ hb
  simp at hc
  simp [loadVar, isAgg, run_underlying hu, sizeOf, typeInfo, hi, hz, hc, Sem.load]
theorem results_cell_bool {P : Program} {fn : Func} {p q : Tmp} {ty tq : TypeId} (h : fn.results = #[.cell p ty, .cell q tq]) (tmps : Array Value) (w : World) {g g2 : Nat} {t t2 : TypeId} {k : IntKind} {l : List Int} {u : Bool} (hp : tmps.getD p undef = .pointer (some ⟨g, 0, none⟩)) (hq : tmps.getD q undef = .pointer (some ⟨g2, 0, none⟩)) (hb : Blk w g k t l)
    (hb2 : w.heap[g2]? = some (.cells #[.bool u] t2 (0, 0))) {d : TypeDesc} (hu : P.underlying ty = some d) (hd : (match d with | .struct _ | .array _ _ => true | _ => false) = true) (hi : (P.info? ty).map (·.size) = some l.length) (hu2 : P.underlying tq = some .bool) (hi2 : (P.info? tq).map (·.size) = some 1) :
    (results fn tmps).run P w = .ok (.tuple #[.agg (l.map (Value.int k)).toArray, .bool u]) w := by
  have hp' : tmps[p]?.getD undef = .pointer (some ⟨g, 0, none⟩) := by simpa using hp
  have hq' : tmps[q]?.getD undef = .pointer (some ⟨g2, 0, none⟩) := by simpa using hq
  have hr := run_loadVar_row (P := P) w g t ty (l.map (Value.int k)).toArray (0, 0) d hb hu hd (by rw [hi]; simp)
  have hr2 := run_loadVar_bool (P := P) w g2 t2 tq u hb2 hu2 hi2
  simp [results, h, hp', hq', asAddr, hr, hr2]

set_option maxRecDepth 100000 in
set_option maxHeartbeats 400000 in
theorem rclock_len2 (A : Option Addr) (nb c : Nat) (w : World) (hnb : nb ≤ 9223372036854775807) (h : nb ≠ 13) :
    Calls Tryd.prog 42 #[.slice A nb c, .int .i64 2] w fun e w' => e = .returned (.tuple #[.agg (([0, 0, 0, 0, 0, 0] : List Int).map (Value.int .i64)).toArray, .bool false]) ∧ Below w.heap.size w w' := by
  have hsz : (Tryd.prog.info? 69).map (·.size) = some 6 := by kernel_rfl
  have h1 : ¬ (nb : Int) = 13 := by omega
  go_enter Tryd.func42, Tryd.ntmps42
  go_wp2_with fail
  exact bodyPost_ret (results_cell_bool rfl _ _ rfl rfl (l := [0, 0, 0, 0, 0, 0]) (k := .i64) (three1 w _ _ _) (three2 w _ _ _) Tryd.underlying69 rfl hsz Tryd.underlying4 (by kernel_rfl)) rfl ⟨rfl, three_bel _ _ _ _⟩
set_option maxRecDepth 100000 in
set_option maxHeartbeats 400000 in
theorem rclock_z2 (A : Option Addr) (c : Nat) (b : List Int) (w : World) (hr : ReadsInt w .u8 A 13 b) (h : el b 12 ≠ 90) :
    Calls Tryd.prog 42 #[.slice A 13 c, .int .i64 2] w fun e w' => e = .returned (.tuple #[.agg (([0, 0, 0, 0, 0, 0] : List Int).map (Value.int .i64)).toArray, .bool false]) ∧ Below w.heap.size w w' := by
  have hsz : (Tryd.prog.info? 69).map (·.size) = some 6 := by kernel_rfl
  have hbl : ∀ (x y z : Obj), Below w.heap.size w (((w.alloc x).alloc y).alloc z) := fun x y z => (((Below.refl _ _).alloc (Nat.le_refl _) _).alloc (by simp) _).alloc (by simp; omega) _
  obtain ⟨g, o, rfl, hc⟩ := rd_open hr (by omega)
  have kc := hc 12 (by omega)
  have kc3 := pw_cell_below (hbl (Obj.cells #[Value.slice (some ⟨g, o, none⟩) 13 c] 22) (Obj.cells #[Value.int .i64 0, Value.int .i64 0, Value.int .i64 0, Value.int .i64 0, Value.int .i64 0, Value.int .i64 0] 69) (Obj.cells #[Value.bool false] 4)) kc
  clear hc
  have h9 : (el b 12 != 90) = true := by simpa using h
  go_enter Tryd.func42, Tryd.ntmps42
  go_wp2_with fail
  exact bodyPost_ret (results_cell_bool rfl _ _ rfl rfl (l := [0, 0, 0, 0, 0, 0]) (k := .i64) (three1 w _ _ _) (three2 w _ _ _) Tryd.underlying69 rfl hsz Tryd.underlying4 (by kernel_rfl)) rfl ⟨rfl, three_bel _ _ _ _⟩

set_option maxRecDepth 100000 in
set_option maxHeartbeats 400000 in
theorem rclock_len4 (A : Option Addr) (nb c : Nat) (w : World) (hnb : nb ≤ 9223372036854775807) (h : nb ≠ 15) :
    Calls Tryd.prog 42 #[.slice A nb c, .int .i64 4] w fun e w' => e = .returned (.tuple #[.agg (([0, 0, 0, 0, 0, 0] : List Int).map (Value.int .i64)).toArray, .bool false]) ∧ Below w.heap.size w w' := by
  have hsz : (Tryd.prog.info? 69).map (·.size) = some 6 := by kernel_rfl
  have h1 : ¬ (nb : Int) = 15 := by omega
  go_enter Tryd.func42, Tryd.ntmps42
  go_wp2_with fail
  exact bodyPost_ret (results_cell_bool rfl _ _ rfl rfl (l := [0, 0, 0, 0, 0, 0]) (k := .i64) (three1 w _ _ _) (three2 w _ _ _) Tryd.underlying69 rfl hsz Tryd.underlying4 (by kernel_rfl)) rfl ⟨rfl, three_bel _ _ _ _⟩
set_option maxRecDepth 100000 in
set_option maxHeartbeats 400000 in
theorem rclock_z4 (A : Option Addr) (c : Nat) (b : List Int) (w : World) (hr : ReadsInt w .u8 A 15 b) (h : el b 14 ≠ 90) :
    Calls Tryd.prog 42 #[.slice A 15 c, .int .i64 4] w fun e w' => e = .returned (.tuple #[.agg (([0, 0, 0, 0, 0, 0] : List Int).map (Value.int .i64)).toArray, .bool false]) ∧ Below w.heap.size w w' := by
  have hsz : (Tryd.prog.info? 69).map (·.size) = some 6 := by kernel_rfl
  have hbl : ∀ (x y z : Obj), Below w.heap.size w (((w.alloc x).alloc y).alloc z) := fun x y z => (((Below.refl _ _).alloc (Nat.le_refl _) _).alloc (by simp) _).alloc (by simp; omega) _
  obtain ⟨g, o, rfl, hc⟩ := rd_open hr (by omega)
  have kc := hc 14 (by omega)
  have kc3 := pw_cell_below (hbl (Obj.cells #[Value.slice (some ⟨g, o, none⟩) 15 c] 22) (Obj.cells #[Value.int .i64 0, Value.int .i64 0, Value.int .i64 0, Value.int .i64 0, Value.int .i64 0, Value.int .i64 0] 69) (Obj.cells #[Value.bool false] 4)) kc
  clear hc
  have h9 : (el b 14 != 90) = true := by simpa using h
  go_enter Tryd.func42, Tryd.ntmps42
  go_wp2_with fail
  exact bodyPost_ret (results_cell_bool rfl _ _ rfl rfl (l := [0, 0, 0, 0, 0, 0]) (k := .i64) (three1 w _ _ _) (three2 w _ _ _) Tryd.underlying69 rfl hsz Tryd.underlying4 (by kernel_rfl)) rfl ⟨rfl, three_bel _ _ _ _⟩
end Go.Proofs.YtgjeejgmphaliaaDoor
