/-
  Several texts in one.
-/
import Derived.Test.YtgjeejgmphaliaaDoorWWords
import Derived.StillTailTactics
import Derived.Laws.Rows
import Derived.Laws.Tables
import Derived.Laws.BitsAllLaws
import Derived.Lib.Hide
import Derived.Laws.CopyOwn
import Derived.Deep.QuietTactic
/-
  Words of my own for walks over blocks of whole numbers (arrays): no program in sight.
-/
namespace Go.Proofs.YtgjeejgmphaliaaDoor
set_option linter.unusedVariables false
set_option linter.unusedSimpArgs false
open Go.RowKit Go.Proofs.YtgjeejgmphaliaaDoorW.PrintWords

/-- element i -/
def el (l : List Int) (i : Nat) : Int := l.getD i 0
/-- the block at g holds the numbers l (of kind k), its own type t, nothing frozen -/
def Blk (w : World) (g : Nat) (k : IntKind) (t : TypeId) (l : List Int) : Prop := w.heap[g]? = some (.cells (l.map (Value.int k)).toArray t (0, 0))

section
variable {w w' : World} {g : Nat} {k : IntKind} {t : TypeId} {l : List Int}
theorem Blk.cell (h : Blk w g k t l) (i : Nat) (hi : i < l.length) : w.cell? ⟨g, i, none⟩ = some (.int k (el l i)) := by
  rw [cell_of_row w g i _ t _ h]; simp [hi, el]
theorem Blk.frozen (h : Blk w g k t l) (i : Nat) : w.frozen? ⟨g, i, none⟩ = false := by
  simp [World.frozen?, show w.heap[g]? = _ from h]
theorem Blk.lt (h : Blk w g k t l) : g < w.heap.size := (Array.getElem?_eq_some_iff.1 h).1
theorem Blk.set (h : Blk w g k t l) (i : Nat) (v : Int) : Blk (w.setCell ⟨g, i, none⟩ (.int k v)) g k t (l.set i v) := by
  unfold Blk at *
  rw [heap_setCell_same w g i _ t _ h]
  simp [List.map_set]
theorem Blk.alloc (h : Blk w g k t l) (o : Obj) : Blk (w.alloc o) g k t l := (Below.heap_alloc w o g h.lt).trans h
theorem Blk.grown (h : Blk w g k t l) {row : Option Nat} (hg : w.grownBy w' row) (hne : some g ≠ row) : Blk w' g k t l := (hg.block g h.lt hne).trans h
theorem Blk.below (h : Blk w g k t l) (hb : Below w.heap.size w w') : Blk w' g k t l := (hb.block g h.lt).trans h
theorem Blk.drew (h : Blk w g k t l) : Blk w.drew g k t l := h
theorem Blk.drewN (h : Blk w g k t l) (n : Nat) : Blk (w.drewN n) g k t l := h
theorem Blk.far (h : Blk w g k t l) {p : Addr} (hp : g ≠ p.block) (u : Value) : Blk (w.setCell p u) g k t l := (Below.heap_setCell _ _ _ _ hp).trans h
theorem Blk.new (w : World) (k : IntKind) (t : TypeId) (l : List Int) : Blk (w.alloc (.cells (l.map (Value.int k)).toArray t)) w.heap.size k t l := heap_alloc_new _ _
theorem Blk.ne_type {g' : Nat} {k' : IntKind} {t' : TypeId} {l' : List Int} (h : Blk w g k t l) (h' : Blk w g' k' t' l') (ht : t ≠ t') : g ≠ g' := fun e => by
  subst e; unfold Blk at h h'; rw [h] at h'; injection h' with h'; injection h' with _ h' _; exact ht h'
end

/-- All but block g (and what is new) is as it was, below B. -/
structure Fr (B g : Nat) (w w' : World) : Prop where
  os : w'.os = w.os
  tape : w'.tape = w.tape
  output : w'.output = w.output
  size : w.heap.size ≤ w'.heap.size
  block : ∀ k, k < B → k ≠ g → w'.heap[k]? = w.heap[k]?
section
variable {B g : Nat} {w w' w2 : World}
theorem Fr.refl (B g : Nat) (w : World) : Fr B g w w := ⟨rfl, rfl, rfl, Nat.le_refl _, fun _ _ _ => rfl⟩
theorem Fr.drew (h : Fr B g w w') : Fr B g w w'.drew := ⟨h.os, h.tape, h.output, h.size, h.block⟩
theorem Fr.alloc (h : Fr B g w w') (hB : B ≤ w'.heap.size) (o : Obj) : Fr B g w (w'.alloc o) :=
  ⟨h.os, h.tape, h.output, Nat.le_trans h.size (by simp), fun k hk hg => (Below.heap_alloc _ _ _ (by omega)).trans (h.block k hk hg)⟩
theorem Fr.set (h : Fr B g w w') (i : Nat) (v : Value) : Fr B g w (w'.setCell ⟨g, i, none⟩ v) :=
  ⟨h.os, h.tape, h.output, Nat.le_trans h.size (by simp [World.setCell]), fun k hk hg => (Below.heap_setCell _ _ _ _ hg).trans (h.block k hk hg)⟩
theorem Fr.far (h : Fr B g w w') {p : Addr} (hp : B ≤ p.block) (v : Value) : Fr B g w (w'.setCell p v) :=
  ⟨h.os, h.tape, h.output, Nat.le_trans h.size (by simp [World.setCell]), fun k hk hg => (Below.heap_setCell _ _ _ _ (by omega)).trans (h.block k hk hg)⟩
theorem Fr.trans (h : Fr B g w w') (k : Fr B g w' w2) : Fr B g w w2 :=
  ⟨k.os.trans h.os, k.tape.trans h.tape, k.output.trans h.output, Nat.le_trans h.size k.size, fun i hi hg => (k.block i hi hg).trans (h.block i hi hg)⟩
theorem Fr.below (h : Fr B g w w') (hg : B ≤ g) : Below B w w' := ⟨h.os, h.tape, h.output, h.size, fun k hk => h.block k hk (by omega)⟩
theorem Fr.grown (h : Fr w.heap.size g w w') : w.grownBy w' (some g) := ⟨h.os, h.tape, h.output, h.size, fun k hk hg => h.block k hk (fun e => hg (by rw [e]))⟩
theorem Fr.mono {B' : Nat} (h : Fr B g w w') (hB : B' ≤ B) : Fr B' g w w' := ⟨h.os, h.tape, h.output, h.size, fun k hk => h.block k (by omega)⟩
/-- what a callee did to block g alone -/
theorem below_fr {w0 : World} (h : Below B w0 w) (k : Fr B g w w') (hg : B ≤ g) : Below B w0 w' := h.trans (k.below hg)
end

/-- But for draws the same. -/
structure Sm (w w' : World) : Prop where
  os : w'.os = w.os
  tape : w'.tape = w.tape
  output : w'.output = w.output
  heap : w'.heap = w.heap
section
variable {w w' w0 : World} {B g : Nat} {k : IntKind} {t : TypeId} {l : List Int}
theorem Sm.refl (w : World) : Sm w w := ⟨rfl, rfl, rfl, rfl⟩
theorem Sm.drewN (w : World) (n : Nat) : Sm w (w.drewN n) := ⟨rfl, rfl, rfl, rfl⟩
theorem Sm.blk (h : Sm w w') (hb : Blk w g k t l) : Blk w' g k t l := by unfold Blk; rw [h.heap]; exact hb
theorem Sm.at (h : Sm w w') {o : Obj} (hb : w.heap[g]? = some o) : w'.heap[g]? = some o := by rw [h.heap]; exact hb
theorem Sm.fr (h : Sm w w') (hf : Fr B g w0 w) : Fr B g w0 w' := ⟨h.os.trans hf.os, h.tape.trans hf.tape, h.output.trans hf.output, by rw [h.heap]; exact hf.size, fun k hk hg => by rw [h.heap]; exact hf.block k hk hg⟩
theorem Sm.below (h : Sm w w') : Below B w w' := ⟨h.os, h.tape, h.output, by rw [h.heap]; exact Nat.le_refl _, fun k _ => by rw [h.heap]⟩
theorem Sm.cell (h : Sm w w') (a : Addr) : w'.cell? a = w.cell? a := by simp [World.cell?, h.heap]
theorem Sm.frozen (h : Sm w w') (a : Addr) : w'.frozen? a = w.frozen? a := by simp [World.frozen?, h.heap]
end

theorem tail_region {P : Program} {id : Nat} {Q : Exit → Act → World → Prop} {a : Act} {w : World} {l : List Oper} (n : Nat) (hm : P.follows .mixedOrders = true) (hB : Region.lexTailB .any l.toArray n = true)
    (h : ∀ w1, Sm w w1 → wpStill P l.toArray w1 (fun a' => wpList P l.toArray Q (l.drop n) a' w1) (l.take n) a) : (Code.region id l.toArray true).wp P Q a w :=
  wp_region_still_tail n hm hB (h _ ⟨rfl, rfl, rfl, rfl⟩)

theorem blk_other {w : World} {g g' i : Nat} {o : Obj} {v : Value} (h : w.heap[g']? = some o) (hne : g' ≠ g) : (w.setCell ⟨g, i, none⟩ v).heap[g']? = some o :=
  (Below.heap_setCell _ _ _ _ hne).trans h

/-! ### operations on a whole array -/
section
variable {P : Program} {ops : Array Oper} {rest : List Oper} {o : Oper} {a : Act} {w : World} {Q : Exit → Act → World → Prop}
theorem ev_loadarr (hgd : o.guard = none) {ty : TypeId} {x : Operand} (ho : o.op = .load ty x) {g : Nat} (hx : a.eval x = .pointer (some ⟨g, 0, none⟩)) {k : IntKind} {t : TypeId} {l : List Int} (hb : Blk w g k t l)
    {d : TypeDesc} (hu : P.underlying ty = some d) (hd : (match d with | .struct _ | .array _ _ => true | _ => false) = true) (hi : (P.info? ty).map (·.size) = some l.length)
    (h : wpList P ops Q rest (a.put o.dst (.agg (l.map (Value.int k)).toArray)) w) : wpList P ops Q (o :: rest) a w :=
  wpList_load_row hgd ty x ho g hx t _ (0, 0) d hb hu hd (by rw [hi]; simp) h

theorem Blk.setRow {w : World} {g : Nat} {k : IntKind} {t : TypeId} {l : List Int} (h : Blk w g k t l) {k' : IntKind} (l' : List Int) : Blk (w.setRow g (l'.map (Value.int k')).toArray) g k' t l' := setRow_heap w g _ _ t _ h
theorem Fr.setRow {B g : Nat} {w w' : World} (h : Fr B g w w') (cs : Array Value) : Fr B g w (w'.setRow g cs) :=
  ⟨h.os, h.tape, h.output, by simp; exact h.size, fun k hk hg => (setRow_other w' g k cs hg).trans (h.block k hk hg)⟩
theorem grown_setRow (w : World) (g : Nat) (cs : Array Value) : w.grownBy (w.setRow g cs) (some g) := ⟨rfl, rfl, rfl, by simp, fun k _ hg => setRow_other w g k cs (fun e => hg (by rw [e]))⟩
theorem grown_setCell (w : World) (g i : Nat) (v : Value) : w.grownBy (w.setCell ⟨g, i, none⟩ v) (some g) := ⟨rfl, rfl, rfl, by simp [World.setCell], fun k _ hg => Below.heap_setCell _ _ _ _ (fun e => hg (by rw [e]))⟩
theorem grown_alloc (w : World) (o : Obj) : w.grownBy (w.alloc o) none := World.grownBy_alloc w o none

theorem ev_storearr (hgd : o.guard = none) {ty : TypeId} {x y : Operand} (ho : o.op = .store ty x y) {g : Nat} (hx : a.eval x = .pointer (some ⟨g, 0, none⟩)) {k k' : IntKind} {t : TypeId} {l l' : List Int} (hb : Blk w g k t l)
    (hy : a.eval y = .agg (l'.map (Value.int k')).toArray) (hl : l.length = l'.length) (hi : (P.info? ty).map (·.size) = some l'.length)
    (h : ∀ w1, Blk w1 g k' t l' → w.grownBy w1 (some g) → wpList P ops Q rest (a.put o.dst undef) w1) : wpList P ops Q (o :: rest) a w :=
  wpList_store_row hgd ty x y ho g _ hx hy t _ hb (by rw [hi]; simp) (by simp [hl]) (by simp [Value.oneCell']) (h _ (hb.setRow l') (grown_setRow _ _ _))

theorem ev_box (hgd : o.guard = none) {ty : TypeId} {x : Operand} (ho : o.op = .box ty x) {cs : Array Value} (hx : a.eval x = .agg cs)
    (h : ∀ w1, w1.heap[w.heap.size]? = some (.cells cs ty (0, 0)) → w.grownBy w1 none → w1.heap.size = w.heap.size + 1 → wpList P ops Q rest (a.put o.dst (.pointer (some ⟨w.heap.size, 0, none⟩))) w1) : wpList P ops Q (o :: rest) a w := by
  have hrun : (execOp a.eval o).run P w = .ok (.value (.pointer (some ⟨w.heap.size, 0, none⟩))) (w.alloc (.cells cs ty)) := by
    unfold execOp
    simp only [ho, hx]
    rfl
  exact Kd.event_run hgd hrun (h _ (heap_alloc_new _ _) (grown_alloc _ _) (by simp))

theorem ev_alloc (hgd : o.guard = none) {ty : TypeId} (ho : o.op = .alloc ty) {cs : Array Value} {n : Nat} (hz : (P.info? ty).map (fun i => (i.zero, i.size)) = some (some (.agg cs), n))
    (h : ∀ w1, w1.heap[w.heap.size]? = some (.cells cs ty (0, 0)) → w.grownBy w1 none → w1.heap.size = w.heap.size + 1 → wpList P ops Q rest (a.put o.dst (.pointer (some ⟨w.heap.size, 0, none⟩))) w1) : wpList P ops Q (o :: rest) a w := by
  have hrun : (execOp a.eval o).run P w = .ok (.value (.pointer (some ⟨w.heap.size, 0, none⟩))) (w.alloc (.cells cs ty)) := by
    obtain ⟨i, hi, hz2⟩ := Option.map_eq_some_iff.1 hz
    simp only [Prod.mk.injEq] at hz2
    unfold execOp
    simp [ho, Instr.alloc, zeroValue, typeInfo, hi, hz2.1, Value.cells]
    rfl
  exact Kd.event_run hgd hrun (h _ (heap_alloc_new _ _) (grown_alloc _ _) (by simp))
end

/-! ### bytes, words -/
def Byt (l : List Int) : Prop := ∀ x ∈ l, 0 ≤ x ∧ x ≤ 255
def U32s (l : List Int) : Prop := ∀ x ∈ l, 0 ≤ x ∧ x ≤ 4294967295
theorem Byt.el {l : List Int} (h : Byt l) (i : Nat) : 0 ≤ el l i ∧ el l i ≤ 255 := by
  unfold Go.Proofs.YtgjeejgmphaliaaDoor.el
  by_cases hi : i < l.length
  · rw [List.getD_eq_getElem?_getD, List.getElem?_eq_getElem hi]; exact h _ (List.getElem_mem hi)
  · rw [List.getD_eq_getElem?_getD, List.getElem?_eq_none (by omega)]; simp
theorem U32s.el {l : List Int} (h : U32s l) (i : Nat) : 0 ≤ el l i ∧ el l i ≤ 4294967295 := by
  unfold Go.Proofs.YtgjeejgmphaliaaDoor.el
  by_cases hi : i < l.length
  · rw [List.getD_eq_getElem?_getD, List.getElem?_eq_getElem hi]; exact h _ (List.getElem_mem hi)
  · rw [List.getD_eq_getElem?_getD, List.getElem?_eq_none (by omega)]; simp
theorem el_drop (l : List Int) (i j : Nat) : el (l.drop i) j = el l (i + j) := by simp [el, List.getD_eq_getElem?_getD]
theorem Byt.drop {l : List Int} (h : Byt l) (i : Nat) : Byt (l.drop i) := fun x hx => h x (List.mem_of_mem_drop hx)
theorem Byt.take {l : List Int} (h : Byt l) (i : Nat) : Byt (l.take i) := fun x hx => h x (List.mem_of_mem_take hx)
theorem Byt.of (s : ByteArray) : Byt (bytesOf s) := fun x hx => by
  simp only [bytesOf, List.mem_map] at hx
  obtain ⟨b, _, rfl⟩ := hx
  have := b.toNat_lt
  omega
theorem el_set (l : List Int) (i j : Nat) (v : Int) : el (l.set i v) j = if i = j ∧ j < l.length then v else el l j := by
  simp only [el, List.getD_eq_getElem?_getD, List.getElem?_set]
  by_cases h : i = j
  · subst h
    by_cases hl : i < l.length
    · simp [hl]
    · simp [hl]
  · simp [h]
theorem ext_el {l l' : List Int} (hl : l.length = l'.length) (h : ∀ i, i < l.length → el l i = el l' i) : l = l' := by
  apply List.ext_getElem hl
  intro i h1 h2
  have := h i h1
  simpa [el, List.getD_eq_getElem?_getD, h1, h2] using this
theorem U32s.set {l : List Int} (h : U32s l) (i : Nat) (v : Int) (hv : 0 ≤ v ∧ v ≤ 4294967295) : U32s (l.set i v) := fun x hx => by
  rcases List.mem_or_eq_of_mem_set hx with hx | rfl
  · exact h x hx
  · exact hv
theorem set_len {l : List Int} {n : Nat} (h : l.length = n) (i : Nat) (v : Int) : (l.set i v).length = n := by simp [h]
theorem bits_u32 (op : BinOp) (x y : Int) : 0 ≤ bits op .u32 x y ∧ bits op .u32 x y ≤ 4294967295 := by
  unfold bits
  simp only [IntKind.wrap_u32]
  omega
theorem bits_u8 (op : BinOp) (x y : Int) : 0 ≤ bits op .u8 x y ∧ bits op .u8 x y ≤ 255 := by
  unfold bits
  simp only [IntKind.wrap_u8]
  omega

section
variable {w w' : World} {base g n cap : Nat} {e : TypeId} {k : IntKind} {l : List Int}
theorem own_cell (h : w.ownsRow base e 1 (.slice (some ⟨g, 0, none⟩) n cap) n (nums k l)) (i : Nat) (hi : i < n) : w.cell? ⟨g, i, none⟩ = some (.int k (el l i)) := (own_at h (i : Int) (by omega) (by omega)).1
theorem own_frozen (h : w.ownsRow base e 1 (.slice (some ⟨g, 0, none⟩) n cap) n (nums k l)) (i : Nat) : w.frozen? ⟨g, i, none⟩ = false := by
  rcases h.2 with ⟨h', _⟩ | ⟨g', cap', cur, h', _, hh, _⟩
  · cases h'
  · have : g = g' := by injection h' with h'; injection h' with h'; injection h' with h'
    subst this
    simp [World.frozen?, hh]
theorem own_set (h : w.ownsRow base e 1 (.slice (some ⟨g, 0, none⟩) n cap) n (nums k l)) (i : Nat) (v : Int) : (w.setCell ⟨g, i, none⟩ (.int k v)).ownsRow base e 1 (.slice (some ⟨g, 0, none⟩) n cap) n (nums k (l.set i v)) := (own_store h (i : Int) v).1
theorem grown_set {w0 : World} (h : w0.grownBy w (some g)) (i : Nat) (v : Value) : w0.grownBy (w.setCell ⟨g, i, none⟩ v) (some g) :=
  ⟨h.os, h.tape, h.output, Nat.le_trans h.size (by simp [World.setCell]), fun j hj hg => (Below.heap_setCell _ _ _ _ (fun e => hg (by rw [e]))).trans (h.block j hj hg)⟩
end

theorem byt_at (s : ByteArray) (i : Nat) : ∀ h : i < s.size, ((s[i]'h).toNat : Int) = el (bytesOf s) i := fun h => by
  have h' : i < s.data.toList.length := by rw [data_length]; exact h
  simp [el, bytesOf, List.getD_eq_getElem?_getD, List.getElem?_eq_getElem h']
  rfl
theorem bytesOf_extract (s : ByteArray) (a b : Nat) : bytesOf (s.extract a b) = ((bytesOf s).take b).drop a := by
  simp [bytesOf, ByteArray.data_extract, List.extract, List.map_drop, List.map_take, List.drop_take]
theorem rd_len {w : World} {k : IntKind} {A : Option Addr} {n n' : Nat} {xs : List Int} (h : ReadsInt w k A n xs) (e : n = n') : ReadsInt w k A n' xs := e ▸ h
theorem el_take (l : List Int) (n i : Nat) (h : i < n) : el (l.take n) i = el l i := by simp [el, List.getD_eq_getElem?_getD, h]
/-- four bytes as a number, the lowest first -/
def le4 (a b c d : Int) : Int := a + 256 * b + 65536 * c + 16777216 * d
theorem or_low (a b i : Nat) (ha : a < 2 ^ i) (h : 2 ^ i * b < 4294967296) (ha' : a < 4294967296) : bits .or .u32 (a : Int) ((2 ^ i * b : Nat) : Int) = ((a + 2 ^ i * b : Nat) : Int) := by
  rw [u32_or_nat a _ ha' h]
  congr 1
  rw [Nat.add_comm, Nat.two_pow_add_eq_or_of_lt ha, Nat.or_comm]
theorem le4_bits (a b c d : Int) (ha : 0 ≤ a ∧ a ≤ 255) (hb : 0 ≤ b ∧ b ≤ 255) (hc : 0 ≤ c ∧ c ≤ 255) (hd : 0 ≤ d ∧ d ≤ 255) :
    bits .or .u32 (bits .or .u32 (bits .or .u32 (a % 4294967296) (b % 4294967296 * 256 % 4294967296)) (c % 4294967296 * 65536 % 4294967296)) (d % 4294967296 * 16777216 % 4294967296) = le4 a b c d := by
  obtain ⟨a, rfl⟩ := Int.eq_ofNat_of_zero_le ha.1
  obtain ⟨b, rfl⟩ := Int.eq_ofNat_of_zero_le hb.1
  obtain ⟨c, rfl⟩ := Int.eq_ofNat_of_zero_le hc.1
  obtain ⟨d, rfl⟩ := Int.eq_ofNat_of_zero_le hd.1
  rw [show (a : Int) % 4294967296 = (a : Int) from by omega, show (b : Int) % 4294967296 * 256 % 4294967296 = ((2 ^ 8 * b : Nat) : Int) from by omega,
    show (c : Int) % 4294967296 * 65536 % 4294967296 = ((2 ^ 16 * c : Nat) : Int) from by omega, show (d : Int) % 4294967296 * 16777216 % 4294967296 = ((2 ^ 24 * d : Nat) : Int) from by omega,
    or_low a b 8 (by omega) (by omega) (by omega), or_low _ c 16 (by omega) (by omega) (by omega), or_low _ d 24 (by omega) (by omega) (by omega)]
  unfold le4
  omega
theorem le4_range (a b c d : Int) (ha : 0 ≤ a ∧ a ≤ 255) (hb : 0 ≤ b ∧ b ≤ 255) (hc : 0 ≤ c ∧ c ≤ 255) (hd : 0 ≤ d ∧ d ≤ 255) : 0 ≤ le4 a b c d ∧ le4 a b c d ≤ 4294967295 := by
  unfold le4
  omega

/-- A slice that is read, laid open where it is not empty. -/
theorem rd_open {w : World} {k : IntKind} {A : Option Addr} {n : Nat} {xs : List Int} (h : ReadsInt w k A n xs) (hn : 0 < n) :
    ∃ g o, A = some ⟨g, o, none⟩ ∧ ∀ j, j < n → w.cell? ⟨g, o + j, none⟩ = some (.int k (el xs j)) := by
  obtain ⟨⟨g, o, sp⟩, rfl, hc⟩ := h.2.2 hn
  have h0 := hc 0 hn
  obtain rfl : sp = none := by simpa [Addr.add] using World.cell?_spot h0
  refine ⟨g, o, rfl, fun j hj => ?_⟩
  have := hc j hj
  have ha : (⟨g, o, none⟩ : Addr).add j = ⟨g, o + j, none⟩ := by unfold Addr.add; split <;> simp_all
  rwa [ha] at this
end Go.Proofs.YtgjeejgmphaliaaDoor

/-
  Words of my own, more: new blocks by letters.
-/
namespace Go.Proofs.YtgjeejgmphaliaaDoor
set_option linter.unusedVariables false
set_option linter.unusedSimpArgs false
open Go.RowKit Go.Proofs.YtgjeejgmphaliaaDoorW.PrintWords
section
variable {P : Program} {ops : Array Oper} {rest : List Oper} {o : Oper} {a : Act} {w : World} {Q : Exit → Act → World → Prop}
/-- a new block g: it was not there; nothing else has turned -/
structure Fresh (g : Nat) (w w1 : World) : Prop where
  eq : g = w.heap.size
  size : w1.heap.size = g + 1
  grown : w.grownBy w1 none
theorem Fresh.le {g : Nat} {w w1 : World} (h : Fresh g w w1) : w.heap.size ≤ g := Nat.le_of_eq h.eq.symm
theorem Fresh.below {g : Nat} {w w1 : World} (h : Fresh g w w1) : Below w.heap.size w w1 := (Below.refl _ w).grown h.grown (Nat.le_refl _) (by simp)
theorem Fresh.bel {B g : Nat} {w0 w w1 : World} (h : Fresh g w w1) (hb : Below B w0 w) (hB : B ≤ w.heap.size) : Below B w0 w1 := hb.grown h.grown hB (by simp)
theorem Fresh.ne {g g' : Nat} {w w1 : World} {k : IntKind} {t : TypeId} {l : List Int} (h : Fresh g w w1) (hb : Blk w g' k t l) : g' < g := by rw [h.eq]; exact hb.lt
theorem Fresh.blk {g g' : Nat} {w w1 : World} {k : IntKind} {t : TypeId} {l : List Int} (h : Fresh g w w1) (hb : Blk w g' k t l) : Blk w1 g' k t l := hb.grown h.grown (by simp)
theorem Fresh.cell {g : Nat} {w w1 : World} (h : Fresh g w w1) {p : Addr} {v : Value} (hc : w.cell? p = some v) : w1.cell? p = some v := pw_cell_below h.below hc
theorem Fresh.rd {g : Nat} {w w1 : World} {k : IntKind} {A : Option Addr} {n : Nat} {xs : List Int} (h : Fresh g w w1) (hr : ReadsInt w k A n xs) : ReadsInt w1 k A n xs := hr.below h.below
theorem Fresh.own {g base n : Nat} {e : TypeId} {size : Nat} {v : Value} {xs : List Value} {w w1 : World} (h : Fresh g w w1) (ho : w.ownsRow base e size v n xs) : w1.ownsRow base e size v n xs := pw_own_below ho h.below

theorem ev_boxg (hgd : o.guard = none) {ty : TypeId} {x : Operand} (ho : o.op = .box ty x) {cs : Array Value} (hx : a.eval x = .agg cs)
    (h : ∀ g w1, Fresh g w w1 → w1.heap[g]? = some (.cells cs ty (0, 0)) → wpList P ops Q rest (a.put o.dst (.pointer (some ⟨g, 0, none⟩))) w1) : wpList P ops Q (o :: rest) a w :=
  ev_box hgd ho hx (fun w1 h1 h2 h3 => h _ w1 ⟨rfl, h3, h2⟩ h1)
theorem ev_allocg (hgd : o.guard = none) {ty : TypeId} (ho : o.op = .alloc ty) {cs : Array Value} {n : Nat} (hz : (P.info? ty).map (fun i => (i.zero, i.size)) = some (some (.agg cs), n))
    (h : ∀ g w1, Fresh g w w1 → w1.heap[g]? = some (.cells cs ty (0, 0)) → wpList P ops Q rest (a.put o.dst (.pointer (some ⟨g, 0, none⟩))) w1) : wpList P ops Q (o :: rest) a w :=
  ev_alloc hgd ho hz (fun w1 h1 h2 h3 => h _ w1 ⟨rfl, h3, h2⟩ h1)
/-- a whole array is stored -/
structure Stored (g : Nat) (w w1 : World) : Prop where
  grown : w.grownBy w1 (some g)
  size : w1.heap.size = w.heap.size
theorem Stored.blk {g g' : Nat} {w w1 : World} {k : IntKind} {t : TypeId} {l : List Int} (h : Stored g w w1) (hb : Blk w g' k t l) (hne : g' ≠ g) : Blk w1 g' k t l := hb.grown h.grown (by simp [hne])
theorem Stored.bel {B g : Nat} {w0 w w1 : World} (h : Stored g w w1) (hb : Below B w0 w) (hB : B ≤ w.heap.size) (hg : B ≤ g) : Below B w0 w1 := hb.grown h.grown hB (fun k hk => by injection hk with hk; omega)
theorem ev_storearrg (hgd : o.guard = none) {ty : TypeId} {x y : Operand} (ho : o.op = .store ty x y) {g : Nat} (hx : a.eval x = .pointer (some ⟨g, 0, none⟩)) {k k' : IntKind} {t : TypeId} {l l' : List Int} (hb : Blk w g k t l)
    (hy : a.eval y = .agg (l'.map (Value.int k')).toArray) (hl : l.length = l'.length) (hi : (P.info? ty).map (·.size) = some l'.length)
    (h : ∀ w1, Stored g w w1 → Blk w1 g k' t l' → wpList P ops Q rest (a.put o.dst undef) w1) : wpList P ops Q (o :: rest) a w :=
  wpList_store_row hgd ty x y ho g _ hx hy t _ hb (by rw [hi]; simp) (by simp [hl]) (by simp [Value.oneCell']) (h _ ⟨grown_setRow _ _ _, by simp⟩ (hb.setRow l'))
end
/-- an array's element, by its index -/
theorem run_index_arr {P : Program} {T e : TypeId} {n : Nat} {i : TypeInfo} {k0 : IntKind} (ht : P.underlying T = some (.array n e)) (he : P.underlying e = some (.int k0)) (hi : P.info? e = some i) (hsz : i.size = 1) (l : List Int) (k : IntKind) (j : Nat) (hl : l.length = n) (hj : j < n) (w : World) :
    (Instr.index T (.agg (l.map (Value.int k)).toArray) (.int .i64 (j : Int))).run P w = .ok (.int k (el l j)) w := by
  have h1 : (0 : Int) ≤ (j : Int) ∧ (j : Int) < (n : Int) := ⟨by omega, by omega⟩
  have h2 : j < l.length := by omega
  simp [Instr.index, run_underlying ht, asIntOf, part, isAgg, run_underlying he, sizeOf, typeInfo, hi, hsz, h1, h2, el]
  intro; omega
end Go.Proofs.YtgjeejgmphaliaaDoor

/-
  Words of my own: strings and bytes.
-/
namespace Go.Proofs.YtgjeejgmphaliaaDoor
set_option linter.unusedVariables false
set_option linter.unusedSimpArgs false
open Go.RowKit Go.Proofs.YtgjeejgmphaliaaDoorW.PrintWords

/-- a class of worlds by letters -/
theorem class_type (C : World → Prop) (w : World) (h : C w) : ∃ (T : Type) (f : T → World), Nonempty T ∧ (∀ s, C (f s)) ∧ (∀ w', C w' → ∃ s, w' = f s) :=
  ⟨{x // C x}, Subtype.val, ⟨⟨w, h⟩⟩, fun s => s.2, fun w' hw' => ⟨⟨w', hw'⟩, rfl⟩⟩
theorem strOf_bytes (s : ByteArray) : strOfNums (bytesOf s) = s := by
  unfold strOfNums bytesOf
  rw [List.map_map]
  have : ((fun n : Int => UInt8.ofNat n.toNat) ∘ fun b : UInt8 => (b.toNat : Int)) = id := by
    funext b; simp
  rw [this, List.map_id]
theorem bytesOf_inj {s t : ByteArray} (h : bytesOf s = bytesOf t) : s = t := by
  rw [← strOf_bytes s, ← strOf_bytes t, h]
theorem bytesOf_append (s t : ByteArray) : bytesOf (s ++ t) = bytesOf s ++ bytesOf t := by simp [bytesOf]
theorem bytesOf_str {l : List Int} (h : Byt l) : bytesOf (strOfNums l) = l := by
  unfold strOfNums bytesOf
  rw [List.map_map]
  refine (List.map_congr_left fun x hx => ?_).trans (List.map_id l)
  have := h x hx
  simp
  omega
theorem size_str (l : List Int) : (strOfNums l).size = l.length := by simp [strOfNums, ByteArray.size]
theorem size_bytesOf (s : ByteArray) : s.size = (bytesOf s).length := (bytesOf_length s).symm
theorem str_one {P : Program} {src dst e : TypeId} (hs : P.underlying src = some (.slice e)) (he : P.underlying e = some (.int .u8)) (hd : P.underlying dst = some .string) (x : Int) (w : World) :
    (convert src dst (.slice (some ⟨w.heap.size, 0, none⟩) 1 1)).run P (w.alloc (.cells #[.int .u8 x] e)) = .ok (.string (strOfNums [x])) (w.alloc (.cells #[.int .u8 x] e)) :=
  string_of_reads hs he hd (own_reads' (own_lit w 0 e .u8 [x] (Nat.zero_le _) (by simp)))
end Go.Proofs.YtgjeejgmphaliaaDoor

/-
  Words of my own: bytes of a string as a slice.
-/
namespace Go.Proofs.YtgjeejgmphaliaaDoor
set_option linter.unusedVariables false
set_option linter.unusedSimpArgs false
open Go.RowKit Go.Proofs.YtgjeejgmphaliaaDoorW.PrintWords

/-- block g begins with the numbers l, which may be written -/
def Buf (w : World) (g : Nat) (k : IntKind) (l : List Int) : Prop :=
  ∃ C e lo hi, w.heap[g]? = some (.cells C e (lo, hi)) ∧ (l.length ≤ lo ∨ hi ≤ lo) ∧ (∀ i, i < l.length → C[i]? = some (.int k (el l i)))
section
variable {w w' : World} {g : Nat} {k : IntKind} {l : List Int}
theorem Buf.cell (h : Buf w g k l) (i : Nat) (hi : i < l.length) : w.cell? ⟨g, i, none⟩ = some (.int k (el l i)) := by
  obtain ⟨C, e, lo, hi', hg, _, hc⟩ := h
  rw [cell_of_row w g i C e _ hg, hc i hi]
theorem Buf.frozen (h : Buf w g k l) (i : Nat) (hi : i < l.length) : w.frozen? ⟨g, i, none⟩ = false := by
  obtain ⟨C, e, lo, hi', hg, hf, hc⟩ := h
  simp only [World.frozen?, hg]
  rw [Bool.and_eq_false_iff]
  rcases hf with hf | hf
  · left; simp; omega
  · by_cases h : lo ≤ i
    · right; simp; omega
    · left; simp; omega
theorem Buf.lt (h : Buf w g k l) : g < w.heap.size := by
  obtain ⟨C, e, lo, hi', hg, _⟩ := h
  exact (Array.getElem?_eq_some_iff.1 hg).1
theorem Buf.set (h : Buf w g k l) (i : Nat) (v : Int) : Buf (w.setCell ⟨g, i, none⟩ (.int k v)) g k (l.set i v) := by
  obtain ⟨C, e, lo, hi', hg, hf, hc⟩ := h
  refine ⟨C.setIfInBounds i (.int k v), e, lo, hi', ?_, by simpa using hf, fun j hj => ?_⟩
  · rw [setCell_eq_setRow w g i C e (lo, hi') _ hg]
    exact setRow_heap w g C _ e _ hg
  · simp only [List.length_set] at hj
    have hcj := hc j hj
    have hjs : j < C.size := (Array.getElem?_eq_some_iff.1 hcj).1
    rw [el_set, Array.getElem?_setIfInBounds]
    by_cases e : i = j
    · subst e; rw [if_pos rfl, if_pos hjs, if_pos ⟨rfl, hj⟩]
    · rw [if_neg e, if_neg (fun h => e h.1)]; exact hcj
theorem Buf.of_block (h : Buf w g k l) (hb : w'.heap[g]? = w.heap[g]?) : Buf w' g k l := by
  obtain ⟨C, e, lo, hi', hg, hf, hc⟩ := h
  exact ⟨C, e, lo, hi', hb.trans hg, hf, hc⟩
theorem Buf.below (h : Buf w g k l) (hb : Below w.heap.size w w') : Buf w' g k l := h.of_block (hb.block g h.lt)
theorem Buf.grown (h : Buf w g k l) {row : Option Nat} (hg : w.grownBy w' row) (hne : some g ≠ row) : Buf w' g k l := h.of_block (hg.block g h.lt hne)
theorem Buf.far (h : Buf w g k l) {p : Addr} (hp : g ≠ p.block) (u : Value) : Buf (w.setCell p u) g k l := h.of_block (Below.heap_setCell _ _ _ _ hp)
theorem Buf.drewN (h : Buf w g k l) (n : Nat) : Buf (w.drewN n) g k l := h
theorem Buf.reads (h : Buf w g k l) (hm : l.length ≤ 9223372036854775807) : ReadsInt w k (some ⟨g, 0, none⟩) l.length l :=
  ⟨rfl, hm, fun _ => ⟨_, rfl, fun j hj => by rw [add_plain]; exact h.cell j hj⟩⟩
theorem Buf.of_str (w : World) (e : TypeId) (s : ByteArray) : Buf (Lib.bytesWorld w e s) w.heap.size .u8 (bytesOf s) := by
  refine ⟨_, _, _, _, Lib.bytesWorld_at_new w e s, ?_, fun i hi => ?_⟩
  · left
    have h : ∀ i, i < (bytesOf s).length → i < (Lib.bytesCells w e s).size := fun i hi => by
      have := Lib.bytesWorld_cell w e s i (by rw [bytesOf_length] at hi; exact hi)
      rw [cell_of_row _ _ _ _ _ _ (Lib.bytesWorld_at_new w e s)] at this
      exact (Array.getElem?_eq_some_iff.1 this).1
    rcases Nat.lt_or_ge (Lib.bytesCells w e s).size (bytesOf s).length with h' | h'
    · exact absurd (h _ h') (Nat.lt_irrefl _)
    · exact h'
  · have hi' : i < s.size := by rw [bytesOf_length] at hi; exact hi
    have := Lib.bytesWorld_cell w e s i hi'
    rw [cell_of_row _ _ _ _ _ _ (Lib.bytesWorld_at_new w e s)] at this
    rw [this]
    have h' : i < s.data.toList.length := by rw [data_length]; exact hi'
    simp [bytesOf, el, List.getD_eq_getElem?_getD, List.getElem?_eq_getElem h']
theorem Buf.of_own {base n cap : Nat} {e : TypeId} (h : w.ownsRow base e 1 (.slice (some ⟨g, 0, none⟩) n cap) n (nums k l)) : Buf w g k l := by
  have hl : l.length = n := by have := h.1; simp [nums] at this; exact this
  have hc := fun i (hi : i < n) => own_cell h i hi
  rcases h.2 with ⟨h', _⟩ | ⟨g', cap', cur, h', _, hh, _⟩
  · cases h'
  · have : g = g' := by injection h' with h'; injection h' with h'; injection h' with h'
    subst this
    refine ⟨_, _, 0, 0, hh, .inr (Nat.le_refl _), fun i hi => ?_⟩
    have := hc i (by omega)
    rwa [cell_of_row _ _ _ _ _ _ hh] at this
end
/-! ### copy out of a string, into a block that is known whole -/
theorem run_copy_str {P : Program} (w : World) (dT sT ty elem : TypeId) (g dLen dCap : Nat) (s : ByteArray) {t : TypeId} {l : List Int} (hu : P.underlying dT = some (.slice elem)) (hs : (P.info? elem).map (·.size) = some 1)
    (hb : Blk w g .u8 t l) (hle : s.size ≤ dLen) (hd : dLen ≤ l.length) :
    (Builtin.copy_ #[dT, sT] ty #[.slice (some ⟨g, 0, none⟩) dLen dCap, .string s]).run P w = .ok (goInt s.size) (w.setRow g ((bytesOf s ++ l.drop s.size).map (Value.int .u8)).toArray) := by
  have hc : ((s.extract 0 s.size).data.map fun b => Value.int .u8 b.toNat).toList = (bytesOf s).map (Value.int .u8) := by simp [bytesOf]
  have hst := run_storeCells_at P g 0 t ((bytesOf s).map (Value.int .u8)) 0 _ w hb (by simp [bytesOf_length]; omega) (by simp [Value.oneCell'])
  cases hq : P.info? elem with
  | none => simp [hq] at hs
  | some i =>
    have hi : i.size = 1 := by simpa [hq] using hs
    have hm : Nat.min s.size dLen = s.size := Nat.min_eq_left hle
    simp only [Builtin.copy_, List.getElem?_toArray, List.getElem?_cons_zero, List.getElem?_cons_succ, Sem.run_bind, run_underlying hu, Result.andThen_ok, Builtin.lenOf, Sem.run_pure, hm, sizeOf, typeInfo, hq, hi, Builtin.firstCells]
    have hb2 : List.map (fun b : UInt8 => Value.int .u8 (b.toNat : Int)) s.data.toList = List.map (Value.int .u8) (bytesOf s) := by simp [bytesOf]
    simp [hi, hq, hb2, hst, bytesOf_length, List.map_drop]
theorem ev_copystr {P : Program} {w : World} {ops : Array Oper} {rest : List Oper} {o : Oper} {a : Act} {Q : Exit → Act → World → Prop} (hgd : o.guard = none) (d s : Operand) (dT sT : TypeId)
    (ho : o.op = .call { callee := .builtin .copy, args := #[d, s], argTypes := #[dT, sT] }) (elem : TypeId) (hu : P.underlying dT = some (.slice elem)) (hsz : (P.info? elem).map (·.size) = some 1)
    {g dLen dCap : Nat} {str : ByteArray} (hd : a.eval d = .slice (some ⟨g, 0, none⟩) dLen dCap) (hs : a.eval s = .string str) {t : TypeId} {l : List Int} (hb : Blk w g .u8 t l) (hle : str.size ≤ dLen) (hdl : dLen ≤ l.length)
    (h : ∀ w1, Stored g w w1 → Blk w1 g .u8 t (bytesOf str ++ l.drop str.size) → wpList P ops Q rest (a.put o.dst (goInt str.size)) w1) : wpList P ops Q (o :: rest) a w := by
  refine wpList_plain hgd fun K hK => ?_
  have hrun := run_copy_str (P := P) w dT sT o.type elem g dLen dCap str hu hsz hb hle hdl
  unfold Oper.wp
  simp [execOp, ho, resolve, invoke, builtin, hd, hs, hrun, Result.andThen]
  exact hK _ _ (h _ ⟨grown_setRow _ _ _, by simp⟩ (by simpa using hb.setRow (bytesOf str ++ l.drop str.size)))
theorem Blk.made (w : World) (k : IntKind) (t : TypeId) (n : Nat) : Blk (w.alloc (.cells (madeCells #[.int k 0] n) t)) w.heap.size k t (List.replicate n 0) := by
  have hl : (madeCells #[Value.int k 0] n).toList = (List.replicate n (0 : Int)).map (Value.int k) := by
    apply List.ext_getElem
    · simp [madeCells]
    · intro i h1 h2
      simp [madeCells, Nat.mod_one]
  unfold Blk
  rw [heap_alloc_new, ← hl]
theorem Blk.reads {w : World} {g : Nat} {k : IntKind} {t : TypeId} {l : List Int} (h : Blk w g k t l) (hm : l.length ≤ 9223372036854775807) : ReadsInt w k (some ⟨g, 0, none⟩) l.length l :=
  ⟨rfl, hm, fun _ => ⟨_, rfl, fun j hj => by rw [add_plain]; exact h.cell j hj⟩⟩
theorem Blk.own {w : World} {g base : Nat} {k : IntKind} {t : TypeId} {l : List Int} (h : Blk w g k t l) (hb : base ≤ g) (hm : l.length ≤ maxLen) : w.ownsRow base t 1 (.slice (some ⟨g, 0, none⟩) l.length l.length) l.length (nums k l) :=
  ⟨by simp [nums], .inr ⟨g, l.length, _, rfl, hb, h, Nat.le_refl _, hm, by simp, by simp only [nums, Nat.mul_one]; rw [List.take_of_length_le (by simp)]⟩⟩
end Go.Proofs.YtgjeejgmphaliaaDoor

/-
  Arrays of whole numbers: read out of a slice, compared.
-/
namespace Go.Proofs.YtgjeejgmphaliaaDoor
set_option linter.unusedVariables false
set_option linter.unusedSimpArgs false
open Go.RowKit Go.Proofs.YtgjeejgmphaliaaDoorW.PrintWords

theorem run_loadVar_reads {P : Program} {w : World} {p : Addr} {k : IntKind} {n : Nat} {xs : List Int} {ty e : TypeId} (h : ReadsInt w k (some p) n xs) (hn : 0 < n) (hu : P.underlying ty = some (.array n e)) (hi : (P.info? ty).map (·.size) = some n) :
    (loadVar ty p).run P w = .ok (.agg (xs.map (Value.int k)).toArray) w := by
  obtain ⟨hl, _, hc⟩ := h
  obtain ⟨ad, ha, hc⟩ := hc hn
  obtain rfl := Option.some.inj ha
  have h1 := run_loadCells_list (P := P) w p (xs.map (Value.int k)) (fun j v hv => by
    simp only [List.getElem?_map, Option.map_eq_some_iff] at hv
    obtain ⟨x, hx, rfl⟩ := hv
    have hj : j < xs.length := (List.getElem?_eq_some_iff.1 hx).1
    rw [hc j (by omega), List.getD_eq_getElem?_getD, hx]
    rfl)
  obtain ⟨i, hi1, hi2⟩ := Option.map_eq_some_iff.1 hi
  simp only [List.length_map, hl] at h1
  simp [loadVar, isAgg, run_underlying hu, sizeOf, typeInfo, hi1, hi2, h1]

theorem part_arr {P : Program} {e : TypeId} {k : IntKind} {i : TypeInfo} (he : P.underlying e = some (.int k)) (hi : P.info? e = some i) (hsz : i.size = 1) (xs : List Int) (j : Nat) (hj : j < xs.length) (w : World) :
    (part e (xs.map (Value.int k)).toArray (j * 1)).run P w = .ok (.int k (el xs j)) w := by
  simp [part, isAgg, run_underlying he, hj, el]

theorem equal_int {P : Program} {e : TypeId} {k : IntKind} (he : P.underlying e = some (.int k)) (d : Nat) (a b : Int) (w : World) : (Op.equalIn (d + 1) e (.int k a) (.int k b)).run P w = .ok (decide (a = b)) w := by
  rw [Op.equalIn]
  simp [run_underlying he]
  by_cases h : a = b <;> simp [h]
def sameFrom (xs ys : List Int) : Nat → Nat → Bool
  | 0, _ => true
  | m + 1, s => decide (el xs s = el ys s) && sameFrom xs ys m (s + 1)
theorem sameFrom_iff (xs ys : List Int) : ∀ m s, sameFrom xs ys m s = true ↔ ∀ j, s ≤ j → j < s + m → el xs j = el ys j
  | 0, s => ⟨fun _ j h1 h2 => by omega, fun _ => rfl⟩
  | m + 1, s => by
    simp only [sameFrom, Bool.and_eq_true, decide_eq_true_eq, sameFrom_iff xs ys m (s + 1)]
    exact ⟨fun ⟨h, H⟩ j h1 h2 => by
      by_cases hj : j = s
      · rw [hj]; exact h
      · exact H j (by omega) (by omega), fun H => ⟨H s (by omega) (by omega), fun j h1 h2 => H j (by omega) (by omega)⟩⟩
theorem forIn_eq {P : Program} {w : World} {xs ys : List Int} {f : Nat → Option Bool × Unit → Sem (ForInStep (Option Bool × Unit))} : ∀ (m s : Nat), 
    (∀ j, s ≤ j → j < s + m → (f j (none, ())).run P w = .ok (if el xs j = el ys j then .yield (none, ()) else .done (some false, ())) w) →
    (forIn (List.range' s m) (none, ()) f).run P w = .ok (if sameFrom xs ys m s then (none, ()) else (some false, ())) w
  | 0, s, _ => by simp [sameFrom]
  | m + 1, s, h => by
    rw [List.range'_succ, List.forIn_cons, Sem.run_bind, h s (by omega) (by omega), Result.andThen_ok]
    by_cases e : el xs s = el ys s
    · rw [if_pos e]
      simp only
      rw [forIn_eq m (s + 1) (fun j h1 h2 => h j (by omega) (by omega))]
      simp [sameFrom, e]
    · rw [if_neg e]
      simp [sameFrom, e]

theorem equal_arr {P : Program} {T e : TypeId} {n : Nat} {k : IntKind} {i : TypeInfo} (hu : P.underlying T = some (.array n e)) (he : P.underlying e = some (.int k)) (hi : P.info? e = some i) (hsz : i.size = 1) (xs ys : List Int) (hx : xs.length = n) (hy : ys.length = n) (w : World) :
    (Op.equal T (.agg (xs.map (Value.int k)).toArray) (.agg (ys.map (Value.int k)).toArray)).run P w = .ok (decide (xs = ys)) w := by
  have hp := fun (l : List Int) j (hj : j < l.length) => part_arr (P := P) he hi hsz l j hj w
  have hd : decide (xs = ys) = sameFrom xs ys n 0 := by
    rw [Bool.eq_iff_iff, sameFrom_iff, decide_eq_true_eq]
    exact ⟨fun h j _ _ => by rw [h], fun h => ext_el (by rw [hx, hy]) (fun j hj => h j (by omega) (by omega))⟩
  unfold Op.equal
  rw [show Op.maxDepth = 9998 + 1 + 1 from rfl, Op.equalIn]
  simp only [Sem.run_bind, run_underlying hu, Result.andThen_ok]
  simp [sizeOf, typeInfo, hi, hsz]
  rw [forIn_eq (xs := xs) (ys := ys) n 0 (fun j h1 h2 => ?_)]
  · rw [hd, Result.andThen_ok]
    cases sameFrom xs ys n 0 <;> simp
  · have e1 := hp xs j (by omega)
    have e2 := hp ys j (by omega)
    rw [Nat.mul_one] at e1 e2
    simp only [Sem.run_bind, e1, e2, Result.andThen_ok]
    rw [show 9999 = 9998 + 1 from rfl, equal_int he]
    by_cases h : el xs j = el ys j <;> simp [h]
/-- '!=' of two arrays -/
theorem run_neq_arr {P : Program} {T e : TypeId} {n : Nat} {k : IntKind} {i : TypeInfo} (hu : P.underlying T = some (.array n e)) (he : P.underlying e = some (.int k)) (hi : P.info? e = some i) (hsz : i.size = 1) (hq : P.eqGuardType P.depth T = false) (x y : Operand) (xs ys : List Int) (hx : xs.length = n) (hy : ys.length = n) (w : World) :
    (do eqGuard .neq T x y (.agg (xs.map (Value.int k)).toArray) (.agg (ys.map (Value.int k)).toArray); binOp .neq T (.agg (xs.map (Value.int k)).toArray) (.agg (ys.map (Value.int k)).toArray) : Sem Value).run P w = .ok (.bool (!decide (xs = ys))) w := by
  have he := equal_arr hu he hi hsz xs ys hx hy w
  simp [eqGuard, hq, binOp, he]
theorem add_off (g o j : Nat) : (⟨g, o, none⟩ : Addr).add j = ⟨g, o + j, none⟩ := by unfold Addr.add; split <;> simp_all
theorem exec_arr {P : Program} {w : World} {o : Oper} {a : Act} {T e : TypeId} {n len c : Nat} {x : Operand} {A : Option Addr} (ho : o.op = .sliceToArrayPointer T x) (hu : P.underlying T = some (.array n e)) (hx : a.eval x = .slice A len c) (h : n ≤ len) : (execOp a.eval o).run P w = .ok (.value (.pointer A)) w := by
  have h' : ¬ len < n := by omega
  unfold execOp
  simp [ho, hx, Instr.arrayAt, run_underlying hu, h']
theorem exec_load {P : Program} {w : World} {o : Oper} {a : Act} {ty : TypeId} {x : Operand} {p : Addr} {u : Value} (ho : o.op = .load ty x) (hx : a.eval x = .pointer (some p)) (h : (loadVar ty p).run P w = .ok u w) : (execOp a.eval o).run P w = .ok (.value u) w := by
  unfold execOp
  simp only [ho, hx, Instr.loadAt, Instr.sureAddr, Sem.run_bind, Sem.run_pure, Result.andThen_ok, h]
theorem exec_neq {P : Program} {w : World} {o : Oper} {a : Act} {T : TypeId} {x y : Operand} {ty : TypeId} {u v r : Value} (ho : o.op = .binOp .neq T x y ty) (hx : a.eval x = u) (hy : a.eval y = v)
    (h : (do eqGuard .neq T x y u v; binOp .neq T u v : Sem Value).run P w = .ok r w) : (execOp a.eval o).run P w = .ok (.value r) w := by
  unfold execOp
  simp only [ho, hx, hy]
  simp only [Sem.run_bind] at h ⊢
  rw [h]
  rfl
end Go.Proofs.YtgjeejgmphaliaaDoor

/-
  A region that draws its order: ONE WALK IN THE ORDER OF THE TEXT serves every order, if each two operations that turn the world wait for one another, and the others yield, in every world of a family, one value.
-/
namespace Go.Proofs.YtgjeejgmphaliaaDoor
set_option linter.unusedVariables false
set_option linter.unusedSimpArgs false
open Go
section
variable {P : Program} {ops : Array Oper} {md : Region.Mode} {T : Type} {f : T → World}

/-- an operation: one that turns the world (b), or one that yields a value in every world of the family -/
def stepW (P : Program) (ops : Array Oper) (f : T → World) (b : Bool) (o : Oper) (K : Act → World → Prop) (a : Act) (w : World) : Prop :=
  if Region.wanted o (yielded ops a.tmps) = true then
    (match b with
     | true => o.wp P a w (fun a' w' => (∃ s, w' = f s) ∧ K a' w') (fun _ _ _ => False)
     | false => ∃ v, (∀ s, (execOp a.eval o).run P (f s) = .ok (.value v) (f s)) ∧ K (a.put o.dst v) w)
  else K (a.put o.dst undef) w
def wlk (P : Program) (ops : Array Oper) (f : T → World) (Q : Act → World → Prop) : List (Bool × Oper) → Act → World → Prop
  | [], a, w => Q a w
  | (b, o) :: r, a, w => stepW P ops f b o (wlk P ops f Q r) a w

def Act.more (dd : List Deferred) (a : Act) : Act := { a with defers := dd ++ a.defers }
theorem Act.more_put (dd : List Deferred) (a : Act) (d : Option Tmp) (v : Value) : Act.more dd (a.put d v) = (Act.more dd a).put d v := by cases d <;> rfl
theorem Act.more_eval (dd : List Deferred) (a : Act) : (Act.more dd a).eval = a.eval := by funext x; cases x <;> rfl
theorem Act.more_tmps (dd : List Deferred) (a : Act) : (Act.more dd a).tmps = a.tmps := rfl

/-- what an operation that turns the world may leave -/
theorem wp_some {o : Oper} {a : Act} {w : World} {K : Act → World → Prop} (h : o.wp P a w K (fun _ _ _ => False)) : ∃ dd u w', K ((Act.more dd a).put o.dst u) w' := by
  unfold Oper.wp at h
  generalize (execOp a.eval o).run P w = r at h
  cases r with
  | ok n w' =>
    cases n <;> simp only [Oper.upon] at h
    case value v => exact ⟨[], v, w', h⟩
    case skip => exact ⟨[], undef, w', h⟩
    case defer d => exact ⟨[d], undef, w', h⟩
    case enter g args =>
      obtain ⟨e, w'', fr, hR, _⟩ := h []
      cases e with
      | returned v => exact ⟨[], v, w'', hR⟩
      | panicked c => exact hR.elim
      | outgrown => obtain ⟨_, _, hh⟩ := hR; exact hh.elim
    case row rw args =>
      obtain ⟨v, w'', hR, _⟩ := h default []
      exact ⟨[], v, w'', hR⟩
  | halt x w' => cases x <;> simp only [Oper.upon] at h
theorem wp_move {o : Oper} {a : Act} {w : World} {K K' : Act → World → Prop} (d : Option Tmp) (v : Value) (hs : ∀ cs b, o.op ≠ .select cs b) (hd : ∀ t, d = some t → t ∉ o.looksAt ops)
    (h : o.wp P a w K (fun _ _ _ => False)) (hK : ∀ dd u w', K ((Act.more dd a).put o.dst u) w' → K' ((Act.more dd (a.put d v)).put o.dst u) w') : o.wp P (a.put d v) w K' (fun _ _ _ => False) := by
  unfold Oper.wp at *
  rw [execOp_put o hs a d v hd]
  generalize (execOp a.eval o).run P w = r at *
  cases r with
  | ok n w' =>
    cases n <;> simp only [Oper.upon] at h ⊢
    case value u => exact hK [] u w' h
    case skip => exact hK [] undef w' h
    case defer x => exact hK [x] undef w' h
    case enter g args =>
      refine Calls.mono h (fun e w'' he => ?_)
      cases e with
      | returned v' => exact hK [] v' w'' he
      | panicked c => exact he
      | outgrown => exact he
    case row rw args => exact Rows.mono h (fun v' w'' he => hK [] v' w'' he)
  | halt x w' => cases x <;> simp only [Oper.upon] at h ⊢
theorem wp_back {o : Oper} {a : Act} {w : World} {K K' : Act → World → Prop} (d : Option Tmp) (v : Value) (hs : ∀ cs b, o.op ≠ .select cs b) (hd : ∀ t, d = some t → t ∉ o.looksAt ops)
    (h : o.wp P (a.put d v) w K (fun _ _ _ => False)) (hK : ∀ dd u w', K ((Act.more dd (a.put d v)).put o.dst u) w' → K' ((Act.more dd a).put o.dst u) w') : o.wp P a w K' (fun _ _ _ => False) := by
  unfold Oper.wp at *
  rw [execOp_put o hs a d v hd] at h
  generalize (execOp a.eval o).run P w = r at *
  cases r with
  | ok n w' =>
    cases n <;> simp only [Oper.upon] at h ⊢
    case value u => exact hK [] u w' h
    case skip => exact hK [] undef w' h
    case defer x => exact hK [x] undef w' h
    case enter g args =>
      refine Calls.mono h (fun e w'' he => ?_)
      cases e with
      | returned v' => exact hK [] v' w'' he
      | panicked c => exact he
      | outgrown => exact he
    case row rw args => exact Rows.mono h (fun v' w'' he => hK [] v' w'' he)
  | halt x w' => cases x <;> simp only [Oper.upon] at h ⊢

theorem stepW_mono {b : Bool} {o : Oper} {K K' : Act → World → Prop} {a : Act} {w : World} (hk : ∀ a w, K a w → K' a w) (h : stepW P ops f b o K a w) : stepW P ops f b o K' a w := by
  unfold stepW at *
  split
  · rename_i hw
    rw [if_pos hw] at h
    cases b with
    | true => exact Oper.wp_mono (fun a w hh => ⟨hh.1, hk _ _ hh.2⟩) h
    | false => obtain ⟨v, h1, h2⟩ := h; exact ⟨v, h1, hk _ _ h2⟩
  · rename_i hw
    rw [if_neg hw] at h
    exact hk _ _ h

theorem exec_more (o : Oper) (hs : ∀ cs b, o.op ≠ .select cs b) (dd : List Deferred) (a : Act) (d : Option Tmp) (u : Value) (hd : ∀ t, d = some t → t ∉ o.looksAt ops) :
    execOp ((Act.more dd a).put d u).eval o = execOp a.eval o := by rw [← Act.more_put, Act.more_eval]; exact execOp_put o hs a d u hd
theorem wanted_more (o : Oper) (dd : List Deferred) (a : Act) (d : Option Tmp) (u : Value) (hd : ∀ t, d = some t → t ∉ o.looksAt ops) :
    Region.wanted o (yielded ops ((Act.more dd a).put d u).tmps) = Region.wanted o (yielded ops a.tmps) := by rw [← Act.more_put, Act.more_tmps]; exact wanted_put o a d u hd

theorem swap [hne : Nonempty T] {bx bz : Bool} {ox oz : Oper} {K : Act → World → Prop} {a : Act} {w : World} (hap : ox.apart ops oz = true) (hb : (bx && bz) = false)
    (hsx : ∀ cs b, ox.op ≠ .select cs b) (hsz : ∀ cs b, oz.op ≠ .select cs b) (h : stepW P ops f bx ox (stepW P ops f bz oz K) a w) : stepW P ops f bz oz (stepW P ops f bx ox K) a w := by
  obtain ⟨h1, h2, h3⟩ := Oper.apart_spec hap
  have h2' : ∀ d, oz.dst = some d → ox.dst ≠ some d := fun d hd he => h2 d he hd
  obtain ⟨s0⟩ := hne
  by_cases hx : Region.wanted ox (yielded ops a.tmps) = true
  · cases bx with
    | false =>
      unfold stepW at h
      rw [if_pos hx] at h
      obtain ⟨v, hv, h⟩ := h
      unfold stepW
      rw [wanted_put oz a ox.dst v h1] at h
      split
      · rename_i hz
        rw [if_pos hz] at h
        cases bz with
        | true =>
          refine wp_back ox.dst v hsz h1 h (fun dd u w' hh => ⟨hh.1, ?_⟩)
          rw [wanted_more ox dd a oz.dst u h3, if_pos hx]
          refine ⟨v, fun s => ?_, ?_⟩
          · rw [exec_more ox hsx dd a oz.dst u h3]; exact hv s
          · have := hh.2
            rw [Act.more_put, Act.put_comm _ _ _ h2] at this
            exact this
        | false =>
          obtain ⟨u, hu, h⟩ := h
          refine ⟨u, fun s => by rw [← hu s, execOp_put oz hsz a ox.dst v h1], ?_⟩
          rw [wanted_put ox a oz.dst u h3, if_pos hx]
          exact ⟨v, fun s => by rw [execOp_put ox hsx a oz.dst u h3]; exact hv s, by rw [← Act.put_comm a v u h2]; exact h⟩
      · rename_i hz
        rw [if_neg hz] at h
        rw [wanted_put ox a oz.dst undef h3, if_pos hx]
        exact ⟨v, fun s => by rw [execOp_put ox hsx a oz.dst undef h3]; exact hv s, by rw [← Act.put_comm a v undef h2]; exact h⟩
    | true =>
      obtain rfl : bz = false := by simpa using hb
      unfold stepW at h
      rw [if_pos hx] at h
      obtain ⟨dd0, u0, w0, ⟨_, hh0⟩⟩ := wp_some h
      have hh0 : stepW P ops f false oz K ((Act.more dd0 a).put ox.dst u0) w0 := hh0
      unfold stepW at hh0
      rw [wanted_more oz dd0 a ox.dst u0 h1] at hh0
      unfold stepW
      split
      · rename_i hz
        rw [if_pos hz] at hh0
        obtain ⟨v, hv, _⟩ := hh0
        rw [exec_more oz hsz dd0 a ox.dst u0 h1] at hv
        refine ⟨v, hv, ?_⟩
        rw [wanted_put ox a oz.dst v h3, if_pos hx]
        refine wp_move oz.dst v hsx h3 h (fun dd u w' hh => ⟨hh.1, ?_⟩)
        have h5 : stepW P ops f false oz K ((Act.more dd a).put ox.dst u) w' := hh.2
        unfold stepW at h5
        rw [wanted_more oz dd a ox.dst u h1, if_pos hz] at h5
        obtain ⟨v', hv', h6⟩ := h5
        rw [exec_more oz hsz dd a ox.dst u h1] at hv'
        have e := hv s0
        rw [hv' s0] at e
        obtain rfl : v' = v := by injection e with e; injection e
        rw [Act.more_put, ← Act.put_comm _ _ _ h2]
        exact h6
      · rename_i hz
        rw [wanted_put ox a oz.dst undef h3, if_pos hx]
        refine wp_move oz.dst undef hsx h3 h (fun dd u w' hh => ⟨hh.1, ?_⟩)
        have h5 : stepW P ops f false oz K ((Act.more dd a).put ox.dst u) w' := hh.2
        unfold stepW at h5
        rw [wanted_more oz dd a ox.dst u h1, if_neg hz] at h5
        rw [Act.more_put, ← Act.put_comm _ _ _ h2]
        exact h5
  · unfold stepW at h
    rw [if_neg hx, wanted_put oz a ox.dst undef h1] at h
    unfold stepW
    split
    · rename_i hz
      rw [if_pos hz] at h
      cases bz with
      | true =>
        refine wp_back ox.dst undef hsz h1 h (fun dd u w' hh => ⟨hh.1, ?_⟩)
        rw [wanted_more ox dd a oz.dst u h3, if_neg hx]
        have := hh.2
        rw [Act.more_put, Act.put_comm _ _ _ h2] at this
        exact this
      | false =>
        obtain ⟨u, hu, h⟩ := h
        refine ⟨u, fun s => by rw [← hu s, execOp_put oz hsz a ox.dst undef h1], ?_⟩
        rw [wanted_put ox a oz.dst u h3, if_neg hx, ← Act.put_comm a undef u h2]
        exact h
    · rename_i hz
      rw [if_neg hz] at h
      rw [wanted_put ox a oz.dst undef h3, if_neg hx, ← Act.put_comm a undef undef h2]
      exact h

theorem front [Nonempty T] (hsel : Region.noSelect ops = true) {Q : Act → World → Prop} {b : Bool} {o : Oper} {post : List (Bool × Oper)} (ho : ∀ cs b, o.op ≠ .select cs b) :
    ∀ (pre : List (Bool × Oper)) (a : Act) (w : World), (∀ y ∈ pre, y.2.apart ops o = true ∧ (y.1 && b) = false ∧ ∀ cs b, y.2.op ≠ .select cs b) → wlk P ops f Q (pre ++ (b, o) :: post) a w → stepW P ops f b o (wlk P ops f Q (pre ++ post)) a w
  | [], a, w, _, h => h
  | (by_, oy) :: pre, a, w, hp, h => by
    have h1 : stepW P ops f by_ oy (wlk P ops f Q (pre ++ (b, o) :: post)) a w := h
    have h2 := stepW_mono (fun a w hh => front hsel ho pre a w (fun y hy => hp y (List.mem_cons_of_mem _ hy)) hh) h1
    obtain ⟨k1, k2, k3⟩ := hp _ (List.mem_cons_self ..)
    exact swap k1 k2 k3 ho h2

/-- i waits for j -/
inductive Dep (md : Region.Mode) (ops : Array Oper) : Nat → Nat → Prop
  | one {i : Nat} {o : Oper} {e : Edge} : ops[i]? = some o → e ∈ o.after → Region.binds md e = true → Dep md ops i e.on
  | more {i j : Nat} {o : Oper} {e : Edge} : ops[i]? = some o → e ∈ o.after → Region.binds md e = true → Dep md ops e.on j → Dep md ops i j
def Closed (md : Region.Mode) (ops : Array Oper) (listed : Array Bool) : Prop := ∀ j oj, ops[j]? = some oj → listed.getD j false = true → ∀ e ∈ oj.after, Region.binds md e = true → listed.getD e.on false = true
theorem Dep.un {listed : Array Bool} (hc : Closed md ops listed) {i j : Nat} (h : Dep md ops i j) : listed.getD j false = false → listed.getD i false = false := by
  induction h with
  | one ho he hb => intro hj; cases hi : listed.getD _ false with
    | false => rfl
    | true => rw [hc _ _ ho hi _ he hb] at hj; cases hj
  | more ho he hb _ ih => intro hj; cases hi : listed.getD _ false with
    | false => rfl
    | true => rw [hc _ _ ho hi _ he hb] at ih; cases ih hj
theorem Dep.not_ready {listed : Array Bool} (hc : Closed md ops listed) {i j : Nat} (h : Dep md ops i j) (hj : listed.getD j false = false) : i ∉ Region.ready md ops listed := fun hr => by
  obtain ⟨_, o, ho, hall⟩ := mem_ready.1 hr
  cases h with
  | one ho' he hb =>
    obtain rfl := Option.some.inj (ho'.symm.trans ho)
    rw [hall _ he hb] at hj; cases hj
  | more ho' he hb hd =>
    obtain rfl := Option.some.inj (ho'.symm.trans ho)
    have := hd.un hc hj
    rw [hall _ he hb] at this; cases this

def Pair (md : Region.Mode) (ops : Array Oper) (x y : Nat × Bool × Oper) : Prop := x.1 < y.1 ∧ (Dep md ops y.1 x.1 ∨ (x.2.2.apart ops y.2.2 = true ∧ (x.2.1 && y.2.1) = false))
structure Left (md : Region.Mode) (ops : Array Oper) (listed : Array Bool) (rem : List (Nat × Bool × Oper)) : Prop where
  size : listed.size = ops.size
  mem : ∀ i, listed.getD i true = false ↔ ∃ x ∈ rem, x.1 = i
  valid : ∀ x ∈ rem, ops[x.1]? = some x.2.2
  closed : Closed md ops listed
  pairs : rem.Pairwise (Pair md ops)
theorem getD_tf {listed : Array Bool} {i : Nat} (h : i < listed.size) (h2 : listed.getD i true ≠ false) : listed.getD i false = true := by
  simp only [Array.getD, h, dif_pos] at *
  simpa using h2
theorem getD_ft {listed : Array Bool} {i : Nat} (h2 : listed.getD i true = false) : listed.getD i false = false := by
  unfold Array.getD at *
  split at h2
  · rename_i h; rw [dif_pos h]; exact h2
  · cases h2

theorem wpAny_of_wlk [Nonempty T] (hsel : Region.noSelect ops = true) (hback : ∀ i o, ops[i]? = some o → ∀ e ∈ o.after, Region.binds md e = true → e.on < i) {Q : Act → World → Prop} {Q' : Exit → Act → World → Prop} (hQ : ∀ a w, Q a w → Q' .normal a w) :
    ∀ (n : Nat) (rem : List (Nat × Bool × Oper)) (listed : Array Bool) (a : Act) (w : World), rem.length = n → Left md ops listed rem → (∃ s, w = f s) → wlk P ops f Q (rem.map (·.2)) a w → wpAny P md ops Q' n listed a w
  | 0, rem, listed, a, w, hn, hl, hw, h => by
    obtain rfl : rem = [] := List.eq_nil_of_length_eq_zero hn
    refine ⟨?_, hQ _ _ h⟩
    rw [List.eq_nil_iff_forall_not_mem]
    intro i hi
    obtain ⟨x, hx, _⟩ := (hl.mem i).1 (mem_ready.1 hi).1
    cases hx
  | n + 1, rem, listed, a, w, hn, hl, hw, h => by
    refine ⟨fun h0 => ?_, fun i hi => ?_⟩
    · exfalso
      cases rem with
      | nil => cases hn
      | cons x rest =>
        have hv := hl.valid x (List.mem_cons_self ..)
        have : x.1 ∈ Region.ready md ops listed := mem_ready.2 ⟨(hl.mem x.1).2 ⟨x, List.mem_cons_self .., rfl⟩, x.2.2, hv, fun e he hb => by
          have hlt := hback _ _ hv e he hb
          have hxs : x.1 < ops.size := (Array.getElem?_eq_some_iff.1 hv).1
          refine getD_tf (by rw [hl.size]; omega) (fun hf => ?_)
          obtain ⟨y, hy, hye⟩ := (hl.mem _).1 hf
          rcases List.mem_cons.1 hy with rfl | hy
          · omega
          · have := (List.rel_of_pairwise_cons hl.pairs hy).1
            omega⟩
        rw [h0] at this
        cases this
    · obtain ⟨hun, oi, hoi, hall⟩ := mem_ready.1 hi
      obtain ⟨x, hx, rfl⟩ := (hl.mem i).1 hun
      obtain ⟨pre, post, rfl⟩ := List.append_of_mem hx
      obtain rfl := Option.some.inj (hoi.symm.trans (hl.valid x hx))
      obtain ⟨i, b, o⟩ := x
      have hpw := List.pairwise_append.1 hl.pairs
      have hpre : ∀ y ∈ pre.map (fun x : Nat × Bool × Oper => x.2), y.2.apart ops o = true ∧ (y.1 && b) = false ∧ ∀ cs b, y.2.op ≠ .select cs b := fun y hy => by
        obtain ⟨z, hz, rfl⟩ := List.mem_map.1 hy
        have hzv := hl.valid z (List.mem_append_left _ hz)
        obtain ⟨_, hd | hd⟩ := hpw.2.2 z hz (i, b, o) (List.mem_cons_self ..)
        · exact absurd hi (hd.not_ready hl.closed (getD_ft ((hl.mem z.1).2 ⟨z, List.mem_append_left _ hz, rfl⟩)))
        · exact ⟨hd.1, hd.2, fun cs b => Region.noSelect_spec hsel _ _ cs b hzv⟩
      rw [List.map_append, List.map_cons] at h
      have h1 := front hsel (fun cs b => Region.noSelect_spec hsel _ _ cs b hoi) _ a w hpre h
      rw [← List.map_append] at h1
      have hne : ∀ z ∈ pre ++ post, z.1 ≠ i := fun z hz he => by
        rcases List.mem_append.1 hz with hz | hz
        · have := (hpw.2.2 z hz (i, b, o) (List.mem_cons_self ..)).1
          simp only [he] at this
          omega
        · have := (List.rel_of_pairwise_cons hpw.2.1 hz).1
          simp only [he] at this
          omega
      have hsub : (pre ++ post).Sublist (pre ++ (i, b, o) :: post) := List.Sublist.append (List.Sublist.refl _) (List.sublist_cons_self ..)
      have his : i < listed.size := by rw [hl.size]; exact (Array.getElem?_eq_some_iff.1 hoi).1
      have hl' : Left md ops (listed.setIfInBounds i true) (pre ++ post) := by
        refine ⟨by simp [hl.size], fun k => ⟨fun hk => ?_, fun hk => ?_⟩, fun z hz => hl.valid z (hsub.subset hz), fun j oj hj hlj e he hb => ?_, hl.pairs.sublist hsub⟩
        · by_cases hki : i = k
          · subst hki
            rw [Array.getD_eq_getD_getElem?, Array.getElem?_setIfInBounds_self_of_lt his] at hk
            cases hk
          · rw [getD_set_ne true hki] at hk
            obtain ⟨z, hz, he⟩ := (hl.mem k).1 hk
            refine ⟨z, ?_, he⟩
            rcases List.mem_append.1 hz with hz | hz
            · exact List.mem_append_left _ hz
            · rcases List.mem_cons.1 hz with rfl | hz
              · exact absurd he hki
              · exact List.mem_append_right _ hz
        · obtain ⟨z, hz, he⟩ := hk
          have hki : i ≠ k := fun e => hne z hz (by rw [he, e])
          rw [getD_set_ne true hki]
          exact (hl.mem k).2 ⟨z, hsub.subset hz, he⟩
        · by_cases hji : i = j
          · subst hji
            obtain rfl := Option.some.inj (hoi.symm.trans hj)
            exact getD_set_true (hall e he hb)
          · rw [getD_set_ne false hji] at hlj
            exact getD_set_true (hl.closed j oj hj hlj e he hb)
      have hlen : (pre ++ post).length = n := by simp at hn ⊢; omega
      have IH := fun a' w' hw' hh => wpAny_of_wlk hsel hback hQ n (pre ++ post) (listed.setIfInBounds i true) a' w' hlen hl' hw' hh
      unfold wpOp
      simp only [hoi]
      unfold stepW at h1
      split
      · rename_i hwt
        rw [if_pos hwt] at h1
        refine .inl ?_
        cases b with
        | true =>
          have h2 := Oper.wp_mono (fun a' w' hh => IH a' w' hh.1 hh.2) h1
          unfold Oper.wp at h2 ⊢
          generalize (execOp a.eval o).run P w = r at h2 ⊢
          cases r with
          | ok nn w' =>
            cases nn <;> simp only [Oper.upon] at h2 ⊢
            case value u => exact h2
            case skip => exact h2
            case defer x => exact h2
            case enter g args =>
              refine Calls.mono h2 (fun e w'' he => ?_)
              cases e with
              | returned v' => exact he
              | panicked c => exact he.elim
              | outgrown => obtain ⟨_, _, hh⟩ := he; exact hh.elim
            case row rw args => exact h2
          | halt x w' => cases x <;> simp only [Oper.upon] at h2
        | false =>
          obtain ⟨v, hv, h2⟩ := h1
          obtain ⟨s, rfl⟩ := hw
          unfold Oper.wp
          rw [hv s]
          exact IH _ _ ⟨s, rfl⟩ h2
      · rename_i hwt
        rw [if_neg hwt] at h1
        exact IH _ _ hw h1

/-! ### the check -/
def reach (md : Region.Mode) (ops : Array Oper) (i : Nat) : List Nat → List Nat → List Nat
  | [], R => R
  | k :: l, R => reach md ops i l (match ops[k]? with | some o => if o.after.any (fun e => Region.binds md e && R.contains e.on) then k :: R else R | none => R)
theorem reach_dep (i : Nat) : ∀ (l R : List Nat), (∀ k ∈ R, k = i ∨ Dep md ops k i) → ∀ k ∈ reach md ops i l R, k = i ∨ Dep md ops k i
  | [], R, h => h
  | k :: l, R, h => by
    unfold reach
    refine reach_dep i l _ ?_
    split
    · rename_i o ho
      split
      · rename_i hb
        intro k' hk'
        rcases List.mem_cons.1 hk' with rfl | hk'
        · simp only [Array.any_eq_true, Bool.and_eq_true, List.contains_iff_mem] at hb
          obtain ⟨j, hj, hb1, hb2⟩ := hb
          right
          rcases h _ hb2 with he | hd
          · rw [← he]; exact Dep.one ho (Array.getElem_mem hj) hb1
          · exact Dep.more ho (Array.getElem_mem hj) hb1 hd
        · exact h k' hk'
      · exact h
    · exact h
def pairsB (md : Region.Mode) (ops : Array Oper) : List (Nat × Bool × Oper) → Bool
  | [] => true
  | x :: r => (let R := reach md ops x.1 (r.map (·.1)) [x.1]; r.all fun y => R.contains y.1 || (x.2.2.apart ops y.2.2 && !(x.2.1 && y.2.1))) && pairsB md ops r
def number : List Bool → Nat → List Oper → List (Nat × Bool × Oper)
  | _, _, [] => []
  | m, k, o :: l => (k, m.headD false, o) :: number m.tail (k + 1) l
def masked : List Bool → List Oper → List (Bool × Oper)
  | _, [] => []
  | m, o :: l => (m.headD false, o) :: masked m.tail l
theorem number_masked : ∀ (m : List Bool) (k : Nat) (l : List Oper), (number m k l).map (·.2) = masked m l
  | _, _, [] => rfl
  | m, k, o :: l => by simp only [number, masked, List.map_cons, number_masked]
theorem number_len : ∀ (m : List Bool) (k : Nat) (l : List Oper), (number m k l).length = l.length
  | _, _, [] => rfl
  | m, k, o :: l => by simp only [number, List.length_cons, number_len]
theorem number_mem : ∀ (m : List Bool) (k : Nat) (l : List Oper) (x : Nat × Bool × Oper), x ∈ number m k l → k ≤ x.1 ∧ l[x.1 - k]? = some x.2.2
  | _, _, [], x, h => by cases h
  | m, k, o :: l, x, h => by
    rcases List.mem_cons.1 h with rfl | h
    · simp
    · obtain ⟨h1, h2⟩ := number_mem m.tail (k + 1) l x h
      refine ⟨by omega, ?_⟩
      rw [show x.1 - k = (x.1 - (k + 1)) + 1 by omega]
      simpa using h2
theorem number_has : ∀ (m : List Bool) (k : Nat) (l : List Oper) (i : Nat), k ≤ i → i < k + l.length → ∃ x ∈ number m k l, x.1 = i
  | _, _, [], i, h1, h2 => by simp at h2; omega
  | m, k, o :: l, i, h1, h2 => by
    by_cases e : k = i
    · exact ⟨_, List.mem_cons_self .., e⟩
    · obtain ⟨x, hx, he⟩ := number_has m.tail (k + 1) l i (by omega) (by simp at h2; omega)
      exact ⟨x, List.mem_cons_of_mem _ hx, he⟩
theorem number_lt : ∀ (m : List Bool) (k : Nat) (l : List Oper), (number m k l).Pairwise (fun x y => x.1 < y.1)
  | _, _, [] => List.Pairwise.nil
  | m, k, o :: l => List.Pairwise.cons (fun y hy => by have := (number_mem _ _ _ y hy).1; simp only; omega) (number_lt m.tail (k + 1) l)
theorem pairsB_spec : ∀ (l : List (Nat × Bool × Oper)), l.Pairwise (fun x y => x.1 < y.1) → pairsB md ops l = true → l.Pairwise (Pair md ops)
  | [], _, _ => List.Pairwise.nil
  | x :: r, hp, h => by
    simp only [pairsB, Bool.and_eq_true, List.all_eq_true, Bool.or_eq_true, List.contains_iff_mem, Bool.not_eq_true'] at h
    refine List.Pairwise.cons (fun y hy => ⟨List.rel_of_pairwise_cons hp hy, ?_⟩) (pairsB_spec r (List.Pairwise.of_cons hp) h.2)
    rcases h.1 y hy with h1 | h1
    · left
      rcases reach_dep x.1 _ _ (fun k hk => .inl (by simpa using hk)) _ h1 with he | hd
      · have := List.rel_of_pairwise_cons hp hy
        omega
      · exact hd
    · exact .inr h1
def backB (md : Region.Mode) (l : List (Nat × Bool × Oper)) : Bool := l.all fun x => x.2.2.after.all fun e => !Region.binds md e || decide (e.on < x.1)
def effB (md : Region.Mode) (m : List Bool) (l : List Oper) : Bool :=
  Region.noSelect l.toArray && backB md (number m 0 l) && pairsB md l.toArray (number m 0 l)

/-- THE LAW. m: which operations turn the world. -/
theorem region_eff [Nonempty T] {id : Nat} {Q : Exit → Act → World → Prop} {a : Act} {w : World} {l : List Oper} (f : T → World) (m : List Bool) (hm : P.follows .mixedOrders = true)
    (hB : effB .any m l = true) (hC : ∃ s, w.drew = f s)
    (h : wlk P l.toArray f (fun a w => Q .normal a w) (masked m l) a w.drew) : (Code.region id l.toArray true).wp P Q a w := by
  simp only [effB, Bool.and_eq_true] at hB
  obtain ⟨⟨hsel, hbk⟩, hpb⟩ := hB
  have hval : ∀ x ∈ number m 0 l, l.toArray[x.1]? = some x.2.2 := fun x hx => by simpa using (number_mem m 0 l x hx).2
  refine wp_region_any hm ?_
  have hback : ∀ i o, l.toArray[i]? = some o → ∀ e ∈ o.after, Region.binds .any e = true → e.on < i := fun i o hi e he hb => by
    have hi' : i < l.length := by have := (Array.getElem?_eq_some_iff.1 hi).1; simpa using this
    obtain ⟨x, hx, rfl⟩ := number_has m 0 l i (Nat.zero_le _) (by omega)
    obtain rfl := Option.some.inj ((hval x hx).symm.trans hi)
    simp only [backB, List.all_eq_true, Array.all_eq_true_iff_forall_mem, Bool.or_eq_true, Bool.not_eq_true', decide_eq_true_eq] at hbk
    rcases hbk x hx e he with h1 | h1
    · rw [hb] at h1; cases h1
    · exact h1
  have hleft : Left .any l.toArray (Array.replicate l.toArray.size false) (number m 0 l) := by
    refine ⟨by simp, fun i => ⟨fun hi => ?_, fun hi => ?_⟩, hval, fun j oj hj hl => ?_, pairsB_spec _ (number_lt m 0 l) hpb⟩
    · refine number_has m 0 l i (Nat.zero_le _) ?_
      unfold Array.getD at hi
      split at hi
      · rename_i hlt; simpa using hlt
      · cases hi
    · obtain ⟨x, hx, rfl⟩ := hi
      have hlt := (Array.getElem?_eq_some_iff.1 (hval x hx)).1
      unfold Array.getD
      rw [dif_pos (by simpa using hlt)]
      simp
    · have : (Array.replicate l.toArray.size false).getD j false = false := by unfold Array.getD; split <;> simp
      rw [this] at hl
      cases hl
  have := wpAny_of_wlk (P := P) (f := f) hsel hback (Q' := Q) (fun a w hh => hh) l.toArray.size (number m 0 l) _ a w.drew (by rw [number_len]; simp) hleft hC (by rw [number_masked]; exact h)
  exact this

/-! ### steps -/
theorem wlk_pure {Q : Act → World → Prop} {o : Oper} {r : List (Bool × Oper)} {a : Act} {w : World}
    (h : ∀ K : Act → Prop, (∀ a, wlk P ops f Q r a w → K a) → if Region.wanted o (yielded ops a.tmps) = true then ∃ v, (∀ s, (execOp a.eval o).run P (f s) = .ok (.value v) (f s)) ∧ K (a.put o.dst v) else K (a.put o.dst undef)) :
    wlk P ops f Q ((false, o) :: r) a w := h (fun a => wlk P ops f Q r a w) (fun _ h => h)
theorem wlk_eff {Q : Act → World → Prop} {o : Oper} {r : List (Bool × Oper)} {a : Act} {w : World}
    (h : ∀ K : Act → World → Prop, (∀ a w, (∃ s, w = f s) → wlk P ops f Q r a w → K a w) → if Region.wanted o (yielded ops a.tmps) = true then o.wp P a w K (fun _ _ _ => False) else ∀ K' : Act → World → Prop, (∀ a w, wlk P ops f Q r a w → K' a w) → K' (a.put o.dst undef) w) :
    wlk P ops f Q ((true, o) :: r) a w := by
  have h1 := h (fun a w => (∃ s, w = f s) ∧ wlk P ops f Q r a w) (fun _ _ h1 h2 => ⟨h1, h2⟩)
  show stepW P ops f true o (wlk P ops f Q r) a w
  unfold stepW
  split
  · rename_i hw; rw [if_pos hw] at h1; exact h1
  · rename_i hw; rw [if_neg hw] at h1; exact h1 _ (fun _ _ h => h)
/-- one that turns the world, by a law for lists -/
theorem wlk_list {Q : Act → World → Prop} {o : Oper} {r : List (Bool × Oper)} {a : Act} {w : World}
    (h : wpList P ops (fun e a' w' => e = .normal ∧ (∃ s, w' = f s) ∧ wlk P ops f Q r a' w') [o] a w) (hg : o.guard = none) : wlk P ops f Q ((true, o) :: r) a w := by
  show stepW P ops f true o (wlk P ops f Q r) a w
  unfold stepW
  have hw : Region.wanted o (yielded ops a.tmps) = true := by simp [Region.wanted, hg]
  rw [if_pos hw]
  unfold wpList at h
  rw [if_pos hw] at h
  have hf : ¬ LetsOut (fun e a' w' => e = Exit.normal ∧ (∃ s, w' = f s) ∧ wlk P ops f Q r a' w') := fun ⟨_, _, hh⟩ => by cases hh.1
  rcases h with h | h
  · unfold Oper.wp at h ⊢
    generalize (execOp a.eval o).run P w = rr at h ⊢
    cases rr with
    | ok nn w' =>
      cases nn <;> simp only [Oper.upon, wpList] at h ⊢
      case value u => exact h.2
      case skip => exact h.2
      case defer x => exact h.2
      case enter g args =>
        refine Calls.mono h (fun e w'' he => ?_)
        cases e with
        | returned v' => exact he.2
        | panicked c => exact absurd he.1 (by simp)
        | outgrown => exact absurd he hf
      case row rw args => exact Rows.mono h (fun v' w'' he => he.2)
    | halt x w' =>
      cases x <;> simp only [Oper.upon] at h ⊢
      all_goals (first | exact h | exact absurd h.1 (by simp) | skip)
  · exact absurd h.2 hf
theorem wlk_nil {Q : Act → World → Prop} {a : Act} {w : World} (h : Q a w) : wlk P ops f Q [] a w := h
theorem masked_cons (b : Bool) (m : List Bool) (o : Oper) (l : List Oper) : masked (b :: m) (o :: l) = (b, o) :: masked m l := rfl
theorem masked_out (o : Oper) (l : List Oper) : masked [] (o :: l) = (false, o) :: masked [] l := rfl
theorem masked_nil (m : List Bool) : masked m [] = [] := rfl
end
end Go.Proofs.YtgjeejgmphaliaaDoor
