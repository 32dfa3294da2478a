/-
  Words of my own for walks over blocks of whole numbers (arrays): no program in sight.
-/
import Derived.Test.YtdocbmgledebaaaWWords
import Derived.StillTailTactics
import Derived.Laws.Rows
import Derived.Laws.Tables
import Derived.Laws.BitsAllLaws
import Derived.Lib.Hide
namespace Go.Proofs.Ytdocbmgledebaaa
set_option linter.unusedVariables false
set_option linter.unusedSimpArgs false
open Go.RowKit Go.Proofs.YtdocbmgledebaaaW.PrintWords

/-- element i -/
def el (l : List Int) (i : Nat) : Int := l.getD i 0
/-- the block at g holds the numbers l (of kind k), its own type t, nothing frozen -/
def Blk (w : World) (g : Nat) (k : IntKind) (t : TypeId) (l : List Int) : Prop := w.heap[g]? = some (.cells (l.map (Value.int k)).toArray t (0, 0))

section
variable {w w' : World} {g : Nat} {k : IntKind} {t : TypeId} {l : List Int}
theorem Blk.cell (h : Blk w g k t l) (i : Nat) (hi : i < l.length) : w.cell? ⟨g, i, none⟩ = some (.int k (el l i)) := by
  rw [cell_of_row w g i _ t _ h]; simp [hi, el]
theorem Blk.frozen (h : Blk w g k t l) (i : Nat) : w.frozen? ⟨g, i, none⟩ = false := by
  simp [World.frozen?, show w.heap[g]? = _ from h]
theorem Blk.lt (h : Blk w g k t l) : g < w.heap.size := (Array.getElem?_eq_some_iff.1 h).1
theorem Blk.set (h : Blk w g k t l) (i : Nat) (v : Int) : Blk (w.setCell ⟨g, i, none⟩ (.int k v)) g k t (l.set i v) := by
  unfold Blk at *
  rw [heap_setCell_same w g i _ t _ h]
  simp [List.map_set]
theorem Blk.alloc (h : Blk w g k t l) (o : Obj) : Blk (w.alloc o) g k t l := (Below.heap_alloc w o g h.lt).trans h
theorem Blk.grown (h : Blk w g k t l) {row : Option Nat} (hg : w.grownBy w' row) (hne : some g ≠ row) : Blk w' g k t l := (hg.block g h.lt hne).trans h
theorem Blk.below (h : Blk w g k t l) (hb : Below w.heap.size w w') : Blk w' g k t l := (hb.block g h.lt).trans h
theorem Blk.drew (h : Blk w g k t l) : Blk w.drew g k t l := h
theorem Blk.drewN (h : Blk w g k t l) (n : Nat) : Blk (w.drewN n) g k t l := h
theorem Blk.far (h : Blk w g k t l) {p : Addr} (hp : g ≠ p.block) (u : Value) : Blk (w.setCell p u) g k t l := (Below.heap_setCell _ _ _ _ hp).trans h
theorem Blk.new (w : World) (k : IntKind) (t : TypeId) (l : List Int) : Blk (w.alloc (.cells (l.map (Value.int k)).toArray t)) w.heap.size k t l := heap_alloc_new _ _
theorem Blk.ne_type {g' : Nat} {k' : IntKind} {t' : TypeId} {l' : List Int} (h : Blk w g k t l) (h' : Blk w g' k' t' l') (ht : t ≠ t') : g ≠ g' := fun e => by
  subst e; unfold Blk at h h'; rw [h] at h'; injection h' with h'; injection h' with _ h' _; exact ht h'
end

/-- All but block g (and what is new) is as it was, below B. -/
structure Fr (B g : Nat) (w w' : World) : Prop where
  os : w'.os = w.os
  tape : w'.tape = w.tape
  output : w'.output = w.output
  size : w.heap.size ≤ w'.heap.size
  block : ∀ k, k < B → k ≠ g → w'.heap[k]? = w.heap[k]?
section
variable {B g : Nat} {w w' w2 : World}
theorem Fr.refl (B g : Nat) (w : World) : Fr B g w w := ⟨rfl, rfl, rfl, Nat.le_refl _, fun _ _ _ => rfl⟩
theorem Fr.drew (h : Fr B g w w') : Fr B g w w'.drew := ⟨h.os, h.tape, h.output, h.size, h.block⟩
theorem Fr.alloc (h : Fr B g w w') (hB : B ≤ w'.heap.size) (o : Obj) : Fr B g w (w'.alloc o) :=
  ⟨h.os, h.tape, h.output, Nat.le_trans h.size (by simp), fun k hk hg => (Below.heap_alloc _ _ _ (by omega)).trans (h.block k hk hg)⟩
theorem Fr.set (h : Fr B g w w') (i : Nat) (v : Value) : Fr B g w (w'.setCell ⟨g, i, none⟩ v) :=
  ⟨h.os, h.tape, h.output, Nat.le_trans h.size (by simp [World.setCell]), fun k hk hg => (Below.heap_setCell _ _ _ _ hg).trans (h.block k hk hg)⟩
theorem Fr.far (h : Fr B g w w') {p : Addr} (hp : B ≤ p.block) (v : Value) : Fr B g w (w'.setCell p v) :=
  ⟨h.os, h.tape, h.output, Nat.le_trans h.size (by simp [World.setCell]), fun k hk hg => (Below.heap_setCell _ _ _ _ (by omega)).trans (h.block k hk hg)⟩
theorem Fr.trans (h : Fr B g w w') (k : Fr B g w' w2) : Fr B g w w2 :=
  ⟨k.os.trans h.os, k.tape.trans h.tape, k.output.trans h.output, Nat.le_trans h.size k.size, fun i hi hg => (k.block i hi hg).trans (h.block i hi hg)⟩
theorem Fr.below (h : Fr B g w w') (hg : B ≤ g) : Below B w w' := ⟨h.os, h.tape, h.output, h.size, fun k hk => h.block k hk (by omega)⟩
theorem Fr.grown (h : Fr w.heap.size g w w') : w.grownBy w' (some g) := ⟨h.os, h.tape, h.output, h.size, fun k hk hg => h.block k hk (fun e => hg (by rw [e]))⟩
theorem Fr.mono {B' : Nat} (h : Fr B g w w') (hB : B' ≤ B) : Fr B' g w w' := ⟨h.os, h.tape, h.output, h.size, fun k hk => h.block k (by omega)⟩
/-- what a callee did to block g alone -/
theorem below_fr {w0 : World} (h : Below B w0 w) (k : Fr B g w w') (hg : B ≤ g) : Below B w0 w' := h.trans (k.below hg)
end

/-- But for draws the same. -/
structure Sm (w w' : World) : Prop where
  os : w'.os = w.os
  tape : w'.tape = w.tape
  output : w'.output = w.output
  heap : w'.heap = w.heap
section
variable {w w' w0 : World} {B g : Nat} {k : IntKind} {t : TypeId} {l : List Int}
theorem Sm.refl (w : World) : Sm w w := ⟨rfl, rfl, rfl, rfl⟩
theorem Sm.drewN (w : World) (n : Nat) : Sm w (w.drewN n) := ⟨rfl, rfl, rfl, rfl⟩
theorem Sm.blk (h : Sm w w') (hb : Blk w g k t l) : Blk w' g k t l := by unfold Blk; rw [h.heap]; exact hb
theorem Sm.at (h : Sm w w') {o : Obj} (hb : w.heap[g]? = some o) : w'.heap[g]? = some o := by rw [h.heap]; exact hb
theorem Sm.fr (h : Sm w w') (hf : Fr B g w0 w) : Fr B g w0 w' := ⟨h.os.trans hf.os, h.tape.trans hf.tape, h.output.trans hf.output, by rw [h.heap]; exact hf.size, fun k hk hg => by rw [h.heap]; exact hf.block k hk hg⟩
theorem Sm.below (h : Sm w w') : Below B w w' := ⟨h.os, h.tape, h.output, by rw [h.heap]; exact Nat.le_refl _, fun k _ => by rw [h.heap]⟩
theorem Sm.cell (h : Sm w w') (a : Addr) : w'.cell? a = w.cell? a := by simp [World.cell?, h.heap]
theorem Sm.frozen (h : Sm w w') (a : Addr) : w'.frozen? a = w.frozen? a := by simp [World.frozen?, h.heap]
end

theorem tail_region {P : Program} {id : Nat} {Q : Exit → Act → World → Prop} {a : Act} {w : World} {l : List Oper} (n : Nat) (hm : P.follows .mixedOrders = true) (hB : Region.lexTailB .any l.toArray n = true)
    (h : ∀ w1, Sm w w1 → wpStill P l.toArray w1 (fun a' => wpList P l.toArray Q (l.drop n) a' w1) (l.take n) a) : (Code.region id l.toArray true).wp P Q a w :=
  wp_region_still_tail n hm hB (h _ ⟨rfl, rfl, rfl, rfl⟩)

theorem blk_other {w : World} {g g' i : Nat} {o : Obj} {v : Value} (h : w.heap[g']? = some o) (hne : g' ≠ g) : (w.setCell ⟨g, i, none⟩ v).heap[g']? = some o :=
  (Below.heap_setCell _ _ _ _ hne).trans h

/-! ### operations on a whole array -/
section
variable {P : Program} {ops : Array Oper} {rest : List Oper} {o : Oper} {a : Act} {w : World} {Q : Exit → Act → World → Prop}
theorem ev_loadarr (hgd : o.guard = none) {ty : TypeId} {x : Operand} (ho : o.op = .load ty x) {g : Nat} (hx : a.eval x = .pointer (some ⟨g, 0, none⟩)) {k : IntKind} {t : TypeId} {l : List Int} (hb : Blk w g k t l)
    {d : TypeDesc} (hu : P.underlying ty = some d) (hd : (match d with | .struct _ | .array _ _ => true | _ => false) = true) (hi : (P.info? ty).map (·.size) = some l.length)
    (h : wpList P ops Q rest (a.put o.dst (.agg (l.map (Value.int k)).toArray)) w) : wpList P ops Q (o :: rest) a w :=
  wpList_load_row hgd ty x ho g hx t _ (0, 0) d hb hu hd (by rw [hi]; simp) h

theorem Blk.setRow {w : World} {g : Nat} {k : IntKind} {t : TypeId} {l : List Int} (h : Blk w g k t l) {k' : IntKind} (l' : List Int) : Blk (w.setRow g (l'.map (Value.int k')).toArray) g k' t l' := setRow_heap w g _ _ t _ h
theorem Fr.setRow {B g : Nat} {w w' : World} (h : Fr B g w w') (cs : Array Value) : Fr B g w (w'.setRow g cs) :=
  ⟨h.os, h.tape, h.output, by simp; exact h.size, fun k hk hg => (setRow_other w' g k cs hg).trans (h.block k hk hg)⟩
theorem grown_setRow (w : World) (g : Nat) (cs : Array Value) : w.grownBy (w.setRow g cs) (some g) := ⟨rfl, rfl, rfl, by simp, fun k _ hg => setRow_other w g k cs (fun e => hg (by rw [e]))⟩
theorem grown_setCell (w : World) (g i : Nat) (v : Value) : w.grownBy (w.setCell ⟨g, i, none⟩ v) (some g) := ⟨rfl, rfl, rfl, by simp [World.setCell], fun k _ hg => Below.heap_setCell _ _ _ _ (fun e => hg (by rw [e]))⟩
theorem grown_alloc (w : World) (o : Obj) : w.grownBy (w.alloc o) none := World.grownBy_alloc w o none

theorem ev_storearr (hgd : o.guard = none) {ty : TypeId} {x y : Operand} (ho : o.op = .store ty x y) {g : Nat} (hx : a.eval x = .pointer (some ⟨g, 0, none⟩)) {k k' : IntKind} {t : TypeId} {l l' : List Int} (hb : Blk w g k t l)
    (hy : a.eval y = .agg (l'.map (Value.int k')).toArray) (hl : l.length = l'.length) (hi : (P.info? ty).map (·.size) = some l'.length)
    (h : ∀ w1, Blk w1 g k' t l' → w.grownBy w1 (some g) → wpList P ops Q rest (a.put o.dst undef) w1) : wpList P ops Q (o :: rest) a w :=
  wpList_store_row hgd ty x y ho g _ hx hy t _ hb (by rw [hi]; simp) (by simp [hl]) (by simp [Value.oneCell']) (h _ (hb.setRow l') (grown_setRow _ _ _))

theorem ev_box (hgd : o.guard = none) {ty : TypeId} {x : Operand} (ho : o.op = .box ty x) {cs : Array Value} (hx : a.eval x = .agg cs)
    (h : ∀ w1, w1.heap[w.heap.size]? = some (.cells cs ty (0, 0)) → w.grownBy w1 none → w1.heap.size = w.heap.size + 1 → wpList P ops Q rest (a.put o.dst (.pointer (some ⟨w.heap.size, 0, none⟩))) w1) : wpList P ops Q (o :: rest) a w := by
  have hrun : (execOp a.eval o).run P w = .ok (.value (.pointer (some ⟨w.heap.size, 0, none⟩))) (w.alloc (.cells cs ty)) := by
    unfold execOp
    simp only [ho, hx]
    rfl
  exact Kd.event_run hgd hrun (h _ (heap_alloc_new _ _) (grown_alloc _ _) (by simp))

theorem ev_alloc (hgd : o.guard = none) {ty : TypeId} (ho : o.op = .alloc ty) {cs : Array Value} {n : Nat} (hz : (P.info? ty).map (fun i => (i.zero, i.size)) = some (some (.agg cs), n))
    (h : ∀ w1, w1.heap[w.heap.size]? = some (.cells cs ty (0, 0)) → w.grownBy w1 none → w1.heap.size = w.heap.size + 1 → wpList P ops Q rest (a.put o.dst (.pointer (some ⟨w.heap.size, 0, none⟩))) w1) : wpList P ops Q (o :: rest) a w := by
  have hrun : (execOp a.eval o).run P w = .ok (.value (.pointer (some ⟨w.heap.size, 0, none⟩))) (w.alloc (.cells cs ty)) := by
    obtain ⟨i, hi, hz2⟩ := Option.map_eq_some_iff.1 hz
    simp only [Prod.mk.injEq] at hz2
    unfold execOp
    simp [ho, Instr.alloc, zeroValue, typeInfo, hi, hz2.1, Value.cells]
    rfl
  exact Kd.event_run hgd hrun (h _ (heap_alloc_new _ _) (grown_alloc _ _) (by simp))
end

/-! ### bytes, words -/
def Byt (l : List Int) : Prop := ∀ x ∈ l, 0 ≤ x ∧ x ≤ 255
def U32s (l : List Int) : Prop := ∀ x ∈ l, 0 ≤ x ∧ x ≤ 4294967295
theorem Byt.el {l : List Int} (h : Byt l) (i : Nat) : 0 ≤ el l i ∧ el l i ≤ 255 := by
  unfold Go.Proofs.Ytdocbmgledebaaa.el
  by_cases hi : i < l.length
  · rw [List.getD_eq_getElem?_getD, List.getElem?_eq_getElem hi]; exact h _ (List.getElem_mem hi)
  · rw [List.getD_eq_getElem?_getD, List.getElem?_eq_none (by omega)]; simp
theorem U32s.el {l : List Int} (h : U32s l) (i : Nat) : 0 ≤ el l i ∧ el l i ≤ 4294967295 := by
  unfold Go.Proofs.Ytdocbmgledebaaa.el
  by_cases hi : i < l.length
  · rw [List.getD_eq_getElem?_getD, List.getElem?_eq_getElem hi]; exact h _ (List.getElem_mem hi)
  · rw [List.getD_eq_getElem?_getD, List.getElem?_eq_none (by omega)]; simp
theorem el_drop (l : List Int) (i j : Nat) : el (l.drop i) j = el l (i + j) := by simp [el, List.getD_eq_getElem?_getD]
theorem Byt.drop {l : List Int} (h : Byt l) (i : Nat) : Byt (l.drop i) := fun x hx => h x (List.mem_of_mem_drop hx)
theorem Byt.take {l : List Int} (h : Byt l) (i : Nat) : Byt (l.take i) := fun x hx => h x (List.mem_of_mem_take hx)
theorem Byt.of (s : ByteArray) : Byt (bytesOf s) := fun x hx => by
  simp only [bytesOf, List.mem_map] at hx
  obtain ⟨b, _, rfl⟩ := hx
  have := b.toNat_lt
  omega
theorem el_set (l : List Int) (i j : Nat) (v : Int) : el (l.set i v) j = if i = j ∧ j < l.length then v else el l j := by
  simp only [el, List.getD_eq_getElem?_getD, List.getElem?_set]
  by_cases h : i = j
  · subst h
    by_cases hl : i < l.length
    · simp [hl]
    · simp [hl]
  · simp [h]
theorem ext_el {l l' : List Int} (hl : l.length = l'.length) (h : ∀ i, i < l.length → el l i = el l' i) : l = l' := by
  apply List.ext_getElem hl
  intro i h1 h2
  have := h i h1
  simpa [el, List.getD_eq_getElem?_getD, h1, h2] using this
theorem U32s.set {l : List Int} (h : U32s l) (i : Nat) (v : Int) (hv : 0 ≤ v ∧ v ≤ 4294967295) : U32s (l.set i v) := fun x hx => by
  rcases List.mem_or_eq_of_mem_set hx with hx | rfl
  · exact h x hx
  · exact hv
theorem set_len {l : List Int} {n : Nat} (h : l.length = n) (i : Nat) (v : Int) : (l.set i v).length = n := by simp [h]
theorem bits_u32 (op : BinOp) (x y : Int) : 0 ≤ bits op .u32 x y ∧ bits op .u32 x y ≤ 4294967295 := by
  unfold bits
  simp only [IntKind.wrap_u32]
  omega
theorem bits_u8 (op : BinOp) (x y : Int) : 0 ≤ bits op .u8 x y ∧ bits op .u8 x y ≤ 255 := by
  unfold bits
  simp only [IntKind.wrap_u8]
  omega

section
variable {w w' : World} {base g n cap : Nat} {e : TypeId} {k : IntKind} {l : List Int}
theorem own_cell (h : w.ownsRow base e 1 (.slice (some ⟨g, 0, none⟩) n cap) n (nums k l)) (i : Nat) (hi : i < n) : w.cell? ⟨g, i, none⟩ = some (.int k (el l i)) := (own_at h (i : Int) (by omega) (by omega)).1
theorem own_frozen (h : w.ownsRow base e 1 (.slice (some ⟨g, 0, none⟩) n cap) n (nums k l)) (i : Nat) : w.frozen? ⟨g, i, none⟩ = false := by
  rcases h.2 with ⟨h', _⟩ | ⟨g', cap', cur, h', _, hh, _⟩
  · cases h'
  · have : g = g' := by injection h' with h'; injection h' with h'; injection h' with h'
    subst this
    simp [World.frozen?, hh]
theorem own_set (h : w.ownsRow base e 1 (.slice (some ⟨g, 0, none⟩) n cap) n (nums k l)) (i : Nat) (v : Int) : (w.setCell ⟨g, i, none⟩ (.int k v)).ownsRow base e 1 (.slice (some ⟨g, 0, none⟩) n cap) n (nums k (l.set i v)) := (own_store h (i : Int) v).1
theorem grown_set {w0 : World} (h : w0.grownBy w (some g)) (i : Nat) (v : Value) : w0.grownBy (w.setCell ⟨g, i, none⟩ v) (some g) :=
  ⟨h.os, h.tape, h.output, Nat.le_trans h.size (by simp [World.setCell]), fun j hj hg => (Below.heap_setCell _ _ _ _ (fun e => hg (by rw [e]))).trans (h.block j hj hg)⟩
end

theorem byt_at (s : ByteArray) (i : Nat) : ∀ h : i < s.size, ((s[i]'h).toNat : Int) = el (bytesOf s) i := fun h => by
  have h' : i < s.data.toList.length := by rw [data_length]; exact h
  simp [el, bytesOf, List.getD_eq_getElem?_getD, List.getElem?_eq_getElem h']
  rfl
theorem bytesOf_extract (s : ByteArray) (a b : Nat) : bytesOf (s.extract a b) = ((bytesOf s).take b).drop a := by
  simp [bytesOf, ByteArray.data_extract, List.extract, List.map_drop, List.map_take, List.drop_take]
theorem rd_len {w : World} {k : IntKind} {A : Option Addr} {n n' : Nat} {xs : List Int} (h : ReadsInt w k A n xs) (e : n = n') : ReadsInt w k A n' xs := e ▸ h
theorem el_take (l : List Int) (n i : Nat) (h : i < n) : el (l.take n) i = el l i := by simp [el, List.getD_eq_getElem?_getD, h]
/-- four bytes as a number, the lowest first -/
def le4 (a b c d : Int) : Int := a + 256 * b + 65536 * c + 16777216 * d
theorem or_low (a b i : Nat) (ha : a < 2 ^ i) (h : 2 ^ i * b < 4294967296) (ha' : a < 4294967296) : bits .or .u32 (a : Int) ((2 ^ i * b : Nat) : Int) = ((a + 2 ^ i * b : Nat) : Int) := by
  rw [u32_or_nat a _ ha' h]
  congr 1
  rw [Nat.add_comm, Nat.two_pow_add_eq_or_of_lt ha, Nat.or_comm]
theorem le4_bits (a b c d : Int) (ha : 0 ≤ a ∧ a ≤ 255) (hb : 0 ≤ b ∧ b ≤ 255) (hc : 0 ≤ c ∧ c ≤ 255) (hd : 0 ≤ d ∧ d ≤ 255) :
    bits .or .u32 (bits .or .u32 (bits .or .u32 (a % 4294967296) (b % 4294967296 * 256 % 4294967296)) (c % 4294967296 * 65536 % 4294967296)) (d % 4294967296 * 16777216 % 4294967296) = le4 a b c d := by
  obtain ⟨a, rfl⟩ := Int.eq_ofNat_of_zero_le ha.1
  obtain ⟨b, rfl⟩ := Int.eq_ofNat_of_zero_le hb.1
  obtain ⟨c, rfl⟩ := Int.eq_ofNat_of_zero_le hc.1
  obtain ⟨d, rfl⟩ := Int.eq_ofNat_of_zero_le hd.1
  rw [show (a : Int) % 4294967296 = (a : Int) from by omega, show (b : Int) % 4294967296 * 256 % 4294967296 = ((2 ^ 8 * b : Nat) : Int) from by omega,
    show (c : Int) % 4294967296 * 65536 % 4294967296 = ((2 ^ 16 * c : Nat) : Int) from by omega, show (d : Int) % 4294967296 * 16777216 % 4294967296 = ((2 ^ 24 * d : Nat) : Int) from by omega,
    or_low a b 8 (by omega) (by omega) (by omega), or_low _ c 16 (by omega) (by omega) (by omega), or_low _ d 24 (by omega) (by omega) (by omega)]
  unfold le4
  omega
theorem le4_range (a b c d : Int) (ha : 0 ≤ a ∧ a ≤ 255) (hb : 0 ≤ b ∧ b ≤ 255) (hc : 0 ≤ c ∧ c ≤ 255) (hd : 0 ≤ d ∧ d ≤ 255) : 0 ≤ le4 a b c d ∧ le4 a b c d ≤ 4294967295 := by
  unfold le4
  omega

/-- A slice that is read, laid open where it is not empty. -/
theorem rd_open {w : World} {k : IntKind} {A : Option Addr} {n : Nat} {xs : List Int} (h : ReadsInt w k A n xs) (hn : 0 < n) :
    ∃ g o, A = some ⟨g, o, none⟩ ∧ ∀ j, j < n → w.cell? ⟨g, o + j, none⟩ = some (.int k (el xs j)) := by
  obtain ⟨⟨g, o, sp⟩, rfl, hc⟩ := h.2.2 hn
  have h0 := hc 0 hn
  obtain rfl : sp = none := by simpa [Addr.add] using World.cell?_spot h0
  refine ⟨g, o, rfl, fun j hj => ?_⟩
  have := hc j hj
  have ha : (⟨g, o, none⟩ : Addr).add j = ⟨g, o + j, none⟩ := by unfold Addr.add; split <;> simp_all
  rwa [ha] at this
end Go.Proofs.Ytdocbmgledebaaa
