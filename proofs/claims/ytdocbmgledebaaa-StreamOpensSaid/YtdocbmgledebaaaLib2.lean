/-
  Words of my own, more: new blocks by letters.
-/
import Derived.Test.YtdocbmgledebaaaLib
namespace Go.Proofs.Ytdocbmgledebaaa
set_option linter.unusedVariables false
set_option linter.unusedSimpArgs false
open Go.RowKit Go.Proofs.YtdocbmgledebaaaW.PrintWords
section
variable {P : Program} {ops : Array Oper} {rest : List Oper} {o : Oper} {a : Act} {w : World} {Q : Exit → Act → World → Prop}
/-- a new block g: it was not there; nothing else has turned -/
structure Fresh (g : Nat) (w w1 : World) : Prop where
  eq : g = w.heap.size
  size : w1.heap.size = g + 1
  grown : w.grownBy w1 none
theorem Fresh.le {g : Nat} {w w1 : World} (h : Fresh g w w1) : w.heap.size ≤ g := Nat.le_of_eq h.eq.symm
theorem Fresh.below {g : Nat} {w w1 : World} (h : Fresh g w w1) : Below w.heap.size w w1 := (Below.refl _ w).grown h.grown (Nat.le_refl _) (by simp)
theorem Fresh.bel {B g : Nat} {w0 w w1 : World} (h : Fresh g w w1) (hb : Below B w0 w) (hB : B ≤ w.heap.size) : Below B w0 w1 := hb.grown h.grown hB (by simp)
theorem Fresh.ne {g g' : Nat} {w w1 : World} {k : IntKind} {t : TypeId} {l : List Int} (h : Fresh g w w1) (hb : Blk w g' k t l) : g' < g := by rw [h.eq]; exact hb.lt
theorem Fresh.blk {g g' : Nat} {w w1 : World} {k : IntKind} {t : TypeId} {l : List Int} (h : Fresh g w w1) (hb : Blk w g' k t l) : Blk w1 g' k t l := hb.grown h.grown (by simp)
theorem Fresh.cell {g : Nat} {w w1 : World} (h : Fresh g w w1) {p : Addr} {v : Value} (hc : w.cell? p = some v) : w1.cell? p = some v := pw_cell_below h.below hc
theorem Fresh.rd {g : Nat} {w w1 : World} {k : IntKind} {A : Option Addr} {n : Nat} {xs : List Int} (h : Fresh g w w1) (hr : ReadsInt w k A n xs) : ReadsInt w1 k A n xs := hr.below h.below
theorem Fresh.own {g base n : Nat} {e : TypeId} {size : Nat} {v : Value} {xs : List Value} {w w1 : World} (h : Fresh g w w1) (ho : w.ownsRow base e size v n xs) : w1.ownsRow base e size v n xs := pw_own_below ho h.below

theorem ev_boxg (hgd : o.guard = none) {ty : TypeId} {x : Operand} (ho : o.op = .box ty x) {cs : Array Value} (hx : a.eval x = .agg cs)
    (h : ∀ g w1, Fresh g w w1 → w1.heap[g]? = some (.cells cs ty (0, 0)) → wpList P ops Q rest (a.put o.dst (.pointer (some ⟨g, 0, none⟩))) w1) : wpList P ops Q (o :: rest) a w :=
  ev_box hgd ho hx (fun w1 h1 h2 h3 => h _ w1 ⟨rfl, h3, h2⟩ h1)
theorem ev_allocg (hgd : o.guard = none) {ty : TypeId} (ho : o.op = .alloc ty) {cs : Array Value} {n : Nat} (hz : (P.info? ty).map (fun i => (i.zero, i.size)) = some (some (.agg cs), n))
    (h : ∀ g w1, Fresh g w w1 → w1.heap[g]? = some (.cells cs ty (0, 0)) → wpList P ops Q rest (a.put o.dst (.pointer (some ⟨g, 0, none⟩))) w1) : wpList P ops Q (o :: rest) a w :=
  ev_alloc hgd ho hz (fun w1 h1 h2 h3 => h _ w1 ⟨rfl, h3, h2⟩ h1)
/-- a whole array is stored -/
structure Stored (g : Nat) (w w1 : World) : Prop where
  grown : w.grownBy w1 (some g)
  size : w1.heap.size = w.heap.size
theorem Stored.blk {g g' : Nat} {w w1 : World} {k : IntKind} {t : TypeId} {l : List Int} (h : Stored g w w1) (hb : Blk w g' k t l) (hne : g' ≠ g) : Blk w1 g' k t l := hb.grown h.grown (by simp [hne])
theorem Stored.bel {B g : Nat} {w0 w w1 : World} (h : Stored g w w1) (hb : Below B w0 w) (hB : B ≤ w.heap.size) (hg : B ≤ g) : Below B w0 w1 := hb.grown h.grown hB (fun k hk => by injection hk with hk; omega)
theorem ev_storearrg (hgd : o.guard = none) {ty : TypeId} {x y : Operand} (ho : o.op = .store ty x y) {g : Nat} (hx : a.eval x = .pointer (some ⟨g, 0, none⟩)) {k k' : IntKind} {t : TypeId} {l l' : List Int} (hb : Blk w g k t l)
    (hy : a.eval y = .agg (l'.map (Value.int k')).toArray) (hl : l.length = l'.length) (hi : (P.info? ty).map (·.size) = some l'.length)
    (h : ∀ w1, Stored g w w1 → Blk w1 g k' t l' → wpList P ops Q rest (a.put o.dst undef) w1) : wpList P ops Q (o :: rest) a w :=
  wpList_store_row hgd ty x y ho g _ hx hy t _ hb (by rw [hi]; simp) (by simp [hl]) (by simp [Value.oneCell']) (h _ ⟨grown_setRow _ _ _, by simp⟩ (hb.setRow l'))
end
/-- an array's element, by its index -/
theorem run_index_arr {P : Program} {T e : TypeId} {n : Nat} {i : TypeInfo} {k0 : IntKind} (ht : P.underlying T = some (.array n e)) (he : P.underlying e = some (.int k0)) (hi : P.info? e = some i) (hsz : i.size = 1) (l : List Int) (k : IntKind) (j : Nat) (hl : l.length = n) (hj : j < n) (w : World) :
    (Instr.index T (.agg (l.map (Value.int k)).toArray) (.int .i64 (j : Int))).run P w = .ok (.int k (el l j)) w := by
  have h1 : (0 : Int) ≤ (j : Int) ∧ (j : Int) < (n : Int) := ⟨by omega, by omega⟩
  have h2 : j < l.length := by omega
  simp [Instr.index, run_underlying ht, asIntOf, part, isAgg, run_underlying he, sizeOf, typeInfo, hi, hsz, h1, h2, el]
  intro; omega
end Go.Proofs.Ytdocbmgledebaaa
