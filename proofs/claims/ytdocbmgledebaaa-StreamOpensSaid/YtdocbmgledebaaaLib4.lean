/-
  Words of my own: bytes of a string as a slice.
-/
import Derived.Test.YtdocbmgledebaaaLib3
import Derived.Laws.CopyOwn
namespace Go.Proofs.Ytdocbmgledebaaa
set_option linter.unusedVariables false
set_option linter.unusedSimpArgs false
open Go.RowKit Go.Proofs.YtdocbmgledebaaaW.PrintWords

/-- block g begins with the numbers l, which may be written -/
def Buf (w : World) (g : Nat) (k : IntKind) (l : List Int) : Prop :=
  ∃ C e lo hi, w.heap[g]? = some (.cells C e (lo, hi)) ∧ (l.length ≤ lo ∨ hi ≤ lo) ∧ (∀ i, i < l.length → C[i]? = some (.int k (el l i)))
section
variable {w w' : World} {g : Nat} {k : IntKind} {l : List Int}
theorem Buf.cell (h : Buf w g k l) (i : Nat) (hi : i < l.length) : w.cell? ⟨g, i, none⟩ = some (.int k (el l i)) := by
  obtain ⟨C, e, lo, hi', hg, _, hc⟩ := h
  rw [cell_of_row w g i C e _ hg, hc i hi]
theorem Buf.frozen (h : Buf w g k l) (i : Nat) (hi : i < l.length) : w.frozen? ⟨g, i, none⟩ = false := by
  obtain ⟨C, e, lo, hi', hg, hf, hc⟩ := h
  simp only [World.frozen?, hg]
  rw [Bool.and_eq_false_iff]
  rcases hf with hf | hf
  · left; simp; omega
  · by_cases h : lo ≤ i
    · right; simp; omega
    · left; simp; omega
theorem Buf.lt (h : Buf w g k l) : g < w.heap.size := by
  obtain ⟨C, e, lo, hi', hg, _⟩ := h
  exact (Array.getElem?_eq_some_iff.1 hg).1
theorem Buf.set (h : Buf w g k l) (i : Nat) (v : Int) : Buf (w.setCell ⟨g, i, none⟩ (.int k v)) g k (l.set i v) := by
  obtain ⟨C, e, lo, hi', hg, hf, hc⟩ := h
  refine ⟨C.setIfInBounds i (.int k v), e, lo, hi', ?_, by simpa using hf, fun j hj => ?_⟩
  · rw [setCell_eq_setRow w g i C e (lo, hi') _ hg]
    exact setRow_heap w g C _ e _ hg
  · simp only [List.length_set] at hj
    have hcj := hc j hj
    have hjs : j < C.size := (Array.getElem?_eq_some_iff.1 hcj).1
    rw [el_set, Array.getElem?_setIfInBounds]
    by_cases e : i = j
    · subst e; rw [if_pos rfl, if_pos hjs, if_pos ⟨rfl, hj⟩]
    · rw [if_neg e, if_neg (fun h => e h.1)]; exact hcj
theorem Buf.of_block (h : Buf w g k l) (hb : w'.heap[g]? = w.heap[g]?) : Buf w' g k l := by
  obtain ⟨C, e, lo, hi', hg, hf, hc⟩ := h
  exact ⟨C, e, lo, hi', hb.trans hg, hf, hc⟩
theorem Buf.below (h : Buf w g k l) (hb : Below w.heap.size w w') : Buf w' g k l := h.of_block (hb.block g h.lt)
theorem Buf.grown (h : Buf w g k l) {row : Option Nat} (hg : w.grownBy w' row) (hne : some g ≠ row) : Buf w' g k l := h.of_block (hg.block g h.lt hne)
theorem Buf.far (h : Buf w g k l) {p : Addr} (hp : g ≠ p.block) (u : Value) : Buf (w.setCell p u) g k l := h.of_block (Below.heap_setCell _ _ _ _ hp)
theorem Buf.drewN (h : Buf w g k l) (n : Nat) : Buf (w.drewN n) g k l := h
theorem Buf.reads (h : Buf w g k l) (hm : l.length ≤ 9223372036854775807) : ReadsInt w k (some ⟨g, 0, none⟩) l.length l :=
  ⟨rfl, hm, fun _ => ⟨_, rfl, fun j hj => by rw [add_plain]; exact h.cell j hj⟩⟩
theorem Buf.of_str (w : World) (e : TypeId) (s : ByteArray) : Buf (Lib.bytesWorld w e s) w.heap.size .u8 (bytesOf s) := by
  refine ⟨_, _, _, _, Lib.bytesWorld_at_new w e s, ?_, fun i hi => ?_⟩
  · left
    have h : ∀ i, i < (bytesOf s).length → i < (Lib.bytesCells w e s).size := fun i hi => by
      have := Lib.bytesWorld_cell w e s i (by rw [bytesOf_length] at hi; exact hi)
      rw [cell_of_row _ _ _ _ _ _ (Lib.bytesWorld_at_new w e s)] at this
      exact (Array.getElem?_eq_some_iff.1 this).1
    rcases Nat.lt_or_ge (Lib.bytesCells w e s).size (bytesOf s).length with h' | h'
    · exact absurd (h _ h') (Nat.lt_irrefl _)
    · exact h'
  · have hi' : i < s.size := by rw [bytesOf_length] at hi; exact hi
    have := Lib.bytesWorld_cell w e s i hi'
    rw [cell_of_row _ _ _ _ _ _ (Lib.bytesWorld_at_new w e s)] at this
    rw [this]
    have h' : i < s.data.toList.length := by rw [data_length]; exact hi'
    simp [bytesOf, el, List.getD_eq_getElem?_getD, List.getElem?_eq_getElem h']
theorem Buf.of_own {base n cap : Nat} {e : TypeId} (h : w.ownsRow base e 1 (.slice (some ⟨g, 0, none⟩) n cap) n (nums k l)) : Buf w g k l := by
  have hl : l.length = n := by have := h.1; simp [nums] at this; exact this
  have hc := fun i (hi : i < n) => own_cell h i hi
  rcases h.2 with ⟨h', _⟩ | ⟨g', cap', cur, h', _, hh, _⟩
  · cases h'
  · have : g = g' := by injection h' with h'; injection h' with h'; injection h' with h'
    subst this
    refine ⟨_, _, 0, 0, hh, .inr (Nat.le_refl _), fun i hi => ?_⟩
    have := hc i (by omega)
    rwa [cell_of_row _ _ _ _ _ _ hh] at this
end
/-! ### copy out of a string, into a block that is known whole -/
theorem run_copy_str {P : Program} (w : World) (dT sT ty elem : TypeId) (g dLen dCap : Nat) (s : ByteArray) {t : TypeId} {l : List Int} (hu : P.underlying dT = some (.slice elem)) (hs : (P.info? elem).map (·.size) = some 1)
    (hb : Blk w g .u8 t l) (hle : s.size ≤ dLen) (hd : dLen ≤ l.length) :
    (Builtin.copy_ #[dT, sT] ty #[.slice (some ⟨g, 0, none⟩) dLen dCap, .string s]).run P w = .ok (goInt s.size) (w.setRow g ((bytesOf s ++ l.drop s.size).map (Value.int .u8)).toArray) := by
  have hc : ((s.extract 0 s.size).data.map fun b => Value.int .u8 b.toNat).toList = (bytesOf s).map (Value.int .u8) := by simp [bytesOf]
  have hst := run_storeCells_at P g 0 t ((bytesOf s).map (Value.int .u8)) 0 _ w hb (by simp [bytesOf_length]; omega) (by simp [Value.oneCell'])
  cases hq : P.info? elem with
  | none => simp [hq] at hs
  | some i =>
    have hi : i.size = 1 := by simpa [hq] using hs
    have hm : Nat.min s.size dLen = s.size := Nat.min_eq_left hle
    simp only [Builtin.copy_, List.getElem?_toArray, List.getElem?_cons_zero, List.getElem?_cons_succ, Sem.run_bind, run_underlying hu, Result.andThen_ok, Builtin.lenOf, Sem.run_pure, hm, sizeOf, typeInfo, hq, hi, Builtin.firstCells]
    have hb2 : List.map (fun b : UInt8 => Value.int .u8 (b.toNat : Int)) s.data.toList = List.map (Value.int .u8) (bytesOf s) := by simp [bytesOf]
    simp [hi, hq, hb2, hst, bytesOf_length, List.map_drop]
theorem ev_copystr {P : Program} {w : World} {ops : Array Oper} {rest : List Oper} {o : Oper} {a : Act} {Q : Exit → Act → World → Prop} (hgd : o.guard = none) (d s : Operand) (dT sT : TypeId)
    (ho : o.op = .call { callee := .builtin .copy, args := #[d, s], argTypes := #[dT, sT] }) (elem : TypeId) (hu : P.underlying dT = some (.slice elem)) (hsz : (P.info? elem).map (·.size) = some 1)
    {g dLen dCap : Nat} {str : ByteArray} (hd : a.eval d = .slice (some ⟨g, 0, none⟩) dLen dCap) (hs : a.eval s = .string str) {t : TypeId} {l : List Int} (hb : Blk w g .u8 t l) (hle : str.size ≤ dLen) (hdl : dLen ≤ l.length)
    (h : ∀ w1, Stored g w w1 → Blk w1 g .u8 t (bytesOf str ++ l.drop str.size) → wpList P ops Q rest (a.put o.dst (goInt str.size)) w1) : wpList P ops Q (o :: rest) a w := by
  refine wpList_plain hgd fun K hK => ?_
  have hrun := run_copy_str (P := P) w dT sT o.type elem g dLen dCap str hu hsz hb hle hdl
  unfold Oper.wp
  simp [execOp, ho, resolve, invoke, builtin, hd, hs, hrun, Result.andThen]
  exact hK _ _ (h _ ⟨grown_setRow _ _ _, by simp⟩ (by simpa using hb.setRow (bytesOf str ++ l.drop str.size)))
theorem Blk.made (w : World) (k : IntKind) (t : TypeId) (n : Nat) : Blk (w.alloc (.cells (madeCells #[.int k 0] n) t)) w.heap.size k t (List.replicate n 0) := by
  have hl : (madeCells #[Value.int k 0] n).toList = (List.replicate n (0 : Int)).map (Value.int k) := by
    apply List.ext_getElem
    · simp [madeCells]
    · intro i h1 h2
      simp [madeCells, Nat.mod_one]
  unfold Blk
  rw [heap_alloc_new, ← hl]
theorem Blk.reads {w : World} {g : Nat} {k : IntKind} {t : TypeId} {l : List Int} (h : Blk w g k t l) (hm : l.length ≤ 9223372036854775807) : ReadsInt w k (some ⟨g, 0, none⟩) l.length l :=
  ⟨rfl, hm, fun _ => ⟨_, rfl, fun j hj => by rw [add_plain]; exact h.cell j hj⟩⟩
theorem Blk.own {w : World} {g base : Nat} {k : IntKind} {t : TypeId} {l : List Int} (h : Blk w g k t l) (hb : base ≤ g) (hm : l.length ≤ maxLen) : w.ownsRow base t 1 (.slice (some ⟨g, 0, none⟩) l.length l.length) l.length (nums k l) :=
  ⟨by simp [nums], .inr ⟨g, l.length, _, rfl, hb, h, Nat.le_refl _, hm, by simp, by simp only [nums, Nat.mul_one]; rw [List.take_of_length_le (by simp)]⟩⟩
end Go.Proofs.Ytdocbmgledebaaa
