/-
  Turning twice, sealing and opening: plain; copy out of a string that may be longer.
-/
import Derived.Test.YtdocbmgledebaaaLaw3
namespace Go.Proofs.Ytdocbmgledebaaa
set_option linter.unusedVariables false
set_option linter.unusedSimpArgs false
open Go.RowKit Go.Proofs.YtdocbmgledebaaaW.PrintWords

theorem xor_u8_bv (x y : Int) : bits .xor .u8 x y = ((BitVec.ofInt 8 x ^^^ BitVec.ofInt 8 y).toNat : Int) := by
  show IntKind.u8.wrap ((BitVec.ofInt 8 x ^^^ BitVec.ofInt 8 y).toNat : Nat) = _
  rw [IntKind.wrap_u8]
  have := (BitVec.ofInt 8 x ^^^ BitVec.ofInt 8 y).isLt
  omega
theorem bv_back (b : BitVec 8) : BitVec.ofInt 8 (b.toNat : Int) = b := by
  apply BitVec.eq_of_toNat_eq
  rw [BitVec.toNat_ofInt]
  have := b.isLt
  omega
theorem bv_int (x : Int) (h : 0 ≤ x ∧ x ≤ 255) : ((BitVec.ofInt 8 x).toNat : Int) = x := by
  rw [BitVec.toNat_ofInt]
  omega
theorem xor_twice (x y : Int) (h : 0 ≤ x ∧ x ≤ 255) : bits .xor .u8 (bits .xor .u8 x y) y = x := by
  rw [xor_u8_bv, xor_u8_bv, bv_back, BitVec.xor_assoc, BitVec.xor_self, BitVec.xor_zero, bv_int x h]
theorem xor_ne (x d : Int) (h : 0 ≤ x ∧ x ≤ 255) (hd : 1 ≤ d ∧ d ≤ 255) : bits .xor .u8 x d ≠ x := fun e => by
  have h1 := xor_twice d x ⟨by omega, hd.2⟩
  have h2 : bits .xor .u8 d x = bits .xor .u8 x d := by rw [xor_u8_bv, xor_u8_bv, BitVec.xor_comm]
  rw [h2, e, xor_u8_bv, BitVec.xor_self] at h1
  simp at h1
  omega
theorem turn_twice (l t : List Int) (ht : Byt t) : turnL l (turnL l t) = t := by
  refine ext_el (by rw [turnL_len, turnL_len]) (fun j hj => ?_)
  rw [turnL_len, turnL_len] at hj
  rw [turnL_el _ _ _ (by rw [turnL_len]; exact hj), turnB, turnL_el _ _ _ hj, turnB, xor_twice _ _ (ht.el j)]
theorem sealL_len (key nonce b t : List Int) : (sealL key nonce b t).length = t.length + 16 := by simp [sealL, turnL_len, tagOf_len]
theorem sealL_byt (key nonce b t : List Int) : Byt (sealL key nonce b t) := fun x hx => by
  simp only [sealL, List.mem_append] at hx
  rcases hx with hx | hx
  · exact turnL_byt _ _ x hx
  · exact tagL_byt _ _ x hx
theorem seal_take (key nonce b t : List Int) : (sealL key nonce b t).take ((sealL key nonce b t).length - 16) = turnL (initL key 1 nonce) t := by
  rw [sealL_len]
  unfold sealL
  rw [List.take_append_of_le_length (by rw [turnL_len]; omega), List.take_of_length_le (by rw [turnL_len]; omega)]
theorem seal_drop (key nonce b t : List Int) : (sealL key nonce b t).drop ((sealL key nonce b t).length - 16) = tagOf (initL key 0 nonce) b (turnL (initL key 1 nonce) t) := by
  rw [sealL_len]
  unfold sealL
  rw [List.drop_append_of_le_length (by rw [turnL_len]; omega), List.drop_of_length_le (by rw [turnL_len]; omega), List.nil_append]
theorem open_seal (key nonce b t : List Int) : openB key nonce b (sealL key nonce b t) = true := by
  unfold openB openOk
  rw [seal_take, seal_drop, sealL_len]
  simp
theorem openL_seal (key nonce b t : List Int) (ht : Byt t) : openL key nonce (sealL key nonce b t) = t := by
  unfold openL
  rw [seal_take, turn_twice _ _ ht]
theorem seal_open (key nonce b c : List Int) (hc : Byt c) (h : openB key nonce b c = true) : sealL key nonce b (openL key nonce c) = c := by
  unfold openB openOk at h
  simp only [Bool.and_eq_true, decide_eq_true_eq] at h
  unfold sealL openL
  rw [turn_twice _ _ (hc.take _), h.2, List.take_append_drop]

/-! ### copy out of a string that may be longer -/
theorem run_copy_str2 {P : Program} (w : World) (dT sT ty elem : TypeId) (g dLen dCap m : Nat) (s : ByteArray) {t : TypeId} {l : List Int} (hu : P.underlying dT = some (.slice elem)) (hs : (P.info? elem).map (·.size) = some 1)
    (hb : Blk w g .u8 t l) (hm : Nat.min s.size dLen = m) (hd : dLen ≤ l.length) :
    (Builtin.copy_ #[dT, sT] ty #[.slice (some ⟨g, 0, none⟩) dLen dCap, .string s]).run P w = .ok (goInt m) (w.setRow g (((bytesOf s).take m ++ l.drop m).map (Value.int .u8)).toArray) := by
  have hml : m ≤ s.size := by rw [← hm]; exact Nat.min_le_left _ _
  have hmd : m ≤ dLen := by rw [← hm]; exact Nat.min_le_right _ _
  have hbl : (bytesOf s).length = s.size := bytesOf_length s
  obtain ⟨X, eX⟩ : ∃ X, X = (bytesOf s).take m := ⟨_, rfl⟩
  have htl : X.length = m := by rw [eX, List.length_take, hbl]; omega
  have hb2 : List.take m (List.map (fun b : UInt8 => Value.int .u8 (b.toNat : Int)) s.data.toList) = X.map (Value.int .u8) := by
    rw [eX, List.map_take]
    congr 1
    unfold bytesOf
    rw [List.map_map]
    rfl
  rw [← eX]
  have hst := run_storeCells_at P g 0 t (X.map (Value.int .u8)) 0 _ w hb (by simp; omega) (by simp [Value.oneCell'])
  cases hq : P.info? elem with
  | none => simp [hq] at hs
  | some i =>
    have hi : i.size = 1 := by simpa [hq] using hs
    simp only [Builtin.copy_, List.getElem?_toArray, List.getElem?_cons_zero, List.getElem?_cons_succ, Sem.run_bind, run_underlying hu, Result.andThen_ok, Builtin.lenOf, Sem.run_pure, hm, sizeOf, typeInfo, hq, hi, Builtin.firstCells]
    simp [hi, hq, hb2, hst, htl, List.map_drop]
theorem ev_copystr2 {P : Program} {w : World} {ops : Array Oper} {rest : List Oper} {o : Oper} {a : Act} {Q : Exit → Act → World → Prop} (hgd : o.guard = none) (d s : Operand) (dT sT : TypeId)
    (ho : o.op = .call { callee := .builtin .copy, args := #[d, s], argTypes := #[dT, sT] }) (elem : TypeId) (hu : P.underlying dT = some (.slice elem)) (hsz : (P.info? elem).map (·.size) = some 1)
    {g dLen dCap : Nat} (m : Nat) {str : ByteArray} (hd : a.eval d = .slice (some ⟨g, 0, none⟩) dLen dCap) (hs : a.eval s = .string str) {t : TypeId} {l : List Int} (hb : Blk w g .u8 t l) (hm : Nat.min str.size dLen = m) (hdl : dLen ≤ l.length)
    (h : ∀ w1, Stored g w w1 → Blk w1 g .u8 t ((bytesOf str).take m ++ l.drop m) → wpList P ops Q rest (a.put o.dst (goInt m)) w1) : wpList P ops Q (o :: rest) a w := by
  refine wpList_plain hgd fun K hK => ?_
  have hrun := run_copy_str2 (P := P) w dT sT o.type elem g dLen dCap m str hu hsz hb hm hdl
  unfold Oper.wp
  simp [execOp, ho, resolve, invoke, builtin, hd, hs, hrun, Result.andThen]
  exact hK _ _ (h _ ⟨grown_setRow _ _ _, by simp⟩ (by simpa using hb.setRow ((bytesOf str).take m ++ l.drop m)))
end Go.Proofs.Ytdocbmgledebaaa
