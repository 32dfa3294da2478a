/-
  Arrays of whole numbers: read out of a slice, compared.
-/
import Derived.Test.YtdocbmgledebaaaLib4
namespace Go.Proofs.Ytdocbmgledebaaa
set_option linter.unusedVariables false
set_option linter.unusedSimpArgs false
open Go.RowKit Go.Proofs.YtdocbmgledebaaaW.PrintWords

theorem run_loadVar_reads {P : Program} {w : World} {p : Addr} {k : IntKind} {n : Nat} {xs : List Int} {ty e : TypeId} (h : ReadsInt w k (some p) n xs) (hn : 0 < n) (hu : P.underlying ty = some (.array n e)) (hi : (P.info? ty).map (·.size) = some n) :
    (loadVar ty p).run P w = .ok (.agg (xs.map (Value.int k)).toArray) w := by
  obtain ⟨hl, _, hc⟩ := h
  obtain ⟨ad, ha, hc⟩ := hc hn
  obtain rfl := Option.some.inj ha
  have h1 := run_loadCells_list (P := P) w p (xs.map (Value.int k)) (fun j v hv => by
    simp only [List.getElem?_map, Option.map_eq_some_iff] at hv
    obtain ⟨x, hx, rfl⟩ := hv
    have hj : j < xs.length := (List.getElem?_eq_some_iff.1 hx).1
    rw [hc j (by omega), List.getD_eq_getElem?_getD, hx]
    rfl)
  obtain ⟨i, hi1, hi2⟩ := Option.map_eq_some_iff.1 hi
  simp only [List.length_map, hl] at h1
  simp [loadVar, isAgg, run_underlying hu, sizeOf, typeInfo, hi1, hi2, h1]

theorem part_arr {P : Program} {e : TypeId} {k : IntKind} {i : TypeInfo} (he : P.underlying e = some (.int k)) (hi : P.info? e = some i) (hsz : i.size = 1) (xs : List Int) (j : Nat) (hj : j < xs.length) (w : World) :
    (part e (xs.map (Value.int k)).toArray (j * 1)).run P w = .ok (.int k (el xs j)) w := by
  simp [part, isAgg, run_underlying he, hj, el]

theorem equal_int {P : Program} {e : TypeId} {k : IntKind} (he : P.underlying e = some (.int k)) (d : Nat) (a b : Int) (w : World) : (Op.equalIn (d + 1) e (.int k a) (.int k b)).run P w = .ok (decide (a = b)) w := by
  rw [Op.equalIn]
  simp [run_underlying he]
  by_cases h : a = b <;> simp [h]
def sameFrom (xs ys : List Int) : Nat → Nat → Bool
  | 0, _ => true
  | m + 1, s => decide (el xs s = el ys s) && sameFrom xs ys m (s + 1)
theorem sameFrom_iff (xs ys : List Int) : ∀ m s, sameFrom xs ys m s = true ↔ ∀ j, s ≤ j → j < s + m → el xs j = el ys j
  | 0, s => ⟨fun _ j h1 h2 => by omega, fun _ => rfl⟩
  | m + 1, s => by
    simp only [sameFrom, Bool.and_eq_true, decide_eq_true_eq, sameFrom_iff xs ys m (s + 1)]
    exact ⟨fun ⟨h, H⟩ j h1 h2 => by
      by_cases hj : j = s
      · rw [hj]; exact h
      · exact H j (by omega) (by omega), fun H => ⟨H s (by omega) (by omega), fun j h1 h2 => H j (by omega) (by omega)⟩⟩
theorem forIn_eq {P : Program} {w : World} {xs ys : List Int} {f : Nat → Option Bool × Unit → Sem (ForInStep (Option Bool × Unit))} : ∀ (m s : Nat), 
    (∀ j, s ≤ j → j < s + m → (f j (none, ())).run P w = .ok (if el xs j = el ys j then .yield (none, ()) else .done (some false, ())) w) →
    (forIn (List.range' s m) (none, ()) f).run P w = .ok (if sameFrom xs ys m s then (none, ()) else (some false, ())) w
  | 0, s, _ => by simp [sameFrom]
  | m + 1, s, h => by
    rw [List.range'_succ, List.forIn_cons, Sem.run_bind, h s (by omega) (by omega), Result.andThen_ok]
    by_cases e : el xs s = el ys s
    · rw [if_pos e]
      simp only
      rw [forIn_eq m (s + 1) (fun j h1 h2 => h j (by omega) (by omega))]
      simp [sameFrom, e]
    · rw [if_neg e]
      simp [sameFrom, e]

theorem equal_arr {P : Program} {T e : TypeId} {n : Nat} {k : IntKind} {i : TypeInfo} (hu : P.underlying T = some (.array n e)) (he : P.underlying e = some (.int k)) (hi : P.info? e = some i) (hsz : i.size = 1) (xs ys : List Int) (hx : xs.length = n) (hy : ys.length = n) (w : World) :
    (Op.equal T (.agg (xs.map (Value.int k)).toArray) (.agg (ys.map (Value.int k)).toArray)).run P w = .ok (decide (xs = ys)) w := by
  have hp := fun (l : List Int) j (hj : j < l.length) => part_arr (P := P) he hi hsz l j hj w
  have hd : decide (xs = ys) = sameFrom xs ys n 0 := by
    rw [Bool.eq_iff_iff, sameFrom_iff, decide_eq_true_eq]
    exact ⟨fun h j _ _ => by rw [h], fun h => ext_el (by rw [hx, hy]) (fun j hj => h j (by omega) (by omega))⟩
  unfold Op.equal
  rw [show Op.maxDepth = 9998 + 1 + 1 from rfl, Op.equalIn]
  simp only [Sem.run_bind, run_underlying hu, Result.andThen_ok]
  simp [sizeOf, typeInfo, hi, hsz]
  rw [forIn_eq (xs := xs) (ys := ys) n 0 (fun j h1 h2 => ?_)]
  · rw [hd, Result.andThen_ok]
    cases sameFrom xs ys n 0 <;> simp
  · have e1 := hp xs j (by omega)
    have e2 := hp ys j (by omega)
    rw [Nat.mul_one] at e1 e2
    simp only [Sem.run_bind, e1, e2, Result.andThen_ok]
    rw [show 9999 = 9998 + 1 from rfl, equal_int he]
    by_cases h : el xs j = el ys j <;> simp [h]
/-- '!=' of two arrays -/
theorem run_neq_arr {P : Program} {T e : TypeId} {n : Nat} {k : IntKind} {i : TypeInfo} (hu : P.underlying T = some (.array n e)) (he : P.underlying e = some (.int k)) (hi : P.info? e = some i) (hsz : i.size = 1) (hq : P.eqGuardType P.depth T = false) (x y : Operand) (xs ys : List Int) (hx : xs.length = n) (hy : ys.length = n) (w : World) :
    (do eqGuard .neq T x y (.agg (xs.map (Value.int k)).toArray) (.agg (ys.map (Value.int k)).toArray); binOp .neq T (.agg (xs.map (Value.int k)).toArray) (.agg (ys.map (Value.int k)).toArray) : Sem Value).run P w = .ok (.bool (!decide (xs = ys))) w := by
  have he := equal_arr hu he hi hsz xs ys hx hy w
  simp [eqGuard, hq, binOp, he]
theorem add_off (g o j : Nat) : (⟨g, o, none⟩ : Addr).add j = ⟨g, o + j, none⟩ := by unfold Addr.add; split <;> simp_all
theorem exec_arr {P : Program} {w : World} {o : Oper} {a : Act} {T e : TypeId} {n len c : Nat} {x : Operand} {A : Option Addr} (ho : o.op = .sliceToArrayPointer T x) (hu : P.underlying T = some (.array n e)) (hx : a.eval x = .slice A len c) (h : n ≤ len) : (execOp a.eval o).run P w = .ok (.value (.pointer A)) w := by
  have h' : ¬ len < n := by omega
  unfold execOp
  simp [ho, hx, Instr.arrayAt, run_underlying hu, h']
theorem exec_load {P : Program} {w : World} {o : Oper} {a : Act} {ty : TypeId} {x : Operand} {p : Addr} {u : Value} (ho : o.op = .load ty x) (hx : a.eval x = .pointer (some p)) (h : (loadVar ty p).run P w = .ok u w) : (execOp a.eval o).run P w = .ok (.value u) w := by
  unfold execOp
  simp only [ho, hx, Instr.loadAt, Instr.sureAddr, Sem.run_bind, Sem.run_pure, Result.andThen_ok, h]
theorem exec_neq {P : Program} {w : World} {o : Oper} {a : Act} {T : TypeId} {x y : Operand} {ty : TypeId} {u v r : Value} (ho : o.op = .binOp .neq T x y ty) (hx : a.eval x = u) (hy : a.eval y = v)
    (h : (do eqGuard .neq T x y u v; binOp .neq T u v : Sem Value).run P w = .ok r w) : (execOp a.eval o).run P w = .ok (.value r) w := by
  unfold execOp
  simp only [ho, hx, hy]
  simp only [Sem.run_bind] at h ⊢
  rw [h]
  rfl
end Go.Proofs.Ytdocbmgledebaaa
