/-
  What the row's listed variable gives a walk: the table of the primes.
-/
import Derived.Test.YtamfbmchamgddaaDoorNF
import Derived.Test.YtamfbmchamgddaaDoorRows
import Derived.ProofKit
import Derived.LaidMore
import Derived.OpenShut
import Derived.Stop.Joined
import Derived.Lib.LaidTab
namespace Go.Proofs.YtamfbmchamgddaaDoor
set_option linter.unusedVariables false
set_option linter.unusedSimpArgs false
open Go.RowKit Go.Proofs.YtamfbmchamgddaaDoorW.PrintWords

def parD (p : Par) : DataW Unit := .agg [Lib.tabData .u64 (WN p.M), .lit (.int .u64 p.neg), Lib.tabData .u64 (WN p.one), Lib.tabData .u64 (WN p.sq)]
theorem datum_eq : (Rows.laid_securelink_mont_moduli : DataW Unit) = .agg [parD (par 0), parD (par 1), parD (par 2), parD (par 3)] := by kernel_rfl
theorem gMod : Tryd.prog.globalNamed "securelink/mont.moduli" = some 0 := by kernel_rfl
theorem tMod : (Tryd.prog.globals[0]?).map (·.type) = some 74 := by kernel_rfl
theorem c_int : Tryd.prog.cellsOf 53 = 4 := by kernel_rfl
theorem c_u64 : Tryd.prog.cellsOf 51 = 1 := by kernel_rfl
theorem c_mod : Tryd.prog.cellsOf 55 = 13 := by kernel_rfl

theorem cut_at {α : Type} (l : List α) (a n b : Nat) (h : a + n = b) : (l.drop a).take n ++ l.drop b = l.drop a := by
  subst h
  rw [← List.drop_drop]
  exact List.take_append_drop n (l.drop a)
theorem cells_of_par {W : World} {p : Par} {sp : Nat → Bool} {fuel : Nat} {cs : List Value} {q : List MemPlace} (h : DataW.trod (fun _ => ()) Tryd.prog W 0 sp false fuel 55 cs = some (parD p, q)) : cs = p.mem.map (Value.int .u64) := by
  obtain ⟨xs, m, rfl, hx, hl, hn, hel⟩ := DataW.trod_struct Tryd.underlying55 h
  have h0 := hel 0 _ rfl
  have h1 := hel 1 _ rfl
  have h2 := hel 2 _ rfl
  have h3 := hel 3 _ rfl
  change DataW.trod _ _ W 0 sp false m 53 ((cs.drop 0).take (Tryd.prog.cellsOf 53)) = xs[0]? at h0
  change DataW.trod _ _ W 0 sp false m 51 ((cs.drop 4).take (Tryd.prog.cellsOf 51)) = xs[1]? at h1
  change DataW.trod _ _ W 0 sp false m 53 ((cs.drop 5).take (Tryd.prog.cellsOf 53)) = xs[2]? at h2
  change DataW.trod _ _ W 0 sp false m 53 ((cs.drop 9).take (Tryd.prog.cellsOf 53)) = xs[3]? at h3
  rw [c_int] at h0 h2 h3
  rw [c_u64] at h1
  rw [c_mod] at hl
  change xs.length = 4 at hn
  clear hel
  simp only [Prod.mk.injEq, parD, DataW.agg.injEq] at hx
  obtain ⟨hx, _⟩ := hx
  obtain ⟨⟨d0, q0⟩, ⟨d1, q1⟩, ⟨d2, q2⟩, ⟨d3, q3⟩, rfl⟩ : ∃ x0 x1 x2 x3, xs = [x0, x1, x2, x3] := by
    match xs, hn with
    | [x0, x1, x2, x3], _ => exact ⟨x0, x1, x2, x3, rfl⟩
  simp only [List.map_cons, List.map_nil, List.cons.injEq, and_true] at hx
  obtain ⟨e0, e1, e2, e3⟩ := hx
  subst e0 e1 e2 e3
  have k0 := Lib.cells_of_tab Tryd.underlying53 Tryd.underlying51 c_u64 c_int (h0.trans rfl)
  have k2 := Lib.cells_of_tab Tryd.underlying53 Tryd.underlying51 c_u64 c_int (h2.trans rfl)
  have k3 := Lib.cells_of_tab Tryd.underlying53 Tryd.underlying51 c_u64 c_int (h3.trans rfl)
  obtain ⟨z, k1, ez, _⟩ := DataW.trod_int Tryd.underlying51 (h1.trans rfl)
  obtain rfl : z = p.neg := (show z = p.neg ∧ q1 = [] by simpa using ez.symm).1
  have e9 : (cs.drop 9).take 4 = cs.drop 9 := List.take_of_length_le (by simp; omega)
  have h4 := cut_at cs 0 4 4 rfl
  have h5 := cut_at cs 4 1 5 rfl
  have h6 := cut_at cs 5 4 9 rfl
  rw [← e9, k2, k3] at h6
  rw [k1, ← h6] at h5
  rw [k0, ← h5, List.drop_zero] at h4
  rw [← h4]
  simp [Par.mem]

theorem met_plain {W : World} (h : laidMetH Tryd.prog [("securelink/mont.moduli", Rows.laid_securelink_mont_moduli)] W) : laidMet Tryd.prog [("securelink/mont.moduli", Rows.laid_securelink_mont_moduli)] W := by
  rwa [MakeChecks.laidMetH_plain _ _ _ (by kernel_rfl)] at h
theorem c_arr : Tryd.prog.cellsOf 74 = 52 := by kernel_rfl
/-- the row's condition, as the walks ask it -/
theorem primes_of_laid {W : World} (h : laidMetH Tryd.prog [("securelink/mont.moduli", Rows.laid_securelink_mont_moduli)] W) : Primes W := by
  obtain ⟨ps, ⟨g0, t0, cs0, f0, p0, q0, hg0, ht0, hv0, hd0, _, _⟩, _, _⟩ := met_plain h
  obtain rfl := Option.some.inj (gMod.symm.trans hg0)
  obtain rfl := Option.some.inj (tMod.symm.trans ht0)
  rw [datum_eq] at hd0
  obtain ⟨xs, m, rfl, hx, hl, hn, hel⟩ := DataW.trod_array Tryd.underlying74 hd0
  rw [c_arr] at hl
  rw [c_mod] at hel
  simp only [Prod.mk.injEq, DataW.agg.injEq] at hx
  obtain ⟨hx, _⟩ := hx
  obtain ⟨⟨d0, q0⟩, ⟨d1, q1⟩, ⟨d2, q2⟩, ⟨d3, q3⟩, rfl⟩ : ∃ x0 x1 x2 x3, xs = [x0, x1, x2, x3] := by
    match xs, hn with
    | [x0, x1, x2, x3], _ => exact ⟨x0, x1, x2, x3, rfl⟩
  simp only [List.map_cons, List.map_nil, List.cons.injEq, and_true] at hx
  obtain ⟨e0, e1, e2, e3⟩ := hx
  subst e0 e1 e2 e3
  have hall : ∀ k, k < 4 → (cs0.toList.drop (k * 13)).take 13 = (par k).mem.map (Value.int .u64) := fun k hk => by
    rcases (by omega : k = 0 ∨ k = 1 ∨ k = 2 ∨ k = 3) with rfl | rfl | rfl | rfl
    · exact cells_of_par ((hel 0 (by omega)).trans rfl)
    · exact cells_of_par ((hel 1 (by omega)).trans rfl)
    · exact cells_of_par ((hel 2 (by omega)).trans rfl)
    · exact cells_of_par ((hel 3 (by omega)).trans rfl)
  refine fun k hk => ⟨Par.mem_len _, by omega, fun _ => ⟨_, rfl, fun j hj => ?_⟩⟩
  rw [add_off]
  have hc := World.var?_cell gMod hv0 (k * 13 + j)
  rw [hc]
  have h1 := congrArg (fun l => l[j]?) (hall k hk)
  simp only [List.getElem?_take, List.getElem?_drop, hj, if_true, List.getElem?_map] at h1
  have hj2 : j < (par k).mem.length := by rw [Par.mem_len]; exact hj
  rw [List.getElem?_eq_getElem hj2] at h1
  simp only [Array.getElem?_toList] at h1
  rw [h1]
  simp [List.getD_eq_getElem?_getD, List.getElem?_eq_getElem hj2]

theorem door_met (os : Os) (args : Array Value) : laidMetH Tryd.prog [("securelink/mont.moduli", Rows.laid_securelink_mont_moduli)] ((World.doorLaid Tryd.prog 30 os).forCall (fun _ _ => 0) ⟨#[], args, []⟩).memory :=
  laidMetH_of_parts3 (fuel := 8) (laidMet_of_run' 8 (by kernel_rfl) (by kernel_rfl)) (by kernel_rfl) (by kernel_rfl)
end Go.Proofs.YtamfbmchamgddaaDoor
