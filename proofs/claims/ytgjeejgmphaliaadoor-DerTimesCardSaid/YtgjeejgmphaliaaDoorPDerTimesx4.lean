-- PRINTED BY print.sh 35421559b90ae4d0a3588c463048766b98c2df88dd9212a6774a882060cdf62d: not written by this session
import Derived.Test.YtgjeejgmphaliaaDoorPDerTimesx0
namespace Go.Proofs.YtgjeejgmphaliaaDoor.PDerTimes
open Go.RowKit Go.Proofs.YtgjeejgmphaliaaDoorW.PrintWords Go.Proofs.YtgjeejgmphaliaaDoorW.PrintLast Go.Proofs.YtgjeejgmphaliaaDoorW.PrintMore
attribute [local go_sem] max2_int min2_int max_two min_two max_three min_three max_four min_four   -- for this text's walks alone
set_option linter.unusedVariables false
set_option linter.unusedSimpArgs false

/-! ### securelinkref7_before: function 39 -/
def securelinkref7_before.f (a0 : Int) : Option (Int) := some (wrap64 ((wrap64 ((wrap64 ((wrap64 (365 * a0)) + (wrap64 (Int.tdiv (wrap64 (a0 + 3)) 4)))) - (wrap64 (Int.tdiv (wrap64 (a0 + 99)) 100)))) + (wrap64 (Int.tdiv (wrap64 (a0 + 399)) 400))))
set_option maxHeartbeats 8000000 in
set_option maxRecDepth 100000 in
theorem securelinkref7_before.calls (a0 : Int) (r : Int) (w : World) (h : securelinkref7_before.f a0 = some r) :
    Calls Tryd.prog 39 #[.int .i64 a0] w fun e w' => e = .returned (.int .i64 r) ∧ Drawn0 w w' := by
  have H : (some (wrap64 ((wrap64 ((wrap64 ((wrap64 (365 * a0)) + (wrap64 (Int.tdiv (wrap64 (a0 + 3)) 4)))) - (wrap64 (Int.tdiv (wrap64 (a0 + 99)) 100)))) + (wrap64 (Int.tdiv (wrap64 (a0 + 399)) 400))))) = some r := h
  clear h
  obtain rfl := Option.some.inj H
  go_enter Tryd.func39, Tryd.ntmps39
  go_wp2
  go_ret
  exact ⟨by first | rfl | (simp; done) | (simp [*]; done), by repeat (first | exact Drawn0.refl _ | apply Drawn0.step)⟩

end Go.Proofs.YtgjeejgmphaliaaDoor.PDerTimes
