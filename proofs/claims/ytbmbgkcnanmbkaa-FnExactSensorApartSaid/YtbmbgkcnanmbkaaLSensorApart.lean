/- The walk of the law FnExactSensorApart. No condition. -/
import Derived.Test.YtbmbgkcnanmbkaaAns
namespace Go.Proofs.Ytbmbgkcnanmbkaa
open Go.RowKit

set_option maxHeartbeats 1000000 in
theorem FnExactSensorApart_walk (a0 a1 : Int) (w : World) (_ : (Lit.int .i64 a0).wf = true) (_ : (Lit.int .i64 a1).wf = true) :
    Calls Try.prog 5 #[.int .i64 a0, .int .i64 a1] w fun e w' => e = .returned (.bool true) ∧ Below w.heap.size w w' := by
  go_enter Try.func5, Try.ntmps5
  go_wp2_with (first | (go_at_call 32; refine (sensorApartS_c _ _ _).mono ?_; rintro e w' ⟨rfl, rfl⟩) | (go_at_call 33; refine (sensorApartI_c _ _ _).mono ?_; rintro e w' ⟨rfl, rfl⟩))
  go_ret
  exact ⟨rfl, Below.refl _ _⟩
end Go.Proofs.Ytbmbgkcnanmbkaa
