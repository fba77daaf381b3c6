/- The small machine of local values, reckoned faster: she runs code as the model does. -/
import Derived.Test.YtigilihpofafoaaLocF2
import Derived.Test.YtigilihpofafoaaLocC5
namespace Go.Proofs.Ytigilihpofafoaa.Loc
open Go
variable [En]
theorem runF_sound {P : Program} {Φ : Out → Prop} (hs : Good Φ) (hmo : P.follows .mixedOrders = true) (hgo : NoGo P) {G : Know} (hG : ConOk P Φ G) (n : Nat) : RnOk P Φ (runF P G n) := by
  rw [runF_eq]; exact run_sound hs hmo hgo hG n
end Go.Proofs.Ytigilihpofafoaa.Loc
