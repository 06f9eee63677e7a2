/- What must come at any rate, of the ring. -/
import Derived.Test.YtcmlnjkbdlakfaaC32
set_option maxRecDepth 100000
set_option maxHeartbeats 16000000
namespace Go.Proofs.Ytcmlnjkbdlakfaa
open Go
theorem e6 (k : Nat) : evP (evF cm (k + 200)) 6 [] = some (.b true) := by kernel_rfl
end Go.Proofs.Ytcmlnjkbdlakfaa
