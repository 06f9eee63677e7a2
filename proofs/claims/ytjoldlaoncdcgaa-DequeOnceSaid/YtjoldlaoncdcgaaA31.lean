/- What must come at any rate, of the deque. -/
import Derived.Test.YtjoldlaoncdcgaaC31
set_option maxRecDepth 100000
set_option maxHeartbeats 16000000
namespace Go.Proofs.Ytjoldlaoncdcgaa
open Go
theorem e8 (k : Nat) : evP (evF cm (k + 200)) 8 [] = some (.b true) := by kernel_rfl
end Go.Proofs.Ytjoldlaoncdcgaa
