/- No memory does anything: the law's closed part. -/
import Derived.Test.YtlbcandecifkcaaC30
set_option maxRecDepth 100000
set_option maxHeartbeats 16000000
namespace Go.Proofs.Ytlbcandecifkcaa
open Go
theorem e6 (k : Nat) : evP (evF cm (k + 200)) 6 [] = some (.b true) := by kernel_rfl
end Go.Proofs.Ytlbcandecifkcaa
