/- BinTouches, whatever its arguments. -/
import Derived.Test.YtjgnjpbplnmdmaaBZ
import Derived.Test.YtjgnjpbplnmdmaaEngL
import Derived.Test.YtjgnjpbplnmdmaaEng15
set_option linter.unusedVariables false
set_option maxRecDepth 100000
namespace Go.Proofs.Ytjgnjpbplnmdmaa
open Go
theorem law3_all : ∀ lvs, IsArgs [(.i .i64), (.i .i64), (.agg [(.i .i64), (.agg [(.agg [(.agg [(.agg [(.i .i64), (.i .i64)]), (.i .i64), (.agg [(.i .i64), (.i .i64), (.i .i64), (.i .i64), (.i .i64), (.i .i64)])]), (.agg [(.agg [(.i .i64), (.i .i64)]), (.i .i64), (.agg [(.i .i64), (.i .i64), (.i .i64), (.i .i64), (.i .i64), (.i .i64)])]), (.agg [(.agg [(.i .i64), (.i .i64)]), (.i .i64), (.agg [(.i .i64), (.i .i64), (.i .i64), (.i .i64), (.i .i64), (.i .i64)])])]), (.i .i64), (.agg [(.i .i64), (.i .i64), (.i .i64), (.i .i64)])]), (.agg [(.agg [(.i .i64), (.i .i64), (.i .i64), (.i .i64), (.i .i64), (.i .i64), (.i .i64), (.i .i64), (.i .i64), (.i .i64), (.i .i64), (.i .i64), (.i .i64), (.i .i64), (.i .i64), (.i .i64)]), (.agg [(.i .i64), (.i .i64), (.i .i64), (.i .i64)]), (.agg [(.i .i64), (.i .i64), (.i .i64), (.i .i64)]), (.i .i64), .b, (.agg [(.i .i64), (.i .i64), (.i .i64), (.i .i64), (.i .i64), (.i .i64), (.i .i64)]), (.agg [(.i .i64), (.i .i64), (.i .i64), (.i .i64)]), (.i .i64), (.i .i64), (.i .i64), .b]), (.agg [(.i .i64), (.i .i64), (.sl (.i .i64))]), (.i .i64), (.agg [(.agg [(.i .i64), (.i .i64), (.i .i64), (.i .i64)]), (.i .i64), (.i .i64)]), (.agg [(.i .i64), (.i .i64), (.i .i64), (.i .i64)])])] lvs → ∃ n h', evF cm n 3 lvs [] 0 = some (.v (.bool true), h') := by
  rintro lvs ⟨_, _, rfl, ⟨x0, ⟨⟩, l0, u0⟩, ⟨_, _, rfl, ⟨x1, ⟨⟩, l1, u1⟩, ⟨_, _, rfl, ⟨cs, rfl, hcs⟩, rfl⟩⟩⟩
  have e := cells_of hcs
  have hsl : Is (.sl (.i .i64)) [getT cs 76] := leaf_at hcs 76 _ rfl
  obtain ⟨l, S, hS0, hS, _⟩ := slI_of hsl
  have hS1 : getT cs 76 = S := by injection hS0
  subst hS1
  have k := law3 0 (numOf (getT cs 0)) (numOf (getT cs 1)) (numOf (getT cs 2)) (numOf (getT cs 3)) (numOf (getT cs 4)) (numOf (getT cs 5)) (numOf (getT cs 6)) (numOf (getT cs 7)) (numOf (getT cs 8)) (numOf (getT cs 9)) (numOf (getT cs 10)) (numOf (getT cs 11)) (numOf (getT cs 12)) (numOf (getT cs 13)) (numOf (getT cs 14)) (numOf (getT cs 15)) (numOf (getT cs 16)) (numOf (getT cs 17)) (numOf (getT cs 18)) (numOf (getT cs 19)) (numOf (getT cs 20)) (numOf (getT cs 21)) (numOf (getT cs 22)) (numOf (getT cs 23)) (numOf (getT cs 24)) (numOf (getT cs 25)) (numOf (getT cs 26)) (numOf (getT cs 27)) (numOf (getT cs 28)) (numOf (getT cs 29)) (numOf (getT cs 30)) (numOf (getT cs 31)) (numOf (getT cs 32)) (numOf (getT cs 33)) (numOf (getT cs 34)) (numOf (getT cs 35)) (numOf (getT cs 36)) (numOf (getT cs 37)) (numOf (getT cs 38)) (numOf (getT cs 39)) (numOf (getT cs 40)) (numOf (getT cs 41)) (numOf (getT cs 42)) (numOf (getT cs 43)) (numOf (getT cs 44)) (numOf (getT cs 45)) (numOf (getT cs 46)) (numOf (getT cs 47)) (numOf (getT cs 48)) (numOf (getT cs 49)) (numOf (getT cs 50)) (numOf (getT cs 51)) (numOf (getT cs 52)) (numOf (getT cs 53)) (numOf (getT cs 54)) (numOf (getT cs 55)) (numOf (getT cs 56)) (numOf (getT cs 57)) (numOf (getT cs 59)) (numOf (getT cs 60)) (numOf (getT cs 61)) (numOf (getT cs 62)) (numOf (getT cs 63)) (numOf (getT cs 64)) (numOf (getT cs 65)) (numOf (getT cs 66)) (numOf (getT cs 67)) (numOf (getT cs 68)) (numOf (getT cs 69)) (numOf (getT cs 70)) (numOf (getT cs 71)) (numOf (getT cs 72)) (numOf (getT cs 74)) (numOf (getT cs 75)) (numOf (getT cs 77)) (numOf (getT cs 78)) (numOf (getT cs 79)) (numOf (getT cs 80)) (numOf (getT cs 81)) (numOf (getT cs 82)) (numOf (getT cs 83)) (numOf (getT cs 84)) (numOf (getT cs 85)) (numOf (getT cs 86)) (numOf (getT cs 87)) (truOf (getT cs 58)) (truOf (getT cs 73)) l (getT cs 76) hS x0 x1
  refine ⟨3000, law_true ?_⟩
  rw [e]
  exact k
end Go.Proofs.Ytjgnjpbplnmdmaa
