/- The rounds of Threes: their code. -/
import Derived.KernelRfl
import Derived.Test.YteeghebaankmlaaEngG
import Derived.Test.YteeghebaankmlaaC24
namespace Go.Proofs.Yteeghebaankmlaa
open Go
/-- What a range over a function does in each round. -/
def rfB : Code → Option Code
  | .rangeFunc _ _ _ b => some b
  | .seq x y => (rfB x).orElse fun _ => rfB y
  | .block _ x => rfB x
  | .cond _ x y => (rfB x).orElse fun _ => rfB y
  | _ => none
noncomputable def f6code : Func := (Try.prog.funcs[6]?).getD default
noncomputable def rb6 : Code := ((f6code.body).bind rfB).getD .skip
end Go.Proofs.Yteeghebaankmlaa
