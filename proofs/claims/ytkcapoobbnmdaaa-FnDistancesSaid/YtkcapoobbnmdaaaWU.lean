/-
  The walks of the reference's l1Without and GraphWithout.
-/
import Derived.Test.YtkcapoobbnmdaaaWS
import Derived.Test.YtkcapoobbnmdaaaWT
namespace Go.Proofs.Ytkcapoobbnmdaaa
open Go.RowKit
set_option maxRecDepth 100000

end Go.Proofs.Ytkcapoobbnmdaaa
