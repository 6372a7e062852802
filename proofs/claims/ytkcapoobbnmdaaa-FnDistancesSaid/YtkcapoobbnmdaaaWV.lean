/-
  The walk of the reference's GraphWithout.
-/
import Derived.Test.YtkcapoobbnmdaaaWU
namespace Go.Proofs.Ytkcapoobbnmdaaa
open Go.RowKit
set_option maxRecDepth 100000


end Go.Proofs.Ytkcapoobbnmdaaa
