/-
  The walk of the reference's GraphCost; what GraphCost and GraphWithout answer at any arguments.
-/
import Derived.Test.YtkcapoobbnmdaaaDL
import Derived.Test.YtkcapoobbnmdaaaWV
namespace Go.Proofs.Ytkcapoobbnmdaaa
open Go.RowKit
set_option maxRecDepth 100000


end Go.Proofs.Ytkcapoobbnmdaaa
