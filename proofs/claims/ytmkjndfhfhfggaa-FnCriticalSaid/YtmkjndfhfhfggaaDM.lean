/-
  The walk of the reference's GraphCost; what GraphCost and GraphWithout answer at any arguments.
-/
import Derived.Test.YtmkjndfhfhfggaaDL
import Derived.Test.YtmkjndfhfhfggaaWV
namespace Go.Proofs.Ytmkjndfhfhfggaa
open Go.RowKit
set_option maxRecDepth 100000


end Go.Proofs.Ytmkjndfhfhfggaa
