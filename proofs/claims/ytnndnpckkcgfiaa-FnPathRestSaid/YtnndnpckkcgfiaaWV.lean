/-
  The walk of the reference's GraphWithout.
-/
import Derived.Test.YtnndnpckkcgfiaaWU
namespace Go.Proofs.Ytnndnpckkcgfiaa
open Go.RowKit
set_option maxRecDepth 100000


end Go.Proofs.Ytnndnpckkcgfiaa
