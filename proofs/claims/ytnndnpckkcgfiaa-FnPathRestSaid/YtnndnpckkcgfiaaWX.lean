/-
  The walk of the laws' sameGraph, at two graphs that read alike.
-/
import Derived.Test.YtnndnpckkcgfiaaWV
namespace Go.Proofs.Ytnndnpckkcgfiaa
open Go.RowKit
set_option maxRecDepth 100000


end Go.Proofs.Ytnndnpckkcgfiaa
