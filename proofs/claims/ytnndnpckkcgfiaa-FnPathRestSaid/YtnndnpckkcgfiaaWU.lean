/-
  The walks of the reference's l1Without and GraphWithout.
-/
import Derived.Test.YtnndnpckkcgfiaaWS
import Derived.Test.YtnndnpckkcgfiaaWT
namespace Go.Proofs.Ytnndnpckkcgfiaa
open Go.RowKit
set_option maxRecDepth 100000

end Go.Proofs.Ytnndnpckkcgfiaa
