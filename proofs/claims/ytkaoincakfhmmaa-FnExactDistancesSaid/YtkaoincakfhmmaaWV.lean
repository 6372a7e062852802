/-
  The walk of the reference's GraphWithout.
-/
import Derived.Test.YtkaoincakfhmmaaWU
namespace Go.Proofs.Ytkaoincakfhmmaa
open Go.RowKit


end Go.Proofs.Ytkaoincakfhmmaa
