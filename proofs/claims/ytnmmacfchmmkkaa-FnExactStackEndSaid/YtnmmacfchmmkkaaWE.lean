/-
  The walks of linkOf, GraphLink, l1Link and the reference's GraphLink: the place of the link between two nodes.
-/
import Derived.Test.YtnmmacfchmmkkaaWD
namespace Go.Proofs.Ytnmmacfchmmkkaa
open Go.RowKit


end Go.Proofs.Ytnmmacfchmmkkaa
