/-
  What the texts of this claim import of the library, under one name.
-/
import Derived.Test.YtnkcldophdbehaaRows
import Derived.WalkKit
import Derived.WalkSpells
import Derived.ProofKit
import Derived.OpenShut
import Derived.ShutString
import Derived.ChangeOld
import Derived.Below
namespace Go.Proofs.Ytnkcldophdbehaa
end Go.Proofs.Ytnkcldophdbehaa
