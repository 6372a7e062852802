/-
  The closed facts of the seat that no single statement changes, each a theorem of its own.
-/
import Derived.Test.YtkaoincakfhmmaaKI
import Derived.JoinedOf
namespace Go.Proofs.Ytkaoincakfhmmaa
set_option maxHeartbeats 4000000 in
theorem enters : Try.pinned.checked.prog.mayEnter = true := by decide +kernel
set_option maxHeartbeats 4000000 in
theorem lifts : (false == Try.pinned.checked.prog.liftsFinal) = true := by decide +kernel
set_option maxHeartbeats 4000000 in
theorem makes : (Try.pinned.checked.prog.make == some .cut) = true := by decide +kernel
end Go.Proofs.Ytkaoincakfhmmaa
