/-
  No cell of these rows narrows 'for every input' (looked for: loops, veiled, ifaces, maps, wideKeys, modest, calm, conditions, laid).
  DERIVED. THE GIVEN ROWS OF THIS SEAT. 12 by the template 'for every input the law returns true; each argument reads behind the call as it read before'; 0 by the template 'total and deterministic' (their statements: YtnndnpckkcgfiaaTotals.lean).
  GIVEN WITH THE SEED: the statements are not yours to turn. If you find one false, say at which input.
  Laid BY PROGRAM, IN A SANDBOX (cutbox-rows.mjs): the forced cells as the released guide's own fill.sh prints them over the translation 54bc5c701f87e3c5… (all of the seat's roots in one cut). By AI agents, Wed Nov 11 2026. No macro, syntax, notation, axiom, sorry.
-/
import Derived.Test.YtnndnpckkcgfiaaChecked
import GoSem.Claim
import GoSem.ClaimJoined
import GoSem.ClaimMapViews
import Derived.JoinedTies
import Derived.KernelRfl
namespace Go.Proofs.Ytnndnpckkcgfiaa
/- THE CELL 'sum', in the pinned program and in every row, IS THE sha256 OF THE DUMP (.gsa) THAT YtnndnpckkcgfiaaProg.lean LOADS. Nothing in Lean hashes anything: it is a label: what it is worth is what the hold of that sum in a sandbox is worth. -/
noncomputable def Try.pinned : Pinned := { name := "ytnndnpckkcgfiaa", sum := "54bc5c701f87e3c5d8203ae64d16ed508a71b948027d91fdfaa5b9f75ea21e99", checked := Try.checked }
namespace Rows
def none {H : Type} : Left H := { results := [], args := [] }

/-- 'laws.FnNodeUsedCount': WHATEVER THE INPUT: true; the input reads as it did. -/
def fnNodeUsedCountSpec : ChangeSpec := { name := "fnNodeUsedCount", fn := fun _ => fun
  | [d] => { results := [.lit (.bool true)], args := [d] }
  | _ => none }
def fnNodeUsedCountRow : OpenClaim := { program := "ytnndnpckkcgfiaa", sum := "54bc5c701f87e3c5d8203ae64d16ed508a71b948027d91fdfaa5b9f75ea21e99", func := "loop.example/linkstaterouting/laws.FnNodeUsedCount", spec := "fnNodeUsedCount", unfollowed := true, recurses := true, apart := false }
def FnNodeUsedCountSaid : Prop := fnNodeUsedCountRow.holds Try.pinned (OpenSpec.ofChange fnNodeUsedCountSpec)

/-- ITS FALSE NEIGHBOUR: 'it returns false'. Refute it at one input. -/
def fnNodeUsedCountWrong : ChangeSpec := { name := "fnNodeUsedCount", fn := fun _ => fun
  | [d] => { results := [.lit (.bool false)], args := [d] }
  | _ => none }
def FnNodeUsedCountWrongFalsely : Prop := fnNodeUsedCountRow.holds Try.pinned (OpenSpec.ofChange fnNodeUsedCountWrong)

/-- 'laws.FnCount': WHATEVER THE INPUT: true; the input reads as it did. -/
def fnCountSpec : ChangeSpec := { name := "fnCount", fn := fun _ => fun
  | [d] => { results := [.lit (.bool true)], args := [d] }
  | _ => none }
def fnCountRow : OpenClaim := { program := "ytnndnpckkcgfiaa", sum := "54bc5c701f87e3c5d8203ae64d16ed508a71b948027d91fdfaa5b9f75ea21e99", func := "loop.example/linkstaterouting/laws.FnCount", spec := "fnCount", unfollowed := true, recurses := true, apart := false }
def FnCountSaid : Prop := fnCountRow.holds Try.pinned (OpenSpec.ofChange fnCountSpec)

/-- ITS FALSE NEIGHBOUR: 'it returns false'. Refute it at one input. -/
def fnCountWrong : ChangeSpec := { name := "fnCount", fn := fun _ => fun
  | [d] => { results := [.lit (.bool false)], args := [d] }
  | _ => none }
def FnCountWrongFalsely : Prop := fnCountRow.holds Try.pinned (OpenSpec.ofChange fnCountWrong)

/-- 'laws.FnPathRest': WHATEVER THE INPUT: true; the input reads as it did. -/
def fnPathRestSpec : ChangeSpec := { name := "fnPathRest", fn := fun _ => fun
  | [d1, d2] => { results := [.lit (.bool true)], args := [d1, d2] }
  | _ => none }
def fnPathRestRow : OpenClaim := { program := "ytnndnpckkcgfiaa", sum := "54bc5c701f87e3c5d8203ae64d16ed508a71b948027d91fdfaa5b9f75ea21e99", func := "loop.example/linkstaterouting/laws.FnPathRest", spec := "fnPathRest", unfollowed := true, recurses := true, apart := false }
def FnPathRestSaid : Prop := fnPathRestRow.holds Try.pinned (OpenSpec.ofChange fnPathRestSpec)

/-- ITS FALSE NEIGHBOUR: 'it returns false'. Refute it at one input. -/
def fnPathRestWrong : ChangeSpec := { name := "fnPathRest", fn := fun _ => fun
  | [d1, d2] => { results := [.lit (.bool false)], args := [d1, d2] }
  | _ => none }
def FnPathRestWrongFalsely : Prop := fnPathRestRow.holds Try.pinned (OpenSpec.ofChange fnPathRestWrong)

/-- 'laws.FnExactNextHops': WHATEVER THE INPUT: true; the input reads as it did. -/
def fnExactNextHopsSpec : ChangeSpec := { name := "fnExactNextHops", fn := fun _ => fun
  | [d1, d2, d3] => { results := [.lit (.bool true)], args := [d1, d2, d3] }
  | _ => none }
def fnExactNextHopsRow : OpenClaim := { program := "ytnndnpckkcgfiaa", sum := "54bc5c701f87e3c5d8203ae64d16ed508a71b948027d91fdfaa5b9f75ea21e99", func := "loop.example/linkstaterouting/laws.FnExactNextHops", spec := "fnExactNextHops", unfollowed := true, recurses := true, apart := false }
def FnExactNextHopsSaid : Prop := fnExactNextHopsRow.holds Try.pinned (OpenSpec.ofChange fnExactNextHopsSpec)

/-- ITS FALSE NEIGHBOUR: 'it returns false'. Refute it at one input. -/
def fnExactNextHopsWrong : ChangeSpec := { name := "fnExactNextHops", fn := fun _ => fun
  | [d1, d2, d3] => { results := [.lit (.bool false)], args := [d1, d2, d3] }
  | _ => none }
def FnExactNextHopsWrongFalsely : Prop := fnExactNextHopsRow.holds Try.pinned (OpenSpec.ofChange fnExactNextHopsWrong)

/-- 'laws.FnHopsUsed': WHATEVER THE INPUT: true; the input reads as it did. -/
def fnHopsUsedSpec : ChangeSpec := { name := "fnHopsUsed", fn := fun _ => fun
  | [d] => { results := [.lit (.bool true)], args := [d] }
  | _ => none }
def fnHopsUsedRow : OpenClaim := { program := "ytnndnpckkcgfiaa", sum := "54bc5c701f87e3c5d8203ae64d16ed508a71b948027d91fdfaa5b9f75ea21e99", func := "loop.example/linkstaterouting/laws.FnHopsUsed", spec := "fnHopsUsed", unfollowed := true, recurses := true, apart := false }
def FnHopsUsedSaid : Prop := fnHopsUsedRow.holds Try.pinned (OpenSpec.ofChange fnHopsUsedSpec)

/-- ITS FALSE NEIGHBOUR: 'it returns false'. Refute it at one input. -/
def fnHopsUsedWrong : ChangeSpec := { name := "fnHopsUsed", fn := fun _ => fun
  | [d] => { results := [.lit (.bool false)], args := [d] }
  | _ => none }
def FnHopsUsedWrongFalsely : Prop := fnHopsUsedRow.holds Try.pinned (OpenSpec.ofChange fnHopsUsedWrong)

/-- 'laws.FnCountReach': WHATEVER THE INPUT: true; the input reads as it did. -/
def fnCountReachSpec : ChangeSpec := { name := "fnCountReach", fn := fun _ => fun
  | [d] => { results := [.lit (.bool true)], args := [d] }
  | _ => none }
def fnCountReachRow : OpenClaim := { program := "ytnndnpckkcgfiaa", sum := "54bc5c701f87e3c5d8203ae64d16ed508a71b948027d91fdfaa5b9f75ea21e99", func := "loop.example/linkstaterouting/laws.FnCountReach", spec := "fnCountReach", unfollowed := true, recurses := true, apart := false }
def FnCountReachSaid : Prop := fnCountReachRow.holds Try.pinned (OpenSpec.ofChange fnCountReachSpec)

/-- ITS FALSE NEIGHBOUR: 'it returns false'. Refute it at one input. -/
def fnCountReachWrong : ChangeSpec := { name := "fnCountReach", fn := fun _ => fun
  | [d] => { results := [.lit (.bool false)], args := [d] }
  | _ => none }
def FnCountReachWrongFalsely : Prop := fnCountReachRow.holds Try.pinned (OpenSpec.ofChange fnCountReachWrong)

/-- 'laws.FnNodeUsedPath': WHATEVER THE INPUT: true; the input reads as it did. -/
def fnNodeUsedPathSpec : ChangeSpec := { name := "fnNodeUsedPath", fn := fun _ => fun
  | [d] => { results := [.lit (.bool true)], args := [d] }
  | _ => none }
def fnNodeUsedPathRow : OpenClaim := { program := "ytnndnpckkcgfiaa", sum := "54bc5c701f87e3c5d8203ae64d16ed508a71b948027d91fdfaa5b9f75ea21e99", func := "loop.example/linkstaterouting/laws.FnNodeUsedPath", spec := "fnNodeUsedPath", unfollowed := true, recurses := true, apart := false }
def FnNodeUsedPathSaid : Prop := fnNodeUsedPathRow.holds Try.pinned (OpenSpec.ofChange fnNodeUsedPathSpec)

/-- ITS FALSE NEIGHBOUR: 'it returns false'. Refute it at one input. -/
def fnNodeUsedPathWrong : ChangeSpec := { name := "fnNodeUsedPath", fn := fun _ => fun
  | [d] => { results := [.lit (.bool false)], args := [d] }
  | _ => none }
def FnNodeUsedPathWrongFalsely : Prop := fnNodeUsedPathRow.holds Try.pinned (OpenSpec.ofChange fnNodeUsedPathWrong)

/-- 'laws.FnLinkUsed': WHATEVER THE INPUT: true; the input reads as it did. -/
def fnLinkUsedSpec : ChangeSpec := { name := "fnLinkUsed", fn := fun _ => fun
  | [d] => { results := [.lit (.bool true)], args := [d] }
  | _ => none }
def fnLinkUsedRow : OpenClaim := { program := "ytnndnpckkcgfiaa", sum := "54bc5c701f87e3c5d8203ae64d16ed508a71b948027d91fdfaa5b9f75ea21e99", func := "loop.example/linkstaterouting/laws.FnLinkUsed", spec := "fnLinkUsed", unfollowed := true, recurses := true, apart := false }
def FnLinkUsedSaid : Prop := fnLinkUsedRow.holds Try.pinned (OpenSpec.ofChange fnLinkUsedSpec)

/-- ITS FALSE NEIGHBOUR: 'it returns false'. Refute it at one input. -/
def fnLinkUsedWrong : ChangeSpec := { name := "fnLinkUsed", fn := fun _ => fun
  | [d] => { results := [.lit (.bool false)], args := [d] }
  | _ => none }
def FnLinkUsedWrongFalsely : Prop := fnLinkUsedRow.holds Try.pinned (OpenSpec.ofChange fnLinkUsedWrong)

/-- 'laws.FnNextHops': WHATEVER THE INPUT: true; the input reads as it did. -/
def fnNextHopsSpec : ChangeSpec := { name := "fnNextHops", fn := fun _ => fun
  | [d] => { results := [.lit (.bool true)], args := [d] }
  | _ => none }
def fnNextHopsRow : OpenClaim := { program := "ytnndnpckkcgfiaa", sum := "54bc5c701f87e3c5d8203ae64d16ed508a71b948027d91fdfaa5b9f75ea21e99", func := "loop.example/linkstaterouting/laws.FnNextHops", spec := "fnNextHops", unfollowed := true, recurses := true, apart := false }
def FnNextHopsSaid : Prop := fnNextHopsRow.holds Try.pinned (OpenSpec.ofChange fnNextHopsSpec)

/-- ITS FALSE NEIGHBOUR: 'it returns false'. Refute it at one input. -/
def fnNextHopsWrong : ChangeSpec := { name := "fnNextHops", fn := fun _ => fun
  | [d] => { results := [.lit (.bool false)], args := [d] }
  | _ => none }
def FnNextHopsWrongFalsely : Prop := fnNextHopsRow.holds Try.pinned (OpenSpec.ofChange fnNextHopsWrong)

/-- 'laws.FnPathOnce': WHATEVER THE INPUT: true; the input reads as it did. -/
def fnPathOnceSpec : ChangeSpec := { name := "fnPathOnce", fn := fun _ => fun
  | [d] => { results := [.lit (.bool true)], args := [d] }
  | _ => none }
def fnPathOnceRow : OpenClaim := { program := "ytnndnpckkcgfiaa", sum := "54bc5c701f87e3c5d8203ae64d16ed508a71b948027d91fdfaa5b9f75ea21e99", func := "loop.example/linkstaterouting/laws.FnPathOnce", spec := "fnPathOnce", unfollowed := true, recurses := true, apart := false }
def FnPathOnceSaid : Prop := fnPathOnceRow.holds Try.pinned (OpenSpec.ofChange fnPathOnceSpec)

/-- ITS FALSE NEIGHBOUR: 'it returns false'. Refute it at one input. -/
def fnPathOnceWrong : ChangeSpec := { name := "fnPathOnce", fn := fun _ => fun
  | [d] => { results := [.lit (.bool false)], args := [d] }
  | _ => none }
def FnPathOnceWrongFalsely : Prop := fnPathOnceRow.holds Try.pinned (OpenSpec.ofChange fnPathOnceWrong)

/-- 'laws.FnPath': WHATEVER THE INPUT: true; the input reads as it did. -/
def fnPathSpec : ChangeSpec := { name := "fnPath", fn := fun _ => fun
  | [d] => { results := [.lit (.bool true)], args := [d] }
  | _ => none }
def fnPathRow : OpenClaim := { program := "ytnndnpckkcgfiaa", sum := "54bc5c701f87e3c5d8203ae64d16ed508a71b948027d91fdfaa5b9f75ea21e99", func := "loop.example/linkstaterouting/laws.FnPath", spec := "fnPath", unfollowed := true, recurses := true, apart := false }
def FnPathSaid : Prop := fnPathRow.holds Try.pinned (OpenSpec.ofChange fnPathSpec)

/-- ITS FALSE NEIGHBOUR: 'it returns false'. Refute it at one input. -/
def fnPathWrong : ChangeSpec := { name := "fnPath", fn := fun _ => fun
  | [d] => { results := [.lit (.bool false)], args := [d] }
  | _ => none }
def FnPathWrongFalsely : Prop := fnPathRow.holds Try.pinned (OpenSpec.ofChange fnPathWrong)

/-- 'laws.FnPathBack': WHATEVER THE INPUT: true; the input reads as it did. -/
def fnPathBackSpec : ChangeSpec := { name := "fnPathBack", fn := fun _ => fun
  | [d] => { results := [.lit (.bool true)], args := [d] }
  | _ => none }
def fnPathBackRow : OpenClaim := { program := "ytnndnpckkcgfiaa", sum := "54bc5c701f87e3c5d8203ae64d16ed508a71b948027d91fdfaa5b9f75ea21e99", func := "loop.example/linkstaterouting/laws.FnPathBack", spec := "fnPathBack", unfollowed := true, recurses := true, apart := false }
def FnPathBackSaid : Prop := fnPathBackRow.holds Try.pinned (OpenSpec.ofChange fnPathBackSpec)

/-- ITS FALSE NEIGHBOUR: 'it returns false'. Refute it at one input. -/
def fnPathBackWrong : ChangeSpec := { name := "fnPathBack", fn := fun _ => fun
  | [d] => { results := [.lit (.bool false)], args := [d] }
  | _ => none }
def FnPathBackWrongFalsely : Prop := fnPathBackRow.holds Try.pinned (OpenSpec.ofChange fnPathBackWrong)

/- THE SECOND FORM. 'bulk': how many values and letters a reading holds, each counted each time it is reached (what is shared counts as often as it is met; a slice's spare places count too). A statement '..UptoSaid' is the law's where the arguments, and the package variables that the reading takes, are together of bulk at most 1048576: NARROWER than '..Said'. Prove '..Said' where nothing that the law and all that it calls make is longer than what came in: it says more and counts as full. Else prove '..UptoSaid'. A law counts once. -/
mutual
def uptoBulk {H : Type} : DataW H → Nat
  | .lit (.string bytes) => bytes.length + 1
  | .lit _ => 1
  | .nil => 1
  | .ptr d => uptoBulk d + 1
  | .slice elems spare => uptoBulkAll elems + uptoBulkAll spare + 1
  | .agg parts => uptoBulkAll parts + 1
  | .iface _ d => uptoBulk d + 1
  | .map entries => uptoBulkEntries entries + 1
  | .held _ => 1
def uptoBulkAll {H : Type} : List (DataW H) → Nat
  | [] => 0
  | d :: r => uptoBulk d + uptoBulkAll r
def uptoBulkEntries {H : Type} : List (Lit × DataW H) → Nat
  | [] => 0
  | x :: r => uptoBulkEntry x + uptoBulkEntries r
def uptoBulkEntry {H : Type} : Lit × DataW H → Nat
  | (.string bytes, d) => bytes.length + uptoBulk d + 1
  | (_, d) => uptoBulk d + 1
 end
def uptoSmall : (H : Type) → List (DataW H) → Bool := fun _ ds => decide (uptoBulkAll ds ≤ 1048576)
def OpenSpec.upto (s : _root_.Go.ChangeSpec) : _root_.Go.OpenSpec := { _root_.Go.OpenSpec.ofChange s with cond := some uptoSmall }

/-- 'laws.FnNodeUsedCount', WHERE WHAT IT READS IS OF BULK AT MOST 1048576: true; the input reads as it did. -/
def fnNodeUsedCountUptoRow : OpenClaim := { program := "ytnndnpckkcgfiaa", sum := "54bc5c701f87e3c5d8203ae64d16ed508a71b948027d91fdfaa5b9f75ea21e99", func := "loop.example/linkstaterouting/laws.FnNodeUsedCount", spec := "fnNodeUsedCount", unfollowed := true, recurses := true, apart := false, narrowed := true }
def FnNodeUsedCountUptoSaid : Prop := fnNodeUsedCountUptoRow.holds Try.pinned (OpenSpec.upto fnNodeUsedCountSpec)

/-- 'laws.FnCount', WHERE WHAT IT READS IS OF BULK AT MOST 1048576: true; the input reads as it did. -/
def fnCountUptoRow : OpenClaim := { program := "ytnndnpckkcgfiaa", sum := "54bc5c701f87e3c5d8203ae64d16ed508a71b948027d91fdfaa5b9f75ea21e99", func := "loop.example/linkstaterouting/laws.FnCount", spec := "fnCount", unfollowed := true, recurses := true, apart := false, narrowed := true }
def FnCountUptoSaid : Prop := fnCountUptoRow.holds Try.pinned (OpenSpec.upto fnCountSpec)

/-- 'laws.FnPathRest', WHERE WHAT IT READS IS OF BULK AT MOST 1048576: true; the input reads as it did. -/
def fnPathRestUptoRow : OpenClaim := { program := "ytnndnpckkcgfiaa", sum := "54bc5c701f87e3c5d8203ae64d16ed508a71b948027d91fdfaa5b9f75ea21e99", func := "loop.example/linkstaterouting/laws.FnPathRest", spec := "fnPathRest", unfollowed := true, recurses := true, apart := false, narrowed := true }
def FnPathRestUptoSaid : Prop := fnPathRestUptoRow.holds Try.pinned (OpenSpec.upto fnPathRestSpec)

/-- 'laws.FnExactNextHops', WHERE WHAT IT READS IS OF BULK AT MOST 1048576: true; the input reads as it did. -/
def fnExactNextHopsUptoRow : OpenClaim := { program := "ytnndnpckkcgfiaa", sum := "54bc5c701f87e3c5d8203ae64d16ed508a71b948027d91fdfaa5b9f75ea21e99", func := "loop.example/linkstaterouting/laws.FnExactNextHops", spec := "fnExactNextHops", unfollowed := true, recurses := true, apart := false, narrowed := true }
def FnExactNextHopsUptoSaid : Prop := fnExactNextHopsUptoRow.holds Try.pinned (OpenSpec.upto fnExactNextHopsSpec)

/-- 'laws.FnHopsUsed', WHERE WHAT IT READS IS OF BULK AT MOST 1048576: true; the input reads as it did. -/
def fnHopsUsedUptoRow : OpenClaim := { program := "ytnndnpckkcgfiaa", sum := "54bc5c701f87e3c5d8203ae64d16ed508a71b948027d91fdfaa5b9f75ea21e99", func := "loop.example/linkstaterouting/laws.FnHopsUsed", spec := "fnHopsUsed", unfollowed := true, recurses := true, apart := false, narrowed := true }
def FnHopsUsedUptoSaid : Prop := fnHopsUsedUptoRow.holds Try.pinned (OpenSpec.upto fnHopsUsedSpec)

/-- 'laws.FnCountReach', WHERE WHAT IT READS IS OF BULK AT MOST 1048576: true; the input reads as it did. -/
def fnCountReachUptoRow : OpenClaim := { program := "ytnndnpckkcgfiaa", sum := "54bc5c701f87e3c5d8203ae64d16ed508a71b948027d91fdfaa5b9f75ea21e99", func := "loop.example/linkstaterouting/laws.FnCountReach", spec := "fnCountReach", unfollowed := true, recurses := true, apart := false, narrowed := true }
def FnCountReachUptoSaid : Prop := fnCountReachUptoRow.holds Try.pinned (OpenSpec.upto fnCountReachSpec)

/-- 'laws.FnNodeUsedPath', WHERE WHAT IT READS IS OF BULK AT MOST 1048576: true; the input reads as it did. -/
def fnNodeUsedPathUptoRow : OpenClaim := { program := "ytnndnpckkcgfiaa", sum := "54bc5c701f87e3c5d8203ae64d16ed508a71b948027d91fdfaa5b9f75ea21e99", func := "loop.example/linkstaterouting/laws.FnNodeUsedPath", spec := "fnNodeUsedPath", unfollowed := true, recurses := true, apart := false, narrowed := true }
def FnNodeUsedPathUptoSaid : Prop := fnNodeUsedPathUptoRow.holds Try.pinned (OpenSpec.upto fnNodeUsedPathSpec)

/-- 'laws.FnLinkUsed', WHERE WHAT IT READS IS OF BULK AT MOST 1048576: true; the input reads as it did. -/
def fnLinkUsedUptoRow : OpenClaim := { program := "ytnndnpckkcgfiaa", sum := "54bc5c701f87e3c5d8203ae64d16ed508a71b948027d91fdfaa5b9f75ea21e99", func := "loop.example/linkstaterouting/laws.FnLinkUsed", spec := "fnLinkUsed", unfollowed := true, recurses := true, apart := false, narrowed := true }
def FnLinkUsedUptoSaid : Prop := fnLinkUsedUptoRow.holds Try.pinned (OpenSpec.upto fnLinkUsedSpec)

/-- 'laws.FnNextHops', WHERE WHAT IT READS IS OF BULK AT MOST 1048576: true; the input reads as it did. -/
def fnNextHopsUptoRow : OpenClaim := { program := "ytnndnpckkcgfiaa", sum := "54bc5c701f87e3c5d8203ae64d16ed508a71b948027d91fdfaa5b9f75ea21e99", func := "loop.example/linkstaterouting/laws.FnNextHops", spec := "fnNextHops", unfollowed := true, recurses := true, apart := false, narrowed := true }
def FnNextHopsUptoSaid : Prop := fnNextHopsUptoRow.holds Try.pinned (OpenSpec.upto fnNextHopsSpec)

/-- 'laws.FnPathOnce', WHERE WHAT IT READS IS OF BULK AT MOST 1048576: true; the input reads as it did. -/
def fnPathOnceUptoRow : OpenClaim := { program := "ytnndnpckkcgfiaa", sum := "54bc5c701f87e3c5d8203ae64d16ed508a71b948027d91fdfaa5b9f75ea21e99", func := "loop.example/linkstaterouting/laws.FnPathOnce", spec := "fnPathOnce", unfollowed := true, recurses := true, apart := false, narrowed := true }
def FnPathOnceUptoSaid : Prop := fnPathOnceUptoRow.holds Try.pinned (OpenSpec.upto fnPathOnceSpec)

/-- 'laws.FnPath', WHERE WHAT IT READS IS OF BULK AT MOST 1048576: true; the input reads as it did. -/
def fnPathUptoRow : OpenClaim := { program := "ytnndnpckkcgfiaa", sum := "54bc5c701f87e3c5d8203ae64d16ed508a71b948027d91fdfaa5b9f75ea21e99", func := "loop.example/linkstaterouting/laws.FnPath", spec := "fnPath", unfollowed := true, recurses := true, apart := false, narrowed := true }
def FnPathUptoSaid : Prop := fnPathUptoRow.holds Try.pinned (OpenSpec.upto fnPathSpec)

/-- 'laws.FnPathBack', WHERE WHAT IT READS IS OF BULK AT MOST 1048576: true; the input reads as it did. -/
def fnPathBackUptoRow : OpenClaim := { program := "ytnndnpckkcgfiaa", sum := "54bc5c701f87e3c5d8203ae64d16ed508a71b948027d91fdfaa5b9f75ea21e99", func := "loop.example/linkstaterouting/laws.FnPathBack", spec := "fnPathBack", unfollowed := true, recurses := true, apart := false, narrowed := true }
def FnPathBackUptoSaid : Prop := fnPathBackUptoRow.holds Try.pinned (OpenSpec.upto fnPathBackSpec)

end Rows
end Go.Proofs.Ytnndnpckkcgfiaa
