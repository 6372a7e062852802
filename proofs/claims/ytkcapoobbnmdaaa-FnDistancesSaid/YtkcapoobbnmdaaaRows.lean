/-
  No cell of these rows narrows 'for every input' (looked for: loops, veiled, ifaces, maps, wideKeys, modest, calm, conditions, laid).
  DERIVED. THE GIVEN ROWS OF THIS SEAT. 12 by the template 'for every input the law returns true; each argument reads behind the call as it read before'; 0 by the template 'total and deterministic' (their statements: YtkcapoobbnmdaaaTotals.lean).
  GIVEN WITH THE SEED: the statements are not yours to turn. If you find one false, say at which input.
  Laid BY PROGRAM, IN A SANDBOX (cutbox-rows.mjs): the forced cells as the released guide's own fill.sh prints them over the translation ca524161cc2ff806… (all of the seat's roots in one cut). By AI agents, Wed Nov 11 2026. No macro, syntax, notation, axiom, sorry.
-/
import Derived.Test.YtkcapoobbnmdaaaChecked
import GoSem.Claim
import GoSem.ClaimJoined
import GoSem.ClaimMapViews
import Derived.JoinedTies
import Derived.KernelRfl
namespace Go.Proofs.Ytkcapoobbnmdaaa
/- THE CELL 'sum', in the pinned program and in every row, IS THE sha256 OF THE DUMP (.gsa) THAT YtkcapoobbnmdaaaProg.lean LOADS. Nothing in Lean hashes anything: it is a label: what it is worth is what the hold of that sum in a sandbox is worth. -/
noncomputable def Try.pinned : Pinned := { name := "ytkcapoobbnmdaaa", sum := "ca524161cc2ff806645d0b82fe99a70d7fe10a8d397e47a357977e4d11f1eae5", checked := Try.checked }
namespace Rows
def none {H : Type} : Left H := { results := [], args := [] }

/-- 'laws.FnLinkUsedPath': WHATEVER THE INPUT: true; the input reads as it did. -/
def fnLinkUsedPathSpec : ChangeSpec := { name := "fnLinkUsedPath", fn := fun _ => fun
  | [d] => { results := [.lit (.bool true)], args := [d] }
  | _ => none }
def fnLinkUsedPathRow : OpenClaim := { program := "ytkcapoobbnmdaaa", sum := "ca524161cc2ff806645d0b82fe99a70d7fe10a8d397e47a357977e4d11f1eae5", func := "loop.example/linkstaterouting/laws.FnLinkUsedPath", spec := "fnLinkUsedPath", unfollowed := true, recurses := true, apart := false }
def FnLinkUsedPathSaid : Prop := fnLinkUsedPathRow.holds Try.pinned (OpenSpec.ofChange fnLinkUsedPathSpec)

/-- ITS FALSE NEIGHBOUR: 'it returns false'. Refute it at one input. -/
def fnLinkUsedPathWrong : ChangeSpec := { name := "fnLinkUsedPath", fn := fun _ => fun
  | [d] => { results := [.lit (.bool false)], args := [d] }
  | _ => none }
def FnLinkUsedPathWrongFalsely : Prop := fnLinkUsedPathRow.holds Try.pinned (OpenSpec.ofChange fnLinkUsedPathWrong)

/-- 'laws.FnExactShortestPath': WHATEVER THE INPUT: true; the input reads as it did. -/
def fnExactShortestPathSpec : ChangeSpec := { name := "fnExactShortestPath", fn := fun _ => fun
  | [d1, d2, d3] => { results := [.lit (.bool true)], args := [d1, d2, d3] }
  | _ => none }
def fnExactShortestPathRow : OpenClaim := { program := "ytkcapoobbnmdaaa", sum := "ca524161cc2ff806645d0b82fe99a70d7fe10a8d397e47a357977e4d11f1eae5", func := "loop.example/linkstaterouting/laws.FnExactShortestPath", spec := "fnExactShortestPath", unfollowed := true, recurses := true, apart := false }
def FnExactShortestPathSaid : Prop := fnExactShortestPathRow.holds Try.pinned (OpenSpec.ofChange fnExactShortestPathSpec)

/-- ITS FALSE NEIGHBOUR: 'it returns false'. Refute it at one input. -/
def fnExactShortestPathWrong : ChangeSpec := { name := "fnExactShortestPath", fn := fun _ => fun
  | [d1, d2, d3] => { results := [.lit (.bool false)], args := [d1, d2, d3] }
  | _ => none }
def FnExactShortestPathWrongFalsely : Prop := fnExactShortestPathRow.holds Try.pinned (OpenSpec.ofChange fnExactShortestPathWrong)

/-- 'laws.FnAffectedUsed': WHATEVER THE INPUT: true; the input reads as it did. -/
def fnAffectedUsedSpec : ChangeSpec := { name := "fnAffectedUsed", fn := fun _ => fun
  | [d] => { results := [.lit (.bool true)], args := [d] }
  | _ => none }
def fnAffectedUsedRow : OpenClaim := { program := "ytkcapoobbnmdaaa", sum := "ca524161cc2ff806645d0b82fe99a70d7fe10a8d397e47a357977e4d11f1eae5", func := "loop.example/linkstaterouting/laws.FnAffectedUsed", spec := "fnAffectedUsed", unfollowed := true, recurses := true, apart := false }
def FnAffectedUsedSaid : Prop := fnAffectedUsedRow.holds Try.pinned (OpenSpec.ofChange fnAffectedUsedSpec)

/-- ITS FALSE NEIGHBOUR: 'it returns false'. Refute it at one input. -/
def fnAffectedUsedWrong : ChangeSpec := { name := "fnAffectedUsed", fn := fun _ => fun
  | [d] => { results := [.lit (.bool false)], args := [d] }
  | _ => none }
def FnAffectedUsedWrongFalsely : Prop := fnAffectedUsedRow.holds Try.pinned (OpenSpec.ofChange fnAffectedUsedWrong)

/-- 'laws.FnNeighboursSum': WHATEVER THE INPUT: true; the input reads as it did. -/
def fnNeighboursSumSpec : ChangeSpec := { name := "fnNeighboursSum", fn := fun _ => fun
  | [d] => { results := [.lit (.bool true)], args := [d] }
  | _ => none }
def fnNeighboursSumRow : OpenClaim := { program := "ytkcapoobbnmdaaa", sum := "ca524161cc2ff806645d0b82fe99a70d7fe10a8d397e47a357977e4d11f1eae5", func := "loop.example/linkstaterouting/laws.FnNeighboursSum", spec := "fnNeighboursSum", recurses := true, apart := false }
def FnNeighboursSumSaid : Prop := fnNeighboursSumRow.holds Try.pinned (OpenSpec.ofChange fnNeighboursSumSpec)

/-- ITS FALSE NEIGHBOUR: 'it returns false'. Refute it at one input. -/
def fnNeighboursSumWrong : ChangeSpec := { name := "fnNeighboursSum", fn := fun _ => fun
  | [d] => { results := [.lit (.bool false)], args := [d] }
  | _ => none }
def FnNeighboursSumWrongFalsely : Prop := fnNeighboursSumRow.holds Try.pinned (OpenSpec.ofChange fnNeighboursSumWrong)

/-- 'laws.FnExactGraphNeighbours': WHATEVER THE INPUT: true; the input reads as it did. -/
def fnExactGraphNeighboursSpec : ChangeSpec := { name := "fnExactGraphNeighbours", fn := fun _ => fun
  | [d1, d2] => { results := [.lit (.bool true)], args := [d1, d2] }
  | _ => none }
def fnExactGraphNeighboursRow : OpenClaim := { program := "ytkcapoobbnmdaaa", sum := "ca524161cc2ff806645d0b82fe99a70d7fe10a8d397e47a357977e4d11f1eae5", func := "loop.example/linkstaterouting/laws.FnExactGraphNeighbours", spec := "fnExactGraphNeighbours", recurses := true, apart := false }
def FnExactGraphNeighboursSaid : Prop := fnExactGraphNeighboursRow.holds Try.pinned (OpenSpec.ofChange fnExactGraphNeighboursSpec)

/-- ITS FALSE NEIGHBOUR: 'it returns false'. Refute it at one input. -/
def fnExactGraphNeighboursWrong : ChangeSpec := { name := "fnExactGraphNeighbours", fn := fun _ => fun
  | [d1, d2] => { results := [.lit (.bool false)], args := [d1, d2] }
  | _ => none }
def FnExactGraphNeighboursWrongFalsely : Prop := fnExactGraphNeighboursRow.holds Try.pinned (OpenSpec.ofChange fnExactGraphNeighboursWrong)

/-- 'laws.FnNeighbours': WHATEVER THE INPUT: true; the input reads as it did. -/
def fnNeighboursSpec : ChangeSpec := { name := "fnNeighbours", fn := fun _ => fun
  | [d] => { results := [.lit (.bool true)], args := [d] }
  | _ => none }
def fnNeighboursRow : OpenClaim := { program := "ytkcapoobbnmdaaa", sum := "ca524161cc2ff806645d0b82fe99a70d7fe10a8d397e47a357977e4d11f1eae5", func := "loop.example/linkstaterouting/laws.FnNeighbours", spec := "fnNeighbours", unfollowed := true, recurses := true, apart := false }
def FnNeighboursSaid : Prop := fnNeighboursRow.holds Try.pinned (OpenSpec.ofChange fnNeighboursSpec)

/-- ITS FALSE NEIGHBOUR: 'it returns false'. Refute it at one input. -/
def fnNeighboursWrong : ChangeSpec := { name := "fnNeighbours", fn := fun _ => fun
  | [d] => { results := [.lit (.bool false)], args := [d] }
  | _ => none }
def FnNeighboursWrongFalsely : Prop := fnNeighboursRow.holds Try.pinned (OpenSpec.ofChange fnNeighboursWrong)

/-- 'laws.FnIsolate': WHATEVER THE INPUT: true; the input reads as it did. -/
def fnIsolateSpec : ChangeSpec := { name := "fnIsolate", fn := fun _ => fun
  | [d] => { results := [.lit (.bool true)], args := [d] }
  | _ => none }
def fnIsolateRow : OpenClaim := { program := "ytkcapoobbnmdaaa", sum := "ca524161cc2ff806645d0b82fe99a70d7fe10a8d397e47a357977e4d11f1eae5", func := "loop.example/linkstaterouting/laws.FnIsolate", spec := "fnIsolate", unfollowed := true, recurses := true, apart := false }
def FnIsolateSaid : Prop := fnIsolateRow.holds Try.pinned (OpenSpec.ofChange fnIsolateSpec)

/-- ITS FALSE NEIGHBOUR: 'it returns false'. Refute it at one input. -/
def fnIsolateWrong : ChangeSpec := { name := "fnIsolate", fn := fun _ => fun
  | [d] => { results := [.lit (.bool false)], args := [d] }
  | _ => none }
def FnIsolateWrongFalsely : Prop := fnIsolateRow.holds Try.pinned (OpenSpec.ofChange fnIsolateWrong)

/-- 'laws.FnDistances': WHATEVER THE INPUT: true; the input reads as it did. -/
def fnDistancesSpec : ChangeSpec := { name := "fnDistances", fn := fun _ => fun
  | [d] => { results := [.lit (.bool true)], args := [d] }
  | _ => none }
def fnDistancesRow : OpenClaim := { program := "ytkcapoobbnmdaaa", sum := "ca524161cc2ff806645d0b82fe99a70d7fe10a8d397e47a357977e4d11f1eae5", func := "loop.example/linkstaterouting/laws.FnDistances", spec := "fnDistances", unfollowed := true, recurses := true, apart := false }
def FnDistancesSaid : Prop := fnDistancesRow.holds Try.pinned (OpenSpec.ofChange fnDistancesSpec)

/-- ITS FALSE NEIGHBOUR: 'it returns false'. Refute it at one input. -/
def fnDistancesWrong : ChangeSpec := { name := "fnDistances", fn := fun _ => fun
  | [d] => { results := [.lit (.bool false)], args := [d] }
  | _ => none }
def FnDistancesWrongFalsely : Prop := fnDistancesRow.holds Try.pinned (OpenSpec.ofChange fnDistancesWrong)

/-- 'laws.FnReach': WHATEVER THE INPUT: true; the input reads as it did. -/
def fnReachSpec : ChangeSpec := { name := "fnReach", fn := fun _ => fun
  | [d] => { results := [.lit (.bool true)], args := [d] }
  | _ => none }
def fnReachRow : OpenClaim := { program := "ytkcapoobbnmdaaa", sum := "ca524161cc2ff806645d0b82fe99a70d7fe10a8d397e47a357977e4d11f1eae5", func := "loop.example/linkstaterouting/laws.FnReach", spec := "fnReach", recurses := true, apart := false }
def FnReachSaid : Prop := fnReachRow.holds Try.pinned (OpenSpec.ofChange fnReachSpec)

/-- ITS FALSE NEIGHBOUR: 'it returns false'. Refute it at one input. -/
def fnReachWrong : ChangeSpec := { name := "fnReach", fn := fun _ => fun
  | [d] => { results := [.lit (.bool false)], args := [d] }
  | _ => none }
def FnReachWrongFalsely : Prop := fnReachRow.holds Try.pinned (OpenSpec.ofChange fnReachWrong)

/-- 'laws.FnExactPathCount': WHATEVER THE INPUT: true; the input reads as it did. -/
def fnExactPathCountSpec : ChangeSpec := { name := "fnExactPathCount", fn := fun _ => fun
  | [d1, d2, d3] => { results := [.lit (.bool true)], args := [d1, d2, d3] }
  | _ => none }
def fnExactPathCountRow : OpenClaim := { program := "ytkcapoobbnmdaaa", sum := "ca524161cc2ff806645d0b82fe99a70d7fe10a8d397e47a357977e4d11f1eae5", func := "loop.example/linkstaterouting/laws.FnExactPathCount", spec := "fnExactPathCount", unfollowed := true, recurses := true, apart := false }
def FnExactPathCountSaid : Prop := fnExactPathCountRow.holds Try.pinned (OpenSpec.ofChange fnExactPathCountSpec)

/-- ITS FALSE NEIGHBOUR: 'it returns false'. Refute it at one input. -/
def fnExactPathCountWrong : ChangeSpec := { name := "fnExactPathCount", fn := fun _ => fun
  | [d1, d2, d3] => { results := [.lit (.bool false)], args := [d1, d2, d3] }
  | _ => none }
def FnExactPathCountWrongFalsely : Prop := fnExactPathCountRow.holds Try.pinned (OpenSpec.ofChange fnExactPathCountWrong)

/-- 'laws.FnNextHopsNone': WHATEVER THE INPUT: true; the input reads as it did. -/
def fnNextHopsNoneSpec : ChangeSpec := { name := "fnNextHopsNone", fn := fun _ => fun
  | [d] => { results := [.lit (.bool true)], args := [d] }
  | _ => none }
def fnNextHopsNoneRow : OpenClaim := { program := "ytkcapoobbnmdaaa", sum := "ca524161cc2ff806645d0b82fe99a70d7fe10a8d397e47a357977e4d11f1eae5", func := "loop.example/linkstaterouting/laws.FnNextHopsNone", spec := "fnNextHopsNone", unfollowed := true, recurses := true, apart := false }
def FnNextHopsNoneSaid : Prop := fnNextHopsNoneRow.holds Try.pinned (OpenSpec.ofChange fnNextHopsNoneSpec)

/-- ITS FALSE NEIGHBOUR: 'it returns false'. Refute it at one input. -/
def fnNextHopsNoneWrong : ChangeSpec := { name := "fnNextHopsNone", fn := fun _ => fun
  | [d] => { results := [.lit (.bool false)], args := [d] }
  | _ => none }
def FnNextHopsNoneWrongFalsely : Prop := fnNextHopsNoneRow.holds Try.pinned (OpenSpec.ofChange fnNextHopsNoneWrong)

/-- 'laws.FnCountBack': WHATEVER THE INPUT: true; the input reads as it did. -/
def fnCountBackSpec : ChangeSpec := { name := "fnCountBack", fn := fun _ => fun
  | [d] => { results := [.lit (.bool true)], args := [d] }
  | _ => none }
def fnCountBackRow : OpenClaim := { program := "ytkcapoobbnmdaaa", sum := "ca524161cc2ff806645d0b82fe99a70d7fe10a8d397e47a357977e4d11f1eae5", func := "loop.example/linkstaterouting/laws.FnCountBack", spec := "fnCountBack", unfollowed := true, recurses := true, apart := false }
def FnCountBackSaid : Prop := fnCountBackRow.holds Try.pinned (OpenSpec.ofChange fnCountBackSpec)

/-- ITS FALSE NEIGHBOUR: 'it returns false'. Refute it at one input. -/
def fnCountBackWrong : ChangeSpec := { name := "fnCountBack", fn := fun _ => fun
  | [d] => { results := [.lit (.bool false)], args := [d] }
  | _ => none }
def FnCountBackWrongFalsely : Prop := fnCountBackRow.holds Try.pinned (OpenSpec.ofChange fnCountBackWrong)

/- THE SECOND FORM. 'bulk': how many values and letters a reading holds, each counted each time it is reached (what is shared counts as often as it is met; a slice's spare places count too). A statement '..UptoSaid' is the law's where the arguments, and the package variables that the reading takes, are together of bulk at most 1048576: NARROWER than '..Said'. Prove '..Said' where nothing that the law and all that it calls make is longer than what came in: it says more and counts as full. Else prove '..UptoSaid'. A law counts once. -/
mutual
def uptoBulk {H : Type} : DataW H → Nat
  | .lit (.string bytes) => bytes.length + 1
  | .lit _ => 1
  | .nil => 1
  | .ptr d => uptoBulk d + 1
  | .slice elems spare => uptoBulkAll elems + uptoBulkAll spare + 1
  | .agg parts => uptoBulkAll parts + 1
  | .iface _ d => uptoBulk d + 1
  | .map entries => uptoBulkEntries entries + 1
  | .held _ => 1
def uptoBulkAll {H : Type} : List (DataW H) → Nat
  | [] => 0
  | d :: r => uptoBulk d + uptoBulkAll r
def uptoBulkEntries {H : Type} : List (Lit × DataW H) → Nat
  | [] => 0
  | x :: r => uptoBulkEntry x + uptoBulkEntries r
def uptoBulkEntry {H : Type} : Lit × DataW H → Nat
  | (.string bytes, d) => bytes.length + uptoBulk d + 1
  | (_, d) => uptoBulk d + 1
 end
def uptoSmall : (H : Type) → List (DataW H) → Bool := fun _ ds => decide (uptoBulkAll ds ≤ 1048576)
def OpenSpec.upto (s : _root_.Go.ChangeSpec) : _root_.Go.OpenSpec := { _root_.Go.OpenSpec.ofChange s with cond := some uptoSmall }

/-- 'laws.FnLinkUsedPath', WHERE WHAT IT READS IS OF BULK AT MOST 1048576: true; the input reads as it did. -/
def fnLinkUsedPathUptoRow : OpenClaim := { program := "ytkcapoobbnmdaaa", sum := "ca524161cc2ff806645d0b82fe99a70d7fe10a8d397e47a357977e4d11f1eae5", func := "loop.example/linkstaterouting/laws.FnLinkUsedPath", spec := "fnLinkUsedPath", unfollowed := true, recurses := true, apart := false, narrowed := true }
def FnLinkUsedPathUptoSaid : Prop := fnLinkUsedPathUptoRow.holds Try.pinned (OpenSpec.upto fnLinkUsedPathSpec)

/-- 'laws.FnExactShortestPath', WHERE WHAT IT READS IS OF BULK AT MOST 1048576: true; the input reads as it did. -/
def fnExactShortestPathUptoRow : OpenClaim := { program := "ytkcapoobbnmdaaa", sum := "ca524161cc2ff806645d0b82fe99a70d7fe10a8d397e47a357977e4d11f1eae5", func := "loop.example/linkstaterouting/laws.FnExactShortestPath", spec := "fnExactShortestPath", unfollowed := true, recurses := true, apart := false, narrowed := true }
def FnExactShortestPathUptoSaid : Prop := fnExactShortestPathUptoRow.holds Try.pinned (OpenSpec.upto fnExactShortestPathSpec)

/-- 'laws.FnAffectedUsed', WHERE WHAT IT READS IS OF BULK AT MOST 1048576: true; the input reads as it did. -/
def fnAffectedUsedUptoRow : OpenClaim := { program := "ytkcapoobbnmdaaa", sum := "ca524161cc2ff806645d0b82fe99a70d7fe10a8d397e47a357977e4d11f1eae5", func := "loop.example/linkstaterouting/laws.FnAffectedUsed", spec := "fnAffectedUsed", unfollowed := true, recurses := true, apart := false, narrowed := true }
def FnAffectedUsedUptoSaid : Prop := fnAffectedUsedUptoRow.holds Try.pinned (OpenSpec.upto fnAffectedUsedSpec)

/-- 'laws.FnNeighboursSum', WHERE WHAT IT READS IS OF BULK AT MOST 1048576: true; the input reads as it did. -/
def fnNeighboursSumUptoRow : OpenClaim := { program := "ytkcapoobbnmdaaa", sum := "ca524161cc2ff806645d0b82fe99a70d7fe10a8d397e47a357977e4d11f1eae5", func := "loop.example/linkstaterouting/laws.FnNeighboursSum", spec := "fnNeighboursSum", recurses := true, apart := false, narrowed := true }
def FnNeighboursSumUptoSaid : Prop := fnNeighboursSumUptoRow.holds Try.pinned (OpenSpec.upto fnNeighboursSumSpec)

/-- 'laws.FnExactGraphNeighbours', WHERE WHAT IT READS IS OF BULK AT MOST 1048576: true; the input reads as it did. -/
def fnExactGraphNeighboursUptoRow : OpenClaim := { program := "ytkcapoobbnmdaaa", sum := "ca524161cc2ff806645d0b82fe99a70d7fe10a8d397e47a357977e4d11f1eae5", func := "loop.example/linkstaterouting/laws.FnExactGraphNeighbours", spec := "fnExactGraphNeighbours", recurses := true, apart := false, narrowed := true }
def FnExactGraphNeighboursUptoSaid : Prop := fnExactGraphNeighboursUptoRow.holds Try.pinned (OpenSpec.upto fnExactGraphNeighboursSpec)

/-- 'laws.FnNeighbours', WHERE WHAT IT READS IS OF BULK AT MOST 1048576: true; the input reads as it did. -/
def fnNeighboursUptoRow : OpenClaim := { program := "ytkcapoobbnmdaaa", sum := "ca524161cc2ff806645d0b82fe99a70d7fe10a8d397e47a357977e4d11f1eae5", func := "loop.example/linkstaterouting/laws.FnNeighbours", spec := "fnNeighbours", unfollowed := true, recurses := true, apart := false, narrowed := true }
def FnNeighboursUptoSaid : Prop := fnNeighboursUptoRow.holds Try.pinned (OpenSpec.upto fnNeighboursSpec)

/-- 'laws.FnIsolate', WHERE WHAT IT READS IS OF BULK AT MOST 1048576: true; the input reads as it did. -/
def fnIsolateUptoRow : OpenClaim := { program := "ytkcapoobbnmdaaa", sum := "ca524161cc2ff806645d0b82fe99a70d7fe10a8d397e47a357977e4d11f1eae5", func := "loop.example/linkstaterouting/laws.FnIsolate", spec := "fnIsolate", unfollowed := true, recurses := true, apart := false, narrowed := true }
def FnIsolateUptoSaid : Prop := fnIsolateUptoRow.holds Try.pinned (OpenSpec.upto fnIsolateSpec)

/-- 'laws.FnDistances', WHERE WHAT IT READS IS OF BULK AT MOST 1048576: true; the input reads as it did. -/
def fnDistancesUptoRow : OpenClaim := { program := "ytkcapoobbnmdaaa", sum := "ca524161cc2ff806645d0b82fe99a70d7fe10a8d397e47a357977e4d11f1eae5", func := "loop.example/linkstaterouting/laws.FnDistances", spec := "fnDistances", unfollowed := true, recurses := true, apart := false, narrowed := true }
def FnDistancesUptoSaid : Prop := fnDistancesUptoRow.holds Try.pinned (OpenSpec.upto fnDistancesSpec)

/-- 'laws.FnReach', WHERE WHAT IT READS IS OF BULK AT MOST 1048576: true; the input reads as it did. -/
def fnReachUptoRow : OpenClaim := { program := "ytkcapoobbnmdaaa", sum := "ca524161cc2ff806645d0b82fe99a70d7fe10a8d397e47a357977e4d11f1eae5", func := "loop.example/linkstaterouting/laws.FnReach", spec := "fnReach", recurses := true, apart := false, narrowed := true }
def FnReachUptoSaid : Prop := fnReachUptoRow.holds Try.pinned (OpenSpec.upto fnReachSpec)

/-- 'laws.FnExactPathCount', WHERE WHAT IT READS IS OF BULK AT MOST 1048576: true; the input reads as it did. -/
def fnExactPathCountUptoRow : OpenClaim := { program := "ytkcapoobbnmdaaa", sum := "ca524161cc2ff806645d0b82fe99a70d7fe10a8d397e47a357977e4d11f1eae5", func := "loop.example/linkstaterouting/laws.FnExactPathCount", spec := "fnExactPathCount", unfollowed := true, recurses := true, apart := false, narrowed := true }
def FnExactPathCountUptoSaid : Prop := fnExactPathCountUptoRow.holds Try.pinned (OpenSpec.upto fnExactPathCountSpec)

/-- 'laws.FnNextHopsNone', WHERE WHAT IT READS IS OF BULK AT MOST 1048576: true; the input reads as it did. -/
def fnNextHopsNoneUptoRow : OpenClaim := { program := "ytkcapoobbnmdaaa", sum := "ca524161cc2ff806645d0b82fe99a70d7fe10a8d397e47a357977e4d11f1eae5", func := "loop.example/linkstaterouting/laws.FnNextHopsNone", spec := "fnNextHopsNone", unfollowed := true, recurses := true, apart := false, narrowed := true }
def FnNextHopsNoneUptoSaid : Prop := fnNextHopsNoneUptoRow.holds Try.pinned (OpenSpec.upto fnNextHopsNoneSpec)

/-- 'laws.FnCountBack', WHERE WHAT IT READS IS OF BULK AT MOST 1048576: true; the input reads as it did. -/
def fnCountBackUptoRow : OpenClaim := { program := "ytkcapoobbnmdaaa", sum := "ca524161cc2ff806645d0b82fe99a70d7fe10a8d397e47a357977e4d11f1eae5", func := "loop.example/linkstaterouting/laws.FnCountBack", spec := "fnCountBack", unfollowed := true, recurses := true, apart := false, narrowed := true }
def FnCountBackUptoSaid : Prop := fnCountBackUptoRow.holds Try.pinned (OpenSpec.upto fnCountBackSpec)

end Rows
end Go.Proofs.Ytkcapoobbnmdaaa
