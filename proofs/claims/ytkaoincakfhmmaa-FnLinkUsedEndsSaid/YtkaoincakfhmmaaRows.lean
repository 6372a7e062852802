/-
  No cell of these rows narrows 'for every input' (looked for: loops, veiled, ifaces, maps, wideKeys, modest, calm, conditions, laid).
  DERIVED. THE GIVEN ROWS OF THIS SEAT. 14 by the template 'for every input the law returns true; each argument reads behind the call as it read before'; 0 by the template 'total and deterministic' (their statements: YtkaoincakfhmmaaTotals.lean).
  GIVEN WITH THE SEED: the statements are not yours to turn. If you find one false, say at which input.
  Laid BY PROGRAM, IN A SANDBOX (cutbox-rows.mjs): the forced cells as the released guide's own fill.sh prints them over the translation f407d467f1638560… (all of the seat's roots in one cut). By AI agents, Wed Nov 11 2026. No macro, syntax, notation, axiom, sorry.
-/
import Derived.Test.YtkaoincakfhmmaaChecked
import GoSem.Claim
import GoSem.ClaimJoined
import GoSem.ClaimMapViews
import Derived.JoinedTies
import Derived.KernelRfl
namespace Go.Proofs.Ytkaoincakfhmmaa
/- THE CELL 'sum', in the pinned program and in every row, IS THE sha256 OF THE DUMP (.gsa) THAT YtkaoincakfhmmaaProg.lean LOADS. Nothing in Lean hashes anything: it is a label: what it is worth is what the hold of that sum in a sandbox is worth. -/
noncomputable def Try.pinned : Pinned := { name := "ytkaoincakfhmmaa", sum := "f407d467f163856042edc40806aace23f4f4ecf55dbebe08380010c81263fb6a", checked := Try.checked }
namespace Rows
def none {H : Type} : Left H := { results := [], args := [] }

/-- 'laws.FnDistancesBack': WHATEVER THE INPUT: true; the input reads as it did. -/
def fnDistancesBackSpec : ChangeSpec := { name := "fnDistancesBack", fn := fun _ => fun
  | [d1, d2] => { results := [.lit (.bool true)], args := [d1, d2] }
  | _ => none }
def fnDistancesBackRow : OpenClaim := { program := "ytkaoincakfhmmaa", sum := "f407d467f163856042edc40806aace23f4f4ecf55dbebe08380010c81263fb6a", func := "loop.example/linkstaterouting/laws.FnDistancesBack", spec := "fnDistancesBack", apart := false }
def FnDistancesBackSaid : Prop := fnDistancesBackRow.holds Try.pinned (OpenSpec.ofChange fnDistancesBackSpec)

/-- ITS FALSE NEIGHBOUR: 'it returns false'. Refute it at one input. -/
def fnDistancesBackWrong : ChangeSpec := { name := "fnDistancesBack", fn := fun _ => fun
  | [d1, d2] => { results := [.lit (.bool false)], args := [d1, d2] }
  | _ => none }
def FnDistancesBackWrongFalsely : Prop := fnDistancesBackRow.holds Try.pinned (OpenSpec.ofChange fnDistancesBackWrong)

/-- 'laws.FnDistancesThree': WHATEVER THE INPUT: true; the input reads as it did. -/
def fnDistancesThreeSpec : ChangeSpec := { name := "fnDistancesThree", fn := fun _ => fun
  | [d1, d2] => { results := [.lit (.bool true)], args := [d1, d2] }
  | _ => none }
def fnDistancesThreeRow : OpenClaim := { program := "ytkaoincakfhmmaa", sum := "f407d467f163856042edc40806aace23f4f4ecf55dbebe08380010c81263fb6a", func := "loop.example/linkstaterouting/laws.FnDistancesThree", spec := "fnDistancesThree", apart := false }
def FnDistancesThreeSaid : Prop := fnDistancesThreeRow.holds Try.pinned (OpenSpec.ofChange fnDistancesThreeSpec)

/-- ITS FALSE NEIGHBOUR: 'it returns false'. Refute it at one input. -/
def fnDistancesThreeWrong : ChangeSpec := { name := "fnDistancesThree", fn := fun _ => fun
  | [d1, d2] => { results := [.lit (.bool false)], args := [d1, d2] }
  | _ => none }
def FnDistancesThreeWrongFalsely : Prop := fnDistancesThreeRow.holds Try.pinned (OpenSpec.ofChange fnDistancesThreeWrong)

/-- 'laws.FnNodeUsed': WHATEVER THE INPUT: true; the input reads as it did. -/
def fnNodeUsedSpec : ChangeSpec := { name := "fnNodeUsed", fn := fun _ => fun
  | [d] => { results := [.lit (.bool true)], args := [d] }
  | _ => none }
def fnNodeUsedRow : OpenClaim := { program := "ytkaoincakfhmmaa", sum := "f407d467f163856042edc40806aace23f4f4ecf55dbebe08380010c81263fb6a", func := "loop.example/linkstaterouting/laws.FnNodeUsed", spec := "fnNodeUsed", apart := false }
def FnNodeUsedSaid : Prop := fnNodeUsedRow.holds Try.pinned (OpenSpec.ofChange fnNodeUsedSpec)

/-- ITS FALSE NEIGHBOUR: 'it returns false'. Refute it at one input. -/
def fnNodeUsedWrong : ChangeSpec := { name := "fnNodeUsed", fn := fun _ => fun
  | [d] => { results := [.lit (.bool false)], args := [d] }
  | _ => none }
def FnNodeUsedWrongFalsely : Prop := fnNodeUsedRow.holds Try.pinned (OpenSpec.ofChange fnNodeUsedWrong)

/-- 'laws.FnExactLinkUsed': WHATEVER THE INPUT: true; the input reads as it did. -/
def fnExactLinkUsedSpec : ChangeSpec := { name := "fnExactLinkUsed", fn := fun _ => fun
  | [d1, d2, d3, d4] => { results := [.lit (.bool true)], args := [d1, d2, d3, d4] }
  | _ => none }
def fnExactLinkUsedRow : OpenClaim := { program := "ytkaoincakfhmmaa", sum := "f407d467f163856042edc40806aace23f4f4ecf55dbebe08380010c81263fb6a", func := "loop.example/linkstaterouting/laws.FnExactLinkUsed", spec := "fnExactLinkUsed", apart := false }
def FnExactLinkUsedSaid : Prop := fnExactLinkUsedRow.holds Try.pinned (OpenSpec.ofChange fnExactLinkUsedSpec)

/-- ITS FALSE NEIGHBOUR: 'it returns false'. Refute it at one input. -/
def fnExactLinkUsedWrong : ChangeSpec := { name := "fnExactLinkUsed", fn := fun _ => fun
  | [d1, d2, d3, d4] => { results := [.lit (.bool false)], args := [d1, d2, d3, d4] }
  | _ => none }
def FnExactLinkUsedWrongFalsely : Prop := fnExactLinkUsedRow.holds Try.pinned (OpenSpec.ofChange fnExactLinkUsedWrong)

/-- 'laws.FnReachSame': WHATEVER THE INPUT: true; the input reads as it did. -/
def fnReachSameSpec : ChangeSpec := { name := "fnReachSame", fn := fun _ => fun
  | [d1, d2] => { results := [.lit (.bool true)], args := [d1, d2] }
  | _ => none }
def fnReachSameRow : OpenClaim := { program := "ytkaoincakfhmmaa", sum := "f407d467f163856042edc40806aace23f4f4ecf55dbebe08380010c81263fb6a", func := "loop.example/linkstaterouting/laws.FnReachSame", spec := "fnReachSame", apart := false }
def FnReachSameSaid : Prop := fnReachSameRow.holds Try.pinned (OpenSpec.ofChange fnReachSameSpec)

/-- ITS FALSE NEIGHBOUR: 'it returns false'. Refute it at one input. -/
def fnReachSameWrong : ChangeSpec := { name := "fnReachSame", fn := fun _ => fun
  | [d1, d2] => { results := [.lit (.bool false)], args := [d1, d2] }
  | _ => none }
def FnReachSameWrongFalsely : Prop := fnReachSameRow.holds Try.pinned (OpenSpec.ofChange fnReachSameWrong)

/-- 'laws.FnCriticalFew': WHATEVER THE INPUT: true; the input reads as it did. -/
def fnCriticalFewSpec : ChangeSpec := { name := "fnCriticalFew", fn := fun _ => fun
  | [d] => { results := [.lit (.bool true)], args := [d] }
  | _ => none }
def fnCriticalFewRow : OpenClaim := { program := "ytkaoincakfhmmaa", sum := "f407d467f163856042edc40806aace23f4f4ecf55dbebe08380010c81263fb6a", func := "loop.example/linkstaterouting/laws.FnCriticalFew", spec := "fnCriticalFew", unfollowed := true, recurses := true, apart := false }
def FnCriticalFewSaid : Prop := fnCriticalFewRow.holds Try.pinned (OpenSpec.ofChange fnCriticalFewSpec)

/-- ITS FALSE NEIGHBOUR: 'it returns false'. Refute it at one input. -/
def fnCriticalFewWrong : ChangeSpec := { name := "fnCriticalFew", fn := fun _ => fun
  | [d] => { results := [.lit (.bool false)], args := [d] }
  | _ => none }
def FnCriticalFewWrongFalsely : Prop := fnCriticalFewRow.holds Try.pinned (OpenSpec.ofChange fnCriticalFewWrong)

/-- 'laws.FnLinkUsedBack': WHATEVER THE INPUT: true; the input reads as it did. -/
def fnLinkUsedBackSpec : ChangeSpec := { name := "fnLinkUsedBack", fn := fun _ => fun
  | [d] => { results := [.lit (.bool true)], args := [d] }
  | _ => none }
def fnLinkUsedBackRow : OpenClaim := { program := "ytkaoincakfhmmaa", sum := "f407d467f163856042edc40806aace23f4f4ecf55dbebe08380010c81263fb6a", func := "loop.example/linkstaterouting/laws.FnLinkUsedBack", spec := "fnLinkUsedBack", apart := false }
def FnLinkUsedBackSaid : Prop := fnLinkUsedBackRow.holds Try.pinned (OpenSpec.ofChange fnLinkUsedBackSpec)

/-- ITS FALSE NEIGHBOUR: 'it returns false'. Refute it at one input. -/
def fnLinkUsedBackWrong : ChangeSpec := { name := "fnLinkUsedBack", fn := fun _ => fun
  | [d] => { results := [.lit (.bool false)], args := [d] }
  | _ => none }
def FnLinkUsedBackWrongFalsely : Prop := fnLinkUsedBackRow.holds Try.pinned (OpenSpec.ofChange fnLinkUsedBackWrong)

/-- 'laws.FnDistancesWorse': WHATEVER THE INPUT: true; the input reads as it did. -/
def fnDistancesWorseSpec : ChangeSpec := { name := "fnDistancesWorse", fn := fun _ => fun
  | [d1, d2] => { results := [.lit (.bool true)], args := [d1, d2] }
  | _ => none }
def fnDistancesWorseRow : OpenClaim := { program := "ytkaoincakfhmmaa", sum := "f407d467f163856042edc40806aace23f4f4ecf55dbebe08380010c81263fb6a", func := "loop.example/linkstaterouting/laws.FnDistancesWorse", spec := "fnDistancesWorse", unfollowed := true, recurses := true, apart := false }
def FnDistancesWorseSaid : Prop := fnDistancesWorseRow.holds Try.pinned (OpenSpec.ofChange fnDistancesWorseSpec)

/-- ITS FALSE NEIGHBOUR: 'it returns false'. Refute it at one input. -/
def fnDistancesWorseWrong : ChangeSpec := { name := "fnDistancesWorse", fn := fun _ => fun
  | [d1, d2] => { results := [.lit (.bool false)], args := [d1, d2] }
  | _ => none }
def FnDistancesWorseWrongFalsely : Prop := fnDistancesWorseRow.holds Try.pinned (OpenSpec.ofChange fnDistancesWorseWrong)

/-- 'laws.FnLinkUsedEnds': WHATEVER THE INPUT: true; the input reads as it did. -/
def fnLinkUsedEndsSpec : ChangeSpec := { name := "fnLinkUsedEnds", fn := fun _ => fun
  | [d1, d2] => { results := [.lit (.bool true)], args := [d1, d2] }
  | _ => none }
def fnLinkUsedEndsRow : OpenClaim := { program := "ytkaoincakfhmmaa", sum := "f407d467f163856042edc40806aace23f4f4ecf55dbebe08380010c81263fb6a", func := "loop.example/linkstaterouting/laws.FnLinkUsedEnds", spec := "fnLinkUsedEnds", apart := false }
def FnLinkUsedEndsSaid : Prop := fnLinkUsedEndsRow.holds Try.pinned (OpenSpec.ofChange fnLinkUsedEndsSpec)

/-- ITS FALSE NEIGHBOUR: 'it returns false'. Refute it at one input. -/
def fnLinkUsedEndsWrong : ChangeSpec := { name := "fnLinkUsedEnds", fn := fun _ => fun
  | [d1, d2] => { results := [.lit (.bool false)], args := [d1, d2] }
  | _ => none }
def FnLinkUsedEndsWrongFalsely : Prop := fnLinkUsedEndsRow.holds Try.pinned (OpenSpec.ofChange fnLinkUsedEndsWrong)

/-- 'laws.FnIsolateReach': WHATEVER THE INPUT: true; the input reads as it did. -/
def fnIsolateReachSpec : ChangeSpec := { name := "fnIsolateReach", fn := fun _ => fun
  | [d] => { results := [.lit (.bool true)], args := [d] }
  | _ => none }
def fnIsolateReachRow : OpenClaim := { program := "ytkaoincakfhmmaa", sum := "f407d467f163856042edc40806aace23f4f4ecf55dbebe08380010c81263fb6a", func := "loop.example/linkstaterouting/laws.FnIsolateReach", spec := "fnIsolateReach", unfollowed := true, recurses := true, apart := false }
def FnIsolateReachSaid : Prop := fnIsolateReachRow.holds Try.pinned (OpenSpec.ofChange fnIsolateReachSpec)

/-- ITS FALSE NEIGHBOUR: 'it returns false'. Refute it at one input. -/
def fnIsolateReachWrong : ChangeSpec := { name := "fnIsolateReach", fn := fun _ => fun
  | [d] => { results := [.lit (.bool false)], args := [d] }
  | _ => none }
def FnIsolateReachWrongFalsely : Prop := fnIsolateReachRow.holds Try.pinned (OpenSpec.ofChange fnIsolateReachWrong)

/-- 'laws.FnDistancesReach': WHATEVER THE INPUT: true; the input reads as it did. -/
def fnDistancesReachSpec : ChangeSpec := { name := "fnDistancesReach", fn := fun _ => fun
  | [d] => { results := [.lit (.bool true)], args := [d] }
  | _ => none }
def fnDistancesReachRow : OpenClaim := { program := "ytkaoincakfhmmaa", sum := "f407d467f163856042edc40806aace23f4f4ecf55dbebe08380010c81263fb6a", func := "loop.example/linkstaterouting/laws.FnDistancesReach", spec := "fnDistancesReach", apart := false }
def FnDistancesReachSaid : Prop := fnDistancesReachRow.holds Try.pinned (OpenSpec.ofChange fnDistancesReachSpec)

/-- ITS FALSE NEIGHBOUR: 'it returns false'. Refute it at one input. -/
def fnDistancesReachWrong : ChangeSpec := { name := "fnDistancesReach", fn := fun _ => fun
  | [d] => { results := [.lit (.bool false)], args := [d] }
  | _ => none }
def FnDistancesReachWrongFalsely : Prop := fnDistancesReachRow.holds Try.pinned (OpenSpec.ofChange fnDistancesReachWrong)

/-- 'laws.FnExactDistances': WHATEVER THE INPUT: true; the input reads as it did. -/
def fnExactDistancesSpec : ChangeSpec := { name := "fnExactDistances", fn := fun _ => fun
  | [d1, d2] => { results := [.lit (.bool true)], args := [d1, d2] }
  | _ => none }
def fnExactDistancesRow : OpenClaim := { program := "ytkaoincakfhmmaa", sum := "f407d467f163856042edc40806aace23f4f4ecf55dbebe08380010c81263fb6a", func := "loop.example/linkstaterouting/laws.FnExactDistances", spec := "fnExactDistances", apart := false }
def FnExactDistancesSaid : Prop := fnExactDistancesRow.holds Try.pinned (OpenSpec.ofChange fnExactDistancesSpec)

/-- ITS FALSE NEIGHBOUR: 'it returns false'. Refute it at one input. -/
def fnExactDistancesWrong : ChangeSpec := { name := "fnExactDistances", fn := fun _ => fun
  | [d1, d2] => { results := [.lit (.bool false)], args := [d1, d2] }
  | _ => none }
def FnExactDistancesWrongFalsely : Prop := fnExactDistancesRow.holds Try.pinned (OpenSpec.ofChange fnExactDistancesWrong)

/-- 'laws.FnReachFewer': WHATEVER THE INPUT: true; the input reads as it did. -/
def fnReachFewerSpec : ChangeSpec := { name := "fnReachFewer", fn := fun _ => fun
  | [d1, d2] => { results := [.lit (.bool true)], args := [d1, d2] }
  | _ => none }
def fnReachFewerRow : OpenClaim := { program := "ytkaoincakfhmmaa", sum := "f407d467f163856042edc40806aace23f4f4ecf55dbebe08380010c81263fb6a", func := "loop.example/linkstaterouting/laws.FnReachFewer", spec := "fnReachFewer", unfollowed := true, recurses := true, apart := false }
def FnReachFewerSaid : Prop := fnReachFewerRow.holds Try.pinned (OpenSpec.ofChange fnReachFewerSpec)

/-- ITS FALSE NEIGHBOUR: 'it returns false'. Refute it at one input. -/
def fnReachFewerWrong : ChangeSpec := { name := "fnReachFewer", fn := fun _ => fun
  | [d1, d2] => { results := [.lit (.bool false)], args := [d1, d2] }
  | _ => none }
def FnReachFewerWrongFalsely : Prop := fnReachFewerRow.holds Try.pinned (OpenSpec.ofChange fnReachFewerWrong)

/-- 'laws.FnCriticalLess': WHATEVER THE INPUT: true; the input reads as it did. -/
def fnCriticalLessSpec : ChangeSpec := { name := "fnCriticalLess", fn := fun _ => fun
  | [d1, d2] => { results := [.lit (.bool true)], args := [d1, d2] }
  | _ => none }
def fnCriticalLessRow : OpenClaim := { program := "ytkaoincakfhmmaa", sum := "f407d467f163856042edc40806aace23f4f4ecf55dbebe08380010c81263fb6a", func := "loop.example/linkstaterouting/laws.FnCriticalLess", spec := "fnCriticalLess", unfollowed := true, recurses := true, apart := false }
def FnCriticalLessSaid : Prop := fnCriticalLessRow.holds Try.pinned (OpenSpec.ofChange fnCriticalLessSpec)

/-- ITS FALSE NEIGHBOUR: 'it returns false'. Refute it at one input. -/
def fnCriticalLessWrong : ChangeSpec := { name := "fnCriticalLess", fn := fun _ => fun
  | [d1, d2] => { results := [.lit (.bool false)], args := [d1, d2] }
  | _ => none }
def FnCriticalLessWrongFalsely : Prop := fnCriticalLessRow.holds Try.pinned (OpenSpec.ofChange fnCriticalLessWrong)

/- THE SECOND FORM. 'bulk': how many values and letters a reading holds, each counted each time it is reached (what is shared counts as often as it is met; a slice's spare places count too). A statement '..UptoSaid' is the law's where the arguments, and the package variables that the reading takes, are together of bulk at most 1048576: NARROWER than '..Said'. Prove '..Said' where nothing that the law and all that it calls make is longer than what came in: it says more and counts as full. Else prove '..UptoSaid'. A law counts once. -/
mutual
def uptoBulk {H : Type} : DataW H → Nat
  | .lit (.string bytes) => bytes.length + 1
  | .lit _ => 1
  | .nil => 1
  | .ptr d => uptoBulk d + 1
  | .slice elems spare => uptoBulkAll elems + uptoBulkAll spare + 1
  | .agg parts => uptoBulkAll parts + 1
  | .iface _ d => uptoBulk d + 1
  | .map entries => uptoBulkEntries entries + 1
  | .held _ => 1
def uptoBulkAll {H : Type} : List (DataW H) → Nat
  | [] => 0
  | d :: r => uptoBulk d + uptoBulkAll r
def uptoBulkEntries {H : Type} : List (Lit × DataW H) → Nat
  | [] => 0
  | x :: r => uptoBulkEntry x + uptoBulkEntries r
def uptoBulkEntry {H : Type} : Lit × DataW H → Nat
  | (.string bytes, d) => bytes.length + uptoBulk d + 1
  | (_, d) => uptoBulk d + 1
 end
def uptoSmall : (H : Type) → List (DataW H) → Bool := fun _ ds => decide (uptoBulkAll ds ≤ 1048576)
def OpenSpec.upto (s : _root_.Go.ChangeSpec) : _root_.Go.OpenSpec := { _root_.Go.OpenSpec.ofChange s with cond := some uptoSmall }

/-- 'laws.FnDistancesBack', WHERE WHAT IT READS IS OF BULK AT MOST 1048576: true; the input reads as it did. -/
def fnDistancesBackUptoRow : OpenClaim := { program := "ytkaoincakfhmmaa", sum := "f407d467f163856042edc40806aace23f4f4ecf55dbebe08380010c81263fb6a", func := "loop.example/linkstaterouting/laws.FnDistancesBack", spec := "fnDistancesBack", apart := false, narrowed := true }
def FnDistancesBackUptoSaid : Prop := fnDistancesBackUptoRow.holds Try.pinned (OpenSpec.upto fnDistancesBackSpec)

/-- 'laws.FnDistancesThree', WHERE WHAT IT READS IS OF BULK AT MOST 1048576: true; the input reads as it did. -/
def fnDistancesThreeUptoRow : OpenClaim := { program := "ytkaoincakfhmmaa", sum := "f407d467f163856042edc40806aace23f4f4ecf55dbebe08380010c81263fb6a", func := "loop.example/linkstaterouting/laws.FnDistancesThree", spec := "fnDistancesThree", apart := false, narrowed := true }
def FnDistancesThreeUptoSaid : Prop := fnDistancesThreeUptoRow.holds Try.pinned (OpenSpec.upto fnDistancesThreeSpec)

/-- 'laws.FnNodeUsed', WHERE WHAT IT READS IS OF BULK AT MOST 1048576: true; the input reads as it did. -/
def fnNodeUsedUptoRow : OpenClaim := { program := "ytkaoincakfhmmaa", sum := "f407d467f163856042edc40806aace23f4f4ecf55dbebe08380010c81263fb6a", func := "loop.example/linkstaterouting/laws.FnNodeUsed", spec := "fnNodeUsed", apart := false, narrowed := true }
def FnNodeUsedUptoSaid : Prop := fnNodeUsedUptoRow.holds Try.pinned (OpenSpec.upto fnNodeUsedSpec)

/-- 'laws.FnExactLinkUsed', WHERE WHAT IT READS IS OF BULK AT MOST 1048576: true; the input reads as it did. -/
def fnExactLinkUsedUptoRow : OpenClaim := { program := "ytkaoincakfhmmaa", sum := "f407d467f163856042edc40806aace23f4f4ecf55dbebe08380010c81263fb6a", func := "loop.example/linkstaterouting/laws.FnExactLinkUsed", spec := "fnExactLinkUsed", apart := false, narrowed := true }
def FnExactLinkUsedUptoSaid : Prop := fnExactLinkUsedUptoRow.holds Try.pinned (OpenSpec.upto fnExactLinkUsedSpec)

/-- 'laws.FnReachSame', WHERE WHAT IT READS IS OF BULK AT MOST 1048576: true; the input reads as it did. -/
def fnReachSameUptoRow : OpenClaim := { program := "ytkaoincakfhmmaa", sum := "f407d467f163856042edc40806aace23f4f4ecf55dbebe08380010c81263fb6a", func := "loop.example/linkstaterouting/laws.FnReachSame", spec := "fnReachSame", apart := false, narrowed := true }
def FnReachSameUptoSaid : Prop := fnReachSameUptoRow.holds Try.pinned (OpenSpec.upto fnReachSameSpec)

/-- 'laws.FnCriticalFew', WHERE WHAT IT READS IS OF BULK AT MOST 1048576: true; the input reads as it did. -/
def fnCriticalFewUptoRow : OpenClaim := { program := "ytkaoincakfhmmaa", sum := "f407d467f163856042edc40806aace23f4f4ecf55dbebe08380010c81263fb6a", func := "loop.example/linkstaterouting/laws.FnCriticalFew", spec := "fnCriticalFew", unfollowed := true, recurses := true, apart := false, narrowed := true }
def FnCriticalFewUptoSaid : Prop := fnCriticalFewUptoRow.holds Try.pinned (OpenSpec.upto fnCriticalFewSpec)

/-- 'laws.FnLinkUsedBack', WHERE WHAT IT READS IS OF BULK AT MOST 1048576: true; the input reads as it did. -/
def fnLinkUsedBackUptoRow : OpenClaim := { program := "ytkaoincakfhmmaa", sum := "f407d467f163856042edc40806aace23f4f4ecf55dbebe08380010c81263fb6a", func := "loop.example/linkstaterouting/laws.FnLinkUsedBack", spec := "fnLinkUsedBack", apart := false, narrowed := true }
def FnLinkUsedBackUptoSaid : Prop := fnLinkUsedBackUptoRow.holds Try.pinned (OpenSpec.upto fnLinkUsedBackSpec)

/-- 'laws.FnDistancesWorse', WHERE WHAT IT READS IS OF BULK AT MOST 1048576: true; the input reads as it did. -/
def fnDistancesWorseUptoRow : OpenClaim := { program := "ytkaoincakfhmmaa", sum := "f407d467f163856042edc40806aace23f4f4ecf55dbebe08380010c81263fb6a", func := "loop.example/linkstaterouting/laws.FnDistancesWorse", spec := "fnDistancesWorse", unfollowed := true, recurses := true, apart := false, narrowed := true }
def FnDistancesWorseUptoSaid : Prop := fnDistancesWorseUptoRow.holds Try.pinned (OpenSpec.upto fnDistancesWorseSpec)

/-- 'laws.FnLinkUsedEnds', WHERE WHAT IT READS IS OF BULK AT MOST 1048576: true; the input reads as it did. -/
def fnLinkUsedEndsUptoRow : OpenClaim := { program := "ytkaoincakfhmmaa", sum := "f407d467f163856042edc40806aace23f4f4ecf55dbebe08380010c81263fb6a", func := "loop.example/linkstaterouting/laws.FnLinkUsedEnds", spec := "fnLinkUsedEnds", apart := false, narrowed := true }
def FnLinkUsedEndsUptoSaid : Prop := fnLinkUsedEndsUptoRow.holds Try.pinned (OpenSpec.upto fnLinkUsedEndsSpec)

/-- 'laws.FnIsolateReach', WHERE WHAT IT READS IS OF BULK AT MOST 1048576: true; the input reads as it did. -/
def fnIsolateReachUptoRow : OpenClaim := { program := "ytkaoincakfhmmaa", sum := "f407d467f163856042edc40806aace23f4f4ecf55dbebe08380010c81263fb6a", func := "loop.example/linkstaterouting/laws.FnIsolateReach", spec := "fnIsolateReach", unfollowed := true, recurses := true, apart := false, narrowed := true }
def FnIsolateReachUptoSaid : Prop := fnIsolateReachUptoRow.holds Try.pinned (OpenSpec.upto fnIsolateReachSpec)

/-- 'laws.FnDistancesReach', WHERE WHAT IT READS IS OF BULK AT MOST 1048576: true; the input reads as it did. -/
def fnDistancesReachUptoRow : OpenClaim := { program := "ytkaoincakfhmmaa", sum := "f407d467f163856042edc40806aace23f4f4ecf55dbebe08380010c81263fb6a", func := "loop.example/linkstaterouting/laws.FnDistancesReach", spec := "fnDistancesReach", apart := false, narrowed := true }
def FnDistancesReachUptoSaid : Prop := fnDistancesReachUptoRow.holds Try.pinned (OpenSpec.upto fnDistancesReachSpec)

/-- 'laws.FnExactDistances', WHERE WHAT IT READS IS OF BULK AT MOST 1048576: true; the input reads as it did. -/
def fnExactDistancesUptoRow : OpenClaim := { program := "ytkaoincakfhmmaa", sum := "f407d467f163856042edc40806aace23f4f4ecf55dbebe08380010c81263fb6a", func := "loop.example/linkstaterouting/laws.FnExactDistances", spec := "fnExactDistances", apart := false, narrowed := true }
def FnExactDistancesUptoSaid : Prop := fnExactDistancesUptoRow.holds Try.pinned (OpenSpec.upto fnExactDistancesSpec)

/-- 'laws.FnReachFewer', WHERE WHAT IT READS IS OF BULK AT MOST 1048576: true; the input reads as it did. -/
def fnReachFewerUptoRow : OpenClaim := { program := "ytkaoincakfhmmaa", sum := "f407d467f163856042edc40806aace23f4f4ecf55dbebe08380010c81263fb6a", func := "loop.example/linkstaterouting/laws.FnReachFewer", spec := "fnReachFewer", unfollowed := true, recurses := true, apart := false, narrowed := true }
def FnReachFewerUptoSaid : Prop := fnReachFewerUptoRow.holds Try.pinned (OpenSpec.upto fnReachFewerSpec)

/-- 'laws.FnCriticalLess', WHERE WHAT IT READS IS OF BULK AT MOST 1048576: true; the input reads as it did. -/
def fnCriticalLessUptoRow : OpenClaim := { program := "ytkaoincakfhmmaa", sum := "f407d467f163856042edc40806aace23f4f4ecf55dbebe08380010c81263fb6a", func := "loop.example/linkstaterouting/laws.FnCriticalLess", spec := "fnCriticalLess", unfollowed := true, recurses := true, apart := false, narrowed := true }
def FnCriticalLessUptoSaid : Prop := fnCriticalLessUptoRow.holds Try.pinned (OpenSpec.upto fnCriticalLessSpec)

end Rows
end Go.Proofs.Ytkaoincakfhmmaa
