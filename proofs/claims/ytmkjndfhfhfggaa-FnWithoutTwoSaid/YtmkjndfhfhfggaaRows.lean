/-
  No cell of these rows narrows 'for every input' (looked for: loops, veiled, ifaces, maps, wideKeys, modest, calm, conditions, laid).
  DERIVED. THE GIVEN ROWS OF THIS SEAT. 16 by the template 'for every input the law returns true; each argument reads behind the call as it read before'; 0 by the template 'total and deterministic' (their statements: YtmkjndfhfhfggaaTotals.lean).
  GIVEN WITH THE SEED: the statements are not yours to turn. If you find one false, say at which input.
  Laid BY PROGRAM, IN A SANDBOX (cutbox-rows.mjs): the forced cells as the released guide's own fill.sh prints them over the translation 1f21677c4cd10715… (all of the seat's roots in one cut). By AI agents, Wed Nov 11 2026. No macro, syntax, notation, axiom, sorry.
-/
import Derived.Test.YtmkjndfhfhfggaaChecked
import GoSem.Claim
import GoSem.ClaimJoined
import GoSem.ClaimMapViews
import Derived.JoinedTies
import Derived.KernelRfl
namespace Go.Proofs.Ytmkjndfhfhfggaa
/- THE CELL 'sum', in the pinned program and in every row, IS THE sha256 OF THE DUMP (.gsa) THAT YtmkjndfhfhfggaaProg.lean LOADS. Nothing in Lean hashes anything: it is a label: what it is worth is what the hold of that sum in a sandbox is worth. -/
noncomputable def Try.pinned : Pinned := { name := "ytmkjndfhfhfggaa", sum := "1f21677c4cd10715343a77fcaabc7727e0f853da21383639bb4e7880caaa219a", checked := Try.checked }
namespace Rows
def none {H : Type} : Left H := { results := [], args := [] }

/-- 'laws.FnWithoutTwo': WHATEVER THE INPUT: true; the input reads as it did. -/
def fnWithoutTwoSpec : ChangeSpec := { name := "fnWithoutTwo", fn := fun _ => fun
  | [d1, d2] => { results := [.lit (.bool true)], args := [d1, d2] }
  | _ => none }
def fnWithoutTwoRow : OpenClaim := { program := "ytmkjndfhfhfggaa", sum := "1f21677c4cd10715343a77fcaabc7727e0f853da21383639bb4e7880caaa219a", func := "loop.example/linkstaterouting/laws.FnWithoutTwo", spec := "fnWithoutTwo", unfollowed := true, recurses := true, apart := false }
def FnWithoutTwoSaid : Prop := fnWithoutTwoRow.holds Try.pinned (OpenSpec.ofChange fnWithoutTwoSpec)

/-- ITS FALSE NEIGHBOUR: 'it returns false'. Refute it at one input. -/
def fnWithoutTwoWrong : ChangeSpec := { name := "fnWithoutTwo", fn := fun _ => fun
  | [d1, d2] => { results := [.lit (.bool false)], args := [d1, d2] }
  | _ => none }
def FnWithoutTwoWrongFalsely : Prop := fnWithoutTwoRow.holds Try.pinned (OpenSpec.ofChange fnWithoutTwoWrong)

/-- 'laws.FnCriticalFew': WHATEVER THE INPUT: true; the input reads as it did. -/
def fnCriticalFewSpec : ChangeSpec := { name := "fnCriticalFew", fn := fun _ => fun
  | [d] => { results := [.lit (.bool true)], args := [d] }
  | _ => none }
def fnCriticalFewRow : OpenClaim := { program := "ytmkjndfhfhfggaa", sum := "1f21677c4cd10715343a77fcaabc7727e0f853da21383639bb4e7880caaa219a", func := "loop.example/linkstaterouting/laws.FnCriticalFew", spec := "fnCriticalFew", unfollowed := true, recurses := true, apart := false }
def FnCriticalFewSaid : Prop := fnCriticalFewRow.holds Try.pinned (OpenSpec.ofChange fnCriticalFewSpec)

/-- ITS FALSE NEIGHBOUR: 'it returns false'. Refute it at one input. -/
def fnCriticalFewWrong : ChangeSpec := { name := "fnCriticalFew", fn := fun _ => fun
  | [d] => { results := [.lit (.bool false)], args := [d] }
  | _ => none }
def FnCriticalFewWrongFalsely : Prop := fnCriticalFewRow.holds Try.pinned (OpenSpec.ofChange fnCriticalFewWrong)

/-- 'laws.FnCriticalLess': WHATEVER THE INPUT: true; the input reads as it did. -/
def fnCriticalLessSpec : ChangeSpec := { name := "fnCriticalLess", fn := fun _ => fun
  | [d1, d2] => { results := [.lit (.bool true)], args := [d1, d2] }
  | _ => none }
def fnCriticalLessRow : OpenClaim := { program := "ytmkjndfhfhfggaa", sum := "1f21677c4cd10715343a77fcaabc7727e0f853da21383639bb4e7880caaa219a", func := "loop.example/linkstaterouting/laws.FnCriticalLess", spec := "fnCriticalLess", unfollowed := true, recurses := true, apart := false }
def FnCriticalLessSaid : Prop := fnCriticalLessRow.holds Try.pinned (OpenSpec.ofChange fnCriticalLessSpec)

/-- ITS FALSE NEIGHBOUR: 'it returns false'. Refute it at one input. -/
def fnCriticalLessWrong : ChangeSpec := { name := "fnCriticalLess", fn := fun _ => fun
  | [d1, d2] => { results := [.lit (.bool false)], args := [d1, d2] }
  | _ => none }
def FnCriticalLessWrongFalsely : Prop := fnCriticalLessRow.holds Try.pinned (OpenSpec.ofChange fnCriticalLessWrong)

/-- 'laws.FnCriticalUsed': WHATEVER THE INPUT: true; the input reads as it did. -/
def fnCriticalUsedSpec : ChangeSpec := { name := "fnCriticalUsed", fn := fun _ => fun
  | [d] => { results := [.lit (.bool true)], args := [d] }
  | _ => none }
def fnCriticalUsedRow : OpenClaim := { program := "ytmkjndfhfhfggaa", sum := "1f21677c4cd10715343a77fcaabc7727e0f853da21383639bb4e7880caaa219a", func := "loop.example/linkstaterouting/laws.FnCriticalUsed", spec := "fnCriticalUsed", unfollowed := true, recurses := true, apart := false }
def FnCriticalUsedSaid : Prop := fnCriticalUsedRow.holds Try.pinned (OpenSpec.ofChange fnCriticalUsedSpec)

/-- ITS FALSE NEIGHBOUR: 'it returns false'. Refute it at one input. -/
def fnCriticalUsedWrong : ChangeSpec := { name := "fnCriticalUsed", fn := fun _ => fun
  | [d] => { results := [.lit (.bool false)], args := [d] }
  | _ => none }
def FnCriticalUsedWrongFalsely : Prop := fnCriticalUsedRow.holds Try.pinned (OpenSpec.ofChange fnCriticalUsedWrong)

/-- 'laws.FnExactGraphReach': WHATEVER THE INPUT: true; the input reads as it did. -/
def fnExactGraphReachSpec : ChangeSpec := { name := "fnExactGraphReach", fn := fun _ => fun
  | [d1, d2] => { results := [.lit (.bool true)], args := [d1, d2] }
  | _ => none }
def fnExactGraphReachRow : OpenClaim := { program := "ytmkjndfhfhfggaa", sum := "1f21677c4cd10715343a77fcaabc7727e0f853da21383639bb4e7880caaa219a", func := "loop.example/linkstaterouting/laws.FnExactGraphReach", spec := "fnExactGraphReach", apart := false }
def FnExactGraphReachSaid : Prop := fnExactGraphReachRow.holds Try.pinned (OpenSpec.ofChange fnExactGraphReachSpec)

/-- ITS FALSE NEIGHBOUR: 'it returns false'. Refute it at one input. -/
def fnExactGraphReachWrong : ChangeSpec := { name := "fnExactGraphReach", fn := fun _ => fun
  | [d1, d2] => { results := [.lit (.bool false)], args := [d1, d2] }
  | _ => none }
def FnExactGraphReachWrongFalsely : Prop := fnExactGraphReachRow.holds Try.pinned (OpenSpec.ofChange fnExactGraphReachWrong)

/-- 'laws.FnCritical': WHATEVER THE INPUT: true; the input reads as it did. -/
def fnCriticalSpec : ChangeSpec := { name := "fnCritical", fn := fun _ => fun
  | [d] => { results := [.lit (.bool true)], args := [d] }
  | _ => none }
def fnCriticalRow : OpenClaim := { program := "ytmkjndfhfhfggaa", sum := "1f21677c4cd10715343a77fcaabc7727e0f853da21383639bb4e7880caaa219a", func := "loop.example/linkstaterouting/laws.FnCritical", spec := "fnCritical", unfollowed := true, recurses := true, apart := false }
def FnCriticalSaid : Prop := fnCriticalRow.holds Try.pinned (OpenSpec.ofChange fnCriticalSpec)

/-- ITS FALSE NEIGHBOUR: 'it returns false'. Refute it at one input. -/
def fnCriticalWrong : ChangeSpec := { name := "fnCritical", fn := fun _ => fun
  | [d] => { results := [.lit (.bool false)], args := [d] }
  | _ => none }
def FnCriticalWrongFalsely : Prop := fnCriticalRow.holds Try.pinned (OpenSpec.ofChange fnCriticalWrong)

/-- 'laws.FnAfter': WHATEVER THE INPUT: true; the input reads as it did. -/
def fnAfterSpec : ChangeSpec := { name := "fnAfter", fn := fun _ => fun
  | [d] => { results := [.lit (.bool true)], args := [d] }
  | _ => none }
def fnAfterRow : OpenClaim := { program := "ytmkjndfhfhfggaa", sum := "1f21677c4cd10715343a77fcaabc7727e0f853da21383639bb4e7880caaa219a", func := "loop.example/linkstaterouting/laws.FnAfter", spec := "fnAfter", apart := false }
def FnAfterSaid : Prop := fnAfterRow.holds Try.pinned (OpenSpec.ofChange fnAfterSpec)

/-- ITS FALSE NEIGHBOUR: 'it returns false'. Refute it at one input. -/
def fnAfterWrong : ChangeSpec := { name := "fnAfter", fn := fun _ => fun
  | [d] => { results := [.lit (.bool false)], args := [d] }
  | _ => none }
def FnAfterWrongFalsely : Prop := fnAfterRow.holds Try.pinned (OpenSpec.ofChange fnAfterWrong)

/-- 'laws.FnAfterBound': WHATEVER THE INPUT: true; the input reads as it did. -/
def fnAfterBoundSpec : ChangeSpec := { name := "fnAfterBound", fn := fun _ => fun
  | [d] => { results := [.lit (.bool true)], args := [d] }
  | _ => none }
def fnAfterBoundRow : OpenClaim := { program := "ytmkjndfhfhfggaa", sum := "1f21677c4cd10715343a77fcaabc7727e0f853da21383639bb4e7880caaa219a", func := "loop.example/linkstaterouting/laws.FnAfterBound", spec := "fnAfterBound", apart := false }
def FnAfterBoundSaid : Prop := fnAfterBoundRow.holds Try.pinned (OpenSpec.ofChange fnAfterBoundSpec)

/-- ITS FALSE NEIGHBOUR: 'it returns false'. Refute it at one input. -/
def fnAfterBoundWrong : ChangeSpec := { name := "fnAfterBound", fn := fun _ => fun
  | [d] => { results := [.lit (.bool false)], args := [d] }
  | _ => none }
def FnAfterBoundWrongFalsely : Prop := fnAfterBoundRow.holds Try.pinned (OpenSpec.ofChange fnAfterBoundWrong)

/-- 'laws.FnAfterWorse': WHATEVER THE INPUT: true; the input reads as it did. -/
def fnAfterWorseSpec : ChangeSpec := { name := "fnAfterWorse", fn := fun _ => fun
  | [d] => { results := [.lit (.bool true)], args := [d] }
  | _ => none }
def fnAfterWorseRow : OpenClaim := { program := "ytmkjndfhfhfggaa", sum := "1f21677c4cd10715343a77fcaabc7727e0f853da21383639bb4e7880caaa219a", func := "loop.example/linkstaterouting/laws.FnAfterWorse", spec := "fnAfterWorse", apart := false }
def FnAfterWorseSaid : Prop := fnAfterWorseRow.holds Try.pinned (OpenSpec.ofChange fnAfterWorseSpec)

/-- ITS FALSE NEIGHBOUR: 'it returns false'. Refute it at one input. -/
def fnAfterWorseWrong : ChangeSpec := { name := "fnAfterWorse", fn := fun _ => fun
  | [d] => { results := [.lit (.bool false)], args := [d] }
  | _ => none }
def FnAfterWorseWrongFalsely : Prop := fnAfterWorseRow.holds Try.pinned (OpenSpec.ofChange fnAfterWorseWrong)

/-- 'laws.FnExactCritical': WHATEVER THE INPUT: true; the input reads as it did. -/
def fnExactCriticalSpec : ChangeSpec := { name := "fnExactCritical", fn := fun _ => fun
  | [d] => { results := [.lit (.bool true)], args := [d] }
  | _ => none }
def fnExactCriticalRow : OpenClaim := { program := "ytmkjndfhfhfggaa", sum := "1f21677c4cd10715343a77fcaabc7727e0f853da21383639bb4e7880caaa219a", func := "loop.example/linkstaterouting/laws.FnExactCritical", spec := "fnExactCritical", unfollowed := true, recurses := true, apart := false }
def FnExactCriticalSaid : Prop := fnExactCriticalRow.holds Try.pinned (OpenSpec.ofChange fnExactCriticalSpec)

/-- ITS FALSE NEIGHBOUR: 'it returns false'. Refute it at one input. -/
def fnExactCriticalWrong : ChangeSpec := { name := "fnExactCritical", fn := fun _ => fun
  | [d] => { results := [.lit (.bool false)], args := [d] }
  | _ => none }
def FnExactCriticalWrongFalsely : Prop := fnExactCriticalRow.holds Try.pinned (OpenSpec.ofChange fnExactCriticalWrong)

/-- 'laws.FnExactDistancesAfter': WHATEVER THE INPUT: true; the input reads as it did. -/
def fnExactDistancesAfterSpec : ChangeSpec := { name := "fnExactDistancesAfter", fn := fun _ => fun
  | [d1, d2, d3, d4] => { results := [.lit (.bool true)], args := [d1, d2, d3, d4] }
  | _ => none }
def fnExactDistancesAfterRow : OpenClaim := { program := "ytmkjndfhfhfggaa", sum := "1f21677c4cd10715343a77fcaabc7727e0f853da21383639bb4e7880caaa219a", func := "loop.example/linkstaterouting/laws.FnExactDistancesAfter", spec := "fnExactDistancesAfter", apart := false }
def FnExactDistancesAfterSaid : Prop := fnExactDistancesAfterRow.holds Try.pinned (OpenSpec.ofChange fnExactDistancesAfterSpec)

/-- ITS FALSE NEIGHBOUR: 'it returns false'. Refute it at one input. -/
def fnExactDistancesAfterWrong : ChangeSpec := { name := "fnExactDistancesAfter", fn := fun _ => fun
  | [d1, d2, d3, d4] => { results := [.lit (.bool false)], args := [d1, d2, d3, d4] }
  | _ => none }
def FnExactDistancesAfterWrongFalsely : Prop := fnExactDistancesAfterRow.holds Try.pinned (OpenSpec.ofChange fnExactDistancesAfterWrong)

/-- 'laws.FnAffectedBack': WHATEVER THE INPUT: true; the input reads as it did. -/
def fnAffectedBackSpec : ChangeSpec := { name := "fnAffectedBack", fn := fun _ => fun
  | [d1, d2] => { results := [.lit (.bool true)], args := [d1, d2] }
  | _ => none }
def fnAffectedBackRow : OpenClaim := { program := "ytmkjndfhfhfggaa", sum := "1f21677c4cd10715343a77fcaabc7727e0f853da21383639bb4e7880caaa219a", func := "loop.example/linkstaterouting/laws.FnAffectedBack", spec := "fnAffectedBack", apart := false }
def FnAffectedBackSaid : Prop := fnAffectedBackRow.holds Try.pinned (OpenSpec.ofChange fnAffectedBackSpec)

/-- ITS FALSE NEIGHBOUR: 'it returns false'. Refute it at one input. -/
def fnAffectedBackWrong : ChangeSpec := { name := "fnAffectedBack", fn := fun _ => fun
  | [d1, d2] => { results := [.lit (.bool false)], args := [d1, d2] }
  | _ => none }
def FnAffectedBackWrongFalsely : Prop := fnAffectedBackRow.holds Try.pinned (OpenSpec.ofChange fnAffectedBackWrong)

/-- 'laws.FnAffectedNone': WHATEVER THE INPUT: true; the input reads as it did. -/
def fnAffectedNoneSpec : ChangeSpec := { name := "fnAffectedNone", fn := fun _ => fun
  | [d] => { results := [.lit (.bool true)], args := [d] }
  | _ => none }
def fnAffectedNoneRow : OpenClaim := { program := "ytmkjndfhfhfggaa", sum := "1f21677c4cd10715343a77fcaabc7727e0f853da21383639bb4e7880caaa219a", func := "loop.example/linkstaterouting/laws.FnAffectedNone", spec := "fnAffectedNone", apart := false }
def FnAffectedNoneSaid : Prop := fnAffectedNoneRow.holds Try.pinned (OpenSpec.ofChange fnAffectedNoneSpec)

/-- ITS FALSE NEIGHBOUR: 'it returns false'. Refute it at one input. -/
def fnAffectedNoneWrong : ChangeSpec := { name := "fnAffectedNone", fn := fun _ => fun
  | [d] => { results := [.lit (.bool false)], args := [d] }
  | _ => none }
def FnAffectedNoneWrongFalsely : Prop := fnAffectedNoneRow.holds Try.pinned (OpenSpec.ofChange fnAffectedNoneWrong)

/-- 'laws.FnExactAffected': WHATEVER THE INPUT: true; the input reads as it did. -/
def fnExactAffectedSpec : ChangeSpec := { name := "fnExactAffected", fn := fun _ => fun
  | [d1, d2, d3, d4] => { results := [.lit (.bool true)], args := [d1, d2, d3, d4] }
  | _ => none }
def fnExactAffectedRow : OpenClaim := { program := "ytmkjndfhfhfggaa", sum := "1f21677c4cd10715343a77fcaabc7727e0f853da21383639bb4e7880caaa219a", func := "loop.example/linkstaterouting/laws.FnExactAffected", spec := "fnExactAffected", apart := false }
def FnExactAffectedSaid : Prop := fnExactAffectedRow.holds Try.pinned (OpenSpec.ofChange fnExactAffectedSpec)

/-- ITS FALSE NEIGHBOUR: 'it returns false'. Refute it at one input. -/
def fnExactAffectedWrong : ChangeSpec := { name := "fnExactAffected", fn := fun _ => fun
  | [d1, d2, d3, d4] => { results := [.lit (.bool false)], args := [d1, d2, d3, d4] }
  | _ => none }
def FnExactAffectedWrongFalsely : Prop := fnExactAffectedRow.holds Try.pinned (OpenSpec.ofChange fnExactAffectedWrong)

/-- 'laws.FnAffected': WHATEVER THE INPUT: true; the input reads as it did. -/
def fnAffectedSpec : ChangeSpec := { name := "fnAffected", fn := fun _ => fun
  | [d] => { results := [.lit (.bool true)], args := [d] }
  | _ => none }
def fnAffectedRow : OpenClaim := { program := "ytmkjndfhfhfggaa", sum := "1f21677c4cd10715343a77fcaabc7727e0f853da21383639bb4e7880caaa219a", func := "loop.example/linkstaterouting/laws.FnAffected", spec := "fnAffected", apart := false }
def FnAffectedSaid : Prop := fnAffectedRow.holds Try.pinned (OpenSpec.ofChange fnAffectedSpec)

/-- ITS FALSE NEIGHBOUR: 'it returns false'. Refute it at one input. -/
def fnAffectedWrong : ChangeSpec := { name := "fnAffected", fn := fun _ => fun
  | [d] => { results := [.lit (.bool false)], args := [d] }
  | _ => none }
def FnAffectedWrongFalsely : Prop := fnAffectedRow.holds Try.pinned (OpenSpec.ofChange fnAffectedWrong)

/-- 'laws.FnExactStackEnd': WHATEVER THE INPUT: true; the input reads as it did. -/
def fnExactStackEndSpec : ChangeSpec := { name := "fnExactStackEnd", fn := fun _ => fun
  | [d1, d2, d3] => { results := [.lit (.bool true)], args := [d1, d2, d3] }
  | _ => none }
def fnExactStackEndRow : OpenClaim := { program := "ytmkjndfhfhfggaa", sum := "1f21677c4cd10715343a77fcaabc7727e0f853da21383639bb4e7880caaa219a", func := "loop.example/linkstaterouting/laws.FnExactStackEnd", spec := "fnExactStackEnd", apart := false }
def FnExactStackEndSaid : Prop := fnExactStackEndRow.holds Try.pinned (OpenSpec.ofChange fnExactStackEndSpec)

/-- ITS FALSE NEIGHBOUR: 'it returns false'. Refute it at one input. -/
def fnExactStackEndWrong : ChangeSpec := { name := "fnExactStackEnd", fn := fun _ => fun
  | [d1, d2, d3] => { results := [.lit (.bool false)], args := [d1, d2, d3] }
  | _ => none }
def FnExactStackEndWrongFalsely : Prop := fnExactStackEndRow.holds Try.pinned (OpenSpec.ofChange fnExactStackEndWrong)

/- THE SECOND FORM. 'bulk': how many values and letters a reading holds, each counted each time it is reached (what is shared counts as often as it is met; a slice's spare places count too). A statement '..UptoSaid' is the law's where the arguments, and the package variables that the reading takes, are together of bulk at most 1048576: NARROWER than '..Said'. Prove '..Said' where nothing that the law and all that it calls make is longer than what came in: it says more and counts as full. Else prove '..UptoSaid'. A law counts once. -/
mutual
def uptoBulk {H : Type} : DataW H → Nat
  | .lit (.string bytes) => bytes.length + 1
  | .lit _ => 1
  | .nil => 1
  | .ptr d => uptoBulk d + 1
  | .slice elems spare => uptoBulkAll elems + uptoBulkAll spare + 1
  | .agg parts => uptoBulkAll parts + 1
  | .iface _ d => uptoBulk d + 1
  | .map entries => uptoBulkEntries entries + 1
  | .held _ => 1
def uptoBulkAll {H : Type} : List (DataW H) → Nat
  | [] => 0
  | d :: r => uptoBulk d + uptoBulkAll r
def uptoBulkEntries {H : Type} : List (Lit × DataW H) → Nat
  | [] => 0
  | x :: r => uptoBulkEntry x + uptoBulkEntries r
def uptoBulkEntry {H : Type} : Lit × DataW H → Nat
  | (.string bytes, d) => bytes.length + uptoBulk d + 1
  | (_, d) => uptoBulk d + 1
 end
def uptoSmall : (H : Type) → List (DataW H) → Bool := fun _ ds => decide (uptoBulkAll ds ≤ 1048576)
def OpenSpec.upto (s : _root_.Go.ChangeSpec) : _root_.Go.OpenSpec := { _root_.Go.OpenSpec.ofChange s with cond := some uptoSmall }

/-- 'laws.FnWithoutTwo', WHERE WHAT IT READS IS OF BULK AT MOST 1048576: true; the input reads as it did. -/
def fnWithoutTwoUptoRow : OpenClaim := { program := "ytmkjndfhfhfggaa", sum := "1f21677c4cd10715343a77fcaabc7727e0f853da21383639bb4e7880caaa219a", func := "loop.example/linkstaterouting/laws.FnWithoutTwo", spec := "fnWithoutTwo", unfollowed := true, recurses := true, apart := false, narrowed := true }
def FnWithoutTwoUptoSaid : Prop := fnWithoutTwoUptoRow.holds Try.pinned (OpenSpec.upto fnWithoutTwoSpec)

/-- 'laws.FnCriticalFew', WHERE WHAT IT READS IS OF BULK AT MOST 1048576: true; the input reads as it did. -/
def fnCriticalFewUptoRow : OpenClaim := { program := "ytmkjndfhfhfggaa", sum := "1f21677c4cd10715343a77fcaabc7727e0f853da21383639bb4e7880caaa219a", func := "loop.example/linkstaterouting/laws.FnCriticalFew", spec := "fnCriticalFew", unfollowed := true, recurses := true, apart := false, narrowed := true }
def FnCriticalFewUptoSaid : Prop := fnCriticalFewUptoRow.holds Try.pinned (OpenSpec.upto fnCriticalFewSpec)

/-- 'laws.FnCriticalLess', WHERE WHAT IT READS IS OF BULK AT MOST 1048576: true; the input reads as it did. -/
def fnCriticalLessUptoRow : OpenClaim := { program := "ytmkjndfhfhfggaa", sum := "1f21677c4cd10715343a77fcaabc7727e0f853da21383639bb4e7880caaa219a", func := "loop.example/linkstaterouting/laws.FnCriticalLess", spec := "fnCriticalLess", unfollowed := true, recurses := true, apart := false, narrowed := true }
def FnCriticalLessUptoSaid : Prop := fnCriticalLessUptoRow.holds Try.pinned (OpenSpec.upto fnCriticalLessSpec)

/-- 'laws.FnCriticalUsed', WHERE WHAT IT READS IS OF BULK AT MOST 1048576: true; the input reads as it did. -/
def fnCriticalUsedUptoRow : OpenClaim := { program := "ytmkjndfhfhfggaa", sum := "1f21677c4cd10715343a77fcaabc7727e0f853da21383639bb4e7880caaa219a", func := "loop.example/linkstaterouting/laws.FnCriticalUsed", spec := "fnCriticalUsed", unfollowed := true, recurses := true, apart := false, narrowed := true }
def FnCriticalUsedUptoSaid : Prop := fnCriticalUsedUptoRow.holds Try.pinned (OpenSpec.upto fnCriticalUsedSpec)

/-- 'laws.FnExactGraphReach', WHERE WHAT IT READS IS OF BULK AT MOST 1048576: true; the input reads as it did. -/
def fnExactGraphReachUptoRow : OpenClaim := { program := "ytmkjndfhfhfggaa", sum := "1f21677c4cd10715343a77fcaabc7727e0f853da21383639bb4e7880caaa219a", func := "loop.example/linkstaterouting/laws.FnExactGraphReach", spec := "fnExactGraphReach", apart := false, narrowed := true }
def FnExactGraphReachUptoSaid : Prop := fnExactGraphReachUptoRow.holds Try.pinned (OpenSpec.upto fnExactGraphReachSpec)

/-- 'laws.FnCritical', WHERE WHAT IT READS IS OF BULK AT MOST 1048576: true; the input reads as it did. -/
def fnCriticalUptoRow : OpenClaim := { program := "ytmkjndfhfhfggaa", sum := "1f21677c4cd10715343a77fcaabc7727e0f853da21383639bb4e7880caaa219a", func := "loop.example/linkstaterouting/laws.FnCritical", spec := "fnCritical", unfollowed := true, recurses := true, apart := false, narrowed := true }
def FnCriticalUptoSaid : Prop := fnCriticalUptoRow.holds Try.pinned (OpenSpec.upto fnCriticalSpec)

/-- 'laws.FnAfter', WHERE WHAT IT READS IS OF BULK AT MOST 1048576: true; the input reads as it did. -/
def fnAfterUptoRow : OpenClaim := { program := "ytmkjndfhfhfggaa", sum := "1f21677c4cd10715343a77fcaabc7727e0f853da21383639bb4e7880caaa219a", func := "loop.example/linkstaterouting/laws.FnAfter", spec := "fnAfter", apart := false, narrowed := true }
def FnAfterUptoSaid : Prop := fnAfterUptoRow.holds Try.pinned (OpenSpec.upto fnAfterSpec)

/-- 'laws.FnAfterBound', WHERE WHAT IT READS IS OF BULK AT MOST 1048576: true; the input reads as it did. -/
def fnAfterBoundUptoRow : OpenClaim := { program := "ytmkjndfhfhfggaa", sum := "1f21677c4cd10715343a77fcaabc7727e0f853da21383639bb4e7880caaa219a", func := "loop.example/linkstaterouting/laws.FnAfterBound", spec := "fnAfterBound", apart := false, narrowed := true }
def FnAfterBoundUptoSaid : Prop := fnAfterBoundUptoRow.holds Try.pinned (OpenSpec.upto fnAfterBoundSpec)

/-- 'laws.FnAfterWorse', WHERE WHAT IT READS IS OF BULK AT MOST 1048576: true; the input reads as it did. -/
def fnAfterWorseUptoRow : OpenClaim := { program := "ytmkjndfhfhfggaa", sum := "1f21677c4cd10715343a77fcaabc7727e0f853da21383639bb4e7880caaa219a", func := "loop.example/linkstaterouting/laws.FnAfterWorse", spec := "fnAfterWorse", apart := false, narrowed := true }
def FnAfterWorseUptoSaid : Prop := fnAfterWorseUptoRow.holds Try.pinned (OpenSpec.upto fnAfterWorseSpec)

/-- 'laws.FnExactCritical', WHERE WHAT IT READS IS OF BULK AT MOST 1048576: true; the input reads as it did. -/
def fnExactCriticalUptoRow : OpenClaim := { program := "ytmkjndfhfhfggaa", sum := "1f21677c4cd10715343a77fcaabc7727e0f853da21383639bb4e7880caaa219a", func := "loop.example/linkstaterouting/laws.FnExactCritical", spec := "fnExactCritical", unfollowed := true, recurses := true, apart := false, narrowed := true }
def FnExactCriticalUptoSaid : Prop := fnExactCriticalUptoRow.holds Try.pinned (OpenSpec.upto fnExactCriticalSpec)

/-- 'laws.FnExactDistancesAfter', WHERE WHAT IT READS IS OF BULK AT MOST 1048576: true; the input reads as it did. -/
def fnExactDistancesAfterUptoRow : OpenClaim := { program := "ytmkjndfhfhfggaa", sum := "1f21677c4cd10715343a77fcaabc7727e0f853da21383639bb4e7880caaa219a", func := "loop.example/linkstaterouting/laws.FnExactDistancesAfter", spec := "fnExactDistancesAfter", apart := false, narrowed := true }
def FnExactDistancesAfterUptoSaid : Prop := fnExactDistancesAfterUptoRow.holds Try.pinned (OpenSpec.upto fnExactDistancesAfterSpec)

/-- 'laws.FnAffectedBack', WHERE WHAT IT READS IS OF BULK AT MOST 1048576: true; the input reads as it did. -/
def fnAffectedBackUptoRow : OpenClaim := { program := "ytmkjndfhfhfggaa", sum := "1f21677c4cd10715343a77fcaabc7727e0f853da21383639bb4e7880caaa219a", func := "loop.example/linkstaterouting/laws.FnAffectedBack", spec := "fnAffectedBack", apart := false, narrowed := true }
def FnAffectedBackUptoSaid : Prop := fnAffectedBackUptoRow.holds Try.pinned (OpenSpec.upto fnAffectedBackSpec)

/-- 'laws.FnAffectedNone', WHERE WHAT IT READS IS OF BULK AT MOST 1048576: true; the input reads as it did. -/
def fnAffectedNoneUptoRow : OpenClaim := { program := "ytmkjndfhfhfggaa", sum := "1f21677c4cd10715343a77fcaabc7727e0f853da21383639bb4e7880caaa219a", func := "loop.example/linkstaterouting/laws.FnAffectedNone", spec := "fnAffectedNone", apart := false, narrowed := true }
def FnAffectedNoneUptoSaid : Prop := fnAffectedNoneUptoRow.holds Try.pinned (OpenSpec.upto fnAffectedNoneSpec)

/-- 'laws.FnExactAffected', WHERE WHAT IT READS IS OF BULK AT MOST 1048576: true; the input reads as it did. -/
def fnExactAffectedUptoRow : OpenClaim := { program := "ytmkjndfhfhfggaa", sum := "1f21677c4cd10715343a77fcaabc7727e0f853da21383639bb4e7880caaa219a", func := "loop.example/linkstaterouting/laws.FnExactAffected", spec := "fnExactAffected", apart := false, narrowed := true }
def FnExactAffectedUptoSaid : Prop := fnExactAffectedUptoRow.holds Try.pinned (OpenSpec.upto fnExactAffectedSpec)

/-- 'laws.FnAffected', WHERE WHAT IT READS IS OF BULK AT MOST 1048576: true; the input reads as it did. -/
def fnAffectedUptoRow : OpenClaim := { program := "ytmkjndfhfhfggaa", sum := "1f21677c4cd10715343a77fcaabc7727e0f853da21383639bb4e7880caaa219a", func := "loop.example/linkstaterouting/laws.FnAffected", spec := "fnAffected", apart := false, narrowed := true }
def FnAffectedUptoSaid : Prop := fnAffectedUptoRow.holds Try.pinned (OpenSpec.upto fnAffectedSpec)

/-- 'laws.FnExactStackEnd', WHERE WHAT IT READS IS OF BULK AT MOST 1048576: true; the input reads as it did. -/
def fnExactStackEndUptoRow : OpenClaim := { program := "ytmkjndfhfhfggaa", sum := "1f21677c4cd10715343a77fcaabc7727e0f853da21383639bb4e7880caaa219a", func := "loop.example/linkstaterouting/laws.FnExactStackEnd", spec := "fnExactStackEnd", apart := false, narrowed := true }
def FnExactStackEndUptoSaid : Prop := fnExactStackEndUptoRow.holds Try.pinned (OpenSpec.upto fnExactStackEndSpec)

end Rows
end Go.Proofs.Ytmkjndfhfhfggaa
