/-
  No cell of these rows narrows 'for every input' (looked for: loops, veiled, ifaces, maps, wideKeys, modest, calm, conditions, laid).
  DERIVED. THE GIVEN ROWS OF THIS SEAT. 12 by the template 'for every input the law returns true; each argument reads behind the call as it read before'; 0 by the template 'total and deterministic' (their statements: YtnkcldophdbehaaTotals.lean).
  GIVEN WITH THE SEED: the statements are not yours to turn. If you find one false, say at which input.
  Laid BY PROGRAM, IN A SANDBOX (cutbox-rows.mjs): the forced cells as the released guide's own fill.sh prints them over the translation 44209e2c41988710… (all of the seat's roots in one cut). By AI agents, Wed Nov 11 2026. No macro, syntax, notation, axiom, sorry.
-/
import Derived.Test.YtnkcldophdbehaaChecked
import GoSem.Claim
import GoSem.ClaimJoined
import GoSem.ClaimMapViews
import Derived.JoinedTies
import Derived.KernelRfl
namespace Go.Proofs.Ytnkcldophdbehaa
/- THE CELL 'sum', in the pinned program and in every row, IS THE sha256 OF THE DUMP (.gsa) THAT YtnkcldophdbehaaProg.lean LOADS. Nothing in Lean hashes anything: it is a label: what it is worth is what the hold of that sum in a sandbox is worth. -/
noncomputable def Try.pinned : Pinned := { name := "ytnkcldophdbehaa", sum := "44209e2c41988710ce58f88408c1888aadf84ed21e4ba2229dd366ff8516c6f9", checked := Try.checked }
namespace Rows
def none {H : Type} : Left H := { results := [], args := [] }

/-- 'laws.FnExactConstants': WHATEVER THE INPUT: true; the input reads as it did. -/
def fnExactConstantsSpec : ChangeSpec := { name := "fnExactConstants", fn := fun _ => fun
  | [] => { results := [.lit (.bool true)], args := [] }
  | _ => none }
def fnExactConstantsRow : OpenClaim := { program := "ytnkcldophdbehaa", sum := "44209e2c41988710ce58f88408c1888aadf84ed21e4ba2229dd366ff8516c6f9", func := "loop.example/linkstaterouting/laws.FnExactConstants", spec := "fnExactConstants", apart := false }
def FnExactConstantsSaid : Prop := fnExactConstantsRow.holds Try.pinned (OpenSpec.ofChange fnExactConstantsSpec)

/-- ITS FALSE NEIGHBOUR: 'it returns false'. Refute it at one input. -/
def fnExactConstantsWrong : ChangeSpec := { name := "fnExactConstants", fn := fun _ => fun
  | [] => { results := [.lit (.bool false)], args := [] }
  | _ => none }
def FnExactConstantsWrongFalsely : Prop := fnExactConstantsRow.holds Try.pinned (OpenSpec.ofChange fnExactConstantsWrong)

/-- 'laws.FnExactGraphValid': WHATEVER THE INPUT: true; the input reads as it did. -/
def fnExactGraphValidSpec : ChangeSpec := { name := "fnExactGraphValid", fn := fun _ => fun
  | [d] => { results := [.lit (.bool true)], args := [d] }
  | _ => none }
def fnExactGraphValidRow : OpenClaim := { program := "ytnkcldophdbehaa", sum := "44209e2c41988710ce58f88408c1888aadf84ed21e4ba2229dd366ff8516c6f9", func := "loop.example/linkstaterouting/laws.FnExactGraphValid", spec := "fnExactGraphValid", apart := false }
def FnExactGraphValidSaid : Prop := fnExactGraphValidRow.holds Try.pinned (OpenSpec.ofChange fnExactGraphValidSpec)

/-- ITS FALSE NEIGHBOUR: 'it returns false'. Refute it at one input. -/
def fnExactGraphValidWrong : ChangeSpec := { name := "fnExactGraphValid", fn := fun _ => fun
  | [d] => { results := [.lit (.bool false)], args := [d] }
  | _ => none }
def FnExactGraphValidWrongFalsely : Prop := fnExactGraphValidRow.holds Try.pinned (OpenSpec.ofChange fnExactGraphValidWrong)

/-- 'laws.FnExactGraphLink': WHATEVER THE INPUT: true; the input reads as it did. -/
def fnExactGraphLinkSpec : ChangeSpec := { name := "fnExactGraphLink", fn := fun _ => fun
  | [d1, d2, d3] => { results := [.lit (.bool true)], args := [d1, d2, d3] }
  | _ => none }
def fnExactGraphLinkRow : OpenClaim := { program := "ytnkcldophdbehaa", sum := "44209e2c41988710ce58f88408c1888aadf84ed21e4ba2229dd366ff8516c6f9", func := "loop.example/linkstaterouting/laws.FnExactGraphLink", spec := "fnExactGraphLink", unfollowed := true, recurses := true, apart := false }
def FnExactGraphLinkSaid : Prop := fnExactGraphLinkRow.holds Try.pinned (OpenSpec.ofChange fnExactGraphLinkSpec)

/-- ITS FALSE NEIGHBOUR: 'it returns false'. Refute it at one input. -/
def fnExactGraphLinkWrong : ChangeSpec := { name := "fnExactGraphLink", fn := fun _ => fun
  | [d1, d2, d3] => { results := [.lit (.bool false)], args := [d1, d2, d3] }
  | _ => none }
def FnExactGraphLinkWrongFalsely : Prop := fnExactGraphLinkRow.holds Try.pinned (OpenSpec.ofChange fnExactGraphLinkWrong)

/-- 'laws.FnLinkBoth': WHATEVER THE INPUT: true; the input reads as it did. -/
def fnLinkBothSpec : ChangeSpec := { name := "fnLinkBoth", fn := fun _ => fun
  | [d] => { results := [.lit (.bool true)], args := [d] }
  | _ => none }
def fnLinkBothRow : OpenClaim := { program := "ytnkcldophdbehaa", sum := "44209e2c41988710ce58f88408c1888aadf84ed21e4ba2229dd366ff8516c6f9", func := "loop.example/linkstaterouting/laws.FnLinkBoth", spec := "fnLinkBoth", unfollowed := true, recurses := true, apart := false }
def FnLinkBothSaid : Prop := fnLinkBothRow.holds Try.pinned (OpenSpec.ofChange fnLinkBothSpec)

/-- ITS FALSE NEIGHBOUR: 'it returns false'. Refute it at one input. -/
def fnLinkBothWrong : ChangeSpec := { name := "fnLinkBoth", fn := fun _ => fun
  | [d] => { results := [.lit (.bool false)], args := [d] }
  | _ => none }
def FnLinkBothWrongFalsely : Prop := fnLinkBothRow.holds Try.pinned (OpenSpec.ofChange fnLinkBothWrong)

/-- 'laws.FnCost': WHATEVER THE INPUT: true; the input reads as it did. -/
def fnCostSpec : ChangeSpec := { name := "fnCost", fn := fun _ => fun
  | [d] => { results := [.lit (.bool true)], args := [d] }
  | _ => none }
def fnCostRow : OpenClaim := { program := "ytnkcldophdbehaa", sum := "44209e2c41988710ce58f88408c1888aadf84ed21e4ba2229dd366ff8516c6f9", func := "loop.example/linkstaterouting/laws.FnCost", spec := "fnCost", apart := false }
def FnCostSaid : Prop := fnCostRow.holds Try.pinned (OpenSpec.ofChange fnCostSpec)

/-- ITS FALSE NEIGHBOUR: 'it returns false'. Refute it at one input. -/
def fnCostWrong : ChangeSpec := { name := "fnCost", fn := fun _ => fun
  | [d] => { results := [.lit (.bool false)], args := [d] }
  | _ => none }
def FnCostWrongFalsely : Prop := fnCostRow.holds Try.pinned (OpenSpec.ofChange fnCostWrong)

/-- 'laws.FnWithout': WHATEVER THE INPUT: true; the input reads as it did. -/
def fnWithoutSpec : ChangeSpec := { name := "fnWithout", fn := fun _ => fun
  | [d] => { results := [.lit (.bool true)], args := [d] }
  | _ => none }
def fnWithoutRow : OpenClaim := { program := "ytnkcldophdbehaa", sum := "44209e2c41988710ce58f88408c1888aadf84ed21e4ba2229dd366ff8516c6f9", func := "loop.example/linkstaterouting/laws.FnWithout", spec := "fnWithout", unfollowed := true, recurses := true, apart := false }
def FnWithoutSaid : Prop := fnWithoutRow.holds Try.pinned (OpenSpec.ofChange fnWithoutSpec)

/-- ITS FALSE NEIGHBOUR: 'it returns false'. Refute it at one input. -/
def fnWithoutWrong : ChangeSpec := { name := "fnWithout", fn := fun _ => fun
  | [d] => { results := [.lit (.bool false)], args := [d] }
  | _ => none }
def FnWithoutWrongFalsely : Prop := fnWithoutRow.holds Try.pinned (OpenSpec.ofChange fnWithoutWrong)

/-- 'laws.FnWithoutTwo': WHATEVER THE INPUT: true; the input reads as it did. -/
def fnWithoutTwoSpec : ChangeSpec := { name := "fnWithoutTwo", fn := fun _ => fun
  | [d1, d2] => { results := [.lit (.bool true)], args := [d1, d2] }
  | _ => none }
def fnWithoutTwoRow : OpenClaim := { program := "ytnkcldophdbehaa", sum := "44209e2c41988710ce58f88408c1888aadf84ed21e4ba2229dd366ff8516c6f9", func := "loop.example/linkstaterouting/laws.FnWithoutTwo", spec := "fnWithoutTwo", unfollowed := true, recurses := true, apart := false }
def FnWithoutTwoSaid : Prop := fnWithoutTwoRow.holds Try.pinned (OpenSpec.ofChange fnWithoutTwoSpec)

/-- ITS FALSE NEIGHBOUR: 'it returns false'. Refute it at one input. -/
def fnWithoutTwoWrong : ChangeSpec := { name := "fnWithoutTwo", fn := fun _ => fun
  | [d1, d2] => { results := [.lit (.bool false)], args := [d1, d2] }
  | _ => none }
def FnWithoutTwoWrongFalsely : Prop := fnWithoutTwoRow.holds Try.pinned (OpenSpec.ofChange fnWithoutTwoWrong)

/-- 'laws.FnExactGraphWithout': WHATEVER THE INPUT: true; the input reads as it did. -/
def fnExactGraphWithoutSpec : ChangeSpec := { name := "fnExactGraphWithout", fn := fun _ => fun
  | [d1, d2] => { results := [.lit (.bool true)], args := [d1, d2] }
  | _ => none }
def fnExactGraphWithoutRow : OpenClaim := { program := "ytnkcldophdbehaa", sum := "44209e2c41988710ce58f88408c1888aadf84ed21e4ba2229dd366ff8516c6f9", func := "loop.example/linkstaterouting/laws.FnExactGraphWithout", spec := "fnExactGraphWithout", unfollowed := true, recurses := true, apart := false }
def FnExactGraphWithoutSaid : Prop := fnExactGraphWithoutRow.holds Try.pinned (OpenSpec.ofChange fnExactGraphWithoutSpec)

/-- ITS FALSE NEIGHBOUR: 'it returns false'. Refute it at one input. -/
def fnExactGraphWithoutWrong : ChangeSpec := { name := "fnExactGraphWithout", fn := fun _ => fun
  | [d1, d2] => { results := [.lit (.bool false)], args := [d1, d2] }
  | _ => none }
def FnExactGraphWithoutWrongFalsely : Prop := fnExactGraphWithoutRow.holds Try.pinned (OpenSpec.ofChange fnExactGraphWithoutWrong)

/-- 'laws.FnExactGraphIsolate': WHATEVER THE INPUT: true; the input reads as it did. -/
def fnExactGraphIsolateSpec : ChangeSpec := { name := "fnExactGraphIsolate", fn := fun _ => fun
  | [d1, d2] => { results := [.lit (.bool true)], args := [d1, d2] }
  | _ => none }
def fnExactGraphIsolateRow : OpenClaim := { program := "ytnkcldophdbehaa", sum := "44209e2c41988710ce58f88408c1888aadf84ed21e4ba2229dd366ff8516c6f9", func := "loop.example/linkstaterouting/laws.FnExactGraphIsolate", spec := "fnExactGraphIsolate", unfollowed := true, recurses := true, apart := false }
def FnExactGraphIsolateSaid : Prop := fnExactGraphIsolateRow.holds Try.pinned (OpenSpec.ofChange fnExactGraphIsolateSpec)

/-- ITS FALSE NEIGHBOUR: 'it returns false'. Refute it at one input. -/
def fnExactGraphIsolateWrong : ChangeSpec := { name := "fnExactGraphIsolate", fn := fun _ => fun
  | [d1, d2] => { results := [.lit (.bool false)], args := [d1, d2] }
  | _ => none }
def FnExactGraphIsolateWrongFalsely : Prop := fnExactGraphIsolateRow.holds Try.pinned (OpenSpec.ofChange fnExactGraphIsolateWrong)

/-- 'laws.FnExactGraphCost': WHATEVER THE INPUT: true; the input reads as it did. -/
def fnExactGraphCostSpec : ChangeSpec := { name := "fnExactGraphCost", fn := fun _ => fun
  | [d1, d2, d3] => { results := [.lit (.bool true)], args := [d1, d2, d3] }
  | _ => none }
def fnExactGraphCostRow : OpenClaim := { program := "ytnkcldophdbehaa", sum := "44209e2c41988710ce58f88408c1888aadf84ed21e4ba2229dd366ff8516c6f9", func := "loop.example/linkstaterouting/laws.FnExactGraphCost", spec := "fnExactGraphCost", apart := false }
def FnExactGraphCostSaid : Prop := fnExactGraphCostRow.holds Try.pinned (OpenSpec.ofChange fnExactGraphCostSpec)

/-- ITS FALSE NEIGHBOUR: 'it returns false'. Refute it at one input. -/
def fnExactGraphCostWrong : ChangeSpec := { name := "fnExactGraphCost", fn := fun _ => fun
  | [d1, d2, d3] => { results := [.lit (.bool false)], args := [d1, d2, d3] }
  | _ => none }
def FnExactGraphCostWrongFalsely : Prop := fnExactGraphCostRow.holds Try.pinned (OpenSpec.ofChange fnExactGraphCostWrong)

/-- 'laws.FnExactNodeUsed': WHATEVER THE INPUT: true; the input reads as it did. -/
def fnExactNodeUsedSpec : ChangeSpec := { name := "fnExactNodeUsed", fn := fun _ => fun
  | [d1, d2, d3, d4] => { results := [.lit (.bool true)], args := [d1, d2, d3, d4] }
  | _ => none }
def fnExactNodeUsedRow : OpenClaim := { program := "ytnkcldophdbehaa", sum := "44209e2c41988710ce58f88408c1888aadf84ed21e4ba2229dd366ff8516c6f9", func := "loop.example/linkstaterouting/laws.FnExactNodeUsed", spec := "fnExactNodeUsed", apart := false }
def FnExactNodeUsedSaid : Prop := fnExactNodeUsedRow.holds Try.pinned (OpenSpec.ofChange fnExactNodeUsedSpec)

/-- ITS FALSE NEIGHBOUR: 'it returns false'. Refute it at one input. -/
def fnExactNodeUsedWrong : ChangeSpec := { name := "fnExactNodeUsed", fn := fun _ => fun
  | [d1, d2, d3, d4] => { results := [.lit (.bool false)], args := [d1, d2, d3, d4] }
  | _ => none }
def FnExactNodeUsedWrongFalsely : Prop := fnExactNodeUsedRow.holds Try.pinned (OpenSpec.ofChange fnExactNodeUsedWrong)

/-- 'laws.FnDistancesLink': WHATEVER THE INPUT: true; the input reads as it did. -/
def fnDistancesLinkSpec : ChangeSpec := { name := "fnDistancesLink", fn := fun _ => fun
  | [d] => { results := [.lit (.bool true)], args := [d] }
  | _ => none }
def fnDistancesLinkRow : OpenClaim := { program := "ytnkcldophdbehaa", sum := "44209e2c41988710ce58f88408c1888aadf84ed21e4ba2229dd366ff8516c6f9", func := "loop.example/linkstaterouting/laws.FnDistancesLink", spec := "fnDistancesLink", apart := false }
def FnDistancesLinkSaid : Prop := fnDistancesLinkRow.holds Try.pinned (OpenSpec.ofChange fnDistancesLinkSpec)

/-- ITS FALSE NEIGHBOUR: 'it returns false'. Refute it at one input. -/
def fnDistancesLinkWrong : ChangeSpec := { name := "fnDistancesLink", fn := fun _ => fun
  | [d] => { results := [.lit (.bool false)], args := [d] }
  | _ => none }
def FnDistancesLinkWrongFalsely : Prop := fnDistancesLinkRow.holds Try.pinned (OpenSpec.ofChange fnDistancesLinkWrong)

/- THE SECOND FORM. 'bulk': how many values and letters a reading holds, each counted each time it is reached (what is shared counts as often as it is met; a slice's spare places count too). A statement '..UptoSaid' is the law's where the arguments, and the package variables that the reading takes, are together of bulk at most 1048576: NARROWER than '..Said'. Prove '..Said' where nothing that the law and all that it calls make is longer than what came in: it says more and counts as full. Else prove '..UptoSaid'. A law counts once. -/
mutual
def uptoBulk {H : Type} : DataW H → Nat
  | .lit (.string bytes) => bytes.length + 1
  | .lit _ => 1
  | .nil => 1
  | .ptr d => uptoBulk d + 1
  | .slice elems spare => uptoBulkAll elems + uptoBulkAll spare + 1
  | .agg parts => uptoBulkAll parts + 1
  | .iface _ d => uptoBulk d + 1
  | .map entries => uptoBulkEntries entries + 1
  | .held _ => 1
def uptoBulkAll {H : Type} : List (DataW H) → Nat
  | [] => 0
  | d :: r => uptoBulk d + uptoBulkAll r
def uptoBulkEntries {H : Type} : List (Lit × DataW H) → Nat
  | [] => 0
  | x :: r => uptoBulkEntry x + uptoBulkEntries r
def uptoBulkEntry {H : Type} : Lit × DataW H → Nat
  | (.string bytes, d) => bytes.length + uptoBulk d + 1
  | (_, d) => uptoBulk d + 1
 end
def uptoSmall : (H : Type) → List (DataW H) → Bool := fun _ ds => decide (uptoBulkAll ds ≤ 1048576)
def OpenSpec.upto (s : _root_.Go.ChangeSpec) : _root_.Go.OpenSpec := { _root_.Go.OpenSpec.ofChange s with cond := some uptoSmall }

/-- 'laws.FnExactConstants', WHERE WHAT IT READS IS OF BULK AT MOST 1048576: true; the input reads as it did. -/
def fnExactConstantsUptoRow : OpenClaim := { program := "ytnkcldophdbehaa", sum := "44209e2c41988710ce58f88408c1888aadf84ed21e4ba2229dd366ff8516c6f9", func := "loop.example/linkstaterouting/laws.FnExactConstants", spec := "fnExactConstants", apart := false, narrowed := true }
def FnExactConstantsUptoSaid : Prop := fnExactConstantsUptoRow.holds Try.pinned (OpenSpec.upto fnExactConstantsSpec)

/-- 'laws.FnExactGraphValid', WHERE WHAT IT READS IS OF BULK AT MOST 1048576: true; the input reads as it did. -/
def fnExactGraphValidUptoRow : OpenClaim := { program := "ytnkcldophdbehaa", sum := "44209e2c41988710ce58f88408c1888aadf84ed21e4ba2229dd366ff8516c6f9", func := "loop.example/linkstaterouting/laws.FnExactGraphValid", spec := "fnExactGraphValid", apart := false, narrowed := true }
def FnExactGraphValidUptoSaid : Prop := fnExactGraphValidUptoRow.holds Try.pinned (OpenSpec.upto fnExactGraphValidSpec)

/-- 'laws.FnExactGraphLink', WHERE WHAT IT READS IS OF BULK AT MOST 1048576: true; the input reads as it did. -/
def fnExactGraphLinkUptoRow : OpenClaim := { program := "ytnkcldophdbehaa", sum := "44209e2c41988710ce58f88408c1888aadf84ed21e4ba2229dd366ff8516c6f9", func := "loop.example/linkstaterouting/laws.FnExactGraphLink", spec := "fnExactGraphLink", unfollowed := true, recurses := true, apart := false, narrowed := true }
def FnExactGraphLinkUptoSaid : Prop := fnExactGraphLinkUptoRow.holds Try.pinned (OpenSpec.upto fnExactGraphLinkSpec)

/-- 'laws.FnLinkBoth', WHERE WHAT IT READS IS OF BULK AT MOST 1048576: true; the input reads as it did. -/
def fnLinkBothUptoRow : OpenClaim := { program := "ytnkcldophdbehaa", sum := "44209e2c41988710ce58f88408c1888aadf84ed21e4ba2229dd366ff8516c6f9", func := "loop.example/linkstaterouting/laws.FnLinkBoth", spec := "fnLinkBoth", unfollowed := true, recurses := true, apart := false, narrowed := true }
def FnLinkBothUptoSaid : Prop := fnLinkBothUptoRow.holds Try.pinned (OpenSpec.upto fnLinkBothSpec)

/-- 'laws.FnCost', WHERE WHAT IT READS IS OF BULK AT MOST 1048576: true; the input reads as it did. -/
def fnCostUptoRow : OpenClaim := { program := "ytnkcldophdbehaa", sum := "44209e2c41988710ce58f88408c1888aadf84ed21e4ba2229dd366ff8516c6f9", func := "loop.example/linkstaterouting/laws.FnCost", spec := "fnCost", apart := false, narrowed := true }
def FnCostUptoSaid : Prop := fnCostUptoRow.holds Try.pinned (OpenSpec.upto fnCostSpec)

/-- 'laws.FnWithout', WHERE WHAT IT READS IS OF BULK AT MOST 1048576: true; the input reads as it did. -/
def fnWithoutUptoRow : OpenClaim := { program := "ytnkcldophdbehaa", sum := "44209e2c41988710ce58f88408c1888aadf84ed21e4ba2229dd366ff8516c6f9", func := "loop.example/linkstaterouting/laws.FnWithout", spec := "fnWithout", unfollowed := true, recurses := true, apart := false, narrowed := true }
def FnWithoutUptoSaid : Prop := fnWithoutUptoRow.holds Try.pinned (OpenSpec.upto fnWithoutSpec)

/-- 'laws.FnWithoutTwo', WHERE WHAT IT READS IS OF BULK AT MOST 1048576: true; the input reads as it did. -/
def fnWithoutTwoUptoRow : OpenClaim := { program := "ytnkcldophdbehaa", sum := "44209e2c41988710ce58f88408c1888aadf84ed21e4ba2229dd366ff8516c6f9", func := "loop.example/linkstaterouting/laws.FnWithoutTwo", spec := "fnWithoutTwo", unfollowed := true, recurses := true, apart := false, narrowed := true }
def FnWithoutTwoUptoSaid : Prop := fnWithoutTwoUptoRow.holds Try.pinned (OpenSpec.upto fnWithoutTwoSpec)

/-- 'laws.FnExactGraphWithout', WHERE WHAT IT READS IS OF BULK AT MOST 1048576: true; the input reads as it did. -/
def fnExactGraphWithoutUptoRow : OpenClaim := { program := "ytnkcldophdbehaa", sum := "44209e2c41988710ce58f88408c1888aadf84ed21e4ba2229dd366ff8516c6f9", func := "loop.example/linkstaterouting/laws.FnExactGraphWithout", spec := "fnExactGraphWithout", unfollowed := true, recurses := true, apart := false, narrowed := true }
def FnExactGraphWithoutUptoSaid : Prop := fnExactGraphWithoutUptoRow.holds Try.pinned (OpenSpec.upto fnExactGraphWithoutSpec)

/-- 'laws.FnExactGraphIsolate', WHERE WHAT IT READS IS OF BULK AT MOST 1048576: true; the input reads as it did. -/
def fnExactGraphIsolateUptoRow : OpenClaim := { program := "ytnkcldophdbehaa", sum := "44209e2c41988710ce58f88408c1888aadf84ed21e4ba2229dd366ff8516c6f9", func := "loop.example/linkstaterouting/laws.FnExactGraphIsolate", spec := "fnExactGraphIsolate", unfollowed := true, recurses := true, apart := false, narrowed := true }
def FnExactGraphIsolateUptoSaid : Prop := fnExactGraphIsolateUptoRow.holds Try.pinned (OpenSpec.upto fnExactGraphIsolateSpec)

/-- 'laws.FnExactGraphCost', WHERE WHAT IT READS IS OF BULK AT MOST 1048576: true; the input reads as it did. -/
def fnExactGraphCostUptoRow : OpenClaim := { program := "ytnkcldophdbehaa", sum := "44209e2c41988710ce58f88408c1888aadf84ed21e4ba2229dd366ff8516c6f9", func := "loop.example/linkstaterouting/laws.FnExactGraphCost", spec := "fnExactGraphCost", apart := false, narrowed := true }
def FnExactGraphCostUptoSaid : Prop := fnExactGraphCostUptoRow.holds Try.pinned (OpenSpec.upto fnExactGraphCostSpec)

/-- 'laws.FnExactNodeUsed', WHERE WHAT IT READS IS OF BULK AT MOST 1048576: true; the input reads as it did. -/
def fnExactNodeUsedUptoRow : OpenClaim := { program := "ytnkcldophdbehaa", sum := "44209e2c41988710ce58f88408c1888aadf84ed21e4ba2229dd366ff8516c6f9", func := "loop.example/linkstaterouting/laws.FnExactNodeUsed", spec := "fnExactNodeUsed", apart := false, narrowed := true }
def FnExactNodeUsedUptoSaid : Prop := fnExactNodeUsedUptoRow.holds Try.pinned (OpenSpec.upto fnExactNodeUsedSpec)

/-- 'laws.FnDistancesLink', WHERE WHAT IT READS IS OF BULK AT MOST 1048576: true; the input reads as it did. -/
def fnDistancesLinkUptoRow : OpenClaim := { program := "ytnkcldophdbehaa", sum := "44209e2c41988710ce58f88408c1888aadf84ed21e4ba2229dd366ff8516c6f9", func := "loop.example/linkstaterouting/laws.FnDistancesLink", spec := "fnDistancesLink", apart := false, narrowed := true }
def FnDistancesLinkUptoSaid : Prop := fnDistancesLinkUptoRow.holds Try.pinned (OpenSpec.upto fnDistancesLinkSpec)

end Rows
end Go.Proofs.Ytnkcldophdbehaa
