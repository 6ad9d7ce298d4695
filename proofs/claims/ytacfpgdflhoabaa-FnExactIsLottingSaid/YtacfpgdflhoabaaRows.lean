/-
  No cell of these rows narrows 'for every input' (looked for: loops, veiled, ifaces, maps, wideKeys, modest, calm, conditions, laid).
  DERIVED. THE GIVEN ROWS OF THIS SEAT. 12 by the template 'for every input the law returns true; each argument reads behind the call as it read before'; 0 by the template 'total and deterministic' (their statements: YtacfpgdflhoabaaTotals.lean).
  GIVEN WITH THE SEED: the statements are not yours to turn. If you find one false, say at which input.
  Laid BY PROGRAM, IN A SANDBOX (cutbox-rows.mjs): the forced cells as the released guide's own fill.sh prints them over the translation eb4e688ba5f6758c… (all of the seat's roots in one cut). By AI agents, Wed Nov 11 2026. No macro, syntax, notation, axiom, sorry.
-/
import Derived.Test.YtacfpgdflhoabaaChecked
import GoSem.Claim
import GoSem.ClaimJoined
import GoSem.ClaimMapViews
import Derived.JoinedTies
import Derived.KernelRfl
namespace Go.Proofs.Ytacfpgdflhoabaa
/- THE CELL 'sum', in the pinned program and in every row, IS THE sha256 OF THE DUMP (.gsa) THAT YtacfpgdflhoabaaProg.lean LOADS. Nothing in Lean hashes anything: it is a label: what it is worth is what the hold of that sum in a sandbox is worth. -/
noncomputable def Try.pinned : Pinned := { name := "ytacfpgdflhoabaa", sum := "eb4e688ba5f6758c87bbafefa6bab5d5f1f614dbd8547d059b642abd3c0be450", checked := Try.checked }
namespace Rows
def none {H : Type} : Left H := { results := [], args := [] }

/-- 'laws.FnExactPeggedFor': WHATEVER THE INPUT: true; the input reads as it did. -/
def fnExactPeggedForSpec : ChangeSpec := { name := "fnExactPeggedFor", fn := fun _ => fun
  | [d1, d2] => { results := [.lit (.bool true)], args := [d1, d2] }
  | _ => none }
def fnExactPeggedForRow : OpenClaim := { program := "ytacfpgdflhoabaa", sum := "eb4e688ba5f6758c87bbafefa6bab5d5f1f614dbd8547d059b642abd3c0be450", func := "loop.example/g03407/laws.FnExactPeggedFor", spec := "fnExactPeggedFor", apart := false }
def FnExactPeggedForSaid : Prop := fnExactPeggedForRow.holds Try.pinned (OpenSpec.ofChange fnExactPeggedForSpec)

/-- ITS FALSE NEIGHBOUR: 'it returns false'. Refute it at one input. -/
def fnExactPeggedForWrong : ChangeSpec := { name := "fnExactPeggedFor", fn := fun _ => fun
  | [d1, d2] => { results := [.lit (.bool false)], args := [d1, d2] }
  | _ => none }
def FnExactPeggedForWrongFalsely : Prop := fnExactPeggedForRow.holds Try.pinned (OpenSpec.ofChange fnExactPeggedForWrong)

/-- 'laws.FnExactSpareOn': WHATEVER THE INPUT: true; the input reads as it did. -/
def fnExactSpareOnSpec : ChangeSpec := { name := "fnExactSpareOn", fn := fun _ => fun
  | [d1, d2, d3] => { results := [.lit (.bool true)], args := [d1, d2, d3] }
  | _ => none }
def fnExactSpareOnRow : OpenClaim := { program := "ytacfpgdflhoabaa", sum := "eb4e688ba5f6758c87bbafefa6bab5d5f1f614dbd8547d059b642abd3c0be450", func := "loop.example/g03407/laws.FnExactSpareOn", spec := "fnExactSpareOn", apart := false }
def FnExactSpareOnSaid : Prop := fnExactSpareOnRow.holds Try.pinned (OpenSpec.ofChange fnExactSpareOnSpec)

/-- ITS FALSE NEIGHBOUR: 'it returns false'. Refute it at one input. -/
def fnExactSpareOnWrong : ChangeSpec := { name := "fnExactSpareOn", fn := fun _ => fun
  | [d1, d2, d3] => { results := [.lit (.bool false)], args := [d1, d2, d3] }
  | _ => none }
def FnExactSpareOnWrongFalsely : Prop := fnExactSpareOnRow.holds Try.pinned (OpenSpec.ofChange fnExactSpareOnWrong)

/-- 'laws.FnExactLackOf': WHATEVER THE INPUT: true; the input reads as it did. -/
def fnExactLackOfSpec : ChangeSpec := { name := "fnExactLackOf", fn := fun _ => fun
  | [d1, d2] => { results := [.lit (.bool true)], args := [d1, d2] }
  | _ => none }
def fnExactLackOfRow : OpenClaim := { program := "ytacfpgdflhoabaa", sum := "eb4e688ba5f6758c87bbafefa6bab5d5f1f614dbd8547d059b642abd3c0be450", func := "loop.example/g03407/laws.FnExactLackOf", spec := "fnExactLackOf", apart := false }
def FnExactLackOfSaid : Prop := fnExactLackOfRow.holds Try.pinned (OpenSpec.ofChange fnExactLackOfSpec)

/-- ITS FALSE NEIGHBOUR: 'it returns false'. Refute it at one input. -/
def fnExactLackOfWrong : ChangeSpec := { name := "fnExactLackOf", fn := fun _ => fun
  | [d1, d2] => { results := [.lit (.bool false)], args := [d1, d2] }
  | _ => none }
def FnExactLackOfWrongFalsely : Prop := fnExactLackOfRow.holds Try.pinned (OpenSpec.ofChange fnExactLackOfWrong)

/-- 'laws.FnExactIsKept': WHATEVER THE INPUT: true; the input reads as it did. -/
def fnExactIsKeptSpec : ChangeSpec := { name := "fnExactIsKept", fn := fun _ => fun
  | [d1, d2] => { results := [.lit (.bool true)], args := [d1, d2] }
  | _ => none }
def fnExactIsKeptRow : OpenClaim := { program := "ytacfpgdflhoabaa", sum := "eb4e688ba5f6758c87bbafefa6bab5d5f1f614dbd8547d059b642abd3c0be450", func := "loop.example/g03407/laws.FnExactIsKept", spec := "fnExactIsKept", apart := false }
def FnExactIsKeptSaid : Prop := fnExactIsKeptRow.holds Try.pinned (OpenSpec.ofChange fnExactIsKeptSpec)

/-- ITS FALSE NEIGHBOUR: 'it returns false'. Refute it at one input. -/
def fnExactIsKeptWrong : ChangeSpec := { name := "fnExactIsKept", fn := fun _ => fun
  | [d1, d2] => { results := [.lit (.bool false)], args := [d1, d2] }
  | _ => none }
def FnExactIsKeptWrongFalsely : Prop := fnExactIsKeptRow.holds Try.pinned (OpenSpec.ofChange fnExactIsKeptWrong)

/-- 'laws.FnExactIsCovered': WHATEVER THE INPUT: true; the input reads as it did. -/
def fnExactIsCoveredSpec : ChangeSpec := { name := "fnExactIsCovered", fn := fun _ => fun
  | [d1, d2, d3, d4] => { results := [.lit (.bool true)], args := [d1, d2, d3, d4] }
  | _ => none }
def fnExactIsCoveredRow : OpenClaim := { program := "ytacfpgdflhoabaa", sum := "eb4e688ba5f6758c87bbafefa6bab5d5f1f614dbd8547d059b642abd3c0be450", func := "loop.example/g03407/laws.FnExactIsCovered", spec := "fnExactIsCovered", apart := false }
def FnExactIsCoveredSaid : Prop := fnExactIsCoveredRow.holds Try.pinned (OpenSpec.ofChange fnExactIsCoveredSpec)

/-- ITS FALSE NEIGHBOUR: 'it returns false'. Refute it at one input. -/
def fnExactIsCoveredWrong : ChangeSpec := { name := "fnExactIsCovered", fn := fun _ => fun
  | [d1, d2, d3, d4] => { results := [.lit (.bool false)], args := [d1, d2, d3, d4] }
  | _ => none }
def FnExactIsCoveredWrongFalsely : Prop := fnExactIsCoveredRow.holds Try.pinned (OpenSpec.ofChange fnExactIsCoveredWrong)

/-- 'laws.FnExactCancelPromise': WHATEVER THE INPUT: true; the input reads as it did. -/
def fnExactCancelPromiseSpec : ChangeSpec := { name := "fnExactCancelPromise", fn := fun _ => fun
  | [d1, d2, d3] => { results := [.lit (.bool true)], args := [d1, d2, d3] }
  | _ => none }
def fnExactCancelPromiseRow : OpenClaim := { program := "ytacfpgdflhoabaa", sum := "eb4e688ba5f6758c87bbafefa6bab5d5f1f614dbd8547d059b642abd3c0be450", func := "loop.example/g03407/laws.FnExactCancelPromise", spec := "fnExactCancelPromise", apart := false }
def FnExactCancelPromiseSaid : Prop := fnExactCancelPromiseRow.holds Try.pinned (OpenSpec.ofChange fnExactCancelPromiseSpec)

/-- ITS FALSE NEIGHBOUR: 'it returns false'. Refute it at one input. -/
def fnExactCancelPromiseWrong : ChangeSpec := { name := "fnExactCancelPromise", fn := fun _ => fun
  | [d1, d2, d3] => { results := [.lit (.bool false)], args := [d1, d2, d3] }
  | _ => none }
def FnExactCancelPromiseWrongFalsely : Prop := fnExactCancelPromiseRow.holds Try.pinned (OpenSpec.ofChange fnExactCancelPromiseWrong)

/-- 'laws.FnExactOpenOn': WHATEVER THE INPUT: true; the input reads as it did. -/
def fnExactOpenOnSpec : ChangeSpec := { name := "fnExactOpenOn", fn := fun _ => fun
  | [d1, d2, d3] => { results := [.lit (.bool true)], args := [d1, d2, d3] }
  | _ => none }
def fnExactOpenOnRow : OpenClaim := { program := "ytacfpgdflhoabaa", sum := "eb4e688ba5f6758c87bbafefa6bab5d5f1f614dbd8547d059b642abd3c0be450", func := "loop.example/g03407/laws.FnExactOpenOn", spec := "fnExactOpenOn", apart := false }
def FnExactOpenOnSaid : Prop := fnExactOpenOnRow.holds Try.pinned (OpenSpec.ofChange fnExactOpenOnSpec)

/-- ITS FALSE NEIGHBOUR: 'it returns false'. Refute it at one input. -/
def fnExactOpenOnWrong : ChangeSpec := { name := "fnExactOpenOn", fn := fun _ => fun
  | [d1, d2, d3] => { results := [.lit (.bool false)], args := [d1, d2, d3] }
  | _ => none }
def FnExactOpenOnWrongFalsely : Prop := fnExactOpenOnRow.holds Try.pinned (OpenSpec.ofChange fnExactOpenOnWrong)

/-- 'laws.FnExactIsLotting': WHATEVER THE INPUT: true; the input reads as it did. -/
def fnExactIsLottingSpec : ChangeSpec := { name := "fnExactIsLotting", fn := fun _ => fun
  | [d1, d2, d3, d4] => { results := [.lit (.bool true)], args := [d1, d2, d3, d4] }
  | _ => none }
def fnExactIsLottingRow : OpenClaim := { program := "ytacfpgdflhoabaa", sum := "eb4e688ba5f6758c87bbafefa6bab5d5f1f614dbd8547d059b642abd3c0be450", func := "loop.example/g03407/laws.FnExactIsLotting", spec := "fnExactIsLotting", apart := false }
def FnExactIsLottingSaid : Prop := fnExactIsLottingRow.holds Try.pinned (OpenSpec.ofChange fnExactIsLottingSpec)

/-- ITS FALSE NEIGHBOUR: 'it returns false'. Refute it at one input. -/
def fnExactIsLottingWrong : ChangeSpec := { name := "fnExactIsLotting", fn := fun _ => fun
  | [d1, d2, d3, d4] => { results := [.lit (.bool false)], args := [d1, d2, d3, d4] }
  | _ => none }
def FnExactIsLottingWrongFalsely : Prop := fnExactIsLottingRow.holds Try.pinned (OpenSpec.ofChange fnExactIsLottingWrong)

/-- 'laws.FnExactMergeFlows': WHATEVER THE INPUT: true; the input reads as it did. -/
def fnExactMergeFlowsSpec : ChangeSpec := { name := "fnExactMergeFlows", fn := fun _ => fun
  | [d1, d2] => { results := [.lit (.bool true)], args := [d1, d2] }
  | _ => none }
def fnExactMergeFlowsRow : OpenClaim := { program := "ytacfpgdflhoabaa", sum := "eb4e688ba5f6758c87bbafefa6bab5d5f1f614dbd8547d059b642abd3c0be450", func := "loop.example/g03407/laws.FnExactMergeFlows", spec := "fnExactMergeFlows", apart := false }
def FnExactMergeFlowsSaid : Prop := fnExactMergeFlowsRow.holds Try.pinned (OpenSpec.ofChange fnExactMergeFlowsSpec)

/-- ITS FALSE NEIGHBOUR: 'it returns false'. Refute it at one input. -/
def fnExactMergeFlowsWrong : ChangeSpec := { name := "fnExactMergeFlows", fn := fun _ => fun
  | [d1, d2] => { results := [.lit (.bool false)], args := [d1, d2] }
  | _ => none }
def FnExactMergeFlowsWrongFalsely : Prop := fnExactMergeFlowsRow.holds Try.pinned (OpenSpec.ofChange fnExactMergeFlowsWrong)

/-- 'laws.FnExactNetNeeds': WHATEVER THE INPUT: true; the input reads as it did. -/
def fnExactNetNeedsSpec : ChangeSpec := { name := "fnExactNetNeeds", fn := fun _ => fun
  | [d1, d2, d3, d4] => { results := [.lit (.bool true)], args := [d1, d2, d3, d4] }
  | _ => none }
def fnExactNetNeedsRow : OpenClaim := { program := "ytacfpgdflhoabaa", sum := "eb4e688ba5f6758c87bbafefa6bab5d5f1f614dbd8547d059b642abd3c0be450", func := "loop.example/g03407/laws.FnExactNetNeeds", spec := "fnExactNetNeeds", apart := false }
def FnExactNetNeedsSaid : Prop := fnExactNetNeedsRow.holds Try.pinned (OpenSpec.ofChange fnExactNetNeedsSpec)

/-- ITS FALSE NEIGHBOUR: 'it returns false'. Refute it at one input. -/
def fnExactNetNeedsWrong : ChangeSpec := { name := "fnExactNetNeeds", fn := fun _ => fun
  | [d1, d2, d3, d4] => { results := [.lit (.bool false)], args := [d1, d2, d3, d4] }
  | _ => none }
def FnExactNetNeedsWrongFalsely : Prop := fnExactNetNeedsRow.holds Try.pinned (OpenSpec.ofChange fnExactNetNeedsWrong)

/-- 'laws.FnExactIsPegging': WHATEVER THE INPUT: true; the input reads as it did. -/
def fnExactIsPeggingSpec : ChangeSpec := { name := "fnExactIsPegging", fn := fun _ => fun
  | [d1, d2, d3] => { results := [.lit (.bool true)], args := [d1, d2, d3] }
  | _ => none }
def fnExactIsPeggingRow : OpenClaim := { program := "ytacfpgdflhoabaa", sum := "eb4e688ba5f6758c87bbafefa6bab5d5f1f614dbd8547d059b642abd3c0be450", func := "loop.example/g03407/laws.FnExactIsPegging", spec := "fnExactIsPegging", apart := false }
def FnExactIsPeggingSaid : Prop := fnExactIsPeggingRow.holds Try.pinned (OpenSpec.ofChange fnExactIsPeggingSpec)

/-- ITS FALSE NEIGHBOUR: 'it returns false'. Refute it at one input. -/
def fnExactIsPeggingWrong : ChangeSpec := { name := "fnExactIsPegging", fn := fun _ => fun
  | [d1, d2, d3] => { results := [.lit (.bool false)], args := [d1, d2, d3] }
  | _ => none }
def FnExactIsPeggingWrongFalsely : Prop := fnExactIsPeggingRow.holds Try.pinned (OpenSpec.ofChange fnExactIsPeggingWrong)

/-- 'laws.FnExactPromiseDay': WHATEVER THE INPUT: true; the input reads as it did. -/
def fnExactPromiseDaySpec : ChangeSpec := { name := "fnExactPromiseDay", fn := fun _ => fun
  | [d1, d2, d3, d4] => { results := [.lit (.bool true)], args := [d1, d2, d3, d4] }
  | _ => none }
def fnExactPromiseDayRow : OpenClaim := { program := "ytacfpgdflhoabaa", sum := "eb4e688ba5f6758c87bbafefa6bab5d5f1f614dbd8547d059b642abd3c0be450", func := "loop.example/g03407/laws.FnExactPromiseDay", spec := "fnExactPromiseDay", apart := false }
def FnExactPromiseDaySaid : Prop := fnExactPromiseDayRow.holds Try.pinned (OpenSpec.ofChange fnExactPromiseDaySpec)

/-- ITS FALSE NEIGHBOUR: 'it returns false'. Refute it at one input. -/
def fnExactPromiseDayWrong : ChangeSpec := { name := "fnExactPromiseDay", fn := fun _ => fun
  | [d1, d2, d3, d4] => { results := [.lit (.bool false)], args := [d1, d2, d3, d4] }
  | _ => none }
def FnExactPromiseDayWrongFalsely : Prop := fnExactPromiseDayRow.holds Try.pinned (OpenSpec.ofChange fnExactPromiseDayWrong)

/- THE SECOND FORM. 'bulk': how many values and letters a reading holds, each counted each time it is reached (what is shared counts as often as it is met; a slice's spare places count too). A statement '..UptoSaid' is the law's where the arguments, and the package variables that the reading takes, are together of bulk at most 1048576: NARROWER than '..Said'. Prove '..Said' where nothing that the law and all that it calls make is longer than what came in: it says more and counts as full. Else prove '..UptoSaid'. A law counts once. -/
mutual
def uptoBulk {H : Type} : DataW H → Nat
  | .lit (.string bytes) => bytes.length + 1
  | .lit _ => 1
  | .nil => 1
  | .ptr d => uptoBulk d + 1
  | .slice elems spare => uptoBulkAll elems + uptoBulkAll spare + 1
  | .agg parts => uptoBulkAll parts + 1
  | .iface _ d => uptoBulk d + 1
  | .map entries => uptoBulkEntries entries + 1
  | .held _ => 1
def uptoBulkAll {H : Type} : List (DataW H) → Nat
  | [] => 0
  | d :: r => uptoBulk d + uptoBulkAll r
def uptoBulkEntries {H : Type} : List (Lit × DataW H) → Nat
  | [] => 0
  | x :: r => uptoBulkEntry x + uptoBulkEntries r
def uptoBulkEntry {H : Type} : Lit × DataW H → Nat
  | (.string bytes, d) => bytes.length + uptoBulk d + 1
  | (_, d) => uptoBulk d + 1
 end
def uptoSmall : (H : Type) → List (DataW H) → Bool := fun _ ds => decide (uptoBulkAll ds ≤ 1048576)
def OpenSpec.upto (s : _root_.Go.ChangeSpec) : _root_.Go.OpenSpec := { _root_.Go.OpenSpec.ofChange s with cond := some uptoSmall }

/-- 'laws.FnExactPeggedFor', WHERE WHAT IT READS IS OF BULK AT MOST 1048576: true; the input reads as it did. -/
def fnExactPeggedForUptoRow : OpenClaim := { program := "ytacfpgdflhoabaa", sum := "eb4e688ba5f6758c87bbafefa6bab5d5f1f614dbd8547d059b642abd3c0be450", func := "loop.example/g03407/laws.FnExactPeggedFor", spec := "fnExactPeggedFor", apart := false, narrowed := true }
def FnExactPeggedForUptoSaid : Prop := fnExactPeggedForUptoRow.holds Try.pinned (OpenSpec.upto fnExactPeggedForSpec)

/-- 'laws.FnExactSpareOn', WHERE WHAT IT READS IS OF BULK AT MOST 1048576: true; the input reads as it did. -/
def fnExactSpareOnUptoRow : OpenClaim := { program := "ytacfpgdflhoabaa", sum := "eb4e688ba5f6758c87bbafefa6bab5d5f1f614dbd8547d059b642abd3c0be450", func := "loop.example/g03407/laws.FnExactSpareOn", spec := "fnExactSpareOn", apart := false, narrowed := true }
def FnExactSpareOnUptoSaid : Prop := fnExactSpareOnUptoRow.holds Try.pinned (OpenSpec.upto fnExactSpareOnSpec)

/-- 'laws.FnExactLackOf', WHERE WHAT IT READS IS OF BULK AT MOST 1048576: true; the input reads as it did. -/
def fnExactLackOfUptoRow : OpenClaim := { program := "ytacfpgdflhoabaa", sum := "eb4e688ba5f6758c87bbafefa6bab5d5f1f614dbd8547d059b642abd3c0be450", func := "loop.example/g03407/laws.FnExactLackOf", spec := "fnExactLackOf", apart := false, narrowed := true }
def FnExactLackOfUptoSaid : Prop := fnExactLackOfUptoRow.holds Try.pinned (OpenSpec.upto fnExactLackOfSpec)

/-- 'laws.FnExactIsKept', WHERE WHAT IT READS IS OF BULK AT MOST 1048576: true; the input reads as it did. -/
def fnExactIsKeptUptoRow : OpenClaim := { program := "ytacfpgdflhoabaa", sum := "eb4e688ba5f6758c87bbafefa6bab5d5f1f614dbd8547d059b642abd3c0be450", func := "loop.example/g03407/laws.FnExactIsKept", spec := "fnExactIsKept", apart := false, narrowed := true }
def FnExactIsKeptUptoSaid : Prop := fnExactIsKeptUptoRow.holds Try.pinned (OpenSpec.upto fnExactIsKeptSpec)

/-- 'laws.FnExactIsCovered', WHERE WHAT IT READS IS OF BULK AT MOST 1048576: true; the input reads as it did. -/
def fnExactIsCoveredUptoRow : OpenClaim := { program := "ytacfpgdflhoabaa", sum := "eb4e688ba5f6758c87bbafefa6bab5d5f1f614dbd8547d059b642abd3c0be450", func := "loop.example/g03407/laws.FnExactIsCovered", spec := "fnExactIsCovered", apart := false, narrowed := true }
def FnExactIsCoveredUptoSaid : Prop := fnExactIsCoveredUptoRow.holds Try.pinned (OpenSpec.upto fnExactIsCoveredSpec)

/-- 'laws.FnExactCancelPromise', WHERE WHAT IT READS IS OF BULK AT MOST 1048576: true; the input reads as it did. -/
def fnExactCancelPromiseUptoRow : OpenClaim := { program := "ytacfpgdflhoabaa", sum := "eb4e688ba5f6758c87bbafefa6bab5d5f1f614dbd8547d059b642abd3c0be450", func := "loop.example/g03407/laws.FnExactCancelPromise", spec := "fnExactCancelPromise", apart := false, narrowed := true }
def FnExactCancelPromiseUptoSaid : Prop := fnExactCancelPromiseUptoRow.holds Try.pinned (OpenSpec.upto fnExactCancelPromiseSpec)

/-- 'laws.FnExactOpenOn', WHERE WHAT IT READS IS OF BULK AT MOST 1048576: true; the input reads as it did. -/
def fnExactOpenOnUptoRow : OpenClaim := { program := "ytacfpgdflhoabaa", sum := "eb4e688ba5f6758c87bbafefa6bab5d5f1f614dbd8547d059b642abd3c0be450", func := "loop.example/g03407/laws.FnExactOpenOn", spec := "fnExactOpenOn", apart := false, narrowed := true }
def FnExactOpenOnUptoSaid : Prop := fnExactOpenOnUptoRow.holds Try.pinned (OpenSpec.upto fnExactOpenOnSpec)

/-- 'laws.FnExactIsLotting', WHERE WHAT IT READS IS OF BULK AT MOST 1048576: true; the input reads as it did. -/
def fnExactIsLottingUptoRow : OpenClaim := { program := "ytacfpgdflhoabaa", sum := "eb4e688ba5f6758c87bbafefa6bab5d5f1f614dbd8547d059b642abd3c0be450", func := "loop.example/g03407/laws.FnExactIsLotting", spec := "fnExactIsLotting", apart := false, narrowed := true }
def FnExactIsLottingUptoSaid : Prop := fnExactIsLottingUptoRow.holds Try.pinned (OpenSpec.upto fnExactIsLottingSpec)

/-- 'laws.FnExactMergeFlows', WHERE WHAT IT READS IS OF BULK AT MOST 1048576: true; the input reads as it did. -/
def fnExactMergeFlowsUptoRow : OpenClaim := { program := "ytacfpgdflhoabaa", sum := "eb4e688ba5f6758c87bbafefa6bab5d5f1f614dbd8547d059b642abd3c0be450", func := "loop.example/g03407/laws.FnExactMergeFlows", spec := "fnExactMergeFlows", apart := false, narrowed := true }
def FnExactMergeFlowsUptoSaid : Prop := fnExactMergeFlowsUptoRow.holds Try.pinned (OpenSpec.upto fnExactMergeFlowsSpec)

/-- 'laws.FnExactNetNeeds', WHERE WHAT IT READS IS OF BULK AT MOST 1048576: true; the input reads as it did. -/
def fnExactNetNeedsUptoRow : OpenClaim := { program := "ytacfpgdflhoabaa", sum := "eb4e688ba5f6758c87bbafefa6bab5d5f1f614dbd8547d059b642abd3c0be450", func := "loop.example/g03407/laws.FnExactNetNeeds", spec := "fnExactNetNeeds", apart := false, narrowed := true }
def FnExactNetNeedsUptoSaid : Prop := fnExactNetNeedsUptoRow.holds Try.pinned (OpenSpec.upto fnExactNetNeedsSpec)

/-- 'laws.FnExactIsPegging', WHERE WHAT IT READS IS OF BULK AT MOST 1048576: true; the input reads as it did. -/
def fnExactIsPeggingUptoRow : OpenClaim := { program := "ytacfpgdflhoabaa", sum := "eb4e688ba5f6758c87bbafefa6bab5d5f1f614dbd8547d059b642abd3c0be450", func := "loop.example/g03407/laws.FnExactIsPegging", spec := "fnExactIsPegging", apart := false, narrowed := true }
def FnExactIsPeggingUptoSaid : Prop := fnExactIsPeggingUptoRow.holds Try.pinned (OpenSpec.upto fnExactIsPeggingSpec)

/-- 'laws.FnExactPromiseDay', WHERE WHAT IT READS IS OF BULK AT MOST 1048576: true; the input reads as it did. -/
def fnExactPromiseDayUptoRow : OpenClaim := { program := "ytacfpgdflhoabaa", sum := "eb4e688ba5f6758c87bbafefa6bab5d5f1f614dbd8547d059b642abd3c0be450", func := "loop.example/g03407/laws.FnExactPromiseDay", spec := "fnExactPromiseDay", apart := false, narrowed := true }
def FnExactPromiseDayUptoSaid : Prop := fnExactPromiseDayUptoRow.holds Try.pinned (OpenSpec.upto fnExactPromiseDaySpec)

end Rows
end Go.Proofs.Ytacfpgdflhoabaa
