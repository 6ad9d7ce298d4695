/-
  No cell of these rows narrows 'for every input' (looked for: loops, veiled, ifaces, maps, wideKeys, modest, calm, conditions, laid).
  DERIVED. THE GIVEN ROWS OF THIS SEAT. 11 by the template 'for every input the law returns true; each argument reads behind the call as it read before'; 0 by the template 'total and deterministic' (their statements: YtdofhdelcendeaaTotals.lean).
  GIVEN WITH THE SEED: the statements are not yours to turn. If you find one false, say at which input.
  Laid BY PROGRAM, IN A SANDBOX (cutbox-rows.mjs): the forced cells as the released guide's own fill.sh prints them over the translation 206bd45e1a09e60a… (all of the seat's roots in one cut). By AI agents, Wed Nov 11 2026. No macro, syntax, notation, axiom, sorry.
-/
import Derived.Test.YtdofhdelcendeaaChecked
import GoSem.Claim
import GoSem.ClaimJoined
import GoSem.ClaimMapViews
import Derived.JoinedTies
import Derived.KernelRfl
namespace Go.Proofs.Ytdofhdelcendeaa
/- THE CELL 'sum', in the pinned program and in every row, IS THE sha256 OF THE DUMP (.gsa) THAT YtdofhdelcendeaaProg.lean LOADS. Nothing in Lean hashes anything: it is a label: what it is worth is what the hold of that sum in a sandbox is worth. -/
noncomputable def Try.pinned : Pinned := { name := "ytdofhdelcendeaa", sum := "206bd45e1a09e60a0c43ec3aa0acfb7e915fefd23f9d565858cc40a04ed03cbe", checked := Try.checked }
namespace Rows
def none {H : Type} : Left H := { results := [], args := [] }

/-- 'laws.FnExactIsPegging': WHATEVER THE INPUT: true; the input reads as it did. -/
def fnExactIsPeggingSpec : ChangeSpec := { name := "fnExactIsPegging", fn := fun _ => fun
  | [d1, d2, d3] => { results := [.lit (.bool true)], args := [d1, d2, d3] }
  | _ => none }
def fnExactIsPeggingRow : OpenClaim := { program := "ytdofhdelcendeaa", sum := "206bd45e1a09e60a0c43ec3aa0acfb7e915fefd23f9d565858cc40a04ed03cbe", func := "loop.example/g03407/laws.FnExactIsPegging", spec := "fnExactIsPegging", apart := false }
def FnExactIsPeggingSaid : Prop := fnExactIsPeggingRow.holds Try.pinned (OpenSpec.ofChange fnExactIsPeggingSpec)

/-- ITS FALSE NEIGHBOUR: 'it returns false'. Refute it at one input. -/
def fnExactIsPeggingWrong : ChangeSpec := { name := "fnExactIsPegging", fn := fun _ => fun
  | [d1, d2, d3] => { results := [.lit (.bool false)], args := [d1, d2, d3] }
  | _ => none }
def FnExactIsPeggingWrongFalsely : Prop := fnExactIsPeggingRow.holds Try.pinned (OpenSpec.ofChange fnExactIsPeggingWrong)

/-- 'laws.FnExactLotsFor': WHATEVER THE INPUT: true; the input reads as it did. -/
def fnExactLotsForSpec : ChangeSpec := { name := "fnExactLotsFor", fn := fun _ => fun
  | [d1, d2, d3] => { results := [.lit (.bool true)], args := [d1, d2, d3] }
  | _ => none }
def fnExactLotsForRow : OpenClaim := { program := "ytdofhdelcendeaa", sum := "206bd45e1a09e60a0c43ec3aa0acfb7e915fefd23f9d565858cc40a04ed03cbe", func := "loop.example/g03407/laws.FnExactLotsFor", spec := "fnExactLotsFor", apart := false }
def FnExactLotsForSaid : Prop := fnExactLotsForRow.holds Try.pinned (OpenSpec.ofChange fnExactLotsForSpec)

/-- ITS FALSE NEIGHBOUR: 'it returns false'. Refute it at one input. -/
def fnExactLotsForWrong : ChangeSpec := { name := "fnExactLotsFor", fn := fun _ => fun
  | [d1, d2, d3] => { results := [.lit (.bool false)], args := [d1, d2, d3] }
  | _ => none }
def FnExactLotsForWrongFalsely : Prop := fnExactLotsForRow.holds Try.pinned (OpenSpec.ofChange fnExactLotsForWrong)

/-- 'laws.FnExactPegInOrder': WHATEVER THE INPUT: true; the input reads as it did. -/
def fnExactPegInOrderSpec : ChangeSpec := { name := "fnExactPegInOrder", fn := fun _ => fun
  | [d1, d2] => { results := [.lit (.bool true)], args := [d1, d2] }
  | _ => none }
def fnExactPegInOrderRow : OpenClaim := { program := "ytdofhdelcendeaa", sum := "206bd45e1a09e60a0c43ec3aa0acfb7e915fefd23f9d565858cc40a04ed03cbe", func := "loop.example/g03407/laws.FnExactPegInOrder", spec := "fnExactPegInOrder", apart := false }
def FnExactPegInOrderSaid : Prop := fnExactPegInOrderRow.holds Try.pinned (OpenSpec.ofChange fnExactPegInOrderSpec)

/-- ITS FALSE NEIGHBOUR: 'it returns false'. Refute it at one input. -/
def fnExactPegInOrderWrong : ChangeSpec := { name := "fnExactPegInOrder", fn := fun _ => fun
  | [d1, d2] => { results := [.lit (.bool false)], args := [d1, d2] }
  | _ => none }
def FnExactPegInOrderWrongFalsely : Prop := fnExactPegInOrderRow.holds Try.pinned (OpenSpec.ofChange fnExactPegInOrderWrong)

/-- 'laws.FnExactPegInTime': WHATEVER THE INPUT: true; the input reads as it did. -/
def fnExactPegInTimeSpec : ChangeSpec := { name := "fnExactPegInTime", fn := fun _ => fun
  | [d1, d2] => { results := [.lit (.bool true)], args := [d1, d2] }
  | _ => none }
def fnExactPegInTimeRow : OpenClaim := { program := "ytdofhdelcendeaa", sum := "206bd45e1a09e60a0c43ec3aa0acfb7e915fefd23f9d565858cc40a04ed03cbe", func := "loop.example/g03407/laws.FnExactPegInTime", spec := "fnExactPegInTime", apart := false }
def FnExactPegInTimeSaid : Prop := fnExactPegInTimeRow.holds Try.pinned (OpenSpec.ofChange fnExactPegInTimeSpec)

/-- ITS FALSE NEIGHBOUR: 'it returns false'. Refute it at one input. -/
def fnExactPegInTimeWrong : ChangeSpec := { name := "fnExactPegInTime", fn := fun _ => fun
  | [d1, d2] => { results := [.lit (.bool false)], args := [d1, d2] }
  | _ => none }
def FnExactPegInTimeWrongFalsely : Prop := fnExactPegInTimeRow.holds Try.pinned (OpenSpec.ofChange fnExactPegInTimeWrong)

/-- 'laws.FnPegsInTime': WHATEVER THE INPUT: true; the input reads as it did. -/
def fnPegsInTimeSpec : ChangeSpec := { name := "fnPegsInTime", fn := fun _ => fun
  | [d] => { results := [.lit (.bool true)], args := [d] }
  | _ => none }
def fnPegsInTimeRow : OpenClaim := { program := "ytdofhdelcendeaa", sum := "206bd45e1a09e60a0c43ec3aa0acfb7e915fefd23f9d565858cc40a04ed03cbe", func := "loop.example/g03407/laws.FnPegsInTime", spec := "fnPegsInTime", apart := false }
def FnPegsInTimeSaid : Prop := fnPegsInTimeRow.holds Try.pinned (OpenSpec.ofChange fnPegsInTimeSpec)

/-- ITS FALSE NEIGHBOUR: 'it returns false'. Refute it at one input. -/
def fnPegsInTimeWrong : ChangeSpec := { name := "fnPegsInTime", fn := fun _ => fun
  | [d] => { results := [.lit (.bool false)], args := [d] }
  | _ => none }
def FnPegsInTimeWrongFalsely : Prop := fnPegsInTimeRow.holds Try.pinned (OpenSpec.ofChange fnPegsInTimeWrong)

/-- 'laws.FnMerged': WHATEVER THE INPUT: true; the input reads as it did. -/
def fnMergedSpec : ChangeSpec := { name := "fnMerged", fn := fun _ => fun
  | [d] => { results := [.lit (.bool true)], args := [d] }
  | _ => none }
def fnMergedRow : OpenClaim := { program := "ytdofhdelcendeaa", sum := "206bd45e1a09e60a0c43ec3aa0acfb7e915fefd23f9d565858cc40a04ed03cbe", func := "loop.example/g03407/laws.FnMerged", spec := "fnMerged", apart := false }
def FnMergedSaid : Prop := fnMergedRow.holds Try.pinned (OpenSpec.ofChange fnMergedSpec)

/-- ITS FALSE NEIGHBOUR: 'it returns false'. Refute it at one input. -/
def fnMergedWrong : ChangeSpec := { name := "fnMerged", fn := fun _ => fun
  | [d] => { results := [.lit (.bool false)], args := [d] }
  | _ => none }
def FnMergedWrongFalsely : Prop := fnMergedRow.holds Try.pinned (OpenSpec.ofChange fnMergedWrong)

/-- 'laws.FnPegs': WHATEVER THE INPUT: true; the input reads as it did. -/
def fnPegsSpec : ChangeSpec := { name := "fnPegs", fn := fun _ => fun
  | [d] => { results := [.lit (.bool true)], args := [d] }
  | _ => none }
def fnPegsRow : OpenClaim := { program := "ytdofhdelcendeaa", sum := "206bd45e1a09e60a0c43ec3aa0acfb7e915fefd23f9d565858cc40a04ed03cbe", func := "loop.example/g03407/laws.FnPegs", spec := "fnPegs", apart := false }
def FnPegsSaid : Prop := fnPegsRow.holds Try.pinned (OpenSpec.ofChange fnPegsSpec)

/-- ITS FALSE NEIGHBOUR: 'it returns false'. Refute it at one input. -/
def fnPegsWrong : ChangeSpec := { name := "fnPegs", fn := fun _ => fun
  | [d] => { results := [.lit (.bool false)], args := [d] }
  | _ => none }
def FnPegsWrongFalsely : Prop := fnPegsRow.holds Try.pinned (OpenSpec.ofChange fnPegsWrong)

/-- 'laws.FnNetting': WHATEVER THE INPUT: true; the input reads as it did. -/
def fnNettingSpec : ChangeSpec := { name := "fnNetting", fn := fun _ => fun
  | [d] => { results := [.lit (.bool true)], args := [d] }
  | _ => none }
def fnNettingRow : OpenClaim := { program := "ytdofhdelcendeaa", sum := "206bd45e1a09e60a0c43ec3aa0acfb7e915fefd23f9d565858cc40a04ed03cbe", func := "loop.example/g03407/laws.FnNetting", spec := "fnNetting", apart := false }
def FnNettingSaid : Prop := fnNettingRow.holds Try.pinned (OpenSpec.ofChange fnNettingSpec)

/-- ITS FALSE NEIGHBOUR: 'it returns false'. Refute it at one input. -/
def fnNettingWrong : ChangeSpec := { name := "fnNetting", fn := fun _ => fun
  | [d] => { results := [.lit (.bool false)], args := [d] }
  | _ => none }
def FnNettingWrongFalsely : Prop := fnNettingRow.holds Try.pinned (OpenSpec.ofChange fnNettingWrong)

/-- 'laws.FnLots': WHATEVER THE INPUT: true; the input reads as it did. -/
def fnLotsSpec : ChangeSpec := { name := "fnLots", fn := fun _ => fun
  | [d] => { results := [.lit (.bool true)], args := [d] }
  | _ => none }
def fnLotsRow : OpenClaim := { program := "ytdofhdelcendeaa", sum := "206bd45e1a09e60a0c43ec3aa0acfb7e915fefd23f9d565858cc40a04ed03cbe", func := "loop.example/g03407/laws.FnLots", spec := "fnLots", apart := false }
def FnLotsSaid : Prop := fnLotsRow.holds Try.pinned (OpenSpec.ofChange fnLotsSpec)

/-- ITS FALSE NEIGHBOUR: 'it returns false'. Refute it at one input. -/
def fnLotsWrong : ChangeSpec := { name := "fnLots", fn := fun _ => fun
  | [d] => { results := [.lit (.bool false)], args := [d] }
  | _ => none }
def FnLotsWrongFalsely : Prop := fnLotsRow.holds Try.pinned (OpenSpec.ofChange fnLotsWrong)

/-- 'laws.FnPromises': WHATEVER THE INPUT: true; the input reads as it did. -/
def fnPromisesSpec : ChangeSpec := { name := "fnPromises", fn := fun _ => fun
  | [d] => { results := [.lit (.bool true)], args := [d] }
  | _ => none }
def fnPromisesRow : OpenClaim := { program := "ytdofhdelcendeaa", sum := "206bd45e1a09e60a0c43ec3aa0acfb7e915fefd23f9d565858cc40a04ed03cbe", func := "loop.example/g03407/laws.FnPromises", spec := "fnPromises", apart := false }
def FnPromisesSaid : Prop := fnPromisesRow.holds Try.pinned (OpenSpec.ofChange fnPromisesSpec)

/-- ITS FALSE NEIGHBOUR: 'it returns false'. Refute it at one input. -/
def fnPromisesWrong : ChangeSpec := { name := "fnPromises", fn := fun _ => fun
  | [d] => { results := [.lit (.bool false)], args := [d] }
  | _ => none }
def FnPromisesWrongFalsely : Prop := fnPromisesRow.holds Try.pinned (OpenSpec.ofChange fnPromisesWrong)

/-- 'laws.FnExactDemandFlows': WHATEVER THE INPUT: true; the input reads as it did. -/
def fnExactDemandFlowsSpec : ChangeSpec := { name := "fnExactDemandFlows", fn := fun _ => fun
  | [d1, d2] => { results := [.lit (.bool true)], args := [d1, d2] }
  | _ => none }
def fnExactDemandFlowsRow : OpenClaim := { program := "ytdofhdelcendeaa", sum := "206bd45e1a09e60a0c43ec3aa0acfb7e915fefd23f9d565858cc40a04ed03cbe", func := "loop.example/g03407/laws.FnExactDemandFlows", spec := "fnExactDemandFlows", apart := false }
def FnExactDemandFlowsSaid : Prop := fnExactDemandFlowsRow.holds Try.pinned (OpenSpec.ofChange fnExactDemandFlowsSpec)

/-- ITS FALSE NEIGHBOUR: 'it returns false'. Refute it at one input. -/
def fnExactDemandFlowsWrong : ChangeSpec := { name := "fnExactDemandFlows", fn := fun _ => fun
  | [d1, d2] => { results := [.lit (.bool false)], args := [d1, d2] }
  | _ => none }
def FnExactDemandFlowsWrongFalsely : Prop := fnExactDemandFlowsRow.holds Try.pinned (OpenSpec.ofChange fnExactDemandFlowsWrong)

/- THE SECOND FORM. 'bulk': how many values and letters a reading holds, each counted each time it is reached (what is shared counts as often as it is met; a slice's spare places count too). A statement '..UptoSaid' is the law's where the arguments, and the package variables that the reading takes, are together of bulk at most 1048576: NARROWER than '..Said'. Prove '..Said' where nothing that the law and all that it calls make is longer than what came in: it says more and counts as full. Else prove '..UptoSaid'. A law counts once. -/
mutual
def uptoBulk {H : Type} : DataW H → Nat
  | .lit (.string bytes) => bytes.length + 1
  | .lit _ => 1
  | .nil => 1
  | .ptr d => uptoBulk d + 1
  | .slice elems spare => uptoBulkAll elems + uptoBulkAll spare + 1
  | .agg parts => uptoBulkAll parts + 1
  | .iface _ d => uptoBulk d + 1
  | .map entries => uptoBulkEntries entries + 1
  | .held _ => 1
def uptoBulkAll {H : Type} : List (DataW H) → Nat
  | [] => 0
  | d :: r => uptoBulk d + uptoBulkAll r
def uptoBulkEntries {H : Type} : List (Lit × DataW H) → Nat
  | [] => 0
  | x :: r => uptoBulkEntry x + uptoBulkEntries r
def uptoBulkEntry {H : Type} : Lit × DataW H → Nat
  | (.string bytes, d) => bytes.length + uptoBulk d + 1
  | (_, d) => uptoBulk d + 1
 end
def uptoSmall : (H : Type) → List (DataW H) → Bool := fun _ ds => decide (uptoBulkAll ds ≤ 1048576)
def OpenSpec.upto (s : _root_.Go.ChangeSpec) : _root_.Go.OpenSpec := { _root_.Go.OpenSpec.ofChange s with cond := some uptoSmall }

/-- 'laws.FnExactIsPegging', WHERE WHAT IT READS IS OF BULK AT MOST 1048576: true; the input reads as it did. -/
def fnExactIsPeggingUptoRow : OpenClaim := { program := "ytdofhdelcendeaa", sum := "206bd45e1a09e60a0c43ec3aa0acfb7e915fefd23f9d565858cc40a04ed03cbe", func := "loop.example/g03407/laws.FnExactIsPegging", spec := "fnExactIsPegging", apart := false, narrowed := true }
def FnExactIsPeggingUptoSaid : Prop := fnExactIsPeggingUptoRow.holds Try.pinned (OpenSpec.upto fnExactIsPeggingSpec)

/-- 'laws.FnExactLotsFor', WHERE WHAT IT READS IS OF BULK AT MOST 1048576: true; the input reads as it did. -/
def fnExactLotsForUptoRow : OpenClaim := { program := "ytdofhdelcendeaa", sum := "206bd45e1a09e60a0c43ec3aa0acfb7e915fefd23f9d565858cc40a04ed03cbe", func := "loop.example/g03407/laws.FnExactLotsFor", spec := "fnExactLotsFor", apart := false, narrowed := true }
def FnExactLotsForUptoSaid : Prop := fnExactLotsForUptoRow.holds Try.pinned (OpenSpec.upto fnExactLotsForSpec)

/-- 'laws.FnExactPegInOrder', WHERE WHAT IT READS IS OF BULK AT MOST 1048576: true; the input reads as it did. -/
def fnExactPegInOrderUptoRow : OpenClaim := { program := "ytdofhdelcendeaa", sum := "206bd45e1a09e60a0c43ec3aa0acfb7e915fefd23f9d565858cc40a04ed03cbe", func := "loop.example/g03407/laws.FnExactPegInOrder", spec := "fnExactPegInOrder", apart := false, narrowed := true }
def FnExactPegInOrderUptoSaid : Prop := fnExactPegInOrderUptoRow.holds Try.pinned (OpenSpec.upto fnExactPegInOrderSpec)

/-- 'laws.FnExactPegInTime', WHERE WHAT IT READS IS OF BULK AT MOST 1048576: true; the input reads as it did. -/
def fnExactPegInTimeUptoRow : OpenClaim := { program := "ytdofhdelcendeaa", sum := "206bd45e1a09e60a0c43ec3aa0acfb7e915fefd23f9d565858cc40a04ed03cbe", func := "loop.example/g03407/laws.FnExactPegInTime", spec := "fnExactPegInTime", apart := false, narrowed := true }
def FnExactPegInTimeUptoSaid : Prop := fnExactPegInTimeUptoRow.holds Try.pinned (OpenSpec.upto fnExactPegInTimeSpec)

/-- 'laws.FnPegsInTime', WHERE WHAT IT READS IS OF BULK AT MOST 1048576: true; the input reads as it did. -/
def fnPegsInTimeUptoRow : OpenClaim := { program := "ytdofhdelcendeaa", sum := "206bd45e1a09e60a0c43ec3aa0acfb7e915fefd23f9d565858cc40a04ed03cbe", func := "loop.example/g03407/laws.FnPegsInTime", spec := "fnPegsInTime", apart := false, narrowed := true }
def FnPegsInTimeUptoSaid : Prop := fnPegsInTimeUptoRow.holds Try.pinned (OpenSpec.upto fnPegsInTimeSpec)

/-- 'laws.FnMerged', WHERE WHAT IT READS IS OF BULK AT MOST 1048576: true; the input reads as it did. -/
def fnMergedUptoRow : OpenClaim := { program := "ytdofhdelcendeaa", sum := "206bd45e1a09e60a0c43ec3aa0acfb7e915fefd23f9d565858cc40a04ed03cbe", func := "loop.example/g03407/laws.FnMerged", spec := "fnMerged", apart := false, narrowed := true }
def FnMergedUptoSaid : Prop := fnMergedUptoRow.holds Try.pinned (OpenSpec.upto fnMergedSpec)

/-- 'laws.FnPegs', WHERE WHAT IT READS IS OF BULK AT MOST 1048576: true; the input reads as it did. -/
def fnPegsUptoRow : OpenClaim := { program := "ytdofhdelcendeaa", sum := "206bd45e1a09e60a0c43ec3aa0acfb7e915fefd23f9d565858cc40a04ed03cbe", func := "loop.example/g03407/laws.FnPegs", spec := "fnPegs", apart := false, narrowed := true }
def FnPegsUptoSaid : Prop := fnPegsUptoRow.holds Try.pinned (OpenSpec.upto fnPegsSpec)

/-- 'laws.FnNetting', WHERE WHAT IT READS IS OF BULK AT MOST 1048576: true; the input reads as it did. -/
def fnNettingUptoRow : OpenClaim := { program := "ytdofhdelcendeaa", sum := "206bd45e1a09e60a0c43ec3aa0acfb7e915fefd23f9d565858cc40a04ed03cbe", func := "loop.example/g03407/laws.FnNetting", spec := "fnNetting", apart := false, narrowed := true }
def FnNettingUptoSaid : Prop := fnNettingUptoRow.holds Try.pinned (OpenSpec.upto fnNettingSpec)

/-- 'laws.FnLots', WHERE WHAT IT READS IS OF BULK AT MOST 1048576: true; the input reads as it did. -/
def fnLotsUptoRow : OpenClaim := { program := "ytdofhdelcendeaa", sum := "206bd45e1a09e60a0c43ec3aa0acfb7e915fefd23f9d565858cc40a04ed03cbe", func := "loop.example/g03407/laws.FnLots", spec := "fnLots", apart := false, narrowed := true }
def FnLotsUptoSaid : Prop := fnLotsUptoRow.holds Try.pinned (OpenSpec.upto fnLotsSpec)

/-- 'laws.FnPromises', WHERE WHAT IT READS IS OF BULK AT MOST 1048576: true; the input reads as it did. -/
def fnPromisesUptoRow : OpenClaim := { program := "ytdofhdelcendeaa", sum := "206bd45e1a09e60a0c43ec3aa0acfb7e915fefd23f9d565858cc40a04ed03cbe", func := "loop.example/g03407/laws.FnPromises", spec := "fnPromises", apart := false, narrowed := true }
def FnPromisesUptoSaid : Prop := fnPromisesUptoRow.holds Try.pinned (OpenSpec.upto fnPromisesSpec)

/-- 'laws.FnExactDemandFlows', WHERE WHAT IT READS IS OF BULK AT MOST 1048576: true; the input reads as it did. -/
def fnExactDemandFlowsUptoRow : OpenClaim := { program := "ytdofhdelcendeaa", sum := "206bd45e1a09e60a0c43ec3aa0acfb7e915fefd23f9d565858cc40a04ed03cbe", func := "loop.example/g03407/laws.FnExactDemandFlows", spec := "fnExactDemandFlows", apart := false, narrowed := true }
def FnExactDemandFlowsUptoSaid : Prop := fnExactDemandFlowsUptoRow.holds Try.pinned (OpenSpec.upto fnExactDemandFlowsSpec)

end Rows
end Go.Proofs.Ytdofhdelcendeaa
