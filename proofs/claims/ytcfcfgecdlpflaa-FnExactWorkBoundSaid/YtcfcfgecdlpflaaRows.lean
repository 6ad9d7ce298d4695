/-
  No cell of these rows narrows 'for every input' (looked for: loops, veiled, ifaces, maps, wideKeys, modest, calm, conditions, laid).
  DERIVED. THE GIVEN ROWS OF THIS SEAT. 12 by the template 'for every input the law returns true; each argument reads behind the call as it read before'; 0 by the template 'total and deterministic' (their statements: YtcfcfgecdlpflaaTotals.lean).
  GIVEN WITH THE SEED: the statements are not yours to turn. If you find one false, say at which input.
  Laid BY PROGRAM, IN A SANDBOX (cutbox-rows.mjs): the forced cells as the released guide's own fill.sh prints them over the translation 74745bc66a21e27a… (all of the seat's roots in one cut). By AI agents, Wed Nov 11 2026. No macro, syntax, notation, axiom, sorry.
-/
import Derived.Test.YtcfcfgecdlpflaaChecked
import GoSem.Claim
import GoSem.ClaimJoined
import GoSem.ClaimMapViews
import Derived.JoinedTies
import Derived.KernelRfl
namespace Go.Proofs.Ytcfcfgecdlpflaa
/- THE CELL 'sum', in the pinned program and in every row, IS THE sha256 OF THE DUMP (.gsa) THAT YtcfcfgecdlpflaaProg.lean LOADS. Nothing in Lean hashes anything: it is a label: what it is worth is what the hold of that sum in a sandbox is worth. -/
noncomputable def Try.pinned : Pinned := { name := "ytcfcfgecdlpflaa", sum := "74745bc66a21e27ab852ab94a24d67c2a3a7fe120c3070cd86767745e5dd944e", checked := Try.checked }
namespace Rows
def none {H : Type} : Left H := { results := [], args := [] }

/-- 'laws.FnExactPartPeriod': WHATEVER THE INPUT: true; the input reads as it did. -/
def fnExactPartPeriodSpec : ChangeSpec := { name := "fnExactPartPeriod", fn := fun _ => fun
  | [d1, d2, d3] => { results := [.lit (.bool true)], args := [d1, d2, d3] }
  | _ => none }
def fnExactPartPeriodRow : OpenClaim := { program := "ytcfcfgecdlpflaa", sum := "74745bc66a21e27ab852ab94a24d67c2a3a7fe120c3070cd86767745e5dd944e", func := "loop.example/g03407/laws.FnExactPartPeriod", spec := "fnExactPartPeriod", apart := false }
def FnExactPartPeriodSaid : Prop := fnExactPartPeriodRow.holds Try.pinned (OpenSpec.ofChange fnExactPartPeriodSpec)

/-- ITS FALSE NEIGHBOUR: 'it returns false'. Refute it at one input. -/
def fnExactPartPeriodWrong : ChangeSpec := { name := "fnExactPartPeriod", fn := fun _ => fun
  | [d1, d2, d3] => { results := [.lit (.bool false)], args := [d1, d2, d3] }
  | _ => none }
def FnExactPartPeriodWrongFalsely : Prop := fnExactPartPeriodRow.holds Try.pinned (OpenSpec.ofChange fnExactPartPeriodWrong)

/-- 'laws.FnExactBestLots': WHATEVER THE INPUT: true; the input reads as it did. -/
def fnExactBestLotsSpec : ChangeSpec := { name := "fnExactBestLots", fn := fun _ => fun
  | [d1, d2, d3] => { results := [.lit (.bool true)], args := [d1, d2, d3] }
  | _ => none }
def fnExactBestLotsRow : OpenClaim := { program := "ytcfcfgecdlpflaa", sum := "74745bc66a21e27ab852ab94a24d67c2a3a7fe120c3070cd86767745e5dd944e", func := "loop.example/g03407/laws.FnExactBestLots", spec := "fnExactBestLots", apart := false }
def FnExactBestLotsSaid : Prop := fnExactBestLotsRow.holds Try.pinned (OpenSpec.ofChange fnExactBestLotsSpec)

/-- ITS FALSE NEIGHBOUR: 'it returns false'. Refute it at one input. -/
def fnExactBestLotsWrong : ChangeSpec := { name := "fnExactBestLots", fn := fun _ => fun
  | [d1, d2, d3] => { results := [.lit (.bool false)], args := [d1, d2, d3] }
  | _ => none }
def FnExactBestLotsWrongFalsely : Prop := fnExactBestLotsRow.holds Try.pinned (OpenSpec.ofChange fnExactBestLotsWrong)

/-- 'laws.FnBestLots': WHATEVER THE INPUT: true; the input reads as it did. -/
def fnBestLotsSpec : ChangeSpec := { name := "fnBestLots", fn := fun _ => fun
  | [d] => { results := [.lit (.bool true)], args := [d] }
  | _ => none }
def fnBestLotsRow : OpenClaim := { program := "ytcfcfgecdlpflaa", sum := "74745bc66a21e27ab852ab94a24d67c2a3a7fe120c3070cd86767745e5dd944e", func := "loop.example/g03407/laws.FnBestLots", spec := "fnBestLots", apart := false }
def FnBestLotsSaid : Prop := fnBestLotsRow.holds Try.pinned (OpenSpec.ofChange fnBestLotsSpec)

/-- ITS FALSE NEIGHBOUR: 'it returns false'. Refute it at one input. -/
def fnBestLotsWrong : ChangeSpec := { name := "fnBestLots", fn := fun _ => fun
  | [d] => { results := [.lit (.bool false)], args := [d] }
  | _ => none }
def FnBestLotsWrongFalsely : Prop := fnBestLotsRow.holds Try.pinned (OpenSpec.ofChange fnBestLotsWrong)

/-- 'laws.FnExactAreJobs': WHATEVER THE INPUT: true; the input reads as it did. -/
def fnExactAreJobsSpec : ChangeSpec := { name := "fnExactAreJobs", fn := fun _ => fun
  | [d] => { results := [.lit (.bool true)], args := [d] }
  | _ => none }
def fnExactAreJobsRow : OpenClaim := { program := "ytcfcfgecdlpflaa", sum := "74745bc66a21e27ab852ab94a24d67c2a3a7fe120c3070cd86767745e5dd944e", func := "loop.example/g03407/laws.FnExactAreJobs", spec := "fnExactAreJobs", apart := false }
def FnExactAreJobsSaid : Prop := fnExactAreJobsRow.holds Try.pinned (OpenSpec.ofChange fnExactAreJobsSpec)

/-- ITS FALSE NEIGHBOUR: 'it returns false'. Refute it at one input. -/
def fnExactAreJobsWrong : ChangeSpec := { name := "fnExactAreJobs", fn := fun _ => fun
  | [d] => { results := [.lit (.bool false)], args := [d] }
  | _ => none }
def FnExactAreJobsWrongFalsely : Prop := fnExactAreJobsRow.holds Try.pinned (OpenSpec.ofChange fnExactAreJobsWrong)

/-- 'laws.FnExactWorkBound': WHATEVER THE INPUT: true; the input reads as it did. -/
def fnExactWorkBoundSpec : ChangeSpec := { name := "fnExactWorkBound", fn := fun _ => fun
  | [d] => { results := [.lit (.bool true)], args := [d] }
  | _ => none }
def fnExactWorkBoundRow : OpenClaim := { program := "ytcfcfgecdlpflaa", sum := "74745bc66a21e27ab852ab94a24d67c2a3a7fe120c3070cd86767745e5dd944e", func := "loop.example/g03407/laws.FnExactWorkBound", spec := "fnExactWorkBound", apart := false }
def FnExactWorkBoundSaid : Prop := fnExactWorkBoundRow.holds Try.pinned (OpenSpec.ofChange fnExactWorkBoundSpec)

/-- ITS FALSE NEIGHBOUR: 'it returns false'. Refute it at one input. -/
def fnExactWorkBoundWrong : ChangeSpec := { name := "fnExactWorkBound", fn := fun _ => fun
  | [d] => { results := [.lit (.bool false)], args := [d] }
  | _ => none }
def FnExactWorkBoundWrongFalsely : Prop := fnExactWorkBoundRow.holds Try.pinned (OpenSpec.ofChange fnExactWorkBoundWrong)

/-- 'laws.FnExactIsSchedule': WHATEVER THE INPUT: true; the input reads as it did. -/
def fnExactIsScheduleSpec : ChangeSpec := { name := "fnExactIsSchedule", fn := fun _ => fun
  | [d1, d2] => { results := [.lit (.bool true)], args := [d1, d2] }
  | _ => none }
def fnExactIsScheduleRow : OpenClaim := { program := "ytcfcfgecdlpflaa", sum := "74745bc66a21e27ab852ab94a24d67c2a3a7fe120c3070cd86767745e5dd944e", func := "loop.example/g03407/laws.FnExactIsSchedule", spec := "fnExactIsSchedule", apart := false }
def FnExactIsScheduleSaid : Prop := fnExactIsScheduleRow.holds Try.pinned (OpenSpec.ofChange fnExactIsScheduleSpec)

/-- ITS FALSE NEIGHBOUR: 'it returns false'. Refute it at one input. -/
def fnExactIsScheduleWrong : ChangeSpec := { name := "fnExactIsSchedule", fn := fun _ => fun
  | [d1, d2] => { results := [.lit (.bool false)], args := [d1, d2] }
  | _ => none }
def FnExactIsScheduleWrongFalsely : Prop := fnExactIsScheduleRow.holds Try.pinned (OpenSpec.ofChange fnExactIsScheduleWrong)

/-- 'laws.FnExactTardinessOf': WHATEVER THE INPUT: true; the input reads as it did. -/
def fnExactTardinessOfSpec : ChangeSpec := { name := "fnExactTardinessOf", fn := fun _ => fun
  | [d1, d2] => { results := [.lit (.bool true)], args := [d1, d2] }
  | _ => none }
def fnExactTardinessOfRow : OpenClaim := { program := "ytcfcfgecdlpflaa", sum := "74745bc66a21e27ab852ab94a24d67c2a3a7fe120c3070cd86767745e5dd944e", func := "loop.example/g03407/laws.FnExactTardinessOf", spec := "fnExactTardinessOf", apart := false }
def FnExactTardinessOfSaid : Prop := fnExactTardinessOfRow.holds Try.pinned (OpenSpec.ofChange fnExactTardinessOfSpec)

/-- ITS FALSE NEIGHBOUR: 'it returns false'. Refute it at one input. -/
def fnExactTardinessOfWrong : ChangeSpec := { name := "fnExactTardinessOf", fn := fun _ => fun
  | [d1, d2] => { results := [.lit (.bool false)], args := [d1, d2] }
  | _ => none }
def FnExactTardinessOfWrongFalsely : Prop := fnExactTardinessOfRow.holds Try.pinned (OpenSpec.ofChange fnExactTardinessOfWrong)

/-- 'laws.FnDispatched': WHATEVER THE INPUT: true; the input reads as it did. -/
def fnDispatchedSpec : ChangeSpec := { name := "fnDispatched", fn := fun _ => fun
  | [d] => { results := [.lit (.bool true)], args := [d] }
  | _ => none }
def fnDispatchedRow : OpenClaim := { program := "ytcfcfgecdlpflaa", sum := "74745bc66a21e27ab852ab94a24d67c2a3a7fe120c3070cd86767745e5dd944e", func := "loop.example/g03407/laws.FnDispatched", spec := "fnDispatched", unfollowed := true, recurses := true, apart := false }
def FnDispatchedSaid : Prop := fnDispatchedRow.holds Try.pinned (OpenSpec.ofChange fnDispatchedSpec)

/-- ITS FALSE NEIGHBOUR: 'it returns false'. Refute it at one input. -/
def fnDispatchedWrong : ChangeSpec := { name := "fnDispatched", fn := fun _ => fun
  | [d] => { results := [.lit (.bool false)], args := [d] }
  | _ => none }
def FnDispatchedWrongFalsely : Prop := fnDispatchedRow.holds Try.pinned (OpenSpec.ofChange fnDispatchedWrong)

/-- 'laws.FnSchedules': WHATEVER THE INPUT: true; the input reads as it did. -/
def fnSchedulesSpec : ChangeSpec := { name := "fnSchedules", fn := fun _ => fun
  | [d] => { results := [.lit (.bool true)], args := [d] }
  | _ => none }
def fnSchedulesRow : OpenClaim := { program := "ytcfcfgecdlpflaa", sum := "74745bc66a21e27ab852ab94a24d67c2a3a7fe120c3070cd86767745e5dd944e", func := "loop.example/g03407/laws.FnSchedules", spec := "fnSchedules", apart := false }
def FnSchedulesSaid : Prop := fnSchedulesRow.holds Try.pinned (OpenSpec.ofChange fnSchedulesSpec)

/-- ITS FALSE NEIGHBOUR: 'it returns false'. Refute it at one input. -/
def fnSchedulesWrong : ChangeSpec := { name := "fnSchedules", fn := fun _ => fun
  | [d] => { results := [.lit (.bool false)], args := [d] }
  | _ => none }
def FnSchedulesWrongFalsely : Prop := fnSchedulesRow.holds Try.pinned (OpenSpec.ofChange fnSchedulesWrong)

/-- 'laws.FnExactAreMinutes': WHATEVER THE INPUT: true; the input reads as it did. -/
def fnExactAreMinutesSpec : ChangeSpec := { name := "fnExactAreMinutes", fn := fun _ => fun
  | [d] => { results := [.lit (.bool true)], args := [d] }
  | _ => none }
def fnExactAreMinutesRow : OpenClaim := { program := "ytcfcfgecdlpflaa", sum := "74745bc66a21e27ab852ab94a24d67c2a3a7fe120c3070cd86767745e5dd944e", func := "loop.example/g03407/laws.FnExactAreMinutes", spec := "fnExactAreMinutes", apart := false }
def FnExactAreMinutesSaid : Prop := fnExactAreMinutesRow.holds Try.pinned (OpenSpec.ofChange fnExactAreMinutesSpec)

/-- ITS FALSE NEIGHBOUR: 'it returns false'. Refute it at one input. -/
def fnExactAreMinutesWrong : ChangeSpec := { name := "fnExactAreMinutes", fn := fun _ => fun
  | [d] => { results := [.lit (.bool false)], args := [d] }
  | _ => none }
def FnExactAreMinutesWrongFalsely : Prop := fnExactAreMinutesRow.holds Try.pinned (OpenSpec.ofChange fnExactAreMinutesWrong)

/-- 'laws.FnExactMinutesOn': WHATEVER THE INPUT: true; the input reads as it did. -/
def fnExactMinutesOnSpec : ChangeSpec := { name := "fnExactMinutesOn", fn := fun _ => fun
  | [d1, d2, d3] => { results := [.lit (.bool true)], args := [d1, d2, d3] }
  | _ => none }
def fnExactMinutesOnRow : OpenClaim := { program := "ytcfcfgecdlpflaa", sum := "74745bc66a21e27ab852ab94a24d67c2a3a7fe120c3070cd86767745e5dd944e", func := "loop.example/g03407/laws.FnExactMinutesOn", spec := "fnExactMinutesOn", apart := false }
def FnExactMinutesOnSaid : Prop := fnExactMinutesOnRow.holds Try.pinned (OpenSpec.ofChange fnExactMinutesOnSpec)

/-- ITS FALSE NEIGHBOUR: 'it returns false'. Refute it at one input. -/
def fnExactMinutesOnWrong : ChangeSpec := { name := "fnExactMinutesOn", fn := fun _ => fun
  | [d1, d2, d3] => { results := [.lit (.bool false)], args := [d1, d2, d3] }
  | _ => none }
def FnExactMinutesOnWrongFalsely : Prop := fnExactMinutesOnRow.holds Try.pinned (OpenSpec.ofChange fnExactMinutesOnWrong)

/-- 'laws.FnExactOverloadOf': WHATEVER THE INPUT: true; the input reads as it did. -/
def fnExactOverloadOfSpec : ChangeSpec := { name := "fnExactOverloadOf", fn := fun _ => fun
  | [d1, d2, d3] => { results := [.lit (.bool true)], args := [d1, d2, d3] }
  | _ => none }
def fnExactOverloadOfRow : OpenClaim := { program := "ytcfcfgecdlpflaa", sum := "74745bc66a21e27ab852ab94a24d67c2a3a7fe120c3070cd86767745e5dd944e", func := "loop.example/g03407/laws.FnExactOverloadOf", spec := "fnExactOverloadOf", apart := false }
def FnExactOverloadOfSaid : Prop := fnExactOverloadOfRow.holds Try.pinned (OpenSpec.ofChange fnExactOverloadOfSpec)

/-- ITS FALSE NEIGHBOUR: 'it returns false'. Refute it at one input. -/
def fnExactOverloadOfWrong : ChangeSpec := { name := "fnExactOverloadOf", fn := fun _ => fun
  | [d1, d2, d3] => { results := [.lit (.bool false)], args := [d1, d2, d3] }
  | _ => none }
def FnExactOverloadOfWrongFalsely : Prop := fnExactOverloadOfRow.holds Try.pinned (OpenSpec.ofChange fnExactOverloadOfWrong)

/- THE SECOND FORM. 'bulk': how many values and letters a reading holds, each counted each time it is reached (what is shared counts as often as it is met; a slice's spare places count too). A statement '..UptoSaid' is the law's where the arguments, and the package variables that the reading takes, are together of bulk at most 1048576: NARROWER than '..Said'. Prove '..Said' where nothing that the law and all that it calls make is longer than what came in: it says more and counts as full. Else prove '..UptoSaid'. A law counts once. -/
mutual
def uptoBulk {H : Type} : DataW H → Nat
  | .lit (.string bytes) => bytes.length + 1
  | .lit _ => 1
  | .nil => 1
  | .ptr d => uptoBulk d + 1
  | .slice elems spare => uptoBulkAll elems + uptoBulkAll spare + 1
  | .agg parts => uptoBulkAll parts + 1
  | .iface _ d => uptoBulk d + 1
  | .map entries => uptoBulkEntries entries + 1
  | .held _ => 1
def uptoBulkAll {H : Type} : List (DataW H) → Nat
  | [] => 0
  | d :: r => uptoBulk d + uptoBulkAll r
def uptoBulkEntries {H : Type} : List (Lit × DataW H) → Nat
  | [] => 0
  | x :: r => uptoBulkEntry x + uptoBulkEntries r
def uptoBulkEntry {H : Type} : Lit × DataW H → Nat
  | (.string bytes, d) => bytes.length + uptoBulk d + 1
  | (_, d) => uptoBulk d + 1
 end
def uptoSmall : (H : Type) → List (DataW H) → Bool := fun _ ds => decide (uptoBulkAll ds ≤ 1048576)
def OpenSpec.upto (s : _root_.Go.ChangeSpec) : _root_.Go.OpenSpec := { _root_.Go.OpenSpec.ofChange s with cond := some uptoSmall }

/-- 'laws.FnExactPartPeriod', WHERE WHAT IT READS IS OF BULK AT MOST 1048576: true; the input reads as it did. -/
def fnExactPartPeriodUptoRow : OpenClaim := { program := "ytcfcfgecdlpflaa", sum := "74745bc66a21e27ab852ab94a24d67c2a3a7fe120c3070cd86767745e5dd944e", func := "loop.example/g03407/laws.FnExactPartPeriod", spec := "fnExactPartPeriod", apart := false, narrowed := true }
def FnExactPartPeriodUptoSaid : Prop := fnExactPartPeriodUptoRow.holds Try.pinned (OpenSpec.upto fnExactPartPeriodSpec)

/-- 'laws.FnExactBestLots', WHERE WHAT IT READS IS OF BULK AT MOST 1048576: true; the input reads as it did. -/
def fnExactBestLotsUptoRow : OpenClaim := { program := "ytcfcfgecdlpflaa", sum := "74745bc66a21e27ab852ab94a24d67c2a3a7fe120c3070cd86767745e5dd944e", func := "loop.example/g03407/laws.FnExactBestLots", spec := "fnExactBestLots", apart := false, narrowed := true }
def FnExactBestLotsUptoSaid : Prop := fnExactBestLotsUptoRow.holds Try.pinned (OpenSpec.upto fnExactBestLotsSpec)

/-- 'laws.FnBestLots', WHERE WHAT IT READS IS OF BULK AT MOST 1048576: true; the input reads as it did. -/
def fnBestLotsUptoRow : OpenClaim := { program := "ytcfcfgecdlpflaa", sum := "74745bc66a21e27ab852ab94a24d67c2a3a7fe120c3070cd86767745e5dd944e", func := "loop.example/g03407/laws.FnBestLots", spec := "fnBestLots", apart := false, narrowed := true }
def FnBestLotsUptoSaid : Prop := fnBestLotsUptoRow.holds Try.pinned (OpenSpec.upto fnBestLotsSpec)

/-- 'laws.FnExactAreJobs', WHERE WHAT IT READS IS OF BULK AT MOST 1048576: true; the input reads as it did. -/
def fnExactAreJobsUptoRow : OpenClaim := { program := "ytcfcfgecdlpflaa", sum := "74745bc66a21e27ab852ab94a24d67c2a3a7fe120c3070cd86767745e5dd944e", func := "loop.example/g03407/laws.FnExactAreJobs", spec := "fnExactAreJobs", apart := false, narrowed := true }
def FnExactAreJobsUptoSaid : Prop := fnExactAreJobsUptoRow.holds Try.pinned (OpenSpec.upto fnExactAreJobsSpec)

/-- 'laws.FnExactWorkBound', WHERE WHAT IT READS IS OF BULK AT MOST 1048576: true; the input reads as it did. -/
def fnExactWorkBoundUptoRow : OpenClaim := { program := "ytcfcfgecdlpflaa", sum := "74745bc66a21e27ab852ab94a24d67c2a3a7fe120c3070cd86767745e5dd944e", func := "loop.example/g03407/laws.FnExactWorkBound", spec := "fnExactWorkBound", apart := false, narrowed := true }
def FnExactWorkBoundUptoSaid : Prop := fnExactWorkBoundUptoRow.holds Try.pinned (OpenSpec.upto fnExactWorkBoundSpec)

/-- 'laws.FnExactIsSchedule', WHERE WHAT IT READS IS OF BULK AT MOST 1048576: true; the input reads as it did. -/
def fnExactIsScheduleUptoRow : OpenClaim := { program := "ytcfcfgecdlpflaa", sum := "74745bc66a21e27ab852ab94a24d67c2a3a7fe120c3070cd86767745e5dd944e", func := "loop.example/g03407/laws.FnExactIsSchedule", spec := "fnExactIsSchedule", apart := false, narrowed := true }
def FnExactIsScheduleUptoSaid : Prop := fnExactIsScheduleUptoRow.holds Try.pinned (OpenSpec.upto fnExactIsScheduleSpec)

/-- 'laws.FnExactTardinessOf', WHERE WHAT IT READS IS OF BULK AT MOST 1048576: true; the input reads as it did. -/
def fnExactTardinessOfUptoRow : OpenClaim := { program := "ytcfcfgecdlpflaa", sum := "74745bc66a21e27ab852ab94a24d67c2a3a7fe120c3070cd86767745e5dd944e", func := "loop.example/g03407/laws.FnExactTardinessOf", spec := "fnExactTardinessOf", apart := false, narrowed := true }
def FnExactTardinessOfUptoSaid : Prop := fnExactTardinessOfUptoRow.holds Try.pinned (OpenSpec.upto fnExactTardinessOfSpec)

/-- 'laws.FnDispatched', WHERE WHAT IT READS IS OF BULK AT MOST 1048576: true; the input reads as it did. -/
def fnDispatchedUptoRow : OpenClaim := { program := "ytcfcfgecdlpflaa", sum := "74745bc66a21e27ab852ab94a24d67c2a3a7fe120c3070cd86767745e5dd944e", func := "loop.example/g03407/laws.FnDispatched", spec := "fnDispatched", unfollowed := true, recurses := true, apart := false, narrowed := true }
def FnDispatchedUptoSaid : Prop := fnDispatchedUptoRow.holds Try.pinned (OpenSpec.upto fnDispatchedSpec)

/-- 'laws.FnSchedules', WHERE WHAT IT READS IS OF BULK AT MOST 1048576: true; the input reads as it did. -/
def fnSchedulesUptoRow : OpenClaim := { program := "ytcfcfgecdlpflaa", sum := "74745bc66a21e27ab852ab94a24d67c2a3a7fe120c3070cd86767745e5dd944e", func := "loop.example/g03407/laws.FnSchedules", spec := "fnSchedules", apart := false, narrowed := true }
def FnSchedulesUptoSaid : Prop := fnSchedulesUptoRow.holds Try.pinned (OpenSpec.upto fnSchedulesSpec)

/-- 'laws.FnExactAreMinutes', WHERE WHAT IT READS IS OF BULK AT MOST 1048576: true; the input reads as it did. -/
def fnExactAreMinutesUptoRow : OpenClaim := { program := "ytcfcfgecdlpflaa", sum := "74745bc66a21e27ab852ab94a24d67c2a3a7fe120c3070cd86767745e5dd944e", func := "loop.example/g03407/laws.FnExactAreMinutes", spec := "fnExactAreMinutes", apart := false, narrowed := true }
def FnExactAreMinutesUptoSaid : Prop := fnExactAreMinutesUptoRow.holds Try.pinned (OpenSpec.upto fnExactAreMinutesSpec)

/-- 'laws.FnExactMinutesOn', WHERE WHAT IT READS IS OF BULK AT MOST 1048576: true; the input reads as it did. -/
def fnExactMinutesOnUptoRow : OpenClaim := { program := "ytcfcfgecdlpflaa", sum := "74745bc66a21e27ab852ab94a24d67c2a3a7fe120c3070cd86767745e5dd944e", func := "loop.example/g03407/laws.FnExactMinutesOn", spec := "fnExactMinutesOn", apart := false, narrowed := true }
def FnExactMinutesOnUptoSaid : Prop := fnExactMinutesOnUptoRow.holds Try.pinned (OpenSpec.upto fnExactMinutesOnSpec)

/-- 'laws.FnExactOverloadOf', WHERE WHAT IT READS IS OF BULK AT MOST 1048576: true; the input reads as it did. -/
def fnExactOverloadOfUptoRow : OpenClaim := { program := "ytcfcfgecdlpflaa", sum := "74745bc66a21e27ab852ab94a24d67c2a3a7fe120c3070cd86767745e5dd944e", func := "loop.example/g03407/laws.FnExactOverloadOf", spec := "fnExactOverloadOf", apart := false, narrowed := true }
def FnExactOverloadOfUptoSaid : Prop := fnExactOverloadOfUptoRow.holds Try.pinned (OpenSpec.upto fnExactOverloadOfSpec)

end Rows
end Go.Proofs.Ytcfcfgecdlpflaa
