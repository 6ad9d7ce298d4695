/-
  No cell of these rows narrows 'for every input' (looked for: loops, veiled, ifaces, maps, wideKeys, modest, calm, conditions, laid).
  DERIVED. THE GIVEN ROWS OF THIS SEAT. 5 by the template 'for every input the law returns true; each argument reads behind the call as it read before'; 0 by the template 'total and deterministic' (their statements: YtjndlahkmjpdcaaTotals.lean).
  GIVEN WITH THE SEED: the statements are not yours to turn. If you find one false, say at which input.
  Laid BY PROGRAM, IN A SANDBOX (cutbox-rows.mjs): the forced cells as the released guide's own fill.sh prints them over the translation c65e15b4ba09d70a… (all of the seat's roots in one cut). By AI agents, Wed Nov 11 2026. No macro, syntax, notation, axiom, sorry.
-/
import Derived.Test.YtjndlahkmjpdcaaChecked
import GoSem.Claim
import GoSem.ClaimJoined
import GoSem.ClaimMapViews
import Derived.JoinedTies
import Derived.KernelRfl
namespace Go.Proofs.Ytjndlahkmjpdcaa
/- THE CELL 'sum', in the pinned program and in every row, IS THE sha256 OF THE DUMP (.gsa) THAT YtjndlahkmjpdcaaProg.lean LOADS. Nothing in Lean hashes anything: it is a label: what it is worth is what the hold of that sum in a sandbox is worth. -/
noncomputable def Try.pinned : Pinned := { name := "ytjndlahkmjpdcaa", sum := "c65e15b4ba09d70a116fcecd8530de16b5466a220661e38f6a7952e2ed54ffcf", checked := Try.checked }
namespace Rows
def none {H : Type} : Left H := { results := [], args := [] }

/-- 'laws.FnExactArePeriods': WHATEVER THE INPUT: true; the input reads as it did. -/
def fnExactArePeriodsSpec : ChangeSpec := { name := "fnExactArePeriods", fn := fun _ => fun
  | [d1, d2, d3] => { results := [.lit (.bool true)], args := [d1, d2, d3] }
  | _ => none }
def fnExactArePeriodsRow : OpenClaim := { program := "ytjndlahkmjpdcaa", sum := "c65e15b4ba09d70a116fcecd8530de16b5466a220661e38f6a7952e2ed54ffcf", func := "loop.example/g03407/laws.FnExactArePeriods", spec := "fnExactArePeriods", apart := false }
def FnExactArePeriodsSaid : Prop := fnExactArePeriodsRow.holds Try.pinned (OpenSpec.ofChange fnExactArePeriodsSpec)

/-- ITS FALSE NEIGHBOUR: 'it returns false'. Refute it at one input. -/
def fnExactArePeriodsWrong : ChangeSpec := { name := "fnExactArePeriods", fn := fun _ => fun
  | [d1, d2, d3] => { results := [.lit (.bool false)], args := [d1, d2, d3] }
  | _ => none }
def FnExactArePeriodsWrongFalsely : Prop := fnExactArePeriodsRow.holds Try.pinned (OpenSpec.ofChange fnExactArePeriodsWrong)

/-- 'laws.FnExactLotCost': WHATEVER THE INPUT: true; the input reads as it did. -/
def fnExactLotCostSpec : ChangeSpec := { name := "fnExactLotCost", fn := fun _ => fun
  | [d1, d2, d3, d4] => { results := [.lit (.bool true)], args := [d1, d2, d3, d4] }
  | _ => none }
def fnExactLotCostRow : OpenClaim := { program := "ytjndlahkmjpdcaa", sum := "c65e15b4ba09d70a116fcecd8530de16b5466a220661e38f6a7952e2ed54ffcf", func := "loop.example/g03407/laws.FnExactLotCost", spec := "fnExactLotCost", apart := false }
def FnExactLotCostSaid : Prop := fnExactLotCostRow.holds Try.pinned (OpenSpec.ofChange fnExactLotCostSpec)

/-- ITS FALSE NEIGHBOUR: 'it returns false'. Refute it at one input. -/
def fnExactLotCostWrong : ChangeSpec := { name := "fnExactLotCost", fn := fun _ => fun
  | [d1, d2, d3, d4] => { results := [.lit (.bool false)], args := [d1, d2, d3, d4] }
  | _ => none }
def FnExactLotCostWrongFalsely : Prop := fnExactLotCostRow.holds Try.pinned (OpenSpec.ofChange fnExactLotCostWrong)

/-- 'laws.FnExactPartPeriod': WHATEVER THE INPUT: true; the input reads as it did. -/
def fnExactPartPeriodSpec : ChangeSpec := { name := "fnExactPartPeriod", fn := fun _ => fun
  | [d1, d2, d3] => { results := [.lit (.bool true)], args := [d1, d2, d3] }
  | _ => none }
def fnExactPartPeriodRow : OpenClaim := { program := "ytjndlahkmjpdcaa", sum := "c65e15b4ba09d70a116fcecd8530de16b5466a220661e38f6a7952e2ed54ffcf", func := "loop.example/g03407/laws.FnExactPartPeriod", spec := "fnExactPartPeriod", apart := false }
def FnExactPartPeriodSaid : Prop := fnExactPartPeriodRow.holds Try.pinned (OpenSpec.ofChange fnExactPartPeriodSpec)

/-- ITS FALSE NEIGHBOUR: 'it returns false'. Refute it at one input. -/
def fnExactPartPeriodWrong : ChangeSpec := { name := "fnExactPartPeriod", fn := fun _ => fun
  | [d1, d2, d3] => { results := [.lit (.bool false)], args := [d1, d2, d3] }
  | _ => none }
def FnExactPartPeriodWrongFalsely : Prop := fnExactPartPeriodRow.holds Try.pinned (OpenSpec.ofChange fnExactPartPeriodWrong)

/-- 'laws.FnExactBestLots': WHATEVER THE INPUT: true; the input reads as it did. -/
def fnExactBestLotsSpec : ChangeSpec := { name := "fnExactBestLots", fn := fun _ => fun
  | [d1, d2, d3] => { results := [.lit (.bool true)], args := [d1, d2, d3] }
  | _ => none }
def fnExactBestLotsRow : OpenClaim := { program := "ytjndlahkmjpdcaa", sum := "c65e15b4ba09d70a116fcecd8530de16b5466a220661e38f6a7952e2ed54ffcf", func := "loop.example/g03407/laws.FnExactBestLots", spec := "fnExactBestLots", apart := false }
def FnExactBestLotsSaid : Prop := fnExactBestLotsRow.holds Try.pinned (OpenSpec.ofChange fnExactBestLotsSpec)

/-- ITS FALSE NEIGHBOUR: 'it returns false'. Refute it at one input. -/
def fnExactBestLotsWrong : ChangeSpec := { name := "fnExactBestLots", fn := fun _ => fun
  | [d1, d2, d3] => { results := [.lit (.bool false)], args := [d1, d2, d3] }
  | _ => none }
def FnExactBestLotsWrongFalsely : Prop := fnExactBestLotsRow.holds Try.pinned (OpenSpec.ofChange fnExactBestLotsWrong)

/-- 'laws.FnBestLots': WHATEVER THE INPUT: true; the input reads as it did. -/
def fnBestLotsSpec : ChangeSpec := { name := "fnBestLots", fn := fun _ => fun
  | [d] => { results := [.lit (.bool true)], args := [d] }
  | _ => none }
def fnBestLotsRow : OpenClaim := { program := "ytjndlahkmjpdcaa", sum := "c65e15b4ba09d70a116fcecd8530de16b5466a220661e38f6a7952e2ed54ffcf", func := "loop.example/g03407/laws.FnBestLots", spec := "fnBestLots", apart := false }
def FnBestLotsSaid : Prop := fnBestLotsRow.holds Try.pinned (OpenSpec.ofChange fnBestLotsSpec)

/-- ITS FALSE NEIGHBOUR: 'it returns false'. Refute it at one input. -/
def fnBestLotsWrong : ChangeSpec := { name := "fnBestLots", fn := fun _ => fun
  | [d] => { results := [.lit (.bool false)], args := [d] }
  | _ => none }
def FnBestLotsWrongFalsely : Prop := fnBestLotsRow.holds Try.pinned (OpenSpec.ofChange fnBestLotsWrong)

/- THE SECOND FORM. 'bulk': how many values and letters a reading holds, each counted each time it is reached (what is shared counts as often as it is met; a slice's spare places count too). A statement '..UptoSaid' is the law's where the arguments, and the package variables that the reading takes, are together of bulk at most 1048576: NARROWER than '..Said'. Prove '..Said' where nothing that the law and all that it calls make is longer than what came in: it says more and counts as full. Else prove '..UptoSaid'. A law counts once. -/
mutual
def uptoBulk {H : Type} : DataW H → Nat
  | .lit (.string bytes) => bytes.length + 1
  | .lit _ => 1
  | .nil => 1
  | .ptr d => uptoBulk d + 1
  | .slice elems spare => uptoBulkAll elems + uptoBulkAll spare + 1
  | .agg parts => uptoBulkAll parts + 1
  | .iface _ d => uptoBulk d + 1
  | .map entries => uptoBulkEntries entries + 1
  | .held _ => 1
def uptoBulkAll {H : Type} : List (DataW H) → Nat
  | [] => 0
  | d :: r => uptoBulk d + uptoBulkAll r
def uptoBulkEntries {H : Type} : List (Lit × DataW H) → Nat
  | [] => 0
  | x :: r => uptoBulkEntry x + uptoBulkEntries r
def uptoBulkEntry {H : Type} : Lit × DataW H → Nat
  | (.string bytes, d) => bytes.length + uptoBulk d + 1
  | (_, d) => uptoBulk d + 1
 end
def uptoSmall : (H : Type) → List (DataW H) → Bool := fun _ ds => decide (uptoBulkAll ds ≤ 1048576)
def OpenSpec.upto (s : _root_.Go.ChangeSpec) : _root_.Go.OpenSpec := { _root_.Go.OpenSpec.ofChange s with cond := some uptoSmall }

/-- 'laws.FnExactArePeriods', WHERE WHAT IT READS IS OF BULK AT MOST 1048576: true; the input reads as it did. -/
def fnExactArePeriodsUptoRow : OpenClaim := { program := "ytjndlahkmjpdcaa", sum := "c65e15b4ba09d70a116fcecd8530de16b5466a220661e38f6a7952e2ed54ffcf", func := "loop.example/g03407/laws.FnExactArePeriods", spec := "fnExactArePeriods", apart := false, narrowed := true }
def FnExactArePeriodsUptoSaid : Prop := fnExactArePeriodsUptoRow.holds Try.pinned (OpenSpec.upto fnExactArePeriodsSpec)

/-- 'laws.FnExactLotCost', WHERE WHAT IT READS IS OF BULK AT MOST 1048576: true; the input reads as it did. -/
def fnExactLotCostUptoRow : OpenClaim := { program := "ytjndlahkmjpdcaa", sum := "c65e15b4ba09d70a116fcecd8530de16b5466a220661e38f6a7952e2ed54ffcf", func := "loop.example/g03407/laws.FnExactLotCost", spec := "fnExactLotCost", apart := false, narrowed := true }
def FnExactLotCostUptoSaid : Prop := fnExactLotCostUptoRow.holds Try.pinned (OpenSpec.upto fnExactLotCostSpec)

/-- 'laws.FnExactPartPeriod', WHERE WHAT IT READS IS OF BULK AT MOST 1048576: true; the input reads as it did. -/
def fnExactPartPeriodUptoRow : OpenClaim := { program := "ytjndlahkmjpdcaa", sum := "c65e15b4ba09d70a116fcecd8530de16b5466a220661e38f6a7952e2ed54ffcf", func := "loop.example/g03407/laws.FnExactPartPeriod", spec := "fnExactPartPeriod", apart := false, narrowed := true }
def FnExactPartPeriodUptoSaid : Prop := fnExactPartPeriodUptoRow.holds Try.pinned (OpenSpec.upto fnExactPartPeriodSpec)

/-- 'laws.FnExactBestLots', WHERE WHAT IT READS IS OF BULK AT MOST 1048576: true; the input reads as it did. -/
def fnExactBestLotsUptoRow : OpenClaim := { program := "ytjndlahkmjpdcaa", sum := "c65e15b4ba09d70a116fcecd8530de16b5466a220661e38f6a7952e2ed54ffcf", func := "loop.example/g03407/laws.FnExactBestLots", spec := "fnExactBestLots", apart := false, narrowed := true }
def FnExactBestLotsUptoSaid : Prop := fnExactBestLotsUptoRow.holds Try.pinned (OpenSpec.upto fnExactBestLotsSpec)

/-- 'laws.FnBestLots', WHERE WHAT IT READS IS OF BULK AT MOST 1048576: true; the input reads as it did. -/
def fnBestLotsUptoRow : OpenClaim := { program := "ytjndlahkmjpdcaa", sum := "c65e15b4ba09d70a116fcecd8530de16b5466a220661e38f6a7952e2ed54ffcf", func := "loop.example/g03407/laws.FnBestLots", spec := "fnBestLots", apart := false, narrowed := true }
def FnBestLotsUptoSaid : Prop := fnBestLotsUptoRow.holds Try.pinned (OpenSpec.upto fnBestLotsSpec)

end Rows
end Go.Proofs.Ytjndlahkmjpdcaa
