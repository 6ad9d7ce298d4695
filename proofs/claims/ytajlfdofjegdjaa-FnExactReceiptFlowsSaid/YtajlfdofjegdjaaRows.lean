/-
  No cell of these rows narrows 'for every input' (looked for: loops, veiled, ifaces, maps, wideKeys, modest, calm, conditions, laid).
  DERIVED. THE GIVEN ROWS OF THIS SEAT. 5 by the template 'for every input the law returns true; each argument reads behind the call as it read before'; 0 by the template 'total and deterministic' (their statements: YtajlfdofjegdjaaTotals.lean).
  GIVEN WITH THE SEED: the statements are not yours to turn. If you find one false, say at which input.
  Laid BY PROGRAM, IN A SANDBOX (cutbox-rows.mjs): the forced cells as the released guide's own fill.sh prints them over the translation c64bd2c56a2da980… (all of the seat's roots in one cut). By AI agents, Wed Nov 11 2026. No macro, syntax, notation, axiom, sorry.
-/
import Derived.Test.YtajlfdofjegdjaaChecked
import GoSem.Claim
import GoSem.ClaimJoined
import GoSem.ClaimMapViews
import Derived.JoinedTies
import Derived.KernelRfl
namespace Go.Proofs.Ytajlfdofjegdjaa
/- THE CELL 'sum', in the pinned program and in every row, IS THE sha256 OF THE DUMP (.gsa) THAT YtajlfdofjegdjaaProg.lean LOADS. Nothing in Lean hashes anything: it is a label: what it is worth is what the hold of that sum in a sandbox is worth. -/
noncomputable def Try.pinned : Pinned := { name := "ytajlfdofjegdjaa", sum := "c64bd2c56a2da980cf6b876c4273d4473cb2b0eb4421397566bdada8bda0e052", checked := Try.checked }
namespace Rows
def none {H : Type} : Left H := { results := [], args := [] }

/-- 'laws.FnExactIsPlant': WHATEVER THE INPUT: true; the input reads as it did. -/
def fnExactIsPlantSpec : ChangeSpec := { name := "fnExactIsPlant", fn := fun _ => fun
  | [d] => { results := [.lit (.bool true)], args := [d] }
  | _ => none }
def fnExactIsPlantRow : OpenClaim := { program := "ytajlfdofjegdjaa", sum := "c64bd2c56a2da980cf6b876c4273d4473cb2b0eb4421397566bdada8bda0e052", func := "loop.example/g03407/laws.FnExactIsPlant", spec := "fnExactIsPlant", apart := false }
def FnExactIsPlantSaid : Prop := fnExactIsPlantRow.holds Try.pinned (OpenSpec.ofChange fnExactIsPlantSpec)

/-- ITS FALSE NEIGHBOUR: 'it returns false'. Refute it at one input. -/
def fnExactIsPlantWrong : ChangeSpec := { name := "fnExactIsPlant", fn := fun _ => fun
  | [d] => { results := [.lit (.bool false)], args := [d] }
  | _ => none }
def FnExactIsPlantWrongFalsely : Prop := fnExactIsPlantRow.holds Try.pinned (OpenSpec.ofChange fnExactIsPlantWrong)

/-- 'laws.FnExactStockOf': WHATEVER THE INPUT: true; the input reads as it did. -/
def fnExactStockOfSpec : ChangeSpec := { name := "fnExactStockOf", fn := fun _ => fun
  | [d1, d2] => { results := [.lit (.bool true)], args := [d1, d2] }
  | _ => none }
def fnExactStockOfRow : OpenClaim := { program := "ytajlfdofjegdjaa", sum := "c64bd2c56a2da980cf6b876c4273d4473cb2b0eb4421397566bdada8bda0e052", func := "loop.example/g03407/laws.FnExactStockOf", spec := "fnExactStockOf", apart := false }
def FnExactStockOfSaid : Prop := fnExactStockOfRow.holds Try.pinned (OpenSpec.ofChange fnExactStockOfSpec)

/-- ITS FALSE NEIGHBOUR: 'it returns false'. Refute it at one input. -/
def fnExactStockOfWrong : ChangeSpec := { name := "fnExactStockOf", fn := fun _ => fun
  | [d1, d2] => { results := [.lit (.bool false)], args := [d1, d2] }
  | _ => none }
def FnExactStockOfWrongFalsely : Prop := fnExactStockOfRow.holds Try.pinned (OpenSpec.ofChange fnExactStockOfWrong)

/-- 'laws.FnItemPlans': WHATEVER THE INPUT: true; the input reads as it did. -/
def fnItemPlansSpec : ChangeSpec := { name := "fnItemPlans", fn := fun _ => fun
  | [d] => { results := [.lit (.bool true)], args := [d] }
  | _ => none }
def fnItemPlansRow : OpenClaim := { program := "ytajlfdofjegdjaa", sum := "c64bd2c56a2da980cf6b876c4273d4473cb2b0eb4421397566bdada8bda0e052", func := "loop.example/g03407/laws.FnItemPlans", spec := "fnItemPlans", recurses := true, apart := false }
def FnItemPlansSaid : Prop := fnItemPlansRow.holds Try.pinned (OpenSpec.ofChange fnItemPlansSpec)

/-- ITS FALSE NEIGHBOUR: 'it returns false'. Refute it at one input. -/
def fnItemPlansWrong : ChangeSpec := { name := "fnItemPlans", fn := fun _ => fun
  | [d] => { results := [.lit (.bool false)], args := [d] }
  | _ => none }
def FnItemPlansWrongFalsely : Prop := fnItemPlansRow.holds Try.pinned (OpenSpec.ofChange fnItemPlansWrong)

/-- 'laws.FnExactArePlanned': WHATEVER THE INPUT: true; the input reads as it did. -/
def fnExactArePlannedSpec : ChangeSpec := { name := "fnExactArePlanned", fn := fun _ => fun
  | [d1, d2] => { results := [.lit (.bool true)], args := [d1, d2] }
  | _ => none }
def fnExactArePlannedRow : OpenClaim := { program := "ytajlfdofjegdjaa", sum := "c64bd2c56a2da980cf6b876c4273d4473cb2b0eb4421397566bdada8bda0e052", func := "loop.example/g03407/laws.FnExactArePlanned", spec := "fnExactArePlanned", apart := false }
def FnExactArePlannedSaid : Prop := fnExactArePlannedRow.holds Try.pinned (OpenSpec.ofChange fnExactArePlannedSpec)

/-- ITS FALSE NEIGHBOUR: 'it returns false'. Refute it at one input. -/
def fnExactArePlannedWrong : ChangeSpec := { name := "fnExactArePlanned", fn := fun _ => fun
  | [d1, d2] => { results := [.lit (.bool false)], args := [d1, d2] }
  | _ => none }
def FnExactArePlannedWrongFalsely : Prop := fnExactArePlannedRow.holds Try.pinned (OpenSpec.ofChange fnExactArePlannedWrong)

/-- 'laws.FnExactReceiptFlows': WHATEVER THE INPUT: true; the input reads as it did. -/
def fnExactReceiptFlowsSpec : ChangeSpec := { name := "fnExactReceiptFlows", fn := fun _ => fun
  | [d1, d2] => { results := [.lit (.bool true)], args := [d1, d2] }
  | _ => none }
def fnExactReceiptFlowsRow : OpenClaim := { program := "ytajlfdofjegdjaa", sum := "c64bd2c56a2da980cf6b876c4273d4473cb2b0eb4421397566bdada8bda0e052", func := "loop.example/g03407/laws.FnExactReceiptFlows", spec := "fnExactReceiptFlows", apart := false }
def FnExactReceiptFlowsSaid : Prop := fnExactReceiptFlowsRow.holds Try.pinned (OpenSpec.ofChange fnExactReceiptFlowsSpec)

/-- ITS FALSE NEIGHBOUR: 'it returns false'. Refute it at one input. -/
def fnExactReceiptFlowsWrong : ChangeSpec := { name := "fnExactReceiptFlows", fn := fun _ => fun
  | [d1, d2] => { results := [.lit (.bool false)], args := [d1, d2] }
  | _ => none }
def FnExactReceiptFlowsWrongFalsely : Prop := fnExactReceiptFlowsRow.holds Try.pinned (OpenSpec.ofChange fnExactReceiptFlowsWrong)

/- THE SECOND FORM. 'bulk': how many values and letters a reading holds, each counted each time it is reached (what is shared counts as often as it is met; a slice's spare places count too). A statement '..UptoSaid' is the law's where the arguments, and the package variables that the reading takes, are together of bulk at most 1048576: NARROWER than '..Said'. Prove '..Said' where nothing that the law and all that it calls make is longer than what came in: it says more and counts as full. Else prove '..UptoSaid'. A law counts once. -/
mutual
def uptoBulk {H : Type} : DataW H → Nat
  | .lit (.string bytes) => bytes.length + 1
  | .lit _ => 1
  | .nil => 1
  | .ptr d => uptoBulk d + 1
  | .slice elems spare => uptoBulkAll elems + uptoBulkAll spare + 1
  | .agg parts => uptoBulkAll parts + 1
  | .iface _ d => uptoBulk d + 1
  | .map entries => uptoBulkEntries entries + 1
  | .held _ => 1
def uptoBulkAll {H : Type} : List (DataW H) → Nat
  | [] => 0
  | d :: r => uptoBulk d + uptoBulkAll r
def uptoBulkEntries {H : Type} : List (Lit × DataW H) → Nat
  | [] => 0
  | x :: r => uptoBulkEntry x + uptoBulkEntries r
def uptoBulkEntry {H : Type} : Lit × DataW H → Nat
  | (.string bytes, d) => bytes.length + uptoBulk d + 1
  | (_, d) => uptoBulk d + 1
 end
def uptoSmall : (H : Type) → List (DataW H) → Bool := fun _ ds => decide (uptoBulkAll ds ≤ 1048576)
def OpenSpec.upto (s : _root_.Go.ChangeSpec) : _root_.Go.OpenSpec := { _root_.Go.OpenSpec.ofChange s with cond := some uptoSmall }

/-- 'laws.FnExactIsPlant', WHERE WHAT IT READS IS OF BULK AT MOST 1048576: true; the input reads as it did. -/
def fnExactIsPlantUptoRow : OpenClaim := { program := "ytajlfdofjegdjaa", sum := "c64bd2c56a2da980cf6b876c4273d4473cb2b0eb4421397566bdada8bda0e052", func := "loop.example/g03407/laws.FnExactIsPlant", spec := "fnExactIsPlant", apart := false, narrowed := true }
def FnExactIsPlantUptoSaid : Prop := fnExactIsPlantUptoRow.holds Try.pinned (OpenSpec.upto fnExactIsPlantSpec)

/-- 'laws.FnExactStockOf', WHERE WHAT IT READS IS OF BULK AT MOST 1048576: true; the input reads as it did. -/
def fnExactStockOfUptoRow : OpenClaim := { program := "ytajlfdofjegdjaa", sum := "c64bd2c56a2da980cf6b876c4273d4473cb2b0eb4421397566bdada8bda0e052", func := "loop.example/g03407/laws.FnExactStockOf", spec := "fnExactStockOf", apart := false, narrowed := true }
def FnExactStockOfUptoSaid : Prop := fnExactStockOfUptoRow.holds Try.pinned (OpenSpec.upto fnExactStockOfSpec)

/-- 'laws.FnItemPlans', WHERE WHAT IT READS IS OF BULK AT MOST 1048576: true; the input reads as it did. -/
def fnItemPlansUptoRow : OpenClaim := { program := "ytajlfdofjegdjaa", sum := "c64bd2c56a2da980cf6b876c4273d4473cb2b0eb4421397566bdada8bda0e052", func := "loop.example/g03407/laws.FnItemPlans", spec := "fnItemPlans", recurses := true, apart := false, narrowed := true }
def FnItemPlansUptoSaid : Prop := fnItemPlansUptoRow.holds Try.pinned (OpenSpec.upto fnItemPlansSpec)

/-- 'laws.FnExactArePlanned', WHERE WHAT IT READS IS OF BULK AT MOST 1048576: true; the input reads as it did. -/
def fnExactArePlannedUptoRow : OpenClaim := { program := "ytajlfdofjegdjaa", sum := "c64bd2c56a2da980cf6b876c4273d4473cb2b0eb4421397566bdada8bda0e052", func := "loop.example/g03407/laws.FnExactArePlanned", spec := "fnExactArePlanned", apart := false, narrowed := true }
def FnExactArePlannedUptoSaid : Prop := fnExactArePlannedUptoRow.holds Try.pinned (OpenSpec.upto fnExactArePlannedSpec)

/-- 'laws.FnExactReceiptFlows', WHERE WHAT IT READS IS OF BULK AT MOST 1048576: true; the input reads as it did. -/
def fnExactReceiptFlowsUptoRow : OpenClaim := { program := "ytajlfdofjegdjaa", sum := "c64bd2c56a2da980cf6b876c4273d4473cb2b0eb4421397566bdada8bda0e052", func := "loop.example/g03407/laws.FnExactReceiptFlows", spec := "fnExactReceiptFlows", apart := false, narrowed := true }
def FnExactReceiptFlowsUptoSaid : Prop := fnExactReceiptFlowsUptoRow.holds Try.pinned (OpenSpec.upto fnExactReceiptFlowsSpec)

end Rows
end Go.Proofs.Ytajlfdofjegdjaa
