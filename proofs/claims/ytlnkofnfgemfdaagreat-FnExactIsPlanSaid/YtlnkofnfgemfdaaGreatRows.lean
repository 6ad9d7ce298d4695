/-
  No cell of these rows narrows 'for every input' (looked for: loops, veiled, ifaces, maps, wideKeys, modest, calm, conditions, laid).
  DERIVED. THE GIVEN ROWS OF THIS SEAT. 4 by the template 'for every input the law returns true; each argument reads behind the call as it read before'; 0 by the template 'total and deterministic' (their statements: YtlnkofnfgemfdaaGreatTotals.lean).
  GIVEN WITH THE SEED: the statements are not yours to turn. If you find one false, say at which input.
  Laid BY PROGRAM, IN A SANDBOX (cutbox-rows.mjs): the forced cells as the released guide's own fill.sh prints them over the translation 3a101da04820f9f2… (all of the seat's roots in one cut). By AI agents, Wed Nov 11 2026. No macro, syntax, notation, axiom, sorry.
-/
import Derived.Test.YtlnkofnfgemfdaaGreatChecked
import GoSem.Claim
import GoSem.ClaimJoined
import GoSem.ClaimMapViews
import Derived.JoinedTies
import Derived.KernelRfl
namespace Go.Proofs.YtlnkofnfgemfdaaGreat
/- THE CELL 'sum', in the pinned program and in every row, IS THE sha256 OF THE DUMP (.gsa) THAT YtlnkofnfgemfdaaGreatProg.lean LOADS. Nothing in Lean hashes anything: it is a label: what it is worth is what the hold of that sum in a sandbox is worth. -/
noncomputable def Tryz.pinned : Pinned := { name := "ytlnkofnfgemfdaagreat", sum := "3a101da04820f9f2961377bbc5ad4e91a87182b4cb5a22566d2122dd7ebeb2f5", checked := Tryz.checked }
namespace Rows
def none {H : Type} : Left H := { results := [], args := [] }

/-- 'laws.FnExactPlanItem': WHATEVER THE INPUT: true; the input reads as it did. -/
def fnExactPlanItemSpec : ChangeSpec := { name := "fnExactPlanItem", fn := fun _ => fun
  | [d1, d2, d3] => { results := [.lit (.bool true)], args := [d1, d2, d3] }
  | _ => none }
def fnExactPlanItemRow : OpenClaim := { program := "ytlnkofnfgemfdaagreat", sum := "3a101da04820f9f2961377bbc5ad4e91a87182b4cb5a22566d2122dd7ebeb2f5", func := "loop.example/g03407/laws.FnExactPlanItem", spec := "fnExactPlanItem", apart := false }
def FnExactPlanItemSaid : Prop := fnExactPlanItemRow.holds Tryz.pinned (OpenSpec.ofChange fnExactPlanItemSpec)

/-- ITS FALSE NEIGHBOUR: 'it returns false'. Refute it at one input. -/
def fnExactPlanItemWrong : ChangeSpec := { name := "fnExactPlanItem", fn := fun _ => fun
  | [d1, d2, d3] => { results := [.lit (.bool false)], args := [d1, d2, d3] }
  | _ => none }
def FnExactPlanItemWrongFalsely : Prop := fnExactPlanItemRow.holds Tryz.pinned (OpenSpec.ofChange fnExactPlanItemWrong)

/-- 'laws.FnExactIsPlan': WHATEVER THE INPUT: true; the input reads as it did. -/
def fnExactIsPlanSpec : ChangeSpec := { name := "fnExactIsPlan", fn := fun _ => fun
  | [d1, d2, d3] => { results := [.lit (.bool true)], args := [d1, d2, d3] }
  | _ => none }
def fnExactIsPlanRow : OpenClaim := { program := "ytlnkofnfgemfdaagreat", sum := "3a101da04820f9f2961377bbc5ad4e91a87182b4cb5a22566d2122dd7ebeb2f5", func := "loop.example/g03407/laws.FnExactIsPlan", spec := "fnExactIsPlan", unfollowed := true, recurses := true, apart := false }
def FnExactIsPlanSaid : Prop := fnExactIsPlanRow.holds Tryz.pinned (OpenSpec.ofChange fnExactIsPlanSpec)

/-- ITS FALSE NEIGHBOUR: 'it returns false'. Refute it at one input. -/
def fnExactIsPlanWrong : ChangeSpec := { name := "fnExactIsPlan", fn := fun _ => fun
  | [d1, d2, d3] => { results := [.lit (.bool false)], args := [d1, d2, d3] }
  | _ => none }
def FnExactIsPlanWrongFalsely : Prop := fnExactIsPlanRow.holds Tryz.pinned (OpenSpec.ofChange fnExactIsPlanWrong)

/-- 'laws.FnExactTakenUpTo': WHATEVER THE INPUT: true; the input reads as it did. -/
def fnExactTakenUpToSpec : ChangeSpec := { name := "fnExactTakenUpTo", fn := fun _ => fun
  | [d1, d2, d3, d4, d5] => { results := [.lit (.bool true)], args := [d1, d2, d3, d4, d5] }
  | _ => none }
def fnExactTakenUpToRow : OpenClaim := { program := "ytlnkofnfgemfdaagreat", sum := "3a101da04820f9f2961377bbc5ad4e91a87182b4cb5a22566d2122dd7ebeb2f5", func := "loop.example/g03407/laws.FnExactTakenUpTo", spec := "fnExactTakenUpTo", unfollowed := true, recurses := true, apart := false }
def FnExactTakenUpToSaid : Prop := fnExactTakenUpToRow.holds Tryz.pinned (OpenSpec.ofChange fnExactTakenUpToSpec)

/-- ITS FALSE NEIGHBOUR: 'it returns false'. Refute it at one input. -/
def fnExactTakenUpToWrong : ChangeSpec := { name := "fnExactTakenUpTo", fn := fun _ => fun
  | [d1, d2, d3, d4, d5] => { results := [.lit (.bool false)], args := [d1, d2, d3, d4, d5] }
  | _ => none }
def FnExactTakenUpToWrongFalsely : Prop := fnExactTakenUpToRow.holds Tryz.pinned (OpenSpec.ofChange fnExactTakenUpToWrong)

/-- 'laws.FnExactBalanceOn': WHATEVER THE INPUT: true; the input reads as it did. -/
def fnExactBalanceOnSpec : ChangeSpec := { name := "fnExactBalanceOn", fn := fun _ => fun
  | [d1, d2, d3, d4, d5] => { results := [.lit (.bool true)], args := [d1, d2, d3, d4, d5] }
  | _ => none }
def fnExactBalanceOnRow : OpenClaim := { program := "ytlnkofnfgemfdaagreat", sum := "3a101da04820f9f2961377bbc5ad4e91a87182b4cb5a22566d2122dd7ebeb2f5", func := "loop.example/g03407/laws.FnExactBalanceOn", spec := "fnExactBalanceOn", unfollowed := true, recurses := true, apart := false }
def FnExactBalanceOnSaid : Prop := fnExactBalanceOnRow.holds Tryz.pinned (OpenSpec.ofChange fnExactBalanceOnSpec)

/-- ITS FALSE NEIGHBOUR: 'it returns false'. Refute it at one input. -/
def fnExactBalanceOnWrong : ChangeSpec := { name := "fnExactBalanceOn", fn := fun _ => fun
  | [d1, d2, d3, d4, d5] => { results := [.lit (.bool false)], args := [d1, d2, d3, d4, d5] }
  | _ => none }
def FnExactBalanceOnWrongFalsely : Prop := fnExactBalanceOnRow.holds Tryz.pinned (OpenSpec.ofChange fnExactBalanceOnWrong)

/- THE SECOND FORM. 'bulk': how many values and letters a reading holds, each counted each time it is reached (what is shared counts as often as it is met; a slice's spare places count too). A statement '..UptoSaid' is the law's where the arguments, and the package variables that the reading takes, are together of bulk at most 1048576: NARROWER than '..Said'. Prove '..Said' where nothing that the law and all that it calls make is longer than what came in: it says more and counts as full. Else prove '..UptoSaid'. A law counts once. -/
mutual
def uptoBulk {H : Type} : DataW H → Nat
  | .lit (.string bytes) => bytes.length + 1
  | .lit _ => 1
  | .nil => 1
  | .ptr d => uptoBulk d + 1
  | .slice elems spare => uptoBulkAll elems + uptoBulkAll spare + 1
  | .agg parts => uptoBulkAll parts + 1
  | .iface _ d => uptoBulk d + 1
  | .map entries => uptoBulkEntries entries + 1
  | .held _ => 1
def uptoBulkAll {H : Type} : List (DataW H) → Nat
  | [] => 0
  | d :: r => uptoBulk d + uptoBulkAll r
def uptoBulkEntries {H : Type} : List (Lit × DataW H) → Nat
  | [] => 0
  | x :: r => uptoBulkEntry x + uptoBulkEntries r
def uptoBulkEntry {H : Type} : Lit × DataW H → Nat
  | (.string bytes, d) => bytes.length + uptoBulk d + 1
  | (_, d) => uptoBulk d + 1
 end
def uptoSmall : (H : Type) → List (DataW H) → Bool := fun _ ds => decide (uptoBulkAll ds ≤ 1048576)
def OpenSpec.upto (s : _root_.Go.ChangeSpec) : _root_.Go.OpenSpec := { _root_.Go.OpenSpec.ofChange s with cond := some uptoSmall }

/-- 'laws.FnExactPlanItem', WHERE WHAT IT READS IS OF BULK AT MOST 1048576: true; the input reads as it did. -/
def fnExactPlanItemUptoRow : OpenClaim := { program := "ytlnkofnfgemfdaagreat", sum := "3a101da04820f9f2961377bbc5ad4e91a87182b4cb5a22566d2122dd7ebeb2f5", func := "loop.example/g03407/laws.FnExactPlanItem", spec := "fnExactPlanItem", apart := false, narrowed := true }
def FnExactPlanItemUptoSaid : Prop := fnExactPlanItemUptoRow.holds Tryz.pinned (OpenSpec.upto fnExactPlanItemSpec)

/-- 'laws.FnExactIsPlan', WHERE WHAT IT READS IS OF BULK AT MOST 1048576: true; the input reads as it did. -/
def fnExactIsPlanUptoRow : OpenClaim := { program := "ytlnkofnfgemfdaagreat", sum := "3a101da04820f9f2961377bbc5ad4e91a87182b4cb5a22566d2122dd7ebeb2f5", func := "loop.example/g03407/laws.FnExactIsPlan", spec := "fnExactIsPlan", unfollowed := true, recurses := true, apart := false, narrowed := true }
def FnExactIsPlanUptoSaid : Prop := fnExactIsPlanUptoRow.holds Tryz.pinned (OpenSpec.upto fnExactIsPlanSpec)

/-- 'laws.FnExactTakenUpTo', WHERE WHAT IT READS IS OF BULK AT MOST 1048576: true; the input reads as it did. -/
def fnExactTakenUpToUptoRow : OpenClaim := { program := "ytlnkofnfgemfdaagreat", sum := "3a101da04820f9f2961377bbc5ad4e91a87182b4cb5a22566d2122dd7ebeb2f5", func := "loop.example/g03407/laws.FnExactTakenUpTo", spec := "fnExactTakenUpTo", unfollowed := true, recurses := true, apart := false, narrowed := true }
def FnExactTakenUpToUptoSaid : Prop := fnExactTakenUpToUptoRow.holds Tryz.pinned (OpenSpec.upto fnExactTakenUpToSpec)

/-- 'laws.FnExactBalanceOn', WHERE WHAT IT READS IS OF BULK AT MOST 1048576: true; the input reads as it did. -/
def fnExactBalanceOnUptoRow : OpenClaim := { program := "ytlnkofnfgemfdaagreat", sum := "3a101da04820f9f2961377bbc5ad4e91a87182b4cb5a22566d2122dd7ebeb2f5", func := "loop.example/g03407/laws.FnExactBalanceOn", spec := "fnExactBalanceOn", unfollowed := true, recurses := true, apart := false, narrowed := true }
def FnExactBalanceOnUptoSaid : Prop := fnExactBalanceOnUptoRow.holds Tryz.pinned (OpenSpec.upto fnExactBalanceOnSpec)

end Rows
end Go.Proofs.YtlnkofnfgemfdaaGreat
