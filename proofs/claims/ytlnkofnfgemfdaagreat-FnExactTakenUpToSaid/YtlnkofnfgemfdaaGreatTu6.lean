/- Part 6 of the texts of this claim: Rows of the call's own and stores far from them. -/
import Derived.Test.YtlnkofnfgemfdaaGreatTu2
/- Rows of the call's own and stores far from them. -/
namespace Go.Proofs.YtlnkofnfgemfdaaGreat
open Go.RowKit
theorem own_far {w : World} {lo : Nat} {e : TypeId} {sz n : Nat} {v : Value} {xs : List Value} (h : w.ownsRow lo e sz v n xs) {p : Addr} (hp : p.block < lo) (x : Value) : (w.setCell p x).ownsRow lo e sz v n xs := by
  refine World.ownsRow.kept h (row := some p.block) ⟨rfl, rfl, rfl, by simp, fun k _ hk => heap_setCell_other w p k x (fun e => hk (by simp [e]))⟩ (.inr ?_)
  intro he
  have := own_block h _ he
  omega
theorem OwnInts.far {w : World} {lo : Nat} {A : Option Addr} {n c : Nat} {l : List Int} (h : OwnInts w lo A n c l) {p : Addr} (hp : p.block < lo) (x : Value) : OwnInts (w.setCell p x) lo A n c l := ⟨h.1, own_far h.2 hp x⟩
theorem OwnRows.far {α : Type} {F : Flat α} {e : TypeId} {w : World} {lo : Nat} {A : Option Addr} {n c : Nat} {l : List α} (h : OwnRows F e w lo A n c l) {p : Addr} (hp : p.block < lo) (x : Value) : OwnRows F e (w.setCell p x) lo A n c l := ⟨h.1, own_far h.2 hp x⟩
theorem set_mid2 {α : Type} (a : List α) (x y : α) (b : List α) (i : Nat) (hi : i = a.length) : (a ++ x :: b).set i y = a ++ y :: b := by
  subst hi
  rw [List.set_append_right _ _ (Nat.le_refl _), Nat.sub_self, List.set_cons_zero]
end Go.Proofs.YtlnkofnfgemfdaaGreat
