/- Items, catalogs, conditions (plain): what both the reference and the program ask of them. -/
import Derived.Test.YtajlfdofjegdjaaCode
import Derived.Test.YtajlfdofjegdjaaItemTo
import Derived.Test.YtajlfdofjegdjaaCondNodeTo
namespace Go.Proofs.Ytajlfdofjegdjaa
open Go.RowKit
/-! It: code, unit, kind, lead, rule, size, safety, scrap. -/
def itNone : It := (ByteArray.empty, ByteArray.empty, 0, 0, 0, 0, 0, 0)
def isLotR (rule size : Int) : Bool := decide ((rule = 0 ∧ size = 0) ∨ ((rule = 1 ∨ rule = 2) ∧ 1 ≤ size ∧ size ≤ 1000))
def isItem (x : It) : Bool :=
  isCode x.1 && (isCode x.2.1 && (inB x.2.2.1 0 2 && (inB x.2.2.2.1 0 30 && (inB x.2.2.2.2.2.2.1 0 100000 && (inB x.2.2.2.2.2.2.2 0 50 && (isLotR x.2.2.2.2.1 x.2.2.2.2.2.1 && decide (x.2.2.1 = 2 → x.2.2.2.1 = 0 ∧ x.2.2.2.2.1 = 0 ∧ x.2.2.2.2.2.2.1 = 0 ∧ x.2.2.2.2.2.2.2 = 0)))))))
def catAt (l : List It) (lt : ByteArray → ByteArray → Bool) (k : Nat) : Bool := isItem (l.getD k itNone) && (decide (k = 0) || lt (l.getD (k - 1) itNone).1 (l.getD k itNone).1)
/-! Cn: kind, option, value. -/
def cnNone : Cn := (0, ByteArray.empty, ByteArray.empty)
/-- The texts of a node. -/
def cnText (x : Cn) : Bool := if x.1 = 1 then isCode x.2.1 && isCode x.2.2 else (x.2.1.toList == []) && (x.2.2.toList == [])
/-- How many conditions lie there behind a node; none if too few lay there ahead of it. -/
def cnNext (n : Nat) (x : Cn) : Option Nat :=
  if x.1 = 0 ∨ x.1 = 1 then some (n + 1) else if x.1 = 2 then (if n < 1 then none else some n) else if x.1 = 3 ∨ x.1 = 4 then (if n < 2 then none else some (n - 1)) else none
def condTo (l : List Cn) : Nat → Option Nat
  | 0 => some 0
  | k + 1 => match condTo l k with
    | none => none
    | some n => match cnNext n (l.getD k cnNone) with
      | none => none
      | some m => if cnText (l.getD k cnNone) then some m else none
def isCond (l : List Cn) : Bool := decide (l.length ≤ 30) && decide (condTo l l.length = some 1)
theorem condTo_le {l : List Cn} {k n : Nat} (h : condTo l k = some n) : n ≤ k := by
  induction k generalizing n with
  | zero => simp only [condTo, Option.some.injEq] at h; omega
  | succ k ih =>
    simp only [condTo] at h
    split at h
    · cases h
    · next n0 h0 =>
      split at h
      · cases h
      · next m hm =>
        split at h
        · have h1 := ih h0
          have h2 := Option.some.inj h
          subst h2
          simp only [cnNext] at hm
          split at hm
          · have := Option.some.inj hm; omega
          · split at hm
            · split at hm
              · cases hm
              · have := Option.some.inj hm; omega
            · split at hm
              · split at hm
                · cases hm
                · have := Option.some.inj hm; omega
              · cases hm
        · cases h
theorem condTo_none {l : List Cn} {k : Nat} (h : condTo l k = none) : ∀ d, condTo l (k + d) = none := by
  intro d
  induction d with
  | zero => exact h
  | succ d ih =>
    rw [show k + (d + 1) = (k + d) + 1 by omega]
    simp only [condTo]
    rw [ih]
theorem isCond_at {l : List Cn} {k : Nat} (hk : k ≤ l.length) (h : condTo l k = none) : isCond l = false := by
  have := condTo_none h (l.length - k)
  rw [show k + (l.length - k) = l.length by omega] at this
  unfold isCond
  rw [this]; simp
end Go.Proofs.Ytajlfdofjegdjaa
