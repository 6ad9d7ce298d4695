/- The walks of IsPlant. -/
import Derived.Test.YtajlfdofjegdjaaPlantTo
import Derived.Test.YtajlfdofjegdjaaBills
namespace Go.Proofs.Ytajlfdofjegdjaa
open Go.RowKit
def ndNone : Nd := (ByteArray.empty, 0)
def okStk (it : List It) (st : List Nd) (k : Nat) : Bool :=
  decide (0 ≤ findIt it (st.getD k ndNone).1) && (inB (st.getD k ndNone).2 0 100000 && (decide (k = 0) || itLt (st.getD (k - 1) ndNone).1 (st.getD k ndNone).1))
def okRcp (it : List It) (x : Rc) : Bool := decide (0 ≤ findIt it x.1) && (inB x.2.2 1 100000 && inB x.2.1 0 999)
def isPlant (p : Pt) : Bool :=
  (isBills p.it p.ls && (isCal p.wk p.ex && (decide ((p.st.length : Int) ≤ 12) && decide ((p.rc.length : Int) ≤ 16)))) && ((List.range p.st.length).all (okStk p.it p.st) && p.rc.all (okRcp p.it))
theorem nd_getD (l : List Nd) (k : Nat) (h : k < l.length) : l.getD k ndNone = l[k] := by
  rw [List.getD_eq_getElem?_getD, List.getElem?_eq_getElem h]; rfl
theorem isPlant_no {p : Pt} (h : (isBills p.it p.ls && (isCal p.wk p.ex && (decide ((p.st.length : Int) ≤ 12) && decide ((p.rc.length : Int) ≤ 16)))) = false) : isPlant p = false := by unfold isPlant; rw [h]; rfl
theorem isPlant_stk {p : Pt} {k : Nat} (hk : k < p.st.length) (h : okStk p.it p.st k = false) : isPlant p = false := by
  unfold isPlant
  have : (List.range p.st.length).all (okStk p.it p.st) = false := by rw [List.all_eq_false]; exact ⟨k, by simpa using hk, by simp [h]⟩
  rw [this]; simp
theorem isPlant_rcp {p : Pt} {k : Nat} (hk : k < p.rc.length) (h : okRcp p.it p.rc[k] = false) : isPlant p = false := by
  unfold isPlant; rw [all_false p.rc _ k hk h]; simp
theorem isPlant_yes {p : Pt} (h1 : isBills p.it p.ls = true) (h2 : isCal p.wk p.ex = true) (h3 : (p.st.length : Int) ≤ 12) (h4 : (p.rc.length : Int) ≤ 16) (h5 : ∀ j < p.st.length, okStk p.it p.st j = true) (h6 : (p.rc.take p.rc.length).all (okRcp p.it) = true) : isPlant p = true := by
  rw [List.take_length] at h6
  unfold isPlant
  have : (List.range p.st.length).all (okStk p.it p.st) = true := by rw [List.all_eq_true]; intro x hx; exact h5 x (by simpa using hx)
  rw [h1, h2, decide_eq_true h3, decide_eq_true h4, this, h6]; rfl
theorem okStk_of {it : List It} {st : List Nd} {k : Nat} (hk : k < st.length) : okStk it st k = (decide (0 ≤ findIt it st[k].1) && (inB st[k].2 0 100000 && (decide (k = 0) || itLt (st.getD (k - 1) ndNone).1 st[k].1))) := by
  unfold okStk; rw [nd_getD _ _ hk]
theorem okStk_find {it : List It} {st : List Nd} {k : Nat} (hk : k < st.length) (h : ¬ 0 ≤ findIt it st[k].1) : okStk it st k = false := by rw [okStk_of hk, decide_eq_false h]; rfl
theorem okStk_in {it : List It} {st : List Nd} {k : Nat} (hk : k < st.length) (h : inB st[k].2 0 100000 = false) : okStk it st k = false := by rw [okStk_of hk, h]; simp
theorem okStk_first {it : List It} {st : List Nd} {k : Nat} (hk : k < st.length) (h1 : 0 ≤ findIt it st[k].1) (h2 : inB st[k].2 0 100000 = true) (h0 : k = 0) : okStk it st k = true := by rw [okStk_of hk, decide_eq_true h1, h2, decide_eq_true h0]; rfl
theorem okStk_next {it : List It} {st : List Nd} {k : Nat} (hk : k < st.length) (h1 : 0 ≤ findIt it st[k].1) (h2 : inB st[k].2 0 100000 = true) (h0 : ¬ k = 0) (hp : k - 1 < st.length) : okStk it st k = itLt st[k - 1].1 st[k].1 := by rw [okStk_of hk, decide_eq_true h1, h2, decide_eq_false h0, nd_getD _ _ hp]; rfl
theorem okStk_more {it : List It} {st : List Nd} {k : Nat} (h : okStk it st k = true) (hI : ∀ j < k, okStk it st j = true) : ∀ j < k + 1, okStk it st j = true := fun j hj => by
  rcases Nat.lt_or_ge j k with h1 | h1
  · exact hI j h1
  · rw [show j = k by omega]; exact h
end Go.Proofs.Ytajlfdofjegdjaa
