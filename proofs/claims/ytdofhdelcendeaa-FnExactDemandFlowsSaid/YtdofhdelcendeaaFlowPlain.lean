/- Plain facts on sums of flows: no program in sight. -/
import Derived.Test.YtdofhdelcendeaaFlow
namespace Go.Proofs.Ytdofhdelcendeaa

/-- What the flows bring up to a day. -/
def upTo : List Fl → Int → Int
  | [], _ => 0
  | f :: t, d => (if f.1 ≤ d then f.2 else 0) + upTo t d
theorem upTo_append (a b : List Fl) (d : Int) : upTo (a ++ b) d = upTo a d + upTo b d := by
  induction a with
  | nil => simp [upTo]
  | cons f t ih => simp only [List.cons_append, upTo, ih]; omega
theorem upTo_take (l : List Fl) (d : Int) (k : Nat) (h : k < l.length) : upTo (l.take (k + 1)) d = upTo (l.take k) d + if l[k].1 ≤ d then l[k].2 else 0 := by
  rw [List.take_succ_eq_append_getElem h, upTo_append]; simp [upTo]
theorem upTo_bd (l : List Fl) (d : Int) (h : ∀ f ∈ l, 1 ≤ f.2 ∧ f.2 ≤ 1000000000) : 0 ≤ upTo l d ∧ upTo l d ≤ 1000000000 * l.length := by
  induction l with
  | nil => simp [upTo]
  | cons f t ih =>
    obtain ⟨h1, h2⟩ := ih (fun g hg => h g (List.mem_cons_of_mem _ hg))
    have h3 := h f List.mem_cons_self
    simp only [upTo, List.length_cons]
    split <;> omega
def flowUpTo (l : List Fl) (d : Int) : Int := if areFlows l then upTo l d else 0
theorem areFlows_parts {l : List Fl} (h : areFlows l = true) : (∀ j < l.length, okFlow l j = true) ∧ l.length ≤ 40 := by
  simp only [areFlows, Bool.and_eq_true, List.all_eq_true, List.mem_range, decide_eq_true_eq] at h
  exact ⟨h.1, by omega⟩
theorem areFlows_mem {l : List Fl} (h : areFlows l = true) : ∀ f ∈ l, (0 ≤ f.1 ∧ f.1 ≤ 999) ∧ 1 ≤ f.2 ∧ f.2 ≤ 1000000000 := by
  intro f hf
  obtain ⟨j, hj, rfl⟩ := List.getElem_of_mem hf
  have := (areFlows_parts h).1 j hj
  simp only [okFlow, getD_at _ _ _ hj, Bool.and_eq_true, inB_iff] at this
  exact ⟨this.1, this.2.1⟩
theorem areFlows_bd {l : List Fl} (h : areFlows l = true) (d : Int) (k : Nat) : 0 ≤ upTo (l.take k) d ∧ upTo (l.take k) d ≤ 40000000000 := by
  obtain ⟨h1, h2⟩ := upTo_bd (l.take k) d (fun f hf => (areFlows_mem h f (List.mem_of_mem_take hf)).2)
  have h3 := (areFlows_parts h).2
  have h4 : (l.take k).length ≤ 40 := by simp; omega
  exact ⟨h1, by omega⟩
theorem flowUpTo_bd (l : List Fl) (d : Int) : 0 ≤ flowUpTo l d ∧ flowUpTo l d ≤ 40000000000 := by
  unfold flowUpTo
  cases h : areFlows l
  · simp
  · have := areFlows_bd h d l.length
    rw [List.take_length] at this
    simpa using this
theorem flowUpTo_yes {l : List Fl} (h : areFlows l = true) (d : Int) : flowUpTo l d = upTo l d := by simp [flowUpTo, h]
theorem flowUpTo_no {l : List Fl} (h : areFlows l = false) (d : Int) : flowUpTo l d = 0 := by simp [flowUpTo, h]

def spareOn (needs lots : List Fl) (d : Int) : Int := if areFlows needs && areFlows lots then flowUpTo lots d - flowUpTo needs d else 0

/-- The greatest excess of demands over supplies up to one of the first k demands' days. -/
def lackTo (dem sup : List Fl) : Nat → Int
  | 0 => 0
  | k + 1 => max (lackTo dem sup k) (flowUpTo dem (dem.getD k (0, 0)).1 - flowUpTo sup (dem.getD k (0, 0)).1)
theorem lackTo_bd (dem sup : List Fl) (k : Nat) : 0 ≤ lackTo dem sup k ∧ lackTo dem sup k ≤ 40000000000 := by
  induction k with
  | zero => simp [lackTo]
  | succ k ih =>
    have h1 := flowUpTo_bd dem (dem.getD k (0, 0)).1
    have h2 := flowUpTo_bd sup (dem.getD k (0, 0)).1
    simp only [lackTo]
    omega
def lackOf (dem sup : List Fl) : Int × Bool := if areFlows dem && areFlows sup then (lackTo dem sup dem.length, true) else (0, false)
/-- Whether no more has been promised up to the day of any promise than is there. -/
def isKept (sup prom : List Fl) : Bool :=
  areFlows sup && (areFlows prom && (List.range prom.length).all fun k => decide (flowUpTo prom (prom.getD k (0, 0)).1 ≤ flowUpTo sup (prom.getD k (0, 0)).1))
theorem lackTo_zero (dem sup : List Fl) (k : Nat) : lackTo dem sup k = 0 ↔ ∀ j < k, flowUpTo dem (dem.getD j (0, 0)).1 ≤ flowUpTo sup (dem.getD j (0, 0)).1 := by
  induction k with
  | zero => simp [lackTo]
  | succ k ih =>
    have h1 := (lackTo_bd dem sup k).1
    simp only [lackTo]
    constructor
    · intro h j hj
      rcases Nat.lt_or_ge j k with h2 | h2
      · exact (ih.1 (by omega)) j h2
      · rw [show j = k by omega]; omega
    · intro h
      have h2 := ih.2 (fun j hj => h j (by omega))
      have h3 := h k (by omega)
      omega
theorem isKept_lack (sup prom : List Fl) : isKept sup prom = ((lackOf prom sup).2 && decide ((lackOf prom sup).1 = 0)) := by
  unfold isKept lackOf
  cases h1 : areFlows sup <;> cases h2 : areFlows prom <;> simp
  rw [Bool.eq_iff_iff, List.all_eq_true, decide_eq_true_eq, lackTo_zero]
  simp
theorem isKept_no {sup prom : List Fl} {k : Nat} (hk : k < prom.length) (h : flowUpTo sup prom[k].1 < flowUpTo prom prom[k].1) : isKept sup prom = false := by
  unfold isKept
  have : ((List.range prom.length).all fun k => decide (flowUpTo prom (prom.getD k (0, 0)).1 ≤ flowUpTo sup (prom.getD k (0, 0)).1)) = false := by
    rw [List.all_eq_false]
    exact ⟨k, by simpa using hk, by rw [getD_at _ _ _ hk]; simp; omega⟩
  rw [this]; simp
theorem isKept_yes {sup prom : List Fl} (h1 : areFlows sup = true) (h2 : areFlows prom = true) (h : ∀ k (hk : k < prom.length), flowUpTo prom prom[k].1 ≤ flowUpTo sup prom[k].1) : isKept sup prom = true := by
  unfold isKept
  have : ((List.range prom.length).all fun k => decide (flowUpTo prom (prom.getD k (0, 0)).1 ≤ flowUpTo sup (prom.getD k (0, 0)).1)) = true := by
    rw [List.all_eq_true]
    intro k hk
    simp at hk
    rw [getD_at _ _ _ hk]
    simpa using h k hk
  rw [this, h1, h2]; rfl
theorem isKept_parts {sup prom : List Fl} (h : isKept sup prom = true) : areFlows sup = true ∧ areFlows prom = true := by
  simp only [isKept, Bool.and_eq_true] at h
  exact ⟨h.1, h.2.1⟩
/-- How much more can be promised for a day, looking at the first k promises. -/
def openTo (sup prom : List Fl) (d : Int) : Nat → Int
  | 0 => flowUpTo sup d - flowUpTo prom d
  | k + 1 => if d < (prom.getD k (0, 0)).1 then min (openTo sup prom d k) (flowUpTo sup (prom.getD k (0, 0)).1 - flowUpTo prom (prom.getD k (0, 0)).1) else openTo sup prom d k
theorem openTo_bd (sup prom : List Fl) (d : Int) (k : Nat) : -40000000000 ≤ openTo sup prom d k ∧ openTo sup prom d k ≤ 40000000000 := by
  induction k with
  | zero =>
    have h1 := flowUpTo_bd sup d
    have h2 := flowUpTo_bd prom d
    simp only [openTo]; omega
  | succ k ih =>
    have h1 := flowUpTo_bd sup (prom.getD k (0, 0)).1
    have h2 := flowUpTo_bd prom (prom.getD k (0, 0)).1
    simp only [openTo]
    split <;> omega
def openOn (sup prom : List Fl) (d : Int) : Int := if isKept sup prom && inB d 0 999 then openTo sup prom d prom.length else 0
/-- The first of the days from 'd' on, n of them, at which so much is open. -/
def firstOpen (sup prom : List Fl) (q : Int) : Nat → Int → Int × Bool
  | 0, _ => (0, false)
  | n + 1, d => if q ≤ openOn sup prom d then (d, true) else firstOpen sup prom q n (d + 1)
def promiseDay (sup prom : List Fl) (q d : Int) : Int × Bool :=
  if isKept sup prom && (inB q 1 1000000000 && inB d 0 999) then firstOpen sup prom q (1000 - d.toNat) d else (0, false)
end Go.Proofs.Ytdofhdelcendeaa
