/- Part 11 of the texts of this claim: Plain facts on sums of flows: no program in sight; Adding a flow to flows in ascending order: the reference's way and the program's come to one; The walks of the laws' own helpers on flows: copies, comparisons, marks; The endings of calls that hand back flows; The walks of the two ways to add a flow. -/
import Derived.Test.YtlnkofnfgemfdaaGreatIp10
import Derived.Test.YtlnkofnfgemfdaaGreatIp2
import Derived.Deep.DeepMust
import Derived.Test.YtlnkofnfgemfdaaGreatIp7
/- Plain facts on sums of flows: no program in sight. -/
namespace Go.Proofs.YtlnkofnfgemfdaaGreat

/-- What the flows bring up to a day. -/
def upTo : List Fl → Int → Int
  | [], _ => 0
  | f :: t, d => (if f.1 ≤ d then f.2 else 0) + upTo t d
theorem upTo_append (a b : List Fl) (d : Int) : upTo (a ++ b) d = upTo a d + upTo b d := by
  induction a with
  | nil => simp [upTo]
  | cons f t ih => simp only [List.cons_append, upTo, ih]; omega
theorem upTo_take (l : List Fl) (d : Int) (k : Nat) (h : k < l.length) : upTo (l.take (k + 1)) d = upTo (l.take k) d + if l[k].1 ≤ d then l[k].2 else 0 := by
  rw [List.take_succ_eq_append_getElem h, upTo_append]; simp [upTo]
theorem upTo_bd (l : List Fl) (d : Int) (h : ∀ f ∈ l, 1 ≤ f.2 ∧ f.2 ≤ 1000000000) : 0 ≤ upTo l d ∧ upTo l d ≤ 1000000000 * l.length := by
  induction l with
  | nil => simp [upTo]
  | cons f t ih =>
    obtain ⟨h1, h2⟩ := ih (fun g hg => h g (List.mem_cons_of_mem _ hg))
    have h3 := h f List.mem_cons_self
    simp only [upTo, List.length_cons]
    split <;> omega
def flowUpTo (l : List Fl) (d : Int) : Int := if areFlows l then upTo l d else 0
theorem areFlows_parts {l : List Fl} (h : areFlows l = true) : (∀ j < l.length, okFlow l j = true) ∧ l.length ≤ 40 := by
  simp only [areFlows, Bool.and_eq_true, List.all_eq_true, List.mem_range, decide_eq_true_eq] at h
  exact ⟨h.1, by omega⟩
theorem areFlows_mem {l : List Fl} (h : areFlows l = true) : ∀ f ∈ l, (0 ≤ f.1 ∧ f.1 ≤ 999) ∧ 1 ≤ f.2 ∧ f.2 ≤ 1000000000 := by
  intro f hf
  obtain ⟨j, hj, rfl⟩ := List.getElem_of_mem hf
  have := (areFlows_parts h).1 j hj
  simp only [okFlow, getD_at _ _ _ hj, Bool.and_eq_true, inB_iff] at this
  exact ⟨this.1, this.2.1⟩
theorem areFlows_bd {l : List Fl} (h : areFlows l = true) (d : Int) (k : Nat) : 0 ≤ upTo (l.take k) d ∧ upTo (l.take k) d ≤ 40000000000 := by
  obtain ⟨h1, h2⟩ := upTo_bd (l.take k) d (fun f hf => (areFlows_mem h f (List.mem_of_mem_take hf)).2)
  have h3 := (areFlows_parts h).2
  have h4 : (l.take k).length ≤ 40 := by simp; omega
  exact ⟨h1, by omega⟩
theorem flowUpTo_bd (l : List Fl) (d : Int) : 0 ≤ flowUpTo l d ∧ flowUpTo l d ≤ 40000000000 := by
  unfold flowUpTo
  cases h : areFlows l
  · simp
  · have := areFlows_bd h d l.length
    rw [List.take_length] at this
    simpa using this
theorem flowUpTo_yes {l : List Fl} (h : areFlows l = true) (d : Int) : flowUpTo l d = upTo l d := by simp [flowUpTo, h]
theorem flowUpTo_no {l : List Fl} (h : areFlows l = false) (d : Int) : flowUpTo l d = 0 := by simp [flowUpTo, h]

def spareOn (needs lots : List Fl) (d : Int) : Int := if areFlows needs && areFlows lots then flowUpTo lots d - flowUpTo needs d else 0

/-- The greatest excess of demands over supplies up to one of the first k demands' days. -/
def lackTo (dem sup : List Fl) : Nat → Int
  | 0 => 0
  | k + 1 => max (lackTo dem sup k) (flowUpTo dem (dem.getD k (0, 0)).1 - flowUpTo sup (dem.getD k (0, 0)).1)
theorem lackTo_bd (dem sup : List Fl) (k : Nat) : 0 ≤ lackTo dem sup k ∧ lackTo dem sup k ≤ 40000000000 := by
  induction k with
  | zero => simp [lackTo]
  | succ k ih =>
    have h1 := flowUpTo_bd dem (dem.getD k (0, 0)).1
    have h2 := flowUpTo_bd sup (dem.getD k (0, 0)).1
    simp only [lackTo]
    omega
def lackOf (dem sup : List Fl) : Int × Bool := if areFlows dem && areFlows sup then (lackTo dem sup dem.length, true) else (0, false)
/-- Whether no more has been promised up to the day of any promise than is there. -/
def isKept (sup prom : List Fl) : Bool :=
  areFlows sup && (areFlows prom && (List.range prom.length).all fun k => decide (flowUpTo prom (prom.getD k (0, 0)).1 ≤ flowUpTo sup (prom.getD k (0, 0)).1))
theorem lackTo_zero (dem sup : List Fl) (k : Nat) : lackTo dem sup k = 0 ↔ ∀ j < k, flowUpTo dem (dem.getD j (0, 0)).1 ≤ flowUpTo sup (dem.getD j (0, 0)).1 := by
  induction k with
  | zero => simp [lackTo]
  | succ k ih =>
    have h1 := (lackTo_bd dem sup k).1
    simp only [lackTo]
    constructor
    · intro h j hj
      rcases Nat.lt_or_ge j k with h2 | h2
      · exact (ih.1 (by omega)) j h2
      · rw [show j = k by omega]; omega
    · intro h
      have h2 := ih.2 (fun j hj => h j (by omega))
      have h3 := h k (by omega)
      omega
theorem isKept_lack (sup prom : List Fl) : isKept sup prom = ((lackOf prom sup).2 && decide ((lackOf prom sup).1 = 0)) := by
  unfold isKept lackOf
  cases h1 : areFlows sup <;> cases h2 : areFlows prom <;> simp
  rw [Bool.eq_iff_iff, List.all_eq_true, decide_eq_true_eq, lackTo_zero]
  simp
theorem isKept_no {sup prom : List Fl} {k : Nat} (hk : k < prom.length) (h : flowUpTo sup prom[k].1 < flowUpTo prom prom[k].1) : isKept sup prom = false := by
  unfold isKept
  have : ((List.range prom.length).all fun k => decide (flowUpTo prom (prom.getD k (0, 0)).1 ≤ flowUpTo sup (prom.getD k (0, 0)).1)) = false := by
    rw [List.all_eq_false]
    exact ⟨k, by simpa using hk, by rw [getD_at _ _ _ hk]; simp; omega⟩
  rw [this]; simp
theorem isKept_yes {sup prom : List Fl} (h1 : areFlows sup = true) (h2 : areFlows prom = true) (h : ∀ k (hk : k < prom.length), flowUpTo prom prom[k].1 ≤ flowUpTo sup prom[k].1) : isKept sup prom = true := by
  unfold isKept
  have : ((List.range prom.length).all fun k => decide (flowUpTo prom (prom.getD k (0, 0)).1 ≤ flowUpTo sup (prom.getD k (0, 0)).1)) = true := by
    rw [List.all_eq_true]
    intro k hk
    simp at hk
    rw [getD_at _ _ _ hk]
    simpa using h k hk
  rw [this, h1, h2]; rfl
theorem isKept_parts {sup prom : List Fl} (h : isKept sup prom = true) : areFlows sup = true ∧ areFlows prom = true := by
  simp only [isKept, Bool.and_eq_true] at h
  exact ⟨h.1, h.2.1⟩
/-- How much more can be promised for a day, looking at the first k promises. -/
def openTo (sup prom : List Fl) (d : Int) : Nat → Int
  | 0 => flowUpTo sup d - flowUpTo prom d
  | k + 1 => if d < (prom.getD k (0, 0)).1 then min (openTo sup prom d k) (flowUpTo sup (prom.getD k (0, 0)).1 - flowUpTo prom (prom.getD k (0, 0)).1) else openTo sup prom d k
theorem openTo_bd (sup prom : List Fl) (d : Int) (k : Nat) : -40000000000 ≤ openTo sup prom d k ∧ openTo sup prom d k ≤ 40000000000 := by
  induction k with
  | zero =>
    have h1 := flowUpTo_bd sup d
    have h2 := flowUpTo_bd prom d
    simp only [openTo]; omega
  | succ k ih =>
    have h1 := flowUpTo_bd sup (prom.getD k (0, 0)).1
    have h2 := flowUpTo_bd prom (prom.getD k (0, 0)).1
    simp only [openTo]
    split <;> omega
def openOn (sup prom : List Fl) (d : Int) : Int := if isKept sup prom && inB d 0 999 then openTo sup prom d prom.length else 0
/-- The first of the days from 'd' on, n of them, at which so much is open. -/
def firstOpen (sup prom : List Fl) (q : Int) : Nat → Int → Int × Bool
  | 0, _ => (0, false)
  | n + 1, d => if q ≤ openOn sup prom d then (d, true) else firstOpen sup prom q n (d + 1)
def promiseDay (sup prom : List Fl) (q d : Int) : Int × Bool :=
  if isKept sup prom && (inB q 1 1000000000 && inB d 0 999) then firstOpen sup prom q (1000 - d.toNat) d else (0, false)
end Go.Proofs.YtlnkofnfgemfdaaGreat
/- Adding a flow to flows in ascending order: the reference's way and the program's come to one. -/
namespace Go.Proofs.YtlnkofnfgemfdaaGreat

/-- The reference's way. -/
def addS : List Fl → Int → Int → List Fl
  | [], d, q => [(d, q)]
  | f :: t, d, q => if f.1 < d then f :: addS t d q else if f.1 = d then (f.1, f.2 + q) :: t else (d, q) :: f :: t
theorem addS_take (l : List Fl) (d q : Int) (k : Nat) (hk : k ≤ l.length) (h : ∀ j (hj : j < l.length), j < k → l[j].1 < d) : addS l d q = l.take k ++ addS (l.drop k) d q := by
  induction l generalizing k with
  | nil => simp at hk; subst hk; simp
  | cons f t ih =>
    cases k with
    | zero => simp
    | succ k =>
      have h0 := h 0 (by simp) (by omega)
      simp at h0
      have := ih k (by simpa using hk) (fun j hj hjk => by have := h (j + 1) (by simpa using hj) (by omega); simpa using this)
      simp [addS, h0, this]
theorem addS_end (l : List Fl) (d q : Int) (h : ∀ j (hj : j < l.length), j < l.length → l[j].1 < d) : addS l d q = l ++ [(d, q)] := by
  rw [addS_take l d q l.length (Nat.le_refl _) h]; simp [addS]
theorem addS_eq (l : List Fl) (d q : Int) (k : Nat) (hk : k < l.length) (h : ∀ j (hj : j < l.length), j < k → l[j].1 < d) (he : l[k].1 = d) : addS l d q = l.set k (l[k].1, l[k].2 + q) := by
  rw [addS_take l d q k (by omega) h, List.drop_eq_getElem_cons hk, addS, if_neg (by omega), if_pos he, List.set_eq_take_append_cons_drop, if_pos hk]
theorem addS_gt (l : List Fl) (d q : Int) (k : Nat) (hk : k < l.length) (h : ∀ j (hj : j < l.length), j < k → l[j].1 < d) (hg : d < l[k].1) : addS l d q = l.take k ++ [(d, q)] ++ l.drop k := by
  rw [addS_take l d q k (by omega) h, List.drop_eq_getElem_cons hk, addS, if_neg (by omega), if_neg (by omega)]
  simp
theorem addS_len (l : List Fl) (d q : Int) : (addS l d q).length ≤ l.length + 1 := by
  induction l with
  | nil => simp [addS]
  | cons f t ih =>
    simp only [addS]
    split
    · simp; omega
    · split <;> simp
/-- The program's way: one step. -/
def addStep (d q : Int) (s : List Fl × Bool) (f : Fl) : List Fl × Bool :=
  let o := if !s.2 && decide (d < f.1) then s.1 ++ [(d, q)] else s.1
  if d = f.1 then (o ++ [(f.1, f.2 + q)], true) else (o ++ [f], s.2 || decide (d < f.1))
def addTo (l : List Fl) (d q : Int) (k : Nat) : List Fl × Bool := (l.take k).foldl (addStep d q) ([], false)
def addI (l : List Fl) (d q : Int) : List Fl := if (addTo l d q l.length).2 then (addTo l d q l.length).1 else (addTo l d q l.length).1 ++ [(d, q)]
theorem addTo_succ (l : List Fl) (d q : Int) (k : Nat) (h : k < l.length) : addTo l d q (k + 1) = addStep d q (addTo l d q k) l[k] := by
  unfold addTo
  rw [List.take_succ_eq_append_getElem h, List.foldl_append]; rfl
theorem addTo_len (l : List Fl) (d q : Int) (k : Nat) (hk : k ≤ l.length) : (addTo l d q k).1.length ≤ 2 * k := by
  induction k with
  | zero => simp [addTo]
  | succ k ih =>
    have := ih (by omega)
    rw [addTo_succ l d q k (by omega)]
    unfold addStep
    simp only
    split <;> split <;> simp <;> omega
/-- The days ascend. -/
def ascends (l : List Fl) : Prop := ∀ i j (hj : j < l.length) (_ : i < j), (l[i]'(by omega)).1 < l[j].1
theorem ascends_tail {f : Fl} {t : List Fl} (h : ascends (f :: t)) : ascends t := fun i j hj hij => by
  have := h (i + 1) (j + 1) (by simpa using hj) (by omega)
  simpa using this
theorem ascends_head {f : Fl} {t : List Fl} (h : ascends (f :: t)) : ∀ g ∈ t, f.1 < g.1 := fun g hg => by
  obtain ⟨i, hi, rfl⟩ := List.getElem_of_mem hg
  have := h 0 (i + 1) (by simpa using hi) (by omega)
  simpa using this
theorem ascends_cons {f : Fl} {t : List Fl} (h : ascends t) (hf : ∀ g ∈ t, f.1 < g.1) : ascends (f :: t) := by
  intro i j hj hij
  cases j with
  | zero => omega
  | succ j =>
    cases i with
    | zero => simpa using hf _ (List.getElem_mem (by simpa using hj))
    | succ i => simpa using h i j (by simpa using hj) (by omega)
theorem fold_put (d q : Int) (t o : List Fl) (h : ∀ g ∈ t, d < g.1) : t.foldl (addStep d q) (o, true) = (o ++ t, true) := by
  induction t generalizing o with
  | nil => simp
  | cons f t ih =>
    have h0 := h f List.mem_cons_self
    rw [List.foldl_cons]
    have : addStep d q (o, true) f = (o ++ [f], true) := by
      unfold addStep
      rw [if_neg (by omega)]
      simp
    rw [this, ih _ (fun g hg => h g (List.mem_cons_of_mem _ hg))]
    simp
theorem fold_unput (d q : Int) (t o : List Fl) (h : ascends t) :
    (if (t.foldl (addStep d q) (o, false)).2 then (t.foldl (addStep d q) (o, false)).1 else (t.foldl (addStep d q) (o, false)).1 ++ [(d, q)]) = o ++ addS t d q := by
  induction t generalizing o with
  | nil => simp [addS]
  | cons f t ih =>
    rw [List.foldl_cons]
    have hh := ascends_head h
    by_cases h1 : d = f.1
    · have : addStep d q (o, false) f = (o ++ [(f.1, f.2 + q)], true) := by
        unfold addStep
        rw [if_pos h1]
        simp; omega
      rw [this, fold_put d q t _ (fun g hg => by have := hh g hg; omega)]
      simp [addS, h1]
    · by_cases h2 : d < f.1
      · have : addStep d q (o, false) f = (o ++ [(d, q)] ++ [f], true) := by
          unfold addStep
          rw [if_neg h1]
          simp [h2]
        rw [this, fold_put d q t _ (fun g hg => by have := hh g hg; omega)]
        simp [addS, show ¬ f.1 < d from by omega, show ¬ f.1 = d from by omega]
      · have : addStep d q (o, false) f = (o ++ [f], false) := by
          unfold addStep
          rw [if_neg h1]
          simp [h2]
        rw [this, ih _ (ascends_tail h)]
        simp [addS, show f.1 < d from by omega]
theorem addI_eq (l : List Fl) (d q : Int) (h : ascends l) : addI l d q = addS l d q := by
  unfold addI addTo
  rw [List.take_length, fold_unput d q l [] h]; simp
theorem addS_mem (l : List Fl) (d q : Int) : ∀ g ∈ addS l d q, g.1 = d ∨ ∃ f ∈ l, g.1 = f.1 := by
  induction l with
  | nil => intro g hg; simp [addS] at hg; left; rw [hg]
  | cons f t ih =>
    intro g hg
    simp only [addS] at hg
    split at hg
    · rcases List.mem_cons.1 hg with rfl | hg
      · exact .inr ⟨_, List.mem_cons_self, rfl⟩
      · rcases ih g hg with h | ⟨x, hx, h⟩
        · exact .inl h
        · exact .inr ⟨x, List.mem_cons_of_mem _ hx, h⟩
    · split at hg
      · rcases List.mem_cons.1 hg with rfl | hg
        · exact .inr ⟨f, List.mem_cons_self, rfl⟩
        · exact .inr ⟨g, List.mem_cons_of_mem _ hg, rfl⟩
      · rcases List.mem_cons.1 hg with rfl | hg
        · exact .inl rfl
        · exact .inr ⟨g, hg, rfl⟩
theorem addS_ascends (l : List Fl) (d q : Int) (h : ascends l) : ascends (addS l d q) := by
  induction l with
  | nil => intro i j hj hij; simp [addS] at hj; omega
  | cons f t ih =>
    have hh := ascends_head h
    have ht := ascends_tail h
    simp only [addS]
    split
    · rename_i h1
      refine ascends_cons (ih ht) (fun g hg => ?_)
      rcases addS_mem t d q g hg with h2 | ⟨x, hx, h2⟩
      · omega
      · have := hh x hx; omega
    · split
      · exact ascends_cons ht (fun g hg => hh g hg)
      · refine ascends_cons h (fun g hg => ?_)
        rcases List.mem_cons.1 hg with rfl | hg
        · omega
        · have := hh g hg; simp only; omega
theorem areFlows_ascends {l : List Fl} (h : areFlows l = true) : ascends l := by
  have hk := (areFlows_parts h).1
  have hstep : ∀ j (hj : j < l.length), 0 < j → (l[j - 1]'(by omega)).1 < l[j].1 := fun j hj h0 => by
    have := hk j hj
    simp only [okFlow, Bool.and_eq_true, Bool.or_eq_true, decide_eq_true_eq] at this
    rcases this.2.2 with h1 | h1
    · omega
    · rw [getD_at _ _ _ hj, getD_at _ _ _ (show j - 1 < l.length by omega)] at h1; exact h1
  intro i j hj hij
  induction j with
  | zero => omega
  | succ j ih =>
    have h1 := hstep (j + 1) hj (by omega)
    simp at h1
    rcases Nat.lt_or_ge i j with h2 | h2
    · have := ih (by omega) h2; omega
    · have : i = j := by omega
      subst this; exact h1
/-- Bounds on the quantities are kept. -/
theorem addS_bd (l : List Fl) (d q lo hi a b : Int) (h : ∀ f ∈ l, lo ≤ f.2 ∧ f.2 ≤ hi) (hq : a ≤ q ∧ q ≤ b) (ha : a ≤ 0) (hb : 0 ≤ b) (hlo : lo ≤ 0) (hhi : 0 ≤ hi) : ∀ f ∈ addS l d q, lo + a ≤ f.2 ∧ f.2 ≤ hi + b := by
  induction l with
  | nil => intro f hf; simp [addS] at hf; rw [hf]; simp only; omega
  | cons g t ih =>
    have hg := h g List.mem_cons_self
    have ht := ih (fun f hf => h f (List.mem_cons_of_mem _ hf))
    intro f hf
    simp only [addS] at hf
    split at hf
    · rcases List.mem_cons.1 hf with rfl | hf
      · omega
      · exact ht f hf
    · split at hf
      · rcases List.mem_cons.1 hf with rfl | hf
        · simp only; omega
        · have := h f (List.mem_cons_of_mem _ hf); omega
      · rcases List.mem_cons.1 hf with rfl | hf
        · simp only; omega
        · have := h f hf; omega
end Go.Proofs.YtlnkofnfgemfdaaGreat
/- The walks of the laws' own helpers on flows: copies, comparisons, marks. -/
namespace Go.Proofs.YtlnkofnfgemfdaaGreat
open Go.RowKit

theorem flowInfo : (Tryz.prog.info? 90).map (fun i => (i.zero, i.size, i.bytes)) = some (some (.agg #[.int .i64 0, .int .i64 0]), 2, 16) := by kernel_rfl
theorem toFlow_any (x y : Int) (w : World) : Calls Tryz.prog 52 #[.agg #[.int .i64 x, .int .i64 y]] w fun e w' => e = .returned (.agg #[.int .i64 x, .int .i64 y]) ∧ Below w.heap.size w w' := by
  go_enter Tryz.func52, Tryz.ntmps52
  go_wp2
  refine bodyPost_ret (v := .agg #[.int .i64 x, .int .i64 y]) (by simp [results, Tryz.results52, go_sem]) rfl ⟨rfl, ?_⟩
  exact (((Below.refl _ _).alloc (Nat.le_refl _) _).alloc (by simp) _).alloc (by simp; omega) _
theorem eqFlow_yes (x y : Int) (w : World) : Calls Tryz.prog 69 #[.agg #[.int .i64 x, .int .i64 y], .agg #[.int .i64 x, .int .i64 y]] w fun e w' => e = .returned (.bool true) ∧ Below w.heap.size w w' := by
  go_enter Tryz.func69, Tryz.ntmps69
  go_wp2
  go_ret
  exact ⟨rfl, ((Below.refl _ _).alloc (Nat.le_refl _) _).alloc (by simp) _⟩

set_option maxRecDepth 100000 in
set_option maxHeartbeats 400000 in
theorem toFlowS_any (A : Option Addr) (n c : Nat) (l : List Fl) (w : World) (hl : FlowsIn w A n l) :
    Calls Tryz.prog 11 #[.slice A n c] w fun e w' => ∃ A', e = .returned (.slice A' n n) ∧ OwnRows flF 90 w' w.heap.size A' n n l ∧ Below w.heap.size w w' := by
  obtain ⟨i0, hi0, hz0, hz1, hz2⟩ := info_parts flowInfo
  have hn := hl.len
  obtain rfl := hl.1
  go_enter Tryz.func11, Tryz.ntmps11
  go_wp2_with (at_make; refine wpList_make_full _ rfl (.tmp 6) (.tmp 6) _ rfl w.heap.size 90 i0 _ 2 Tryz.underlying50 hi0 hz0 hz1 .i64 .i64 _ _ l.length rfl rfl rfl rfl (by rw [hz2]; omega) (by unfold maxLen; omega) (Nat.le_refl _) ?_; intro w1 hown hg)
  have hb1 := below_none hg
  generalize hzs : (madeCells (Value.agg #[.int .i64 0, .int .i64 0]).cells (l.length * 2)).toList = zs at hown
  have hzl : zs.length = (l.flatMap flF.enc).length := by rw [flatMap_len flF.enc 2 flF.len, hown.1]
  clear hg hzs
  have HZ := Lib.hid hzl; clear hzl
  have hown1 : w1.ownsRow w.heap.size 90 2 (.slice (some ⟨w.heap.size, 0, none⟩) l.length l.length) l.length (fillC zs (l.flatMap flF.enc) 0) := by
    rw [fillC_zero]; exact hown
  clear hown
  go_loopw [4] (fun i wr => ∃ k : Nat, k ≤ l.length ∧ i = .int .i64 k ∧ wr.ownsRow w.heap.size 90 2 (.slice (some ⟨w.heap.size, 0, none⟩) l.length l.length) l.length (fillC zs (l.flatMap flF.enc) (k * 2)) ∧ Below w.heap.size w wr) (fun i _ => l.length - (intOf i).toNat)
  case atStart => exact ⟨0, by omega, rfl, hown1, hb1⟩
  case round =>
    obtain ⟨k, hk, rfl, hown, hb⟩ := hrel
    by_cases hlt : k < l.length
    · obtain ⟨b, o, rfl, _, hc1, hc2⟩ := flow_at (hl.keep hb) hlt
      go_wp2_with fail
      refine (toFlow_any _ _ _).mono ?_
      rintro e w2 ⟨rfl, hb2⟩
      have ho := own_keep hown hb2
      have hlen : (l.flatMap flF.enc).length = l.length * 2 := flatMap_len flF.enc 2 flF.len l
      have hz := HZ.out
      have e1 : (l.flatMap flF.enc)[k * 2]? = some (.int .i64 l[k].1) := flatMap_at flF.enc 2 flF.len l k 0 hlt (by omega)
      have e2 : (l.flatMap flF.enc)[k * 2 + 1]? = some (.int .i64 l[k].2) := flatMap_at flF.enc 2 flF.len l k 1 hlt (by omega)
      obtain ⟨u1, c1, f1⟩ := own_cell ho (k * 2) (by omega)
      obtain ⟨u2, c2, f2⟩ := own_cell ho (k * 2 + 1) (by omega)
      have s1 := (ho.stored (k * 2) (.int .i64 l[k].1)).1
      rw [fillC_set _ _ _ _ e1 hz] at s1
      have s2 := (s1.stored (k * 2 + 1) (.int .i64 l[k].2)).1
      rw [fillC_set _ _ _ _ e2 hz] at s2
      have hb3 : Below w.heap.size w w2 := hb.trans (hb2.mono hb.size)
      have S2 := Lib.hid s2
      clear ho e1 e2 s1 s2 hown hz hlen hb hb2
      go_wp2
      go_roundw
      case rel => exact ⟨k + 1, by omega, by go_num, by rw [show (k + 1) * 2 = k * 2 + 1 + 1 by omega]; exact S2.out, (hb3.setCell (Nat.le_refl _) _).setCell (Nat.le_refl _) _⟩
      case measure => simp [intOf]; omega
    · obtain rfl : k = l.length := by omega
      go_wp2
      go_ret
      refine ⟨_, rfl, ⟨rfl, ?_⟩, hb⟩
      have h2 : (l.flatMap flF.enc).length = l.length * 2 := flatMap_len flF.enc 2 flF.len l
      rw [← h2, fillC_all _ _ HZ.out] at hown
      exact hown

set_option maxRecDepth 100000 in
set_option maxHeartbeats 400000 in
theorem eqFlowS_yes (A B : Option Addr) (n m c d : Nat) (l : List Fl) (w : World) (ha : FlowsIn w A n l) (hb : FlowsIn w B m l) :
    Calls Tryz.prog 15 #[.slice A n c, .slice B m d] w fun e w' => e = .returned (.bool true) ∧ Below w.heap.size w w' := by
  have hn := ha.len
  obtain rfl := ha.1
  obtain rfl := hb.1
  go_enter Tryz.func15, Tryz.ntmps15
  go_wp2
  go_loopw [5] (fun i wr => ∃ k : Nat, k ≤ l.length ∧ i = .int .i64 k ∧ Below w.heap.size w wr) (fun i _ => l.length - (intOf i).toNat)
  case atStart => exact ⟨0, by omega, rfl, Below.refl _ _⟩
  case round =>
    obtain ⟨k, hk, rfl, HD⟩ := hrel
    by_cases hlt : k < l.length
    · obtain ⟨b1, o1, rfl, _, hc1, hc2⟩ := flow_at (ha.keep HD) hlt
      obtain ⟨b2, o2, rfl, _, hd1, hd2⟩ := flow_at (hb.keep HD) hlt
      go_wp2
      go_still_tail 8, (by kernel_rfl)
      change wpList _ _ _ _ _ wr.drew
      have HE : Below w.heap.size w wr.drew := HD.drew
      generalize wr.drew = w2 at *
      go_wp2_with (go_at_call 69; refine (eqFlow_yes _ _ _).mono ?_; rintro e w3 ⟨rfl, hb3⟩)
      go_roundw
      case rel => exact ⟨k + 1, by omega, by go_num, HE.trans (hb3.mono HE.size)⟩
      case measure => simp [intOf]; omega
    · obtain rfl : k = l.length := by omega
      go_wp2
      go_ret
      exact ⟨rfl, HD⟩
end Go.Proofs.YtlnkofnfgemfdaaGreat
/- The endings of calls that hand back flows. -/
namespace Go.Proofs.YtlnkofnfgemfdaaGreat
open Go.RowKit
theorem flowElem : ElemOk flF 50 90 := by
  obtain ⟨i, h1, h2, h3, h4⟩ := info_parts flowInfo
  exact ⟨i, _, 16, Tryz.underlying50, h1, h2, h3, h4, rfl, by decide, by omega⟩
/-- The ending of a call that hands back a row of flows and whether it is one. -/
def PairRows (w : World) (val : List Fl × Bool) (e : Ending) (w' : World) : Prop :=
  ∃ A c, e = .returned (.tuple #[.slice A val.1.length c, .bool val.2]) ∧ OwnRows flF 90 w' w.heap.size A val.1.length c val.1 ∧ Below w.heap.size w w'
theorem pairRows_mk {w w' : World} {val : List Fl × Bool} {v : Value} {l : List Fl} {b : Bool} (hv : val = (l, b)) (h : RowVal flF 90 w' w.heap.size v l) (hb : Below w.heap.size w w') : PairRows w val (.returned (.tuple #[v, .bool b])) w' := by
  obtain ⟨A, c, rfl, ho⟩ := h.form
  subst hv
  exact ⟨A, c, rfl, ho, hb⟩
theorem foldl_take {α β : Type} (f : β → α → β) (b : β) (l : List α) (k : Nat) (h : k < l.length) : (l.take (k + 1)).foldl f b = f ((l.take k).foldl f b) l[k] := by
  rw [List.take_succ_eq_append_getElem h, List.foldl_append]; rfl

end Go.Proofs.YtlnkofnfgemfdaaGreat
/- The walks of the two ways to add a flow. -/
namespace Go.Proofs.YtlnkofnfgemfdaaGreat
open Go.RowKit
theorem flOne : ∀ (a : Fl), ∀ u ∈ flF.enc a, u.oneCell' = true := by
  intro a u hu
  simp [flF] at hu
  rcases hu with rfl | rfl <;> rfl
/-- The ending of a call that hands back a row of flows. -/
def OneRow (w : World) (val : List Fl) (e : Ending) (w' : World) : Prop :=
  ∃ A c, e = .returned (.slice A val.length c) ∧ OwnRows flF 90 w' w.heap.size A val.length c val ∧ Below w.heap.size w w'
theorem oneRow_mk {w w' : World} {val : List Fl} {v : Value} (h : RowVal flF 90 w' w.heap.size v val) (hb : Below w.heap.size w w') : OneRow w val (.returned v) w' := by
  obtain ⟨A, c, rfl, ho⟩ := h.form
  exact ⟨A, c, rfl, ho, hb⟩
set_option maxRecDepth 100000 in
set_option maxHeartbeats 4000000 in
theorem addFlow_any (A : Option Addr) (n c : Nat) (l : List Fl) (d q : Int) (w : World) (ha : FlowsIn w A n l) (hq : -1000000000000 ≤ q ∧ q ≤ 1000000000000) (hl : ∀ f ∈ l, -1000000000000 ≤ f.2 ∧ f.2 ≤ 1000000000000) (hn : l.length ≤ 1048576) :
    Calls Tryz.prog 119 #[.slice A n c, .agg #[.int .i64 d, .int .i64 q]] w (OneRow w (addI l d q)) := by
  obtain rfl := ha.1
  obtain ⟨q1, q2⟩ := hq
  have HL := Lib.hid hl
  clear hl
  go_enter Tryz.func119, Tryz.ntmps119
  go_wp2
  have hx1 : ((w.alloc (.cells #[.int .i64 d, .int .i64 q] 90)).alloc (.cells #[] 90)).cell? ⟨w.heap.size, 0, none⟩ = some (.int .i64 d) := by simp [go_sem]
  have hx2 : ((w.alloc (.cells #[.int .i64 d, .int .i64 q] 90)).alloc (.cells #[] 90)).cell? ⟨w.heap.size, 1, none⟩ = some (.int .i64 q) := by simp [go_sem]
  have hb0 : Below w.heap.size w ((w.alloc (.cells #[.int .i64 d, .int .i64 q] 90)).alloc (.cells #[] 90)) := (below_alloc _ _).alloc (by simp) _
  have hv0 : RowVal flF 90 ((w.alloc (.cells #[.int .i64 d, .int .i64 q] 90)).alloc (.cells #[] 90)) (w.heap.size + 1) (.slice (some ⟨w.heap.size + 1, 0, none⟩) 0 0) [] := empty_row (by simp) (by simp)
  have hz0 : w.heap.size + 1 < ((w.alloc (.cells #[.int .i64 d, .int .i64 q] 90)).alloc (.cells #[] 90)).heap.size := by simp
  go_loopw [5, 6, 12] (fun v f i wr => ∃ k : Nat, k ≤ l.length ∧ i = .int .i64 k ∧ f = .bool (addTo l d q k).2 ∧ RowVal flF 90 wr (w.heap.size + 1) v (addTo l d q k).1 ∧ Below w.heap.size w wr ∧ w.heap.size + 1 < wr.heap.size ∧
    wr.cell? ⟨w.heap.size, 0, none⟩ = some (.int .i64 d) ∧ wr.cell? ⟨w.heap.size, 1, none⟩ = some (.int .i64 q)) (fun _ _ i _ => l.length - (intOf i).toNat)
  case atStart => exact ⟨0, by omega, rfl, rfl, hv0, hb0, hz0, hx1, hx2⟩
  case round =>
    clear hv0 hb0 hx1 hx2 hz0
    obtain ⟨k, hk, rfl, rfl, hrow, HR, hz, hx1, hx2⟩ := hrel
    by_cases hlt : k < l.length
    · have HS := Lib.hid (addTo_succ l d q k hlt)
      have hcl := addTo_len l d q k hk
      generalize hst : addTo l d q k = st at *
      obtain ⟨out, put⟩ := st
      dsimp only at hrow hcl ⊢
      have HST := Lib.hid hst
      clear hst
      obtain ⟨m1, m2⟩ := HL.out _ (List.getElem_mem hlt)
      obtain ⟨b, o, rfl, _, hc1, hc2⟩ := flow_at (ha.keep HR) hlt
      have hout : out.length ≤ 2097152 := by omega
      by_cases h1 : d = l[k].1
      · have HE := Lib.hid (show addStep d q (out, put) l[k] = (out ++ [(l[k].1, l[k].2 + q)], true) by unfold addStep; rw [if_pos h1]; simp only; rw [if_neg (by simp; omega)])
        have e1 : (d == l[k].1) = true := by rw [beq_iff_eq]; exact h1
        have e2 : d ≤ l[k].1 := by omega
        have e3 : l[k].1 ≤ d := by omega
        clear h1
        have hw3 := World.cell?_alloc_lt wr (.cells #[.int .i64 l[k].1, .int .i64 l[k].2] 90) ⟨w.heap.size, 0, none⟩ (by show w.heap.size < _; omega)
        rw [hx1] at hw3
        have hw4 := World.cell?_alloc_lt wr (.cells #[.int .i64 l[k].1, .int .i64 l[k].2] 90) ⟨w.heap.size, 1, none⟩ (by show w.heap.size < _; omega)
        rw [hx2] at hw4
        cases put
        all_goals
          have hw1 := World.cell?_alloc_lt wr (.cells #[.int .i64 l[k].1, .int .i64 (l[k].2 + q)] 90) ⟨w.heap.size, 0, none⟩ (by show w.heap.size < _; omega)
          rw [hx1] at hw1
          have hw2 := World.cell?_alloc_lt wr (.cells #[.int .i64 l[k].1, .int .i64 (l[k].2 + q)] 90) ⟨w.heap.size, 1, none⟩ (by show w.heap.size < _; omega)
          rw [hx2] at hw2
          go_wp2_with (at_builtin; refine wpList_append_one flowElem rfl (.tmp 40) (.tmp 42) rfl rfl (l := out) (RowVal.alloc hrow _) (by omega) (l[k].1, l[k].2 + q) #[.int .i64 l[k].1, .int .i64 (l[k].2 + q)] rfl (by simp [Value.oneCell']) (wr.heap.size + 1) _ (by simp) rfl (by simp; omega) ?_; intro v' w2 hrow2 hbl hgr)
          have hB2 := hbl (w.heap.size + 1) (Nat.le_refl _) (by simp; omega)
          have hz2 : w.heap.size + 1 < w2.heap.size := by have := hB2.size; simp at this; omega
          have hx3 := (hB2.cell (p := ⟨w.heap.size, 0, none⟩) (by show w.heap.size < _; omega)).trans hw1
          have hx4 := (hB2.cell (p := ⟨w.heap.size, 1, none⟩) (by show w.heap.size < _; omega)).trans hw2
          go_roundw
          case rel => exact ⟨k + 1, by omega, by go_num, by rw [HS.out, HE.out], by rw [HS.out, HE.out]; exact hrow2, (HR.alloc (by omega) _).trans (hB2.mono (by omega)), hz2, hx3, hx4⟩
          case measure => simp [intOf]; omega
      have e1 : (d == l[k].1) = false := by rw [beq_eq_false_iff_ne]; exact h1
      have H1 := Lib.hid h1
      clear h1
      cases put
      · by_cases h2 : d < l[k].1
        · have HE := Lib.hid (show addStep d q (out, false) l[k] = (out ++ [(d, q)] ++ [l[k]], true) by unfold addStep; rw [if_neg H1.out]; simp [h2])
          have hw1 := World.cell?_alloc_lt wr (.cells #[.int .i64 l[k].1, .int .i64 l[k].2] 90) ⟨w.heap.size, 0, none⟩ (by show w.heap.size < _; omega)
          rw [hx1] at hw1
          have hw2 := World.cell?_alloc_lt wr (.cells #[.int .i64 l[k].1, .int .i64 l[k].2] 90) ⟨w.heap.size, 1, none⟩ (by show w.heap.size < _; omega)
          rw [hx2] at hw2
          have hrowne := row_ne hrow (Nat.le_refl _)
          have hrow1 : RowVal flF 90 (wr.alloc (.cells #[.int .i64 l[k].1, .int .i64 l[k].2] 90)) (w.heap.size + 1) u5 out := RowVal.alloc hrow _
          have hxx : ∀ p : Nat, p < 2 → (wr.alloc (.cells #[.int .i64 l[k].1, .int .i64 l[k].2] 90)).cell? ⟨wr.heap.size, p, none⟩ = some (if p = 0 then .int .i64 l[k].1 else .int .i64 l[k].2) := by
            intro p hp
            match p, hp with
            | 0, _ => simp [go_sem]
            | 1, _ => simp [go_sem]
          have HXX := Lib.hid hxx
          clear hxx
          go_wp2_with (first | (at_builtin; refine wpList_append_far flowElem rfl (.tmp 25) (.tmp 27) rfl rfl (l := out) hrow1 (by omega) (d, q) #[.int .i64 d, .int .i64 q] rfl (by simp [Value.oneCell']) (wr.heap.size + 1) _ (by simp) rfl (by simp; omega) ?_; intro v2 w2 hrow2 hbl hgr hfar; have hB2 := hbl (w.heap.size + 1) (Nat.le_refl _) (by simp; omega); have hz2 : w.heap.size + 1 < w2.heap.size := (by have := hB2.size; simp at this; omega); have hx3 := (hB2.cell (p := ⟨w.heap.size, 0, none⟩) (by show w.heap.size < _; omega)).trans hw1; have hx4 := (hB2.cell (p := ⟨w.heap.size, 1, none⟩) (by show w.heap.size < _; omega)).trans hw2; have hy1 := (hfar ⟨wr.heap.size, 0, none⟩ (by simp) hrowne).trans (HXX.out 0 (by omega)); have hy2 := (hfar ⟨wr.heap.size, 1, none⟩ (by simp) hrowne).trans (HXX.out 1 (by omega)); simp only [if_true] at hy1; simp only [show ¬ ((1 : Nat) = 0) from by omega, if_false] at hy2; clear hfar hbl hw1 hw2) | (at_builtin; refine wpList_append_one flowElem rfl (.tmp 40) (.tmp 42) rfl rfl (l := out ++ [(d, q)]) hrow2 (by simp; omega) l[k] #[.int .i64 l[k].1, .int .i64 l[k].2] rfl (by simp [Value.oneCell']) w2.heap.size _ rfl rfl (by omega) ?_; intro v3 w3 hrow3 hbl3 hgr3))
          have hB3 := hbl3 (w.heap.size + 1) (Nat.le_refl _) (by omega)
          have hz3 : w.heap.size + 1 < w3.heap.size := by have := hB3.size; omega
          have hx5 := (hB3.cell (p := ⟨w.heap.size, 0, none⟩) (by show w.heap.size < _; omega)).trans hx3
          have hx6 := (hB3.cell (p := ⟨w.heap.size, 1, none⟩) (by show w.heap.size < _; omega)).trans hx4
          go_roundw
          case rel => exact ⟨k + 1, by omega, by go_num, by rw [HS.out, HE.out], by rw [HS.out, HE.out]; exact hrow3, ((HR.alloc (by omega) _).trans (hB2.mono (by omega))).trans (hB3.mono (by omega)), hz3, hx5, hx6⟩
          case measure => simp [intOf]; omega
        · have HE := Lib.hid (show addStep d q (out, false) l[k] = (out ++ [l[k]], false) by unfold addStep; rw [if_neg H1.out]; simp [h2])
          have hw1 := World.cell?_alloc_lt wr (.cells #[.int .i64 l[k].1, .int .i64 l[k].2] 90) ⟨w.heap.size, 0, none⟩ (by show w.heap.size < _; omega)
          rw [hx1] at hw1
          have hw2 := World.cell?_alloc_lt wr (.cells #[.int .i64 l[k].1, .int .i64 l[k].2] 90) ⟨w.heap.size, 1, none⟩ (by show w.heap.size < _; omega)
          rw [hx2] at hw2
          go_wp2_with (at_builtin; refine wpList_append_one flowElem rfl (.tmp 40) (.tmp 42) rfl rfl (l := out) (RowVal.alloc hrow _) (by omega) l[k] #[.int .i64 l[k].1, .int .i64 l[k].2] rfl (by simp [Value.oneCell']) (wr.heap.size + 1) _ (by simp) rfl (by simp; omega) ?_; intro v' w2 hrow2 hbl hgr)
          have hB2 := hbl (w.heap.size + 1) (Nat.le_refl _) (by simp; omega)
          have hz2 : w.heap.size + 1 < w2.heap.size := by have := hB2.size; simp at this; omega
          have hx3 := (hB2.cell (p := ⟨w.heap.size, 0, none⟩) (by show w.heap.size < _; omega)).trans hw1
          have hx4 := (hB2.cell (p := ⟨w.heap.size, 1, none⟩) (by show w.heap.size < _; omega)).trans hw2
          go_roundw
          case rel => exact ⟨k + 1, by omega, by go_num, by rw [HS.out, HE.out], by rw [HS.out, HE.out]; exact hrow2, (HR.alloc (by omega) _).trans (hB2.mono (by omega)), hz2, hx3, hx4⟩
          case measure => simp [intOf]; omega
      · have HE := Lib.hid (show addStep d q (out, true) l[k] = (out ++ [l[k]], true) by unfold addStep; rw [if_neg H1.out]; simp)
        · have hw1 := World.cell?_alloc_lt wr (.cells #[.int .i64 l[k].1, .int .i64 l[k].2] 90) ⟨w.heap.size, 0, none⟩ (by show w.heap.size < _; omega)
          rw [hx1] at hw1
          have hw2 := World.cell?_alloc_lt wr (.cells #[.int .i64 l[k].1, .int .i64 l[k].2] 90) ⟨w.heap.size, 1, none⟩ (by show w.heap.size < _; omega)
          rw [hx2] at hw2
          go_wp2_with (at_builtin; refine wpList_append_one flowElem rfl (.tmp 40) (.tmp 42) rfl rfl (l := out) (RowVal.alloc hrow _) (by omega) l[k] #[.int .i64 l[k].1, .int .i64 l[k].2] rfl (by simp [Value.oneCell']) (wr.heap.size + 1) _ (by simp) rfl (by simp; omega) ?_; intro v' w2 hrow2 hbl hgr)
          have hB2 := hbl (w.heap.size + 1) (Nat.le_refl _) (by simp; omega)
          have hz2 : w.heap.size + 1 < w2.heap.size := by have := hB2.size; simp at this; omega
          have hx3 := (hB2.cell (p := ⟨w.heap.size, 0, none⟩) (by show w.heap.size < _; omega)).trans hw1
          have hx4 := (hB2.cell (p := ⟨w.heap.size, 1, none⟩) (by show w.heap.size < _; omega)).trans hw2
          go_roundw
          case rel => exact ⟨k + 1, by omega, by go_num, by rw [HS.out, HE.out], by rw [HS.out, HE.out]; exact hrow2, (HR.alloc (by omega) _).trans (hB2.mono (by omega)), hz2, hx3, hx4⟩
          case measure => simp [intOf]; omega
    · obtain rfl : k = l.length := by omega
      have hcl := addTo_len l d q l.length (Nat.le_refl _)
      cases hfd : (addTo l d q l.length).2
      · go_wp2_with (at_builtin; refine wpList_append_one flowElem rfl (.tmp 47) (.tmp 49) rfl rfl (l := (addTo l d q l.length).1) hrow (by omega) (d, q) #[.int .i64 d, .int .i64 q] rfl (by simp [Value.oneCell']) wr.heap.size _ rfl rfl (by omega) ?_; intro v' w2 hrow2 hbl hgr)
        go_ret
        refine oneRow_mk ?_ (HR.trans (hbl _ (by omega) (by omega)))
        unfold addI
        rw [hfd]
        exact own_lower hrow2 (by omega)
      · go_wp2
        go_ret
        refine oneRow_mk ?_ HR
        unfold addI
        rw [hfd]
        exact own_lower hrow (by omega)
end Go.Proofs.YtlnkofnfgemfdaaGreat
