/- Part 2 of the texts of this claim: Plain facts on sums of flows: no program in sight; The walks of the laws' own helpers on flows: copies, comparisons, marks; The endings of calls that hand back flows; The walks of FlowUpTo, SpareOn, LackOf, IsKept; The walks of Projected and IsCovered; The walks of NetNeeds. -/
import Derived.Test.YtpbibkjcjgggdaaIt1
import Derived.Deep.DeepMust
import Derived.Deep.RegionHeld3
/- Plain facts on sums of flows: no program in sight. -/
namespace Go.Proofs.Ytpbibkjcjgggdaa

/-- What the flows bring up to a day. -/
def upTo : List Fl → Int → Int
  | [], _ => 0
  | f :: t, d => (if f.1 ≤ d then f.2 else 0) + upTo t d
theorem upTo_append (a b : List Fl) (d : Int) : upTo (a ++ b) d = upTo a d + upTo b d := by
  induction a with
  | nil => simp [upTo]
  | cons f t ih => simp only [List.cons_append, upTo, ih]; omega
theorem upTo_take (l : List Fl) (d : Int) (k : Nat) (h : k < l.length) : upTo (l.take (k + 1)) d = upTo (l.take k) d + if l[k].1 ≤ d then l[k].2 else 0 := by
  rw [List.take_succ_eq_append_getElem h, upTo_append]; simp [upTo]
theorem upTo_bd (l : List Fl) (d : Int) (h : ∀ f ∈ l, 1 ≤ f.2 ∧ f.2 ≤ 1000000000) : 0 ≤ upTo l d ∧ upTo l d ≤ 1000000000 * l.length := by
  induction l with
  | nil => simp [upTo]
  | cons f t ih =>
    obtain ⟨h1, h2⟩ := ih (fun g hg => h g (List.mem_cons_of_mem _ hg))
    have h3 := h f List.mem_cons_self
    simp only [upTo, List.length_cons]
    split <;> omega
def flowUpTo (l : List Fl) (d : Int) : Int := if areFlows l then upTo l d else 0
theorem areFlows_parts {l : List Fl} (h : areFlows l = true) : (∀ j < l.length, okFlow l j = true) ∧ l.length ≤ 40 := by
  simp only [areFlows, Bool.and_eq_true, List.all_eq_true, List.mem_range, decide_eq_true_eq] at h
  exact ⟨h.1, by omega⟩
theorem areFlows_mem {l : List Fl} (h : areFlows l = true) : ∀ f ∈ l, (0 ≤ f.1 ∧ f.1 ≤ 999) ∧ 1 ≤ f.2 ∧ f.2 ≤ 1000000000 := by
  intro f hf
  obtain ⟨j, hj, rfl⟩ := List.getElem_of_mem hf
  have := (areFlows_parts h).1 j hj
  simp only [okFlow, getD_at _ _ _ hj, Bool.and_eq_true, inB_iff] at this
  exact ⟨this.1, this.2.1⟩
theorem areFlows_bd {l : List Fl} (h : areFlows l = true) (d : Int) (k : Nat) : 0 ≤ upTo (l.take k) d ∧ upTo (l.take k) d ≤ 40000000000 := by
  obtain ⟨h1, h2⟩ := upTo_bd (l.take k) d (fun f hf => (areFlows_mem h f (List.mem_of_mem_take hf)).2)
  have h3 := (areFlows_parts h).2
  have h4 : (l.take k).length ≤ 40 := by simp; omega
  exact ⟨h1, by omega⟩
theorem flowUpTo_bd (l : List Fl) (d : Int) : 0 ≤ flowUpTo l d ∧ flowUpTo l d ≤ 40000000000 := by
  unfold flowUpTo
  cases h : areFlows l
  · simp
  · have := areFlows_bd h d l.length
    rw [List.take_length] at this
    simpa using this
theorem flowUpTo_yes {l : List Fl} (h : areFlows l = true) (d : Int) : flowUpTo l d = upTo l d := by simp [flowUpTo, h]
theorem flowUpTo_no {l : List Fl} (h : areFlows l = false) (d : Int) : flowUpTo l d = 0 := by simp [flowUpTo, h]

def spareOn (needs lots : List Fl) (d : Int) : Int := if areFlows needs && areFlows lots then flowUpTo lots d - flowUpTo needs d else 0

/-- The greatest excess of demands over supplies up to one of the first k demands' days. -/
def lackTo (dem sup : List Fl) : Nat → Int
  | 0 => 0
  | k + 1 => max (lackTo dem sup k) (flowUpTo dem (dem.getD k (0, 0)).1 - flowUpTo sup (dem.getD k (0, 0)).1)
theorem lackTo_bd (dem sup : List Fl) (k : Nat) : 0 ≤ lackTo dem sup k ∧ lackTo dem sup k ≤ 40000000000 := by
  induction k with
  | zero => simp [lackTo]
  | succ k ih =>
    have h1 := flowUpTo_bd dem (dem.getD k (0, 0)).1
    have h2 := flowUpTo_bd sup (dem.getD k (0, 0)).1
    simp only [lackTo]
    omega
def lackOf (dem sup : List Fl) : Int × Bool := if areFlows dem && areFlows sup then (lackTo dem sup dem.length, true) else (0, false)
/-- Whether no more has been promised up to the day of any promise than is there. -/
def isKept (sup prom : List Fl) : Bool :=
  areFlows sup && (areFlows prom && (List.range prom.length).all fun k => decide (flowUpTo prom (prom.getD k (0, 0)).1 ≤ flowUpTo sup (prom.getD k (0, 0)).1))
theorem lackTo_zero (dem sup : List Fl) (k : Nat) : lackTo dem sup k = 0 ↔ ∀ j < k, flowUpTo dem (dem.getD j (0, 0)).1 ≤ flowUpTo sup (dem.getD j (0, 0)).1 := by
  induction k with
  | zero => simp [lackTo]
  | succ k ih =>
    have h1 := (lackTo_bd dem sup k).1
    simp only [lackTo]
    constructor
    · intro h j hj
      rcases Nat.lt_or_ge j k with h2 | h2
      · exact (ih.1 (by omega)) j h2
      · rw [show j = k by omega]; omega
    · intro h
      have h2 := ih.2 (fun j hj => h j (by omega))
      have h3 := h k (by omega)
      omega
theorem isKept_lack (sup prom : List Fl) : isKept sup prom = ((lackOf prom sup).2 && decide ((lackOf prom sup).1 = 0)) := by
  unfold isKept lackOf
  cases h1 : areFlows sup <;> cases h2 : areFlows prom <;> simp
  rw [Bool.eq_iff_iff, List.all_eq_true, decide_eq_true_eq, lackTo_zero]
  simp
theorem isKept_no {sup prom : List Fl} {k : Nat} (hk : k < prom.length) (h : flowUpTo sup prom[k].1 < flowUpTo prom prom[k].1) : isKept sup prom = false := by
  unfold isKept
  have : ((List.range prom.length).all fun k => decide (flowUpTo prom (prom.getD k (0, 0)).1 ≤ flowUpTo sup (prom.getD k (0, 0)).1)) = false := by
    rw [List.all_eq_false]
    exact ⟨k, by simpa using hk, by rw [getD_at _ _ _ hk]; simp; omega⟩
  rw [this]; simp
theorem isKept_yes {sup prom : List Fl} (h1 : areFlows sup = true) (h2 : areFlows prom = true) (h : ∀ k (hk : k < prom.length), flowUpTo prom prom[k].1 ≤ flowUpTo sup prom[k].1) : isKept sup prom = true := by
  unfold isKept
  have : ((List.range prom.length).all fun k => decide (flowUpTo prom (prom.getD k (0, 0)).1 ≤ flowUpTo sup (prom.getD k (0, 0)).1)) = true := by
    rw [List.all_eq_true]
    intro k hk
    simp at hk
    rw [getD_at _ _ _ hk]
    simpa using h k hk
  rw [this, h1, h2]; rfl
theorem isKept_parts {sup prom : List Fl} (h : isKept sup prom = true) : areFlows sup = true ∧ areFlows prom = true := by
  simp only [isKept, Bool.and_eq_true] at h
  exact ⟨h.1, h.2.1⟩
/-- How much more can be promised for a day, looking at the first k promises. -/
def openTo (sup prom : List Fl) (d : Int) : Nat → Int
  | 0 => flowUpTo sup d - flowUpTo prom d
  | k + 1 => if d < (prom.getD k (0, 0)).1 then min (openTo sup prom d k) (flowUpTo sup (prom.getD k (0, 0)).1 - flowUpTo prom (prom.getD k (0, 0)).1) else openTo sup prom d k
theorem openTo_bd (sup prom : List Fl) (d : Int) (k : Nat) : -40000000000 ≤ openTo sup prom d k ∧ openTo sup prom d k ≤ 40000000000 := by
  induction k with
  | zero =>
    have h1 := flowUpTo_bd sup d
    have h2 := flowUpTo_bd prom d
    simp only [openTo]; omega
  | succ k ih =>
    have h1 := flowUpTo_bd sup (prom.getD k (0, 0)).1
    have h2 := flowUpTo_bd prom (prom.getD k (0, 0)).1
    simp only [openTo]
    split <;> omega
def openOn (sup prom : List Fl) (d : Int) : Int := if isKept sup prom && inB d 0 999 then openTo sup prom d prom.length else 0
/-- The first of the days from 'd' on, n of them, at which so much is open. -/
def firstOpen (sup prom : List Fl) (q : Int) : Nat → Int → Int × Bool
  | 0, _ => (0, false)
  | n + 1, d => if q ≤ openOn sup prom d then (d, true) else firstOpen sup prom q n (d + 1)
def promiseDay (sup prom : List Fl) (q d : Int) : Int × Bool :=
  if isKept sup prom && (inB q 1 1000000000 && inB d 0 999) then firstOpen sup prom q (1000 - d.toNat) d else (0, false)
end Go.Proofs.Ytpbibkjcjgggdaa
/- The walks of the laws' own helpers on flows: copies, comparisons, marks. -/
namespace Go.Proofs.Ytpbibkjcjgggdaa
open Go.RowKit

theorem flowInfo : (Try.prog.info? 53).map (fun i => (i.zero, i.size, i.bytes)) = some (some (.agg #[.int .i64 0, .int .i64 0]), 2, 16) := by kernel_rfl
end Go.Proofs.Ytpbibkjcjgggdaa
/- The endings of calls that hand back flows. -/
namespace Go.Proofs.Ytpbibkjcjgggdaa
open Go.RowKit
theorem flowElem : ElemOk flF 35 53 := by
  obtain ⟨i, h1, h2, h3, h4⟩ := info_parts flowInfo
  exact ⟨i, _, 16, Try.underlying35, h1, h2, h3, h4, rfl, by decide, by omega⟩
/-- The ending of a call that hands back a row of flows and whether it is one. -/
def PairRows (w : World) (val : List Fl × Bool) (e : Ending) (w' : World) : Prop :=
  ∃ A c, e = .returned (.tuple #[.slice A val.1.length c, .bool val.2]) ∧ OwnRows flF 53 w' w.heap.size A val.1.length c val.1 ∧ Below w.heap.size w w'
theorem pairRows_mk {w w' : World} {val : List Fl × Bool} {v : Value} {l : List Fl} {b : Bool} (hv : val = (l, b)) (h : RowVal flF 53 w' w.heap.size v l) (hb : Below w.heap.size w w') : PairRows w val (.returned (.tuple #[v, .bool b])) w' := by
  obtain ⟨A, c, rfl, ho⟩ := h.form
  subst hv
  exact ⟨A, c, rfl, ho, hb⟩
theorem foldl_take {α β : Type} (f : β → α → β) (b : β) (l : List α) (k : Nat) (h : k < l.length) : (l.take (k + 1)).foldl f b = f ((l.take k).foldl f b) l[k] := by
  rw [List.take_succ_eq_append_getElem h, List.foldl_append]; rfl

end Go.Proofs.Ytpbibkjcjgggdaa
/- The walks of FlowUpTo, SpareOn, LackOf, IsKept. -/
namespace Go.Proofs.Ytpbibkjcjgggdaa
open Go.RowKit
def pairV (p : Int × Bool) : Value := .tuple #[.int .i64 p.1, .bool p.2]
theorem ret_pair {p q : Int × Bool} (h : p = q) : Ending.returned (.tuple #[.int .i64 p.1, .bool p.2]) = .returned (pairV q) := by rw [h, pairV]

set_option maxRecDepth 100000 in
set_option maxHeartbeats 1000000 in
theorem specFlowUpTo_any (A : Option Addr) (n c : Nat) (l : List Fl) (d : Int) (w : World) (hl : FlowsIn w A n l) :
    Calls Try.prog 59 #[.slice A n c, .int .i64 d] w fun e w' => e = .returned (.int .i64 (flowUpTo l d)) ∧ Drew w w' := by
  have hn := hl.len
  have hl0 := hl
  obtain rfl := hl.1
  cases hf : areFlows l
  · by_cases h0 : 0 < l.length
    all_goals
      go_enter Try.func59, Try.ntmps59
      go_wp2
      refine wp_loop_rounds 1 ?_
      rw [rounds_succ]
      go_wp2_with (go_at_call 29; refine (specAreFlows_any _ _ _ l _ hl).mono ?_; rintro e w1 ⟨rfl, hd⟩)
      go_ret
      first
        | exact ⟨ret_int (flowUpTo_no hf d).symm, hd⟩
        | exact ⟨ret_int (flowUpTo_no hf d).symm, Drew.refl _⟩
  have HB := Lib.hid (areFlows_bd hf d)
  go_enter Try.func59, Try.ntmps59
  go_wp2
  go_loopw [5, 6] (fun s i wr => ∃ k : Nat, k ≤ l.length ∧ i = .int .i64 k ∧ s = .int .i64 (upTo (l.take k) d) ∧ Drew w wr) (fun _ i _ => l.length - (intOf i).toNat)
  case atStart => exact ⟨0, by omega, rfl, rfl, Drew.refl _⟩
  case round =>
    obtain ⟨k, hk, rfl, rfl, HD⟩ := hrel
    by_cases hlt : k < l.length
    · obtain ⟨b, o, rfl, _, hc1, hc2⟩ := flow_at (hl.keep (HD.below _)) hlt
      have HT := Lib.hid (upTo_take l d k hlt)
      obtain ⟨b1, b2⟩ := HB.out k
      obtain ⟨b3, b4⟩ := (areFlows_mem hf l[k] (List.getElem_mem hlt)).2
      by_cases hday : l[k].1 ≤ d
      all_goals
        go_wp2_with (go_at_call 29; refine (specAreFlows_any _ _ _ l _ (hl.keep (HD.below _))).mono ?_; rintro e w1 ⟨rfl, ⟨q, rfl⟩⟩)
        go_roundw
        case rel =>
          refine ⟨k + 1, by omega, by go_num, ?_, HD.more _⟩
          rw [HT.out]
          (first | rw [if_pos (by omega)] | rw [if_neg (by omega)])
          all_goals (first | rfl | go_num)
        case measure => simp [intOf]; omega
    · obtain rfl : k = l.length := by omega
      go_wp2
      go_ret
      exact ⟨ret_int (by rw [flowUpTo_yes hf, List.take_length]), HD⟩
set_option maxRecDepth 100000 in
set_option maxHeartbeats 1000000 in
theorem implFlowUpTo_any (A : Option Addr) (n c : Nat) (l : List Fl) (d : Int) (w : World) (hl : FlowsIn w A n l) :
    Calls Try.prog 70 #[.slice A n c, .int .i64 d] w fun e w' => e = .returned (.int .i64 (flowUpTo l d)) ∧ Below w.heap.size w w' := by
  have hn := hl.len
  obtain rfl := hl.1
  cases hf : areFlows l
  · go_enter Try.func70, Try.ntmps70
    go_wp2_with (go_at_call 22; refine (implAreFlows_any _ _ _ l _ hl).mono ?_; rintro e w1 ⟨rfl, hb⟩)
    go_ret
    exact ⟨ret_int (flowUpTo_no hf d).symm, hb⟩
  have HB := Lib.hid (areFlows_bd hf d)
  go_enter Try.func70, Try.ntmps70
  go_wp2_with (go_at_call 22; refine (implAreFlows_any _ _ _ l _ hl).mono ?_; rintro e w1 ⟨rfl, hb⟩)
  go_loopw [5, 13] (fun s i wr => ∃ k : Nat, k ≤ l.length ∧ i = .int .i64 k ∧ s = .int .i64 (upTo (l.take k) d) ∧ Below w.heap.size w wr) (fun _ i _ => l.length - (intOf i).toNat)
  case atStart => exact ⟨0, by omega, rfl, rfl, hb⟩
  case round =>
    obtain ⟨k, hk, rfl, rfl, HD⟩ := hrel
    by_cases hlt : k < l.length
    · obtain ⟨b, o, rfl, _, hc1, hc2⟩ := flow_at (hl.keep HD) hlt
      have hsz := HD.size
      have HT := Lib.hid (upTo_take l d k hlt)
      obtain ⟨b1, b2⟩ := HB.out k
      obtain ⟨b3, b4⟩ := (areFlows_mem hf l[k] (List.getElem_mem hlt)).2
      by_cases hday : l[k].1 ≤ d
      all_goals
        go_wp2
        go_roundw
        case rel =>
          refine ⟨k + 1, by omega, by go_num, ?_, HD.alloc (by omega) _⟩
          rw [HT.out]
          (first | rw [if_pos (by omega)] | rw [if_neg (by omega)])
          all_goals (first | rfl | go_num)
        case measure => simp [intOf]; omega
    · obtain rfl : k = l.length := by omega
      go_wp2
      go_ret
      exact ⟨ret_int (by rw [flowUpTo_yes hf, List.take_length]), HD⟩
end Go.Proofs.Ytpbibkjcjgggdaa
/- The walks of Projected and IsCovered. -/
namespace Go.Proofs.Ytpbibkjcjgggdaa
open Go.RowKit
def projected (rcv dem : List Fl) (stock d : Int) : Int := if inB stock 0 1000000000 && (areFlows rcv && areFlows dem) then stock + flowUpTo rcv d - flowUpTo dem d else 0
theorem projected_no {rcv dem : List Fl} {stock d : Int} (h : (inB stock 0 1000000000 && (areFlows rcv && areFlows dem)) = false) : projected rcv dem stock d = 0 := by simp [projected, h]
theorem projected_yes {rcv dem : List Fl} {stock : Int} (h1 : inB stock 0 1000000000 = true) (h2 : areFlows rcv = true) (h3 : areFlows dem = true) (d : Int) : projected rcv dem stock d = stock + flowUpTo rcv d - flowUpTo dem d := by simp [projected, h1, h2, h3]
theorem projected_bd {rcv dem : List Fl} {stock d : Int} : -40000000000 ≤ projected rcv dem stock d ∧ projected rcv dem stock d ≤ 41000000000 := by
  unfold projected
  split
  · rename_i h
    simp only [Bool.and_eq_true, inB_iff] at h
    have h1 := flowUpTo_bd rcv d
    have h2 := flowUpTo_bd dem d
    omega
  · omega
def isCovered (rcv dem : List Fl) (stock safety : Int) : Bool :=
  (inB stock 0 1000000000 && (inB safety 0 1000000000 && (areFlows rcv && areFlows dem))) && (List.range 1000).all fun d => decide (safety ≤ projected rcv dem stock d)
theorem isCovered_no {rcv dem : List Fl} {stock safety : Int} (h : (inB stock 0 1000000000 && (inB safety 0 1000000000 && (areFlows rcv && areFlows dem))) = false) : isCovered rcv dem stock safety = false := by
  unfold isCovered; rw [h]; rfl
theorem isCovered_at {rcv dem : List Fl} {stock safety : Int} {k : Nat} (hk : k < 1000) (h : projected rcv dem stock k < safety) : isCovered rcv dem stock safety = false := by
  unfold isCovered
  have : ((List.range 1000).all fun d => decide (safety ≤ projected rcv dem stock d)) = false := by
    rw [List.all_eq_false]
    exact ⟨k, by rw [List.mem_range]; exact hk, by simp; omega⟩
  rw [this, Bool.and_false]
theorem isCovered_yes {rcv dem : List Fl} {stock safety : Int} (h1 : inB stock 0 1000000000 = true) (h2 : inB safety 0 1000000000 = true) (h3 : areFlows rcv = true) (h4 : areFlows dem = true) (h : ∀ k : Nat, k < 1000 → safety ≤ projected rcv dem stock k) : isCovered rcv dem stock safety = true := by
  unfold isCovered
  have : ((List.range 1000).all fun d => decide (safety ≤ projected rcv dem stock d)) = true := by
    rw [List.all_eq_true]
    intro k hk
    rw [List.mem_range] at hk
    exact decide_eq_true (h k hk)
  rw [this, h1, h2, h3, h4]; rfl
set_option maxRecDepth 100000 in
set_option maxHeartbeats 1000000 in
theorem specProjected_any (A B : Option Addr) (n m c c2 : Nat) (rcv dem : List Fl) (stock d : Int) (w : World) (ha : FlowsIn w A n rcv) (hm : FlowsIn w B m dem) :
    Calls Try.prog 38 #[.int .i64 stock, .slice A n c, .slice B m c2, .int .i64 d] w fun e w' => e = .returned (.int .i64 (projected rcv dem stock d)) ∧ Drew w w' := by
  have hb : Drew w w := Drew.refl _
  go_enter Try.func38, Try.ntmps38
  go_wp2_with fail
  refine (l1In_any _ _ _ _).mono ?_
  rintro e v ⟨rfl, rfl⟩
  cases g1 : inB stock 0 1000000000
  · go_wp2_with fail
    go_ret
    exact ⟨ret_int (projected_no (by simp [g1])).symm, hb⟩
  go_wp2_with fail
  refine (specAreFlows_any _ _ _ rcv _ (ha.keep (hb.below _))).mono ?_
  rintro e u2 ⟨rfl, hs⟩
  replace hb := hb.trans hs
  clear hs
  cases g2 : areFlows rcv
  · go_wp2_with fail
    go_ret
    exact ⟨ret_int (projected_no (by simp [g2])).symm, hb⟩
  go_wp2_with fail
  refine (specAreFlows_any _ _ _ dem _ (hm.keep (hb.below _))).mono ?_
  rintro e u3 ⟨rfl, hs⟩
  replace hb := hb.trans hs
  clear hs
  cases g3 : areFlows dem
  · go_wp2_with fail
    go_ret
    exact ⟨ret_int (projected_no (by simp [g3])).symm, hb⟩
  obtain ⟨b1, b2⟩ := flowUpTo_bd rcv d
  obtain ⟨b3, b4⟩ := flowUpTo_bd dem d
  obtain ⟨b5, b6⟩ := inB_iff.1 g1
  go_wp2_with fail
  refine (specFlowUpTo_any _ _ _ rcv d _ (ha.keep (hb.below _))).mono ?_
  rintro e v1 ⟨rfl, hs⟩
  replace hb := hb.trans hs
  clear hs
  go_wp2_with fail
  refine (specFlowUpTo_any _ _ _ dem d _ (hm.keep (hb.below _))).mono ?_
  rintro e v2 ⟨rfl, hs⟩
  replace hb := hb.trans hs
  clear hs
  go_wp2_with fail
  go_ret
  exact ⟨ret_int (projected_yes g1 g2 g3 d).symm, hb⟩
set_option maxRecDepth 100000 in
set_option maxHeartbeats 1000000 in
theorem implProjected_any (A B : Option Addr) (n m c c2 : Nat) (rcv dem : List Fl) (stock d : Int) (w : World) (ha : FlowsIn w A n rcv) (hm : FlowsIn w B m dem) :
    Calls Try.prog 52 #[.int .i64 stock, .slice A n c, .slice B m c2, .int .i64 d] w fun e w' => e = .returned (.int .i64 (projected rcv dem stock d)) ∧ Below w.heap.size w w' := by
  have hb : Below w.heap.size w w := Below.refl _ _
  go_enter Try.func52, Try.ntmps52
  go_wp2_with fail
  refine (in_any _ _ _ _).mono ?_
  rintro e v ⟨rfl, rfl⟩
  cases g1 : inB stock 0 1000000000
  · go_wp2_with fail
    go_ret
    exact ⟨ret_int (projected_no (by simp [g1])).symm, hb⟩
  go_wp2_with fail
  refine (implAreFlows_any _ _ _ rcv _ (ha.keep hb)).mono ?_
  rintro e u2 ⟨rfl, hs⟩
  replace hb := below_on hb hs
  clear hs
  cases g2 : areFlows rcv
  · go_wp2_with fail
    go_ret
    exact ⟨ret_int (projected_no (by simp [g2])).symm, hb⟩
  go_wp2_with fail
  refine (implAreFlows_any _ _ _ dem _ (hm.keep hb)).mono ?_
  rintro e u3 ⟨rfl, hs⟩
  replace hb := below_on hb hs
  clear hs
  cases g3 : areFlows dem
  · go_wp2_with fail
    go_ret
    exact ⟨ret_int (projected_no (by simp [g3])).symm, hb⟩
  obtain ⟨b1, b2⟩ := flowUpTo_bd rcv d
  obtain ⟨b3, b4⟩ := flowUpTo_bd dem d
  obtain ⟨b5, b6⟩ := inB_iff.1 g1
  go_wp2_with fail
  refine (implFlowUpTo_any _ _ _ rcv d _ (ha.keep hb)).mono ?_
  rintro e v1 ⟨rfl, hs⟩
  replace hb := below_on hb hs
  clear hs
  go_wp2_with fail
  refine (implFlowUpTo_any _ _ _ dem d _ (hm.keep hb)).mono ?_
  rintro e v2 ⟨rfl, hs⟩
  replace hb := below_on hb hs
  clear hs
  go_wp2_with fail
  go_ret
  exact ⟨ret_int (projected_yes g1 g2 g3 d).symm, hb⟩
set_option maxRecDepth 100000 in
set_option maxHeartbeats 1000000 in
theorem specIsCovered_any (A B : Option Addr) (n m c c2 : Nat) (rcv dem : List Fl) (stock safety : Int) (w : World) (ha : FlowsIn w A n rcv) (hm : FlowsIn w B m dem) :
    Calls Try.prog 15 #[.int .i64 stock, .int .i64 safety, .slice A n c, .slice B m c2] w fun e w' => e = .returned (.bool (isCovered rcv dem stock safety)) ∧ Drew w w' := by
  have hb : Drew w w := Drew.refl _
  go_enter Try.func15, Try.ntmps15
  go_wp2_with fail
  refine (l1In_any _ _ _ _).mono ?_
  rintro e v ⟨rfl, rfl⟩
  cases g1 : inB stock 0 1000000000
  · go_wp2_with fail
    go_ret
    exact ⟨ret_bool (isCovered_no (by simp [g1])).symm, hb⟩
  go_wp2_with fail
  refine (l1In_any _ _ _ _).mono ?_
  rintro e v ⟨rfl, rfl⟩
  cases g2 : inB safety 0 1000000000
  · go_wp2_with fail
    go_ret
    exact ⟨ret_bool (isCovered_no (by simp [g2])).symm, hb⟩
  go_wp2_with fail
  refine (specAreFlows_any _ _ _ rcv _ (ha.keep (hb.below _))).mono ?_
  rintro e u3 ⟨rfl, hs⟩
  replace hb := hb.trans hs
  clear hs
  cases g3 : areFlows rcv
  · go_wp2_with fail
    go_ret
    exact ⟨ret_bool (isCovered_no (by simp [g3])).symm, hb⟩
  go_wp2_with fail
  refine (specAreFlows_any _ _ _ dem _ (hm.keep (hb.below _))).mono ?_
  rintro e u4 ⟨rfl, hs⟩
  replace hb := hb.trans hs
  clear hs
  cases g4 : areFlows dem
  · go_wp2_with fail
    go_ret
    exact ⟨ret_bool (isCovered_no (by simp [g4])).symm, hb⟩
  go_wp2_with fail
  go_loopw [9] (fun i wr => ∃ j : Nat, j ≤ 1000 ∧ i = .int .i64 j ∧ Hid (∀ k : Nat, k < j → safety ≤ projected rcv dem stock k) ∧ Drew w wr) (fun i _ => 1000 - (intOf i).toNat)
  case atStart => exact ⟨0, by omega, rfl, fun k h => absurd h (by omega), hb⟩
  case round =>
    obtain ⟨j, hj, rfl, HI, HR⟩ := hrel
    clear hb
    by_cases hlt : j ≤ 999
    · by_cases hq : safety ≤ projected rcv dem stock j
      · go_wp2_with fail
        refine (specProjected_any _ _ _ _ _ _ rcv dem _ _ _ (ha.keep (HR.below _)) (hm.keep (HR.below _))).mono ?_
        rintro e v ⟨rfl, hs⟩
        go_wp2_with fail
        go_roundw
        case rel =>
          refine ⟨j + 1, by omega, by go_num, ?_, HR.trans hs⟩
          intro k hk
          rcases Nat.lt_or_ge k j with h1 | h1
          · exact HI.out k h1
          · rw [show k = j by omega]; exact hq
        case measure => simp [intOf]; omega
      · go_wp2_with fail
        refine (specProjected_any _ _ _ _ _ _ rcv dem _ _ _ (ha.keep (HR.below _)) (hm.keep (HR.below _))).mono ?_
        rintro e v ⟨rfl, hs⟩
        go_wp2_with fail
        go_ret
        exact ⟨ret_bool (isCovered_at (k := j) (by omega) (by omega)).symm, HR.trans hs⟩
    · obtain rfl : j = 1000 := by omega
      go_wp2_with fail
      go_ret
      exact ⟨ret_bool (isCovered_yes g1 g2 g3 g4 HI.out).symm, HR⟩
end Go.Proofs.Ytpbibkjcjgggdaa
/- The walks of NetNeeds. -/
namespace Go.Proofs.Ytpbibkjcjgggdaa
open Go.RowKit
def netTo (rcv dem : List Fl) (stock safety : Int) : Nat → List Fl × Int
  | 0 => ([], 0)
  | d + 1 =>
    if 0 < safety - projected rcv dem stock d - (netTo rcv dem stock safety d).2 then
      ((netTo rcv dem stock safety d).1 ++ [((d : Int), safety - projected rcv dem stock d - (netTo rcv dem stock safety d).2)], (netTo rcv dem stock safety d).2 + (safety - projected rcv dem stock d - (netTo rcv dem stock safety d).2))
    else netTo rcv dem stock safety d
theorem netTo_succ (rcv dem : List Fl) (stock safety : Int) (d : Nat) : netTo rcv dem stock safety (d + 1) =
    if 0 < safety - projected rcv dem stock d - (netTo rcv dem stock safety d).2 then
      ((netTo rcv dem stock safety d).1 ++ [((d : Int), safety - projected rcv dem stock d - (netTo rcv dem stock safety d).2)], (netTo rcv dem stock safety d).2 + (safety - projected rcv dem stock d - (netTo rcv dem stock safety d).2))
    else netTo rcv dem stock safety d := rfl
theorem netTo_bd (rcv dem : List Fl) (stock safety : Int) (h : 0 ≤ safety ∧ safety ≤ 1000000000) (k : Nat) : (netTo rcv dem stock safety k).1.length ≤ k ∧ 0 ≤ (netTo rcv dem stock safety k).2 ∧ (netTo rcv dem stock safety k).2 ≤ 41000000000 := by
  induction k with
  | zero => simp [netTo]
  | succ k ih =>
    have h1 := projected_bd (rcv := rcv) (dem := dem) (stock := stock) (d := k)
    simp only [netTo]
    split
    · simp; omega
    · omega
def netNeeds (rcv dem : List Fl) (stock safety : Int) : List Fl × Bool :=
  if (inB stock 0 1000000000 && (inB safety 0 1000000000 && (areFlows rcv && areFlows dem))) && areFlows (netTo rcv dem stock safety 1000).1 then ((netTo rcv dem stock safety 1000).1, true) else ([], false)
theorem netNeeds_no {rcv dem : List Fl} {stock safety : Int} (h : ((inB stock 0 1000000000 && (inB safety 0 1000000000 && (areFlows rcv && areFlows dem))) && areFlows (netTo rcv dem stock safety 1000).1) = false) : netNeeds rcv dem stock safety = ([], false) := by
  unfold netNeeds; rw [h]; rfl
theorem netNeeds_yes {rcv dem : List Fl} {stock safety : Int} (h : ((inB stock 0 1000000000 && (inB safety 0 1000000000 && (areFlows rcv && areFlows dem))) && areFlows (netTo rcv dem stock safety 1000).1) = true) : netNeeds rcv dem stock safety = ((netTo rcv dem stock safety 1000).1, true) := by
  unfold netNeeds; rw [h]; rfl
theorem netNeeds_flows (rcv dem : List Fl) (stock safety : Int) : areFlows (netNeeds rcv dem stock safety).1 = true := by
  unfold netNeeds
  split
  · rename_i h
    simp only [Bool.and_eq_true] at h
    exact h.2
  · rfl
theorem netNeeds_len (rcv dem : List Fl) (stock safety : Int) : (netNeeds rcv dem stock safety).1.length ≤ 16777216 := by
  have := (areFlows_parts (netNeeds_flows rcv dem stock safety)).2
  omega
set_option maxRecDepth 100000 in
set_option maxHeartbeats 2000000 in
theorem specNetNeeds_any (A B : Option Addr) (n m c c2 : Nat) (rcv dem : List Fl) (stock safety : Int) (w : World) (ha : FlowsIn w A n rcv) (hm : FlowsIn w B m dem) :
    Calls Try.prog 30 #[.int .i64 stock, .int .i64 safety, .slice A n c, .slice B m c2] w (PairRows w (netNeeds rcv dem stock safety)) := by
  have hb : Below w.heap.size w w := Below.refl _ _
  go_enter Try.func30, Try.ntmps30
  go_wp2_with fail
  refine (l1In_any _ _ _ _).mono ?_
  rintro e v ⟨rfl, rfl⟩
  cases g1 : inB stock 0 1000000000
  · go_wp2_with fail
    go_ret2
    exact pairRows_mk (l := []) (netNeeds_no (by simp [g1])) (empty_row rfl hb.size) (hb.alloc hb.size _)
  go_wp2_with fail
  refine (l1In_any _ _ _ _).mono ?_
  rintro e v ⟨rfl, rfl⟩
  cases g2 : inB safety 0 1000000000
  · go_wp2_with fail
    go_ret2
    exact pairRows_mk (l := []) (netNeeds_no (by simp [g2])) (empty_row rfl hb.size) (hb.alloc hb.size _)
  go_wp2_with fail
  refine (specAreFlows_any _ _ _ rcv _ (ha.keep hb)).mono ?_
  rintro e u3 ⟨rfl, hs⟩
  replace hb := below_on hb (hs.below _)
  clear hs
  cases g3 : areFlows rcv
  · go_wp2_with fail
    go_ret2
    exact pairRows_mk (l := []) (netNeeds_no (by simp [g3])) (empty_row rfl hb.size) (hb.alloc hb.size _)
  go_wp2_with fail
  refine (specAreFlows_any _ _ _ dem _ (hm.keep hb)).mono ?_
  rintro e u4 ⟨rfl, hs⟩
  replace hb := below_on hb (hs.below _)
  clear hs
  cases g4 : areFlows dem
  · go_wp2_with fail
    go_ret2
    exact pairRows_mk (l := []) (netNeeds_no (by simp [g4])) (empty_row rfl hb.size) (hb.alloc hb.size _)
  obtain ⟨s1, s2⟩ := inB_iff.1 g1
  obtain ⟨s3, s4⟩ := inB_iff.1 g2
  have HB := Lib.hid (netTo_bd rcv dem stock safety ⟨s3, s4⟩)
  have hsz0 := hb.size
  go_wp2
  have hb0 := hb.alloc hsz0 (.cells #[] 53)
  have hv0 : RowVal flF 53 (u4.alloc (.cells #[] 53)) w.heap.size (.slice (some ⟨u4.heap.size, 0, none⟩) 0 0) [] := empty_row rfl hsz0
  clear hb
  go_loopw [10, 11, 12] (fun v s i wr => ∃ k : Nat, k ≤ 1000 ∧ i = .int .i64 k ∧ s = .int .i64 (netTo rcv dem stock safety k).2 ∧ RowVal flF 53 wr w.heap.size v (netTo rcv dem stock safety k).1 ∧ Below w.heap.size w wr) (fun _ _ i _ => 1000 - (intOf i).toNat)
  case atStart => exact ⟨0, by omega, rfl, rfl, hv0, hb0⟩
  case round =>
    clear hv0 hb0
    obtain ⟨k, hk, rfl, rfl, hrow, HR⟩ := hrel
    by_cases hlt : k ≤ 999
    · have HS := Lib.hid (netTo_succ rcv dem stock safety k)
      obtain ⟨n1, n2, n3⟩ := HB.out k
      generalize hst : netTo rcv dem stock safety k = st at *
      obtain ⟨out, sum⟩ := st
      dsimp only at hrow n1 n2 n3 HS ⊢
      have HST := Lib.hid hst
      clear hst
      have hout : out.length ≤ 1000 := by omega
      obtain ⟨p1, p2⟩ := projected_bd (rcv := rcv) (dem := dem) (stock := stock) (d := k)
      obtain ⟨f1, f2⟩ := flowUpTo_bd rcv k
      obtain ⟨f3, f4⟩ := flowUpTo_bd dem k
      have hpj := projected_yes g1 g3 g4 k
      have HP : Hid (safety - projected rcv dem stock k - sum = safety - sum - stock - flowUpTo rcv k + flowUpTo dem k) := by show safety - projected rcv dem stock k - sum = _; rw [hpj]; omega
      rw [HP.out] at HS
      clear p1 p2 hpj
      by_cases hp : 0 < (safety - sum - stock - flowUpTo rcv k + flowUpTo dem k)
      · go_wp2_with fail
        refine (specFlowUpTo_any _ _ _ rcv k _ (ha.keep HR)).mono ?_
        rintro e v1 ⟨rfl, hd⟩
        replace hrow := hrow.keep (hd.below _)
        replace HR := HR.trans (hd.below _)
        clear hd
        go_wp2_with fail
        refine (specFlowUpTo_any _ _ _ dem k _ (hm.keep HR)).mono ?_
        rintro e v2 ⟨rfl, hd⟩
        replace hrow := hrow.keep (hd.below _)
        replace HR := HR.trans (hd.below _)
        clear hd
        have hsz := HR.size
        go_wp2_with (at_builtin; refine wpList_append_one flowElem rfl _ _ rfl rfl (l := out) hrow (by omega) ((k : Int), (safety - sum - stock - flowUpTo rcv k + flowUpTo dem k)) #[.int .i64 k, .int .i64 (safety - sum - stock - flowUpTo rcv k + flowUpTo dem k)] rfl (by simp [Value.oneCell']) v2.heap.size _ rfl rfl hsz ?_; intro v' w2 hrow' hbl hgr)
        go_roundw
        case rel => exact ⟨k + 1, by omega, by go_num, by rw [HS.out, if_pos (by omega)], by rw [HS.out, if_pos (by omega)]; exact hrow', HR.trans (hbl _ (Nat.le_refl _) hsz)⟩
        case measure => simp [intOf]; omega
      · go_wp2_with fail
        refine (specFlowUpTo_any _ _ _ rcv k _ (ha.keep HR)).mono ?_
        rintro e v1 ⟨rfl, hd⟩
        replace hrow := hrow.keep (hd.below _)
        replace HR := HR.trans (hd.below _)
        clear hd
        go_wp2_with fail
        refine (specFlowUpTo_any _ _ _ dem k _ (hm.keep HR)).mono ?_
        rintro e v2 ⟨rfl, hd⟩
        replace hrow := hrow.keep (hd.below _)
        replace HR := HR.trans (hd.below _)
        clear hd
        go_wp2_with fail
        go_roundw
        case rel => exact ⟨k + 1, by omega, by go_num, by rw [HS.out, if_neg (by omega)], by rw [HS.out, if_neg (by omega)]; exact hrow, HR⟩
        case measure => simp [intOf]; omega
    · obtain rfl : k = 1000 := by omega
      obtain ⟨n1, n2, n3⟩ := HB.out 1000
      obtain ⟨X, C, rfl, hrow2⟩ := hrow.form
      go_wp2_with fail
      refine (specAreFlows_any _ _ _ (netTo rcv dem stock safety 1000).1 _ (hrow2.rows (by omega))).mono ?_
      rintro e v1 ⟨rfl, hs⟩
      replace hrow2 := hrow2.keep (hs.below _)
      replace HR := HR.trans (hs.below _)
      clear hs
      have hsz := HR.size
      cases hfl : areFlows (netTo rcv dem stock safety 1000).1
      · go_wp2_with fail
        go_ret2
        exact pairRows_mk (l := []) (netNeeds_no (by rw [hfl, Bool.and_false])) (empty_row rfl hsz) (HR.alloc hsz _)
      · go_wp2_with fail
        go_ret2
        exact pairRows_mk (netNeeds_yes (by rw [hfl, g1, g2, g3, g4]; rfl)) hrow2.val HR
set_option maxRecDepth 100000 in
set_option maxHeartbeats 2000000 in
theorem implNetNeeds_any (A B : Option Addr) (n m c c2 : Nat) (rcv dem : List Fl) (stock safety : Int) (w : World) (ha : FlowsIn w A n rcv) (hm : FlowsIn w B m dem) :
    Calls Try.prog 23 #[.int .i64 stock, .int .i64 safety, .slice A n c, .slice B m c2] w (PairRows w (netNeeds rcv dem stock safety)) := by
  have hb : Below w.heap.size w w := Below.refl _ _
  go_enter Try.func23, Try.ntmps23
  go_wp2_with fail
  refine (in_any _ _ _ _).mono ?_
  rintro e v ⟨rfl, rfl⟩
  cases g1 : inB stock 0 1000000000
  · go_wp2_with fail
    go_ret2
    exact pairRows_mk (l := []) (netNeeds_no (by simp [g1])) (RowVal.nil _ _) hb
  go_wp2_with fail
  refine (in_any _ _ _ _).mono ?_
  rintro e v ⟨rfl, rfl⟩
  cases g2 : inB safety 0 1000000000
  · go_wp2_with fail
    go_ret2
    exact pairRows_mk (l := []) (netNeeds_no (by simp [g2])) (RowVal.nil _ _) hb
  go_wp2_with fail
  refine (implAreFlows_any _ _ _ rcv _ (ha.keep hb)).mono ?_
  rintro e u3 ⟨rfl, hs⟩
  replace hb := below_on hb hs
  clear hs
  cases g3 : areFlows rcv
  · go_wp2_with fail
    go_ret2
    exact pairRows_mk (l := []) (netNeeds_no (by simp [g3])) (RowVal.nil _ _) hb
  go_wp2_with fail
  refine (implAreFlows_any _ _ _ dem _ (hm.keep hb)).mono ?_
  rintro e u4 ⟨rfl, hs⟩
  replace hb := below_on hb hs
  clear hs
  cases g4 : areFlows dem
  · go_wp2_with fail
    go_ret2
    exact pairRows_mk (l := []) (netNeeds_no (by simp [g4])) (RowVal.nil _ _) hb
  obtain ⟨s1, s2⟩ := inB_iff.1 g1
  obtain ⟨s3, s4⟩ := inB_iff.1 g2
  have HB := Lib.hid (netTo_bd rcv dem stock safety ⟨s3, s4⟩)
  have hsz0 := hb.size
  go_wp2
  have hb0 := hb.alloc hsz0 (.cells #[] 53)
  have hv0 : RowVal flF 53 (u4.alloc (.cells #[] 53)) w.heap.size (.slice (some ⟨u4.heap.size, 0, none⟩) 0 0) [] := empty_row rfl hsz0
  clear hb
  go_loopw [10, 11, 12] (fun v s i wr => ∃ k : Nat, k ≤ 1000 ∧ i = .int .i64 k ∧ s = .int .i64 (netTo rcv dem stock safety k).2 ∧ RowVal flF 53 wr w.heap.size v (netTo rcv dem stock safety k).1 ∧ Below w.heap.size w wr) (fun _ _ i _ => 1000 - (intOf i).toNat)
  case atStart => exact ⟨0, by omega, rfl, rfl, hv0, hb0⟩
  case round =>
    clear hv0 hb0
    obtain ⟨k, hk, rfl, rfl, hrow, HR⟩ := hrel
    by_cases hlt : k ≤ 999
    · have HS := Lib.hid (netTo_succ rcv dem stock safety k)
      obtain ⟨n1, n2, n3⟩ := HB.out k
      generalize hst : netTo rcv dem stock safety k = st at *
      obtain ⟨out, sum⟩ := st
      dsimp only at hrow n1 n2 n3 HS ⊢
      have HST := Lib.hid hst
      clear hst
      have hout : out.length ≤ 1000 := by omega
      obtain ⟨p1, p2⟩ := projected_bd (rcv := rcv) (dem := dem) (stock := stock) (d := k)
      
      by_cases hp : 0 < (safety - projected rcv dem stock k - sum)
      · go_wp2_with fail
        refine (implProjected_any _ _ _ _ _ _ rcv dem _ _ _ (ha.keep HR) (hm.keep HR)).mono ?_
        rintro e v2 ⟨rfl, hs⟩
        replace hrow := hrow.keep hs
        replace HR := below_on HR hs
        clear hs
        have hsz := HR.size
        go_wp2_with (at_builtin; refine wpList_append_one flowElem rfl _ _ rfl rfl (l := out) hrow (by omega) ((k : Int), (safety - projected rcv dem stock k - sum)) #[.int .i64 k, .int .i64 (safety - projected rcv dem stock k - sum)] rfl (by simp [Value.oneCell']) v2.heap.size _ rfl rfl hsz ?_; intro v' w2 hrow' hbl hgr)
        go_roundw
        case rel => exact ⟨k + 1, by omega, by go_num, by rw [HS.out, if_pos (by omega)], by rw [HS.out, if_pos (by omega)]; exact hrow', HR.trans (hbl _ (Nat.le_refl _) hsz)⟩
        case measure => simp [intOf]; omega
      · go_wp2_with fail
        refine (implProjected_any _ _ _ _ _ _ rcv dem _ _ _ (ha.keep HR) (hm.keep HR)).mono ?_
        rintro e v2 ⟨rfl, hs⟩
        replace hrow := hrow.keep hs
        replace HR := below_on HR hs
        clear hs
        go_wp2_with fail
        go_roundw
        case rel => exact ⟨k + 1, by omega, by go_num, by rw [HS.out, if_neg (by omega)], by rw [HS.out, if_neg (by omega)]; exact hrow, HR⟩
        case measure => simp [intOf]; omega
    · obtain rfl : k = 1000 := by omega
      obtain ⟨n1, n2, n3⟩ := HB.out 1000
      obtain ⟨X, C, rfl, hrow2⟩ := hrow.form
      go_wp2_with fail
      refine (implAreFlows_any _ _ _ (netTo rcv dem stock safety 1000).1 _ (hrow2.rows (by omega))).mono ?_
      rintro e v1 ⟨rfl, hs⟩
      replace hrow2 := hrow2.keep hs
      replace HR := below_on HR hs
      clear hs
      have hsz := HR.size
      cases hfl : areFlows (netTo rcv dem stock safety 1000).1
      · go_wp2_with fail
        go_ret2
        exact pairRows_mk (l := []) (netNeeds_no (by rw [hfl, Bool.and_false])) (RowVal.nil _ _) HR
      · go_wp2_with fail
        go_ret2
        exact pairRows_mk (netNeeds_yes (by rw [hfl, g1, g2, g3, g4]; rfl)) hrow2.val HR
end Go.Proofs.Ytpbibkjcjgggdaa
