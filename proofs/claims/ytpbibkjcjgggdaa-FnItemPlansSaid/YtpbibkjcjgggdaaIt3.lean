/- Part 3 of the texts of this claim: Adding a flow to flows in ascending order: the reference's way and the program's come to one; What an append of a whole slice does to a row of the call's own; and the same at a step of a region that draws its order; The walks of the two ways to add a flow. -/
import Derived.Test.YtpbibkjcjgggdaaIt2
import Derived.Test.YtpbibkjcjgggdaaIt1
import Derived.RegionTactic
import Derived.Deep.RegionLaw
import Derived.OwnWalk
/- Adding a flow to flows in ascending order: the reference's way and the program's come to one. -/
namespace Go.Proofs.Ytpbibkjcjgggdaa

/-- The reference's way. -/
def addS : List Fl → Int → Int → List Fl
  | [], d, q => [(d, q)]
  | f :: t, d, q => if f.1 < d then f :: addS t d q else if f.1 = d then (f.1, f.2 + q) :: t else (d, q) :: f :: t
theorem addS_take (l : List Fl) (d q : Int) (k : Nat) (hk : k ≤ l.length) (h : ∀ j (hj : j < l.length), j < k → l[j].1 < d) : addS l d q = l.take k ++ addS (l.drop k) d q := by
  induction l generalizing k with
  | nil => simp at hk; subst hk; simp
  | cons f t ih =>
    cases k with
    | zero => simp
    | succ k =>
      have h0 := h 0 (by simp) (by omega)
      simp at h0
      have := ih k (by simpa using hk) (fun j hj hjk => by have := h (j + 1) (by simpa using hj) (by omega); simpa using this)
      simp [addS, h0, this]
theorem addS_end (l : List Fl) (d q : Int) (h : ∀ j (hj : j < l.length), j < l.length → l[j].1 < d) : addS l d q = l ++ [(d, q)] := by
  rw [addS_take l d q l.length (Nat.le_refl _) h]; simp [addS]
theorem addS_eq (l : List Fl) (d q : Int) (k : Nat) (hk : k < l.length) (h : ∀ j (hj : j < l.length), j < k → l[j].1 < d) (he : l[k].1 = d) : addS l d q = l.set k (l[k].1, l[k].2 + q) := by
  rw [addS_take l d q k (by omega) h, List.drop_eq_getElem_cons hk, addS, if_neg (by omega), if_pos he, List.set_eq_take_append_cons_drop, if_pos hk]
theorem addS_gt (l : List Fl) (d q : Int) (k : Nat) (hk : k < l.length) (h : ∀ j (hj : j < l.length), j < k → l[j].1 < d) (hg : d < l[k].1) : addS l d q = l.take k ++ [(d, q)] ++ l.drop k := by
  rw [addS_take l d q k (by omega) h, List.drop_eq_getElem_cons hk, addS, if_neg (by omega), if_neg (by omega)]
  simp
theorem addS_len (l : List Fl) (d q : Int) : (addS l d q).length ≤ l.length + 1 := by
  induction l with
  | nil => simp [addS]
  | cons f t ih =>
    simp only [addS]
    split
    · simp; omega
    · split <;> simp
/-- The program's way: one step. -/
def addStep (d q : Int) (s : List Fl × Bool) (f : Fl) : List Fl × Bool :=
  let o := if !s.2 && decide (d < f.1) then s.1 ++ [(d, q)] else s.1
  if d = f.1 then (o ++ [(f.1, f.2 + q)], true) else (o ++ [f], s.2 || decide (d < f.1))
def addTo (l : List Fl) (d q : Int) (k : Nat) : List Fl × Bool := (l.take k).foldl (addStep d q) ([], false)
def addI (l : List Fl) (d q : Int) : List Fl := if (addTo l d q l.length).2 then (addTo l d q l.length).1 else (addTo l d q l.length).1 ++ [(d, q)]
theorem addTo_succ (l : List Fl) (d q : Int) (k : Nat) (h : k < l.length) : addTo l d q (k + 1) = addStep d q (addTo l d q k) l[k] := by
  unfold addTo
  rw [List.take_succ_eq_append_getElem h, List.foldl_append]; rfl
theorem addTo_len (l : List Fl) (d q : Int) (k : Nat) (hk : k ≤ l.length) : (addTo l d q k).1.length ≤ 2 * k := by
  induction k with
  | zero => simp [addTo]
  | succ k ih =>
    have := ih (by omega)
    rw [addTo_succ l d q k (by omega)]
    unfold addStep
    simp only
    split <;> split <;> simp <;> omega
/-- The days ascend. -/
def ascends (l : List Fl) : Prop := ∀ i j (hj : j < l.length) (_ : i < j), (l[i]'(by omega)).1 < l[j].1
theorem ascends_tail {f : Fl} {t : List Fl} (h : ascends (f :: t)) : ascends t := fun i j hj hij => by
  have := h (i + 1) (j + 1) (by simpa using hj) (by omega)
  simpa using this
theorem ascends_head {f : Fl} {t : List Fl} (h : ascends (f :: t)) : ∀ g ∈ t, f.1 < g.1 := fun g hg => by
  obtain ⟨i, hi, rfl⟩ := List.getElem_of_mem hg
  have := h 0 (i + 1) (by simpa using hi) (by omega)
  simpa using this
theorem ascends_cons {f : Fl} {t : List Fl} (h : ascends t) (hf : ∀ g ∈ t, f.1 < g.1) : ascends (f :: t) := by
  intro i j hj hij
  cases j with
  | zero => omega
  | succ j =>
    cases i with
    | zero => simpa using hf _ (List.getElem_mem (by simpa using hj))
    | succ i => simpa using h i j (by simpa using hj) (by omega)
theorem fold_put (d q : Int) (t o : List Fl) (h : ∀ g ∈ t, d < g.1) : t.foldl (addStep d q) (o, true) = (o ++ t, true) := by
  induction t generalizing o with
  | nil => simp
  | cons f t ih =>
    have h0 := h f List.mem_cons_self
    rw [List.foldl_cons]
    have : addStep d q (o, true) f = (o ++ [f], true) := by
      unfold addStep
      rw [if_neg (by omega)]
      simp
    rw [this, ih _ (fun g hg => h g (List.mem_cons_of_mem _ hg))]
    simp
theorem fold_unput (d q : Int) (t o : List Fl) (h : ascends t) :
    (if (t.foldl (addStep d q) (o, false)).2 then (t.foldl (addStep d q) (o, false)).1 else (t.foldl (addStep d q) (o, false)).1 ++ [(d, q)]) = o ++ addS t d q := by
  induction t generalizing o with
  | nil => simp [addS]
  | cons f t ih =>
    rw [List.foldl_cons]
    have hh := ascends_head h
    by_cases h1 : d = f.1
    · have : addStep d q (o, false) f = (o ++ [(f.1, f.2 + q)], true) := by
        unfold addStep
        rw [if_pos h1]
        simp; omega
      rw [this, fold_put d q t _ (fun g hg => by have := hh g hg; omega)]
      simp [addS, h1]
    · by_cases h2 : d < f.1
      · have : addStep d q (o, false) f = (o ++ [(d, q)] ++ [f], true) := by
          unfold addStep
          rw [if_neg h1]
          simp [h2]
        rw [this, fold_put d q t _ (fun g hg => by have := hh g hg; omega)]
        simp [addS, show ¬ f.1 < d from by omega, show ¬ f.1 = d from by omega]
      · have : addStep d q (o, false) f = (o ++ [f], false) := by
          unfold addStep
          rw [if_neg h1]
          simp [h2]
        rw [this, ih _ (ascends_tail h)]
        simp [addS, show f.1 < d from by omega]
theorem addI_eq (l : List Fl) (d q : Int) (h : ascends l) : addI l d q = addS l d q := by
  unfold addI addTo
  rw [List.take_length, fold_unput d q l [] h]; simp
theorem addS_mem (l : List Fl) (d q : Int) : ∀ g ∈ addS l d q, g.1 = d ∨ ∃ f ∈ l, g.1 = f.1 := by
  induction l with
  | nil => intro g hg; simp [addS] at hg; left; rw [hg]
  | cons f t ih =>
    intro g hg
    simp only [addS] at hg
    split at hg
    · rcases List.mem_cons.1 hg with rfl | hg
      · exact .inr ⟨_, List.mem_cons_self, rfl⟩
      · rcases ih g hg with h | ⟨x, hx, h⟩
        · exact .inl h
        · exact .inr ⟨x, List.mem_cons_of_mem _ hx, h⟩
    · split at hg
      · rcases List.mem_cons.1 hg with rfl | hg
        · exact .inr ⟨f, List.mem_cons_self, rfl⟩
        · exact .inr ⟨g, List.mem_cons_of_mem _ hg, rfl⟩
      · rcases List.mem_cons.1 hg with rfl | hg
        · exact .inl rfl
        · exact .inr ⟨g, hg, rfl⟩
theorem addS_ascends (l : List Fl) (d q : Int) (h : ascends l) : ascends (addS l d q) := by
  induction l with
  | nil => intro i j hj hij; simp [addS] at hj; omega
  | cons f t ih =>
    have hh := ascends_head h
    have ht := ascends_tail h
    simp only [addS]
    split
    · rename_i h1
      refine ascends_cons (ih ht) (fun g hg => ?_)
      rcases addS_mem t d q g hg with h2 | ⟨x, hx, h2⟩
      · omega
      · have := hh x hx; omega
    · split
      · exact ascends_cons ht (fun g hg => hh g hg)
      · refine ascends_cons h (fun g hg => ?_)
        rcases List.mem_cons.1 hg with rfl | hg
        · omega
        · have := hh g hg; simp only; omega
theorem areFlows_ascends {l : List Fl} (h : areFlows l = true) : ascends l := by
  have hk := (areFlows_parts h).1
  have hstep : ∀ j (hj : j < l.length), 0 < j → (l[j - 1]'(by omega)).1 < l[j].1 := fun j hj h0 => by
    have := hk j hj
    simp only [okFlow, Bool.and_eq_true, Bool.or_eq_true, decide_eq_true_eq] at this
    rcases this.2.2 with h1 | h1
    · omega
    · rw [getD_at _ _ _ hj, getD_at _ _ _ (show j - 1 < l.length by omega)] at h1; exact h1
  intro i j hj hij
  induction j with
  | zero => omega
  | succ j ih =>
    have h1 := hstep (j + 1) hj (by omega)
    simp at h1
    rcases Nat.lt_or_ge i j with h2 | h2
    · have := ih (by omega) h2; omega
    · have : i = j := by omega
      subst this; exact h1
/-- Bounds on the quantities are kept. -/
theorem addS_bd (l : List Fl) (d q lo hi a b : Int) (h : ∀ f ∈ l, lo ≤ f.2 ∧ f.2 ≤ hi) (hq : a ≤ q ∧ q ≤ b) (ha : a ≤ 0) (hb : 0 ≤ b) (hlo : lo ≤ 0) (hhi : 0 ≤ hi) : ∀ f ∈ addS l d q, lo + a ≤ f.2 ∧ f.2 ≤ hi + b := by
  induction l with
  | nil => intro f hf; simp [addS] at hf; rw [hf]; simp only; omega
  | cons g t ih =>
    have hg := h g List.mem_cons_self
    have ht := ih (fun f hf => h f (List.mem_cons_of_mem _ hf))
    intro f hf
    simp only [addS] at hf
    split at hf
    · rcases List.mem_cons.1 hf with rfl | hf
      · omega
      · exact ht f hf
    · split at hf
      · rcases List.mem_cons.1 hf with rfl | hf
        · simp only; omega
        · have := h f (List.mem_cons_of_mem _ hf); omega
      · rcases List.mem_cons.1 hf with rfl | hf
        · simp only; omega
        · have := h f hf; omega
end Go.Proofs.Ytpbibkjcjgggdaa
/- What an append of a whole slice does to a row of the call's own; and the same at a step of a region that draws its order. -/
namespace Go.Proofs.Ytpbibkjcjgggdaa
open Go.RowKit
theorem wp_of_append {P : Program} {o : Oper} {a : Act} {K : Act → World → Prop} {Q : Exit → Act → World → Prop} (s x : Operand) {t : TypeId} (ho : o.op = .call { callee := .builtin .append, args := #[s, x], argTypes := #[t, t] })
    {w w' : World} {v1 v2 v' : Value} (hs : a.eval s = v1) (hx : a.eval x = v2) (hr : (Builtin.append_ #[t, t] o.type #[v1, v2]).run P w = .ok v' w') (h : K (a.put o.dst v') w') : o.wp P a w K Q := by
  unfold Oper.wp execOp
  simp only [ho, resolve, invoke, builtin, Sem.run_bind, Sem.run_pure, Result.andThen_ok, List.map_toArray, List.map_cons, List.map_nil, hs, hx, hr]
  exact h
section
variable {α : Type} {F : Flat α} {t e : TypeId}
theorem run_append_src (hE : ElemOk F t e) (ty : TypeId) {w : World} {lo : Nat} {v : Value} {l : List α} (hrow : RowVal F e w lo v l) (hl : l.length ≤ 16777216) {A : Option Addr} {m c : Nat} {l2 : List α} (hsrc : RowsIn F w A m l2)
    (hone : ∀ a, ∀ u ∈ F.enc a, u.oneCell' = true) (hlo : lo ≤ w.heap.size) :
    ∃ v' w', (Builtin.append_ #[t, t] ty #[v, .slice A m c]).run Try.prog w = .ok v' w' ∧ RowVal F e w' lo v' (l ++ l2) ∧ w.grownBy w' v.ownBlock := by
  obtain ⟨i, z, bytes, ht, hi, hz, hsz, hby, hzs, hpos, hbb⟩ := hE
  have hlen2 := hsrc.len
  have hm := hsrc.1
  have hb2 : (l.length + m) * bytes ≤ 140737488355328 := Nat.le_trans (Nat.mul_le_mul (show l.length + m ≤ 33554432 by omega) hbb) (by omega)
  have hone2 : ∀ u ∈ l2.flatMap F.enc, u.oneCell' = true := fun u hu => by
    obtain ⟨a, _, ha⟩ := List.mem_flatMap.1 hu
    exact hone a u ha
  have hjoin : ∀ (w' : World) (v' : Value), w'.ownsRow lo e F.sz v' (l.length + m) (l.flatMap F.enc ++ l2.flatMap F.enc) → RowVal F e w' lo v' (l ++ l2) := fun w' v' h => by
    unfold RowVal
    rw [List.length_append, List.flatMap_append, ← hm]; exact h
  rcases A with _ | ad
  · have h0 : m = 0 := by
      rcases Nat.eq_zero_or_pos m with h0 | h0
      · exact h0
      · obtain ⟨b, o, h, _⟩ := hsrc.2.2.2 h0
        cases h
    subst h0
    have hl0 : l2 = [] := List.eq_nil_of_length_eq_zero hm.symm
    subst hl0
    refine ⟨v, w, ?_, by rw [List.append_nil]; exact hrow, World.grownBy.refl w _⟩
    rcases hrow.2 with ⟨rfl, h0⟩ | ⟨g, cap, cur, rfl, _, _, hnc, _⟩
    · simp [Builtin.append_, run_underlying ht, sizeOf, typeInfo, hi, Builtin.lenOf, Builtin.firstCells]
    · simp [Builtin.append_, run_underlying ht, sizeOf, typeInfo, hi, Builtin.lenOf, Builtin.firstCells, hnc, storeCells]
  · have hcells : ∀ j u, (l2.flatMap F.enc)[j]? = some u → w.cell? (ad.add j) = some u := by
      intro j u hu
      rcases Nat.eq_zero_or_pos m with h0 | h0
      · have hl0 : l2 = [] := List.eq_nil_of_length_eq_zero (by omega)
        subst hl0
        simp at hu
      · obtain ⟨b, o, h, _, hc⟩ := hsrc.2.2.2 h0
        have hx := Option.some.inj h
        subst hx
        rw [Addr.add_lit]
        exact hc j u hu
    obtain ⟨v', w', hr, h2, h3, _⟩ := run_append_own (P := Try.prog) w lo t ty e i z F.sz bytes ht hi hz hsz hby hzs hpos v l.length (l.flatMap F.enc) hrow ad m c (l2.flatMap F.enc) (by rw [flatMap_len F.enc F.sz F.len, hm]) hcells hone2 (by unfold maxLen; omega) hb2 hlo
    exact ⟨v', w', hr, hjoin _ _ h2, h3⟩
theorem wp_append_src (hE : ElemOk F t e) (hone : ∀ a, ∀ u ∈ F.enc a, u.oneCell' = true) {o : Oper} {a : Act} {K : Act → World → Prop} {Q : Exit → Act → World → Prop} (s x : Operand)
    (ho : o.op = .call { callee := .builtin .append, args := #[s, x], argTypes := #[t, t] }) {w : World} {lo : Nat} {v : Value} {l : List α} (hs : a.eval s = v) (hrow : RowVal F e w lo v l) (hl : l.length ≤ 16777216)
    {A : Option Addr} {m c : Nat} {l2 : List α} (hx : a.eval x = .slice A m c) (hsrc : RowsIn F w A m l2) (hlo : lo ≤ w.heap.size)
    (h : ∀ v' w', RowVal F e w' lo v' (l ++ l2) → (∀ B, B ≤ lo → B ≤ w.heap.size → Below B w w') → K (a.put o.dst v') w') : o.wp Try.prog a w K Q := by
  obtain ⟨v', w', hr, h2, h3⟩ := run_append_src hE o.type hrow hl (c := c) hsrc hone hlo
  exact wp_of_append s x ho hs hx hr (h v' w' h2 (fun B hB hw => below_grown h3 hw (fun g hg => Nat.le_trans hB (own_block hrow g hg))))
theorem wpList_append_src (hE : ElemOk F t e) (hone : ∀ a, ∀ u ∈ F.enc a, u.oneCell' = true) {ops : Array Oper} {rest : List Oper} {o : Oper} {a : Act} {Q : Exit → Act → World → Prop} (hgd : o.guard = none) (s x : Operand)
    (ho : o.op = .call { callee := .builtin .append, args := #[s, x], argTypes := #[t, t] }) {w : World} {lo : Nat} {v : Value} {l : List α} (hs : a.eval s = v) (hrow : RowVal F e w lo v l) (hl : l.length ≤ 16777216)
    {A : Option Addr} {m c : Nat} {l2 : List α} (hx : a.eval x = .slice A m c) (hsrc : RowsIn F w A m l2) (hlo : lo ≤ w.heap.size)
    (h : ∀ v' w', RowVal F e w' lo v' (l ++ l2) → (∀ B, B ≤ lo → B ≤ w.heap.size → Below B w w') → wpList Try.prog ops Q rest (a.put o.dst v') w') : wpList Try.prog ops Q (o :: rest) a w :=
  wpList_plain hgd fun _ hK => wp_append_src hE hone s x ho hs hrow hl hx hsrc hlo fun v' w' h2 h3 => hK _ _ (h v' w' h2 h3)
theorem step_append_src (hE : ElemOk F t e) (hone : ∀ a, ∀ u ∈ F.enc a, u.oneCell' = true) {ops : Array Oper} {o : Oper} {a : Act} {K : Act → World → Prop} {Q : Exit → Act → World → Prop} {E : Prop} (hgd : o.guard = none) (s x : Operand)
    (ho : o.op = .call { callee := .builtin .append, args := #[s, x], argTypes := #[t, t] }) {w : World} {lo : Nat} {v : Value} {l : List α} (hs : a.eval s = v) (hrow : RowVal F e w lo v l) (hl : l.length ≤ 16777216)
    {A : Option Addr} {m c : Nat} {l2 : List α} (hx : a.eval x = .slice A m c) (hsrc : RowsIn F w A m l2) (hlo : lo ≤ w.heap.size)
    (h : ∀ v' w', RowVal F e w' lo v' (l ++ l2) → (∀ B, B ≤ lo → B ≤ w.heap.size → Below B w w') → K (a.put o.dst v') w') :
    if Region.wanted o (yielded ops a.tmps) = true then Oper.wp Try.prog o a w K Q else E := by
  have hw : Region.wanted o (yielded ops a.tmps) = true := by simp [Region.wanted, hgd]
  rw [if_pos hw]
  exact wp_append_src hE hone s x ho hs hrow hl hx hsrc hlo h
/-- A cut of a slice reads as the cut of the list. -/
theorem RowsIn.take {w : World} {A : Option Addr} {n k : Nat} {l : List α} (h : RowsIn F w A n l) (hk : k ≤ n) : RowsIn F w A k (l.take k) := by
  have hlen := h.1
  refine ⟨by simp; omega, by rw [flatMap_len F.enc F.sz F.len, List.length_take, Nat.min_eq_left (by omega)], by have := h.2.2.1; omega, fun hpos => ?_⟩
  obtain ⟨b, o, e, hlt, hc⟩ := h.2.2.2 (by omega)
  refine ⟨b, o, e, hlt, fun j u hu => hc j u ?_⟩
  rw [← hu]
  have h2 : l.flatMap F.enc = (l.take k).flatMap F.enc ++ (l.drop k).flatMap F.enc := by rw [← List.flatMap_append, List.take_append_drop]
  rw [h2, List.getElem?_append_left (List.getElem?_eq_some_iff.1 hu).1]
theorem RowsIn.drop {w : World} {A : Option Addr} {n k cap : Nat} {l : List α} (h : RowsIn F w A n l) (hk : k ≤ n) (hcap : n ≤ cap) :
    RowsIn F w (if cap = k then A else A.map (·.add (k * F.sz))) (n - k) (l.drop k) := by
  have hlen := h.1
  refine ⟨by simp; omega, by rw [flatMap_len F.enc F.sz F.len, List.length_drop, ← hlen], by have := h.2.2.1; omega, fun hpos => ?_⟩
  obtain ⟨b, o, e, hlt, hc⟩ := h.2.2.2 (by omega)
  subst e
  rw [if_neg (by omega)]
  refine ⟨b, o + k * F.sz, by simp [Addr.add_lit], hlt, fun j u hu => ?_⟩
  rw [Nat.add_assoc]
  refine hc _ u ?_
  rw [← hu]
  have h2 : l.flatMap F.enc = (l.take k).flatMap F.enc ++ (l.drop k).flatMap F.enc := by rw [← List.flatMap_append, List.take_append_drop]
  have h3 : ((l.take k).flatMap F.enc).length = k * F.sz := by rw [flatMap_len F.enc F.sz F.len, List.length_take, Nat.min_eq_left (by omega)]
  rw [h2, List.getElem?_append_right (by omega), h3]
  congr 1
  omega
end
section
variable {α : Type} {F : Flat α} {t e : TypeId}
theorem row_ne {w : World} {lo : Nat} {v : Value} {l : List α} (h : RowVal F e w lo v l) {b : Nat} (hb : w.heap.size ≤ b) : v.ownBlock ≠ some b := by
  obtain ⟨A, c, rfl, ho⟩ := h.form
  intro he
  cases A with
  | none => simp [Value.ownBlock] at he
  | some a =>
    simp [Value.ownBlock] at he
    have := (own_lt ho.2 a rfl).2
    omega
/-- The same append, and what of all other blocks: they are as they were. -/
theorem wpList_append_far (hE : ElemOk F t e) {w1 : World} {ops : Array Oper} {rest : List Oper} {o : Oper} {a : Act} {Q : Exit → Act → World → Prop} (hgd : o.guard = none) (s x : Operand)
    (ho : o.op = .call { callee := .builtin .append, args := #[s, x], argTypes := #[t, t] }) {lo : Nat} {v : Value} {l : List α} (hs : a.eval s = v) (hrow : RowVal F e w1 lo v l) (hlen : l.length ≤ 16777216)
    (y : α) (cs : Array Value) (hcs : cs.toList = F.enc y) (hone : ∀ u ∈ cs.toList, u.oneCell' = true) (H c : Nat) (hH : w1.heap.size = H) (hx : a.eval x = .slice (some ⟨H, 0, none⟩) 1 c) (hlo : lo ≤ w1.heap.size)
    (h : ∀ v' w', RowVal F e w' lo v' (l ++ [y]) → (∀ B, B ≤ lo → B ≤ w1.heap.size → Below B w1 w') → w1.heap.size < w'.heap.size → (∀ p : Addr, p.block < w1.heap.size → v.ownBlock ≠ some p.block → w'.cell? p = w1.cell? p) → wpList Try.prog ops Q rest (a.put o.dst v') w') :
    wpList Try.prog ops Q (o :: rest) a (w1.alloc (.cells cs e)) := by
  obtain ⟨i, z, bytes, ht, hi, hz, hsz, hby, hzs, hpos, hbb⟩ := hE
  have hb2 : (l.length + 1) * bytes ≤ 140737488355328 := Nat.le_trans (Nat.mul_le_mul (show l.length + 1 ≤ 16777217 by omega) hbb) (by omega)
  refine wpList_append_own _ hgd s x t ho lo e i z F.sz bytes ht hi hz hsz hby hzs hpos v l.length (l.flatMap F.enc) hs (hrow.alloc _) ⟨H, 0, none⟩ 1 c cs.toList hx (by rw [hcs, F.len, Nat.one_mul]) (news_at hH cs e) hone (by unfold maxLen; omega) hb2 (by simp; omega) (fun v' w' h2 h3 _ => h v' w' (RowVal.snoc hcs h2) (fun B hB hB2 => ?_) ?_ (fun p hp hne => ?_))
  · refine ((Below.refl B w1).alloc hB2 _).trans (below_grown h3 (by simp; omega) (fun g hg => Nat.le_trans hB (own_block hrow g hg)))
  · have := h3.size; simp at this; omega
  · rw [World.cell?_of_block (h3.block p.block (by simp; omega) (Ne.symm hne)), World.cell?_alloc_lt w1 _ p hp]
end
section
variable {α : Type} {F : Flat α} {t e : TypeId}
/-- append([]T{}, src...): the copy. -/
theorem wpList_append_copy (hE : ElemOk F t e) (hone : ∀ a, ∀ u ∈ F.enc a, u.oneCell' = true) {ops : Array Oper} {rest : List Oper} {o : Oper} {a : Act} {Q : Exit → Act → World → Prop} (hgd : o.guard = none) (s x : Operand)
    (ho : o.op = .call { callee := .builtin .append, args := #[s, x], argTypes := #[t, t] }) {w : World} {lo : Nat} {v : Value} (hs : a.eval s = v) (hrow : RowVal F e w lo v [])
    {A : Option Addr} {m c : Nat} {l2 : List α} (hx : a.eval x = .slice A m c) (hsrc : RowsIn F w A m l2) (hlo : lo ≤ w.heap.size)
    (h : ∀ A' c' w', OwnRows F e w' lo A' m c' l2 → (∀ B, B ≤ lo → B ≤ w.heap.size → Below B w w') → wpList Try.prog ops Q rest (a.put o.dst (.slice A' m c')) w') : wpList Try.prog ops Q (o :: rest) a w :=
  wpList_append_src hE hone hgd s x ho hs hrow (by simp) hx hsrc hlo (fun v' w' h2 h3 => by
    obtain ⟨A', c', hv, ho'⟩ := h2.form
    rw [List.nil_append] at hv ho'
    rw [hv, ← hsrc.1]
    exact h A' c' w' (by rw [hsrc.1]; exact ho') h3)
theorem step_append_copy (hE : ElemOk F t e) (hone : ∀ a, ∀ u ∈ F.enc a, u.oneCell' = true) {ops : Array Oper} {o : Oper} {a : Act} {K : Act → World → Prop} {Q : Exit → Act → World → Prop} {E : Prop} (hgd : o.guard = none) (s x : Operand)
    (ho : o.op = .call { callee := .builtin .append, args := #[s, x], argTypes := #[t, t] }) {w : World} {lo : Nat} {v : Value} (hs : a.eval s = v) (hrow : RowVal F e w lo v [])
    {A : Option Addr} {m c : Nat} {l2 : List α} (hx : a.eval x = .slice A m c) (hsrc : RowsIn F w A m l2) (hlo : lo ≤ w.heap.size)
    (h : ∀ v' w', RowVal F e w' lo v' l2 → (∀ B, B ≤ lo → B ≤ w.heap.size → Below B w w') → K (a.put o.dst v') w') :
    if Region.wanted o (yielded ops a.tmps) = true then Oper.wp Try.prog o a w K Q else E :=
  step_append_src hE hone hgd s x ho hs hrow (by simp) hx hsrc hlo (fun v' w' h2 h3 => h v' w' (by rw [List.nil_append] at h2; exact h2) h3)
end
section
variable {α : Type} {F : Flat α} {t e : TypeId}
/-- The same at a step of a drawn region, with all that is known of the world behind. -/
theorem step_append_rows (hE : ElemOk F t e) (hone : ∀ a, ∀ u ∈ F.enc a, u.oneCell' = true) {ops : Array Oper} {o : Oper} {a : Act} {K : Act → World → Prop} {Q : Exit → Act → World → Prop} {E : Prop} (hgd : o.guard = none) (s x : Operand)
    (ho : o.op = .call { callee := .builtin .append, args := #[s, x], argTypes := #[t, t] }) (w : World) {lo : Nat} {v : Value} {l : List α} (hs : a.eval s = v) (hrow : RowVal F e w lo v l) (hl : l.length ≤ 16777216)
    {A : Option Addr} {m c : Nat} {l2 : List α} (hx : a.eval x = .slice A m c) (hsrc : RowsIn F w A m l2) (hlo : lo ≤ w.heap.size)
    (h : ∀ v' w', RowVal F e w' lo v' (l ++ l2) → w.grownBy w' v.ownBlock → K (a.put o.dst v') w') :
    if Region.wanted o (yielded ops a.tmps) = true then Oper.wp Try.prog o a w K Q else E := by
  have hw : Region.wanted o (yielded ops a.tmps) = true := by simp [Region.wanted, hgd]
  rw [if_pos hw]
  obtain ⟨v', w', hr, h2, h3⟩ := run_append_src hE o.type hrow hl (c := c) hsrc hone hlo
  exact wp_of_append s x ho hs hx hr (h v' w' h2 h3)
theorem RowsIn.far {w w' : World} {g n : Nat} {l : List α} {row : Option Nat} (h : RowsIn F w (some ⟨g, 0, none⟩) n l) (hg : w.grownBy w' row) (hne : some g ≠ row) : RowsIn F w' (some ⟨g, 0, none⟩) n l := by
  refine ⟨h.1, h.2.1, h.2.2.1, fun hpos => ?_⟩
  obtain ⟨b, o, he, hlt, hc⟩ := h.2.2.2 hpos
  have hx := Option.some.inj he
  injection hx with h1 h2
  subst h1 h2
  refine ⟨g, 0, rfl, Nat.lt_of_lt_of_le hlt hg.size, fun j u hu => ?_⟩
  rw [World.cell?_of_block (hg.block g hlt hne)]
  exact hc j u hu
theorem RowVal.drew {w : World} {lo : Nat} {v : Value} {l : List α} (h : RowVal F e w lo v l) : RowVal F e w.drew lo v l := h
theorem RowsIn.drew {w : World} {A : Option Addr} {n : Nat} {l : List α} (h : RowsIn F w A n l) : RowsIn F w.drew A n l := h
theorem RowsIn.nil_ (w : World) (A : Option Addr) : RowsIn F w A 0 [] := ⟨rfl, Sl.nil _ _ _⟩
end
end Go.Proofs.Ytpbibkjcjgggdaa
/- The walks of the two ways to add a flow. -/
namespace Go.Proofs.Ytpbibkjcjgggdaa
open Go.RowKit
theorem flOne : ∀ (a : Fl), ∀ u ∈ flF.enc a, u.oneCell' = true := by
  intro a u hu
  simp [flF] at hu
  rcases hu with rfl | rfl <;> rfl
/-- The ending of a call that hands back a row of flows. -/
def OneRow (w : World) (val : List Fl) (e : Ending) (w' : World) : Prop :=
  ∃ A c, e = .returned (.slice A val.length c) ∧ OwnRows flF 53 w' w.heap.size A val.length c val ∧ Below w.heap.size w w'
theorem oneRow_mk {w w' : World} {val : List Fl} {v : Value} (h : RowVal flF 53 w' w.heap.size v val) (hb : Below w.heap.size w w') : OneRow w val (.returned v) w' := by
  obtain ⟨A, c, rfl, ho⟩ := h.form
  exact ⟨A, c, rfl, ho, hb⟩
set_option maxRecDepth 100000 in
set_option maxHeartbeats 4000000 in
theorem addFlow_any (A : Option Addr) (n c : Nat) (l : List Fl) (d q : Int) (w : World) (ha : FlowsIn w A n l) (hq : -1000000000000 ≤ q ∧ q ≤ 1000000000000) (hl : ∀ f ∈ l, -1000000000000 ≤ f.2 ∧ f.2 ≤ 1000000000000) (hn : l.length ≤ 1048576) :
    Calls Try.prog 53 #[.slice A n c, .agg #[.int .i64 d, .int .i64 q]] w (OneRow w (addI l d q)) := by
  obtain rfl := ha.1
  obtain ⟨q1, q2⟩ := hq
  have HL := Lib.hid hl
  clear hl
  go_enter Try.func53, Try.ntmps53
  go_wp2
  have hx1 : ((w.alloc (.cells #[.int .i64 d, .int .i64 q] 53)).alloc (.cells #[] 53)).cell? ⟨w.heap.size, 0, none⟩ = some (.int .i64 d) := by simp [go_sem]
  have hx2 : ((w.alloc (.cells #[.int .i64 d, .int .i64 q] 53)).alloc (.cells #[] 53)).cell? ⟨w.heap.size, 1, none⟩ = some (.int .i64 q) := by simp [go_sem]
  have hb0 : Below w.heap.size w ((w.alloc (.cells #[.int .i64 d, .int .i64 q] 53)).alloc (.cells #[] 53)) := (below_alloc _ _).alloc (by simp) _
  have hv0 : RowVal flF 53 ((w.alloc (.cells #[.int .i64 d, .int .i64 q] 53)).alloc (.cells #[] 53)) (w.heap.size + 1) (.slice (some ⟨w.heap.size + 1, 0, none⟩) 0 0) [] := empty_row (by simp) (by simp)
  have hz0 : w.heap.size + 1 < ((w.alloc (.cells #[.int .i64 d, .int .i64 q] 53)).alloc (.cells #[] 53)).heap.size := by simp
  go_loopw [5, 6, 12] (fun v f i wr => ∃ k : Nat, k ≤ l.length ∧ i = .int .i64 k ∧ f = .bool (addTo l d q k).2 ∧ RowVal flF 53 wr (w.heap.size + 1) v (addTo l d q k).1 ∧ Below w.heap.size w wr ∧ w.heap.size + 1 < wr.heap.size ∧
    wr.cell? ⟨w.heap.size, 0, none⟩ = some (.int .i64 d) ∧ wr.cell? ⟨w.heap.size, 1, none⟩ = some (.int .i64 q)) (fun _ _ i _ => l.length - (intOf i).toNat)
  case atStart => exact ⟨0, by omega, rfl, rfl, hv0, hb0, hz0, hx1, hx2⟩
  case round =>
    clear hv0 hb0 hx1 hx2 hz0
    obtain ⟨k, hk, rfl, rfl, hrow, HR, hz, hx1, hx2⟩ := hrel
    by_cases hlt : k < l.length
    · have HS := Lib.hid (addTo_succ l d q k hlt)
      have hcl := addTo_len l d q k hk
      generalize hst : addTo l d q k = st at *
      obtain ⟨out, put⟩ := st
      dsimp only at hrow hcl ⊢
      have HST := Lib.hid hst
      clear hst
      obtain ⟨m1, m2⟩ := HL.out _ (List.getElem_mem hlt)
      obtain ⟨b, o, rfl, _, hc1, hc2⟩ := flow_at (ha.keep HR) hlt
      have hout : out.length ≤ 2097152 := by omega
      by_cases h1 : d = l[k].1
      · have HE := Lib.hid (show addStep d q (out, put) l[k] = (out ++ [(l[k].1, l[k].2 + q)], true) by unfold addStep; rw [if_pos h1]; simp only; rw [if_neg (by simp; omega)])
        have e1 : (d == l[k].1) = true := by rw [beq_iff_eq]; exact h1
        have e2 : d ≤ l[k].1 := by omega
        have e3 : l[k].1 ≤ d := by omega
        clear h1
        have hw3 := World.cell?_alloc_lt wr (.cells #[.int .i64 l[k].1, .int .i64 l[k].2] 53) ⟨w.heap.size, 0, none⟩ (by show w.heap.size < _; omega)
        rw [hx1] at hw3
        have hw4 := World.cell?_alloc_lt wr (.cells #[.int .i64 l[k].1, .int .i64 l[k].2] 53) ⟨w.heap.size, 1, none⟩ (by show w.heap.size < _; omega)
        rw [hx2] at hw4
        cases put
        all_goals
          have hw1 := World.cell?_alloc_lt wr (.cells #[.int .i64 l[k].1, .int .i64 (l[k].2 + q)] 53) ⟨w.heap.size, 0, none⟩ (by show w.heap.size < _; omega)
          rw [hx1] at hw1
          have hw2 := World.cell?_alloc_lt wr (.cells #[.int .i64 l[k].1, .int .i64 (l[k].2 + q)] 53) ⟨w.heap.size, 1, none⟩ (by show w.heap.size < _; omega)
          rw [hx2] at hw2
          go_wp2_with (at_builtin; refine wpList_append_one flowElem rfl (.tmp 40) (.tmp 42) rfl rfl (l := out) (RowVal.alloc hrow _) (by omega) (l[k].1, l[k].2 + q) #[.int .i64 l[k].1, .int .i64 (l[k].2 + q)] rfl (by simp [Value.oneCell']) (wr.heap.size + 1) _ (by simp) rfl (by simp; omega) ?_; intro v' w2 hrow2 hbl hgr)
          have hB2 := hbl (w.heap.size + 1) (Nat.le_refl _) (by simp; omega)
          have hz2 : w.heap.size + 1 < w2.heap.size := by have := hB2.size; simp at this; omega
          have hx3 := (hB2.cell (p := ⟨w.heap.size, 0, none⟩) (by show w.heap.size < _; omega)).trans hw1
          have hx4 := (hB2.cell (p := ⟨w.heap.size, 1, none⟩) (by show w.heap.size < _; omega)).trans hw2
          go_roundw
          case rel => exact ⟨k + 1, by omega, by go_num, by rw [HS.out, HE.out], by rw [HS.out, HE.out]; exact hrow2, (HR.alloc (by omega) _).trans (hB2.mono (by omega)), hz2, hx3, hx4⟩
          case measure => simp [intOf]; omega
      have e1 : (d == l[k].1) = false := by rw [beq_eq_false_iff_ne]; exact h1
      have H1 := Lib.hid h1
      clear h1
      cases put
      · by_cases h2 : d < l[k].1
        · have HE := Lib.hid (show addStep d q (out, false) l[k] = (out ++ [(d, q)] ++ [l[k]], true) by unfold addStep; rw [if_neg H1.out]; simp [h2])
          have hw1 := World.cell?_alloc_lt wr (.cells #[.int .i64 l[k].1, .int .i64 l[k].2] 53) ⟨w.heap.size, 0, none⟩ (by show w.heap.size < _; omega)
          rw [hx1] at hw1
          have hw2 := World.cell?_alloc_lt wr (.cells #[.int .i64 l[k].1, .int .i64 l[k].2] 53) ⟨w.heap.size, 1, none⟩ (by show w.heap.size < _; omega)
          rw [hx2] at hw2
          have hrowne := row_ne hrow (Nat.le_refl _)
          have hrow1 : RowVal flF 53 (wr.alloc (.cells #[.int .i64 l[k].1, .int .i64 l[k].2] 53)) (w.heap.size + 1) u5 out := RowVal.alloc hrow _
          have hxx : ∀ p : Nat, p < 2 → (wr.alloc (.cells #[.int .i64 l[k].1, .int .i64 l[k].2] 53)).cell? ⟨wr.heap.size, p, none⟩ = some (if p = 0 then .int .i64 l[k].1 else .int .i64 l[k].2) := by
            intro p hp
            match p, hp with
            | 0, _ => simp [go_sem]
            | 1, _ => simp [go_sem]
          have HXX := Lib.hid hxx
          clear hxx
          go_wp2_with (first | (at_builtin; refine wpList_append_far flowElem rfl (.tmp 25) (.tmp 27) rfl rfl (l := out) hrow1 (by omega) (d, q) #[.int .i64 d, .int .i64 q] rfl (by simp [Value.oneCell']) (wr.heap.size + 1) _ (by simp) rfl (by simp; omega) ?_; intro v2 w2 hrow2 hbl hgr hfar; have hB2 := hbl (w.heap.size + 1) (Nat.le_refl _) (by simp; omega); have hz2 : w.heap.size + 1 < w2.heap.size := (by have := hB2.size; simp at this; omega); have hx3 := (hB2.cell (p := ⟨w.heap.size, 0, none⟩) (by show w.heap.size < _; omega)).trans hw1; have hx4 := (hB2.cell (p := ⟨w.heap.size, 1, none⟩) (by show w.heap.size < _; omega)).trans hw2; have hy1 := (hfar ⟨wr.heap.size, 0, none⟩ (by simp) hrowne).trans (HXX.out 0 (by omega)); have hy2 := (hfar ⟨wr.heap.size, 1, none⟩ (by simp) hrowne).trans (HXX.out 1 (by omega)); simp only [if_true] at hy1; simp only [show ¬ ((1 : Nat) = 0) from by omega, if_false] at hy2; clear hfar hbl hw1 hw2) | (at_builtin; refine wpList_append_one flowElem rfl (.tmp 40) (.tmp 42) rfl rfl (l := out ++ [(d, q)]) hrow2 (by simp; omega) l[k] #[.int .i64 l[k].1, .int .i64 l[k].2] rfl (by simp [Value.oneCell']) w2.heap.size _ rfl rfl (by omega) ?_; intro v3 w3 hrow3 hbl3 hgr3))
          have hB3 := hbl3 (w.heap.size + 1) (Nat.le_refl _) (by omega)
          have hz3 : w.heap.size + 1 < w3.heap.size := by have := hB3.size; omega
          have hx5 := (hB3.cell (p := ⟨w.heap.size, 0, none⟩) (by show w.heap.size < _; omega)).trans hx3
          have hx6 := (hB3.cell (p := ⟨w.heap.size, 1, none⟩) (by show w.heap.size < _; omega)).trans hx4
          go_roundw
          case rel => exact ⟨k + 1, by omega, by go_num, by rw [HS.out, HE.out], by rw [HS.out, HE.out]; exact hrow3, ((HR.alloc (by omega) _).trans (hB2.mono (by omega))).trans (hB3.mono (by omega)), hz3, hx5, hx6⟩
          case measure => simp [intOf]; omega
        · have HE := Lib.hid (show addStep d q (out, false) l[k] = (out ++ [l[k]], false) by unfold addStep; rw [if_neg H1.out]; simp [h2])
          have hw1 := World.cell?_alloc_lt wr (.cells #[.int .i64 l[k].1, .int .i64 l[k].2] 53) ⟨w.heap.size, 0, none⟩ (by show w.heap.size < _; omega)
          rw [hx1] at hw1
          have hw2 := World.cell?_alloc_lt wr (.cells #[.int .i64 l[k].1, .int .i64 l[k].2] 53) ⟨w.heap.size, 1, none⟩ (by show w.heap.size < _; omega)
          rw [hx2] at hw2
          go_wp2_with (at_builtin; refine wpList_append_one flowElem rfl (.tmp 40) (.tmp 42) rfl rfl (l := out) (RowVal.alloc hrow _) (by omega) l[k] #[.int .i64 l[k].1, .int .i64 l[k].2] rfl (by simp [Value.oneCell']) (wr.heap.size + 1) _ (by simp) rfl (by simp; omega) ?_; intro v' w2 hrow2 hbl hgr)
          have hB2 := hbl (w.heap.size + 1) (Nat.le_refl _) (by simp; omega)
          have hz2 : w.heap.size + 1 < w2.heap.size := by have := hB2.size; simp at this; omega
          have hx3 := (hB2.cell (p := ⟨w.heap.size, 0, none⟩) (by show w.heap.size < _; omega)).trans hw1
          have hx4 := (hB2.cell (p := ⟨w.heap.size, 1, none⟩) (by show w.heap.size < _; omega)).trans hw2
          go_roundw
          case rel => exact ⟨k + 1, by omega, by go_num, by rw [HS.out, HE.out], by rw [HS.out, HE.out]; exact hrow2, (HR.alloc (by omega) _).trans (hB2.mono (by omega)), hz2, hx3, hx4⟩
          case measure => simp [intOf]; omega
      · have HE := Lib.hid (show addStep d q (out, true) l[k] = (out ++ [l[k]], true) by unfold addStep; rw [if_neg H1.out]; simp)
        · have hw1 := World.cell?_alloc_lt wr (.cells #[.int .i64 l[k].1, .int .i64 l[k].2] 53) ⟨w.heap.size, 0, none⟩ (by show w.heap.size < _; omega)
          rw [hx1] at hw1
          have hw2 := World.cell?_alloc_lt wr (.cells #[.int .i64 l[k].1, .int .i64 l[k].2] 53) ⟨w.heap.size, 1, none⟩ (by show w.heap.size < _; omega)
          rw [hx2] at hw2
          go_wp2_with (at_builtin; refine wpList_append_one flowElem rfl (.tmp 40) (.tmp 42) rfl rfl (l := out) (RowVal.alloc hrow _) (by omega) l[k] #[.int .i64 l[k].1, .int .i64 l[k].2] rfl (by simp [Value.oneCell']) (wr.heap.size + 1) _ (by simp) rfl (by simp; omega) ?_; intro v' w2 hrow2 hbl hgr)
          have hB2 := hbl (w.heap.size + 1) (Nat.le_refl _) (by simp; omega)
          have hz2 : w.heap.size + 1 < w2.heap.size := by have := hB2.size; simp at this; omega
          have hx3 := (hB2.cell (p := ⟨w.heap.size, 0, none⟩) (by show w.heap.size < _; omega)).trans hw1
          have hx4 := (hB2.cell (p := ⟨w.heap.size, 1, none⟩) (by show w.heap.size < _; omega)).trans hw2
          go_roundw
          case rel => exact ⟨k + 1, by omega, by go_num, by rw [HS.out, HE.out], by rw [HS.out, HE.out]; exact hrow2, (HR.alloc (by omega) _).trans (hB2.mono (by omega)), hz2, hx3, hx4⟩
          case measure => simp [intOf]; omega
    · obtain rfl : k = l.length := by omega
      have hcl := addTo_len l d q l.length (Nat.le_refl _)
      cases hfd : (addTo l d q l.length).2
      · go_wp2_with (at_builtin; refine wpList_append_one flowElem rfl (.tmp 47) (.tmp 49) rfl rfl (l := (addTo l d q l.length).1) hrow (by omega) (d, q) #[.int .i64 d, .int .i64 q] rfl (by simp [Value.oneCell']) wr.heap.size _ rfl rfl (by omega) ?_; intro v' w2 hrow2 hbl hgr)
        go_ret
        refine oneRow_mk ?_ (HR.trans (hbl _ (by omega) (by omega)))
        unfold addI
        rw [hfd]
        exact own_lower hrow2 (by omega)
      · go_wp2
        go_ret
        refine oneRow_mk ?_ HR
        unfold addI
        rw [hfd]
        exact own_lower hrow (by omega)
end Go.Proofs.Ytpbibkjcjgggdaa
