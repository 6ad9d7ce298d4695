/- Part 3 of the texts of this claim: What an append of a whole slice does to a row of the call's own; and the same at a step of a region that draws its order. -/
import Derived.Test.YtlnkofnfgemfdaaLd2
import Derived.RegionTactic
import Derived.Deep.RegionLaw
import Derived.OwnWalk
/- What an append of a whole slice does to a row of the call's own; and the same at a step of a region that draws its order. -/
namespace Go.Proofs.Ytlnkofnfgemfdaa
open Go.RowKit
theorem wp_of_append {P : Program} {o : Oper} {a : Act} {K : Act → World → Prop} {Q : Exit → Act → World → Prop} (s x : Operand) {t : TypeId} (ho : o.op = .call { callee := .builtin .append, args := #[s, x], argTypes := #[t, t] })
    {w w' : World} {v1 v2 v' : Value} (hs : a.eval s = v1) (hx : a.eval x = v2) (hr : (Builtin.append_ #[t, t] o.type #[v1, v2]).run P w = .ok v' w') (h : K (a.put o.dst v') w') : o.wp P a w K Q := by
  unfold Oper.wp execOp
  simp only [ho, resolve, invoke, builtin, Sem.run_bind, Sem.run_pure, Result.andThen_ok, List.map_toArray, List.map_cons, List.map_nil, hs, hx, hr]
  exact h
section
variable {α : Type} {F : Flat α} {t e : TypeId}
theorem run_append_src (hE : ElemOk F t e) (ty : TypeId) {w : World} {lo : Nat} {v : Value} {l : List α} (hrow : RowVal F e w lo v l) (hl : l.length ≤ 16777216) {A : Option Addr} {m c : Nat} {l2 : List α} (hsrc : RowsIn F w A m l2)
    (hone : ∀ a, ∀ u ∈ F.enc a, u.oneCell' = true) (hlo : lo ≤ w.heap.size) :
    ∃ v' w', (Builtin.append_ #[t, t] ty #[v, .slice A m c]).run Try.prog w = .ok v' w' ∧ RowVal F e w' lo v' (l ++ l2) ∧ w.grownBy w' v.ownBlock := by
  obtain ⟨i, z, bytes, ht, hi, hz, hsz, hby, hzs, hpos, hbb⟩ := hE
  have hlen2 := hsrc.len
  have hm := hsrc.1
  have hb2 : (l.length + m) * bytes ≤ 140737488355328 := Nat.le_trans (Nat.mul_le_mul (show l.length + m ≤ 33554432 by omega) hbb) (by omega)
  have hone2 : ∀ u ∈ l2.flatMap F.enc, u.oneCell' = true := fun u hu => by
    obtain ⟨a, _, ha⟩ := List.mem_flatMap.1 hu
    exact hone a u ha
  have hjoin : ∀ (w' : World) (v' : Value), w'.ownsRow lo e F.sz v' (l.length + m) (l.flatMap F.enc ++ l2.flatMap F.enc) → RowVal F e w' lo v' (l ++ l2) := fun w' v' h => by
    unfold RowVal
    rw [List.length_append, List.flatMap_append, ← hm]; exact h
  rcases A with _ | ad
  · have h0 : m = 0 := by
      rcases Nat.eq_zero_or_pos m with h0 | h0
      · exact h0
      · obtain ⟨b, o, h, _⟩ := hsrc.2.2.2 h0
        cases h
    subst h0
    have hl0 : l2 = [] := List.eq_nil_of_length_eq_zero hm.symm
    subst hl0
    refine ⟨v, w, ?_, by rw [List.append_nil]; exact hrow, World.grownBy.refl w _⟩
    rcases hrow.2 with ⟨rfl, h0⟩ | ⟨g, cap, cur, rfl, _, _, hnc, _⟩
    · simp [Builtin.append_, run_underlying ht, sizeOf, typeInfo, hi, Builtin.lenOf, Builtin.firstCells]
    · simp [Builtin.append_, run_underlying ht, sizeOf, typeInfo, hi, Builtin.lenOf, Builtin.firstCells, hnc, storeCells]
  · have hcells : ∀ j u, (l2.flatMap F.enc)[j]? = some u → w.cell? (ad.add j) = some u := by
      intro j u hu
      rcases Nat.eq_zero_or_pos m with h0 | h0
      · have hl0 : l2 = [] := List.eq_nil_of_length_eq_zero (by omega)
        subst hl0
        simp at hu
      · obtain ⟨b, o, h, _, hc⟩ := hsrc.2.2.2 h0
        have hx := Option.some.inj h
        subst hx
        rw [Addr.add_lit]
        exact hc j u hu
    obtain ⟨v', w', hr, h2, h3, _⟩ := run_append_own (P := Try.prog) w lo t ty e i z F.sz bytes ht hi hz hsz hby hzs hpos v l.length (l.flatMap F.enc) hrow ad m c (l2.flatMap F.enc) (by rw [flatMap_len F.enc F.sz F.len, hm]) hcells hone2 (by unfold maxLen; omega) hb2 hlo
    exact ⟨v', w', hr, hjoin _ _ h2, h3⟩
theorem wp_append_src (hE : ElemOk F t e) (hone : ∀ a, ∀ u ∈ F.enc a, u.oneCell' = true) {o : Oper} {a : Act} {K : Act → World → Prop} {Q : Exit → Act → World → Prop} (s x : Operand)
    (ho : o.op = .call { callee := .builtin .append, args := #[s, x], argTypes := #[t, t] }) {w : World} {lo : Nat} {v : Value} {l : List α} (hs : a.eval s = v) (hrow : RowVal F e w lo v l) (hl : l.length ≤ 16777216)
    {A : Option Addr} {m c : Nat} {l2 : List α} (hx : a.eval x = .slice A m c) (hsrc : RowsIn F w A m l2) (hlo : lo ≤ w.heap.size)
    (h : ∀ v' w', RowVal F e w' lo v' (l ++ l2) → (∀ B, B ≤ lo → B ≤ w.heap.size → Below B w w') → K (a.put o.dst v') w') : o.wp Try.prog a w K Q := by
  obtain ⟨v', w', hr, h2, h3⟩ := run_append_src hE o.type hrow hl (c := c) hsrc hone hlo
  exact wp_of_append s x ho hs hx hr (h v' w' h2 (fun B hB hw => below_grown h3 hw (fun g hg => Nat.le_trans hB (own_block hrow g hg))))
theorem wpList_append_src (hE : ElemOk F t e) (hone : ∀ a, ∀ u ∈ F.enc a, u.oneCell' = true) {ops : Array Oper} {rest : List Oper} {o : Oper} {a : Act} {Q : Exit → Act → World → Prop} (hgd : o.guard = none) (s x : Operand)
    (ho : o.op = .call { callee := .builtin .append, args := #[s, x], argTypes := #[t, t] }) {w : World} {lo : Nat} {v : Value} {l : List α} (hs : a.eval s = v) (hrow : RowVal F e w lo v l) (hl : l.length ≤ 16777216)
    {A : Option Addr} {m c : Nat} {l2 : List α} (hx : a.eval x = .slice A m c) (hsrc : RowsIn F w A m l2) (hlo : lo ≤ w.heap.size)
    (h : ∀ v' w', RowVal F e w' lo v' (l ++ l2) → (∀ B, B ≤ lo → B ≤ w.heap.size → Below B w w') → wpList Try.prog ops Q rest (a.put o.dst v') w') : wpList Try.prog ops Q (o :: rest) a w :=
  wpList_plain hgd fun _ hK => wp_append_src hE hone s x ho hs hrow hl hx hsrc hlo fun v' w' h2 h3 => hK _ _ (h v' w' h2 h3)
theorem step_append_src (hE : ElemOk F t e) (hone : ∀ a, ∀ u ∈ F.enc a, u.oneCell' = true) {ops : Array Oper} {o : Oper} {a : Act} {K : Act → World → Prop} {Q : Exit → Act → World → Prop} {E : Prop} (hgd : o.guard = none) (s x : Operand)
    (ho : o.op = .call { callee := .builtin .append, args := #[s, x], argTypes := #[t, t] }) {w : World} {lo : Nat} {v : Value} {l : List α} (hs : a.eval s = v) (hrow : RowVal F e w lo v l) (hl : l.length ≤ 16777216)
    {A : Option Addr} {m c : Nat} {l2 : List α} (hx : a.eval x = .slice A m c) (hsrc : RowsIn F w A m l2) (hlo : lo ≤ w.heap.size)
    (h : ∀ v' w', RowVal F e w' lo v' (l ++ l2) → (∀ B, B ≤ lo → B ≤ w.heap.size → Below B w w') → K (a.put o.dst v') w') :
    if Region.wanted o (yielded ops a.tmps) = true then Oper.wp Try.prog o a w K Q else E := by
  have hw : Region.wanted o (yielded ops a.tmps) = true := by simp [Region.wanted, hgd]
  rw [if_pos hw]
  exact wp_append_src hE hone s x ho hs hrow hl hx hsrc hlo h
/-- A cut of a slice reads as the cut of the list. -/
theorem RowsIn.take {w : World} {A : Option Addr} {n k : Nat} {l : List α} (h : RowsIn F w A n l) (hk : k ≤ n) : RowsIn F w A k (l.take k) := by
  have hlen := h.1
  refine ⟨by simp; omega, by rw [flatMap_len F.enc F.sz F.len, List.length_take, Nat.min_eq_left (by omega)], by have := h.2.2.1; omega, fun hpos => ?_⟩
  obtain ⟨b, o, e, hlt, hc⟩ := h.2.2.2 (by omega)
  refine ⟨b, o, e, hlt, fun j u hu => hc j u ?_⟩
  rw [← hu]
  have h2 : l.flatMap F.enc = (l.take k).flatMap F.enc ++ (l.drop k).flatMap F.enc := by rw [← List.flatMap_append, List.take_append_drop]
  rw [h2, List.getElem?_append_left (List.getElem?_eq_some_iff.1 hu).1]
theorem RowsIn.drop {w : World} {A : Option Addr} {n k cap : Nat} {l : List α} (h : RowsIn F w A n l) (hk : k ≤ n) (hcap : n ≤ cap) :
    RowsIn F w (if cap = k then A else A.map (·.add (k * F.sz))) (n - k) (l.drop k) := by
  have hlen := h.1
  refine ⟨by simp; omega, by rw [flatMap_len F.enc F.sz F.len, List.length_drop, ← hlen], by have := h.2.2.1; omega, fun hpos => ?_⟩
  obtain ⟨b, o, e, hlt, hc⟩ := h.2.2.2 (by omega)
  subst e
  rw [if_neg (by omega)]
  refine ⟨b, o + k * F.sz, by simp [Addr.add_lit], hlt, fun j u hu => ?_⟩
  rw [Nat.add_assoc]
  refine hc _ u ?_
  rw [← hu]
  have h2 : l.flatMap F.enc = (l.take k).flatMap F.enc ++ (l.drop k).flatMap F.enc := by rw [← List.flatMap_append, List.take_append_drop]
  have h3 : ((l.take k).flatMap F.enc).length = k * F.sz := by rw [flatMap_len F.enc F.sz F.len, List.length_take, Nat.min_eq_left (by omega)]
  rw [h2, List.getElem?_append_right (by omega), h3]
  congr 1
  omega
end
section
variable {α : Type} {F : Flat α} {t e : TypeId}
theorem row_ne {w : World} {lo : Nat} {v : Value} {l : List α} (h : RowVal F e w lo v l) {b : Nat} (hb : w.heap.size ≤ b) : v.ownBlock ≠ some b := by
  obtain ⟨A, c, rfl, ho⟩ := h.form
  intro he
  cases A with
  | none => simp [Value.ownBlock] at he
  | some a =>
    simp [Value.ownBlock] at he
    have := (own_lt ho.2 a rfl).2
    omega
/-- The same append, and what of all other blocks: they are as they were. -/
theorem wpList_append_far (hE : ElemOk F t e) {w1 : World} {ops : Array Oper} {rest : List Oper} {o : Oper} {a : Act} {Q : Exit → Act → World → Prop} (hgd : o.guard = none) (s x : Operand)
    (ho : o.op = .call { callee := .builtin .append, args := #[s, x], argTypes := #[t, t] }) {lo : Nat} {v : Value} {l : List α} (hs : a.eval s = v) (hrow : RowVal F e w1 lo v l) (hlen : l.length ≤ 16777216)
    (y : α) (cs : Array Value) (hcs : cs.toList = F.enc y) (hone : ∀ u ∈ cs.toList, u.oneCell' = true) (H c : Nat) (hH : w1.heap.size = H) (hx : a.eval x = .slice (some ⟨H, 0, none⟩) 1 c) (hlo : lo ≤ w1.heap.size)
    (h : ∀ v' w', RowVal F e w' lo v' (l ++ [y]) → (∀ B, B ≤ lo → B ≤ w1.heap.size → Below B w1 w') → w1.heap.size < w'.heap.size → (∀ p : Addr, p.block < w1.heap.size → v.ownBlock ≠ some p.block → w'.cell? p = w1.cell? p) → wpList Try.prog ops Q rest (a.put o.dst v') w') :
    wpList Try.prog ops Q (o :: rest) a (w1.alloc (.cells cs e)) := by
  obtain ⟨i, z, bytes, ht, hi, hz, hsz, hby, hzs, hpos, hbb⟩ := hE
  have hb2 : (l.length + 1) * bytes ≤ 140737488355328 := Nat.le_trans (Nat.mul_le_mul (show l.length + 1 ≤ 16777217 by omega) hbb) (by omega)
  refine wpList_append_own _ hgd s x t ho lo e i z F.sz bytes ht hi hz hsz hby hzs hpos v l.length (l.flatMap F.enc) hs (hrow.alloc _) ⟨H, 0, none⟩ 1 c cs.toList hx (by rw [hcs, F.len, Nat.one_mul]) (news_at hH cs e) hone (by unfold maxLen; omega) hb2 (by simp; omega) (fun v' w' h2 h3 _ => h v' w' (RowVal.snoc hcs h2) (fun B hB hB2 => ?_) ?_ (fun p hp hne => ?_))
  · refine ((Below.refl B w1).alloc hB2 _).trans (below_grown h3 (by simp; omega) (fun g hg => Nat.le_trans hB (own_block hrow g hg)))
  · have := h3.size; simp at this; omega
  · rw [World.cell?_of_block (h3.block p.block (by simp; omega) (Ne.symm hne)), World.cell?_alloc_lt w1 _ p hp]
end
section
variable {α : Type} {F : Flat α} {t e : TypeId}
/-- append([]T{}, src...): the copy. -/
theorem wpList_append_copy (hE : ElemOk F t e) (hone : ∀ a, ∀ u ∈ F.enc a, u.oneCell' = true) {ops : Array Oper} {rest : List Oper} {o : Oper} {a : Act} {Q : Exit → Act → World → Prop} (hgd : o.guard = none) (s x : Operand)
    (ho : o.op = .call { callee := .builtin .append, args := #[s, x], argTypes := #[t, t] }) {w : World} {lo : Nat} {v : Value} (hs : a.eval s = v) (hrow : RowVal F e w lo v [])
    {A : Option Addr} {m c : Nat} {l2 : List α} (hx : a.eval x = .slice A m c) (hsrc : RowsIn F w A m l2) (hlo : lo ≤ w.heap.size)
    (h : ∀ A' c' w', OwnRows F e w' lo A' m c' l2 → (∀ B, B ≤ lo → B ≤ w.heap.size → Below B w w') → wpList Try.prog ops Q rest (a.put o.dst (.slice A' m c')) w') : wpList Try.prog ops Q (o :: rest) a w :=
  wpList_append_src hE hone hgd s x ho hs hrow (by simp) hx hsrc hlo (fun v' w' h2 h3 => by
    obtain ⟨A', c', hv, ho'⟩ := h2.form
    rw [List.nil_append] at hv ho'
    rw [hv, ← hsrc.1]
    exact h A' c' w' (by rw [hsrc.1]; exact ho') h3)
theorem step_append_copy (hE : ElemOk F t e) (hone : ∀ a, ∀ u ∈ F.enc a, u.oneCell' = true) {ops : Array Oper} {o : Oper} {a : Act} {K : Act → World → Prop} {Q : Exit → Act → World → Prop} {E : Prop} (hgd : o.guard = none) (s x : Operand)
    (ho : o.op = .call { callee := .builtin .append, args := #[s, x], argTypes := #[t, t] }) {w : World} {lo : Nat} {v : Value} (hs : a.eval s = v) (hrow : RowVal F e w lo v [])
    {A : Option Addr} {m c : Nat} {l2 : List α} (hx : a.eval x = .slice A m c) (hsrc : RowsIn F w A m l2) (hlo : lo ≤ w.heap.size)
    (h : ∀ v' w', RowVal F e w' lo v' l2 → (∀ B, B ≤ lo → B ≤ w.heap.size → Below B w w') → K (a.put o.dst v') w') :
    if Region.wanted o (yielded ops a.tmps) = true then Oper.wp Try.prog o a w K Q else E :=
  step_append_src hE hone hgd s x ho hs hrow (by simp) hx hsrc hlo (fun v' w' h2 h3 => h v' w' (by rw [List.nil_append] at h2; exact h2) h3)
end
section
variable {α : Type} {F : Flat α} {t e : TypeId}
/-- The same at a step of a drawn region, with all that is known of the world behind. -/
theorem step_append_rows (hE : ElemOk F t e) (hone : ∀ a, ∀ u ∈ F.enc a, u.oneCell' = true) {ops : Array Oper} {o : Oper} {a : Act} {K : Act → World → Prop} {Q : Exit → Act → World → Prop} {E : Prop} (hgd : o.guard = none) (s x : Operand)
    (ho : o.op = .call { callee := .builtin .append, args := #[s, x], argTypes := #[t, t] }) (w : World) {lo : Nat} {v : Value} {l : List α} (hs : a.eval s = v) (hrow : RowVal F e w lo v l) (hl : l.length ≤ 16777216)
    {A : Option Addr} {m c : Nat} {l2 : List α} (hx : a.eval x = .slice A m c) (hsrc : RowsIn F w A m l2) (hlo : lo ≤ w.heap.size)
    (h : ∀ v' w', RowVal F e w' lo v' (l ++ l2) → w.grownBy w' v.ownBlock → K (a.put o.dst v') w') :
    if Region.wanted o (yielded ops a.tmps) = true then Oper.wp Try.prog o a w K Q else E := by
  have hw : Region.wanted o (yielded ops a.tmps) = true := by simp [Region.wanted, hgd]
  rw [if_pos hw]
  obtain ⟨v', w', hr, h2, h3⟩ := run_append_src hE o.type hrow hl (c := c) hsrc hone hlo
  exact wp_of_append s x ho hs hx hr (h v' w' h2 h3)
theorem RowsIn.far {w w' : World} {g n : Nat} {l : List α} {row : Option Nat} (h : RowsIn F w (some ⟨g, 0, none⟩) n l) (hg : w.grownBy w' row) (hne : some g ≠ row) : RowsIn F w' (some ⟨g, 0, none⟩) n l := by
  refine ⟨h.1, h.2.1, h.2.2.1, fun hpos => ?_⟩
  obtain ⟨b, o, he, hlt, hc⟩ := h.2.2.2 hpos
  have hx := Option.some.inj he
  injection hx with h1 h2
  subst h1 h2
  refine ⟨g, 0, rfl, Nat.lt_of_lt_of_le hlt hg.size, fun j u hu => ?_⟩
  rw [World.cell?_of_block (hg.block g hlt hne)]
  exact hc j u hu
theorem RowVal.drew {w : World} {lo : Nat} {v : Value} {l : List α} (h : RowVal F e w lo v l) : RowVal F e w.drew lo v l := h
theorem RowsIn.drew {w : World} {A : Option Addr} {n : Nat} {l : List α} (h : RowsIn F w A n l) : RowsIn F w.drew A n l := h
theorem RowsIn.nil_ (w : World) (A : Option Addr) : RowsIn F w A 0 [] := ⟨rfl, Sl.nil _ _ _⟩
end
end Go.Proofs.Ytlnkofnfgemfdaa
