/- Part 7 of the texts of this claim: What an append of a whole slice does to a row of the call's own; and the same at a step of a region that draws its order; More on rows of the call's own: endings that hand them back, rows of numbers that grow; Levels of a catalog's items (plain): the edges of bill lines; what the passes come to; The order of levels (plain). -/
import Derived.Test.YtlnkofnfgemfdaaGreatIp2
import Derived.RegionTactic
import Derived.Deep.RegionLaw
import Derived.OwnWalk
import Derived.Test.YtlnkofnfgemfdaaGreatIp6
import Derived.Maps.AppendAt
import Derived.Deep.DeepMust
import Derived.Test.YtlnkofnfgemfdaaGreatIp1
import Derived.Test.YtlnkofnfgemfdaaGreatIp4
import Derived.Test.YtlnkofnfgemfdaaGreatIp5
/- What an append of a whole slice does to a row of the call's own; and the same at a step of a region that draws its order. -/
namespace Go.Proofs.YtlnkofnfgemfdaaGreat
open Go.RowKit
theorem wp_of_append {P : Program} {o : Oper} {a : Act} {K : Act → World → Prop} {Q : Exit → Act → World → Prop} (s x : Operand) {t : TypeId} (ho : o.op = .call { callee := .builtin .append, args := #[s, x], argTypes := #[t, t] })
    {w w' : World} {v1 v2 v' : Value} (hs : a.eval s = v1) (hx : a.eval x = v2) (hr : (Builtin.append_ #[t, t] o.type #[v1, v2]).run P w = .ok v' w') (h : K (a.put o.dst v') w') : o.wp P a w K Q := by
  unfold Oper.wp execOp
  simp only [ho, resolve, invoke, builtin, Sem.run_bind, Sem.run_pure, Result.andThen_ok, List.map_toArray, List.map_cons, List.map_nil, hs, hx, hr]
  exact h
section
variable {α : Type} {F : Flat α} {t e : TypeId}
theorem run_append_src (hE : ElemOk F t e) (ty : TypeId) {w : World} {lo : Nat} {v : Value} {l : List α} (hrow : RowVal F e w lo v l) (hl : l.length ≤ 16777216) {A : Option Addr} {m c : Nat} {l2 : List α} (hsrc : RowsIn F w A m l2)
    (hone : ∀ a, ∀ u ∈ F.enc a, u.oneCell' = true) (hlo : lo ≤ w.heap.size) :
    ∃ v' w', (Builtin.append_ #[t, t] ty #[v, .slice A m c]).run Tryz.prog w = .ok v' w' ∧ RowVal F e w' lo v' (l ++ l2) ∧ w.grownBy w' v.ownBlock := by
  obtain ⟨i, z, bytes, ht, hi, hz, hsz, hby, hzs, hpos, hbb⟩ := hE
  have hlen2 := hsrc.len
  have hm := hsrc.1
  have hb2 : (l.length + m) * bytes ≤ 140737488355328 := Nat.le_trans (Nat.mul_le_mul (show l.length + m ≤ 33554432 by omega) hbb) (by omega)
  have hone2 : ∀ u ∈ l2.flatMap F.enc, u.oneCell' = true := fun u hu => by
    obtain ⟨a, _, ha⟩ := List.mem_flatMap.1 hu
    exact hone a u ha
  have hjoin : ∀ (w' : World) (v' : Value), w'.ownsRow lo e F.sz v' (l.length + m) (l.flatMap F.enc ++ l2.flatMap F.enc) → RowVal F e w' lo v' (l ++ l2) := fun w' v' h => by
    unfold RowVal
    rw [List.length_append, List.flatMap_append, ← hm]; exact h
  rcases A with _ | ad
  · have h0 : m = 0 := by
      rcases Nat.eq_zero_or_pos m with h0 | h0
      · exact h0
      · obtain ⟨b, o, h, _⟩ := hsrc.2.2.2 h0
        cases h
    subst h0
    have hl0 : l2 = [] := List.eq_nil_of_length_eq_zero hm.symm
    subst hl0
    refine ⟨v, w, ?_, by rw [List.append_nil]; exact hrow, World.grownBy.refl w _⟩
    rcases hrow.2 with ⟨rfl, h0⟩ | ⟨g, cap, cur, rfl, _, _, hnc, _⟩
    · simp [Builtin.append_, run_underlying ht, sizeOf, typeInfo, hi, Builtin.lenOf, Builtin.firstCells]
    · simp [Builtin.append_, run_underlying ht, sizeOf, typeInfo, hi, Builtin.lenOf, Builtin.firstCells, hnc, storeCells]
  · have hcells : ∀ j u, (l2.flatMap F.enc)[j]? = some u → w.cell? (ad.add j) = some u := by
      intro j u hu
      rcases Nat.eq_zero_or_pos m with h0 | h0
      · have hl0 : l2 = [] := List.eq_nil_of_length_eq_zero (by omega)
        subst hl0
        simp at hu
      · obtain ⟨b, o, h, _, hc⟩ := hsrc.2.2.2 h0
        have hx := Option.some.inj h
        subst hx
        rw [Addr.add_lit]
        exact hc j u hu
    obtain ⟨v', w', hr, h2, h3, _⟩ := run_append_own (P := Tryz.prog) w lo t ty e i z F.sz bytes ht hi hz hsz hby hzs hpos v l.length (l.flatMap F.enc) hrow ad m c (l2.flatMap F.enc) (by rw [flatMap_len F.enc F.sz F.len, hm]) hcells hone2 (by unfold maxLen; omega) hb2 hlo
    exact ⟨v', w', hr, hjoin _ _ h2, h3⟩
theorem wp_append_src (hE : ElemOk F t e) (hone : ∀ a, ∀ u ∈ F.enc a, u.oneCell' = true) {o : Oper} {a : Act} {K : Act → World → Prop} {Q : Exit → Act → World → Prop} (s x : Operand)
    (ho : o.op = .call { callee := .builtin .append, args := #[s, x], argTypes := #[t, t] }) {w : World} {lo : Nat} {v : Value} {l : List α} (hs : a.eval s = v) (hrow : RowVal F e w lo v l) (hl : l.length ≤ 16777216)
    {A : Option Addr} {m c : Nat} {l2 : List α} (hx : a.eval x = .slice A m c) (hsrc : RowsIn F w A m l2) (hlo : lo ≤ w.heap.size)
    (h : ∀ v' w', RowVal F e w' lo v' (l ++ l2) → (∀ B, B ≤ lo → B ≤ w.heap.size → Below B w w') → K (a.put o.dst v') w') : o.wp Tryz.prog a w K Q := by
  obtain ⟨v', w', hr, h2, h3⟩ := run_append_src hE o.type hrow hl (c := c) hsrc hone hlo
  exact wp_of_append s x ho hs hx hr (h v' w' h2 (fun B hB hw => below_grown h3 hw (fun g hg => Nat.le_trans hB (own_block hrow g hg))))
theorem wpList_append_src (hE : ElemOk F t e) (hone : ∀ a, ∀ u ∈ F.enc a, u.oneCell' = true) {ops : Array Oper} {rest : List Oper} {o : Oper} {a : Act} {Q : Exit → Act → World → Prop} (hgd : o.guard = none) (s x : Operand)
    (ho : o.op = .call { callee := .builtin .append, args := #[s, x], argTypes := #[t, t] }) {w : World} {lo : Nat} {v : Value} {l : List α} (hs : a.eval s = v) (hrow : RowVal F e w lo v l) (hl : l.length ≤ 16777216)
    {A : Option Addr} {m c : Nat} {l2 : List α} (hx : a.eval x = .slice A m c) (hsrc : RowsIn F w A m l2) (hlo : lo ≤ w.heap.size)
    (h : ∀ v' w', RowVal F e w' lo v' (l ++ l2) → (∀ B, B ≤ lo → B ≤ w.heap.size → Below B w w') → wpList Tryz.prog ops Q rest (a.put o.dst v') w') : wpList Tryz.prog ops Q (o :: rest) a w :=
  wpList_plain hgd fun _ hK => wp_append_src hE hone s x ho hs hrow hl hx hsrc hlo fun v' w' h2 h3 => hK _ _ (h v' w' h2 h3)
theorem step_append_src (hE : ElemOk F t e) (hone : ∀ a, ∀ u ∈ F.enc a, u.oneCell' = true) {ops : Array Oper} {o : Oper} {a : Act} {K : Act → World → Prop} {Q : Exit → Act → World → Prop} {E : Prop} (hgd : o.guard = none) (s x : Operand)
    (ho : o.op = .call { callee := .builtin .append, args := #[s, x], argTypes := #[t, t] }) {w : World} {lo : Nat} {v : Value} {l : List α} (hs : a.eval s = v) (hrow : RowVal F e w lo v l) (hl : l.length ≤ 16777216)
    {A : Option Addr} {m c : Nat} {l2 : List α} (hx : a.eval x = .slice A m c) (hsrc : RowsIn F w A m l2) (hlo : lo ≤ w.heap.size)
    (h : ∀ v' w', RowVal F e w' lo v' (l ++ l2) → (∀ B, B ≤ lo → B ≤ w.heap.size → Below B w w') → K (a.put o.dst v') w') :
    if Region.wanted o (yielded ops a.tmps) = true then Oper.wp Tryz.prog o a w K Q else E := by
  have hw : Region.wanted o (yielded ops a.tmps) = true := by simp [Region.wanted, hgd]
  rw [if_pos hw]
  exact wp_append_src hE hone s x ho hs hrow hl hx hsrc hlo h
/-- A cut of a slice reads as the cut of the list. -/
theorem RowsIn.take {w : World} {A : Option Addr} {n k : Nat} {l : List α} (h : RowsIn F w A n l) (hk : k ≤ n) : RowsIn F w A k (l.take k) := by
  have hlen := h.1
  refine ⟨by simp; omega, by rw [flatMap_len F.enc F.sz F.len, List.length_take, Nat.min_eq_left (by omega)], by have := h.2.2.1; omega, fun hpos => ?_⟩
  obtain ⟨b, o, e, hlt, hc⟩ := h.2.2.2 (by omega)
  refine ⟨b, o, e, hlt, fun j u hu => hc j u ?_⟩
  rw [← hu]
  have h2 : l.flatMap F.enc = (l.take k).flatMap F.enc ++ (l.drop k).flatMap F.enc := by rw [← List.flatMap_append, List.take_append_drop]
  rw [h2, List.getElem?_append_left (List.getElem?_eq_some_iff.1 hu).1]
theorem RowsIn.drop {w : World} {A : Option Addr} {n k cap : Nat} {l : List α} (h : RowsIn F w A n l) (hk : k ≤ n) (hcap : n ≤ cap) :
    RowsIn F w (if cap = k then A else A.map (·.add (k * F.sz))) (n - k) (l.drop k) := by
  have hlen := h.1
  refine ⟨by simp; omega, by rw [flatMap_len F.enc F.sz F.len, List.length_drop, ← hlen], by have := h.2.2.1; omega, fun hpos => ?_⟩
  obtain ⟨b, o, e, hlt, hc⟩ := h.2.2.2 (by omega)
  subst e
  rw [if_neg (by omega)]
  refine ⟨b, o + k * F.sz, by simp [Addr.add_lit], hlt, fun j u hu => ?_⟩
  rw [Nat.add_assoc]
  refine hc _ u ?_
  rw [← hu]
  have h2 : l.flatMap F.enc = (l.take k).flatMap F.enc ++ (l.drop k).flatMap F.enc := by rw [← List.flatMap_append, List.take_append_drop]
  have h3 : ((l.take k).flatMap F.enc).length = k * F.sz := by rw [flatMap_len F.enc F.sz F.len, List.length_take, Nat.min_eq_left (by omega)]
  rw [h2, List.getElem?_append_right (by omega), h3]
  congr 1
  omega
end
section
variable {α : Type} {F : Flat α} {t e : TypeId}
theorem row_ne {w : World} {lo : Nat} {v : Value} {l : List α} (h : RowVal F e w lo v l) {b : Nat} (hb : w.heap.size ≤ b) : v.ownBlock ≠ some b := by
  obtain ⟨A, c, rfl, ho⟩ := h.form
  intro he
  cases A with
  | none => simp [Value.ownBlock] at he
  | some a =>
    simp [Value.ownBlock] at he
    have := (own_lt ho.2 a rfl).2
    omega
/-- The same append, and what of all other blocks: they are as they were. -/
theorem wpList_append_far (hE : ElemOk F t e) {w1 : World} {ops : Array Oper} {rest : List Oper} {o : Oper} {a : Act} {Q : Exit → Act → World → Prop} (hgd : o.guard = none) (s x : Operand)
    (ho : o.op = .call { callee := .builtin .append, args := #[s, x], argTypes := #[t, t] }) {lo : Nat} {v : Value} {l : List α} (hs : a.eval s = v) (hrow : RowVal F e w1 lo v l) (hlen : l.length ≤ 16777216)
    (y : α) (cs : Array Value) (hcs : cs.toList = F.enc y) (hone : ∀ u ∈ cs.toList, u.oneCell' = true) (H c : Nat) (hH : w1.heap.size = H) (hx : a.eval x = .slice (some ⟨H, 0, none⟩) 1 c) (hlo : lo ≤ w1.heap.size)
    (h : ∀ v' w', RowVal F e w' lo v' (l ++ [y]) → (∀ B, B ≤ lo → B ≤ w1.heap.size → Below B w1 w') → w1.heap.size < w'.heap.size → (∀ p : Addr, p.block < w1.heap.size → v.ownBlock ≠ some p.block → w'.cell? p = w1.cell? p) → wpList Tryz.prog ops Q rest (a.put o.dst v') w') :
    wpList Tryz.prog ops Q (o :: rest) a (w1.alloc (.cells cs e)) := by
  obtain ⟨i, z, bytes, ht, hi, hz, hsz, hby, hzs, hpos, hbb⟩ := hE
  have hb2 : (l.length + 1) * bytes ≤ 140737488355328 := Nat.le_trans (Nat.mul_le_mul (show l.length + 1 ≤ 16777217 by omega) hbb) (by omega)
  refine wpList_append_own _ hgd s x t ho lo e i z F.sz bytes ht hi hz hsz hby hzs hpos v l.length (l.flatMap F.enc) hs (hrow.alloc _) ⟨H, 0, none⟩ 1 c cs.toList hx (by rw [hcs, F.len, Nat.one_mul]) (news_at hH cs e) hone (by unfold maxLen; omega) hb2 (by simp; omega) (fun v' w' h2 h3 _ => h v' w' (RowVal.snoc hcs h2) (fun B hB hB2 => ?_) ?_ (fun p hp hne => ?_))
  · refine ((Below.refl B w1).alloc hB2 _).trans (below_grown h3 (by simp; omega) (fun g hg => Nat.le_trans hB (own_block hrow g hg)))
  · have := h3.size; simp at this; omega
  · rw [World.cell?_of_block (h3.block p.block (by simp; omega) (Ne.symm hne)), World.cell?_alloc_lt w1 _ p hp]
end
section
variable {α : Type} {F : Flat α} {t e : TypeId}
/-- append([]T{}, src...): the copy. -/
theorem wpList_append_copy (hE : ElemOk F t e) (hone : ∀ a, ∀ u ∈ F.enc a, u.oneCell' = true) {ops : Array Oper} {rest : List Oper} {o : Oper} {a : Act} {Q : Exit → Act → World → Prop} (hgd : o.guard = none) (s x : Operand)
    (ho : o.op = .call { callee := .builtin .append, args := #[s, x], argTypes := #[t, t] }) {w : World} {lo : Nat} {v : Value} (hs : a.eval s = v) (hrow : RowVal F e w lo v [])
    {A : Option Addr} {m c : Nat} {l2 : List α} (hx : a.eval x = .slice A m c) (hsrc : RowsIn F w A m l2) (hlo : lo ≤ w.heap.size)
    (h : ∀ A' c' w', OwnRows F e w' lo A' m c' l2 → (∀ B, B ≤ lo → B ≤ w.heap.size → Below B w w') → wpList Tryz.prog ops Q rest (a.put o.dst (.slice A' m c')) w') : wpList Tryz.prog ops Q (o :: rest) a w :=
  wpList_append_src hE hone hgd s x ho hs hrow (by simp) hx hsrc hlo (fun v' w' h2 h3 => by
    obtain ⟨A', c', hv, ho'⟩ := h2.form
    rw [List.nil_append] at hv ho'
    rw [hv, ← hsrc.1]
    exact h A' c' w' (by rw [hsrc.1]; exact ho') h3)
theorem step_append_copy (hE : ElemOk F t e) (hone : ∀ a, ∀ u ∈ F.enc a, u.oneCell' = true) {ops : Array Oper} {o : Oper} {a : Act} {K : Act → World → Prop} {Q : Exit → Act → World → Prop} {E : Prop} (hgd : o.guard = none) (s x : Operand)
    (ho : o.op = .call { callee := .builtin .append, args := #[s, x], argTypes := #[t, t] }) {w : World} {lo : Nat} {v : Value} (hs : a.eval s = v) (hrow : RowVal F e w lo v [])
    {A : Option Addr} {m c : Nat} {l2 : List α} (hx : a.eval x = .slice A m c) (hsrc : RowsIn F w A m l2) (hlo : lo ≤ w.heap.size)
    (h : ∀ v' w', RowVal F e w' lo v' l2 → (∀ B, B ≤ lo → B ≤ w.heap.size → Below B w w') → K (a.put o.dst v') w') :
    if Region.wanted o (yielded ops a.tmps) = true then Oper.wp Tryz.prog o a w K Q else E :=
  step_append_src hE hone hgd s x ho hs hrow (by simp) hx hsrc hlo (fun v' w' h2 h3 => h v' w' (by rw [List.nil_append] at h2; exact h2) h3)
end
section
variable {α : Type} {F : Flat α} {t e : TypeId}
/-- The same at a step of a drawn region, with all that is known of the world behind. -/
theorem step_append_rows (hE : ElemOk F t e) (hone : ∀ a, ∀ u ∈ F.enc a, u.oneCell' = true) {ops : Array Oper} {o : Oper} {a : Act} {K : Act → World → Prop} {Q : Exit → Act → World → Prop} {E : Prop} (hgd : o.guard = none) (s x : Operand)
    (ho : o.op = .call { callee := .builtin .append, args := #[s, x], argTypes := #[t, t] }) (w : World) {lo : Nat} {v : Value} {l : List α} (hs : a.eval s = v) (hrow : RowVal F e w lo v l) (hl : l.length ≤ 16777216)
    {A : Option Addr} {m c : Nat} {l2 : List α} (hx : a.eval x = .slice A m c) (hsrc : RowsIn F w A m l2) (hlo : lo ≤ w.heap.size)
    (h : ∀ v' w', RowVal F e w' lo v' (l ++ l2) → w.grownBy w' v.ownBlock → K (a.put o.dst v') w') :
    if Region.wanted o (yielded ops a.tmps) = true then Oper.wp Tryz.prog o a w K Q else E := by
  have hw : Region.wanted o (yielded ops a.tmps) = true := by simp [Region.wanted, hgd]
  rw [if_pos hw]
  obtain ⟨v', w', hr, h2, h3⟩ := run_append_src hE o.type hrow hl (c := c) hsrc hone hlo
  exact wp_of_append s x ho hs hx hr (h v' w' h2 h3)
theorem RowsIn.far {w w' : World} {g n : Nat} {l : List α} {row : Option Nat} (h : RowsIn F w (some ⟨g, 0, none⟩) n l) (hg : w.grownBy w' row) (hne : some g ≠ row) : RowsIn F w' (some ⟨g, 0, none⟩) n l := by
  refine ⟨h.1, h.2.1, h.2.2.1, fun hpos => ?_⟩
  obtain ⟨b, o, he, hlt, hc⟩ := h.2.2.2 hpos
  have hx := Option.some.inj he
  injection hx with h1 h2
  subst h1 h2
  refine ⟨g, 0, rfl, Nat.lt_of_lt_of_le hlt hg.size, fun j u hu => ?_⟩
  rw [World.cell?_of_block (hg.block g hlt hne)]
  exact hc j u hu
theorem RowVal.drew {w : World} {lo : Nat} {v : Value} {l : List α} (h : RowVal F e w lo v l) : RowVal F e w.drew lo v l := h
theorem RowsIn.drew {w : World} {A : Option Addr} {n : Nat} {l : List α} (h : RowsIn F w A n l) : RowsIn F w.drew A n l := h
theorem RowsIn.nil_ (w : World) (A : Option Addr) : RowsIn F w A 0 [] := ⟨rfl, Sl.nil _ _ _⟩
end
end Go.Proofs.YtlnkofnfgemfdaaGreat
/- More on rows of the call's own: endings that hand them back, rows of numbers that grow. -/
namespace Go.Proofs.YtlnkofnfgemfdaaGreat
open Go.RowKit
/-- The ending of a call that hands back a row of flat structs. -/
def OneRowOf {α : Type} (F : Flat α) (t : TypeId) (w : World) (val : List α) (e : Ending) (w' : World) : Prop :=
  ∃ A c, e = .returned (.slice A val.length c) ∧ OwnRows F t w' w.heap.size A val.length c val ∧ Below w.heap.size w w'
theorem oneRowOf_mk {α : Type} {F : Flat α} {t : TypeId} {w w' : World} {val : List α} {v : Value} (h : RowVal F t w' w.heap.size v val) (hb : Below w.heap.size w w') : OneRowOf F t w val (.returned v) w' := by
  obtain ⟨A, c, rfl, ho⟩ := h.form
  exact ⟨A, c, rfl, ho, hb⟩
/-- The ending of a call that hands back such a row and a Bool. -/
def PairRowsOf {α : Type} (F : Flat α) (t : TypeId) (w : World) (val : List α × Bool) (e : Ending) (w' : World) : Prop :=
  ∃ A c, e = .returned (.tuple #[.slice A val.1.length c, .bool val.2]) ∧ OwnRows F t w' w.heap.size A val.1.length c val.1 ∧ Below w.heap.size w w'
theorem pairRowsOf_mk {α : Type} {F : Flat α} {t : TypeId} {w w' : World} {val : List α × Bool} {v : Value} {l : List α} {b : Bool} (hv : val = (l, b)) (h : RowVal F t w' w.heap.size v l) (hb : Below w.heap.size w w') : PairRowsOf F t w val (.returned (.tuple #[v, .bool b])) w' := by
  obtain ⟨A, c, rfl, ho⟩ := h.form
  subst hv
  exact ⟨A, c, rfl, ho, hb⟩
theorem rowOf_some {α : Type} {F : Flat α} {t : TypeId} {w : World} {lo n c : Nat} {A : Option Addr} {l : List α} (h : OwnRows F t w lo A n c l) (hn : 0 < n) : ∃ g, A = some ⟨g, 0, none⟩ := by
  rcases h.2.2 with ⟨hv, h0⟩ | ⟨g, cap, cur, hv, _⟩
  · omega
  · exact ⟨g, by injection hv⟩
theorem own_keepB {w w' : World} {lo B g : Nat} {e : TypeId} {sz n m c : Nat} {xs : List Value} (h : w.ownsRow lo e sz (.slice (some ⟨g, 0, none⟩) m c) n xs) (hb : Below B w w') (hg : g < B) : w'.ownsRow lo e sz (.slice (some ⟨g, 0, none⟩) m c) n xs := by
  refine ⟨h.1, ?_⟩
  rcases h.2 with h0 | ⟨g2, cap, cur, hv, hlo, hg2, hr⟩
  · exact .inl h0
  · refine .inr ⟨g2, cap, cur, hv, hlo, ?_, hr⟩
    have hA : g = g2 := by injection hv with h1; injection h1 with h1; injection h1
    rw [hb.block g2 (by omega)]; exact hg2
theorem NumRow.keepB {w w' : World} {lo B g n c : Nat} {l : List Int} (h : NumRow w lo g n c l) (hb : Below B w w') (hg : g < B) : NumRow w' lo g n c l := ⟨h.1, own_keepB h.2 hb hg⟩
theorem RowVal.far {α : Type} {F : Flat α} {t : TypeId} {w : World} {lo : Nat} {v : Value} {l : List α} (h : RowVal F t w lo v l) {p : Addr} (hp : p.block < lo) (x : Value) : RowVal F t (w.setCell p x) lo v l := by
  refine World.ownsRow.kept h (row := some p.block) ⟨rfl, rfl, rfl, by simp, fun k _ hk => heap_setCell_other w p k x (fun e => hk (by simp [e]))⟩ (.inr ?_)
  intro he
  have := own_block h _ he
  omega
/-- Numbers as flat structs of one cell. -/
def intF : Flat Int := ⟨fun x => [.int .i64 x], 1, fun _ => rfl⟩
theorem intF_flat (l : List Int) : l.flatMap intF.enc = ints l := by
  induction l with
  | nil => rfl
  | cons a l ih => rw [List.flatMap_cons, ih]; rfl
theorem intOne : ∀ (a : Int), ∀ u ∈ intF.enc a, u.oneCell' = true := by
  intro a u hu
  simp [intF] at hu
  subst hu; rfl
theorem intElem : ElemOk intF 24 3 := by
  obtain ⟨i, h1, h2, h3, h4⟩ := info_parts intInfo
  exact ⟨i, _, 8, Tryz.underlying24, h1, h2, h3, h4, rfl, by decide, by omega⟩
theorem NumRow.of_own {w : World} {lo g n c : Nat} {l : List Int} (h : OwnRows intF 3 w lo (some ⟨g, 0, none⟩) n c l) : NumRow w lo g n c l := ⟨h.1, by have := h.2; rw [intF_flat] at this; exact this⟩
theorem NumRow.own {w : World} {lo g n c : Nat} {l : List Int} (h : NumRow w lo g n c l) : RowVal intF 3 w lo (.slice (some ⟨g, 0, none⟩) n c) l := by
  obtain ⟨rfl, h⟩ := h
  unfold RowVal
  rw [intF_flat]; exact h
theorem NumRow.lower {w : World} {lo lo' g n c : Nat} {l : List Int} (h : NumRow w lo g n c l) (hl : lo' ≤ lo) : NumRow w lo' g n c l := ⟨h.1, own_lower h.2 hl⟩
theorem numRow_empty {w : World} {lo H : Nat} (hH : w.heap.size = H) (h : lo ≤ w.heap.size) : NumRow (w.alloc (.cells #[] 3)) lo H 0 0 [] := by
  subst hH
  exact ⟨rfl, empty_own w lo 3 1 h⟩
/-- out = append(out, x) on a row of numbers. -/
theorem wpList_append_num {w1 : World} {ops : Array Oper} {rest : List Oper} {o : Oper} {a : Act} {Q : Exit → Act → World → Prop} (hgd : o.guard = none) (s x : Operand)
    (ho : o.op = .call { callee := .builtin .append, args := #[s, x], argTypes := #[24, 24] }) {lo g n c : Nat} {l : List Int} (hs : a.eval s = .slice (some ⟨g, 0, none⟩) n c) (hrow : NumRow w1 lo g n c l) (hlen : l.length ≤ 16777216)
    (y : Int) (H cx : Nat) (hH : w1.heap.size = H) (hx : a.eval x = .slice (some ⟨H, 0, none⟩) 1 cx) (hlo : lo ≤ w1.heap.size)
    (h : ∀ g' c' w', NumRow w' lo g' (n + 1) c' (l ++ [y]) → (∀ B, B ≤ lo → B ≤ w1.heap.size → Below B w1 w') → w1.heap.size < w'.heap.size → wpList Tryz.prog ops Q rest (a.put o.dst (.slice (some ⟨g', 0, none⟩) (n + 1) c')) w') :
    wpList Tryz.prog ops Q (o :: rest) a (w1.alloc (.cells #[.int .i64 y] 3)) := by
  refine wpList_append_one intElem hgd s x ho hs hrow.own hlen y #[.int .i64 y] rfl (by simp [Value.oneCell']) H cx hH hx hlo (fun v' w' h1 h2 h3 => ?_)
  obtain ⟨A, c', hv, ho'⟩ := h1.form
  obtain ⟨g', rfl⟩ := rowOf_some ho' (by simp)
  have e : (l ++ [y]).length = n + 1 := by rw [List.length_append, hrow.1]; rfl
  rw [e] at ho' hv
  subst hv
  exact h g' c' w' (NumRow.of_own ho') h2 h3
section
variable {α : Type} {F : Flat α} {t e : TypeId}
/-- out = append(out, x), with what became of all other blocks, and where the row lies now. -/
theorem wpList_append_at (hE : ElemOk F t e) {w1 : World} {ops : Array Oper} {rest : List Oper} {o : Oper} {a : Act} {Q : Exit → Act → World → Prop} (hgd : o.guard = none) (s x : Operand)
    (ho : o.op = .call { callee := .builtin .append, args := #[s, x], argTypes := #[t, t] }) {lo : Nat} {v : Value} {l : List α} (hs : a.eval s = v) (hrow : RowVal F e w1 lo v l) (hlen : l.length ≤ 16777216)
    (y : α) (cs : Array Value) (hcs : cs.toList = F.enc y) (hone : ∀ u ∈ cs.toList, u.oneCell' = true) (H c : Nat) (hH : w1.heap.size = H) (hx : a.eval x = .slice (some ⟨H, 0, none⟩) 1 c) (hlo : lo ≤ w1.heap.size)
    (h : ∀ v' w', RowVal F e w' lo v' (l ++ [y]) → (∀ B, B ≤ lo → B ≤ w1.heap.size → Below B w1 w') → w1.heap.size < w'.heap.size → (∀ p : Addr, p.block < w1.heap.size → v.ownBlock ≠ some p.block → w'.cell? p = w1.cell? p) → (∀ g, g < w1.heap.size → v.ownBlock ≠ some g → v'.ownBlock ≠ some g) → wpList Tryz.prog ops Q rest (a.put o.dst v') w') :
    wpList Tryz.prog ops Q (o :: rest) a (w1.alloc (.cells cs e)) := by
  obtain ⟨i, z, bytes, ht, hi, hz, hsz, hby, hzs, hpos, hbb⟩ := hE
  have hb2 : (l.length + 1) * bytes ≤ 140737488355328 := Nat.le_trans (Nat.mul_le_mul (show l.length + 1 ≤ 16777217 by omega) hbb) (by omega)
  refine wpList_append_own_at _ hgd s x t ho lo e i z F.sz bytes ht hi hz hsz hby hzs hpos v l.length (l.flatMap F.enc) hs (hrow.alloc _) ⟨H, 0, none⟩ 1 c cs.toList hx (by rw [hcs, F.len, Nat.one_mul]) (news_at hH cs e) hone (by unfold maxLen; omega) hb2 (by simp; omega) (fun v' w' h2 h3 _ h5 => h v' w' (RowVal.snoc hcs h2) (fun B hB hB2 => ?_) ?_ (fun p hp hne => ?_) (fun g hg hne => ?_))
  · refine ((Below.refl B w1).alloc hB2 _).trans (below_grown h3 (by simp; omega) (fun g hg => Nat.le_trans hB (own_block hrow g hg)))
  · have := h3.size; simp at this; omega
  · rw [World.cell?_of_block (h3.block p.block (by simp; omega) (Ne.symm hne)), World.cell?_alloc_lt w1 _ p hp]
  · rcases h5 with h5 | h5
    · rw [h5]; exact hne
    · rw [h5]; simp; omega
end
end Go.Proofs.YtlnkofnfgemfdaaGreat
/- Levels of a catalog's items (plain): the edges of bill lines; what the passes come to. -/
namespace Go.Proofs.YtlnkofnfgemfdaaGreat
open Go.RowKit
def edges (it : List It) (ls : List Bl) : List (Nat × Nat) := ls.map fun x => ((findIt it x.1).toNat, (findIt it x.2.1).toNat)
def natI (m : List Nat) : List Int := m.map (fun x : Nat => (x : Int))
theorem natI_len (m : List Nat) : (natI m).length = m.length := by simp [natI]
theorem natI_getD (m : List Nat) (i : Nat) : (natI m).getD i 0 = (m.getD i 0 : Int) := by
  unfold natI
  rw [List.getD_eq_getElem?_getD, List.getD_eq_getElem?_getD, List.getElem?_map]
  cases m[i]? <;> rfl
theorem natI_set (m : List Nat) (i x : Nat) : (natI m).set i (x : Int) = natI (m.set i x) := by
  unfold natI; rw [List.map_set]
theorem natI_zero (n : Nat) : natI (List.replicate n 0) = List.replicate n 0 := by unfold natI; rw [List.map_replicate]; rfl
theorem edges_len (it : List It) (ls : List Bl) : (edges it ls).length = ls.length := by simp [edges]
theorem edges_at (it : List It) (ls : List Bl) {k : Nat} (hk : k < ls.length) {p q : Nat} (hp : findIt it ls[k].1 = (p : Int)) (hq : findIt it ls[k].2.1 = (q : Int)) : (edges it ls).getD k (0, 0) = (p, q) := by
  rw [List.getD_eq_getElem?_getD, List.getElem?_eq_getElem (by rw [edges_len]; exact hk)]
  simp only [edges, List.getElem_map, Option.getD_some]
  rw [hp, hq]; rfl
theorem edges_lt {it : List It} {ls : List Bl} (h : ∀ k (hk : k < ls.length), 0 ≤ findIt it ls[k].1 ∧ 0 ≤ findIt it ls[k].2.1) : ∀ k, k < (edges it ls).length → ((edges it ls).getD k (0, 0)).1 < it.length ∧ ((edges it ls).getD k (0, 0)).2 < it.length := by
  intro k hk
  rw [edges_len] at hk
  obtain ⟨h1, h2⟩ := h k hk
  rw [List.getD_eq_getElem?_getD, List.getElem?_eq_getElem (by rw [edges_len]; exact hk)]
  simp only [edges, List.getElem_map, Option.getD_some]
  exact ⟨findIt_lt h1, findIt_lt h2⟩
section
variable {E : List (Nat × Nat)} {n : Nat}
theorem passTo_bd (s : List Nat) (B : Nat) (h : ∀ i, s.getD i 0 ≤ B) (k : Nat) : ∀ i, (passTo E s k).1.getD i 0 ≤ B + k := by
  induction k with
  | zero => exact h
  | succ k ih =>
    intro i
    have h1 := ih i
    have h2 := ih (E.getD k (0, 0)).1
    simp only [passTo]
    split
    · by_cases hd : (E.getD k (0, 0)).2 < (passTo E s k).1.length
      · rw [natD_set _ _ _ _ hd]
        split <;> omega
      · show ((passTo E s k).1.set _ _).getD i 0 ≤ _
        rw [List.set_eq_of_length_le (by omega)]; omega
    · omega
theorem runTo_bd (r : Nat) : ∀ i, (runTo E n r).getD i 0 ≤ r * E.length := by
  induction r with
  | zero =>
    intro i
    simp only [runTo]
    rw [List.getD_eq_getElem?_getD, List.getElem?_replicate]
    split <;> simp
  | succ r ih =>
    intro i
    have := passTo_bd (E := E) (runTo E n r) _ ih E.length i
    simp only [runTo]
    rw [Nat.succ_mul]; exact this
theorem passTo_yes {s : List Nat} {k p q : Nat} (he : E.getD k (0, 0) = (p, q)) (h : (passTo E s k).1.getD q 0 ≤ (passTo E s k).1.getD p 0) : passTo E s (k + 1) = ((passTo E s k).1.set q ((passTo E s k).1.getD p 0 + 1), true) := by
  simp only [passTo, he]; rw [if_pos h]
theorem passTo_no {s : List Nat} {k p q : Nat} (he : E.getD k (0, 0) = (p, q)) (h : ¬ (passTo E s k).1.getD q 0 ≤ (passTo E s k).1.getD p 0) : passTo E s (k + 1) = passTo E s k := by
  simp only [passTo, he]; rw [if_neg h]
theorem turned_stays {r : Nat} (h : turned E n r = false) (d : Nat) : runTo E n (r + d) = runTo E n r ∧ turned E n (r + d) = false := by
  induction d with
  | zero => exact ⟨rfl, h⟩
  | succ d ih =>
    obtain ⟨h1, h2⟩ := ih
    have h3 : runTo E n (r + (d + 1)) = runTo E n (r + d) := (pass_rest (E := E) (runTo E n (r + d)) E.length (Nat.le_refl _) h2).1
    refine ⟨h3.trans h1, ?_⟩
    unfold turned
    rw [h3]; exact h2
/-- The levels; none if some way never ends. -/
def levI (E : List (Nat × Nat)) (n : Nat) : List Int := if turned E n n = true then [] else natI (runTo E n n)
theorem levI_none (h : turned E n n = true) : levI E n = [] := by unfold levI; rw [if_pos h]
theorem levI_some (h : turned E n n = false) : levI E n = natI (runTo E n n) := by unfold levI; rw [if_neg (by rw [h]; decide)]
theorem levI_stop (hE : ∀ k, k < E.length → (E.getD k (0, 0)).1 < n ∧ (E.getD k (0, 0)).2 < n) {r : Nat} (hr : r ≤ n + 1) (h : turned E n r = false) : turned E n n = false ∧ levI E n = natI (runTo E n (r + 1)) := by
  have hn : turned E n n = false ∧ runTo E n (r + 1) = runTo E n n := by
    by_cases h1 : r ≤ n
    · have h2 := turned_stays h (n - r)
      rw [show r + (n - r) = n by omega] at h2
      exact ⟨h2.2, (turned_stays h 1).1.trans h2.1.symm⟩
    · obtain rfl : r = n + 1 := by omega
      have h2 := turned_one hE h
      exact ⟨h2, (turned_stays h2 2).1⟩
  exact ⟨hn.1, by rw [levI_some hn.1, hn.2]⟩
theorem turned_pos (hE : ∀ k, k < E.length → (E.getD k (0, 0)).1 < n ∧ (E.getD k (0, 0)).2 < n) {r : Nat} (h : turned E n r = true) : 0 < n := by
  rcases Nat.eq_zero_or_pos E.length with h1 | h1
  · exfalso
    unfold turned at h
    rw [h1] at h
    simp [passTo] at h
  · have := hE 0 h1; omega
theorem levI_len : (levI E n).length = if turned E n n = true then 0 else n := by
  unfold levI
  split
  · rfl
  · rw [natI_len, runTo_len]
end
theorem NumRow.cellN {w : World} {lo g n c : Nat} {l : List Int} (h : NumRow w lo g n c l) {j : Nat} (hj : j < n) : w.cell? ⟨g, j, none⟩ = some (.int .i64 (l.getD j 0)) := by
  rw [h.cell (by rw [h.len]; exact hj), List.getD_eq_getElem?_getD, List.getElem?_eq_getElem (by rw [h.len]; exact hj)]; rfl
theorem NumRow.ownI {w : World} {lo g n c : Nat} {l : List Int} (h : NumRow w lo g n c l) : OwnInts w lo (some ⟨g, 0, none⟩) n c l := h
theorem ownI_nil (w : World) (lo : Nat) : OwnInts w lo none 0 0 [] := ⟨rfl, World.ownsRow_nil _ _ _ _⟩
theorem natD_at (m : List Nat) (i : Nat) : (natI m).getD i 0 = ((m.getD i 0 : Nat) : Int) := natI_getD m i
end Go.Proofs.YtlnkofnfgemfdaaGreat
/- The order of levels (plain). -/
namespace Go.Proofs.YtlnkofnfgemfdaaGreat
/-- The positions below i that lie at level v. -/
def lvAt (lev : List Nat) (v i : Nat) : List Nat := (List.range i).filter fun j => lev.getD j 0 == v
/-- All positions by level, those at levels below v. -/
def ordOf (lev : List Nat) (v : Nat) : List Nat := (List.range v).flatMap fun u => lvAt lev u lev.length
theorem lvAt_yes (lev : List Nat) (v i : Nat) (h : lev.getD i 0 = v) : lvAt lev v (i + 1) = lvAt lev v i ++ [i] := by
  unfold lvAt
  rw [List.range_succ, List.filter_append, List.filter_cons_of_pos (by simpa using h)]; rfl
theorem lvAt_no (lev : List Nat) (v i : Nat) (h : ¬ lev.getD i 0 = v) : lvAt lev v (i + 1) = lvAt lev v i := by
  unfold lvAt
  rw [List.range_succ, List.filter_append, List.filter_cons_of_neg (by simpa using h)]; simp
theorem ordOf_succ (lev : List Nat) (v : Nat) : ordOf lev (v + 1) = ordOf lev v ++ lvAt lev v lev.length := by
  unfold ordOf
  rw [List.range_succ, List.flatMap_append]; simp
theorem lvAt_mem {lev : List Nat} {v i a : Nat} : a ∈ lvAt lev v i ↔ a < i ∧ lev.getD a 0 = v := by
  unfold lvAt; simp [List.mem_filter]
theorem ordOf_mem {lev : List Nat} {v a : Nat} : a ∈ ordOf lev v ↔ a < lev.length ∧ lev.getD a 0 < v := by
  unfold ordOf
  rw [List.mem_flatMap]
  constructor
  · rintro ⟨u, hu, ha⟩
    rw [lvAt_mem] at ha
    rw [List.mem_range] at hu
    omega
  · rintro ⟨h1, h2⟩
    exact ⟨lev.getD a 0, List.mem_range.2 h2, lvAt_mem.2 ⟨h1, rfl⟩⟩
theorem lvAt_len (lev : List Nat) (v i : Nat) : (lvAt lev v i).length ≤ i := by
  unfold lvAt
  exact Nat.le_trans (List.length_filter_le _ _) (by simp)
theorem ordOf_len (lev : List Nat) (v : Nat) : (ordOf lev v).length ≤ v * lev.length := by
  induction v with
  | zero => simp [ordOf]
  | succ v ih =>
    rw [ordOf_succ, List.length_append, Nat.succ_mul]
    have := lvAt_len lev v lev.length
    omega
theorem ordOf_pw (lev : List Nat) (v : Nat) : (ordOf lev v).Pairwise fun a b => a ≠ b ∧ lev.getD a 0 ≤ lev.getD b 0 := by
  induction v with
  | zero => simp [ordOf]
  | succ v ih =>
    rw [ordOf_succ, List.pairwise_append]
    refine ⟨ih, ?_, fun a ha b hb => ?_⟩
    · unfold lvAt
      rw [List.pairwise_filter]
      refine List.pairwise_lt_range.imp ?_
      intro a b hab ha hb
      simp only [beq_iff_eq] at ha hb
      omega
    · rw [ordOf_mem] at ha
      rw [lvAt_mem] at hb
      refine ⟨fun e => ?_, by omega⟩
      subst e; omega
end Go.Proofs.YtlnkofnfgemfdaaGreat
