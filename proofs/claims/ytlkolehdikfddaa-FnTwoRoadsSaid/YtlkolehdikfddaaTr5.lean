/- Part 5 of the texts of this claim: More on rows of the call's own: endings that hand them back, rows of numbers that grow; Levels of a catalog's items (plain): the edges of bill lines; what the passes come to; The order of levels (plain); The walks of l9Levels and levels. -/
import Derived.Test.YtlkolehdikfddaaTr4
import Derived.Maps.AppendAt
import Derived.Deep.DeepMust
import Derived.Test.YtlkolehdikfddaaTr1
import Derived.Test.YtlkolehdikfddaaTr3
/- More on rows of the call's own: endings that hand them back, rows of numbers that grow. -/
namespace Go.Proofs.Ytlkolehdikfddaa
open Go.RowKit
/-- The ending of a call that hands back a row of flat structs. -/
def OneRowOf {α : Type} (F : Flat α) (t : TypeId) (w : World) (val : List α) (e : Ending) (w' : World) : Prop :=
  ∃ A c, e = .returned (.slice A val.length c) ∧ OwnRows F t w' w.heap.size A val.length c val ∧ Below w.heap.size w w'
/-- The ending of a call that hands back such a row and a Bool. -/
def PairRowsOf {α : Type} (F : Flat α) (t : TypeId) (w : World) (val : List α × Bool) (e : Ending) (w' : World) : Prop :=
  ∃ A c, e = .returned (.tuple #[.slice A val.1.length c, .bool val.2]) ∧ OwnRows F t w' w.heap.size A val.1.length c val.1 ∧ Below w.heap.size w w'
theorem pairRowsOf_mk {α : Type} {F : Flat α} {t : TypeId} {w w' : World} {val : List α × Bool} {v : Value} {l : List α} {b : Bool} (hv : val = (l, b)) (h : RowVal F t w' w.heap.size v l) (hb : Below w.heap.size w w') : PairRowsOf F t w val (.returned (.tuple #[v, .bool b])) w' := by
  obtain ⟨A, c, rfl, ho⟩ := h.form
  subst hv
  exact ⟨A, c, rfl, ho, hb⟩
theorem rowOf_some {α : Type} {F : Flat α} {t : TypeId} {w : World} {lo n c : Nat} {A : Option Addr} {l : List α} (h : OwnRows F t w lo A n c l) (hn : 0 < n) : ∃ g, A = some ⟨g, 0, none⟩ := by
  rcases h.2.2 with ⟨hv, h0⟩ | ⟨g, cap, cur, hv, _⟩
  · omega
  · exact ⟨g, by injection hv⟩
theorem own_keepB {w w' : World} {lo B g : Nat} {e : TypeId} {sz n m c : Nat} {xs : List Value} (h : w.ownsRow lo e sz (.slice (some ⟨g, 0, none⟩) m c) n xs) (hb : Below B w w') (hg : g < B) : w'.ownsRow lo e sz (.slice (some ⟨g, 0, none⟩) m c) n xs := by
  refine ⟨h.1, ?_⟩
  rcases h.2 with h0 | ⟨g2, cap, cur, hv, hlo, hg2, hr⟩
  · exact .inl h0
  · refine .inr ⟨g2, cap, cur, hv, hlo, ?_, hr⟩
    have hA : g = g2 := by injection hv with h1; injection h1 with h1; injection h1
    rw [hb.block g2 (by omega)]; exact hg2
theorem NumRow.keepB {w w' : World} {lo B g n c : Nat} {l : List Int} (h : NumRow w lo g n c l) (hb : Below B w w') (hg : g < B) : NumRow w' lo g n c l := ⟨h.1, own_keepB h.2 hb hg⟩
theorem RowVal.far {α : Type} {F : Flat α} {t : TypeId} {w : World} {lo : Nat} {v : Value} {l : List α} (h : RowVal F t w lo v l) {p : Addr} (hp : p.block < lo) (x : Value) : RowVal F t (w.setCell p x) lo v l := by
  refine World.ownsRow.kept h (row := some p.block) ⟨rfl, rfl, rfl, by simp, fun k _ hk => heap_setCell_other w p k x (fun e => hk (by simp [e]))⟩ (.inr ?_)
  intro he
  have := own_block h _ he
  omega
/-- Numbers as flat structs of one cell. -/
def intF : Flat Int := ⟨fun x => [.int .i64 x], 1, fun _ => rfl⟩
theorem intF_flat (l : List Int) : l.flatMap intF.enc = ints l := by
  induction l with
  | nil => rfl
  | cons a l ih => rw [List.flatMap_cons, ih]; rfl
theorem intOne : ∀ (a : Int), ∀ u ∈ intF.enc a, u.oneCell' = true := by
  intro a u hu
  simp [intF] at hu
  subst hu; rfl
theorem intElem : ElemOk intF 26 3 := by
  obtain ⟨i, h1, h2, h3, h4⟩ := info_parts intInfo
  exact ⟨i, _, 8, Try.underlying26, h1, h2, h3, h4, rfl, by decide, by omega⟩
theorem NumRow.of_own {w : World} {lo g n c : Nat} {l : List Int} (h : OwnRows intF 3 w lo (some ⟨g, 0, none⟩) n c l) : NumRow w lo g n c l := ⟨h.1, by have := h.2; rw [intF_flat] at this; exact this⟩
theorem NumRow.own {w : World} {lo g n c : Nat} {l : List Int} (h : NumRow w lo g n c l) : RowVal intF 3 w lo (.slice (some ⟨g, 0, none⟩) n c) l := by
  obtain ⟨rfl, h⟩ := h
  unfold RowVal
  rw [intF_flat]; exact h
theorem NumRow.lower {w : World} {lo lo' g n c : Nat} {l : List Int} (h : NumRow w lo g n c l) (hl : lo' ≤ lo) : NumRow w lo' g n c l := ⟨h.1, own_lower h.2 hl⟩
theorem numRow_empty {w : World} {lo H : Nat} (hH : w.heap.size = H) (h : lo ≤ w.heap.size) : NumRow (w.alloc (.cells #[] 3)) lo H 0 0 [] := by
  subst hH
  exact ⟨rfl, empty_own w lo 3 1 h⟩
/-- out = append(out, x) on a row of numbers. -/
theorem wpList_append_num {w1 : World} {ops : Array Oper} {rest : List Oper} {o : Oper} {a : Act} {Q : Exit → Act → World → Prop} (hgd : o.guard = none) (s x : Operand)
    (ho : o.op = .call { callee := .builtin .append, args := #[s, x], argTypes := #[26, 26] }) {lo g n c : Nat} {l : List Int} (hs : a.eval s = .slice (some ⟨g, 0, none⟩) n c) (hrow : NumRow w1 lo g n c l) (hlen : l.length ≤ 16777216)
    (y : Int) (H cx : Nat) (hH : w1.heap.size = H) (hx : a.eval x = .slice (some ⟨H, 0, none⟩) 1 cx) (hlo : lo ≤ w1.heap.size)
    (h : ∀ g' c' w', NumRow w' lo g' (n + 1) c' (l ++ [y]) → (∀ B, B ≤ lo → B ≤ w1.heap.size → Below B w1 w') → w1.heap.size < w'.heap.size → wpList Try.prog ops Q rest (a.put o.dst (.slice (some ⟨g', 0, none⟩) (n + 1) c')) w') :
    wpList Try.prog ops Q (o :: rest) a (w1.alloc (.cells #[.int .i64 y] 3)) := by
  refine wpList_append_one intElem hgd s x ho hs hrow.own hlen y #[.int .i64 y] rfl (by simp [Value.oneCell']) H cx hH hx hlo (fun v' w' h1 h2 h3 => ?_)
  obtain ⟨A, c', hv, ho'⟩ := h1.form
  obtain ⟨g', rfl⟩ := rowOf_some ho' (by simp)
  have e : (l ++ [y]).length = n + 1 := by rw [List.length_append, hrow.1]; rfl
  rw [e] at ho' hv
  subst hv
  exact h g' c' w' (NumRow.of_own ho') h2 h3
section
variable {α : Type} {F : Flat α} {t e : TypeId}
end
end Go.Proofs.Ytlkolehdikfddaa
/- Levels of a catalog's items (plain): the edges of bill lines; what the passes come to. -/
namespace Go.Proofs.Ytlkolehdikfddaa
open Go.RowKit
def edges (it : List It) (ls : List Bl) : List (Nat × Nat) := ls.map fun x => ((findIt it x.1).toNat, (findIt it x.2.1).toNat)
def natI (m : List Nat) : List Int := m.map (fun x : Nat => (x : Int))
theorem natI_len (m : List Nat) : (natI m).length = m.length := by simp [natI]
theorem natI_getD (m : List Nat) (i : Nat) : (natI m).getD i 0 = (m.getD i 0 : Int) := by
  unfold natI
  rw [List.getD_eq_getElem?_getD, List.getD_eq_getElem?_getD, List.getElem?_map]
  cases m[i]? <;> rfl
theorem natI_set (m : List Nat) (i x : Nat) : (natI m).set i (x : Int) = natI (m.set i x) := by
  unfold natI; rw [List.map_set]
theorem natI_zero (n : Nat) : natI (List.replicate n 0) = List.replicate n 0 := by unfold natI; rw [List.map_replicate]; rfl
theorem edges_len (it : List It) (ls : List Bl) : (edges it ls).length = ls.length := by simp [edges]
theorem edges_at (it : List It) (ls : List Bl) {k : Nat} (hk : k < ls.length) {p q : Nat} (hp : findIt it ls[k].1 = (p : Int)) (hq : findIt it ls[k].2.1 = (q : Int)) : (edges it ls).getD k (0, 0) = (p, q) := by
  rw [List.getD_eq_getElem?_getD, List.getElem?_eq_getElem (by rw [edges_len]; exact hk)]
  simp only [edges, List.getElem_map, Option.getD_some]
  rw [hp, hq]; rfl
theorem edges_lt {it : List It} {ls : List Bl} (h : ∀ k (hk : k < ls.length), 0 ≤ findIt it ls[k].1 ∧ 0 ≤ findIt it ls[k].2.1) : ∀ k, k < (edges it ls).length → ((edges it ls).getD k (0, 0)).1 < it.length ∧ ((edges it ls).getD k (0, 0)).2 < it.length := by
  intro k hk
  rw [edges_len] at hk
  obtain ⟨h1, h2⟩ := h k hk
  rw [List.getD_eq_getElem?_getD, List.getElem?_eq_getElem (by rw [edges_len]; exact hk)]
  simp only [edges, List.getElem_map, Option.getD_some]
  exact ⟨findIt_lt h1, findIt_lt h2⟩
section
variable {E : List (Nat × Nat)} {n : Nat}
theorem passTo_bd (s : List Nat) (B : Nat) (h : ∀ i, s.getD i 0 ≤ B) (k : Nat) : ∀ i, (passTo E s k).1.getD i 0 ≤ B + k := by
  induction k with
  | zero => exact h
  | succ k ih =>
    intro i
    have h1 := ih i
    have h2 := ih (E.getD k (0, 0)).1
    simp only [passTo]
    split
    · by_cases hd : (E.getD k (0, 0)).2 < (passTo E s k).1.length
      · rw [natD_set _ _ _ _ hd]
        split <;> omega
      · show ((passTo E s k).1.set _ _).getD i 0 ≤ _
        rw [List.set_eq_of_length_le (by omega)]; omega
    · omega
theorem runTo_bd (r : Nat) : ∀ i, (runTo E n r).getD i 0 ≤ r * E.length := by
  induction r with
  | zero =>
    intro i
    simp only [runTo]
    rw [List.getD_eq_getElem?_getD, List.getElem?_replicate]
    split <;> simp
  | succ r ih =>
    intro i
    have := passTo_bd (E := E) (runTo E n r) _ ih E.length i
    simp only [runTo]
    rw [Nat.succ_mul]; exact this
theorem passTo_yes {s : List Nat} {k p q : Nat} (he : E.getD k (0, 0) = (p, q)) (h : (passTo E s k).1.getD q 0 ≤ (passTo E s k).1.getD p 0) : passTo E s (k + 1) = ((passTo E s k).1.set q ((passTo E s k).1.getD p 0 + 1), true) := by
  simp only [passTo, he]; rw [if_pos h]
theorem passTo_no {s : List Nat} {k p q : Nat} (he : E.getD k (0, 0) = (p, q)) (h : ¬ (passTo E s k).1.getD q 0 ≤ (passTo E s k).1.getD p 0) : passTo E s (k + 1) = passTo E s k := by
  simp only [passTo, he]; rw [if_neg h]
theorem turned_stays {r : Nat} (h : turned E n r = false) (d : Nat) : runTo E n (r + d) = runTo E n r ∧ turned E n (r + d) = false := by
  induction d with
  | zero => exact ⟨rfl, h⟩
  | succ d ih =>
    obtain ⟨h1, h2⟩ := ih
    have h3 : runTo E n (r + (d + 1)) = runTo E n (r + d) := (pass_rest (E := E) (runTo E n (r + d)) E.length (Nat.le_refl _) h2).1
    refine ⟨h3.trans h1, ?_⟩
    unfold turned
    rw [h3]; exact h2
/-- The levels; none if some way never ends. -/
def levI (E : List (Nat × Nat)) (n : Nat) : List Int := if turned E n n = true then [] else natI (runTo E n n)
theorem levI_none (h : turned E n n = true) : levI E n = [] := by unfold levI; rw [if_pos h]
theorem levI_some (h : turned E n n = false) : levI E n = natI (runTo E n n) := by unfold levI; rw [if_neg (by rw [h]; decide)]
theorem levI_stop (hE : ∀ k, k < E.length → (E.getD k (0, 0)).1 < n ∧ (E.getD k (0, 0)).2 < n) {r : Nat} (hr : r ≤ n + 1) (h : turned E n r = false) : turned E n n = false ∧ levI E n = natI (runTo E n (r + 1)) := by
  have hn : turned E n n = false ∧ runTo E n (r + 1) = runTo E n n := by
    by_cases h1 : r ≤ n
    · have h2 := turned_stays h (n - r)
      rw [show r + (n - r) = n by omega] at h2
      exact ⟨h2.2, (turned_stays h 1).1.trans h2.1.symm⟩
    · obtain rfl : r = n + 1 := by omega
      have h2 := turned_one hE h
      exact ⟨h2, (turned_stays h2 2).1⟩
  exact ⟨hn.1, by rw [levI_some hn.1, hn.2]⟩
theorem turned_pos (hE : ∀ k, k < E.length → (E.getD k (0, 0)).1 < n ∧ (E.getD k (0, 0)).2 < n) {r : Nat} (h : turned E n r = true) : 0 < n := by
  rcases Nat.eq_zero_or_pos E.length with h1 | h1
  · exfalso
    unfold turned at h
    rw [h1] at h
    simp [passTo] at h
  · have := hE 0 h1; omega
theorem levI_len : (levI E n).length = if turned E n n = true then 0 else n := by
  unfold levI
  split
  · rfl
  · rw [natI_len, runTo_len]
end
theorem NumRow.cellN {w : World} {lo g n c : Nat} {l : List Int} (h : NumRow w lo g n c l) {j : Nat} (hj : j < n) : w.cell? ⟨g, j, none⟩ = some (.int .i64 (l.getD j 0)) := by
  rw [h.cell (by rw [h.len]; exact hj), List.getD_eq_getElem?_getD, List.getElem?_eq_getElem (by rw [h.len]; exact hj)]; rfl
theorem NumRow.ownI {w : World} {lo g n c : Nat} {l : List Int} (h : NumRow w lo g n c l) : OwnInts w lo (some ⟨g, 0, none⟩) n c l := h
theorem ownI_nil (w : World) (lo : Nat) : OwnInts w lo none 0 0 [] := ⟨rfl, World.ownsRow_nil _ _ _ _⟩
theorem natD_at (m : List Nat) (i : Nat) : (natI m).getD i 0 = ((m.getD i 0 : Nat) : Int) := natI_getD m i
end Go.Proofs.Ytlkolehdikfddaa
/- The order of levels (plain). -/
namespace Go.Proofs.Ytlkolehdikfddaa
/-- The positions below i that lie at level v. -/
def lvAt (lev : List Nat) (v i : Nat) : List Nat := (List.range i).filter fun j => lev.getD j 0 == v
/-- All positions by level, those at levels below v. -/
def ordOf (lev : List Nat) (v : Nat) : List Nat := (List.range v).flatMap fun u => lvAt lev u lev.length
theorem lvAt_yes (lev : List Nat) (v i : Nat) (h : lev.getD i 0 = v) : lvAt lev v (i + 1) = lvAt lev v i ++ [i] := by
  unfold lvAt
  rw [List.range_succ, List.filter_append, List.filter_cons_of_pos (by simpa using h)]; rfl
theorem lvAt_no (lev : List Nat) (v i : Nat) (h : ¬ lev.getD i 0 = v) : lvAt lev v (i + 1) = lvAt lev v i := by
  unfold lvAt
  rw [List.range_succ, List.filter_append, List.filter_cons_of_neg (by simpa using h)]; simp
theorem ordOf_succ (lev : List Nat) (v : Nat) : ordOf lev (v + 1) = ordOf lev v ++ lvAt lev v lev.length := by
  unfold ordOf
  rw [List.range_succ, List.flatMap_append]; simp
theorem lvAt_mem {lev : List Nat} {v i a : Nat} : a ∈ lvAt lev v i ↔ a < i ∧ lev.getD a 0 = v := by
  unfold lvAt; simp [List.mem_filter]
theorem ordOf_mem {lev : List Nat} {v a : Nat} : a ∈ ordOf lev v ↔ a < lev.length ∧ lev.getD a 0 < v := by
  unfold ordOf
  rw [List.mem_flatMap]
  constructor
  · rintro ⟨u, hu, ha⟩
    rw [lvAt_mem] at ha
    rw [List.mem_range] at hu
    omega
  · rintro ⟨h1, h2⟩
    exact ⟨lev.getD a 0, List.mem_range.2 h2, lvAt_mem.2 ⟨h1, rfl⟩⟩
theorem lvAt_len (lev : List Nat) (v i : Nat) : (lvAt lev v i).length ≤ i := by
  unfold lvAt
  exact Nat.le_trans (List.length_filter_le _ _) (by simp)
theorem ordOf_len (lev : List Nat) (v : Nat) : (ordOf lev v).length ≤ v * lev.length := by
  induction v with
  | zero => simp [ordOf]
  | succ v ih =>
    rw [ordOf_succ, List.length_append, Nat.succ_mul]
    have := lvAt_len lev v lev.length
    omega
theorem ordOf_pw (lev : List Nat) (v : Nat) : (ordOf lev v).Pairwise fun a b => a ≠ b ∧ lev.getD a 0 ≤ lev.getD b 0 := by
  induction v with
  | zero => simp [ordOf]
  | succ v ih =>
    rw [ordOf_succ, List.pairwise_append]
    refine ⟨ih, ?_, fun a ha b hb => ?_⟩
    · unfold lvAt
      rw [List.pairwise_filter]
      refine List.pairwise_lt_range.imp ?_
      intro a b hab ha hb
      simp only [beq_iff_eq] at ha hb
      omega
    · rw [ordOf_mem] at ha
      rw [lvAt_mem] at hb
      refine ⟨fun e => ?_, by omega⟩
      subst e; omega
end Go.Proofs.Ytlkolehdikfddaa
/- The walks of l9Levels and levels. -/
namespace Go.Proofs.Ytlkolehdikfddaa
open Go.RowKit
def LevPair (w : World) (E : List (Nat × Nat)) (n : Nat) (e : Ending) (w' : World) : Prop := ∃ A' k c', e = .returned (.tuple #[.slice A' k c', .bool (!turned E n n)]) ∧ OwnInts w' w.heap.size A' k c' (levI E n) ∧ Below w.heap.size w w'
def LevOne (w : World) (E : List (Nat × Nat)) (n : Nat) (e : Ending) (w' : World) : Prop := ∃ A' k c', e = .returned (.slice A' k c') ∧ OwnInts w' w.heap.size A' k c' (levI E n) ∧ Below w.heap.size w w'
theorem levPair_mk {w w' : World} {E : List (Nat × Nat)} {n : Nat} {A' : Option Addr} {k c' : Nat} {b : Bool} {x : List Int} (hb : turned E n n = !b) (hx : levI E n = x) (h : OwnInts w' w.heap.size A' k c' x) (hB : Below w.heap.size w w') : LevPair w E n (.returned (.tuple #[.slice A' k c', .bool b])) w' := by
  subst hx
  exact ⟨A', k, c', by rw [hb, Bool.not_not], h, hB⟩
theorem levOne_mk {w w' : World} {E : List (Nat × Nat)} {n : Nat} {A' : Option Addr} {k c' : Nat} {x : List Int} (hx : levI E n = x) (h : OwnInts w' w.heap.size A' k c' x) (hB : Below w.heap.size w w') : LevOne w E n (.returned (.slice A' k c')) w' := by
  subst hx
  exact ⟨A', k, c', rfl, h, hB⟩
set_option maxRecDepth 100000 in
set_option maxHeartbeats 4000000 in
theorem l9Levels_any (A B : Option Addr) (n c m d : Nat) (it : List It) (ls : List Bl) (w : World) (hi : ItemsIn w A n it) (hl : BillLinesIn w B m ls) (h12 : it.length ≤ 12) (h24 : ls.length ≤ 24) (hf : ∀ k (hk : k < ls.length), 0 ≤ findIt it ls[k].1 ∧ 0 ≤ findIt it ls[k].2.1) :
    Calls Try.prog 65 #[.slice A n c, .slice B m d] w (LevOne w (edges it ls) it.length) := by
  have hn := hi.len
  obtain rfl := hi.1
  obtain rfl := hl.num
  have hE := edges_lt hf
  have hEL := edges_len it ls
  have HEA := Lib.hid (fun k hk p q hp hq => edges_at it ls (k := k) hk (p := p) (q := q) hp hq)
  have HF := Lib.hid hf
  clear hf
  generalize edges it ls = E at *
  have HE := Lib.hid hE
  clear hE
  go_enter Try.func65, Try.ntmps65
  go_wp2_with (at_make; refine wpList_make_nums rfl _ _ rfl w.heap.size it.length rfl rfl rfl rfl (by omega) (by omega) ?_; intro w5 hA hA2 hA3)
  have hb0 := hA2
  clear hA2
  have hA0 : NumRow w5 w.heap.size w.heap.size it.length it.length (natI (runTo E it.length 0)) := by
    simp only [runTo]; rw [natI_zero]; exact hA
  clear hA hA3
  generalize hG : w.heap.size = g at hA0
  replace hA0 : NumRow w5 w.heap.size g it.length it.length (natI (runTo E it.length 0)) := by rw [hG]; exact hA0
  have hgl : w.heap.size ≤ g := by omega
  go_loopw [6] (fun i wr => ∃ r : Nat, r ≤ it.length + 1 ∧ i = .int .i64 r ∧ Hid (∀ s < r, turned E it.length s = true) ∧ NumRow wr w.heap.size g it.length it.length (natI (runTo E it.length r)) ∧ Below w.heap.size w wr) (fun i _ => it.length + 2 - (intOf i).toNat)
  case atStart => exact ⟨0, by omega, rfl, fun s h => absurd h (by omega), hA0, hb0⟩
  case round =>
    clear hA0 hb0
    obtain ⟨r, hr, rfl, HT, hA, hb⟩ := hrel
    by_cases hrn : r ≤ it.length
    case neg =>
      have HN : Hid (levI E it.length = []) := levI_none (HT.out it.length (by omega))
      go_wp2_with fail
      go_ret
      exact levOne_mk HN.out (numRow_empty (H := wr.heap.size) rfl hb.size).ownI (hb.alloc hb.size _)
    obtain ⟨T, hTT⟩ : ∃ T, runTo E it.length r = T := ⟨_, rfl⟩
    have HP : Hid (passTo E T ls.length = (runTo E it.length (r + 1), turned E it.length r)) := by
      show _ = _
      unfold turned
      simp only [runTo]
      rw [← hTT, hEL]
    have HBD : Hid (∀ k, ∀ i, (passTo E T k).1.getD i 0 ≤ (it.length + 1) * ls.length + k) := by
      intro k
      refine passTo_bd T _ (fun i => ?_) k
      rw [← hTT]
      refine Nat.le_trans (runTo_bd r i) ?_
      rw [hEL]
      exact Nat.mul_le_mul_right _ (by omega)
    have hmul : (it.length + 1) * ls.length ≤ 13 * 24 := Nat.mul_le_mul (by omega) h24
    rw [hTT] at hA
    have HTT := Lib.hid hTT
    clear hTT
    have hA1 : NumRow wr w.heap.size g it.length it.length (natI (passTo E T 0).1) := hA
    clear hA
    go_wp2_with fail
    go_loopw [7, 8] (fun ch i wr => ∃ k : Nat, k ≤ ls.length ∧ i = .int .i64 k ∧ ch = .bool (passTo E T k).2 ∧ NumRow wr w.heap.size g it.length it.length (natI (passTo E T k).1) ∧ Below w.heap.size w wr) (fun _ i _ => ls.length - (intOf i).toNat)
    case atStart => exact ⟨0, by omega, rfl, rfl, hA1, hb⟩
    case round =>
      clear hA1 hb
      obtain ⟨k, hk, rfl, rfl, hA, hb⟩ := hrel
      by_cases hlt : k < ls.length
      · obtain ⟨b, o, B2, m2, c2, rfl, hbl, hc0, hc1, hc2, hc3, hc4, hc5, _⟩ := bl_at (hl.keep hb) hlt
        obtain ⟨f1, f2⟩ := HF.out k hlt
        have f3 := findIt_bd it ls[k].1
        have f4 := findIt_bd it ls[k].2.1
        obtain ⟨pn, hpn⟩ : ∃ pn : Nat, findIt it ls[k].1 = (pn : Int) := ⟨(findIt it ls[k].1).toNat, by omega⟩
        obtain ⟨qn, hqn⟩ : ∃ qn : Nat, findIt it ls[k].2.1 = (qn : Int) := ⟨(findIt it ls[k].2.1).toNat, by omega⟩
        have hEk := Lib.hid (HEA.out k hlt pn qn hpn hqn)
        rw [hpn] at f3
        rw [hqn] at f4
        have p1 : pn < it.length := by omega
        have q1 : qn < it.length := by omega
        have p2 : (0 : Int) ≤ (pn : Int) := by omega
        have q2 : (0 : Int) ≤ (qn : Int) := by omega
        have p3 : (pn : Int) < (it.length : Int) := by omega
        have q3 : (qn : Int) < (it.length : Int) := by omega
        obtain ⟨sp, hsp⟩ : ∃ x : Nat, (passTo E T k).1.getD pn 0 = x := ⟨_, rfl⟩
        obtain ⟨sq, hsq⟩ : ∃ x : Nat, (passTo E T k).1.getD qn 0 = x := ⟨_, rfl⟩
        have hbp := HBD.out k pn
        rw [hsp] at hbp
        have hw1 : IntKind.i64.wrap ((sp : Int) + 1) = (sp : Int) + 1 := IntWalk.i64_in _ (by omega)
        have e_p : wr.cell? ⟨g, pn, none⟩ = some (.int .i64 (sp : Int)) := by rw [hA.cellN p1, natD_at, hsp]
        have e_q : wr.cell? ⟨g, qn, none⟩ = some (.int .i64 (sq : Int)) := by rw [hA.cellN q1, natD_at, hsq]
        have hgw : g < wr.heap.size := hA.lt.2
        have hfz : wr.frozen? ⟨g, qn, none⟩ = false := hA.frozen qn
        have HPN := Lib.hid hpn
        have HQN := Lib.hid hqn
        clear f1 f2 f3 f4 hbp
        go_wp2_with fail
        refine (specFindItem_any _ _ _ it _ _ (hi.keep hb)).mono ?_
        rintro e v ⟨rfl, rfl⟩
        rw [hpn]
        go_wp2_with fail
        refine (specFindItem_any _ _ _ it _ _ (hi.keep hb)).mono ?_
        rintro e v ⟨rfl, rfl⟩
        rw [hqn]
        by_cases hle : sq ≤ sp
        · have hi1 : (sq : Int) < (sp : Int) + 1 := by omega
          have HS : Hid (passTo E T (k + 1) = ((passTo E T k).1.set qn (sp + 1), true)) := by
            show _ = _
            have := passTo_yes hEk.out (by rw [hsp, hsq]; exact hle)
            rw [hsp] at this; exact this
          clear hpn hqn hc0 hc1 hc2 hc3 hc4 hc5 hle hsp hsq
          go_wp2_with fail
          go_quiet (fail)
          have hq1 := hA.drewN nq
          have hq2 := below_drewN hb nq
          have hg1 : w.heap.size ≤ g := hgl
          go_wp2_with fail
          go_roundw
          case rel => exact ⟨k + 1, by omega, by go_num, by rw [HS.out], by rw [HS.out, ← natI_set]; exact hq1.set qn ((sp : Int) + 1), hq2.setCell (by exact hg1) _⟩
          case measure => simp [intOf]; omega
        · have hi1 : ¬ (sq : Int) < (sp : Int) + 1 := by omega
          have HS : Hid (passTo E T (k + 1) = passTo E T k) := passTo_no hEk.out (by rw [hsp, hsq]; exact hle)
          clear hpn hqn hc0 hc1 hc2 hc3 hc4 hc5 hle hsp hsq
          go_wp2_with fail
          go_quiet (fail)
          have hq1 := hA.drewN nq
          have hq2 := below_drewN hb nq
          go_wp2_with fail
          go_roundw
          case rel => exact ⟨k + 1, by omega, by go_num, by rw [HS.out], by rw [HS.out]; exact hq1, hq2⟩
          case measure => simp [intOf]; omega
      · obtain rfl : k = ls.length := by omega
        have HPO := HP.out
        rw [HPO] at hA
        rw [HPO]
        cases ht : turned E it.length r
        · obtain ⟨_, hs2⟩ := levI_stop HE.out (by omega) ht
          have HS := Lib.hid hs2
          clear hs2
          go_wp2_with fail
          go_ret
          exact levOne_mk HS.out hA.ownI hb
        · have HT2 : Hid (∀ s < r + 1, turned E it.length s = true) := fun s hs => by
            rcases Nat.lt_or_ge s r with h1 | h1
            · exact HT.out s h1
            · rw [show s = r by omega]; exact ht
          go_wp2_with fail
          go_roundw
          case rel => exact ⟨r + 1, by omega, by go_num, HT2.out, hA, hb⟩
          case measure => simp [intOf]; omega
set_option maxRecDepth 100000 in
set_option maxHeartbeats 4000000 in
theorem levels_any (A B : Option Addr) (n c m d : Nat) (it : List It) (ls : List Bl) (w : World) (hi : ItemsIn w A n it) (hl : BillLinesIn w B m ls) (h12 : it.length ≤ 12) (h24 : ls.length ≤ 24) (hf : ∀ k (hk : k < ls.length), 0 ≤ findIt it ls[k].1 ∧ 0 ≤ findIt it ls[k].2.1) :
    Calls Try.prog 48 #[.slice A n c, .slice B m d] w (LevPair w (edges it ls) it.length) := by
  have hn := hi.len
  obtain rfl := hi.1
  obtain rfl := hl.num
  have hE := edges_lt hf
  have hEL := edges_len it ls
  have HEA := Lib.hid (fun k hk p q hp hq => edges_at it ls (k := k) hk (p := p) (q := q) hp hq)
  have HF := Lib.hid hf
  clear hf
  generalize edges it ls = E at *
  have HE := Lib.hid hE
  clear hE
  go_enter Try.func48, Try.ntmps48
  go_wp2_with (at_make; refine wpList_make_nums rfl _ _ rfl w.heap.size it.length rfl rfl rfl rfl (by omega) (by omega) ?_; intro w5 hA hA2 hA3)
  have hb0 := hA2
  clear hA2
  have hA0 : NumRow w5 w.heap.size w.heap.size it.length it.length (natI (runTo E it.length 0)) := by
    simp only [runTo]; rw [natI_zero]; exact hA
  clear hA hA3
  generalize hG : w.heap.size = g at hA0
  replace hA0 : NumRow w5 w.heap.size g it.length it.length (natI (runTo E it.length 0)) := by rw [hG]; exact hA0
  have hgl : w.heap.size ≤ g := by omega
  go_loopw [7] (fun i wr => ∃ r : Nat, r ≤ it.length + 1 ∧ i = .int .i64 r ∧ Hid (∀ s < r, turned E it.length s = true) ∧ NumRow wr w.heap.size g it.length it.length (natI (runTo E it.length r)) ∧ Below w.heap.size w wr) (fun i _ => it.length + 2 - (intOf i).toNat)
  case atStart => exact ⟨0, by omega, rfl, fun s h => absurd h (by omega), hA0, hb0⟩
  case round =>
    clear hA0 hb0
    obtain ⟨r, hr, rfl, HT, hA, hb⟩ := hrel
    obtain ⟨T, hTT⟩ : ∃ T, runTo E it.length r = T := ⟨_, rfl⟩
    have HP : Hid (passTo E T ls.length = (runTo E it.length (r + 1), turned E it.length r)) := by
      show _ = _
      unfold turned
      simp only [runTo]
      rw [← hTT, hEL]
    have HBD : Hid (∀ k, ∀ i, (passTo E T k).1.getD i 0 ≤ (it.length + 1) * ls.length + k) := by
      intro k
      refine passTo_bd T _ (fun i => ?_) k
      rw [← hTT]
      refine Nat.le_trans (runTo_bd r i) ?_
      rw [hEL]
      exact Nat.mul_le_mul_right _ (by omega)
    have hmul : (it.length + 1) * ls.length ≤ 13 * 24 := Nat.mul_le_mul (by omega) h24
    rw [hTT] at hA
    have HTT := Lib.hid hTT
    clear hTT
    have hA1 : NumRow wr w.heap.size g it.length it.length (natI (passTo E T 0).1) := hA
    clear hA
    go_wp2_with fail
    go_loopw [8, 20] (fun ch i wr => ∃ k : Nat, k ≤ ls.length ∧ i = .int .i64 k ∧ ch = .bool (passTo E T k).2 ∧ NumRow wr w.heap.size g it.length it.length (natI (passTo E T k).1) ∧ Below w.heap.size w wr) (fun _ i _ => ls.length - (intOf i).toNat)
    case atStart => exact ⟨0, by omega, rfl, rfl, hA1, hb⟩
    case round =>
      clear hA1 hb
      obtain ⟨k, hk, rfl, rfl, hA, hb⟩ := hrel
      by_cases hlt : k < ls.length
      · obtain ⟨b, o, B2, m2, c2, rfl, hbl, hc0, hc1, hc2, hc3, hc4, hc5, _⟩ := bl_at (hl.keep hb) hlt
        obtain ⟨f1, f2⟩ := HF.out k hlt
        have f3 := findIt_bd it ls[k].1
        have f4 := findIt_bd it ls[k].2.1
        obtain ⟨pn, hpn⟩ : ∃ pn : Nat, findIt it ls[k].1 = (pn : Int) := ⟨(findIt it ls[k].1).toNat, by omega⟩
        obtain ⟨qn, hqn⟩ : ∃ qn : Nat, findIt it ls[k].2.1 = (qn : Int) := ⟨(findIt it ls[k].2.1).toNat, by omega⟩
        have hEk := Lib.hid (HEA.out k hlt pn qn hpn hqn)
        rw [hpn] at f3
        rw [hqn] at f4
        have p1 : pn < it.length := by omega
        have q1 : qn < it.length := by omega
        have p2 : (0 : Int) ≤ (pn : Int) := by omega
        have q2 : (0 : Int) ≤ (qn : Int) := by omega
        have p3 : (pn : Int) < (it.length : Int) := by omega
        have q3 : (qn : Int) < (it.length : Int) := by omega
        obtain ⟨sp, hsp⟩ : ∃ x : Nat, (passTo E T k).1.getD pn 0 = x := ⟨_, rfl⟩
        obtain ⟨sq, hsq⟩ : ∃ x : Nat, (passTo E T k).1.getD qn 0 = x := ⟨_, rfl⟩
        have hbp := HBD.out k pn
        rw [hsp] at hbp
        have hw1 : IntKind.i64.wrap ((sp : Int) + 1) = (sp : Int) + 1 := IntWalk.i64_in _ (by omega)
        have e_p : wr.cell? ⟨g, pn, none⟩ = some (.int .i64 (sp : Int)) := by rw [hA.cellN p1, natD_at, hsp]
        have e_q : wr.cell? ⟨g, qn, none⟩ = some (.int .i64 (sq : Int)) := by rw [hA.cellN q1, natD_at, hsq]
        have hgw : g < wr.heap.size := hA.lt.2
        have hfz : wr.frozen? ⟨g, qn, none⟩ = false := hA.frozen qn
        have HPN := Lib.hid hpn
        have HQN := Lib.hid hqn
        clear f1 f2 f3 f4 hbp
        have hs := below_alloc wr (.cells #[.string ls[k].1, .string ls[k].2.1, .int .i64 ls[k].2.2.1, .int .i64 ls[k].2.2.2.1, .int .i64 ls[k].2.2.2.2.1, .slice B2 m2 c2] 90)
        have hB := below_on hb hs
        have hAA := hA.keep hs
        have d0 : (wr.alloc (.cells #[.string ls[k].1, .string ls[k].2.1, .int .i64 ls[k].2.2.1, .int .i64 ls[k].2.2.2.1, .int .i64 ls[k].2.2.2.2.1, .slice B2 m2 c2] 90)).cell? ⟨wr.heap.size, 0, none⟩ = some (.string ls[k].1) := by simp [go_sem]
        have d1 : (wr.alloc (.cells #[.string ls[k].1, .string ls[k].2.1, .int .i64 ls[k].2.2.1, .int .i64 ls[k].2.2.2.1, .int .i64 ls[k].2.2.2.2.1, .slice B2 m2 c2] 90)).cell? ⟨wr.heap.size, 1, none⟩ = some (.string ls[k].2.1) := by simp [go_sem]
        have dl : wr.heap.size < (wr.alloc (.cells #[.string ls[k].1, .string ls[k].2.1, .int .i64 ls[k].2.2.1, .int .i64 ls[k].2.2.2.1, .int .i64 ls[k].2.2.2.2.1, .slice B2 m2 c2] 90)).heap.size := by simp
        clear e_p e_q hfz hgw
        go_wp2_with fail
        generalize wr.alloc (.cells #[.string ls[k].1, .string ls[k].2.1, .int .i64 ls[k].2.2.1, .int .i64 ls[k].2.2.2.1, .int .i64 ls[k].2.2.2.2.1, .slice B2 m2 c2] 90) = wq at *
        generalize wr.heap.size = N at *
        clear hc0 hc1 hc2 hc3 hc4 hc5 hs hb hbl
        go_region_held3 (fun w' => w'.cell? ⟨N, 0, none⟩ = some (.string ls[k].1) ∧ w'.cell? ⟨N, 1, none⟩ = some (.string ls[k].2.1) ∧ N < w'.heap.size ∧ NumRow w' w.heap.size g it.length it.length (natI (passTo E T k).1) ∧ Below w.heap.size w w')
          (first
            | exact ⟨d0, d1, dl, hAA.drew, hB.drew⟩
            | (go_split_ands; refine ⟨?_, ?_, ?_, ?_, ?_⟩ <;> with_reducible assumption)
            | (go_split_ands; exact ⟨(hb3.cell (by with_reducible assumption)).trans (by with_reducible assumption), (hb3.cell (by with_reducible assumption)).trans (by with_reducible assumption), Nat.lt_of_lt_of_le (by with_reducible assumption) hb3.size, NumRow.keep (by with_reducible assumption) hb3, below_on (by with_reducible assumption) hb3⟩))
          (first
            | ((with_reducible refine (implFindItem_any A it.length c it ls[k].1 _ (hi.keep ?_)).mono ?_); (go_split_ands; with_reducible assumption); rintro e w3 ⟨rfl, hb3⟩; rw [hpn])
            | ((with_reducible refine (implFindItem_any A it.length c it ls[k].2.1 _ (hi.keep ?_)).mono ?_); (go_split_ands; with_reducible assumption); rintro e w3 ⟨rfl, hb3⟩; rw [hqn]))
        all_goals
          go_split_ands
          have hA5 : NumRow w3 w.heap.size g it.length it.length (natI (passTo E T k).1) := by with_reducible assumption
          have hb5 : Below w.heap.size w w3 := by with_reducible assumption
          clear hA hAA
          have e_p : w3.cell? ⟨g, pn, none⟩ = some (.int .i64 (sp : Int)) := by rw [hA5.cellN p1, natD_at, hsp]
          have e_q : w3.cell? ⟨g, qn, none⟩ = some (.int .i64 (sq : Int)) := by rw [hA5.cellN q1, natD_at, hsq]
          have hfz : w3.frozen? ⟨g, qn, none⟩ = false := hA5.frozen qn
          by_cases hle : sq ≤ sp
          · have hi1 : (sq : Int) ≤ (sp : Int) := by omega
            have HS : Hid (passTo E T (k + 1) = ((passTo E T k).1.set qn (sp + 1), true)) := by
              show _ = _
              have := passTo_yes hEk.out (by rw [hsp, hsq]; exact hle)
              rw [hsp] at this; exact this
            clear hpn hqn hle hsp hsq
            go_wp2_with fail
            go_quiet (fail)
            have hq1 := hA5.drewN nq
            have hq2 := below_drewN hb5 nq
            have hg1 : w.heap.size ≤ g := hgl
            go_wp2_with fail
            go_roundw
            case rel => exact ⟨k + 1, by omega, by go_num, by rw [HS.out], by rw [HS.out, ← natI_set]; exact hq1.set qn ((sp : Int) + 1), hq2.setCell (by exact hg1) _⟩
            case measure => simp [intOf]; omega
          · have hi1 : ¬ (sq : Int) ≤ (sp : Int) := by omega
            have HS : Hid (passTo E T (k + 1) = passTo E T k) := passTo_no hEk.out (by rw [hsp, hsq]; exact hle)
            clear hpn hqn hle hsp hsq
            go_wp2_with fail
            go_quiet (fail)
            have hq1 := hA5.drewN nq
            have hq2 := below_drewN hb5 nq
            go_wp2_with fail
            go_roundw
            case rel => exact ⟨k + 1, by omega, by go_num, by rw [HS.out], by rw [HS.out]; exact hq1, hq2⟩
            case measure => simp [intOf]; omega
      · obtain rfl : k = ls.length := by omega
        have HPO := HP.out
        rw [HPO] at hA
        rw [HPO]
        cases ht : turned E it.length r
        · obtain ⟨hs1, hs2⟩ := levI_stop HE.out (by omega) ht
          have HS := Lib.hid hs2
          have HS1 := Lib.hid hs1
          clear hs2 hs1
          go_wp2_with fail
          go_ret2
          exact levPair_mk HS1.out HS.out hA.ownI hb
        · have HT2 : Hid (∀ s < r + 1, turned E it.length s = true) := fun s hs => by
            rcases Nat.lt_or_ge s r with h1 | h1
            · exact HT.out s h1
            · rw [show s = r by omega]; exact ht
          by_cases hrn : r ≤ it.length
          · go_wp2_with fail
            go_roundw
            case rel => exact ⟨r + 1, by omega, by go_num, HT2.out, hA, hb⟩
            case measure => simp [intOf]; omega
          · have HN : Hid (turned E it.length it.length = true) := HT2.out _ (by omega)
            have HS : Hid (levI E it.length = []) := levI_none HN.out
            have hi5 : (it.length : Int) < (r : Int) := by omega
            go_wp2_with fail
            go_ret2
            exact levPair_mk HN.out HS.out (ownI_nil _ _) hb
end Go.Proofs.Ytlkolehdikfddaa
