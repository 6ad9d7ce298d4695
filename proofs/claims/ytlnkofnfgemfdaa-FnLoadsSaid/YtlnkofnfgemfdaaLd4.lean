/- Part 4 of the texts of this claim: More on rows of the call's own: endings that hand them back, rows of numbers that grow. -/
import Derived.Test.YtlnkofnfgemfdaaLd2
import Derived.Test.YtlnkofnfgemfdaaLd3
import Derived.Maps.AppendAt
import Derived.Deep.DeepMust
/- More on rows of the call's own: endings that hand them back, rows of numbers that grow. -/
namespace Go.Proofs.Ytlnkofnfgemfdaa
open Go.RowKit
/-- The ending of a call that hands back a row of flat structs. -/
def OneRowOf {α : Type} (F : Flat α) (t : TypeId) (w : World) (val : List α) (e : Ending) (w' : World) : Prop :=
  ∃ A c, e = .returned (.slice A val.length c) ∧ OwnRows F t w' w.heap.size A val.length c val ∧ Below w.heap.size w w'
theorem oneRowOf_mk {α : Type} {F : Flat α} {t : TypeId} {w w' : World} {val : List α} {v : Value} (h : RowVal F t w' w.heap.size v val) (hb : Below w.heap.size w w') : OneRowOf F t w val (.returned v) w' := by
  obtain ⟨A, c, rfl, ho⟩ := h.form
  exact ⟨A, c, rfl, ho, hb⟩
/-- The ending of a call that hands back such a row and a Bool. -/
def PairRowsOf {α : Type} (F : Flat α) (t : TypeId) (w : World) (val : List α × Bool) (e : Ending) (w' : World) : Prop :=
  ∃ A c, e = .returned (.tuple #[.slice A val.1.length c, .bool val.2]) ∧ OwnRows F t w' w.heap.size A val.1.length c val.1 ∧ Below w.heap.size w w'
theorem pairRowsOf_mk {α : Type} {F : Flat α} {t : TypeId} {w w' : World} {val : List α × Bool} {v : Value} {l : List α} {b : Bool} (hv : val = (l, b)) (h : RowVal F t w' w.heap.size v l) (hb : Below w.heap.size w w') : PairRowsOf F t w val (.returned (.tuple #[v, .bool b])) w' := by
  obtain ⟨A, c, rfl, ho⟩ := h.form
  subst hv
  exact ⟨A, c, rfl, ho, hb⟩
theorem rowOf_some {α : Type} {F : Flat α} {t : TypeId} {w : World} {lo n c : Nat} {A : Option Addr} {l : List α} (h : OwnRows F t w lo A n c l) (hn : 0 < n) : ∃ g, A = some ⟨g, 0, none⟩ := by
  rcases h.2.2 with ⟨hv, h0⟩ | ⟨g, cap, cur, hv, _⟩
  · omega
  · exact ⟨g, by injection hv⟩
theorem own_keepB {w w' : World} {lo B g : Nat} {e : TypeId} {sz n m c : Nat} {xs : List Value} (h : w.ownsRow lo e sz (.slice (some ⟨g, 0, none⟩) m c) n xs) (hb : Below B w w') (hg : g < B) : w'.ownsRow lo e sz (.slice (some ⟨g, 0, none⟩) m c) n xs := by
  refine ⟨h.1, ?_⟩
  rcases h.2 with h0 | ⟨g2, cap, cur, hv, hlo, hg2, hr⟩
  · exact .inl h0
  · refine .inr ⟨g2, cap, cur, hv, hlo, ?_, hr⟩
    have hA : g = g2 := by injection hv with h1; injection h1 with h1; injection h1
    rw [hb.block g2 (by omega)]; exact hg2
theorem NumRow.keepB {w w' : World} {lo B g n c : Nat} {l : List Int} (h : NumRow w lo g n c l) (hb : Below B w w') (hg : g < B) : NumRow w' lo g n c l := ⟨h.1, own_keepB h.2 hb hg⟩
theorem RowVal.far {α : Type} {F : Flat α} {t : TypeId} {w : World} {lo : Nat} {v : Value} {l : List α} (h : RowVal F t w lo v l) {p : Addr} (hp : p.block < lo) (x : Value) : RowVal F t (w.setCell p x) lo v l := by
  refine World.ownsRow.kept h (row := some p.block) ⟨rfl, rfl, rfl, by simp, fun k _ hk => heap_setCell_other w p k x (fun e => hk (by simp [e]))⟩ (.inr ?_)
  intro he
  have := own_block h _ he
  omega
/-- Numbers as flat structs of one cell. -/
def intF : Flat Int := ⟨fun x => [.int .i64 x], 1, fun _ => rfl⟩
theorem intF_flat (l : List Int) : l.flatMap intF.enc = ints l := by
  induction l with
  | nil => rfl
  | cons a l ih => rw [List.flatMap_cons, ih]; rfl
theorem intOne : ∀ (a : Int), ∀ u ∈ intF.enc a, u.oneCell' = true := by
  intro a u hu
  simp [intF] at hu
  subst hu; rfl
theorem intElem : ElemOk intF 26 3 := by
  obtain ⟨i, h1, h2, h3, h4⟩ := info_parts intInfo
  exact ⟨i, _, 8, Try.underlying26, h1, h2, h3, h4, rfl, by decide, by omega⟩
theorem NumRow.of_own {w : World} {lo g n c : Nat} {l : List Int} (h : OwnRows intF 3 w lo (some ⟨g, 0, none⟩) n c l) : NumRow w lo g n c l := ⟨h.1, by have := h.2; rw [intF_flat] at this; exact this⟩
theorem NumRow.own {w : World} {lo g n c : Nat} {l : List Int} (h : NumRow w lo g n c l) : RowVal intF 3 w lo (.slice (some ⟨g, 0, none⟩) n c) l := by
  obtain ⟨rfl, h⟩ := h
  unfold RowVal
  rw [intF_flat]; exact h
theorem NumRow.lower {w : World} {lo lo' g n c : Nat} {l : List Int} (h : NumRow w lo g n c l) (hl : lo' ≤ lo) : NumRow w lo' g n c l := ⟨h.1, own_lower h.2 hl⟩
theorem numRow_empty {w : World} {lo H : Nat} (hH : w.heap.size = H) (h : lo ≤ w.heap.size) : NumRow (w.alloc (.cells #[] 3)) lo H 0 0 [] := by
  subst hH
  exact ⟨rfl, empty_own w lo 3 1 h⟩
/-- out = append(out, x) on a row of numbers. -/
theorem wpList_append_num {w1 : World} {ops : Array Oper} {rest : List Oper} {o : Oper} {a : Act} {Q : Exit → Act → World → Prop} (hgd : o.guard = none) (s x : Operand)
    (ho : o.op = .call { callee := .builtin .append, args := #[s, x], argTypes := #[26, 26] }) {lo g n c : Nat} {l : List Int} (hs : a.eval s = .slice (some ⟨g, 0, none⟩) n c) (hrow : NumRow w1 lo g n c l) (hlen : l.length ≤ 16777216)
    (y : Int) (H cx : Nat) (hH : w1.heap.size = H) (hx : a.eval x = .slice (some ⟨H, 0, none⟩) 1 cx) (hlo : lo ≤ w1.heap.size)
    (h : ∀ g' c' w', NumRow w' lo g' (n + 1) c' (l ++ [y]) → (∀ B, B ≤ lo → B ≤ w1.heap.size → Below B w1 w') → w1.heap.size < w'.heap.size → wpList Try.prog ops Q rest (a.put o.dst (.slice (some ⟨g', 0, none⟩) (n + 1) c')) w') :
    wpList Try.prog ops Q (o :: rest) a (w1.alloc (.cells #[.int .i64 y] 3)) := by
  refine wpList_append_one intElem hgd s x ho hs hrow.own hlen y #[.int .i64 y] rfl (by simp [Value.oneCell']) H cx hH hx hlo (fun v' w' h1 h2 h3 => ?_)
  obtain ⟨A, c', hv, ho'⟩ := h1.form
  obtain ⟨g', rfl⟩ := rowOf_some ho' (by simp)
  have e : (l ++ [y]).length = n + 1 := by rw [List.length_append, hrow.1]; rfl
  rw [e] at ho' hv
  subst hv
  exact h g' c' w' (NumRow.of_own ho') h2 h3
section
variable {α : Type} {F : Flat α} {t e : TypeId}
/-- out = append(out, x), with what became of all other blocks, and where the row lies now. -/
theorem wpList_append_at (hE : ElemOk F t e) {w1 : World} {ops : Array Oper} {rest : List Oper} {o : Oper} {a : Act} {Q : Exit → Act → World → Prop} (hgd : o.guard = none) (s x : Operand)
    (ho : o.op = .call { callee := .builtin .append, args := #[s, x], argTypes := #[t, t] }) {lo : Nat} {v : Value} {l : List α} (hs : a.eval s = v) (hrow : RowVal F e w1 lo v l) (hlen : l.length ≤ 16777216)
    (y : α) (cs : Array Value) (hcs : cs.toList = F.enc y) (hone : ∀ u ∈ cs.toList, u.oneCell' = true) (H c : Nat) (hH : w1.heap.size = H) (hx : a.eval x = .slice (some ⟨H, 0, none⟩) 1 c) (hlo : lo ≤ w1.heap.size)
    (h : ∀ v' w', RowVal F e w' lo v' (l ++ [y]) → (∀ B, B ≤ lo → B ≤ w1.heap.size → Below B w1 w') → w1.heap.size < w'.heap.size → (∀ p : Addr, p.block < w1.heap.size → v.ownBlock ≠ some p.block → w'.cell? p = w1.cell? p) → (∀ g, g < w1.heap.size → v.ownBlock ≠ some g → v'.ownBlock ≠ some g) → wpList Try.prog ops Q rest (a.put o.dst v') w') :
    wpList Try.prog ops Q (o :: rest) a (w1.alloc (.cells cs e)) := by
  obtain ⟨i, z, bytes, ht, hi, hz, hsz, hby, hzs, hpos, hbb⟩ := hE
  have hb2 : (l.length + 1) * bytes ≤ 140737488355328 := Nat.le_trans (Nat.mul_le_mul (show l.length + 1 ≤ 16777217 by omega) hbb) (by omega)
  refine wpList_append_own_at _ hgd s x t ho lo e i z F.sz bytes ht hi hz hsz hby hzs hpos v l.length (l.flatMap F.enc) hs (hrow.alloc _) ⟨H, 0, none⟩ 1 c cs.toList hx (by rw [hcs, F.len, Nat.one_mul]) (news_at hH cs e) hone (by unfold maxLen; omega) hb2 (by simp; omega) (fun v' w' h2 h3 _ h5 => h v' w' (RowVal.snoc hcs h2) (fun B hB hB2 => ?_) ?_ (fun p hp hne => ?_) (fun g hg hne => ?_))
  · refine ((Below.refl B w1).alloc hB2 _).trans (below_grown h3 (by simp; omega) (fun g hg => Nat.le_trans hB (own_block hrow g hg)))
  · have := h3.size; simp at this; omega
  · rw [World.cell?_of_block (h3.block p.block (by simp; omega) (Ne.symm hne)), World.cell?_alloc_lt w1 _ p hp]
  · rcases h5 with h5 | h5
    · rw [h5]; exact hne
    · rw [h5]; simp; omega
end
end Go.Proofs.Ytlnkofnfgemfdaa
