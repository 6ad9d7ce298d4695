/- What an append of one element does to a row of the call's own. -/
import Derived.Test.YtajlfdofjegdjaaOwn
import Derived.Test.YtajlfdofjegdjaaBase
namespace Go.Proofs.Ytajlfdofjegdjaa
open Go.RowKit
theorem own_form {w : World} {lo : Nat} {e : TypeId} {sz n : Nat} {v : Value} {xs : List Value} (h : w.ownsRow lo e sz v n xs) : ∃ A c, v = .slice A n c := by
  rcases h.2 with ⟨hv, h0⟩ | ⟨g, cap, cur, hv, _⟩
  · exact ⟨none, 0, by rw [hv, h0]⟩
  · exact ⟨_, _, hv⟩
theorem own_block {w : World} {lo : Nat} {e : TypeId} {sz n : Nat} {v : Value} {xs : List Value} (h : w.ownsRow lo e sz v n xs) : ∀ g, v.ownBlock = some g → lo ≤ g := by
  intro g hg
  rcases h.2 with ⟨hv, h0⟩ | ⟨g', cap, cur, hv, hlo, _⟩
  · rw [hv] at hg; simp [Value.ownBlock] at hg
  · rw [hv] at hg
    simp [Value.ownBlock] at hg
    omega
/-- A value that is a row of flat structs of the call's own. -/
def RowVal {α : Type} (F : Flat α) (e : TypeId) (w : World) (lo : Nat) (v : Value) (l : List α) : Prop := w.ownsRow lo e F.sz v l.length (l.flatMap F.enc)
section
variable {α : Type} {F : Flat α} {e : TypeId} {w w' : World} {lo : Nat} {v v' : Value} {l : List α}
theorem RowVal.form (h : RowVal F e w lo v l) : ∃ A c, v = .slice A l.length c ∧ OwnRows F e w lo A l.length c l := by
  obtain ⟨A, c, rfl⟩ := own_form h
  exact ⟨A, c, rfl, rfl, h⟩
theorem OwnRows.val {A : Option Addr} {n c : Nat} (h : OwnRows F e w lo A n c l) : RowVal F e w lo (.slice A n c) l := by
  obtain ⟨rfl, h⟩ := h
  exact h
theorem RowVal.keep (h : RowVal F e w lo v l) (hb : Below w.heap.size w w') : RowVal F e w' lo v l := own_keep h hb
theorem RowVal.alloc (h : RowVal F e w lo v l) (o : Obj) : RowVal F e (w.alloc o) lo v l := World.ownsRow.alloc h o
theorem RowVal.nil (w : World) (lo : Nat) : RowVal F e w lo (.slice none 0 0) [] := World.ownsRow_nil _ _ _ _
/-- Behind the append's law: what the row is now, and that nothing else has turned. -/
theorem RowVal.snoc {x : α} {xs : List Value} (hx : xs = F.enc x) (h : w'.ownsRow lo e F.sz v' (l.length + 1) (l.flatMap F.enc ++ xs)) : RowVal F e w' lo v' (l ++ [x]) := by
  subst hx
  unfold RowVal
  rw [List.length_append, List.flatMap_append]
  simpa using h
theorem RowVal.below {B : Nat} (h : RowVal F e w lo v l) (hg : w.grownBy w' v.ownBlock) (hB : B ≤ lo) (hw : B ≤ w.heap.size) : Below B w w' :=
  below_grown hg hw (fun g hgg => Nat.le_trans hB (own_block h g hgg))
end
theorem empty_own (w : World) (lo : Nat) (e : TypeId) (sz : Nat) (h : lo ≤ w.heap.size) : (w.alloc (.cells #[] e)).ownsRow lo e sz (.slice (some ⟨w.heap.size, 0, none⟩) 0 0) 0 [] :=
  World.ownsRow_lit w #[] 0 h (by unfold maxLen; omega) (by simp)

theorem empty_row {α : Type} {F : Flat α} {e : TypeId} {w : World} {lo H : Nat} (hH : w.heap.size = H) (h : lo ≤ w.heap.size) : RowVal F e (w.alloc (.cells #[] e)) lo (.slice (some ⟨H, 0, none⟩) 0 0) [] := by
  subst hH
  exact empty_own w lo e F.sz h

/-- What the program's table says of a slice type of flat structs. -/
def ElemOk {α : Type} (F : Flat α) (t e : TypeId) : Prop :=
  ∃ (i : TypeInfo) (z : Value) (bytes : Nat), Try.prog.underlying t = some (.slice e) ∧ Try.prog.info? e = some i ∧ i.zero = some z ∧ i.size = F.sz ∧ i.bytes = bytes ∧ z.cells.size = F.sz ∧ 0 < F.sz ∧ bytes ≤ 1000
theorem news_at {w : World} {H : Nat} (hH : w.heap.size = H) (cs : Array Value) (e : TypeId) : ∀ j u, cs.toList[j]? = some u → (w.alloc (.cells cs e)).cell? ((⟨H, 0, none⟩ : Addr).add j) = some u := by
  intro j u hu
  subst hH
  have h := heap_alloc_new w (.cells cs e)
  rw [Addr.add_lit, Nat.zero_add]
  unfold World.cell?
  simp only [h]
  simpa using hu
/-- out = append(out, x), out a row of the call's own, x a struct that has just been laid in a block of its own. -/
theorem wpList_append_one {α : Type} {F : Flat α} {t e : TypeId} (hE : ElemOk F t e) {w1 : World} {ops : Array Oper} {rest : List Oper} {o : Oper} {a : Act} {Q : Exit → Act → World → Prop} (hgd : o.guard = none) (s x : Operand)
    (ho : o.op = .call { callee := .builtin .append, args := #[s, x], argTypes := #[t, t] }) {lo : Nat} {v : Value} {l : List α} (hs : a.eval s = v) (hrow : RowVal F e w1 lo v l) (hlen : l.length ≤ 16777216)
    (y : α) (cs : Array Value) (hcs : cs.toList = F.enc y) (hone : ∀ u ∈ cs.toList, u.oneCell' = true) (H c : Nat) (hH : w1.heap.size = H) (hx : a.eval x = .slice (some ⟨H, 0, none⟩) 1 c) (hlo : lo ≤ w1.heap.size)
    (h : ∀ v' w', RowVal F e w' lo v' (l ++ [y]) → (∀ B, B ≤ lo → B ≤ w1.heap.size → Below B w1 w') → w1.heap.size < w'.heap.size → wpList Try.prog ops Q rest (a.put o.dst v') w') :
    wpList Try.prog ops Q (o :: rest) a (w1.alloc (.cells cs e)) := by
  obtain ⟨i, z, bytes, ht, hi, hz, hsz, hby, hzs, hpos, hbb⟩ := hE
  have hb2 : (l.length + 1) * bytes ≤ 140737488355328 := Nat.le_trans (Nat.mul_le_mul (show l.length + 1 ≤ 16777217 by omega) hbb) (by omega)
  refine wpList_append_own _ hgd s x t ho lo e i z F.sz bytes ht hi hz hsz hby hzs hpos v l.length (l.flatMap F.enc) hs (hrow.alloc _) ⟨H, 0, none⟩ 1 c cs.toList hx (by rw [hcs, F.len, Nat.one_mul]) (news_at hH cs e) hone (by unfold maxLen; omega) hb2 (by simp; omega) (fun v' w' h2 h3 _ => h v' w' (RowVal.snoc hcs h2) (fun B hB hB2 => ?_) ?_)
  · refine ((Below.refl B w1).alloc hB2 _).trans (below_grown h3 (by simp; omega) (fun g hg => Nat.le_trans hB (own_block hrow g hg)))
  · have := h3.size; simp at this; omega
end Go.Proofs.Ytajlfdofjegdjaa
