/- Part 24 of the texts of this claim: How routings and planned orders are drawn: lists of them; A calendar that is being drawn; A plant that is being drawn: its rows, its box, the result's cell. -/
import Derived.Test.YtlkolehdikfddaaTr19
import Derived.Test.YtlkolehdikfddaaTr9
import Derived.Test.YtlkolehdikfddaaTr23
/- How routings and planned orders are drawn: lists of them. -/
namespace Go.Proofs.Ytlkolehdikfddaa
end Go.Proofs.Ytlkolehdikfddaa
/- A calendar that is being drawn. -/
namespace Go.Proofs.Ytlkolehdikfddaa
open Go.RowKit
/-- The ending of a call that draws a calendar. -/
def DrawnCal (w : World) (base g : Nat) (e : Ending) (w' : World) : Prop := ∃ (wk : List Int) (ex : List Ex) (A B : Option Addr) (n c m d : Nat), e = .returned (.agg #[.slice A n c, .slice B m d]) ∧ wk.length ≤ 8 ∧ ex.length ≤ 5 ∧ OwnInts w' w.heap.size A n c wk ∧ OwnRows exF 122 w' w.heap.size B m d ex ∧ CurAt w' base g ∧ Only g (g + 1) w w'
theorem exOne : ∀ (a : Ex), ∀ u ∈ exF.enc a, u.oneCell' = true := by
  intro a u hu
  simp [exF] at hu
  rcases hu with rfl | rfl <;> rfl
theorem OwnInts.of_row {w : World} {lo c : Nat} {A : Option Addr} {l : List Int} (h : RowVal intF 3 w lo (.slice A l.length c) l) : OwnInts w lo A l.length c l := by
  unfold RowVal at h
  rw [intF_flat] at h
  exact ⟨rfl, h⟩
theorem OwnInts.of_row_n {w : World} {lo n c : Nat} {A : Option Addr} {l : List Int} (h : RowVal intF 3 w lo (.slice A n c) l) (hn : n = l.length) : OwnInts w lo A n c l := by subst hn; exact OwnInts.of_row h
theorem lit_num {w : World} {lo H n : Nat} (hH : w.heap.size = H) (cs : Array Value) (l : List Int) (hcs : cs.toList = ints l) (hn : n = l.length) (hl : l.length ≤ 1000) (hlo : lo ≤ H) : RowVal intF 3 (w.alloc (.cells cs 3)) lo (.slice (some ⟨H, 0, none⟩) n n) l := by
  subst hH hn
  have hsz : cs.size = l.length := by rw [← Array.length_toList, hcs]; simp
  have h := World.ownsRow_lit w cs (e := 3) (size := 1) l.length hlo (by unfold maxLen; omega) (by omega)
  unfold RowVal
  rw [intF_flat, ← hcs]; exact h
/-- A calendar that is drawn: the result's cell in block N, the calendar's own box in block N + 2, its two rows. -/
structure CalSt (w : World) (N : Nat) (v0 v1 : Value) (wk : List Int) (ex : List Ex) : Prop where
  c0 : w.cell? ⟨N + 1 + 1, 0, none⟩ = some v0
  c1 : w.cell? ⟨N + 1 + 1, 1, none⟩ = some v1
  f0 : w.frozen? ⟨N + 1 + 1, 0, none⟩ = false
  f1 : w.frozen? ⟨N + 1 + 1, 1, none⟩ = false
  r0 : w.cell? ⟨N, 0, none⟩ = some (.slice none 0 0)
  r1 : w.cell? ⟨N, 1, none⟩ = some (.slice none 0 0)
  s0 : w.frozen? ⟨N, 0, none⟩ = false
  s1 : w.frozen? ⟨N, 1, none⟩ = false
  h0 : RowVal intF 3 w (N + 1) v0 wk
  n0 : v0.ownBlock ≠ some (N + 1 + 1)
  h1 : RowVal exF 122 w (N + 1 + 1 + 1) v1 ex
  lt : N + 1 + 1 < w.heap.size
section
variable {w w' w9 : World} {N g : Nat} {v0 v1 : Value} {wk : List Int} {ex : List Ex}
theorem CalSt.only (h : CalSt w N v0 v1 wk ex) (ho : Only g (g + 1) w w') (hg : g < N) : CalSt w' N v0 v1 wk ex := by
  have hl := h.lt
  have b2 := ho.block (N + 1 + 1) (by omega) (by omega)
  have b0 := ho.block N (by omega) (by omega)
  exact ⟨(World.cell?_of_block b2).trans h.c0, (World.cell?_of_block b2).trans h.c1, (World.frozen?_of_block b2).trans h.f0, (World.frozen?_of_block b2).trans h.f1, (World.cell?_of_block b0).trans h.r0, (World.cell?_of_block b0).trans h.r1, (World.frozen?_of_block b0).trans h.s0, (World.frozen?_of_block b0).trans h.s1, h.h0.only ho (by omega), h.n0, h.h1.only ho (by omega), Nat.lt_of_lt_of_le hl ho.size⟩
theorem CalSt.keep (h : CalSt w N v0 v1 wk ex) (hb : Below w.heap.size w w') : CalSt w' N v0 v1 wk ex := by
  have hl := h.lt
  have b2 := hb.block (N + 1 + 1) (by omega)
  have b0 := hb.block N (by omega)
  exact ⟨(World.cell?_of_block b2).trans h.c0, (World.cell?_of_block b2).trans h.c1, (World.frozen?_of_block b2).trans h.f0, (World.frozen?_of_block b2).trans h.f1, (World.cell?_of_block b0).trans h.r0, (World.cell?_of_block b0).trans h.r1, (World.frozen?_of_block b0).trans h.s0, (World.frozen?_of_block b0).trans h.s1, h.h0.blk (fun g _ hlt => hb.block g hlt), h.n0, h.h1.blk (fun g _ hlt => hb.block g hlt), Nat.lt_of_lt_of_le hl hb.size⟩
theorem frozen_setC (w : World) (p q : Addr) (v : Value) : (w.setCell p v).frozen? q = w.frozen? q := by simp [go_sem]
/-- The second row grew; its slice is written back. -/
theorem CalSt.push1 (h : CalSt w N v0 v1 wk ex) {v9 : Value} {ex' : List Ex} (hz : w.heap.size ≤ w9.heap.size) (hk : ∀ k, k < w.heap.size → v1.ownBlock ≠ some k → w9.heap[k]? = w.heap[k]?) (h9 : RowVal exF 122 w9 (N + 1 + 1 + 1) v9 ex') :
    CalSt (w9.setCell ⟨N + 1 + 1, 1, none⟩ v9) N v0 v9 wk ex' ∧ w9.cell? ⟨N + 1 + 1, 1, none⟩ = some v1 ∧ w9.frozen? ⟨N + 1 + 1, 1, none⟩ = false := by
  have hl := h.lt
  have hv := own_block h.h1
  have b2 := hk (N + 1 + 1) (by omega) (fun e => by have := hv _ e; omega)
  have b0 := hk N (by omega) (fun e => by have := hv _ e; omega)
  have c1 := (World.cell?_of_block b2).trans h.c1
  have c0 := (World.cell?_of_block b2).trans h.c0
  have h0' : RowVal intF 3 w9 (N + 1) v0 wk := h.h0.blk (fun g hg hlt => hk g hlt (RowVal.apart (by decide) h.h0 h.h1 g hg))
  refine ⟨⟨?_, World.cell?_setCell_same _ _ _ c1, ?_, ?_, ?_, ?_, ?_, ?_, ?_, h.n0, ?_, by simp; omega⟩, c1, (World.frozen?_of_block b2).trans h.f1⟩
  · rw [World.cell?_setCell_other _ _ _ _ (by simp)]; exact c0
  · rw [frozen_setC]; exact (World.frozen?_of_block b2).trans h.f0
  · rw [frozen_setC]; exact (World.frozen?_of_block b2).trans h.f1
  · rw [cell_far (by omega)]; exact (World.cell?_of_block b0).trans h.r0
  · rw [cell_far (by omega)]; exact (World.cell?_of_block b0).trans h.r1
  · rw [frozen_setC]; exact (World.frozen?_of_block b0).trans h.s0
  · rw [frozen_setC]; exact (World.frozen?_of_block b0).trans h.s1
  · exact h0'.blk (fun g hg _ => heap_setCell_other _ _ g _ (fun e => h.n0 (by simp at e; rw [hg, e])))
  · exact h9.blk (fun g hg _ => heap_setCell_other _ _ g _ (fun e => by have := own_block h9 _ hg; simp at e; omega))
/-- The first row grew, or is another one; its slice is written back. -/
theorem CalSt.push0 (h : CalSt w N v0 v1 wk ex) {v9 : Value} {wk' : List Int} (hz : w.heap.size ≤ w9.heap.size) (hk : ∀ k, k < w.heap.size → v0.ownBlock ≠ some k → w9.heap[k]? = w.heap[k]?) (h9 : RowVal intF 3 w9 (N + 1) v9 wk') (n9 : v9.ownBlock ≠ some (N + 1 + 1)) :
    CalSt (w9.setCell ⟨N + 1 + 1, 0, none⟩ v9) N v9 v1 wk' ex ∧ w9.cell? ⟨N + 1 + 1, 0, none⟩ = some v0 ∧ w9.frozen? ⟨N + 1 + 1, 0, none⟩ = false := by
  have hl := h.lt
  have hv := own_block h.h0
  have b2 := hk (N + 1 + 1) (by omega) h.n0
  have b0 := hk N (by omega) (fun e => by have := hv _ e; omega)
  have c1 := (World.cell?_of_block b2).trans h.c1
  have c0 := (World.cell?_of_block b2).trans h.c0
  have h1' : RowVal exF 122 w9 (N + 1 + 1 + 1) v1 ex := h.h1.blk (fun g hg hlt => hk g hlt (RowVal.apart (by decide) h.h1 h.h0 g hg))
  refine ⟨⟨World.cell?_setCell_same _ _ _ c0, ?_, ?_, ?_, ?_, ?_, ?_, ?_, ?_, n9, ?_, by simp; omega⟩, c0, (World.frozen?_of_block b2).trans h.f0⟩
  · rw [World.cell?_setCell_other _ _ _ _ (by simp)]; exact c1
  · rw [frozen_setC]; exact (World.frozen?_of_block b2).trans h.f0
  · rw [frozen_setC]; exact (World.frozen?_of_block b2).trans h.f1
  · rw [cell_far (by omega)]; exact (World.cell?_of_block b0).trans h.r0
  · rw [cell_far (by omega)]; exact (World.cell?_of_block b0).trans h.r1
  · rw [frozen_setC]; exact (World.frozen?_of_block b0).trans h.s0
  · rw [frozen_setC]; exact (World.frozen?_of_block b0).trans h.s1
  · exact h9.blk (fun g hg _ => heap_setCell_other _ _ g _ (fun e => n9 (by simp at e; rw [hg, e])))
  · exact h1'.blk (fun g hg _ => heap_setCell_other _ _ g _ (fun e => by have := own_block h1' _ hg; simp at e; omega))
end
/-- A cell of the first row is turned. -/
theorem CalSt.week {w : World} {N : Nat} {b n c : Nat} {v1 : Value} {wk : List Int} {ex : List Ex} (h : CalSt w N (.slice (some ⟨b, 0, none⟩) n c) v1 wk ex) (hn : n = wk.length) (j : Nat) (y : Int) :
    CalSt (w.setCell ⟨b, j, none⟩ (.int .i64 y)) N (.slice (some ⟨b, 0, none⟩) n c) v1 (wk.set j y) ex := by
  subst hn
  have hl := h.lt
  have hv := own_block h.h0 b rfl
  have hne : b ≠ N + 1 + 1 := fun e => h.n0 (by simp [Value.ownBlock, e])
  refine ⟨(cell_far hne).trans h.c0, (cell_far hne).trans h.c1, by rw [frozen_setC]; exact h.f0, by rw [frozen_setC]; exact h.f1, (cell_far (by omega)).trans h.r0, (cell_far (by omega)).trans h.r1, by rw [frozen_setC]; exact h.s0, by rw [frozen_setC]; exact h.s1, ?_, h.n0, ?_, by simpa using hl⟩
  · have h0 := h.h0
    unfold RowVal at h0 ⊢
    rw [intF_flat] at h0 ⊢
    have := (h0.stored j (.int .i64 y)).1
    rw [List.length_set, ints, List.map_set]
    exact this
  · exact h.h1.blk (fun g hg _ => heap_setCell_other _ _ g _ (fun e => RowVal.apart (by decide) h.h1 h.h0 g hg (by simp at e; simp [Value.ownBlock, e])))
theorem CalSt.cell3 {w : World} {N : Nat} {b n c : Nat} {v1 : Value} {wk : List Int} {ex : List Ex} (h : CalSt w N (.slice (some ⟨b, 0, none⟩) n c) v1 wk ex) (hn : n = wk.length) (j : Nat) (hj : j < wk.length) : w.cell? ⟨b, j, none⟩ = some (.int .i64 wk[j]) ∧ w.frozen? ⟨b, j, none⟩ = false := by
  subst hn
  have h0 := h.h0
  unfold RowVal at h0
  rw [intF_flat] at h0
  refine ⟨?_, h0.frozenAt j⟩
  rw [h0.cellAt j (by show j < wk.length * 1; omega)]; simp [hj]
section
variable {α : Type} {F : Flat α} {t e : TypeId}
/-- out = append(out, x), with all other blocks kept, and where the row may lie. -/
theorem wpList_append_both (hE : ElemOk F t e) {w1 : World} {ops : Array Oper} {rest : List Oper} {o : Oper} {a : Act} {Q : Exit → Act → World → Prop} (hgd : o.guard = none) (s x : Operand)
    (ho : o.op = .call { callee := .builtin .append, args := #[s, x], argTypes := #[t, t] }) {lo : Nat} {v : Value} {l : List α} (hs : a.eval s = v) (hrow : RowVal F e w1 lo v l) (hlen : l.length ≤ 16777216)
    (y : α) (cs : Array Value) (hcs : cs.toList = F.enc y) (hone : ∀ u ∈ cs.toList, u.oneCell' = true) (H c : Nat) (hH : w1.heap.size = H) (hx : a.eval x = .slice (some ⟨H, 0, none⟩) 1 c) (hlo : lo ≤ w1.heap.size)
    (h : ∀ v' w', RowVal F e w' lo v' (l ++ [y]) → (∀ B, B ≤ lo → B ≤ w1.heap.size → Below B w1 w') → w1.heap.size < w'.heap.size → (∀ k, k < w1.heap.size → v.ownBlock ≠ some k → w'.heap[k]? = w1.heap[k]?) → (∀ g, g < w1.heap.size → v.ownBlock ≠ some g → v'.ownBlock ≠ some g) → wpList Try.prog ops Q rest (a.put o.dst v') w') :
    wpList Try.prog ops Q (o :: rest) a (w1.alloc (.cells cs e)) := by
  obtain ⟨i, z, bytes, ht, hi, hz, hsz, hby, hzs, hpos, hbb⟩ := hE
  have hb2 : (l.length + 1) * bytes ≤ 140737488355328 := Nat.le_trans (Nat.mul_le_mul (show l.length + 1 ≤ 16777217 by omega) hbb) (by omega)
  refine wpList_append_own_at _ hgd s x t ho lo e i z F.sz bytes ht hi hz hsz hby hzs hpos v l.length (l.flatMap F.enc) hs (hrow.alloc _) ⟨H, 0, none⟩ 1 c cs.toList hx (by rw [hcs, F.len, Nat.one_mul]) (news_at hH cs e) hone (by unfold maxLen; omega) hb2 (by simp; omega) (fun v' w' h2 h3 _ h5 => h v' w' (RowVal.snoc hcs h2) (fun B hB hB2 => ?_) ?_ (fun k hk hne => ?_) (fun g hg hne => ?_))
  · refine ((Below.refl B w1).alloc hB2 _).trans (below_grown h3 (by simp; omega) (fun g hg => Nat.le_trans hB (own_block hrow g hg)))
  · have := h3.size; simp at this; omega
  · rw [h3.block k (by simp; omega) (Ne.symm hne)]
    exact (below_alloc w1 (.cells cs e)).block k hk
  · rcases h5 with h5 | h5
    · rw [h5]; exact hne
    · rw [h5]; simp; omega
end
end Go.Proofs.Ytlkolehdikfddaa
/- A plant that is being drawn: its rows, its box, the result's cell. -/
namespace Go.Proofs.Ytlkolehdikfddaa
open Go.RowKit
theorem ndOne : ∀ (a : Nd), ∀ u ∈ ndF.enc a, u.oneCell' = true := by
  intro a u hu
  simp [ndF] at hu
  rcases hu with rfl | rfl <;> rfl
theorem rcOne : ∀ (a : Rc), ∀ u ∈ rcF.enc a, u.oneCell' = true := by
  intro a u hu
  simp [rcF] at hu
  rcases hu with rfl | rfl | rfl <;> rfl
structure PlSt (w0 : World) (base g N P : Nat) (r : PtR) (p : Pt) (RR : List BlR) (vs vr : Value) (st : List Nd) (rc : List Rc) (w : World) : Prop where
  cur : CurAt w base g
  only : Only g (g + 1) w0 w
  gN : g < N
  NP : N < P
  sz : w0.heap.size = N
  cp : CellsAt w P [.slice r.i.a r.i.n r.i.c, .slice r.l.a r.l.n r.l.c, .slice r.w.a r.w.n r.w.c, .slice r.e.a r.e.n r.e.c, .slice r.p.a r.p.n r.p.c, vs, vr]
  cn : CellsAt w N [.slice none 0 0, .slice none 0 0, .slice none 0 0, .slice none 0 0, .slice none 0 0, .slice none 0 0, .slice none 0 0]
  it : RowVal itF 47 w (N + 1) (.slice r.i.a r.i.n r.i.c) p.it
  wk : RowVal intF 3 w (N + 1) (.slice r.w.a r.w.n r.w.c) p.wk
  ex : RowVal exF 122 w (N + 1) (.slice r.e.a r.e.n r.e.c) p.ex
  ch : RowVal pkF 118 w (N + 1) (.slice r.p.a r.p.n r.p.c) p.ch
  itb : ∀ k, (Value.slice r.i.a r.i.n r.i.c).ownBlock = some k → k < P
  wkb : ∀ k, (Value.slice r.w.a r.w.n r.w.c).ownBlock = some k → k < P
  exb : ∀ k, (Value.slice r.e.a r.e.n r.e.c).ownBlock = some k → k < P
  chb : ∀ k, (Value.slice r.p.a r.p.n r.p.c).ownBlock = some k → k < P
  ls : RowVal blF 90 w (P + 1) (.slice r.l.a r.l.n r.l.c) RR
  cs : CondsOwn w (P + 1) RR p.ls
  st : RowVal ndF 70 w (P + 1) vs st
  rc : RowVal rcF 100 w (P + 1) vr rc
section
variable {w0 w w' w9 : World} {base g N P : Nat} {r : PtR} {p : Pt} {RR : List BlR} {vs vr v9 : Value} {st st' : List Nd} {rc rc' : List Rc}
theorem PlSt.frame (h : PlSt w0 base g N P r p RR vs vr st rc w) (hc : CurAt w' base g) (ho : Only g (g + 1) w0 w') (hs : w.heap.size ≤ w'.heap.size) (hk : ∀ k, N ≤ k → k < w.heap.size → w'.heap[k]? = w.heap[k]?) : PlSt w0 base g N P r p RR vs vr st rc w' := by
  have hNP := h.NP
  have hb1 : ∀ {v : Value} {e : TypeId} {z n : Nat} {xs : List Value}, w.ownsRow (N + 1) e z v n xs → ∀ k, v.ownBlock = some k → k < w.heap.size → w'.heap[k]? = w.heap[k]? := fun hv k e hl => hk k (by have := own_block hv k e; omega) hl
  have hb2 : ∀ {v : Value} {e : TypeId} {z n : Nat} {xs : List Value}, w.ownsRow (P + 1) e z v n xs → ∀ k, v.ownBlock = some k → k < w.heap.size → w'.heap[k]? = w.heap[k]? := fun hv k e hl => hk k (by have := own_block hv k e; omega) hl
  exact ⟨hc, ho, h.gN, h.NP, h.sz, h.cp.blk (hk P (by omega) h.cp.1) hs, h.cn.blk (hk N (Nat.le_refl _) h.cn.1) hs, h.it.blk (hb1 h.it), h.wk.blk (hb1 h.wk), h.ex.blk (hb1 h.ex), h.ch.blk (hb1 h.ch), h.itb, h.wkb, h.exb, h.chb, h.ls.blk (hb2 h.ls),
    h.cs.imp fun _ _ _ ⟨c, h1, h2⟩ => ⟨c, h1.blk (fun k hlo _ hl => hk k (by omega) hl), h2⟩, h.st.blk (hb2 h.st), h.rc.blk (hb2 h.rc)⟩
theorem PlSt.call (h : PlSt w0 base g N P r p RR vs vr st rc w) (hc : CurAt w' base g) (ho : Only g (g + 1) w w') : PlSt w0 base g N P r p RR vs vr st rc w' :=
  h.frame hc (h.only.trans ho) ho.size (fun k hN hl => ho.block k hl (by have := h.gN; omega))
theorem PlSt.alloc (h : PlSt w0 base g N P r p RR vs vr st rc w) (o : Obj) : PlSt w0 base g N P r p RR vs vr st rc (w.alloc o) :=
  h.frame (h.cur.keep (below_alloc w o) h.cur.lt) (h.only.trans (Only.of_below (below_alloc w o))) (below_alloc w o).size (fun k _ hl => (below_alloc w o).block k hl)
theorem PlSt.drew (h : PlSt w0 base g N P r p RR vs vr st rc w) : PlSt w0 base g N P r p RR vs vr st rc w.drew := h.frame h.cur (only_drewN h.only 1) (Nat.le_refl _) (fun _ _ _ => rfl)
theorem PlSt.putS (h : PlSt w0 base g N P r p RR vs vr st rc w) (hg9 : w.grownBy w9 vs.ownBlock) (h9 : RowVal ndF 70 w9 (P + 1) v9 st') :
    PlSt w0 base g N P r p RR v9 vr st' rc (w9.setCell ⟨P, 5, none⟩ v9) ∧ w9.cell? ⟨P, 5, none⟩ = some vs ∧ w9.frozen? ⟨P, 5, none⟩ = false := by
  have hNP := h.NP
  have hgN := h.gN
  have hlo := own_block h.st
  have hk1 : ∀ k, k < w.heap.size → vs.ownBlock ≠ some k → w9.heap[k]? = w.heap[k]? := fun k hl hne => hg9.block k hl (Ne.symm hne)
  have hk : ∀ k, k < w.heap.size → vs.ownBlock ≠ some k → k ≠ P → (w9.setCell ⟨P, 5, none⟩ v9).heap[k]? = w.heap[k]? := fun k hl hne hP => (heap_setCell_other w9 ⟨P, 5, none⟩ k v9 hP).trans (hk1 k hl hne)
  have hA : ∀ k, k < P → k < w.heap.size → (w9.setCell ⟨P, 5, none⟩ v9).heap[k]? = w.heap[k]? := fun k h1 hl => hk k hl (fun e => by have := hlo k e; omega) (by omega)
  have hB : Below (P + 1) w w9 := RowVal.below h.st hg9 (Nat.le_refl _) (by have := h.cp.1; omega)
  have hB2 : Below (N + 1) w (w9.setCell ⟨P, 5, none⟩ v9) := (hB.mono (by omega)).setCell (p := ⟨P, 5, none⟩) (by show N + 1 ≤ P; omega) _
  have cp9 := h.cp.keep hB (by omega)
  refine ⟨⟨h.cur.keep hB2 (by omega), only_below h.only (by rw [h.sz]; exact hB2.mono (by omega)), h.gN, h.NP, h.sz, cp9.put 5 v9 (by simp), h.cn.keep hB2 (by omega), h.it.blk (fun k e hl => hA k (h.itb k e) hl), h.wk.blk (fun k e hl => hA k (h.wkb k e) hl), h.ex.blk (fun k e hl => hA k (h.exb k e) hl), h.ch.blk (fun k e hl => hA k (h.chb k e) hl), h.itb, h.wkb, h.exb, h.chb,
    h.ls.blk (fun k e hl => hk k hl (RowVal.apart (by decide) h.ls h.st k e) (by have := own_block h.ls k e; omega)), ?_, h9.far (p := ⟨P, 5, none⟩) (by show P < P + 1; omega) v9, h.rc.blk (fun k e hl => hk k hl (RowVal.apart (by decide) h.rc h.st k e) (by have := own_block h.rc k e; omega))⟩, cp9.2.1 5 _ rfl, cp9.2.2 5⟩
  exact h.cs.imp fun _ _ _ ⟨c, h1, h2⟩ => ⟨c, h1.blk (fun k hlo2 e hl => hk k hl (RowVal.apart (by decide) h1.val h.st k (by have := h1.1; subst this; exact e)) (by omega)), h2⟩
theorem PlSt.putR (h : PlSt w0 base g N P r p RR vs vr st rc w) (hg9 : w.grownBy w9 vr.ownBlock) (h9 : RowVal rcF 100 w9 (P + 1) v9 rc') :
    PlSt w0 base g N P r p RR vs v9 st rc' (w9.setCell ⟨P, 6, none⟩ v9) ∧ w9.cell? ⟨P, 6, none⟩ = some vr ∧ w9.frozen? ⟨P, 6, none⟩ = false := by
  have hNP := h.NP
  have hgN := h.gN
  have hlo := own_block h.rc
  have hk1 : ∀ k, k < w.heap.size → vr.ownBlock ≠ some k → w9.heap[k]? = w.heap[k]? := fun k hl hne => hg9.block k hl (Ne.symm hne)
  have hk : ∀ k, k < w.heap.size → vr.ownBlock ≠ some k → k ≠ P → (w9.setCell ⟨P, 6, none⟩ v9).heap[k]? = w.heap[k]? := fun k hl hne hP => (heap_setCell_other w9 ⟨P, 6, none⟩ k v9 hP).trans (hk1 k hl hne)
  have hA : ∀ k, k < P → k < w.heap.size → (w9.setCell ⟨P, 6, none⟩ v9).heap[k]? = w.heap[k]? := fun k h1 hl => hk k hl (fun e => by have := hlo k e; omega) (by omega)
  have hB : Below (P + 1) w w9 := RowVal.below h.rc hg9 (Nat.le_refl _) (by have := h.cp.1; omega)
  have hB2 : Below (N + 1) w (w9.setCell ⟨P, 6, none⟩ v9) := (hB.mono (by omega)).setCell (p := ⟨P, 6, none⟩) (by show N + 1 ≤ P; omega) _
  have cp9 := h.cp.keep hB (by omega)
  refine ⟨⟨h.cur.keep hB2 (by omega), only_below h.only (by rw [h.sz]; exact hB2.mono (by omega)), h.gN, h.NP, h.sz, cp9.put 6 v9 (by simp), h.cn.keep hB2 (by omega), h.it.blk (fun k e hl => hA k (h.itb k e) hl), h.wk.blk (fun k e hl => hA k (h.wkb k e) hl), h.ex.blk (fun k e hl => hA k (h.exb k e) hl), h.ch.blk (fun k e hl => hA k (h.chb k e) hl), h.itb, h.wkb, h.exb, h.chb,
    h.ls.blk (fun k e hl => hk k hl (RowVal.apart (by decide) h.ls h.rc k e) (by have := own_block h.ls k e; omega)), ?_, h.st.blk (fun k e hl => hk k hl (RowVal.apart (by decide) h.st h.rc k e) (by have := own_block h.st k e; omega)), h9.far (p := ⟨P, 6, none⟩) (by show P < P + 1; omega) v9⟩, cp9.2.1 6 _ rfl, cp9.2.2 6⟩
  exact h.cs.imp fun _ _ _ ⟨c, h1, h2⟩ => ⟨c, h1.blk (fun k hlo2 e hl => hk k hl (RowVal.apart (by decide) h1.val h.rc k (by have := h1.1; subst this; exact e)) (by omega)), h2⟩
theorem RowVal.rows {α : Type} {F : Flat α} {t : TypeId} {w : World} {lo n c : Nat} {A : Option Addr} {l : List α} (h : RowVal F t w lo (.slice A n c) l) (hl : l.length ≤ 16777216) : RowsIn F w A n l := by
  obtain ⟨A2, c2, e, ho⟩ := h.form
  injection e with e1 e2 e3
  subst e1 e2 e3
  exact ho.rows hl
theorem ints_row {w : World} {lo c : Nat} {A : Option Addr} {l : List Int} (h : OwnInts w lo A l.length c l) : RowVal intF 3 w lo (.slice A l.length c) l := by
  unfold RowVal
  rw [intF_flat]
  exact h.2
theorem RowVal.ints {w : World} {lo n c : Nat} {A : Option Addr} {l : List Int} (h : RowVal intF 3 w lo (.slice A n c) l) (hl : l.length ≤ 16777216) : IntsIn w A n l := by
  obtain ⟨A2, c2, e, ho⟩ := h.form
  injection e with e1 e2 e3
  subst e1 e2 e3
  exact (OwnInts.of_row_n h rfl).ints hl
theorem PlSt.plant2 (h : PlSt w0 base g N P r p RR (.slice r.s.a r.s.n r.s.c) (.slice r.q.a r.q.n r.q.c) p.st p.rc w) (hk : ∀ k, N + 1 ≤ k → k < w.heap.size → w'.heap[k]? = w.heap[k]?) (l1 : p.it.length ≤ 100) (l2 : p.ls.length ≤ 100) (l3 : p.wk.length ≤ 100) (l4 : p.ex.length ≤ 100) (l5 : p.ch.length ≤ 100) (l6 : p.st.length ≤ 100) (l7 : p.rc.length ≤ 100) : PlantIn w' r p := by
  have hNP := h.NP
  have hb1 : ∀ {v : Value} {e : TypeId} {z n : Nat} {xs : List Value}, w.ownsRow (N + 1) e z v n xs → ∀ k, v.ownBlock = some k → k < w.heap.size → w'.heap[k]? = w.heap[k]? := fun hv k e hl => hk k (by have := own_block hv k e; omega) hl
  have hb2 : ∀ {v : Value} {e : TypeId} {z n : Nat} {xs : List Value}, w.ownsRow (P + 1) e z v n xs → ∀ k, v.ownBlock = some k → k < w.heap.size → w'.heap[k]? = w.heap[k]? := fun hv k e hl => hk k (by have := own_block hv k e; omega) hl
  have hcs : CondsOwn w' (P + 1) RR p.ls := h.cs.imp fun _ _ _ ⟨c, h1, h2⟩ => ⟨c, h1.blk (fun k hlo _ hl => hk k (by omega) hl), h2⟩
  exact ⟨(h.it.blk (hb1 h.it)).rows (by omega), ⟨RR, (h.ls.blk (hb2 h.ls)).rows (by have := h.cs.1; omega), hcs.imp fun _ _ _ ⟨_, h1, _⟩ => h1.rows (by omega)⟩, (h.wk.blk (hb1 h.wk)).ints (by omega), (h.ex.blk (hb1 h.ex)).rows (by omega), (h.ch.blk (hb1 h.ch)).rows (by omega), (h.st.blk (hb2 h.st)).rows (by omega), (h.rc.blk (hb2 h.rc)).rows (by omega)⟩
end
end Go.Proofs.Ytlkolehdikfddaa
