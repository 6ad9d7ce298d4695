/- Part 19 of the texts of this claim: Rows of the call's own beside each other; Steps through a region that draws its order, by hand: what holds on the way may grow; The walk of levels over lines that are told flat (their conditions not read); Texts and days that are drawn; Step: its cells, and the walks of the laws' own helpers on lists of it; Routing: rows in rows; the walks of the laws' own helpers on lists of it; How routings and planned orders are drawn. -/
import Derived.Test.YtlkolehdikfddaaTr18
import Derived.Test.YtlkolehdikfddaaTr2
import Derived.Test.YtlkolehdikfddaaTr5
import Derived.Test.YtlkolehdikfddaaTr16
import Derived.Test.YtlkolehdikfddaaTr1
import Derived.StillTailTactics
import Derived.Test.YtlkolehdikfddaaTr3
import Derived.Test.YtlkolehdikfddaaTr10
/- Rows of the call's own beside each other. -/
namespace Go.Proofs.Ytlkolehdikfddaa
open Go.RowKit
theorem RowVal.some_of {α : Type} {F : Flat α} {t : TypeId} {w : World} {lo n : Nat} {v : Value} {l : List α} (h : RowVal F t w lo v l) (hn : l.length = n + 1) : ∃ b c, v = .slice (some ⟨b, 0, none⟩) (n + 1) c := by
  obtain ⟨A, c, rfl, ho⟩ := h.form
  obtain ⟨b, rfl⟩ := rowOf_some ho (by omega)
  exact ⟨b, c, by rw [hn]⟩
theorem lit_row {α : Type} {F : Flat α} {t : TypeId} {w : World} {H : Nat} (hH : w.heap.size = H) (cs : Array Value) (x : α) (hcs : cs.toList = F.enc x) : RowsIn F (w.alloc (.cells cs t)) (some ⟨H, 0, none⟩) 1 [x] := by
  refine ⟨rfl, by rw [flatMap_len F.enc F.sz F.len]; rfl, by omega, fun _ => ⟨H, 0, rfl, by simp; omega, fun j u hu => ?_⟩⟩
  have := news_at hH cs t j u (by rw [hcs]; simpa using hu)
  rwa [Addr.add_lit] at this
/-- Rows of two kinds lie in two blocks. -/
theorem RowVal.apart {α β : Type} {F : Flat α} {G : Flat β} {s t : TypeId} {w : World} {lo lo' : Nat} {v v' : Value} {l : List α} {l' : List β} (hst : s ≠ t) (h : RowVal F s w lo v l) (k : RowVal G t w lo' v' l') : ∀ g, v.ownBlock = some g → v'.ownBlock ≠ some g := by
  intro g hg he
  rcases h.2 with ⟨h0, _⟩ | ⟨g1, cap1, cur1, hv1, _, hg1, _⟩
  · subst h0; simp [Value.ownBlock] at hg
  · rcases k.2 with ⟨k0, _⟩ | ⟨g2, cap2, cur2, hv2, _, hg2, _⟩
    · subst k0; simp [Value.ownBlock] at he
    · subst hv1 hv2
      simp only [Value.ownBlock, Option.some.injEq] at hg he
      subst hg
      rw [he] at hg2
      rw [hg1] at hg2
      injection hg2 with e1
      injection e1 with e2 e3
      exact hst e3
theorem RowVal.blk {α : Type} {F : Flat α} {t : TypeId} {w w' : World} {lo : Nat} {v : Value} {l : List α} (h : RowVal F t w lo v l) (hb : ∀ g, v.ownBlock = some g → g < w.heap.size → w'.heap[g]? = w.heap[g]?) : RowVal F t w' lo v l := by
  refine ⟨h.1, ?_⟩
  rcases h.2 with h0 | ⟨g, cap, cur, hv, hlo, hg, hr⟩
  · exact .inl h0
  · refine .inr ⟨g, cap, cur, hv, hlo, ?_, hr⟩
    have hlt : g < w.heap.size := by
      rcases Nat.lt_or_ge g w.heap.size with h1 | h1
      · exact h1
      · rw [Array.getElem?_eq_none h1] at hg; cases hg
    rw [hb g (by subst hv; rfl) hlt]; exact hg
section
variable {α : Type} {F : Flat α} {t e : TypeId}
/-- out = append(out, x), with all other blocks kept. -/
theorem wpList_append_blk (hE : ElemOk F t e) {w1 : World} {ops : Array Oper} {rest : List Oper} {o : Oper} {a : Act} {Q : Exit → Act → World → Prop} (hgd : o.guard = none) (s x : Operand)
    (ho : o.op = .call { callee := .builtin .append, args := #[s, x], argTypes := #[t, t] }) {lo : Nat} {v : Value} {l : List α} (hs : a.eval s = v) (hrow : RowVal F e w1 lo v l) (hlen : l.length ≤ 16777216)
    (y : α) (cs : Array Value) (hcs : cs.toList = F.enc y) (hone : ∀ u ∈ cs.toList, u.oneCell' = true) (H c : Nat) (hH : w1.heap.size = H) (hx : a.eval x = .slice (some ⟨H, 0, none⟩) 1 c) (hlo : lo ≤ w1.heap.size)
    (h : ∀ v' w', RowVal F e w' lo v' (l ++ [y]) → (∀ B, B ≤ lo → B ≤ w1.heap.size → Below B w1 w') → w1.heap.size < w'.heap.size → (∀ k, k < w1.heap.size → v.ownBlock ≠ some k → w'.heap[k]? = w1.heap[k]?) → wpList Try.prog ops Q rest (a.put o.dst v') w') :
    wpList Try.prog ops Q (o :: rest) a (w1.alloc (.cells cs e)) := by
  obtain ⟨i, z, bytes, ht, hi, hz, hsz, hby, hzs, hpos, hbb⟩ := hE
  have hb2 : (l.length + 1) * bytes ≤ 140737488355328 := Nat.le_trans (Nat.mul_le_mul (show l.length + 1 ≤ 16777217 by omega) hbb) (by omega)
  refine wpList_append_own_at _ hgd s x t ho lo e i z F.sz bytes ht hi hz hsz hby hzs hpos v l.length (l.flatMap F.enc) hs (hrow.alloc _) ⟨H, 0, none⟩ 1 c cs.toList hx (by rw [hcs, F.len, Nat.one_mul]) (news_at hH cs e) hone (by unfold maxLen; omega) hb2 (by simp; omega) (fun v' w' h2 h3 _ h5 => h v' w' (RowVal.snoc hcs h2) (fun B hB hB2 => ?_) ?_ (fun k hk hne => ?_))
  · refine ((Below.refl B w1).alloc hB2 _).trans (below_grown h3 (by simp; omega) (fun g hg => Nat.le_trans hB (own_block hrow g hg)))
  · have := h3.size; simp at this; omega
  · rw [h3.block k (by simp; omega) (Ne.symm hne)]
    exact (below_alloc w1 (.cells cs e)).block k hk
end
theorem OwnRows.blk {α : Type} {F : Flat α} {t : TypeId} {w w' : World} {lo n c : Nat} {A : Option Addr} {l : List α} (h : OwnRows F t w lo A n c l) (hb : ∀ g, lo ≤ g → (Value.slice A n c).ownBlock = some g → g < w.heap.size → w'.heap[g]? = w.heap[g]?) : OwnRows F t w' lo A n c l := by
  obtain ⟨rfl, h⟩ := h
  have hb2 := own_block h
  exact ⟨rfl, RowVal.blk (v := .slice A l.length c) h (fun g hg hlt => hb g (hb2 g hg) hg hlt)⟩
theorem OwnRows.grow {α β : Type} {F : Flat α} {G : Flat β} {s t : TypeId} (ht : t ≠ s) {w w' : World} {lo lo' n c : Nat} {A : Option Addr} {v : Value} {l : List α} {x : List β} (hv : RowVal F t w lo' v l) (h : OwnRows G s w lo A n c x) (hb : ∀ k, k < w.heap.size → v.ownBlock ≠ some k → w'.heap[k]? = w.heap[k]?) : OwnRows G s w' lo A n c x :=
  h.blk fun g _ hg hlt => hb g hlt fun he => RowVal.apart ht hv h.val g he (by have := h.1; subst this; exact hg)
theorem RowVal.own_n {α : Type} {F : Flat α} {t : TypeId} {w : World} {lo n c : Nat} {A : Option Addr} {l : List α} (h : RowVal F t w lo (.slice A n c) l) (hn : n = l.length) : OwnRows F t w lo A n c l := by subst hn; exact ⟨rfl, h⟩
/-- All cells from a place on are turned. -/
def setFrom (w : World) (b o : Nat) : List Value → World
  | [] => w
  | v :: t => setFrom (w.setCell ⟨b, o, none⟩ v) b (o + 1) t
def setL (xs : List Value) (o : Nat) : List Value → List Value
  | [] => xs
  | v :: t => setL (xs.set o v) (o + 1) t
theorem stored_all {e : TypeId} {sz lo b n c : Nat} : ∀ (vs : List Value) (o : Nat) (w : World) (xs : List Value), w.ownsRow lo e sz (.slice (some ⟨b, 0, none⟩) n c) n xs → (setFrom w b o vs).ownsRow lo e sz (.slice (some ⟨b, 0, none⟩) n c) n (setL xs o vs)
  | [], _, _, _, h => h
  | v :: t, o, w, xs, h => stored_all t (o + 1) _ _ (h.stored o v).1
theorem setL_mid : ∀ (vs pre mid post : List Value), mid.length = vs.length → setL (pre ++ (mid ++ post)) pre.length vs = pre ++ (vs ++ post)
  | [], pre, mid, post, h => by
    rw [List.length_nil] at h
    rw [List.length_eq_zero_iff.1 h]; rfl
  | v :: t, pre, [], post, h => by simp at h
  | v :: t, pre, m :: mid, post, h => by
    simp only [setL]
    have h1 := setL_mid t (pre ++ [v]) mid post (by simpa using h)
    have h2 : (pre ++ (m :: mid ++ post)).set pre.length v = (pre ++ [v]) ++ (mid ++ post) := by
      rw [List.set_append_right _ _ (Nat.le_refl _), Nat.sub_self]; simp
    rw [h2]
    have h3 : pre.length + 1 = (pre ++ [v]).length := by simp
    rw [h3, h1]; simp
theorem flat_split {α : Type} (F : Flat α) (l : List α) (k : Nat) (hk : k < l.length) : l.flatMap F.enc = (l.take k).flatMap F.enc ++ (F.enc l[k] ++ (l.drop (k + 1)).flatMap F.enc) := by
  have h : l = l.take k ++ l[k] :: l.drop (k + 1) := by rw [List.getElem_cons_drop, List.take_append_drop]
  conv => lhs; rw [h]
  rw [List.flatMap_append, List.flatMap_cons]
/-- An element of a row is replaced, cell by cell. -/
theorem OwnRows.put {α : Type} {F : Flat α} {t : TypeId} {w : World} {lo b n c : Nat} {l : List α} (h : OwnRows F t w lo (some ⟨b, 0, none⟩) n c l) (k : Nat) (hk : k < l.length) (y : α) (o : Nat) (ho : o = k * F.sz) (vs : List Value) (hv : F.enc y = vs) : OwnRows F t (setFrom w b o vs) lo (some ⟨b, 0, none⟩) n c (l.set k y) := by
  refine ⟨by have := h.1; simpa using this, ?_⟩
  have h1 := stored_all vs o w _ h.2
  have hl : (l.take k).length = k := by rw [List.length_take]; omega
  have e : setL (l.flatMap F.enc) o vs = (l.set k y).flatMap F.enc := by
    rw [flat_split F l k hk, flat_split F (l.set k y) k (by simpa using hk)]
    have h2 := setL_mid vs ((l.take k).flatMap F.enc) (F.enc l[k]) ((l.drop (k + 1)).flatMap F.enc) (by rw [← hv, F.len, F.len])
    rw [flatMap_len F.enc F.sz F.len, hl, ← ho] at h2
    rw [h2, List.getElem_set_self, List.take_set_of_le (Nat.le_refl _), List.drop_set_of_lt (by omega), hv]
  rw [e] at h1
  exact h1
theorem flat_set {α : Type} (F : Flat α) (f : Nat) (hf : f < F.sz) (u : Value) (x' : α) : ∀ (l : List α) (k : Nat) (hk : k < l.length) (_ : (F.enc l[k]).set f u = F.enc x'), (l.flatMap F.enc).set (k * F.sz + f) u = (l.set k x').flatMap F.enc
  | [], k, hk, _ => by simp at hk
  | a :: l, 0, _, he => by
    rw [List.flatMap_cons, List.set_append_left _ _ (by rw [F.len]; omega), List.set_cons_zero, List.flatMap_cons]
    simp only [List.getElem_cons_zero] at he
    rw [Nat.zero_mul, Nat.zero_add, he]
  | a :: l, k + 1, hk, he => by
    rw [List.flatMap_cons, List.set_append_right _ _ (by rw [F.len, Nat.succ_mul]; omega), F.len, show (k + 1) * F.sz + f - F.sz = k * F.sz + f by rw [Nat.succ_mul]; omega, List.set_cons_succ, List.flatMap_cons]
    rw [flat_set F f hf u x' l k (by simpa using hk) (by simpa using he)]
/-- One cell of a row is turned. -/
theorem OwnRows.edit {α : Type} {F : Flat α} {t : TypeId} {w : World} {lo b n c : Nat} {l : List α} (h : OwnRows F t w lo (some ⟨b, 0, none⟩) n c l) (k f : Nat) (hk : k < l.length) (hf : f < F.sz) (u : Value) (x' : α) (he : (F.enc l[k]).set f u = F.enc x') :
    OwnRows F t (w.setCell ⟨b, k * F.sz + f, none⟩ u) lo (some ⟨b, 0, none⟩) n c (l.set k x') := by
  refine ⟨by have := h.1; simpa using this, ?_⟩
  have := (h.2.stored (k * F.sz + f) u).1
  rw [flat_set F f hf u x' l k hk he] at this
  exact this
theorem OwnRows.at_cell {α : Type} {F : Flat α} {t : TypeId} {w : World} {lo b n c : Nat} {l : List α} (h : OwnRows F t w lo (some ⟨b, 0, none⟩) n c l) (k f : Nat) (hk : k < l.length) (u : Value) (he : (F.enc l[k])[f]? = some u) : w.cell? ⟨b, k * F.sz + f, none⟩ = some u ∧ w.frozen? ⟨b, k * F.sz + f, none⟩ = false := by
  have hf : f < F.sz := by have := (List.getElem?_eq_some_iff.1 he).1; rwa [F.len] at this
  have hn := h.1
  refine ⟨?_, h.2.frozenAt _⟩
  rw [h.2.cellAt (k * F.sz + f) (by rw [hn]; have : (k + 1) * F.sz ≤ l.length * F.sz := Nat.mul_le_mul_right _ hk; rw [Nat.succ_mul] at this; omega), flatMap_at F.enc F.sz F.len l k f hk hf, he]
theorem own_capD {α : Type} {F : Flat α} {t : TypeId} {w : World} {lo b n c : Nat} {l : List α} (h : OwnRows F t w lo (some ⟨b, 0, none⟩) n c l) : n ≤ c := by
  rcases h.2.2 with ⟨hv, _⟩ | ⟨g2, cap, cur, hv, _, _, hr⟩
  · cases hv
  · have : c = cap := by injection hv
    subst this
    exact hr.1
theorem OwnRows.blt {α : Type} {F : Flat α} {t : TypeId} {w : World} {lo b n c : Nat} {l : List α} (h : OwnRows F t w lo (some ⟨b, 0, none⟩) n c l) (_hn : 0 < n) : b < w.heap.size := by
  rcases h.2.2 with ⟨hv, _⟩ | ⟨g2, cap, cur, hv, _, hg, _⟩
  · cases hv
  · injection hv with e
    injection e with e
    injection e with e
    subst e
    rcases Nat.lt_or_ge b w.heap.size with h1 | h1
    · exact h1
    · rw [Array.getElem?_eq_none h1] at hg; cases hg
/-- A block of the call's own that holds cells, none of them frozen. -/
def CellsAt (w : World) (N : Nat) (cs : List Value) : Prop := N < w.heap.size ∧ (∀ j u, cs[j]? = some u → w.cell? ⟨N, j, none⟩ = some u) ∧ ∀ j, w.frozen? ⟨N, j, none⟩ = false
section
variable {w w' : World} {N : Nat} {cs : List Value}
theorem CellsAt.new (w : World) (cs : Array Value) (t : TypeId) : CellsAt (w.alloc (.cells cs t)) w.heap.size cs.toList := by
  refine ⟨by simp, fun j u hu => ?_, fun j => by simp [go_sem]⟩
  have := news_at (w := w) rfl cs t j u hu
  rwa [Addr.add_lit, Nat.zero_add] at this
theorem CellsAt.blk (h : CellsAt w N cs) (hb : w'.heap[N]? = w.heap[N]?) (hs : w.heap.size ≤ w'.heap.size) : CellsAt w' N cs :=
  ⟨Nat.lt_of_lt_of_le h.1 hs, fun j u hu => (World.cell?_of_block hb).trans (h.2.1 j u hu), fun j => (World.frozen?_of_block hb).trans (h.2.2 j)⟩
theorem CellsAt.only {a b : Nat} (h : CellsAt w N cs) (ho : Only a b w w') (hN : N < a ∨ b ≤ N) : CellsAt w' N cs := h.blk (ho.block N h.1 (by omega)) ho.size
theorem CellsAt.keep {B : Nat} (h : CellsAt w N cs) (hb : Below B w w') (hN : N < B) : CellsAt w' N cs := h.blk (hb.block N hN) hb.size
theorem CellsAt.alloc (h : CellsAt w N cs) (o : Obj) : CellsAt (w.alloc o) N cs := h.keep (below_alloc w o) h.1
theorem CellsAt.drew (h : CellsAt w N cs) : CellsAt w.drew N cs := h
theorem CellsAt.far (h : CellsAt w N cs) {p : Addr} (hp : p.block ≠ N) (v : Value) : CellsAt (w.setCell p v) N cs := h.blk (heap_setCell_other w p N v hp.symm) (by simp)
theorem CellsAt.put (h : CellsAt w N cs) (i : Nat) (v : Value) (hi : i < cs.length) : CellsAt (w.setCell ⟨N, i, none⟩ v) N (cs.set i v) := by
  refine ⟨by simpa using h.1, fun j u hu => ?_, fun j => by simp [h.2.2 j]⟩
  by_cases hj : j = i
  · subst hj
    rw [List.getElem?_set_self hi] at hu
    injection hu with hu
    subst hu
    exact World.cell?_setCell_same _ _ _ (h.2.1 j cs[j] (List.getElem?_eq_getElem hi))
  · rw [List.getElem?_set_ne (Ne.symm hj)] at hu
    rw [World.cell?_setCell_other _ _ _ _ (by simp)]
    exact h.2.1 j u hu
theorem Only.far {g : Nat} {B : Nat} (ho : Only g (g + 1) w w') {p : Addr} (hp : B ≤ p.block) (v : Value) (hB : w.heap.size ≤ B) : Only g (g + 1) w (w'.setCell p v) :=
  only_below ho ((Below.refl w.heap.size w').setCell (by omega) v)
end
end Go.Proofs.Ytlkolehdikfddaa
/- Steps through a region that draws its order, by hand: what holds on the way may grow. -/
namespace Go.Proofs.Ytlkolehdikfddaa
open Go.RowKit
section
variable {P : Program} {ops : Array Oper} {Q : Exit → Act → World → Prop} {S S' : World → Prop}
theorem wpAnyH_more (h : ∀ w, S' w → S w) : ∀ (fuel : Nat) (listed : Array Bool) (a : Act) (w : World), wpAnyH P .any ops Q S' fuel listed a w → wpAnyH P .any ops Q S fuel listed a w
  | 0, _, _, _, hw => hw
  | fuel + 1, _, _, _, hw => ⟨hw.1, fun i hi => wpOp_mono (fun a' w' h' => ⟨h _ h'.1, wpAnyH_more h fuel _ a' w' h'.2⟩) (hw.2 i hi)⟩
/-- From here on more holds. -/
theorem held_more {fuel : Nat} {listed : Array Bool} {a : Act} {w : World} (h : ∀ w, S' w → S w) (hS : S' w) (hw : S' w → wpAnyH P .any ops Q S' fuel listed a w) : wpAnyH P .any ops Q S fuel listed a w := wpAnyH_more h _ _ _ _ (hw hS)
end
/-- What holds of a row that is drawn, beside the cursor. -/
structure RowS {α : Type} (F : Flat α) (t : TypeId) (w0 : World) (base g lo : Nat) (v : Value) (l : List α) (w : World) : Prop where
  cur : CurAt w base g
  only : Only g (g + 1) w0 w
  row : RowVal F t w lo v l
  lt : g < lo
  le : lo ≤ w0.heap.size
section
variable {α : Type} {F : Flat α} {t : TypeId} {w0 w w' : World} {base g lo : Nat} {v : Value} {l : List α}
theorem RowS.size (h : RowS F t w0 base g lo v l w) : w0.heap.size ≤ w.heap.size := h.only.size
theorem RowS.alloc (h : RowS F t w0 base g lo v l w) (o : Obj) : RowS F t w0 base g lo v l (w.alloc o) :=
  ⟨h.cur.keep (below_alloc w o) h.cur.lt, h.only.trans (Only.of_below (below_alloc w o)), h.row.alloc o, h.lt, h.le⟩
theorem RowS.drew (h : RowS F t w0 base g lo v l w) : RowS F t w0 base g lo v l w.drew := ⟨h.cur, only_drewN h.only 1, h.row, h.lt, h.le⟩
theorem RowS.call (h : RowS F t w0 base g lo v l w) (hc : CurAt w' base g) (ho : Only g (g + 1) w w') : RowS F t w0 base g lo v l w' :=
  ⟨hc, h.only.trans ho, h.row.only ho h.lt, h.lt, h.le⟩
theorem RowS.rows {β : Type} {G : Flat β} {A : Option Addr} {n : Nat} {x : List β} (h : RowsIn G w A n x) (hA : ∀ a, A = some a → a.block ≠ g) (ho : Only g (g + 1) w w') : RowsIn G w' A n x := by
  refine ⟨h.1, h.2.1, h.2.2.1, fun hn => ?_⟩
  obtain ⟨b, o, e, hlt, hc⟩ := h.2.2.2 hn
  have hne := hA _ e
  have hb := ho.block b hlt (by simp at hne; omega)
  exact ⟨b, o, e, Nat.lt_of_lt_of_le hlt ho.size, fun j u hu => (World.cell?_of_block hb).trans (hc j u hu)⟩
theorem RowVal.blt (h : RowVal F t w lo v l) : ∀ g, v.ownBlock = some g → g < w.heap.size := by
  intro g hv
  rcases h.2 with ⟨h0, _⟩ | ⟨g1, cap1, cur1, hv1, _, hg1, _⟩
  · subst h0; simp [Value.ownBlock] at hv
  · subst hv1
    simp only [Value.ownBlock, Option.some.injEq] at hv
    subst hv
    rcases Nat.lt_or_ge g1 w.heap.size with h1 | h1
    · exact h1
    · rw [Array.getElem?_eq_none h1] at hg1; cases hg1
theorem grown_blk {z b : Nat} (hg : w.grownBy w' v.ownBlock) (hv : ∀ g, v.ownBlock = some g → g < z) (hb : z ≤ b) (hlt : b < w.heap.size) : w'.heap[b]? = w.heap[b]? :=
  hg.block b hlt (fun e => by have := hv b e.symm; omega)
theorem grown_cell {z b o : Nat} {u : Value} (hg : w.grownBy w' v.ownBlock) (hv : ∀ g, v.ownBlock = some g → g < z) (hb : z ≤ b) (hlt : b < w.heap.size) (h : w.cell? ⟨b, o, none⟩ = some u) : w'.cell? ⟨b, o, none⟩ = some u := (World.cell?_of_block (grown_blk hg hv hb hlt)).trans h
theorem grown_rows {β : Type} {G : Flat β} {z b n : Nat} {x : List β} (hg : w.grownBy w' v.ownBlock) (hv : ∀ g, v.ownBlock = some g → g < z) (hb : z ≤ b) (h : RowsIn G w (some ⟨b, 0, none⟩) n x) : RowsIn G w' (some ⟨b, 0, none⟩) n x := by
  refine ⟨h.1, h.2.1, h.2.2.1, fun hn => ?_⟩
  obtain ⟨b', o, e, hlt, hc⟩ := h.2.2.2 hn
  injection e with e
  injection e with e1 e2
  subst e1 e2
  exact ⟨b, 0, rfl, Nat.lt_of_lt_of_le hlt hg.size, fun j u hu => grown_cell hg hv hb hlt (hc j u hu)⟩
theorem alloc_cell {b o' : Nat} {u : Value} (h : w.cell? ⟨b, o', none⟩ = some u) (o : Obj) : (w.alloc o).cell? ⟨b, o', none⟩ = some u := (World.cell?_alloc_some w _ o (by rw [h]; rfl)).trans h
theorem World.size_alloc1 (w : World) (o : Obj) : (w.drew.alloc o).heap.size = w.heap.size + 1 := by simp
theorem OwnRows.drewO {n c : Nat} {A : Option Addr} (h : OwnRows F t w lo A n c l) : OwnRows F t w.drew lo A n c l := h
theorem only_cell {w w' : World} {g b o : Nat} {u : Value} (ho : Only g (g + 1) w w') (hb : b < w.heap.size) (hne : b ≠ g) (h : w.cell? ⟨b, o, none⟩ = some u) : w'.cell? ⟨b, o, none⟩ = some u := (World.cell?_of_block (ho.block b hb (by omega))).trans h
end
end Go.Proofs.Ytlkolehdikfddaa
/- The walk of levels over lines that are told flat (their conditions not read). -/
namespace Go.Proofs.Ytlkolehdikfddaa
open Go.RowKit
set_option maxRecDepth 100000 in
set_option maxHeartbeats 4000000 in
theorem levelsF_any (A B : Option Addr) (n c m d : Nat) (it : List It) (ls : List Bl) (w : World) (hi : ItemsIn w A n it) (hl : FlatL w B m ls) (h12 : it.length ≤ 12) (h24 : ls.length ≤ 24) (hf : ∀ k (hk : k < ls.length), 0 ≤ findIt it ls[k].1 ∧ 0 ≤ findIt it ls[k].2.1) :
    Calls Try.prog 48 #[.slice A n c, .slice B m d] w (LevPair w (edges it ls) it.length) := by
  have hn := hi.len
  obtain rfl := hi.1
  obtain rfl := hl.num
  have hE := edges_lt hf
  have hEL := edges_len it ls
  have HEA := Lib.hid (fun k hk p q hp hq => edges_at it ls (k := k) hk (p := p) (q := q) hp hq)
  have HF := Lib.hid hf
  clear hf
  generalize edges it ls = E at *
  have HE := Lib.hid hE
  clear hE
  go_enter Try.func48, Try.ntmps48
  go_wp2_with (at_make; refine wpList_make_nums rfl _ _ rfl w.heap.size it.length rfl rfl rfl rfl (by omega) (by omega) ?_; intro w5 hA hA2 hA3)
  have hb0 := hA2
  clear hA2
  have hA0 : NumRow w5 w.heap.size w.heap.size it.length it.length (natI (runTo E it.length 0)) := by
    simp only [runTo]; rw [natI_zero]; exact hA
  clear hA hA3
  generalize hG : w.heap.size = g at hA0
  replace hA0 : NumRow w5 w.heap.size g it.length it.length (natI (runTo E it.length 0)) := by rw [hG]; exact hA0
  have hgl : w.heap.size ≤ g := by omega
  go_loopw [7] (fun i wr => ∃ r : Nat, r ≤ it.length + 1 ∧ i = .int .i64 r ∧ Hid (∀ s < r, turned E it.length s = true) ∧ NumRow wr w.heap.size g it.length it.length (natI (runTo E it.length r)) ∧ Below w.heap.size w wr) (fun i _ => it.length + 2 - (intOf i).toNat)
  case atStart => exact ⟨0, by omega, rfl, fun s h => absurd h (by omega), hA0, hb0⟩
  case round =>
    clear hA0 hb0
    obtain ⟨r, hr, rfl, HT, hA, hb⟩ := hrel
    obtain ⟨T, hTT⟩ : ∃ T, runTo E it.length r = T := ⟨_, rfl⟩
    have HP : Hid (passTo E T ls.length = (runTo E it.length (r + 1), turned E it.length r)) := by
      show _ = _
      unfold turned
      simp only [runTo]
      rw [← hTT, hEL]
    have HBD : Hid (∀ k, ∀ i, (passTo E T k).1.getD i 0 ≤ (it.length + 1) * ls.length + k) := by
      intro k
      refine passTo_bd T _ (fun i => ?_) k
      rw [← hTT]
      refine Nat.le_trans (runTo_bd r i) ?_
      rw [hEL]
      exact Nat.mul_le_mul_right _ (by omega)
    have hmul : (it.length + 1) * ls.length ≤ 13 * 24 := Nat.mul_le_mul (by omega) h24
    rw [hTT] at hA
    have HTT := Lib.hid hTT
    clear hTT
    have hA1 : NumRow wr w.heap.size g it.length it.length (natI (passTo E T 0).1) := hA
    clear hA
    go_wp2_with fail
    go_loopw [8, 20] (fun ch i wr => ∃ k : Nat, k ≤ ls.length ∧ i = .int .i64 k ∧ ch = .bool (passTo E T k).2 ∧ NumRow wr w.heap.size g it.length it.length (natI (passTo E T k).1) ∧ Below w.heap.size w wr) (fun _ i _ => ls.length - (intOf i).toNat)
    case atStart => exact ⟨0, by omega, rfl, rfl, hA1, hb⟩
    case round =>
      clear hA1 hb
      obtain ⟨k, hk, rfl, rfl, hA, hb⟩ := hrel
      by_cases hlt : k < ls.length
      · obtain ⟨b, o, B2, m2, c2, rfl, hbl, hc0, hc1, hc2, hc3, hc4, hc5⟩ := flat_at (hl.keep hb) hlt
        obtain ⟨f1, f2⟩ := HF.out k hlt
        have f3 := findIt_bd it ls[k].1
        have f4 := findIt_bd it ls[k].2.1
        obtain ⟨pn, hpn⟩ : ∃ pn : Nat, findIt it ls[k].1 = (pn : Int) := ⟨(findIt it ls[k].1).toNat, by omega⟩
        obtain ⟨qn, hqn⟩ : ∃ qn : Nat, findIt it ls[k].2.1 = (qn : Int) := ⟨(findIt it ls[k].2.1).toNat, by omega⟩
        have hEk := Lib.hid (HEA.out k hlt pn qn hpn hqn)
        rw [hpn] at f3
        rw [hqn] at f4
        have p1 : pn < it.length := by omega
        have q1 : qn < it.length := by omega
        have p2 : (0 : Int) ≤ (pn : Int) := by omega
        have q2 : (0 : Int) ≤ (qn : Int) := by omega
        have p3 : (pn : Int) < (it.length : Int) := by omega
        have q3 : (qn : Int) < (it.length : Int) := by omega
        obtain ⟨sp, hsp⟩ : ∃ x : Nat, (passTo E T k).1.getD pn 0 = x := ⟨_, rfl⟩
        obtain ⟨sq, hsq⟩ : ∃ x : Nat, (passTo E T k).1.getD qn 0 = x := ⟨_, rfl⟩
        have hbp := HBD.out k pn
        rw [hsp] at hbp
        have hw1 : IntKind.i64.wrap ((sp : Int) + 1) = (sp : Int) + 1 := IntWalk.i64_in _ (by omega)
        have e_p : wr.cell? ⟨g, pn, none⟩ = some (.int .i64 (sp : Int)) := by rw [hA.cellN p1, natD_at, hsp]
        have e_q : wr.cell? ⟨g, qn, none⟩ = some (.int .i64 (sq : Int)) := by rw [hA.cellN q1, natD_at, hsq]
        have hgw : g < wr.heap.size := hA.lt.2
        have hfz : wr.frozen? ⟨g, qn, none⟩ = false := hA.frozen qn
        have HPN := Lib.hid hpn
        have HQN := Lib.hid hqn
        clear f1 f2 f3 f4 hbp
        have hs := below_alloc wr (.cells #[.string ls[k].1, .string ls[k].2.1, .int .i64 ls[k].2.2.1, .int .i64 ls[k].2.2.2.1, .int .i64 ls[k].2.2.2.2.1, .slice B2 m2 c2] 90)
        have hB := below_on hb hs
        have hAA := hA.keep hs
        have d0 : (wr.alloc (.cells #[.string ls[k].1, .string ls[k].2.1, .int .i64 ls[k].2.2.1, .int .i64 ls[k].2.2.2.1, .int .i64 ls[k].2.2.2.2.1, .slice B2 m2 c2] 90)).cell? ⟨wr.heap.size, 0, none⟩ = some (.string ls[k].1) := by simp [go_sem]
        have d1 : (wr.alloc (.cells #[.string ls[k].1, .string ls[k].2.1, .int .i64 ls[k].2.2.1, .int .i64 ls[k].2.2.2.1, .int .i64 ls[k].2.2.2.2.1, .slice B2 m2 c2] 90)).cell? ⟨wr.heap.size, 1, none⟩ = some (.string ls[k].2.1) := by simp [go_sem]
        have dl : wr.heap.size < (wr.alloc (.cells #[.string ls[k].1, .string ls[k].2.1, .int .i64 ls[k].2.2.1, .int .i64 ls[k].2.2.2.1, .int .i64 ls[k].2.2.2.2.1, .slice B2 m2 c2] 90)).heap.size := by simp
        clear e_p e_q hfz hgw
        go_wp2_with fail
        generalize wr.alloc (.cells #[.string ls[k].1, .string ls[k].2.1, .int .i64 ls[k].2.2.1, .int .i64 ls[k].2.2.2.1, .int .i64 ls[k].2.2.2.2.1, .slice B2 m2 c2] 90) = wq at *
        generalize wr.heap.size = N at *
        clear hc0 hc1 hc2 hc3 hc4 hc5 hs hb hbl
        go_region_held3 (fun w' => w'.cell? ⟨N, 0, none⟩ = some (.string ls[k].1) ∧ w'.cell? ⟨N, 1, none⟩ = some (.string ls[k].2.1) ∧ N < w'.heap.size ∧ NumRow w' w.heap.size g it.length it.length (natI (passTo E T k).1) ∧ Below w.heap.size w w')
          (first
            | exact ⟨d0, d1, dl, hAA.drew, hB.drew⟩
            | (go_split_ands; refine ⟨?_, ?_, ?_, ?_, ?_⟩ <;> with_reducible assumption)
            | (go_split_ands; exact ⟨(hb3.cell (by with_reducible assumption)).trans (by with_reducible assumption), (hb3.cell (by with_reducible assumption)).trans (by with_reducible assumption), Nat.lt_of_lt_of_le (by with_reducible assumption) hb3.size, NumRow.keep (by with_reducible assumption) hb3, below_on (by with_reducible assumption) hb3⟩))
          (first
            | ((with_reducible refine (implFindItem_any A it.length c it ls[k].1 _ (hi.keep ?_)).mono ?_); (go_split_ands; with_reducible assumption); rintro e w3 ⟨rfl, hb3⟩; rw [hpn])
            | ((with_reducible refine (implFindItem_any A it.length c it ls[k].2.1 _ (hi.keep ?_)).mono ?_); (go_split_ands; with_reducible assumption); rintro e w3 ⟨rfl, hb3⟩; rw [hqn]))
        all_goals
          go_split_ands
          have hA5 : NumRow w3 w.heap.size g it.length it.length (natI (passTo E T k).1) := by with_reducible assumption
          have hb5 : Below w.heap.size w w3 := by with_reducible assumption
          clear hA hAA
          have e_p : w3.cell? ⟨g, pn, none⟩ = some (.int .i64 (sp : Int)) := by rw [hA5.cellN p1, natD_at, hsp]
          have e_q : w3.cell? ⟨g, qn, none⟩ = some (.int .i64 (sq : Int)) := by rw [hA5.cellN q1, natD_at, hsq]
          have hfz : w3.frozen? ⟨g, qn, none⟩ = false := hA5.frozen qn
          by_cases hle : sq ≤ sp
          · have hi1 : (sq : Int) ≤ (sp : Int) := by omega
            have HS : Hid (passTo E T (k + 1) = ((passTo E T k).1.set qn (sp + 1), true)) := by
              show _ = _
              have := passTo_yes hEk.out (by rw [hsp, hsq]; exact hle)
              rw [hsp] at this; exact this
            clear hpn hqn hle hsp hsq
            go_wp2_with fail
            go_quiet (fail)
            have hq1 := hA5.drewN nq
            have hq2 := below_drewN hb5 nq
            have hg1 : w.heap.size ≤ g := hgl
            go_wp2_with fail
            go_roundw
            case rel => exact ⟨k + 1, by omega, by go_num, by rw [HS.out], by rw [HS.out, ← natI_set]; exact hq1.set qn ((sp : Int) + 1), hq2.setCell (by exact hg1) _⟩
            case measure => simp [intOf]; omega
          · have hi1 : ¬ (sq : Int) ≤ (sp : Int) := by omega
            have HS : Hid (passTo E T (k + 1) = passTo E T k) := passTo_no hEk.out (by rw [hsp, hsq]; exact hle)
            clear hpn hqn hle hsp hsq
            go_wp2_with fail
            go_quiet (fail)
            have hq1 := hA5.drewN nq
            have hq2 := below_drewN hb5 nq
            go_wp2_with fail
            go_roundw
            case rel => exact ⟨k + 1, by omega, by go_num, by rw [HS.out], by rw [HS.out]; exact hq1, hq2⟩
            case measure => simp [intOf]; omega
      · obtain rfl : k = ls.length := by omega
        have HPO := HP.out
        rw [HPO] at hA
        rw [HPO]
        cases ht : turned E it.length r
        · obtain ⟨hs1, hs2⟩ := levI_stop HE.out (by omega) ht
          have HS := Lib.hid hs2
          have HS1 := Lib.hid hs1
          clear hs2 hs1
          go_wp2_with fail
          go_ret2
          exact levPair_mk HS1.out HS.out hA.ownI hb
        · have HT2 : Hid (∀ s < r + 1, turned E it.length s = true) := fun s hs => by
            rcases Nat.lt_or_ge s r with h1 | h1
            · exact HT.out s h1
            · rw [show s = r by omega]; exact ht
          by_cases hrn : r ≤ it.length
          · go_wp2_with fail
            go_roundw
            case rel => exact ⟨r + 1, by omega, by go_num, HT2.out, hA, hb⟩
            case measure => simp [intOf]; omega
          · have HN : Hid (turned E it.length it.length = true) := HT2.out _ (by omega)
            have HS : Hid (levI E it.length = []) := levI_none HN.out
            have hi5 : (it.length : Int) < (r : Int) := by omega
            go_wp2_with fail
            go_ret2
            exact levPair_mk HN.out HS.out (ownI_nil _ _) hb
end Go.Proofs.Ytlkolehdikfddaa
/- Texts and days that are drawn. -/
namespace Go.Proofs.Ytlkolehdikfddaa
open Go.RowKit
def strF : Flat ByteArray := ⟨fun s => [.string s], 1, fun _ => rfl⟩
/-- The ending of a call that draws a text. -/
def DrawnText (P : ByteArray → Prop) (w : World) (base g : Nat) (e : Ending) (w' : World) : Prop := ∃ s : ByteArray, e = .returned (.string s) ∧ P s ∧ CurAt w' base g ∧ Only g (g + 1) w w'
theorem lit_strs {w : World} {H : Nat} {t : TypeId} (hH : w.heap.size = H) (cs : Array Value) (l : List ByteArray) (n : Nat) (hn : n = l.length) (hcs : cs.toList = l.flatMap strF.enc) (hl : l.length ≤ 16777216) : RowsIn strF (w.alloc (.cells cs t)) (some ⟨H, 0, none⟩) n l := by
  refine ⟨hn, by rw [flatMap_len strF.enc 1 strF.len, hn]; rfl, by omega, fun _ => ⟨H, 0, rfl, by simp; omega, fun j u hu => ?_⟩⟩
  have := news_at hH cs t j u (by rw [hcs]; exact hu)
  rwa [Addr.add_lit] at this
set_option maxRecDepth 100000 in
theorem l1Pick_any (A : Option Addr) (n c : Nat) (l : List ByteArray) (w : World) (base g : Nat) (hl : RowsIn strF w A n l) (hn : 1 ≤ n) (hA : ∀ a, A = some a → a.block ≠ g) (hc : CurAt w base g) : Calls Try.prog 36 #[.pointer (some ⟨g, 0, none⟩), .slice A n c] w (DrawnText (fun x => x ∈ l) w base g) := by
  have hln := hl.len
  obtain rfl := hl.1
  go_enter Try.func36, Try.ntmps36
  go_wp2_with fail
  refine (l1Below_any _ _ _ _ (by omega) hc).mono ?_
  rintro e w1 ⟨x, rfl, ⟨x0, x1⟩, hc1, HO⟩
  obtain ⟨k, rfl⟩ : ∃ k : Nat, x = (k : Int) := ⟨_, (Int.toNat_of_nonneg x0).symm⟩
  have hk : k < l.length := by omega
  obtain ⟨b, o, rfl, hb, hcell⟩ := hl.at_ hk
  have hne := hA _ rfl
  have hcell1 : w1.cell? ⟨b, o + k, none⟩ = some (.string l[k]) := by
    rw [World.cell?_of_block (HO.block b hb (by simp at hne; omega))]
    have := hcell 0 _ rfl
    simpa [strF] using this
  go_wp2_with fail
  go_ret
  exact ⟨_, rfl, List.getElem_mem hk, hc1, HO⟩
set_option maxRecDepth 100000 in
set_option maxHeartbeats 1000000 in
theorem l4Day_any (w : World) (base g : Nat) (hc : CurAt w base g) : Calls Try.prog 15 #[.pointer (some ⟨g, 0, none⟩)] w (DrawnInt (fun _ => True) w base g) := by
  go_enter Try.func15, Try.ntmps15
  go_wp2_with fail
  refine (l1Once_any _ _ _ _ (by omega) hc).mono ?_
  rintro e w1 ⟨b, rfl, hc1, HO1⟩
  have hg := hc1.lt
  cases b
  · go_wp2_with fail
    refine (l1Below_any _ _ _ _ (by omega) hc1).mono ?_
    rintro e w2 ⟨x, rfl, _, hc2, HO⟩
    go_wp2_with fail
    go_ret
    exact ⟨_, rfl, trivial, hc2, HO1.trans HO⟩
  · go_wp2_with fail
    refine (l1PickInt_any _ 6 _ [-1, 999, 1000, 998, -9223372036854775808, 9223372036854775807] _ base g (lit_ints rfl _ _ _ rfl rfl (by simp)) (by omega) (fun a ha => by have := Option.some.inj ha; rw [← this]; show w1.heap.size ≠ g; omega) (hc1.keep (below_alloc _ _) hg)).mono ?_
    rintro e w2 ⟨x, rfl, _, hc2, HO⟩
    go_wp2_with fail
    go_ret
    exact ⟨_, rfl, trivial, hc2, (HO1.trans (Only.of_below (below_alloc _ _))).trans HO⟩
end Go.Proofs.Ytlkolehdikfddaa
/- Step: its cells, and the walks of the laws' own helpers on lists of it. -/
namespace Go.Proofs.Ytlkolehdikfddaa
end Go.Proofs.Ytlkolehdikfddaa
/- Routing: rows in rows; the walks of the laws' own helpers on lists of it. -/
namespace Go.Proofs.Ytlkolehdikfddaa
end Go.Proofs.Ytlkolehdikfddaa
/- How routings and planned orders are drawn. -/
namespace Go.Proofs.Ytlkolehdikfddaa
open Go.RowKit
theorem size_mem {L : List ByteArray} (h : L.all (fun s => decide (s.size ≤ 9223372036854775807)) = true) {x : ByteArray} (hx : x ∈ L) : x.size ≤ 9223372036854775807 := of_decide_eq_true (List.all_eq_true.1 h x hx)
set_option maxRecDepth 100000 in
set_option maxHeartbeats 1000000 in
theorem l1Code_any (w : World) (base g : Nat) (hc : CurAt w base g) : Calls Try.prog 14 #[.pointer (some ⟨g, 0, none⟩)] w (DrawnText (fun x => x.size ≤ 9223372036854775807) w base g) := by
  go_enter Try.func14, Try.ntmps14
  go_wp2_with fail
  refine (l1Once_any _ _ _ _ (by omega) hc).mono ?_
  rintro e w1 ⟨b, rfl, hc1, HO1⟩
  have hg := hc1.lt
  cases b
  · go_wp2_with fail
    refine (l1Pick_any _ 6 _ [⟨#[65]⟩, ⟨#[66]⟩, ⟨#[67]⟩, ⟨#[68]⟩, ⟨#[69]⟩, ⟨#[70]⟩] _ base g (lit_strs (t := 9) rfl #[.string ⟨#[65]⟩, .string ⟨#[66]⟩, .string ⟨#[67]⟩, .string ⟨#[68]⟩, .string ⟨#[69]⟩, .string ⟨#[70]⟩] [⟨#[65]⟩, ⟨#[66]⟩, ⟨#[67]⟩, ⟨#[68]⟩, ⟨#[69]⟩, ⟨#[70]⟩] 6 rfl rfl (by simp)) (by omega) (fun a ha => by have := Option.some.inj ha; rw [← this]; show w1.heap.size ≠ g; omega) (hc1.keep (below_alloc _ _) hg)).mono ?_
    rintro e w2 ⟨x, rfl, hx, hc2, HO⟩
    have hx2 := size_mem (by decide) hx
    clear hx
    go_wp2_with fail
    go_ret
    exact ⟨_, rfl, hx2, hc2, (HO1.trans (Only.of_below (below_alloc _ _))).trans HO⟩
  · go_wp2_with fail
    refine (l1Pick_any _ 5 _ [⟨#[]⟩, ⟨#[112]⟩, ⟨#[49, 65]⟩, ⟨#[84, 79, 79, 45, 76, 79, 78, 71, 45]⟩, ⟨#[65, 32, 66]⟩] _ base g (lit_strs (t := 9) rfl #[.string ⟨#[]⟩, .string ⟨#[112]⟩, .string ⟨#[49, 65]⟩, .string ⟨#[84, 79, 79, 45, 76, 79, 78, 71, 45]⟩, .string ⟨#[65, 32, 66]⟩] [⟨#[]⟩, ⟨#[112]⟩, ⟨#[49, 65]⟩, ⟨#[84, 79, 79, 45, 76, 79, 78, 71, 45]⟩, ⟨#[65, 32, 66]⟩] 5 rfl rfl (by simp)) (by omega) (fun a ha => by have := Option.some.inj ha; rw [← this]; show w1.heap.size ≠ g; omega) (hc1.keep (below_alloc _ _) hg)).mono ?_
    rintro e w2 ⟨x, rfl, hx, hc2, HO⟩
    have hx2 := size_mem (by decide) hx
    clear hx
    go_wp2_with fail
    go_ret
    exact ⟨_, rfl, hx2, hc2, (HO1.trans (Only.of_below (below_alloc _ _))).trans HO⟩
end Go.Proofs.Ytlkolehdikfddaa
