/- Part 30 of the texts of this claim: What a plan must be (plain); What of a part is met on the way down from an item, by levels (plain): it is what lies in the item, taken upwards; The walks of PartsOf's two functions: is an item a phantom, is it none; The walk of needs: the list of what was met of the items that are no phantoms; One line on the way down (plain). -/
import Derived.Test.YtlkolehdikfddaaTr18
import Derived.Sort.Walk0
import Derived.Test.YtlkolehdikfddaaTr16
import Derived.Test.YtlkolehdikfddaaTr1
import Derived.Test.YtlkolehdikfddaaTr5
import Derived.Deep.CutRange
import Derived.Test.YtlkolehdikfddaaTr2
import Derived.Test.YtlkolehdikfddaaTr8
import Derived.Test.YtlkolehdikfddaaTr19
/- What a plan must be (plain). -/
namespace Go.Proofs.Ytlkolehdikfddaa
theorem itLt_lt {a b : ByteArray} : itLt a b = true ↔ a.toList < b.toList := by
  unfold itLt
  rw [bytesLess_eq, decide_eq_true_eq]
theorem cat_lt {it : List It} (h : isCat it = true) : ∀ (d i j : Nat) (_ : j = i + d + 1) (hj : j < it.length), (it[i]'(by omega)).1.toList < it[j].1.toList := by
  simp only [isCat, Bool.and_eq_true, List.all_eq_true, List.mem_range] at h
  have step : ∀ j (hj : j < it.length) (h0 : 0 < j), (it[j - 1]'(by omega)).1.toList < it[j].1.toList := by
    intro j hj h0
    have h1 := h.1 j hj
    unfold catAt at h1
    rw [it_getD _ _ hj, it_getD _ _ (show j - 1 < it.length by omega), decide_eq_false (by omega)] at h1
    simp only [Bool.and_eq_true, Bool.false_or] at h1
    exact itLt_lt.1 h1.2
  intro d
  induction d with
  | zero =>
    intro i j hij hj
    have := step j hj (by omega)
    have e : j - 1 = i := by omega
    simp only [e] at this
    exact this
  | succ d ih =>
    intro i j hij hj
    have h1 := ih i (j - 1) (by omega) (by omega)
    have h2 := step j hj (by omega)
    exact List.lt_trans h1 h2
theorem find_self {it : List It} (h : isCat it = true) (k : Nat) (hk : k < it.length) : findIt it it[k].1 = (k : Int) := by
  rcases findIt_cases it it[k].1 with e | ⟨q, hq, e1, e2⟩
  · exfalso
    unfold findIt at e
    split at e
    · omega
    · next hn =>
      rw [List.findIdx?_eq_none_iff] at hn
      have := hn _ (List.getElem_mem hk)
      simp at this
  · have e3 : it[q].1.toList = it[k].1.toList := by simpa using e2
    rcases Nat.lt_trichotomy q k with hlt | heq | hgt
    · have := cat_lt h (k - q - 1) q k (by omega) hk
      rw [e3] at this
      exact absurd this (List.lt_irrefl _)
    · rw [e1, heq]
    · have := cat_lt h (q - k - 1) k q (by omega) hq
      rw [e3] at this
      exact absurd this (List.lt_irrefl _)
def relOf (p : Pt) (o : Pl) : Int × Bool := addWd p.wk p.ex o.2.2.2.1 (-(planX p o.1).2.2.2.1)
def okRel (p : Pt) (o : Pl) : Bool := (o.2.2.1 == (relOf p o).1) && (o.2.2.2.2 == !(relOf p o).2)
def netDay (p : Pt) (ds : List Dm) (l : List Pl) (item : ByteArray) (k : Nat) : Int := stockOf p item + prefS (comeOn p l item) k - prefS (takenOn p ds l item).1 k
def fineItem (p : Pt) (ds : List Dm) (l : List Pl) (x : It) : Bool := (x.2.2.1 == 2) || ((takenOn p ds l x.1).2 && (List.range 1000).all fun d => decide (x.2.2.2.2.2.2.1 ≤ netDay p ds l x.1 (d + 1)))
def isPlan (p : Pt) (ds : List Dm) (l : List Pl) : Bool := (arePlanned p l && areDemands ds) && (l.all (okRel p) && p.it.all (fineItem p ds l))
/-! The program's changes: what is taken counts against, what comes is added. -/
def negL (m : List Int) : List Int := m.map fun x => -x
/-- The first j days turned about. -/
def negTo (m : List Int) (j : Nat) : List Int := (m.take j).map (fun x => -x) ++ m.drop j
def chgR (p : Pt) (ds : List Dm) (l : List Pl) (item : ByteArray) (evs : List (Int × Int × Int)) : List Int := evs.foldl tkStep (negL (takenOn p ds l item).1)
end Go.Proofs.Ytlkolehdikfddaa
/- What of a part is met on the way down from an item, by levels (plain): it is what lies in the item, taken upwards. -/
namespace Go.Proofs.Ytlkolehdikfddaa
/-! Levels of some of the lines settle where those of all lines do. -/
theorem passTo_pot {E : List (Nat × Nat)} {L : Nat → Nat} (hL : ∀ j, j < E.length → L (E.getD j (0, 0)).1 < L (E.getD j (0, 0)).2) {s : List Nat} (hs : ∀ v, s.getD v 0 ≤ L v) (k : Nat) (hk : k ≤ E.length) : ∀ v, (passTo E s k).1.getD v 0 ≤ L v := by
  induction k with
  | zero => exact hs
  | succ k ih =>
    intro v
    have h1 := ih (by omega) v
    have h2 := ih (by omega) (E.getD k (0, 0)).1
    have h3 := hL k (by omega)
    simp only [passTo]
    split
    · by_cases hd : (E.getD k (0, 0)).2 < (passTo E s k).1.length
      · rw [natD_set _ _ _ _ hd]
        split
        · next e => rw [← e]; omega
        · exact h1
      · show ((passTo E s k).1.set _ _).getD v 0 ≤ _
        rw [List.set_eq_of_length_le (by omega)]; exact h1
    · exact h1
theorem runTo_pot {E : List (Nat × Nat)} {n : Nat} {L : Nat → Nat} (hL : ∀ j, j < E.length → L (E.getD j (0, 0)).1 < L (E.getD j (0, 0)).2) (r : Nat) : ∀ v, (runTo E n r).getD v 0 ≤ L v := by
  induction r with
  | zero =>
    intro v
    simp only [runTo]
    rw [List.getD_eq_getElem?_getD, List.getElem?_replicate]
    split <;> simp
  | succ r ih => exact passTo_pot hL ih _ (Nat.le_refl _)
theorem edge_mem {it : List It} {ls : List Bl} {j : Nat} (hj : j < (edges it ls).length) : ∃ x ∈ ls, (edges it ls).getD j (0, 0) = ((findIt it x.1).toNat, (findIt it x.2.1).toNat) := by
  rw [edges_len] at hj
  refine ⟨ls[j], List.getElem_mem hj, ?_⟩
  rw [List.getD_eq_getElem?_getD, List.getElem?_eq_getElem (by rw [edges_len]; exact hj)]
  simp [edges]
/-- What the levels of some lines tell. -/
structure Down (it : List It) (act : List Bl) (lev : List Nat) : Prop where
  len : lev.length = it.length
  fnd : ∀ x ∈ act, 0 ≤ findIt it x.1 ∧ 0 ≤ findIt it x.2.1
  qty : ∀ x ∈ act, 1 ≤ x.2.2.1 ∧ x.2.2.1 ≤ 1000
  rest : ∀ x ∈ act, lev.getD (findIt it x.1).toNat 0 < lev.getD (findIt it x.2.1).toNat 0
  lt : ∀ v, v < it.length → lev.getD v 0 < it.length
theorem down_of {it : List It} {ls : List Bl} {lev : List Nat} (hL : Lev it ls lev) (on : Bl → Bool) :
    turned (edges it (ls.filter on)) it.length it.length = false ∧ Down it (ls.filter on) (runTo (edges it (ls.filter on)) it.length it.length) := by
  have hsub : ∀ x ∈ ls.filter on, x ∈ ls := fun x hx => (List.mem_filter.1 hx).1
  have hpot : ∀ j, j < (edges it (ls.filter on)).length → lev.getD ((edges it (ls.filter on)).getD j (0, 0)).1 0 < lev.getD ((edges it (ls.filter on)).getD j (0, 0)).2 0 := by
    intro j hj
    obtain ⟨x, hx, e⟩ := edge_mem hj
    rw [e]; exact hL.rest x (hsub x hx)
  have hE : ∀ k, k < (edges it (ls.filter on)).length → ((edges it (ls.filter on)).getD k (0, 0)).1 < it.length ∧ ((edges it (ls.filter on)).getD k (0, 0)).2 < it.length := by
    intro j hj
    obtain ⟨x, hx, e⟩ := edge_mem hj
    rw [e]
    have := hL.fnd x (hsub x hx)
    exact ⟨findIt_lt this.1, findIt_lt this.2⟩
  have hP := runTo_pot (E := edges it (ls.filter on)) (n := it.length) (L := fun v => lev.getD v 0) hpot it.length
  have hT : turned (edges it (ls.filter on)) it.length it.length = false := by
    have hrest : ∀ j, j < (edges it (ls.filter on)).length → (runTo (edges it (ls.filter on)) it.length it.length).getD ((edges it (ls.filter on)).getD j (0, 0)).1 0 < (runTo (edges it (ls.filter on)) it.length it.length).getD ((edges it (ls.filter on)).getD j (0, 0)).2 0 := by
      intro j hj
      rcases run_late hE it.length j hj with h | h
      · exact h
      · exfalso
        have h1 := hP ((edges it (ls.filter on)).getD j (0, 0)).1
        have h2 := hL.lt _ (hE j hj).1
        omega
    have hpass : ∀ k, k ≤ (edges it (ls.filter on)).length → passTo (edges it (ls.filter on)) (runTo (edges it (ls.filter on)) it.length it.length) k = (runTo (edges it (ls.filter on)) it.length it.length, false) := by
      intro k
      induction k with
      | zero => intro _; rfl
      | succ k ih =>
        intro hk
        have h1 := ih (by omega)
        have h2 := hrest k (by omega)
        rw [passTo_no (p := ((edges it (ls.filter on)).getD k (0, 0)).1) (q := ((edges it (ls.filter on)).getD k (0, 0)).2) rfl (by rw [h1]; dsimp only; omega), h1]
    unfold turned
    rw [hpass _ (Nat.le_refl _)]
  refine ⟨hT, runTo_len _, fun x hx => hL.fnd x (hsub x hx), fun x hx => hL.qty x (hsub x hx), fun x hx => ?_, fun v hv => ?_⟩
  · obtain ⟨j, hj, rfl⟩ := List.mem_iff_getElem.1 hx
    have hR := (pass_rest (E := edges it (ls.filter on)) _ _ (Nat.le_refl _) hT).2 j (by rw [edges_len]; exact hj)
    have hf := hL.fnd _ (hsub _ hx)
    rw [edges_at it (ls.filter on) hj (p := (findIt it (ls.filter on)[j].1).toNat) (q := (findIt it (ls.filter on)[j].2.1).toNat) (by omega) (by omega)] at hR
    exact hR
  · have := hP v
    have := hL.lt v hv
    omega
/-! The sum upwards without its cap. -/
def nIn (it : List It) (part : ByteArray) (f : ByteArray → Int) (x : Bl) : Int := if x.2.1.toList == part.toList then 1 else if phan it x.2.1 then f x.2.1 else 0
def rawT (it : List It) (part code : ByteArray) (f : ByteArray → Int) (x : Bl) : Int := if x.1.toList == code.toList then x.2.2.1 * nIn it part f x else 0
def raw (it : List It) (part code : ByteArray) (f : ByteArray → Int) (l : List Bl) : Int := (l.map (rawT it part code f)).sum
theorem nIn_pos {it : List It} {part : ByteArray} {f : ByteArray → Int} (hf : ∀ c, 0 ≤ f c) (x : Bl) : 0 ≤ nIn it part f x := by
  unfold nIn; split
  · omega
  · split
    · exact hf _
    · omega
theorem rawT_pos {it : List It} {part code : ByteArray} {f : ByteArray → Int} (hf : ∀ c, 0 ≤ f c) {x : Bl} (hq : 1 ≤ x.2.2.1) : 0 ≤ rawT it part code f x := by
  unfold rawT; split
  · exact Int.mul_nonneg (by omega) (nIn_pos hf x)
  · omega
theorem raw_pos {it : List It} {part code : ByteArray} {f : ByteArray → Int} (hf : ∀ c, 0 ≤ f c) {l : List Bl} (hq : ∀ x ∈ l, 1 ≤ x.2.2.1) : 0 ≤ raw it part code f l := by
  unfold raw
  induction l with
  | nil => simp
  | cons x t ih =>
    rw [List.map_cons, List.sum_cons]
    have h1 := rawT_pos (it := it) (part := part) (code := code) hf (hq x List.mem_cons_self)
    have h2 := ih (fun y hy => hq y (List.mem_cons_of_mem _ hy))
    omega
theorem raw_succ (it : List It) (part code : ByteArray) (f : ByteArray → Int) (l : List Bl) (k : Nat) (h : k < l.length) : raw it part code f (l.take (k + 1)) = raw it part code f (l.take k) + rawT it part code f l[k] := by
  unfold raw
  rw [List.take_add_one, List.getElem?_eq_getElem h, Option.toList_some, List.map_append, List.sum_append]
  simp only [List.map_cons, List.map_nil, List.sum_cons, List.sum_nil]; omega
theorem raw_mem {it : List It} {part code : ByteArray} {f : ByteArray → Int} (hf : ∀ c, 0 ≤ f c) {l : List Bl} (hq : ∀ x ∈ l, 1 ≤ x.2.2.1) {x : Bl} (hx : x ∈ l) : rawT it part code f x ≤ raw it part code f l := by
  unfold raw
  induction l with
  | nil => simp at hx
  | cons y t ih =>
    rw [List.map_cons, List.sum_cons]
    have h1 := rawT_pos (it := it) (part := part) (code := code) hf (hq y List.mem_cons_self)
    have h2 := raw_pos (it := it) (part := part) (code := code) hf (fun z hz => hq z (List.mem_cons_of_mem _ hz)) (l := t)
    unfold raw at h2
    rcases List.mem_cons.1 hx with e | e
    · subst e; omega
    · have := ih (fun z hz => hq z (List.mem_cons_of_mem _ hz)) e
      omega
theorem thrS_raw (it : List It) (part code : ByteArray) (f : ByteArray → Int) (hf : ∀ c, 0 ≤ f c) : ∀ (l : List Bl), (∀ x ∈ l, 1 ≤ x.2.2.1) → ∀ s : Int, 0 ≤ s → s ≤ 1000000001 → l.foldl (thrS it part code f) s = min (s + raw it part code f l) 1000000001 := by
  intro l
  induction l with
  | nil => intro _ s h0 h1; simp [raw]; omega
  | cons x t ih =>
    intro hq s h0 h1
    have hx : thrS it part code f s x = min (s + rawT it part code f x) 1000000001 := by
      unfold thrS rawT nIn
      split
      · split
        · rw [Int.mul_one]
        · split
          · rfl
          · rw [Int.mul_zero]; omega
      · omega
    have h2 := rawT_pos (it := it) (part := part) (code := code) hf (hq x List.mem_cons_self)
    have h3 := raw_pos (it := it) (part := part) (code := code) hf (fun z hz => hq z (List.mem_cons_of_mem _ hz)) (l := t)
    rw [List.foldl_cons, ih (fun z hz => hq z (List.mem_cons_of_mem _ hz)) _ (by rw [hx]; omega) (by rw [hx]; omega), hx]
    have h4 : raw it part code f (x :: t) = rawT it part code f x + raw it part code f t := by unfold raw; rw [List.map_cons, List.sum_cons]
    rw [h4]; omega
section
variable {it : List It} {ls : List Bl} {lv : List Nat} (hL : Lev it ls lv) (on : Bl → Bool) (part : ByteArray)
include hL
theorem unitV_raw (code : ByteArray) (h0 : 0 ≤ findIt it code) (h : unitV it ls on part code ≤ 1000000000) : raw it part code (unitV it ls on part) (ls.filter on) = unitV it ls on part code := by
  have h1 := thrS_raw it part code (unitV it ls on part) (fun c => (unitV_bd hL on part c).1) (ls.filter on) (fun x hx => (hL.qty x (List.mem_filter.1 hx).1).1) 0 (by omega) (by omega)
  rw [← thr_force, ← unitV_eq hL on part code h0] at h1
  omega
/-- In what lies no lower than the part, nothing of it lies. -/
theorem unitV_none (d : Nat) : ∀ code, 0 ≤ findIt it code → it.length - lv.getD (findIt it code).toNat 0 ≤ d → lv.getD (findIt it part).toNat 0 ≤ lv.getD (findIt it code).toNat 0 → unitV it ls on part code = 0 := by
  induction d with
  | zero =>
    intro code h0 hd _
    have := hL.lt _ (findIt_lt h0)
    omega
  | succ d ih =>
    intro code h0 hd hp
    rw [unitV_eq hL on part code h0]
    have : ∀ (l : List Bl), (∀ x ∈ l, x ∈ ls) → l.foldl (thrStep it on part code (unitV it ls on part)) 0 = 0 := by
      intro l
      induction l with
      | nil => intro _; rfl
      | cons x t iht =>
        intro hx
        rw [List.foldl_cons]
        have hs : thrStep it on part code (unitV it ls on part) 0 x = 0 := by
          unfold thrStep
          by_cases hc : (on x && (x.1.toList == code.toList)) = true
          · rw [if_pos hc]
            simp only [Bool.and_eq_true, beq_iff_eq] at hc
            have hm := hx x List.mem_cons_self
            have h1 := hL.rest x hm
            rw [findIt_congr hc.2] at h1
            have h2 := hL.fnd x hm
            by_cases he : (x.2.1.toList == part.toList) = true
            · exfalso
              rw [beq_iff_eq] at he
              rw [findIt_congr he] at h1
              omega
            · rw [if_neg he]
              split
              · rw [ih x.2.1 h2.2 (by have := hL.lt _ (findIt_lt h2.2); omega) (by omega), Int.mul_zero]; omega
              · rfl
          · rw [if_neg hc]
        rw [hs]
        exact iht (fun y hy => hx y (List.mem_cons_of_mem _ hy))
    exact this ls (fun x hx => hx)
end
/-! The sum downwards. -/
theorem sum_range_one (n : Nat) (f g : Nat → Int) (k : Nat) (hk : k < n) (h : ∀ j, j ≠ k → f j = g j) : ((List.range n).map g).sum = ((List.range n).map f).sum - f k + g k := by
  induction n with
  | zero => omega
  | succ n ih =>
    rw [List.range_succ, List.map_append, List.map_append, List.sum_append, List.sum_append]
    simp only [List.map_cons, List.map_nil, List.sum_cons, List.sum_nil]
    by_cases he : k = n
    · subst he
      have e : (List.range k).map f = (List.range k).map g := List.map_congr_left (fun j hj => h j (by have := List.mem_range.1 hj; omega))
      rw [e]; omega
    · rw [ih (by omega), h n (Ne.symm he)]; omega
theorem sum_range_zero (n : Nat) (f : Nat → Int) (h : ∀ j, j < n → f j = 0) : ((List.range n).map f).sum = 0 := by
  induction n with
  | zero => rfl
  | succ n ih =>
    rw [List.range_succ, List.map_append, List.sum_append, ih (fun j hj => h j (by omega))]
    simp only [List.map_cons, List.map_nil, List.sum_cons, List.sum_nil]
    rw [h n (by omega)]; rfl
def codeAt (it : List It) (k : Nat) : ByteArray := (it.getD k itNone).1
def kindPh (it : List It) (k : Nat) : Bool := (it.getD k itNone).2.2.1 == 2
def opn (it : List It) (a0 k : Nat) : Bool := decide (k = a0) || kindPh it k
/-- Which items the walk downwards has passed: by level, then by place. -/
def passed (lev : List Nat) (l i k : Nat) : Bool := decide (lev.getD k 0 < l) || (decide (lev.getD k 0 = l) && decide (k < i))
def psiT (it : List It) (U : ByteArray → Int) (a0 : Nat) (dn : Nat → Bool) (m : List Int) (k : Nat) : Int := if (opn it a0 k && !(dn k)) = true then m.getD k 0 * U (codeAt it k) else 0
def psi (it : List It) (U : ByteArray → Int) (a0 pi : Nat) (dn : Nat → Bool) (m : List Int) : Int := ((List.range it.length).map (psiT it U a0 dn m)).sum + m.getD pi 0
structure Pcs (it : List It) (U : ByteArray → Int) (lev : List Nat) (a0 pi : Nat) (dn : Nat → Bool) (m : List Int) (T : Int) : Prop where
  len : m.length = it.length
  bd : ∀ k, 0 ≤ m.getD k 0 ∧ m.getD k 0 ≤ 1000000000
  low : ∀ k, m.getD k 0 ≠ 0 → lev.getD a0 0 ≤ lev.getD k 0
  cap : ∀ k, k < it.length → m.getD k 0 ≠ 0 → opn it a0 k = true → dn k = false → U (codeAt it k) ≤ 1000000000
  sum : pi ≠ a0 → psi it U a0 pi dn m = T
theorem set_z (n a k : Nat) (q : Int) (ha : a < n) : ((List.replicate n (0 : Int)).set a q).getD k 0 = if a = k then q else 0 := by
  rw [intD_set _ _ _ _ (by simpa using ha)]
  split
  · rfl
  · rw [List.getD_eq_getElem?_getD, List.getElem?_replicate]; split <;> rfl
theorem Pcs.start {it : List It} {U : ByteArray → Int} {lev : List Nat} {a0 pi : Nat} {q : Int} (ha : a0 < it.length) (hq : 0 ≤ q ∧ q ≤ 1000000000) (hU : U (codeAt it a0) ≤ 1000000000) :
    Pcs it U lev a0 pi (passed lev 0 0) ((List.replicate it.length 0).set a0 q) (q * U (codeAt it a0)) := by
  have hnd : ∀ k, passed lev 0 0 k = false := fun k => by simp [passed]
  refine ⟨by simp, fun k => ?_, fun k hk => ?_, fun k hk hm ho hd => ?_, fun hne => ?_⟩
  · rw [set_z _ _ _ _ ha]; split <;> omega
  · rw [set_z _ _ _ _ ha] at hk
    split at hk
    · next e => rw [e]; exact Nat.le_refl _
    · simp at hk
  · rw [set_z _ _ _ _ ha] at hm
    split at hm
    · next e => rw [← e]; exact hU
    · simp at hm
  · unfold psi
    rw [set_z _ _ _ _ ha, if_neg (Ne.symm hne), Int.add_zero]
    rw [sum_range_one it.length (fun _ => 0) _ a0 ha (fun j hj => ?_), sum_range_zero _ _ (fun _ _ => rfl)]
    · unfold psiT
      rw [if_pos (by rw [hnd]; simp [opn]), set_z _ _ _ _ ha, if_pos rfl]; omega
    · unfold psiT
      rw [set_z _ _ _ _ ha, if_neg (Ne.symm hj)]; simp
theorem Pcs.congr {it : List It} {U : ByteArray → Int} {lev : List Nat} {a0 pi : Nat} {dn dn' : Nat → Bool} {m : List Int} {T : Int} (h : Pcs it U lev a0 pi dn m T) (he : ∀ k, k < it.length → dn' k = dn k) : Pcs it U lev a0 pi dn' m T := by
  refine ⟨h.len, h.bd, h.low, fun k hk hm ho hd => h.cap k hk hm ho (by rw [← he k hk]; exact hd), fun hne => ?_⟩
  rw [← h.sum hne]
  unfold psi
  congr 2
  refine List.map_congr_left (fun k hk => ?_)
  unfold psiT
  rw [he k (List.mem_range.1 hk)]
/-- An item that is passed: its own share leaves the sum. -/
theorem Pcs.pass {it : List It} {U : ByteArray → Int} {lev : List Nat} {a0 pi : Nat} {dn dn' : Nat → Bool} {m : List Int} {T : Int} (h : Pcs it U lev a0 pi dn m T) {a : Nat} (ha : a < it.length) (h1 : dn a = false) (h2 : dn' a = true) (he : ∀ k, k ≠ a → dn' k = dn k) :
    Pcs it U lev a0 pi dn' m (T - (if opn it a0 a = true then m.getD a 0 * U (codeAt it a) else 0)) := by
  refine ⟨h.len, h.bd, h.low, fun k hk hm ho hd => ?_, fun hne => ?_⟩
  · by_cases hka : k = a
    · subst hka; rw [h2] at hd; cases hd
    · exact h.cap k hk hm ho (by rw [← he k hka]; exact hd)
  · rw [← h.sum hne]
    unfold psi
    rw [sum_range_one it.length (psiT it U a0 dn m) _ a ha (fun j hj => ?_)]
    · have e1 : psiT it U a0 dn m a = if opn it a0 a = true then m.getD a 0 * U (codeAt it a) else 0 := by
        unfold psiT; rw [h1]; simp
      have e2 : psiT it U a0 dn' m a = 0 := by
        unfold psiT; rw [h2]; simp
      rw [e1, e2]; omega
    · unfold psiT; rw [he j hj]
/-- More of an item that is not passed yet. -/
theorem Pcs.more {it : List It} {U : ByteArray → Int} {lev : List Nat} {a0 pi : Nat} {dn : Nat → Bool} {m : List Int} {T : Int} (h : Pcs it U lev a0 pi dn m T) {k : Nat} (hk : k < it.length) (hd : dn k = false) (hk0 : k ≠ a0) (hlow : lev.getD a0 0 ≤ lev.getD k 0) (hpk : pi ≠ a0 → kindPh it pi = false)
    {y : Int} (hy : 0 ≤ y) (hb : m.getD k 0 + y ≤ 1000000000) (hcap : y ≠ 0 → kindPh it k = true → U (codeAt it k) ≤ 1000000000) :
    Pcs it U lev a0 pi dn (m.set k (m.getD k 0 + y)) (T + y * (if k = pi then 1 else if kindPh it k = true then U (codeAt it k) else 0)) := by
  have hlk : k < m.length := by rw [h.len]; exact hk
  have hat : ∀ j, (m.set k (m.getD k 0 + y)).getD j 0 = if k = j then m.getD k 0 + y else m.getD j 0 := fun j => intD_set _ _ _ _ hlk
  have hop : opn it a0 k = kindPh it k := by unfold opn; rw [decide_eq_false hk0]; rfl
  refine ⟨by simp [h.len], fun j => ?_, fun j hj => ?_, fun j hj hm ho hdj => ?_, fun hne => ?_⟩
  · rw [hat]
    have h1 := h.bd k
    have h2 := h.bd j
    split <;> omega
  · rw [hat] at hj
    split at hj
    · next e => rw [← e]; exact hlow
    · exact h.low j hj
  · rw [hat] at hm
    split at hm
    · next e =>
      subst e
      by_cases hy0 : y = 0
      · subst hy0
        exact h.cap k hk (by simpa using hm) ho hd
      · exact hcap hy0 (by rw [← hop]; exact ho)
    · exact h.cap j hj hm ho hdj
  · have e0 := h.sum hne
    unfold psi at e0 ⊢
    rw [sum_range_one it.length (psiT it U a0 dn m) _ k hk (fun j hj => ?_)]
    · have e1 : psiT it U a0 dn m k = if kindPh it k = true then m.getD k 0 * U (codeAt it k) else 0 := by
        unfold psiT; rw [hop, hd]; simp
      have e2 : psiT it U a0 dn (m.set k (m.getD k 0 + y)) k = if kindPh it k = true then (m.getD k 0 + y) * U (codeAt it k) else 0 := by
        unfold psiT; rw [hop, hd, hat, if_pos rfl]; simp
      rw [e1, e2, hat]
      by_cases hkp : k = pi
      · subst hkp
        rw [if_pos rfl, if_pos rfl, hpk hne]
        simp only [Bool.false_eq_true, if_false]; omega
      · rw [if_neg hkp, if_neg hkp]
        split
        · rw [Int.add_mul]; omega
        · omega
    · unfold psiT; rw [hat, if_neg (Ne.symm hj)]
/-- When all are passed, the sum is what was met of the part. -/
theorem Pcs.all {it : List It} {U : ByteArray → Int} {lev : List Nat} {a0 pi : Nat} {dn : Nat → Bool} {m : List Int} {T : Int} (h : Pcs it U lev a0 pi dn m T) (hd : ∀ k, k < it.length → dn k = true) (hne : pi ≠ a0) : m.getD pi 0 = T := by
  have := h.sum hne
  unfold psi at this
  rw [sum_range_zero _ _ (fun j hj => by unfold psiT; rw [hd j hj]; simp)] at this
  omega
/-! What a list of needs holds of an item. -/
def inSum (l : List Nd) (c : ByteArray) : Int := (l.map fun x => if x.1.toList == c.toList then x.2 else 0).sum
theorem inSum_snoc (l : List Nd) (c : ByteArray) (x : Nd) : inSum (l ++ [x]) c = inSum l c + (if x.1.toList == c.toList then x.2 else 0) := by
  unfold inSum
  rw [List.map_append, List.sum_append]
  simp only [List.map_cons, List.map_nil, List.sum_cons, List.sum_nil]; omega
end Go.Proofs.Ytlkolehdikfddaa
/- The walks of PartsOf's two functions: is an item a phantom, is it none. -/
namespace Go.Proofs.Ytlkolehdikfddaa
open Go.RowKit
set_option maxRecDepth 100000 in
set_option maxHeartbeats 1000000 in
theorem partsPh_any (x : It) (w : World) : Calls Try.prog 28 #[.agg #[.string x.1, .string x.2.1, .int .i64 x.2.2.1, .int .i64 x.2.2.2.1, .int .i64 x.2.2.2.2.1, .int .i64 x.2.2.2.2.2.1, .int .i64 x.2.2.2.2.2.2.1, .int .i64 x.2.2.2.2.2.2.2]] w fun e w' => e = .returned (.bool (x.2.2.1 == 2)) ∧ Below w.heap.size w w' := by
  have hb := below_alloc w (.cells #[.string x.1, .string x.2.1, .int .i64 x.2.2.1, .int .i64 x.2.2.2.1, .int .i64 x.2.2.2.2.1, .int .i64 x.2.2.2.2.2.1, .int .i64 x.2.2.2.2.2.2.1, .int .i64 x.2.2.2.2.2.2.2] 47)
  go_enter Try.func28, Try.ntmps28
  go_wp2_with fail
  go_ret
  exact ⟨rfl, hb⟩
set_option maxRecDepth 100000 in
set_option maxHeartbeats 1000000 in
theorem partsNo_any (x : It) (w : World) : Calls Try.prog 30 #[.agg #[.string x.1, .string x.2.1, .int .i64 x.2.2.1, .int .i64 x.2.2.2.1, .int .i64 x.2.2.2.2.1, .int .i64 x.2.2.2.2.2.1, .int .i64 x.2.2.2.2.2.2.1, .int .i64 x.2.2.2.2.2.2.2]] w fun e w' => e = .returned (.bool (x.2.2.1 != 2)) ∧ Below w.heap.size w w' := by
  have hb := below_alloc w (.cells #[.string x.1, .string x.2.1, .int .i64 x.2.2.1, .int .i64 x.2.2.2.1, .int .i64 x.2.2.2.2.1, .int .i64 x.2.2.2.2.2.1, .int .i64 x.2.2.2.2.2.2.1, .int .i64 x.2.2.2.2.2.2.2] 47)
  go_enter Try.func30, Try.ntmps30
  go_wp2_with fail
  go_ret
  exact ⟨rfl, hb⟩
end Go.Proofs.Ytlkolehdikfddaa
/- The walk of needs: the list of what was met of the items that are no phantoms. -/
namespace Go.Proofs.Ytlkolehdikfddaa
open Go.RowKit
theorem ndOneP : ∀ (a : Nd), ∀ u ∈ ndF.enc a, u.oneCell' = true := by
  intro a u hu
  simp [ndF] at hu
  rcases hu with rfl | rfl <;> rfl
/-- What the list holds of the part behind the first k items. -/
def inTill (M : List Int) (pi k : Nat) : Int := if pi < k then M.getD pi 0 else 0
theorem code_at_part {it : List It} (hc : isCat it = true) {part : ByteArray} (hp : 0 ≤ findIt it part) {k : Nat} (hk : k < it.length) : (it[k].1.toList == part.toList) = decide (k = (findIt it part).toNat) := by
  rcases findIt_cases it part with e | ⟨q, hq, e1, e2⟩
  · omega
  · rw [e1, Int.toNat_natCast]
    rw [beq_iff_eq] at e2
    by_cases hkq : k = q
    · subst hkq
      rw [e2]; simp
    · rw [decide_eq_false hkq]
      cases h : it[k].1.toList == part.toList
      · rfl
      · exfalso
        rw [beq_iff_eq] at h
        have h1 := find_self hc k hk
        rw [findIt_congr h, e1] at h1
        omega
theorem inTill_yes {it : List It} (hc : isCat it = true) {part : ByteArray} (hp : 0 ≤ findIt it part) {k : Nat} (hk : k < it.length) {M : List Int} {l : List Nd} (h : inSum l part = inTill M (findIt it part).toNat k) : inSum (l ++ [(it[k].1, M.getD k 0)]) part = inTill M (findIt it part).toNat (k + 1) := by
  rw [inSum_snoc, h]
  dsimp only
  rw [code_at_part hc hp hk]
  unfold inTill
  by_cases e : k = (findIt it part).toNat
  · rw [decide_eq_true e, if_pos rfl, if_neg (by omega), if_pos (by omega), ← e]; omega
  · rw [decide_eq_false e]
    simp only [Bool.false_eq_true, if_false, Int.add_zero]
    by_cases h2 : (findIt it part).toNat < k
    · rw [if_pos h2, if_pos (by omega)]
    · rw [if_neg h2, if_neg (by omega)]
theorem inTill_no {it : List It} {part : ByteArray} {k : Nat} {M : List Int} {l : List Nd} (h : inSum l part = inTill M (findIt it part).toNat k) (h0 : k = (findIt it part).toNat → M.getD k 0 = 0) : inSum l part = inTill M (findIt it part).toNat (k + 1) := by
  rw [h]
  unfold inTill
  by_cases e : k = (findIt it part).toNat
  · rw [if_neg (by omega), if_pos (by omega), ← e, h0 e]
  · by_cases h2 : (findIt it part).toNat < k
    · rw [if_pos h2, if_pos (by omega)]
    · rw [if_neg h2, if_neg (by omega)]
set_option maxRecDepth 100000 in
set_option maxHeartbeats 4000000 in
theorem needs_any (A B : Option Addr) (n c m d : Nat) (it : List It) (M : List Int) (part : ByteArray) (w : World) (hi : ItemsIn w A n it) (hM : IntsIn w B m M) (hlen : M.length = it.length) (h12 : it.length ≤ 12) (hcat : isCat it = true) (hok : ∀ x ∈ it, okIt x) (hp : 0 ≤ findIt it part) (hk : M.getD (findIt it part).toNat 0 ≠ 0 → kindPh it (findIt it part).toNat = false) (hpos : ∀ k, 0 ≤ M.getD k 0 ∧ M.getD k 0 ≤ 1000000000) :
    Calls Try.prog 29 #[.slice A n c, .slice B m d, .func (.func 30) #[] #[]] w fun e w' => ∃ (l : List Nd) (v : Value), e = .returned v ∧ RowVal ndF 70 w' w.heap.size v l ∧ l.length ≤ it.length ∧ (∀ x ∈ l, okNd x ∧ (0 ≤ x.2 ∧ x.2 ≤ 1000000000)) ∧ inSum l part = M.getD (findIt it part).toNat 0 ∧ Below w.heap.size w w' := by
  obtain rfl := hi.1
  obtain rfl := hM.1
  have HLEN := Lib.hid hlen
  have HCAT := Lib.hid hcat
  have HOK := Lib.hid hok
  have HP := Lib.hid hp
  have HK := Lib.hid hk
  have HPOS := Lib.hid hpos
  have hl1 : M.length ≤ 12 := by omega
  have hl2 : it.length ≤ M.length := by omega
  clear hlen hcat hok hp hk hpos
  have hb0 := below_alloc w (.cells #[] 70)
  have hr0 : RowVal ndF 70 (w.alloc (.cells #[] 70)) w.heap.size (.slice (some ⟨w.heap.size, 0, none⟩) 0 0) [] := empty_row rfl (Nat.le_refl _)
  go_enter Try.func29, Try.ntmps29
  go_wp2_with fail
  generalize w.alloc (.cells #[] 70) = w0 at *
  go_loopw [7, 13] (fun v i wr => ∃ (k : Nat) (l : List Nd), k ≤ it.length ∧ i = .int .i64 k ∧ l.length ≤ k ∧ Hid (∀ x ∈ l, okNd x ∧ (0 ≤ x.2 ∧ x.2 ≤ 1000000000)) ∧ Hid (inSum l part = inTill M (findIt it part).toNat k) ∧ RowVal ndF 70 wr w.heap.size v l ∧ Below w.heap.size w wr) (fun _ i _ => it.length - (intOf i).toNat)
  case atStart => exact ⟨0, [], by omega, rfl, by simp, Lib.hid (by simp), Lib.hid (by simp [inSum, inTill]), hr0, hb0⟩
  case round =>
    clear hr0 hb0
    obtain ⟨k, l, hk, rfl, hlk, HOL, HS, hrow, hb⟩ := hrel
    by_cases hlt : k < it.length
    case neg =>
      obtain rfl : k = it.length := by omega
      have HE : Hid (inSum l part = M.getD (findIt it part).toNat 0) := by
        show _ = _
        rw [HS.out]; unfold inTill; rw [if_pos (findIt_lt HP.out)]
      go_wp2_with fail
      go_ret
      exact ⟨l, _, rfl, hrow, hlk, HOL.out, HE.out, hb⟩
    have ki : (k : Int) < (it.length : Int) := by omega
    have kM : (k : Int) < (M.length : Int) := by omega
    obtain ⟨bi, oi, hae, hbi, t0, t1, t2, t3, t4, t5, t6, t7⟩ := item_at (hi.keep hb) hlt
    subst hae
    obtain ⟨bm, om, hme, hbm0, m00⟩ := IntsIn.at_ hM (show k < M.length by omega)
    subst hme
    have m0 := (hb.cell (p := ⟨bm, om + k, none⟩) hbm0).trans m00
    have hbm : bm < wr.heap.size := Nat.lt_of_lt_of_le hbm0 hb.size
    have hvb := RowVal.blt hrow
    clear m00
    have HMK : Hid (M[k]'(by omega) = M.getD k 0) := by show _ = _; rw [List.getD_eq_getElem?_getD, List.getElem?_eq_getElem (show k < M.length by omega)]; rfl
    rw [HMK.out] at m0
    have hpb := HPOS.out k
    have hp0 := hpb.1
    have hp9 := hpb.2
    clear hpb
    have HYES := Lib.hid (inTill_yes HCAT.out HP.out hlt HS.out)
    have HNO := Lib.hid (inTill_no (k := k) HS.out)
    have HKP : Hid (k = (findIt it part).toNat → M.getD k 0 ≠ 0 → ¬ it[k].2.2.1 = 2) := fun e h0 h2 => by
      have := HK.out (by rw [← e]; exact h0)
      unfold kindPh at this
      rw [← e, List.getD_eq_getElem?_getD, List.getElem?_eq_getElem hlt] at this
      simp only [Option.getD_some] at this
      rw [h2] at this
      cases this
    have hsz := (HOK.out _ (List.getElem_mem hlt)).1
    generalize M.getD k 0 = mk at *
    have hs := below_alloc wr (.cells #[.string it[k].1, .string it[k].2.1, .int .i64 it[k].2.2.1, .int .i64 it[k].2.2.2.1, .int .i64 it[k].2.2.2.2.1, .int .i64 it[k].2.2.2.2.2.1, .int .i64 it[k].2.2.2.2.2.2.1, .int .i64 it[k].2.2.2.2.2.2.2] 47)
    have BXX : BoxOf (wr.alloc (.cells #[.string it[k].1, .string it[k].2.1, .int .i64 it[k].2.2.1, .int .i64 it[k].2.2.2.1, .int .i64 it[k].2.2.2.2.1, .int .i64 it[k].2.2.2.2.2.1, .int .i64 it[k].2.2.2.2.2.2.1, .int .i64 it[k].2.2.2.2.2.2.2] 47)) wr.heap.size [.string it[k].1, .string it[k].2.1, .int .i64 it[k].2.2.1, .int .i64 it[k].2.2.2.1, .int .i64 it[k].2.2.2.2.1, .int .i64 it[k].2.2.2.2.2.1, .int .i64 it[k].2.2.2.2.2.2.1, .int .i64 it[k].2.2.2.2.2.2.2] := boxOf_alloc wr #[.string it[k].1, .string it[k].2.1, .int .i64 it[k].2.2.1, .int .i64 it[k].2.2.2.1, .int .i64 it[k].2.2.2.2.1, .int .i64 it[k].2.2.2.2.2.1, .int .i64 it[k].2.2.2.2.2.2.1, .int .i64 it[k].2.2.2.2.2.2.2] 47
    have hbx := below_on hb hs
    have hrx := hrow.keep hs
    have m1 : (wr.alloc (.cells #[.string it[k].1, .string it[k].2.1, .int .i64 it[k].2.2.1, .int .i64 it[k].2.2.2.1, .int .i64 it[k].2.2.2.2.1, .int .i64 it[k].2.2.2.2.2.1, .int .i64 it[k].2.2.2.2.2.2.1, .int .i64 it[k].2.2.2.2.2.2.2] 47)).cell? ⟨bm, om + k, none⟩ = some (.int .i64 mk) := (hs.cell (p := ⟨bm, om + k, none⟩) hbm).trans m0
    have hbm1 := Nat.lt_of_lt_of_le hbm hs.size
    go_upto_region 5 with fail
    generalize (wr.alloc (.cells #[.string it[k].1, .string it[k].2.1, .int .i64 it[k].2.2.1, .int .i64 it[k].2.2.2.1, .int .i64 it[k].2.2.2.2.1, .int .i64 it[k].2.2.2.2.2.1, .int .i64 it[k].2.2.2.2.2.2.1, .int .i64 it[k].2.2.2.2.2.2.2] 47)) = w1 at *
    generalize wr.heap.size = Xb at *
    clear t0 t1 t2 t3 t4 t5 t6 t7 hbi hbm m0 hs hb hrow
    have x0 := BXX.2 0 _ rfl
    have x1 := BXX.2 1 _ rfl
    have x2 := BXX.2 2 _ rfl
    have x3 := BXX.2 3 _ rfl
    have x4 := BXX.2 4 _ rfl
    have x5 := BXX.2 5 _ rfl
    have x6 := BXX.2 6 _ rfl
    have x7 := BXX.2 7 _ rfl
    have xl := BXX.1
    by_cases h0 : 0 < mk
    case neg =>
      have h0d : decide (0 < mk) = false := decide_eq_false h0
      go_wp2_with fail
      go_roundw
      case rel => exact ⟨k + 1, l, by omega, by go_num, by omega, HOL, HNO.out (fun _ => by omega), hrx, hbx⟩
      case measure => simp [intOf]; omega
    have h0d : decide (0 < mk) = true := decide_eq_true h0
    by_cases hk2 : it[k].2.2.1 = 2
    case pos =>
      have hkb : (it[k].2.2.1 != 2) = false := by simp [hk2]
      have HK2 := Lib.hid hk2
      clear hk2
      go_wp2_with (go_at_call 30; refine (partsNo_any it[k] _).mono ?_; rintro e w2 ⟨rfl, hs2⟩; rw [hkb])
      have hb2 := below_on hbx hs2
      have hr2 := hrx.keep hs2
      go_roundw
      case rel => exact ⟨k + 1, l, by omega, by go_num, by omega, HOL, HNO.out (fun e => absurd HK2.out (HKP.out e (by omega))), hr2, hb2⟩
      case measure => simp [intOf]; omega
    have hkb : (it[k].2.2.1 != 2) = true := by simp [hk2]
    clear hk2
    obtain ⟨A9, c9, rfl, ho9⟩ := hrx.form
    have hrw := ho9.val
    clear ho9 hrx
    go_wp2_with (go_at_call 30; refine (partsNo_any it[k] _).mono ?_; rintro e w2 ⟨rfl, hs2⟩; rw [hkb])
    have hb2 := below_on hbx hs2
    replace hrw := hrw.keep hs2
    have y0 := (hs2.cell (p := ⟨Xb, 0, none⟩) xl).trans x0
    have ym := (hs2.cell (p := ⟨bm, om + k, none⟩) hbm1).trans m1
    have yl := Nat.lt_of_lt_of_le xl hs2.size
    have yb := Nat.lt_of_lt_of_le hbm1 hs2.size
    clear x0 x1 x2 x3 x4 x5 x6 x7 m1 xl hbm1
    generalize it[k].1 = sc at *
    have hz2 := hb2.size
    replace hrw := hrw.drew
    refine wp_region_held_drew (S := fun w' => (w'.cell? ⟨Xb, 0, none⟩ = some (.string sc) ∧ w'.cell? ⟨bm, om + k, none⟩ = some (.int .i64 mk) ∧ Xb < w'.heap.size ∧ bm < w'.heap.size) ∧ Below w.heap.size w w') (by kernel_rfl) (⟨⟨y0, ym, yl, yb⟩, hb2.drew⟩) (fun hHeld => ?_)
    refine held1 0 (some 28) hHeld ?_
    refine held1 1 (some 29) hHeld ?_
    refine held1 2 (some 30) hHeld ?_
    refine held1 3 (some 31) hHeld ?_
    refine held1 4 (some 32) hHeld ?_
    refine held1 5 (some 33) hHeld ?_
    refine held1 6 (some 34) hHeld ?_
    refine held1 7 (some 35) hHeld ?_
    refine held_do 8 fun K hK => ?_
    go_simp
    refine hK.out _ _ (⟨⟨alloc_cell hHeld.1.1 (.cells #[.string sc, .int .i64 mk] 70), alloc_cell hHeld.1.2.1 (.cells #[.string sc, .int .i64 mk] 70), by have := hHeld.1.2.2.1; simp at this ⊢; omega, by have := hHeld.1.2.2.2; simp at this ⊢; omega⟩, hHeld.2.alloc (by have := hHeld.2.size; omega) _⟩) (fun hHeld => ?_)
    clear hK K
    try simp only [Act.put, List.setIfInBounds_toArray, List.set_cons_zero, List.set_cons_succ]
    replace hrw := hrw.alloc (.cells #[.string sc, .int .i64 mk] 70)
    refine held_do 9 fun K hK => ?_
    refine step_append_rows needElem ndOneP rfl (.tmp 28) (.tmp 36) rfl _ (lo := w.heap.size) (l := l) rfl hrw (by omega) rfl (lit_row (F := ndF) (by simp) #[.string sc, .int .i64 mk] (sc, mk) rfl) (by have := hHeld.2.size; simp at this ⊢; omega) ?_
    intro v9 w9 hr9 hg9
    have hB9 := RowVal.below hrw hg9 (Nat.le_refl _) (by have := hHeld.2.size; simp at this ⊢; omega)
    refine hK.out _ _ (⟨⟨grown_cell hg9 hvb (Nat.le_refl _) hHeld.1.2.2.1 hHeld.1.1, (hB9.cell (p := ⟨bm, om + k, none⟩) hbm0).trans hHeld.1.2.1, Nat.lt_of_lt_of_le hHeld.1.2.2.1 hB9.size, Nat.lt_of_lt_of_le hHeld.1.2.2.2 hB9.size⟩, hHeld.2.trans hB9⟩) (fun hHeld => ?_)
    clear hK K
    refine held1 10 (some 7) hHeld ?_
    refine wpAnyH_done (by kernel_rfl) ?_ _
    have hbF := hHeld.2
    have hokF : Hid (∀ x ∈ l ++ [(sc, mk)], okNd x ∧ (0 ≤ x.2 ∧ x.2 ≤ 1000000000)) := fun z hz => by
      rcases List.mem_append.1 hz with hz | hz
      · exact HOL.out z hz
      · rw [List.mem_singleton.1 hz]; exact ⟨hsz, hp0, hp9⟩
    go_wp2_with fail
    go_roundw
    case rel => exact ⟨k + 1, l ++ [(sc, mk)], by omega, by go_num, by simp; omega, hokF, HYES, hr9, hbF⟩
    case measure => simp [intOf]; omega
end Go.Proofs.Ytlkolehdikfddaa
/- One line on the way down (plain). -/
namespace Go.Proofs.Ytlkolehdikfddaa
theorem codeAt_at {it : List It} {i : Nat} (hi : i < it.length) : codeAt it i = it[i].1 := by unfold codeAt; rw [List.getD_eq_getElem?_getD, List.getElem?_eq_getElem hi]; rfl
theorem Pcs.line {it : List It} {ls : List Bl} {lv lev : List Nat} {on : Bl → Bool} {part : ByteArray} (hL : Lev it ls lv) (hcat : isCat it = true) (hp : 0 ≤ findIt it part) (hD : Down it (ls.filter on) lev) {a0 i : Nat} {M : List Int} {T : Int} {dn : Nat → Bool} (hpk : (findIt it part).toNat ≠ a0 → kindPh it (findIt it part).toNat = false)
    (h : Pcs it (unitV it ls on part) lev a0 (findIt it part).toNat dn M T) (hi : i < it.length) (hmi : M.getD i 0 ≠ 0) (hU : unitV it ls on part it[i].1 ≤ 1000000000) {x : Bl} (hx : x ∈ ls.filter on) (hc : x.1.toList = it[i].1.toList) (hdn : ∀ k, lev.getD i 0 < lev.getD k 0 → dn k = false)
    (hb : M.getD (findIt it x.2.1).toNat 0 + M.getD i 0 * x.2.2.1 ≤ 1000000000) :
    Pcs it (unitV it ls on part) lev a0 (findIt it part).toNat dn (M.set (findIt it x.2.1).toNat (M.getD (findIt it x.2.1).toNat 0 + M.getD i 0 * x.2.2.1)) (T + M.getD i 0 * rawT it part it[i].1 (unitV it ls on part) x) ∧ (findIt it x.2.1).toNat ≠ i ∧ (findIt it x.2.1).toNat < it.length := by
  have hf := hD.fnd x hx
  have hq := hD.qty x hx
  have hr := hD.rest x hx
  have hself := find_self hcat i hi
  rw [findIt_congr hc, hself, Int.toNat_natCast] at hr
  have hk := findIt_lt hf.2
  have hlow := h.low i hmi
  have hbd := h.bd i
  obtain ⟨kq, hkq, hkl, hcode⟩ : ∃ kq : Nat, findIt it x.2.1 = (kq : Int) ∧ ∃ h : kq < it.length, (it[kq].1.toList == x.2.1.toList) = true := by
    rcases findIt_cases it x.2.1 with e | ⟨k, h1, h2, h3⟩
    · omega
    · exact ⟨k, h2, h1, h3⟩
  rw [hkq, Int.toNat_natCast] at hr hb ⊢
  rw [beq_iff_eq] at hcode
  have hne : kq ≠ i := fun e => by rw [e] at hr; omega
  have hna : kq ≠ a0 := fun e => by rw [e] at hr; omega
  have hy : 0 ≤ M.getD i 0 * x.2.2.1 := Int.mul_nonneg hbd.1 (by omega)
  have hpart : (x.2.1.toList == part.toList) = decide (kq = (findIt it part).toNat) := by
    by_cases e : x.2.1.toList = part.toList
    · have h1 := findIt_congr (l := it) e
      rw [hkq] at h1
      rw [e, decide_eq_true (by rw [← h1]; rfl)]; simp
    · have h2 : ¬ kq = (findIt it part).toNat := fun e2 => by
        rcases findIt_cases it part with e3 | ⟨k, h1, h3, h4⟩
        · omega
        · rw [h3, Int.toNat_natCast] at e2
          subst e2
          rw [beq_iff_eq] at h4
          exact e (hcode.symm.trans h4)
      rw [decide_eq_false h2]
      simpa using e
  have hph : phan it x.2.1 = kindPh it kq := by unfold phan kindPh; rw [hkq, Int.toNat_natCast]
  have hcu : unitV it ls on part (codeAt it kq) = unitV it ls on part x.2.1 := by rw [codeAt_at hkl]; exact unitV_congr hcode
  have hpos : ∀ c, 0 ≤ unitV it ls on part c := fun c => (unitV_bd hL on part c).1
  have hrw := raw_mem (it := it) (part := part) (code := it[i].1) hpos (l := ls.filter on) (fun y hy => (hD.qty y hy).1) hx
  rw [unitV_raw hL on part it[i].1 (by rw [hself]; omega) hU] at hrw
  have hraw : rawT it part it[i].1 (unitV it ls on part) x = x.2.2.1 * nIn it part (unitV it ls on part) x := by
    unfold rawT; rw [if_pos (by rw [beq_iff_eq]; exact hc)]
  have hm := h.more (k := kq) hkl (hdn kq hr) hna (by omega) hpk hy hb (fun _ hkk => by
    rw [hcu]
    have h1 : ¬ kq = (findIt it part).toNat := fun e => by
      have hpa := hpk (by rw [← e]; exact hna)
      rw [e, hpa] at hkk; cases hkk
    rw [hraw] at hrw
    unfold nIn at hrw
    rw [hpart, decide_eq_false h1, hph, hkk] at hrw
    simp only [Bool.false_eq_true, if_false, if_true] at hrw
    have h2 := hpos x.2.1
    have h3 := Int.mul_le_mul_of_nonneg_right hq.1 h2
    omega)
  refine ⟨?_, hne, hkl⟩
  have e : M.getD i 0 * rawT it part it[i].1 (unitV it ls on part) x = M.getD i 0 * x.2.2.1 * (if kq = (findIt it part).toNat then 1 else if kindPh it kq = true then unitV it ls on part (codeAt it kq) else 0) := by
    rw [hraw, ← Int.mul_assoc]
    congr 1
    unfold nIn
    rw [hpart, hph, hcu]
    by_cases e1 : kq = (findIt it part).toNat
    · rw [if_pos e1, decide_eq_true e1]; rfl
    · rw [if_neg e1, decide_eq_false e1]; rfl
  rw [e]
  exact hm
end Go.Proofs.Ytlkolehdikfddaa
