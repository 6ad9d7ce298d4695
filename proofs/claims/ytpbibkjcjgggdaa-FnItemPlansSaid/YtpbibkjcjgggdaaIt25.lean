/- Part 25 of the texts of this claim: What of a part lies in an item, reckoned item by item and by the levels (plain); Demand: its cells, and the walks of the laws' own helpers on lists of it; The walks of AreDemands; The walks of DemandFlows; The walks of ArePlanned; What is taken of an item on each day (plain); The walks of l9On and Holds. -/
import Derived.Test.YtpbibkjcjgggdaaIt24
import Derived.Test.YtpbibkjcjgggdaaIt12
import Derived.Test.YtpbibkjcjgggdaaIt1
import Derived.StillTailTactics
import Derived.Test.YtpbibkjcjgggdaaIt5
import Derived.Test.YtpbibkjcjgggdaaIt7
import Derived.Test.YtpbibkjcjgggdaaIt4
import Derived.Test.YtpbibkjcjgggdaaIt14
import Derived.Test.YtpbibkjcjgggdaaIt17
/- What of a part lies in an item, reckoned item by item and by the levels (plain). -/
namespace Go.Proofs.Ytpbibkjcjgggdaa
def eqB (a b : ByteArray) : Bool := a.toList == b.toList
def phan (it : List It) (c : ByteArray) : Bool := (it.getD (findIt it c).toNat itNone).2.2.1 == 2
def thrStep (it : List It) (on : Bl → Bool) (part code : ByteArray) (f : ByteArray → Int) (s : Int) (x : Bl) : Int :=
  if on x && (x.1.toList == code.toList) then (if x.2.1.toList == part.toList then min (s + x.2.2.1) 1000000001 else if phan it x.2.1 then min (s + x.2.2.1 * f x.2.1) 1000000001 else s) else s
def thr (it : List It) (ls : List Bl) (on : Bl → Bool) (part : ByteArray) : Nat → ByteArray → Int
  | 0, _ => 0
  | f + 1, code => ls.foldl (thrStep it on part code (thr it ls on part f)) 0
/-- What of part lies in code, at most 1000000001. -/
def unitV (it : List It) (ls : List Bl) (on : Bl → Bool) (part code : ByteArray) : Int := thr it ls on part it.length code
theorem foldl_ext' {α β : Type} (f g : β → α → β) (l : List α) : (∀ s, ∀ x ∈ l, f s x = g s x) → ∀ s, l.foldl f s = l.foldl g s := by
  induction l with
  | nil => intro _ s; rfl
  | cons a t ih =>
    intro h s
    rw [List.foldl_cons, List.foldl_cons, h s a List.mem_cons_self]
    exact ih (fun s x hx => h s x (List.mem_cons_of_mem _ hx)) _
theorem findIt_congr {l : List It} {c d : ByteArray} (h : c.toList = d.toList) : findIt l c = findIt l d := by unfold findIt; rw [h]
theorem thr_congr (it : List It) (ls : List Bl) (on : Bl → Bool) (part : ByteArray) (f : Nat) {c d : ByteArray} (h : c.toList = d.toList) : thr it ls on part f c = thr it ls on part f d := by
  cases f with
  | zero => rfl
  | succ f =>
    simp only [thr]
    refine foldl_ext' _ _ _ (fun s x _ => ?_) 0
    unfold thrStep; rw [h]
theorem unitV_congr {it : List It} {ls : List Bl} {on : Bl → Bool} {part : ByteArray} {c d : ByteArray} (h : c.toList = d.toList) : unitV it ls on part c = unitV it ls on part d := thr_congr _ _ _ _ _ h
/-- A catalog and lines whose items are all found, and levels at rest. -/
structure Lev (it : List It) (ls : List Bl) (lev : List Nat) : Prop where
  len : lev.length = it.length
  fnd : ∀ x ∈ ls, 0 ≤ findIt it x.1 ∧ 0 ≤ findIt it x.2.1
  qty : ∀ x ∈ ls, 1 ≤ x.2.2.1 ∧ x.2.2.1 ≤ 1000
  rest : ∀ x ∈ ls, lev.getD (findIt it x.1).toNat 0 < lev.getD (findIt it x.2.1).toNat 0
  lt : ∀ v, v < it.length → lev.getD v 0 < it.length
  held : ∀ v, 0 < lev.getD v 0 → ∃ x ∈ ls, (findIt it x.2.1).toNat = v
theorem lev_of {it : List It} {ls : List Bl} (h : isBills it ls = true) : Lev it ls (runTo (edges it ls) it.length it.length) ∧ levI (edges it ls) it.length = natI (runTo (edges it ls) it.length it.length) := by
  obtain ⟨_, _, h3, h4⟩ := isBills_parts h
  have hf : ∀ k (hk : k < ls.length), 0 ≤ findIt it ls[k].1 ∧ 0 ≤ findIt it ls[k].2.1 := fun k hk => ⟨(okLine_parts (h3 k hk)).1, (okLine_parts (h3 k hk)).2.1⟩
  have hE := edges_lt hf
  have hR : Rest (edges it ls) (runTo (edges it ls) it.length it.length) := (pass_rest (E := edges it ls) _ _ (Nat.le_refl _) h4).2
  have hH := Held.run hE it.length
  have hat : ∀ k (hk : k < ls.length), (edges it ls).getD k (0, 0) = ((findIt it ls[k].1).toNat, (findIt it ls[k].2.1).toNat) := fun k hk =>
    edges_at it ls hk (by have := (hf k hk).1; omega) (by have := (hf k hk).2; omega)
  refine ⟨⟨runTo_len _, fun x hx => ?_, fun x hx => ?_, fun x hx => ?_, fun v hv => rest_le hE hH hR v hv, fun v hv => ?_⟩, levI_some h4⟩
  · obtain ⟨k, hk, rfl⟩ := List.mem_iff_getElem.1 hx
    exact hf k hk
  · obtain ⟨k, hk, rfl⟩ := List.mem_iff_getElem.1 hx
    exact (okLine_parts (h3 k hk)).2.2.1
  · obtain ⟨k, hk, rfl⟩ := List.mem_iff_getElem.1 hx
    have := hR k (by rw [edges_len]; exact hk)
    rw [hat k hk] at this
    exact this
  · obtain ⟨k, h1, h2, _⟩ := hH v hv
    rw [edges_len] at h1
    rw [hat k h1] at h2
    exact ⟨ls[k], List.getElem_mem h1, h2⟩
section
variable {it : List It} {ls : List Bl} {lev : List Nat} (hL : Lev it ls lev) (on : Bl → Bool) (part : ByteArray)
include hL
theorem thr_stab (f : Nat) : ∀ code, 0 ≤ findIt it code → it.length - lev.getD (findIt it code).toNat 0 ≤ f → thr it ls on part (f + 1) code = thr it ls on part f code := by
  induction f with
  | zero =>
    intro code h0 hf
    have := hL.lt _ (findIt_lt h0)
    omega
  | succ f ih =>
    intro code h0 hf
    show ls.foldl (thrStep it on part code (thr it ls on part (f + 1))) 0 = ls.foldl (thrStep it on part code (thr it ls on part f)) 0
    refine foldl_ext' _ _ _ (fun s x hx => ?_) 0
    unfold thrStep
    by_cases hc : (on x && (x.1.toList == code.toList)) = true
    · rw [if_pos hc, if_pos hc]
      simp only [Bool.and_eq_true, beq_iff_eq] at hc
      have h1 := hL.rest x hx
      rw [findIt_congr hc.2] at h1
      have h2 := hL.fnd x hx
      rw [ih x.2.1 h2.2 (by omega)]
    · rw [if_neg hc, if_neg hc]
theorem unitV_eq (code : ByteArray) (h0 : 0 ≤ findIt it code) : unitV it ls on part code = ls.foldl (thrStep it on part code (unitV it ls on part)) 0 :=
  (thr_stab hL on part it.length code h0 (by omega)).symm
omit hL in
theorem thrStep_bd (code : ByteArray) (f : ByteArray → Int) (s : Int) (x : Bl) (hs : 0 ≤ s ∧ s ≤ 1000000001) (hf : 0 ≤ f x.2.1) (hq : 1 ≤ x.2.2.1) : 0 ≤ thrStep it on part code f s x ∧ thrStep it on part code f s x ≤ 1000000001 := by
  unfold thrStep
  split
  · split
    · omega
    · split
      · have := Int.mul_nonneg (show 0 ≤ x.2.2.1 by omega) hf
        omega
      · exact hs
  · exact hs
theorem thr_bd (f : Nat) : ∀ code, 0 ≤ thr it ls on part f code ∧ thr it ls on part f code ≤ 1000000001 := by
  induction f with
  | zero => intro code; exact ⟨by simp [thr], by simp [thr]⟩
  | succ f ih =>
    intro code
    simp only [thr]
    have hq := hL.qty
    have : ∀ (l : List Bl), (∀ x ∈ l, 1 ≤ x.2.2.1) → ∀ s : Int, 0 ≤ s ∧ s ≤ 1000000001 → 0 ≤ l.foldl (thrStep it on part code (thr it ls on part f)) s ∧ l.foldl (thrStep it on part code (thr it ls on part f)) s ≤ 1000000001 := by
      intro l
      induction l with
      | nil => intro _ s hs; exact hs
      | cons a t iht =>
        intro h s hs
        rw [List.foldl_cons]
        exact iht (fun x hx => h x (List.mem_cons_of_mem _ hx)) _ (thrStep_bd on part code _ s a hs (ih _).1 (h a List.mem_cons_self))
    exact this ls (fun x hx => (hq x hx).1) 0 (by omega)
theorem unitV_bd (code : ByteArray) : 0 ≤ unitV it ls on part code ∧ unitV it ls on part code ≤ 1000000001 := thr_bd hL on part _ _
theorem thrTo_bd (code : ByteArray) (k : Nat) : 0 ≤ (ls.take k).foldl (thrStep it on part code (unitV it ls on part)) 0 ∧ (ls.take k).foldl (thrStep it on part code (unitV it ls on part)) 0 ≤ 1000000001 := by
  have hq := hL.qty
  have hu := fun c => (unitV_bd hL on part c).1
  have : ∀ (l : List Bl), (∀ x ∈ l, 1 ≤ x.2.2.1) → ∀ s : Int, 0 ≤ s ∧ s ≤ 1000000001 → 0 ≤ l.foldl (thrStep it on part code (unitV it ls on part)) s ∧ l.foldl (thrStep it on part code (unitV it ls on part)) s ≤ 1000000001 := by
    intro l
    induction l with
    | nil => intro _ s hs; exact hs
    | cons a t iht =>
      intro h s hs
      rw [List.foldl_cons]
      exact iht (fun x hx => h x (List.mem_cons_of_mem _ hx)) _ (thrStep_bd on part code _ s a hs (hu _) (h a List.mem_cons_self))
  exact this (ls.take k) (fun x hx => (hq x (List.mem_of_mem_take hx)).1) 0 (by omega)
end
/-! The same by the levels, where more than 1000000000 is -1. -/
def capv (t : Int) : Int := if t ≤ 1000000000 then t else -1
def timesC (a b : Int) : Int := if a < 0 ∨ b < 0 ∨ (0 < a ∧ 1000000000 / a < b) then -1 else a * b
def plusC (a b : Int) : Int := if a < 0 ∨ b < 0 ∨ 1000000000 < a + b then -1 else a + b
theorem times_cap (u q : Int) (hu : 0 ≤ u) (hq : 1 ≤ q) : timesC (capv u) q = capv (q * u) := by
  unfold capv timesC
  by_cases h1 : u ≤ 1000000000
  · rw [if_pos h1]
    by_cases h0 : u = 0
    · subst h0; simp; omega
    · have hp : 0 < u := by omega
      by_cases h2 : 1000000000 / u < q
      · rw [if_pos (.inr (.inr ⟨hp, h2⟩))]
        have := (Int.ediv_lt_iff_lt_mul hp).1 h2
        rw [if_neg (by omega)]
      · rw [if_neg (by omega)]
        have h3 : ¬ 1000000000 < q * u := fun h => h2 ((Int.ediv_lt_iff_lt_mul hp).2 h)
        rw [if_pos (by omega), Int.mul_comm]
  · rw [if_neg h1, if_pos (.inl (by omega))]
    have := Int.mul_le_mul_of_nonneg_right hq hu
    rw [if_neg (by omega)]
theorem plus_cap (s t : Int) (hs : 0 ≤ s) (ht : 0 ≤ t) : plusC (capv s) (capv t) = capv (min (s + t) 1000000001) := by
  unfold capv plusC
  by_cases h1 : s ≤ 1000000000
  · rw [if_pos h1]
    by_cases h2 : t ≤ 1000000000
    · rw [if_pos h2]
      by_cases h3 : s + t ≤ 1000000000
      · rw [if_neg (by omega), if_pos (by omega)]; omega
      · rw [if_pos (by omega), if_neg (by omega)]
    · rw [if_neg h2, if_pos (by omega), if_neg (by omega)]
  · rw [if_neg h1, if_pos (by omega), if_neg (by omega)]
theorem capv_zero {u : Int} (hu : 0 ≤ u) (h : capv u = 0) : u = 0 := by unfold capv at h; split at h <;> omega
theorem cap_step (s u q : Int) (hs : 0 ≤ s ∧ s ≤ 1000000001) (hu : 0 ≤ u) (hq : 1 ≤ q) : (if capv u = 0 then capv s else plusC (capv s) (timesC (capv u) q)) = capv (min (s + q * u) 1000000001) := by
  by_cases h : capv u = 0
  · rw [if_pos h, capv_zero hu h, Int.mul_zero, Int.add_zero]
    rw [show min s 1000000001 = s by omega]
  · rw [if_neg h, times_cap u q hu hq, plus_cap s (q * u) hs.1 (Int.mul_nonneg (by omega) hu)]
def nOf (it : List It) (part : ByteArray) (m : List Int) (x : Bl) : Int := if x.2.1.toList == part.toList then 1 else if phan it x.2.1 then m.getD (findIt it x.2.1).toNat 0 else 0
def inLine (it : List It) (on : Bl → Bool) (part : ByteArray) (a : Nat) (m : List Int) (x : Bl) : List Int :=
  if (x.1.toList == (it.getD a itNone).1.toList) && on x then (if nOf it part m x = 0 then m else m.set a (plusC (m.getD a 0) (timesC (nOf it part m x) x.2.2.1))) else m
def inItem (it : List It) (ls : List Bl) (on : Bl → Bool) (part : ByteArray) (a : Nat) (m : List Int) : List Int := ls.foldl (inLine it on part a) m
def inTo (it : List It) (ls : List Bl) (on : Bl → Bool) (part : ByteArray) (rest : List Nat) : List Int := rest.foldr (inItem it ls on part) (List.replicate it.length 0)
theorem intD_set (m : List Int) (d i : Nat) (x : Int) (hd : d < m.length) : (m.set d x).getD i 0 = if d = i then x else m.getD i 0 := by
  rw [List.getD_eq_getElem?_getD, List.getElem?_set, List.getD_eq_getElem?_getD]
  by_cases h : d = i
  · subst h; rw [if_pos rfl, if_pos rfl, if_pos hd]; rfl
  · rw [if_neg h, if_neg h]
theorem inLine_len (it : List It) (on : Bl → Bool) (part : ByteArray) (a : Nat) (m : List Int) (x : Bl) : (inLine it on part a m x).length = m.length := by
  unfold inLine; split
  · split
    · rfl
    · rw [List.length_set]
  · rfl
theorem inItem_len (it : List It) (ls : List Bl) (on : Bl → Bool) (part : ByteArray) (a : Nat) (m : List Int) : (inItem it ls on part a m).length = m.length := by
  unfold inItem
  induction ls generalizing m with
  | nil => rfl
  | cons x t ih => rw [List.foldl_cons, ih, inLine_len]
theorem inTo_len (it : List It) (ls : List Bl) (on : Bl → Bool) (part : ByteArray) (rest : List Nat) : (inTo it ls on part rest).length = it.length := by
  unfold inTo
  induction rest with
  | nil => simp
  | cons a t ih => rw [List.foldr_cons, inItem_len, ih]
section
variable {it : List It} {ls : List Bl} {lev : List Nat} (hL : Lev it ls lev) (on : Bl → Bool) (part : ByteArray)
include hL
theorem inItem_at (a : Nat) (rest : List Nat) (m0 : List Int) (ha : a < it.length) (hlen : m0.length = it.length) (hna : a ∉ rest)
    (hb : ∀ b, b < it.length → lev.getD a 0 < lev.getD b 0 → b ∈ rest) (h : ∀ b, b < it.length → m0.getD b 0 = if b ∈ rest then capv (unitV it ls on part (it.getD b itNone).1) else 0) (k : Nat) (hk : k ≤ ls.length) :
    (∀ b, b ≠ a → ((ls.take k).foldl (inLine it on part a) m0).getD b 0 = m0.getD b 0) ∧ ((ls.take k).foldl (inLine it on part a) m0).getD a 0 = capv ((ls.take k).foldl (thrStep it on part (it.getD a itNone).1 (unitV it ls on part)) 0) ∧ ((ls.take k).foldl (inLine it on part a) m0).length = it.length := by
  induction k with
  | zero =>
    refine ⟨fun b _ => rfl, ?_, hlen⟩
    show m0.getD a 0 = capv 0
    rw [h a ha, if_neg hna]; rfl
  | succ k ih =>
    obtain ⟨h1, h2, h3⟩ := ih (by omega)
    have hk2 : k < ls.length := by omega
    rw [List.take_add_one, List.getElem?_eq_getElem hk2, Option.toList_some, List.foldl_append, List.foldl_append]
    simp only [List.foldl_cons, List.foldl_nil]
    generalize hM : (ls.take k).foldl (inLine it on part a) m0 = M at *
    have hS := thrTo_bd hL on part (it.getD a itNone).1 k
    generalize (ls.take k).foldl (thrStep it on part (it.getD a itNone).1 (unitV it ls on part)) 0 = s at *
    have hx := List.getElem_mem hk2
    generalize ls[k] = x at *
    unfold inLine thrStep
    by_cases hc : (on x && (x.1.toList == (it.getD a itNone).1.toList)) = true
    case neg => rw [if_neg hc, if_neg (by rw [Bool.and_comm]; exact hc)]; exact ⟨h1, h2, h3⟩
    rw [if_pos hc, if_pos (by rw [Bool.and_comm]; exact hc)]
    simp only [Bool.and_eq_true, beq_iff_eq] at hc
    obtain ⟨f1, f2⟩ := hL.fnd x hx
    have hr := hL.rest x hx
    have hlev : lev.getD a 0 ≤ lev.getD (findIt it x.1).toNat 0 := by
      rcases Nat.eq_zero_or_pos (lev.getD a 0) with h0 | h0
      · omega
      · obtain ⟨y, hy, hya⟩ := hL.held a h0
        rcases findIt_cases it y.2.1 with e | ⟨q, hq, e1, e2⟩
        · have := (hL.fnd y hy).2; omega
        · have hqa : q = a := by rw [e1] at hya; simpa using hya
          subst hqa
          have e3 : it[q].1.toList = y.2.1.toList := by simpa using e2
          have e4 : x.1.toList = y.2.1.toList := by
            rw [hc.2, ← e3, List.getD_eq_getElem?_getD, List.getElem?_eq_getElem hq]; rfl
          rw [findIt_congr e4, e1]; simp
    have hbm : (findIt it x.2.1).toNat ∈ rest := hb _ (findIt_lt f2) (by omega)
    have hba : (findIt it x.2.1).toNat ≠ a := fun e => hna (e ▸ hbm)
    have hMb : M.getD (findIt it x.2.1).toNat 0 = capv (unitV it ls on part x.2.1) := by
      rw [h1 _ hba, h _ (findIt_lt f2), if_pos hbm]
      rcases findIt_cases it x.2.1 with e | ⟨q, hq, e1, e2⟩
      · omega
      · have e3 : it[q].1.toList = x.2.1.toList := by simpa using e2
        rw [e1, Int.toNat_natCast, List.getD_eq_getElem?_getD, List.getElem?_eq_getElem hq]
        show capv (unitV it ls on part it[q].1) = _
        rw [unitV_congr e3]
    have hq := hL.qty x hx
    have hu := unitV_bd hL on part x.2.1
    have key : ∀ u : Int, 0 ≤ u → (∀ b, b ≠ a → (if capv u = 0 then M else M.set a (plusC (M.getD a 0) (timesC (capv u) x.2.2.1))).getD b 0 = m0.getD b 0) ∧ (if capv u = 0 then M else M.set a (plusC (M.getD a 0) (timesC (capv u) x.2.2.1))).getD a 0 = capv (min (s + x.2.2.1 * u) 1000000001) ∧ (if capv u = 0 then M else M.set a (plusC (M.getD a 0) (timesC (capv u) x.2.2.1))).length = it.length := by
      intro u hu0
      have hcs := cap_step s u x.2.2.1 hS hu0 hq.1
      by_cases h0 : capv u = 0
      · simp only [if_pos h0] at hcs ⊢
        exact ⟨h1, by rw [h2, hcs], h3⟩
      · simp only [if_neg h0] at hcs ⊢
        refine ⟨fun b hb2 => ?_, ?_, by rw [List.length_set, h3]⟩
        · rw [intD_set _ _ _ _ (by omega), if_neg (Ne.symm hb2), h1 b hb2]
        · rw [intD_set _ _ _ _ (by omega), if_pos rfl, h2, hcs]
    unfold nOf
    by_cases hp : (x.2.1.toList == part.toList) = true
    · simp only [if_pos hp]
      have := key 1 (by omega)
      rw [Int.mul_one] at this
      exact this
    · simp only [if_neg hp]
      by_cases hph : phan it x.2.1 = true
      · simp only [if_pos hph, hMb]
        exact key _ hu.1
      · simp only [if_neg hph]
        exact ⟨h1, h2, h3⟩
theorem inTo_at (pre rest : List Nat) (h : ordOf lev it.length = pre ++ rest) : ∀ b, b < it.length → (inTo it ls on part rest).getD b 0 = if b ∈ rest then capv (unitV it ls on part (it.getD b itNone).1) else 0 := by
  induction rest generalizing pre with
  | nil =>
    intro b hb
    unfold inTo
    rw [List.foldr_nil, List.getD_eq_getElem?_getD, List.getElem?_replicate, if_pos hb]; simp
  | cons a t ih =>
    have h2 : ordOf lev it.length = (pre ++ [a]) ++ t := by rw [h]; simp
    have iht := ih (pre ++ [a]) h2
    have hpw := ordOf_pw lev it.length
    rw [h2, List.pairwise_append] at hpw
    obtain ⟨hp1, _, hp3⟩ := hpw
    have hna : a ∉ t := fun hm => (hp3 a (by simp) a hm).1 rfl
    have ha : a < it.length := by
      have : a ∈ ordOf lev it.length := by rw [h]; simp
      have := (ordOf_mem.1 this).1
      rw [hL.len] at this; exact this
    have hb : ∀ b, b < it.length → lev.getD a 0 < lev.getD b 0 → b ∈ t := by
      intro b hbl hlt
      have hm : b ∈ ordOf lev it.length := ordOf_mem.2 ⟨by rw [hL.len]; exact hbl, hL.lt b hbl⟩
      rw [h, List.mem_append, List.mem_cons] at hm
      rcases hm with hm | hm | hm
      · rw [List.pairwise_append] at hp1
        have := (hp1.2.2 b hm a (by simp)).2
        omega
      · subst hm; omega
      · exact hm
    obtain ⟨k1, k2, _⟩ := inItem_at hL on part a t (inTo it ls on part t) ha (inTo_len _ _ _ _ _) hna hb iht ls.length (Nat.le_refl _)
    rw [List.take_length] at k1 k2
    have hE : inTo it ls on part (a :: t) = ls.foldl (inLine it on part a) (inTo it ls on part t) := rfl
    intro b hbl
    rw [hE]
    by_cases hba : b = a
    · subst hba
      rw [k2, if_pos List.mem_cons_self, unitV_eq hL on part _ ?_]
      rcases findIt_cases it (it.getD b itNone).1 with e | ⟨q, hq, e1, e2⟩
      · exfalso
        unfold findIt at e
        split at e
        · omega
        · next hn =>
          rw [List.findIdx?_eq_none_iff] at hn
          have := hn _ (List.getElem_mem ha)
          rw [List.getD_eq_getElem?_getD, List.getElem?_eq_getElem ha] at this
          simp at this
      · omega
    · rw [k1 b hba, iht b hbl]
      by_cases hm : b ∈ t
      · rw [if_pos hm, if_pos (List.mem_cons_of_mem _ hm)]
      · rw [if_neg hm, if_neg (by simp [hba, hm])]
theorem unit_order (code : ByteArray) (h0 : 0 ≤ findIt it code) : (inTo it ls on part (ordOf lev it.length)).getD (findIt it code).toNat 0 = capv (unitV it ls on part code) := by
  rw [inTo_at hL on part [] (ordOf lev it.length) (by simp) _ (findIt_lt h0)]
  rw [if_pos (ordOf_mem.2 ⟨by rw [hL.len]; exact findIt_lt h0, hL.lt _ (findIt_lt h0)⟩)]
  rcases findIt_cases it code with e | ⟨q, hq, e1, e2⟩
  · omega
  · have e3 : it[q].1.toList = code.toList := by simpa using e2
    rw [e1, Int.toNat_natCast, List.getD_eq_getElem?_getD, List.getElem?_eq_getElem hq]
    show capv (unitV it ls on part it[q].1) = _
    rw [unitV_congr e3]
end
theorem timesC_bd (a b : Int) (hb : 0 ≤ b) : -1 ≤ timesC a b ∧ timesC a b ≤ 1000000000 := by
  unfold timesC
  split
  · omega
  · next h =>
    have ha : 0 ≤ a := by omega
    have h0 := Int.mul_nonneg ha hb
    refine ⟨by omega, ?_⟩
    by_cases hp : 0 < a
    · have h1 : ¬ 1000000000 / a < b := fun e => h (.inr (.inr ⟨hp, e⟩))
      have h2 : ¬ 1000000000 < b * a := fun e => h1 ((Int.ediv_lt_iff_lt_mul hp).2 e)
      rw [Int.mul_comm]; omega
    · obtain rfl : a = 0 := by omega
      simp
theorem plusC_bd (a b : Int) : -1 ≤ plusC a b ∧ plusC a b ≤ 1000000000 := by
  unfold plusC
  split <;> omega
def InB (m : List Int) : Prop := ∀ b, -1 ≤ m.getD b 0 ∧ m.getD b 0 ≤ 1000000000
theorem inLine_bd (it : List It) (on : Bl → Bool) (part : ByteArray) (a : Nat) (m : List Int) (x : Bl) (h : InB m) : InB (inLine it on part a m x) := by
  unfold inLine
  split
  · split
    · exact h
    · intro b
      by_cases ha : a < m.length
      · rw [intD_set _ _ _ _ ha]
        split
        · exact plusC_bd _ _
        · exact h b
      · rw [List.set_eq_of_length_le (by omega)]; exact h b
  · exact h
theorem inFold_bd (it : List It) (on : Bl → Bool) (part : ByteArray) (a : Nat) (l : List Bl) : ∀ m : List Int, InB m → InB (l.foldl (inLine it on part a) m) := by
  induction l with
  | nil => intro m h; exact h
  | cons x t ih => intro m h; exact ih _ (inLine_bd it on part a m x h)
theorem inTo_bd (it : List It) (ls : List Bl) (on : Bl → Bool) (part : ByteArray) (rest : List Nat) : InB (inTo it ls on part rest) := by
  unfold inTo
  induction rest with
  | nil =>
    intro b
    rw [List.foldr_nil, List.getD_eq_getElem?_getD, List.getElem?_replicate]
    split <;> simp
  | cons a t ih => exact inFold_bd it on part a ls _ ih
theorem inFold_len (it : List It) (on : Bl → Bool) (part : ByteArray) (a : Nat) (l : List Bl) (m : List Int) : (l.foldl (inLine it on part a) m).length = m.length := inItem_len it l on part a m
theorem inFold_take (it : List It) (on : Bl → Bool) (part : ByteArray) (a : Nat) (l : List Bl) (m : List Int) (k : Nat) (h : k < l.length) : (l.take (k + 1)).foldl (inLine it on part a) m = inLine it on part a ((l.take k).foldl (inLine it on part a) m) l[k] := by
  rw [List.take_add_one, List.getElem?_eq_getElem h, Option.toList_some, List.foldl_append]; rfl
theorem inLine_no (it : List It) (on : Bl → Bool) (part : ByteArray) (a : Nat) (m : List Int) (x : Bl) (h : ((x.1.toList == (it.getD a itNone).1.toList) && on x) = false) : inLine it on part a m x = m := by unfold inLine; rw [if_neg (by rw [h]; decide)]
theorem inLine_zero (it : List It) (on : Bl → Bool) (part : ByteArray) (a : Nat) (m : List Int) (x : Bl) (h0 : nOf it part m x = 0) : inLine it on part a m x = m := by
  unfold inLine
  simp only [h0, if_true]
  split <;> rfl
theorem inLine_yes (it : List It) (on : Bl → Bool) (part : ByteArray) (a : Nat) (m : List Int) (x : Bl) (h : ((x.1.toList == (it.getD a itNone).1.toList) && on x) = true) (h0 : nOf it part m x ≠ 0) : inLine it on part a m x = m.set a (plusC (m.getD a 0) (timesC (nOf it part m x) x.2.2.1)) := by unfold inLine; rw [if_pos h, if_neg h0]
theorem inTo_cons (it : List It) (ls : List Bl) (on : Bl → Bool) (part : ByteArray) (ord : List Nat) (k : Nat) (h : k < ord.length) : inTo it ls on part (ord.drop k) = (ls.take ls.length).foldl (inLine it on part ord[k]) (inTo it ls on part (ord.drop (k + 1))) := by
  rw [List.take_length, List.drop_eq_getElem_cons h]; rfl
end Go.Proofs.Ytpbibkjcjgggdaa
/- Demand: its cells, and the walks of the laws' own helpers on lists of it. -/
namespace Go.Proofs.Ytpbibkjcjgggdaa
open Go.RowKit

abbrev Dm := Int × ByteArray × Int × Int × Int
def dmF : Flat Dm := ⟨fun f => [.int .i64 (f.1), .string (f.2.1), .int .i64 (f.2.2.1), .int .i64 (f.2.2.2.1), .int .i64 (f.2.2.2.2)], 5, fun _ => rfl⟩
abbrev DemandsIn (w : World) (A : Option Addr) (n : Nat) (l : List Dm) : Prop := RowsIn dmF w A n l
theorem demand_at {w : World} {A : Option Addr} {n : Nat} {l : List Dm} (h : DemandsIn w A n l) {k : Nat} (hk : k < l.length) :
    ∃ b o, A = some ⟨b, o, none⟩ ∧ b < w.heap.size ∧ w.cell? ⟨b, o + k * 5, none⟩ = some (.int .i64 (l[k].1)) ∧ w.cell? ⟨b, o + k * 5 + 1, none⟩ = some (.string (l[k].2.1)) ∧ w.cell? ⟨b, o + k * 5 + 2, none⟩ = some (.int .i64 (l[k].2.2.1)) ∧ w.cell? ⟨b, o + k * 5 + 3, none⟩ = some (.int .i64 (l[k].2.2.2.1)) ∧ w.cell? ⟨b, o + k * 5 + 4, none⟩ = some (.int .i64 (l[k].2.2.2.2)) := by
  obtain ⟨b, o, e, hlt, hc⟩ := h.at_ hk
  exact ⟨b, o, e, hlt, hc 0 _ rfl, hc 1 _ rfl, hc 2 _ rfl, hc 3 _ rfl, hc 4 _ rfl⟩
def okDm (x : Dm) : Prop := x.2.1.size ≤ 9223372036854775807
end Go.Proofs.Ytpbibkjcjgggdaa
/- The walks of AreDemands. -/
namespace Go.Proofs.Ytpbibkjcjgggdaa
open Go.RowKit
def dmNone : Dm := (0, ByteArray.empty, 0, 0, 0)
def okDem (l : List Dm) (k : Nat) : Bool :=
  inB (l.getD k dmNone).1 1 9999 && (isCode (l.getD k dmNone).2.1 && (inB (l.getD k dmNone).2.2.1 1 100000 && (inB (l.getD k dmNone).2.2.2.1 0 999 && (inB (l.getD k dmNone).2.2.2.2 0 9 && !((List.range k).any fun j => (l.getD j dmNone).1 == (l.getD k dmNone).1)))))
def areDemands (l : List Dm) : Bool := (List.range l.length).all (okDem l) && decide ((l.length : Int) ≤ 16)
theorem areDemands_no {l : List Dm} {k : Nat} (hk : k < l.length) (h : okDem l k = false) : areDemands l = false := by
  unfold areDemands
  have : (List.range l.length).all (okDem l) = false := by rw [List.all_eq_false]; exact ⟨k, by simpa using hk, by simp [h]⟩
  simp [this]
theorem areDemands_end {l : List Dm} (h : ∀ j < l.length, okDem l j = true) : areDemands l = decide ((l.length : Int) ≤ 16) := by
  unfold areDemands
  have : (List.range l.length).all (okDem l) = true := by rw [List.all_eq_true]; intro x hx; exact h x (by simpa using hx)
  simp [this]
theorem areDemands_16 {l : List Dm} (h : ¬ (l.length : Int) ≤ 16) : areDemands l = false := by unfold areDemands; rw [decide_eq_false h, Bool.and_false]
theorem dm_getD (l : List Dm) (k : Nat) (h : k < l.length) : l.getD k dmNone = l[k] := by
  rw [List.getD_eq_getElem?_getD, List.getElem?_eq_getElem h]; rfl
theorem dm_any {l : List Dm} {k : Nat} (hk : k < l.length) (h : ∀ j (hj : j < l.length), j < k → l[j].1 ≠ l[k].1) : ((List.range k).any fun j => (l.getD j dmNone).1 == l[k].1) = false := by
  rw [List.any_eq_false]
  intro j hj
  rw [List.mem_range] at hj
  rw [dm_getD l j (by omega)]
  simpa using h j (by omega) hj
theorem dm_any_yes {l : List Dm} {k : Nat} (hk : k < l.length) (j : Nat) (hj : j < l.length) (hjk : j < k) (he : l[j].1 = l[k].1) : ((List.range k).any fun j => (l.getD j dmNone).1 == l[k].1) = true := by
  rw [List.any_eq_true]
  exact ⟨j, by rw [List.mem_range]; exact hjk, by rw [dm_getD l j hj]; simpa using he⟩
end Go.Proofs.Ytpbibkjcjgggdaa
/- The walks of DemandFlows. -/
namespace Go.Proofs.Ytpbibkjcjgggdaa
open Go.RowKit
def demStep (item : ByteArray) (o : List Fl) (d : Dm) : List Fl := if d.2.1.toList == item.toList then addS o d.2.2.2.1 d.2.2.1 else o
def demTo (l : List Dm) (item : ByteArray) (k : Nat) : List Fl := (l.take k).foldl (demStep item) []
theorem demTo_succ (l : List Dm) (item : ByteArray) (k : Nat) (h : k < l.length) : demTo l item (k + 1) = demStep item (demTo l item k) l[k] := foldl_take _ _ _ _ h
theorem areDemands_mem {l : List Dm} (h : areDemands l = true) {k : Nat} (hk : k < l.length) : 1 ≤ l[k].2.2.1 ∧ l[k].2.2.1 ≤ 100000 ∧ 0 ≤ l[k].2.2.2.1 ∧ l[k].2.2.2.1 ≤ 999 := by
  simp only [areDemands, Bool.and_eq_true, List.all_eq_true, List.mem_range] at h
  have := h.1 k hk
  simp only [okDem, dm_getD l k hk, Bool.and_eq_true, inB_iff] at this
  omega
theorem areDemands_len {l : List Dm} (h : areDemands l = true) : l.length ≤ 16 := by
  simp only [areDemands, Bool.and_eq_true, decide_eq_true_eq] at h
  omega
theorem demTo_parts (l : List Dm) (item : ByteArray) (h : areDemands l = true) (k : Nat) (hk : k ≤ l.length) : ascends (demTo l item k) ∧ (demTo l item k).length ≤ k ∧ ∀ f ∈ demTo l item k, 0 ≤ f.2 ∧ f.2 ≤ 100000 * k := by
  induction k with
  | zero => exact ⟨fun i j hj => by simp [demTo] at hj, by simp [demTo], fun f hf => by simp [demTo] at hf⟩
  | succ k ih =>
    obtain ⟨h1, h2, h3⟩ := ih (by omega)
    have hm := areDemands_mem h (show k < l.length by omega)
    rw [demTo_succ l item k (by omega)]
    unfold demStep
    split
    · refine ⟨addS_ascends _ _ _ h1, by have := addS_len (demTo l item k) l[k].2.2.2.1 l[k].2.2.1; omega, fun f hf => ?_⟩
      have := addS_bd (demTo l item k) l[k].2.2.2.1 l[k].2.2.1 0 (100000 * k) 0 100000 h3 (by omega) (by omega) (by omega) (by omega) (by omega) f hf
      omega
    · exact ⟨h1, by omega, fun f hf => by have := h3 f hf; omega⟩
def demandFlows (l : List Dm) (item : ByteArray) : List Fl := if areDemands l then demTo l item l.length else []
theorem demandFlows_no {l : List Dm} {item : ByteArray} (h : areDemands l = false) : demandFlows l item = [] := by unfold demandFlows; rw [h]; rfl
theorem demandFlows_yes {l : List Dm} {item : ByteArray} (h : areDemands l = true) : demandFlows l item = demTo l item l.length := by unfold demandFlows; rw [if_pos h]
theorem demandFlows_len (l : List Dm) (item : ByteArray) : (demandFlows l item).length ≤ 16777216 := by
  cases h : areDemands l
  · rw [demandFlows_no h]; simp
  · rw [demandFlows_yes h]
    have := (demTo_parts l item h l.length (Nat.le_refl _)).2.1
    have := areDemands_len h
    omega
end Go.Proofs.Ytpbibkjcjgggdaa
/- The walks of ArePlanned. -/
namespace Go.Proofs.Ytpbibkjcjgggdaa
open Go.RowKit
def okPlan (it : List It) (x : Pl) : Bool :=
  decide (0 ≤ findIt it x.1) && ((!((it.getD (findIt it x.1).toNat itNone).2.2.1 == 2)) && (inB x.2.1 1 100000 && (inB x.2.2.2.1 0 999 && inB x.2.2.1 0 x.2.2.2.1)))
def arePlanned (p : Pt) (l : List Pl) : Bool := l.all (okPlan p.it) && (isPlant p && decide ((l.length : Int) ≤ 500))
theorem arePlanned_bad {p : Pt} {l : List Pl} {k : Nat} (hk : k < l.length) (h : okPlan p.it l[k] = false) : arePlanned p l = false := by unfold arePlanned; rw [all_false l _ k hk h]; rfl
theorem arePlanned_end {p : Pt} {l : List Pl} (h : (l.take l.length).all (okPlan p.it) = true) : arePlanned p l = (isPlant p && decide ((l.length : Int) ≤ 500)) := by
  rw [List.take_length] at h
  unfold arePlanned; rw [h]; rfl
theorem arePlanned_no {p : Pt} {l : List Pl} (h : (isPlant p && decide ((l.length : Int) ≤ 500)) = false) : arePlanned p l = false := by unfold arePlanned; rw [h]; simp
theorem okPlan_eq {it : List It} {x : Pl} {q : Nat} {b1 b2 b3 b4 : Bool} (hq : findIt it x.1 = (q : Int)) (hq1 : q < it.length) (h1 : (it[q].2.2.1 == 2) = b1) (h2 : inB x.2.1 1 100000 = b2) (h3 : inB x.2.2.2.1 0 999 = b3) (h4 : inB x.2.2.1 0 x.2.2.2.1 = b4) : okPlan it x = (!b1 && (b2 && (b3 && b4))) := by
  unfold okPlan
  rw [hq, h2, h3, h4, decide_eq_true (by omega), Int.toNat_natCast, it_getD _ _ hq1, h1]; rfl
theorem arePlanned_parts {p : Pt} {l : List Pl} (h : arePlanned p l = true) : isPlant p = true ∧ l.length ≤ 500 ∧ ∀ k (hk : k < l.length), 0 ≤ findIt p.it l[k].1 ∧ (p.it.getD (findIt p.it l[k].1).toNat itNone).2.2.1 ≠ 2 ∧ (1 ≤ l[k].2.1 ∧ l[k].2.1 ≤ 100000) ∧ (0 ≤ l[k].2.2.2.1 ∧ l[k].2.2.2.1 ≤ 999) ∧ (0 ≤ l[k].2.2.1 ∧ l[k].2.2.1 ≤ l[k].2.2.2.1) := by
  simp only [arePlanned, Bool.and_eq_true, decide_eq_true_eq, List.all_eq_true] at h
  obtain ⟨h1, h2, h3⟩ := h
  refine ⟨h2, by omega, fun k hk => ?_⟩
  have := h1 _ (List.getElem_mem hk)
  simp only [okPlan, Bool.and_eq_true, decide_eq_true_eq, inB_iff, Bool.not_eq_true', beq_eq_false_iff_ne] at this
  exact this
end Go.Proofs.Ytpbibkjcjgggdaa
/- What is taken of an item on each day (plain). -/
namespace Go.Proofs.Ytpbibkjcjgggdaa
def lineOn (ch : List Pk) (day : Int) (x : Bl) : Bool := decide (x.2.2.2.1 ≤ day) && (decide (day ≤ x.2.2.2.2.1) && condVal x.2.2.2.2.2 ch)
/-- What of part lies in code on a day. -/
def unitAt (p : Pt) (part code : ByteArray) (day : Int) : Int := unitV p.it p.ls (lineOn p.ch day) part code
/-- Takings: how much of the item each piece takes, the pieces, the day. -/
def tkStep (m : List Int) (v : Int × Int × Int) : List Int := m.set v.2.2.toNat (m.getD v.2.2.toNat 0 + v.1 * v.2.1)
def tkTo (l : List (Int × Int × Int)) : List Int := l.foldl tkStep (List.replicate 1000 0)
def dmN (p : Pt) (item : ByteArray) (d : Dm) : Int := if d.2.1.toList == item.toList then 1 else if decide (0 ≤ findIt p.it d.2.1) && phan p.it d.2.1 then unitAt p item d.2.1 d.2.2.2.1 else 0
def dmV (p : Pt) (item : ByteArray) (d : Dm) : Int × Int × Int := (dmN p item d, d.2.2.1, d.2.2.2.1)
def plV (p : Pt) (item : ByteArray) (o : Pl) : Int × Int × Int := (unitAt p item o.1 o.2.2.1, o.2.1, o.2.2.1)
def evsD (p : Pt) (item : ByteArray) (ds : List Dm) : List (Int × Int × Int) := ds.map (dmV p item)
def evsP (p : Pt) (item : ByteArray) (l : List Pl) : List (Int × Int × Int) := l.map (plV p item)
def few (l : List (Int × Int × Int)) : Bool := l.all fun v => decide (v.1 ≤ 1000000000)
/-- What is taken day by day, and whether it can be told. -/
def takenOn (p : Pt) (ds : List Dm) (l : List Pl) (item : ByteArray) : List Int × Bool := (tkTo (evsD p item ds ++ evsP p item l), few (evsD p item ds ++ evsP p item l))
def okEv (v : Int × Int × Int) : Prop := (0 ≤ v.1 * v.2.1 ∧ v.1 * v.2.1 ≤ 100000000100000) ∧ (0 ≤ v.2.2 ∧ v.2.2 ≤ 999)
theorem okEv_mk {n q d : Int} (h1 : 0 ≤ n ∧ n ≤ 1000000001) (h2 : 0 ≤ q ∧ q ≤ 100000) (h3 : 0 ≤ d ∧ d ≤ 999) : okEv (n, q, d) := by
  refine ⟨⟨Int.mul_nonneg h1.1 h2.1, ?_⟩, h3⟩
  have : n * q ≤ 1000000001 * 100000 := Int.mul_le_mul h1.2 h2.2 h2.1 (by omega)
  simp only
  omega
def prefS (l : List Int) (k : Nat) : Int := (l.take k).sum
theorem sum_set (m : List Int) (i : Nat) (x : Int) (h : i < m.length) : (m.set i x).sum = m.sum - m.getD i 0 + x := by
  induction m generalizing i with
  | nil => simp at h
  | cons a t ih =>
    cases i with
    | zero => simp only [List.set_cons_zero, List.sum_cons, List.getD_cons_zero]; omega
    | succ i =>
      simp only [List.set_cons_succ, List.sum_cons, List.getD_cons_succ]
      rw [ih i (by simpa using h)]; omega
theorem pref_le (m : List Int) (h : ∀ i, 0 ≤ m.getD i 0) (k : Nat) : 0 ≤ prefS m k ∧ prefS m k ≤ m.sum := by
  unfold prefS
  induction m generalizing k with
  | nil => simp
  | cons a t ih =>
    have h0 := h 0
    simp only [List.getD_cons_zero] at h0
    have ht : ∀ i, 0 ≤ t.getD i 0 := fun i => by have := h (i + 1); simpa using this
    cases k with
    | zero =>
      have := ih ht t.length
      rw [List.take_length] at this
      simp only [List.take_zero, List.sum_nil, List.sum_cons]; omega
    | succ k =>
      have := ih ht k
      simp only [List.take_succ_cons, List.sum_cons]; omega
theorem pref_succ (m : List Int) (k : Nat) (h : k < m.length) : prefS m (k + 1) = prefS m k + m.getD k 0 := by
  unfold prefS
  rw [List.take_add_one, List.getElem?_eq_getElem h, Option.toList_some, List.sum_append, List.getD_eq_getElem?_getD, List.getElem?_eq_getElem h]; simp
theorem pref_over (m : List Int) (k : Nat) (h : m.length ≤ k) : prefS m k = m.sum := by unfold prefS; rw [List.take_of_length_le h]
theorem getD_le_sum (m : List Int) (h : ∀ i, 0 ≤ m.getD i 0) (i : Nat) : m.getD i 0 ≤ m.sum := by
  have h1 := pref_le m h i
  have h2 := pref_le m h (i + 1)
  by_cases hi : i < m.length
  · rw [pref_succ m i hi] at h2; omega
  · rw [List.getD_eq_getElem?_getD, List.getElem?_eq_none (by omega)]; simp; omega
theorem tkStep_len (m : List Int) (v : Int × Int × Int) : (tkStep m v).length = m.length := by unfold tkStep; rw [List.length_set]
/-- A state of the days: what it can hold. -/
structure Days (m : List Int) (B : Int) : Prop where
  len : m.length = 1000
  pos : ∀ i, 0 ≤ m.getD i 0
  sum : m.sum ≤ B
theorem zeros_at (n i : Nat) : (List.replicate n (0 : Int)).getD i 0 = 0 := by
  rw [List.getD_eq_getElem?_getD, List.getElem?_replicate]; split <;> rfl
theorem zeros_sum (n : Nat) : (List.replicate n (0 : Int)).sum = 0 := by rw [List.sum_replicate_int, Int.mul_zero]
theorem Days.zero : Days (List.replicate 1000 0) 0 := ⟨List.length_replicate, fun i => by rw [zeros_at]; omega, by rw [zeros_sum]; omega⟩
theorem Days.step {m : List Int} {B : Int} (h : Days m B) {v : Int × Int × Int} (hv : okEv v) : Days (tkStep m v) (B + 100000000100000) ∧ m.getD v.2.2.toNat 0 + v.1 * v.2.1 ≤ B + 100000000100000 := by
  obtain ⟨⟨hp, hq⟩, h3⟩ := hv
  have hi : v.2.2.toNat < m.length := by rw [h.len]; omega
  have hg := getD_le_sum m h.pos v.2.2.toNat
  have hg0 := h.pos v.2.2.toNat
  have hs := h.sum
  refine ⟨⟨by rw [tkStep_len, h.len], fun i => ?_, ?_⟩, by omega⟩
  · unfold tkStep
    rw [intD_set _ _ _ _ hi]
    split
    · omega
    · exact h.pos i
  · unfold tkStep
    rw [sum_set _ _ _ hi]; omega
theorem Days.run {l : List (Int × Int × Int)} (h : ∀ v ∈ l, okEv v) : ∀ {m : List Int} {B : Int}, Days m B → Days (l.foldl tkStep m) (B + 100000000100000 * l.length) := by
  induction l with
  | nil => intro m B hm; simpa using hm
  | cons a t ih =>
    intro m B hm
    have := ih (fun v hv => h v (List.mem_cons_of_mem _ hv)) (hm.step (h a List.mem_cons_self)).1
    rw [List.foldl_cons, List.length_cons]
    refine ⟨this.len, this.pos, Int.le_trans this.sum ?_⟩
    rw [Int.natCast_succ]; omega
theorem tkTo_days {l : List (Int × Int × Int)} (h : ∀ v ∈ l, okEv v) : Days (tkTo l) (100000000100000 * l.length) := by
  have := Days.run h Days.zero
  rw [Int.zero_add] at this; exact this
theorem tkTo_snoc (l : List (Int × Int × Int)) (v : Int × Int × Int) : tkTo (l ++ [v]) = tkStep (tkTo l) v := by unfold tkTo; rw [List.foldl_append]; rfl
theorem few_snoc (l : List (Int × Int × Int)) (v : Int × Int × Int) : few (l ++ [v]) = (few l && decide (v.1 ≤ 1000000000)) := by unfold few; rw [List.all_append]; simp
theorem few_bad {l : List (Int × Int × Int)} {k : Nat} (hk : k < l.length) (h : ¬ l[k].1 ≤ 1000000000) : few l = false := by
  unfold few; rw [List.all_eq_false]; exact ⟨l[k], List.getElem_mem hk, by simpa using h⟩
theorem map_take1 {α β : Type} (f : α → β) (l : List α) (k : Nat) (h : k < l.length) : (l.map f).take (k + 1) = (l.map f).take k ++ [f l[k]] := by
  rw [List.take_add_one, List.getElem?_eq_getElem (by simpa using h), Option.toList_some]; simp
end Go.Proofs.Ytpbibkjcjgggdaa
/- The walks of l9On and Holds. -/
namespace Go.Proofs.Ytpbibkjcjgggdaa
open Go.RowKit
end Go.Proofs.Ytpbibkjcjgggdaa
