/- Part 9 of the texts of this claim: What of a part lies in an item, reckoned item by item and by the levels (plain); Pick: its cells, and the walks of the laws' own helpers on lists of it; What a condition comes to at a choice (plain). -/
import Derived.Test.YtlnkofnfgemfdaaGreatIp7
import Derived.Test.YtlnkofnfgemfdaaGreatIp8
import Derived.Test.YtlnkofnfgemfdaaGreatIp2
import Derived.StillTailTactics
import Derived.Test.YtlnkofnfgemfdaaGreatIp6
/- What of a part lies in an item, reckoned item by item and by the levels (plain). -/
namespace Go.Proofs.YtlnkofnfgemfdaaGreat
def eqB (a b : ByteArray) : Bool := a.toList == b.toList
def phan (it : List It) (c : ByteArray) : Bool := (it.getD (findIt it c).toNat itNone).2.2.1 == 2
def thrStep (it : List It) (on : Bl → Bool) (part code : ByteArray) (f : ByteArray → Int) (s : Int) (x : Bl) : Int :=
  if on x && (x.1.toList == code.toList) then (if x.2.1.toList == part.toList then min (s + x.2.2.1) 1000000001 else if phan it x.2.1 then min (s + x.2.2.1 * f x.2.1) 1000000001 else s) else s
def thr (it : List It) (ls : List Bl) (on : Bl → Bool) (part : ByteArray) : Nat → ByteArray → Int
  | 0, _ => 0
  | f + 1, code => ls.foldl (thrStep it on part code (thr it ls on part f)) 0
/-- What of part lies in code, at most 1000000001. -/
def unitV (it : List It) (ls : List Bl) (on : Bl → Bool) (part code : ByteArray) : Int := thr it ls on part it.length code
theorem foldl_ext' {α β : Type} (f g : β → α → β) (l : List α) : (∀ s, ∀ x ∈ l, f s x = g s x) → ∀ s, l.foldl f s = l.foldl g s := by
  induction l with
  | nil => intro _ s; rfl
  | cons a t ih =>
    intro h s
    rw [List.foldl_cons, List.foldl_cons, h s a List.mem_cons_self]
    exact ih (fun s x hx => h s x (List.mem_cons_of_mem _ hx)) _
theorem findIt_congr {l : List It} {c d : ByteArray} (h : c.toList = d.toList) : findIt l c = findIt l d := by unfold findIt; rw [h]
theorem thr_congr (it : List It) (ls : List Bl) (on : Bl → Bool) (part : ByteArray) (f : Nat) {c d : ByteArray} (h : c.toList = d.toList) : thr it ls on part f c = thr it ls on part f d := by
  cases f with
  | zero => rfl
  | succ f =>
    simp only [thr]
    refine foldl_ext' _ _ _ (fun s x _ => ?_) 0
    unfold thrStep; rw [h]
theorem unitV_congr {it : List It} {ls : List Bl} {on : Bl → Bool} {part : ByteArray} {c d : ByteArray} (h : c.toList = d.toList) : unitV it ls on part c = unitV it ls on part d := thr_congr _ _ _ _ _ h
/-- A catalog and lines whose items are all found, and levels at rest. -/
structure Lev (it : List It) (ls : List Bl) (lev : List Nat) : Prop where
  len : lev.length = it.length
  fnd : ∀ x ∈ ls, 0 ≤ findIt it x.1 ∧ 0 ≤ findIt it x.2.1
  qty : ∀ x ∈ ls, 1 ≤ x.2.2.1 ∧ x.2.2.1 ≤ 1000
  rest : ∀ x ∈ ls, lev.getD (findIt it x.1).toNat 0 < lev.getD (findIt it x.2.1).toNat 0
  lt : ∀ v, v < it.length → lev.getD v 0 < it.length
  held : ∀ v, 0 < lev.getD v 0 → ∃ x ∈ ls, (findIt it x.2.1).toNat = v
theorem lev_of {it : List It} {ls : List Bl} (h : isBills it ls = true) : Lev it ls (runTo (edges it ls) it.length it.length) ∧ levI (edges it ls) it.length = natI (runTo (edges it ls) it.length it.length) := by
  obtain ⟨_, _, h3, h4⟩ := isBills_parts h
  have hf : ∀ k (hk : k < ls.length), 0 ≤ findIt it ls[k].1 ∧ 0 ≤ findIt it ls[k].2.1 := fun k hk => ⟨(okLine_parts (h3 k hk)).1, (okLine_parts (h3 k hk)).2.1⟩
  have hE := edges_lt hf
  have hR : Rest (edges it ls) (runTo (edges it ls) it.length it.length) := (pass_rest (E := edges it ls) _ _ (Nat.le_refl _) h4).2
  have hH := Held.run hE it.length
  have hat : ∀ k (hk : k < ls.length), (edges it ls).getD k (0, 0) = ((findIt it ls[k].1).toNat, (findIt it ls[k].2.1).toNat) := fun k hk =>
    edges_at it ls hk (by have := (hf k hk).1; omega) (by have := (hf k hk).2; omega)
  refine ⟨⟨runTo_len _, fun x hx => ?_, fun x hx => ?_, fun x hx => ?_, fun v hv => rest_le hE hH hR v hv, fun v hv => ?_⟩, levI_some h4⟩
  · obtain ⟨k, hk, rfl⟩ := List.mem_iff_getElem.1 hx
    exact hf k hk
  · obtain ⟨k, hk, rfl⟩ := List.mem_iff_getElem.1 hx
    exact (okLine_parts (h3 k hk)).2.2.1
  · obtain ⟨k, hk, rfl⟩ := List.mem_iff_getElem.1 hx
    have := hR k (by rw [edges_len]; exact hk)
    rw [hat k hk] at this
    exact this
  · obtain ⟨k, h1, h2, _⟩ := hH v hv
    rw [edges_len] at h1
    rw [hat k h1] at h2
    exact ⟨ls[k], List.getElem_mem h1, h2⟩
section
variable {it : List It} {ls : List Bl} {lev : List Nat} (hL : Lev it ls lev) (on : Bl → Bool) (part : ByteArray)
include hL
theorem thr_stab (f : Nat) : ∀ code, 0 ≤ findIt it code → it.length - lev.getD (findIt it code).toNat 0 ≤ f → thr it ls on part (f + 1) code = thr it ls on part f code := by
  induction f with
  | zero =>
    intro code h0 hf
    have := hL.lt _ (findIt_lt h0)
    omega
  | succ f ih =>
    intro code h0 hf
    show ls.foldl (thrStep it on part code (thr it ls on part (f + 1))) 0 = ls.foldl (thrStep it on part code (thr it ls on part f)) 0
    refine foldl_ext' _ _ _ (fun s x hx => ?_) 0
    unfold thrStep
    by_cases hc : (on x && (x.1.toList == code.toList)) = true
    · rw [if_pos hc, if_pos hc]
      simp only [Bool.and_eq_true, beq_iff_eq] at hc
      have h1 := hL.rest x hx
      rw [findIt_congr hc.2] at h1
      have h2 := hL.fnd x hx
      rw [ih x.2.1 h2.2 (by omega)]
    · rw [if_neg hc, if_neg hc]
theorem unitV_eq (code : ByteArray) (h0 : 0 ≤ findIt it code) : unitV it ls on part code = ls.foldl (thrStep it on part code (unitV it ls on part)) 0 :=
  (thr_stab hL on part it.length code h0 (by omega)).symm
omit hL in
theorem thrStep_bd (code : ByteArray) (f : ByteArray → Int) (s : Int) (x : Bl) (hs : 0 ≤ s ∧ s ≤ 1000000001) (hf : 0 ≤ f x.2.1) (hq : 1 ≤ x.2.2.1) : 0 ≤ thrStep it on part code f s x ∧ thrStep it on part code f s x ≤ 1000000001 := by
  unfold thrStep
  split
  · split
    · omega
    · split
      · have := Int.mul_nonneg (show 0 ≤ x.2.2.1 by omega) hf
        omega
      · exact hs
  · exact hs
theorem thr_bd (f : Nat) : ∀ code, 0 ≤ thr it ls on part f code ∧ thr it ls on part f code ≤ 1000000001 := by
  induction f with
  | zero => intro code; exact ⟨by simp [thr], by simp [thr]⟩
  | succ f ih =>
    intro code
    simp only [thr]
    have hq := hL.qty
    have : ∀ (l : List Bl), (∀ x ∈ l, 1 ≤ x.2.2.1) → ∀ s : Int, 0 ≤ s ∧ s ≤ 1000000001 → 0 ≤ l.foldl (thrStep it on part code (thr it ls on part f)) s ∧ l.foldl (thrStep it on part code (thr it ls on part f)) s ≤ 1000000001 := by
      intro l
      induction l with
      | nil => intro _ s hs; exact hs
      | cons a t iht =>
        intro h s hs
        rw [List.foldl_cons]
        exact iht (fun x hx => h x (List.mem_cons_of_mem _ hx)) _ (thrStep_bd on part code _ s a hs (ih _).1 (h a List.mem_cons_self))
    exact this ls (fun x hx => (hq x hx).1) 0 (by omega)
theorem unitV_bd (code : ByteArray) : 0 ≤ unitV it ls on part code ∧ unitV it ls on part code ≤ 1000000001 := thr_bd hL on part _ _
theorem thrTo_bd (code : ByteArray) (k : Nat) : 0 ≤ (ls.take k).foldl (thrStep it on part code (unitV it ls on part)) 0 ∧ (ls.take k).foldl (thrStep it on part code (unitV it ls on part)) 0 ≤ 1000000001 := by
  have hq := hL.qty
  have hu := fun c => (unitV_bd hL on part c).1
  have : ∀ (l : List Bl), (∀ x ∈ l, 1 ≤ x.2.2.1) → ∀ s : Int, 0 ≤ s ∧ s ≤ 1000000001 → 0 ≤ l.foldl (thrStep it on part code (unitV it ls on part)) s ∧ l.foldl (thrStep it on part code (unitV it ls on part)) s ≤ 1000000001 := by
    intro l
    induction l with
    | nil => intro _ s hs; exact hs
    | cons a t iht =>
      intro h s hs
      rw [List.foldl_cons]
      exact iht (fun x hx => h x (List.mem_cons_of_mem _ hx)) _ (thrStep_bd on part code _ s a hs (hu _) (h a List.mem_cons_self))
  exact this (ls.take k) (fun x hx => (hq x (List.mem_of_mem_take hx)).1) 0 (by omega)
end
/-! The same by the levels, where more than 1000000000 is -1. -/
def capv (t : Int) : Int := if t ≤ 1000000000 then t else -1
def timesC (a b : Int) : Int := if a < 0 ∨ b < 0 ∨ (0 < a ∧ 1000000000 / a < b) then -1 else a * b
def plusC (a b : Int) : Int := if a < 0 ∨ b < 0 ∨ 1000000000 < a + b then -1 else a + b
theorem times_cap (u q : Int) (hu : 0 ≤ u) (hq : 1 ≤ q) : timesC (capv u) q = capv (q * u) := by
  unfold capv timesC
  by_cases h1 : u ≤ 1000000000
  · rw [if_pos h1]
    by_cases h0 : u = 0
    · subst h0; simp; omega
    · have hp : 0 < u := by omega
      by_cases h2 : 1000000000 / u < q
      · rw [if_pos (.inr (.inr ⟨hp, h2⟩))]
        have := (Int.ediv_lt_iff_lt_mul hp).1 h2
        rw [if_neg (by omega)]
      · rw [if_neg (by omega)]
        have h3 : ¬ 1000000000 < q * u := fun h => h2 ((Int.ediv_lt_iff_lt_mul hp).2 h)
        rw [if_pos (by omega), Int.mul_comm]
  · rw [if_neg h1, if_pos (.inl (by omega))]
    have := Int.mul_le_mul_of_nonneg_right hq hu
    rw [if_neg (by omega)]
theorem plus_cap (s t : Int) (hs : 0 ≤ s) (ht : 0 ≤ t) : plusC (capv s) (capv t) = capv (min (s + t) 1000000001) := by
  unfold capv plusC
  by_cases h1 : s ≤ 1000000000
  · rw [if_pos h1]
    by_cases h2 : t ≤ 1000000000
    · rw [if_pos h2]
      by_cases h3 : s + t ≤ 1000000000
      · rw [if_neg (by omega), if_pos (by omega)]; omega
      · rw [if_pos (by omega), if_neg (by omega)]
    · rw [if_neg h2, if_pos (by omega), if_neg (by omega)]
  · rw [if_neg h1, if_pos (by omega), if_neg (by omega)]
theorem capv_zero {u : Int} (hu : 0 ≤ u) (h : capv u = 0) : u = 0 := by unfold capv at h; split at h <;> omega
theorem cap_step (s u q : Int) (hs : 0 ≤ s ∧ s ≤ 1000000001) (hu : 0 ≤ u) (hq : 1 ≤ q) : (if capv u = 0 then capv s else plusC (capv s) (timesC (capv u) q)) = capv (min (s + q * u) 1000000001) := by
  by_cases h : capv u = 0
  · rw [if_pos h, capv_zero hu h, Int.mul_zero, Int.add_zero]
    rw [show min s 1000000001 = s by omega]
  · rw [if_neg h, times_cap u q hu hq, plus_cap s (q * u) hs.1 (Int.mul_nonneg (by omega) hu)]
def nOf (it : List It) (part : ByteArray) (m : List Int) (x : Bl) : Int := if x.2.1.toList == part.toList then 1 else if phan it x.2.1 then m.getD (findIt it x.2.1).toNat 0 else 0
def inLine (it : List It) (on : Bl → Bool) (part : ByteArray) (a : Nat) (m : List Int) (x : Bl) : List Int :=
  if (x.1.toList == (it.getD a itNone).1.toList) && on x then (if nOf it part m x = 0 then m else m.set a (plusC (m.getD a 0) (timesC (nOf it part m x) x.2.2.1))) else m
def inItem (it : List It) (ls : List Bl) (on : Bl → Bool) (part : ByteArray) (a : Nat) (m : List Int) : List Int := ls.foldl (inLine it on part a) m
def inTo (it : List It) (ls : List Bl) (on : Bl → Bool) (part : ByteArray) (rest : List Nat) : List Int := rest.foldr (inItem it ls on part) (List.replicate it.length 0)
theorem intD_set (m : List Int) (d i : Nat) (x : Int) (hd : d < m.length) : (m.set d x).getD i 0 = if d = i then x else m.getD i 0 := by
  rw [List.getD_eq_getElem?_getD, List.getElem?_set, List.getD_eq_getElem?_getD]
  by_cases h : d = i
  · subst h; rw [if_pos rfl, if_pos rfl, if_pos hd]; rfl
  · rw [if_neg h, if_neg h]
theorem inLine_len (it : List It) (on : Bl → Bool) (part : ByteArray) (a : Nat) (m : List Int) (x : Bl) : (inLine it on part a m x).length = m.length := by
  unfold inLine; split
  · split
    · rfl
    · rw [List.length_set]
  · rfl
theorem inItem_len (it : List It) (ls : List Bl) (on : Bl → Bool) (part : ByteArray) (a : Nat) (m : List Int) : (inItem it ls on part a m).length = m.length := by
  unfold inItem
  induction ls generalizing m with
  | nil => rfl
  | cons x t ih => rw [List.foldl_cons, ih, inLine_len]
theorem inTo_len (it : List It) (ls : List Bl) (on : Bl → Bool) (part : ByteArray) (rest : List Nat) : (inTo it ls on part rest).length = it.length := by
  unfold inTo
  induction rest with
  | nil => simp
  | cons a t ih => rw [List.foldr_cons, inItem_len, ih]
section
variable {it : List It} {ls : List Bl} {lev : List Nat} (hL : Lev it ls lev) (on : Bl → Bool) (part : ByteArray)
include hL
theorem inItem_at (a : Nat) (rest : List Nat) (m0 : List Int) (ha : a < it.length) (hlen : m0.length = it.length) (hna : a ∉ rest)
    (hb : ∀ b, b < it.length → lev.getD a 0 < lev.getD b 0 → b ∈ rest) (h : ∀ b, b < it.length → m0.getD b 0 = if b ∈ rest then capv (unitV it ls on part (it.getD b itNone).1) else 0) (k : Nat) (hk : k ≤ ls.length) :
    (∀ b, b ≠ a → ((ls.take k).foldl (inLine it on part a) m0).getD b 0 = m0.getD b 0) ∧ ((ls.take k).foldl (inLine it on part a) m0).getD a 0 = capv ((ls.take k).foldl (thrStep it on part (it.getD a itNone).1 (unitV it ls on part)) 0) ∧ ((ls.take k).foldl (inLine it on part a) m0).length = it.length := by
  induction k with
  | zero =>
    refine ⟨fun b _ => rfl, ?_, hlen⟩
    show m0.getD a 0 = capv 0
    rw [h a ha, if_neg hna]; rfl
  | succ k ih =>
    obtain ⟨h1, h2, h3⟩ := ih (by omega)
    have hk2 : k < ls.length := by omega
    rw [List.take_add_one, List.getElem?_eq_getElem hk2, Option.toList_some, List.foldl_append, List.foldl_append]
    simp only [List.foldl_cons, List.foldl_nil]
    generalize hM : (ls.take k).foldl (inLine it on part a) m0 = M at *
    have hS := thrTo_bd hL on part (it.getD a itNone).1 k
    generalize (ls.take k).foldl (thrStep it on part (it.getD a itNone).1 (unitV it ls on part)) 0 = s at *
    have hx := List.getElem_mem hk2
    generalize ls[k] = x at *
    unfold inLine thrStep
    by_cases hc : (on x && (x.1.toList == (it.getD a itNone).1.toList)) = true
    case neg => rw [if_neg hc, if_neg (by rw [Bool.and_comm]; exact hc)]; exact ⟨h1, h2, h3⟩
    rw [if_pos hc, if_pos (by rw [Bool.and_comm]; exact hc)]
    simp only [Bool.and_eq_true, beq_iff_eq] at hc
    obtain ⟨f1, f2⟩ := hL.fnd x hx
    have hr := hL.rest x hx
    have hlev : lev.getD a 0 ≤ lev.getD (findIt it x.1).toNat 0 := by
      rcases Nat.eq_zero_or_pos (lev.getD a 0) with h0 | h0
      · omega
      · obtain ⟨y, hy, hya⟩ := hL.held a h0
        rcases findIt_cases it y.2.1 with e | ⟨q, hq, e1, e2⟩
        · have := (hL.fnd y hy).2; omega
        · have hqa : q = a := by rw [e1] at hya; simpa using hya
          subst hqa
          have e3 : it[q].1.toList = y.2.1.toList := by simpa using e2
          have e4 : x.1.toList = y.2.1.toList := by
            rw [hc.2, ← e3, List.getD_eq_getElem?_getD, List.getElem?_eq_getElem hq]; rfl
          rw [findIt_congr e4, e1]; simp
    have hbm : (findIt it x.2.1).toNat ∈ rest := hb _ (findIt_lt f2) (by omega)
    have hba : (findIt it x.2.1).toNat ≠ a := fun e => hna (e ▸ hbm)
    have hMb : M.getD (findIt it x.2.1).toNat 0 = capv (unitV it ls on part x.2.1) := by
      rw [h1 _ hba, h _ (findIt_lt f2), if_pos hbm]
      rcases findIt_cases it x.2.1 with e | ⟨q, hq, e1, e2⟩
      · omega
      · have e3 : it[q].1.toList = x.2.1.toList := by simpa using e2
        rw [e1, Int.toNat_natCast, List.getD_eq_getElem?_getD, List.getElem?_eq_getElem hq]
        show capv (unitV it ls on part it[q].1) = _
        rw [unitV_congr e3]
    have hq := hL.qty x hx
    have hu := unitV_bd hL on part x.2.1
    have key : ∀ u : Int, 0 ≤ u → (∀ b, b ≠ a → (if capv u = 0 then M else M.set a (plusC (M.getD a 0) (timesC (capv u) x.2.2.1))).getD b 0 = m0.getD b 0) ∧ (if capv u = 0 then M else M.set a (plusC (M.getD a 0) (timesC (capv u) x.2.2.1))).getD a 0 = capv (min (s + x.2.2.1 * u) 1000000001) ∧ (if capv u = 0 then M else M.set a (plusC (M.getD a 0) (timesC (capv u) x.2.2.1))).length = it.length := by
      intro u hu0
      have hcs := cap_step s u x.2.2.1 hS hu0 hq.1
      by_cases h0 : capv u = 0
      · simp only [if_pos h0] at hcs ⊢
        exact ⟨h1, by rw [h2, hcs], h3⟩
      · simp only [if_neg h0] at hcs ⊢
        refine ⟨fun b hb2 => ?_, ?_, by rw [List.length_set, h3]⟩
        · rw [intD_set _ _ _ _ (by omega), if_neg (Ne.symm hb2), h1 b hb2]
        · rw [intD_set _ _ _ _ (by omega), if_pos rfl, h2, hcs]
    unfold nOf
    by_cases hp : (x.2.1.toList == part.toList) = true
    · simp only [if_pos hp]
      have := key 1 (by omega)
      rw [Int.mul_one] at this
      exact this
    · simp only [if_neg hp]
      by_cases hph : phan it x.2.1 = true
      · simp only [if_pos hph, hMb]
        exact key _ hu.1
      · simp only [if_neg hph]
        exact ⟨h1, h2, h3⟩
theorem inTo_at (pre rest : List Nat) (h : ordOf lev it.length = pre ++ rest) : ∀ b, b < it.length → (inTo it ls on part rest).getD b 0 = if b ∈ rest then capv (unitV it ls on part (it.getD b itNone).1) else 0 := by
  induction rest generalizing pre with
  | nil =>
    intro b hb
    unfold inTo
    rw [List.foldr_nil, List.getD_eq_getElem?_getD, List.getElem?_replicate, if_pos hb]; simp
  | cons a t ih =>
    have h2 : ordOf lev it.length = (pre ++ [a]) ++ t := by rw [h]; simp
    have iht := ih (pre ++ [a]) h2
    have hpw := ordOf_pw lev it.length
    rw [h2, List.pairwise_append] at hpw
    obtain ⟨hp1, _, hp3⟩ := hpw
    have hna : a ∉ t := fun hm => (hp3 a (by simp) a hm).1 rfl
    have ha : a < it.length := by
      have : a ∈ ordOf lev it.length := by rw [h]; simp
      have := (ordOf_mem.1 this).1
      rw [hL.len] at this; exact this
    have hb : ∀ b, b < it.length → lev.getD a 0 < lev.getD b 0 → b ∈ t := by
      intro b hbl hlt
      have hm : b ∈ ordOf lev it.length := ordOf_mem.2 ⟨by rw [hL.len]; exact hbl, hL.lt b hbl⟩
      rw [h, List.mem_append, List.mem_cons] at hm
      rcases hm with hm | hm | hm
      · rw [List.pairwise_append] at hp1
        have := (hp1.2.2 b hm a (by simp)).2
        omega
      · subst hm; omega
      · exact hm
    obtain ⟨k1, k2, _⟩ := inItem_at hL on part a t (inTo it ls on part t) ha (inTo_len _ _ _ _ _) hna hb iht ls.length (Nat.le_refl _)
    rw [List.take_length] at k1 k2
    have hE : inTo it ls on part (a :: t) = ls.foldl (inLine it on part a) (inTo it ls on part t) := rfl
    intro b hbl
    rw [hE]
    by_cases hba : b = a
    · subst hba
      rw [k2, if_pos List.mem_cons_self, unitV_eq hL on part _ ?_]
      rcases findIt_cases it (it.getD b itNone).1 with e | ⟨q, hq, e1, e2⟩
      · exfalso
        unfold findIt at e
        split at e
        · omega
        · next hn =>
          rw [List.findIdx?_eq_none_iff] at hn
          have := hn _ (List.getElem_mem ha)
          rw [List.getD_eq_getElem?_getD, List.getElem?_eq_getElem ha] at this
          simp at this
      · omega
    · rw [k1 b hba, iht b hbl]
      by_cases hm : b ∈ t
      · rw [if_pos hm, if_pos (List.mem_cons_of_mem _ hm)]
      · rw [if_neg hm, if_neg (by simp [hba, hm])]
theorem unit_order (code : ByteArray) (h0 : 0 ≤ findIt it code) : (inTo it ls on part (ordOf lev it.length)).getD (findIt it code).toNat 0 = capv (unitV it ls on part code) := by
  rw [inTo_at hL on part [] (ordOf lev it.length) (by simp) _ (findIt_lt h0)]
  rw [if_pos (ordOf_mem.2 ⟨by rw [hL.len]; exact findIt_lt h0, hL.lt _ (findIt_lt h0)⟩)]
  rcases findIt_cases it code with e | ⟨q, hq, e1, e2⟩
  · omega
  · have e3 : it[q].1.toList = code.toList := by simpa using e2
    rw [e1, Int.toNat_natCast, List.getD_eq_getElem?_getD, List.getElem?_eq_getElem hq]
    show capv (unitV it ls on part it[q].1) = _
    rw [unitV_congr e3]
end
theorem timesC_bd (a b : Int) (hb : 0 ≤ b) : -1 ≤ timesC a b ∧ timesC a b ≤ 1000000000 := by
  unfold timesC
  split
  · omega
  · next h =>
    have ha : 0 ≤ a := by omega
    have h0 := Int.mul_nonneg ha hb
    refine ⟨by omega, ?_⟩
    by_cases hp : 0 < a
    · have h1 : ¬ 1000000000 / a < b := fun e => h (.inr (.inr ⟨hp, e⟩))
      have h2 : ¬ 1000000000 < b * a := fun e => h1 ((Int.ediv_lt_iff_lt_mul hp).2 e)
      rw [Int.mul_comm]; omega
    · obtain rfl : a = 0 := by omega
      simp
theorem plusC_bd (a b : Int) : -1 ≤ plusC a b ∧ plusC a b ≤ 1000000000 := by
  unfold plusC
  split <;> omega
def InB (m : List Int) : Prop := ∀ b, -1 ≤ m.getD b 0 ∧ m.getD b 0 ≤ 1000000000
theorem inLine_bd (it : List It) (on : Bl → Bool) (part : ByteArray) (a : Nat) (m : List Int) (x : Bl) (h : InB m) : InB (inLine it on part a m x) := by
  unfold inLine
  split
  · split
    · exact h
    · intro b
      by_cases ha : a < m.length
      · rw [intD_set _ _ _ _ ha]
        split
        · exact plusC_bd _ _
        · exact h b
      · rw [List.set_eq_of_length_le (by omega)]; exact h b
  · exact h
theorem inFold_bd (it : List It) (on : Bl → Bool) (part : ByteArray) (a : Nat) (l : List Bl) : ∀ m : List Int, InB m → InB (l.foldl (inLine it on part a) m) := by
  induction l with
  | nil => intro m h; exact h
  | cons x t ih => intro m h; exact ih _ (inLine_bd it on part a m x h)
theorem inTo_bd (it : List It) (ls : List Bl) (on : Bl → Bool) (part : ByteArray) (rest : List Nat) : InB (inTo it ls on part rest) := by
  unfold inTo
  induction rest with
  | nil =>
    intro b
    rw [List.foldr_nil, List.getD_eq_getElem?_getD, List.getElem?_replicate]
    split <;> simp
  | cons a t ih => exact inFold_bd it on part a ls _ ih
theorem inFold_len (it : List It) (on : Bl → Bool) (part : ByteArray) (a : Nat) (l : List Bl) (m : List Int) : (l.foldl (inLine it on part a) m).length = m.length := inItem_len it l on part a m
theorem inFold_take (it : List It) (on : Bl → Bool) (part : ByteArray) (a : Nat) (l : List Bl) (m : List Int) (k : Nat) (h : k < l.length) : (l.take (k + 1)).foldl (inLine it on part a) m = inLine it on part a ((l.take k).foldl (inLine it on part a) m) l[k] := by
  rw [List.take_add_one, List.getElem?_eq_getElem h, Option.toList_some, List.foldl_append]; rfl
theorem inLine_no (it : List It) (on : Bl → Bool) (part : ByteArray) (a : Nat) (m : List Int) (x : Bl) (h : ((x.1.toList == (it.getD a itNone).1.toList) && on x) = false) : inLine it on part a m x = m := by unfold inLine; rw [if_neg (by rw [h]; decide)]
theorem inLine_zero (it : List It) (on : Bl → Bool) (part : ByteArray) (a : Nat) (m : List Int) (x : Bl) (h0 : nOf it part m x = 0) : inLine it on part a m x = m := by
  unfold inLine
  simp only [h0, if_true]
  split <;> rfl
theorem inLine_yes (it : List It) (on : Bl → Bool) (part : ByteArray) (a : Nat) (m : List Int) (x : Bl) (h : ((x.1.toList == (it.getD a itNone).1.toList) && on x) = true) (h0 : nOf it part m x ≠ 0) : inLine it on part a m x = m.set a (plusC (m.getD a 0) (timesC (nOf it part m x) x.2.2.1)) := by unfold inLine; rw [if_pos h, if_neg h0]
theorem inTo_cons (it : List It) (ls : List Bl) (on : Bl → Bool) (part : ByteArray) (ord : List Nat) (k : Nat) (h : k < ord.length) : inTo it ls on part (ord.drop k) = (ls.take ls.length).foldl (inLine it on part ord[k]) (inTo it ls on part (ord.drop (k + 1))) := by
  rw [List.take_length, List.drop_eq_getElem_cons h]; rfl
end Go.Proofs.YtlnkofnfgemfdaaGreat
/- Pick: its cells, and the walks of the laws' own helpers on lists of it. -/
namespace Go.Proofs.YtlnkofnfgemfdaaGreat
open Go.RowKit

abbrev Pk := ByteArray × ByteArray
def pkF : Flat Pk := ⟨fun f => [.string (f.1), .string (f.2)], 2, fun _ => rfl⟩
abbrev PicksIn (w : World) (A : Option Addr) (n : Nat) (l : List Pk) : Prop := RowsIn pkF w A n l
theorem pick_at {w : World} {A : Option Addr} {n : Nat} {l : List Pk} (h : PicksIn w A n l) {k : Nat} (hk : k < l.length) :
    ∃ b o, A = some ⟨b, o, none⟩ ∧ b < w.heap.size ∧ w.cell? ⟨b, o + k * 2, none⟩ = some (.string (l[k].1)) ∧ w.cell? ⟨b, o + k * 2 + 1, none⟩ = some (.string (l[k].2)) := by
  obtain ⟨b, o, e, hlt, hc⟩ := h.at_ hk
  exact ⟨b, o, e, hlt, hc 0 _ rfl, hc 1 _ rfl⟩
theorem pickInfo : (Tryz.prog.info? 166).map (fun i => (i.zero, i.size, i.bytes)) = some (some (.agg #[.string ByteArray.empty, .string ByteArray.empty]), 2, 32) := by kernel_rfl
theorem pickElem : ElemOk pkF 44 166 := by
  obtain ⟨i, h1, h2, h3, h4⟩ := info_parts pickInfo
  exact ⟨i, _, 32, Tryz.underlying44, h1, h2, h3, h4, rfl, by decide, by omega⟩
theorem toPick_any (x0 : ByteArray) (x1 : ByteArray) (w : World) : Calls Tryz.prog 112 #[.agg #[.string (x0), .string (x1)]] w fun e w' => e = .returned (.agg #[.string (x0), .string (x1)]) ∧ Below w.heap.size w w' := by
  go_enter Tryz.func112, Tryz.ntmps112
  go_wp2
  refine bodyPost_ret (v := .agg #[.string (x0), .string (x1)]) (by simp [results, Tryz.results112, go_sem]) rfl ⟨rfl, ?_⟩
  exact (((Below.refl _ _).alloc (Nat.le_refl _) _).alloc (by simp) _).alloc (by simp; omega) _
set_option maxRecDepth 100000 in
set_option maxHeartbeats 2000000 in
theorem toPickS_any (A : Option Addr) (n c : Nat) (l : List Pk) (w : World) (hl : PicksIn w A n l) :
    Calls Tryz.prog 49 #[.slice A n c] w fun e w' => ∃ A', e = .returned (.slice A' n n) ∧ OwnRows pkF 166 w' w.heap.size A' n n l ∧ Below w.heap.size w w' := by
  obtain ⟨i0, hi0, hz0, hz1, hz2⟩ := info_parts pickInfo
  have hn := hl.len
  obtain rfl := hl.1
  go_enter Tryz.func49, Tryz.ntmps49
  go_wp2_with (at_make; refine wpList_make_full _ rfl (.tmp 6) (.tmp 6) _ rfl w.heap.size 166 i0 _ 2 Tryz.underlying44 hi0 hz0 hz1 .i64 .i64 _ _ l.length rfl rfl rfl rfl (by rw [hz2]; omega) (by unfold maxLen; omega) (Nat.le_refl _) ?_; intro w1 hown hg)
  have hb1 := below_none hg
  generalize hzs : (madeCells (Value.agg #[.string ByteArray.empty, .string ByteArray.empty]).cells (l.length * 2)).toList = zs at hown
  have hzl : zs.length = (l.flatMap pkF.enc).length := by rw [flatMap_len pkF.enc 2 pkF.len, hown.1]
  clear hg hzs
  have HZ := Lib.hid hzl; clear hzl
  have hown1 : w1.ownsRow w.heap.size 166 2 (.slice (some ⟨w.heap.size, 0, none⟩) l.length l.length) l.length (fillC zs (l.flatMap pkF.enc) 0) := by
    rw [fillC_zero]; exact hown
  clear hown
  go_loopw [4] (fun i wr => ∃ k : Nat, k ≤ l.length ∧ i = .int .i64 k ∧ wr.ownsRow w.heap.size 166 2 (.slice (some ⟨w.heap.size, 0, none⟩) l.length l.length) l.length (fillC zs (l.flatMap pkF.enc) (k * 2)) ∧ Below w.heap.size w wr) (fun i _ => l.length - (intOf i).toNat)
  case atStart => exact ⟨0, by omega, rfl, by rw [Nat.zero_mul]; exact hown1, hb1⟩
  case round =>
    obtain ⟨k, hk, rfl, hown, hb⟩ := hrel
    by_cases hlt : k < l.length
    · obtain ⟨b, o, rfl, _, hc0, hc1⟩ := pick_at (hl.keep hb) hlt
      go_wp2_with fail
      refine (toPick_any _ _ _).mono ?_
      rintro e w2 ⟨rfl, hb2⟩
      have ho := own_keep hown hb2
      have hlen : (l.flatMap pkF.enc).length = l.length * 2 := flatMap_len pkF.enc 2 pkF.len l
      have hz := HZ.out
      have e0 : (l.flatMap pkF.enc)[k * 2]? = some (.string (l[k].1)) := flatMap_at pkF.enc 2 pkF.len l k 0 hlt (by omega)
      obtain ⟨u0, c0, f0⟩ := own_cell ho (k * 2) (by omega)
      have e1 : (l.flatMap pkF.enc)[k * 2 + 1]? = some (.string (l[k].2)) := flatMap_at pkF.enc 2 pkF.len l k 1 hlt (by omega)
      obtain ⟨u1, c1, f1⟩ := own_cell ho (k * 2 + 1) (by omega)
      have s0 := (ho.stored (k * 2) (.string (l[k].1))).1
      rw [fillC_set _ _ _ _ e0 hz] at s0
      have s1 := (s0.stored (k * 2 + 1) (.string (l[k].2))).1
      rw [fillC_set _ _ _ _ e1 hz] at s1
      have hb3 : Below w.heap.size w w2 := hb.trans (hb2.mono hb.size)
      have S2 := Lib.hid s1
      clear ho e0 e1 s0 s1 hown hz hlen hb hb2
      go_wp2
      go_roundw
      case rel => exact ⟨k + 1, by omega, by go_num, by rw [show (k + 1) * 2 = k * 2 + 1 + 1 by omega]; exact S2.out, ((hb3.setCell (Nat.le_refl _) _).setCell (Nat.le_refl _) _)⟩
      case measure => simp [intOf]; omega
    · obtain rfl : k = l.length := by omega
      go_wp2
      go_ret
      refine ⟨_, rfl, ⟨rfl, ?_⟩, hb⟩
      have h2 : (l.flatMap pkF.enc).length = l.length * 2 := flatMap_len pkF.enc 2 pkF.len l
      rw [← h2, fillC_all _ _ HZ.out] at hown
      exact hown
theorem eqPick_yes (x0 : ByteArray) (x1 : ByteArray) (w : World) : Calls Tryz.prog 128 #[.agg #[.string (x0), .string (x1)], .agg #[.string (x0), .string (x1)]] w fun e w' => e = .returned (.bool true) ∧ Below w.heap.size w w' := by
  go_enter Tryz.func128, Tryz.ntmps128
  go_wp2
  go_ret
  exact ⟨rfl, ((Below.refl _ _).alloc (Nat.le_refl _) _).alloc (by simp) _⟩
set_option maxRecDepth 100000 in
set_option maxHeartbeats 2000000 in
theorem eqPickS_yes (A B : Option Addr) (n m c d : Nat) (l : List Pk) (w : World) (ha : PicksIn w A n l) (hb : PicksIn w B m l) :
    Calls Tryz.prog 66 #[.slice A n c, .slice B m d] w fun e w' => e = .returned (.bool true) ∧ Below w.heap.size w w' := by
  have hn := ha.len
  obtain rfl := ha.1
  obtain rfl := hb.1
  go_enter Tryz.func66, Tryz.ntmps66
  go_wp2
  go_loopw [5] (fun i wr => ∃ k : Nat, k ≤ l.length ∧ i = .int .i64 k ∧ Below w.heap.size w wr) (fun i _ => l.length - (intOf i).toNat)
  case atStart => exact ⟨0, by omega, rfl, Below.refl _ _⟩
  case round =>
    obtain ⟨k, hk, rfl, HD⟩ := hrel
    by_cases hlt : k < l.length
    · obtain ⟨b1, o1, rfl, _, hc0, hc1⟩ := pick_at (ha.keep HD) hlt
      obtain ⟨b2, o2, rfl, _, hd0, hd1⟩ := pick_at (hb.keep HD) hlt
      go_wp2
      go_still_tail 8, (by kernel_rfl)
      change wpList _ _ _ _ _ wr.drew
      have HE : Below w.heap.size w wr.drew := HD.drew
      generalize wr.drew = w2 at *
      go_wp2_with (go_at_call 128; refine (eqPick_yes _ _ _).mono ?_; rintro e w3 ⟨rfl, hb3⟩)
      go_roundw
      case rel => exact ⟨k + 1, by omega, by go_num, HE.trans (hb3.mono HE.size)⟩
      case measure => simp [intOf]; omega
    · obtain rfl : k = l.length := by omega
      go_wp2
      go_ret
      exact ⟨rfl, HD⟩
def okPk (x : Pk) : Prop := x.1.size ≤ 9223372036854775807 ∧ x.2.size ≤ 9223372036854775807
set_option maxRecDepth 100000 in
set_option maxHeartbeats 1000000 in
theorem szPick_any (x0 : ByteArray) (x1 : ByteArray) (left : Int) (w : World) (h0 : 0 ≤ left) (h1 : left ≤ 1048576) (hs0 : x0.size ≤ 9223372036854775807) (hs1 : x1.size ≤ 9223372036854775807) :
    Calls Tryz.prog 96 #[.agg #[.string (x0), .string (x1)], .int .i64 left] w fun e w' => ∃ r : Int, e = .returned (.int .i64 r) ∧ -1 ≤ r ∧ r ≤ left ∧ Below w.heap.size w w' := by
  go_enter Tryz.func96, Tryz.ntmps96
  go_wp2
  all_goals
    go_ret
    exact ⟨_, rfl, by omega, by omega, below_alloc _ _⟩
theorem szPickS_big (A : Option Addr) (n c : Nat) (left : Int) (w : World) (h : left < (n : Int)) (h0 : 0 ≤ left) (hn : n ≤ 9223372036854775807) :
    Calls Tryz.prog 34 #[.slice A n c, .int .i64 left] w fun e w' => e = .returned (.int .i64 (-1)) ∧ w = w' := by
  go_enter Tryz.func34, Tryz.ntmps34
  go_wp2
  go_ret
  exact ⟨rfl, rfl⟩
set_option maxRecDepth 100000 in
set_option maxHeartbeats 2000000 in
theorem szPickS_any (A : Option Addr) (n c : Nat) (l : List Pk) (left : Int) (w : World) (h : (n : Int) ≤ left) (hl : left ≤ 1048576) (ha : PicksIn w A n l) (hok : ∀ x ∈ l, okPk x) :
    Calls Tryz.prog 34 #[.slice A n c, .int .i64 left] w fun e w' => ∃ r : Int, e = .returned (.int .i64 r) ∧ -1 ≤ r ∧ r ≤ 1048576 ∧ Below w.heap.size w w' := by
  have hn := ha.len
  obtain rfl := ha.1
  have HO := Lib.hid hok
  clear hok
  go_enter Tryz.func34, Tryz.ntmps34
  go_wp2
  go_loopw [1, 5] (fun r i wr => ∃ (k : Nat) (x : Int), k ≤ l.length ∧ i = .int .i64 k ∧ r = .int .i64 x ∧ 0 ≤ x ∧ x ≤ 1048576 ∧ Below w.heap.size w wr) (fun _ i _ => l.length - (intOf i).toNat)
  case atStart => exact ⟨0, _, by omega, rfl, rfl, by omega, by omega, Below.refl _ _⟩
  case round =>
    obtain ⟨k, x, hk, rfl, rfl, x0, x1, HR⟩ := hrel
    by_cases hlt : k < l.length
    · obtain ⟨b, o, rfl, _, hc0, hc1⟩ := pick_at (ha.keep HR) hlt
      have hs := HO.out _ (List.getElem_mem hlt)
      unfold okPk at hs
      obtain ⟨hs0, hs1⟩ := hs
      go_wp2_with fail
      refine (szPick_any _ _ _ _ x0 x1 hs0 hs1).mono ?_
      rintro e v ⟨r, rfl, r0, r1, hb⟩
      by_cases hneg : r < 0
      · go_wp2_with fail
        go_ret
        exact ⟨-1, rfl, by omega, by omega, below_on HR hb⟩
      · go_wp2_with fail
        go_roundw
        case rel => exact ⟨k + 1, r, by omega, by go_num, rfl, by omega, by omega, below_on HR hb⟩
        case measure => simp [intOf]; omega
    · obtain rfl : k = l.length := by omega
      go_wp2
      go_ret
      exact ⟨x, rfl, by omega, by omega, HR⟩
set_option maxRecDepth 100000 in
set_option maxHeartbeats 4000000 in
/-- The marks on arguments: what they are is not asked. -/
theorem markPickS_any (A : Option Addr) (n c lo hi : Nat) (l : List Pk) (k0 : Int) (w : World) (ha : RowsAt pkF 166 w lo hi A n c l) (hk0 : 1 ≤ k0) (hk1 : k0 ≤ 2000000000000000000) (hn : l.length ≤ 16777216) :
    Calls Tryz.prog 73 #[.slice A n c, .int .i64 k0] w fun e w' => e = .returned (.int .i64 (k0 + 2 * l.length)) ∧ True ∧ Only lo hi w w' := by
  obtain rfl := ha.1
  have HLN := Lib.hid (flatMap_len pkF.enc 2 pkF.len l)
  obtain ⟨_, ⟨hown, hhi, hlt⟩⟩ := ha
  have HT := Lib.hid hlt
  clear hlt
  go_enter Tryz.func73, Tryz.ntmps73
  go_wp2
  go_loopw [1, 5] (fun m i wr => ∃ (k : Nat) (xs : List Value), k ≤ l.length ∧ i = .int .i64 k ∧ m = .int .i64 (k0 + 2 * k) ∧ wr.ownsRow lo 166 2 (.slice A l.length c) l.length xs ∧ Only lo hi w wr) (fun _ i _ => l.length - (intOf i).toNat)
  case atStart => exact ⟨0, _, by omega, rfl, by go_num, hown, Only.refl _ _ _⟩
  case round =>
    clear hown
    obtain ⟨k, xs, hk, rfl, rfl, ho, HO⟩ := hrel
    by_cases hlt : k < l.length
    · have hA : ∃ g, A = some ⟨g, 0, none⟩ := by
        rcases ho.2 with ⟨hv, h0⟩ | ⟨g, cap, cur, hv, _⟩
        · omega
        · exact ⟨g, by injection hv⟩
      obtain ⟨g, rfl⟩ := hA
      have hgl : lo ≤ g ∧ g < hi := ⟨(own_lt ho _ rfl).1, HT.out _ rfl⟩
      have hgo : ∀ x, (Value.slice (some ⟨g, 0, none⟩) l.length c).ownBlock = some x → lo ≤ x ∧ x < hi := fun x hx => by injection hx with hx; subst hx; exact hgl
      have HGO := Lib.hid hgo
      clear hgo
      go_wp2_with fail
      refine (markText_some _ _ (by omega) (by omega)).mono ?_
      rintro e v0 ⟨t0, rfl, hb0⟩
      have hq0 := own_keep ho hb0
      replace HO := HO.trans (Only.of_below hb0)
      clear hb0
      obtain ⟨u0, c0, f0⟩ := own_cell hq0 (k * 2) (by omega)
      have s0 := (hq0.stored (k * 2) (.string t0))
      replace HO := HO.trans (Only.of_grown s0.2 HGO.out)
      go_wp2_with fail
      refine (markText_some _ _ (by omega) (by omega)).mono ?_
      rintro e v1 ⟨t1, rfl, hb1⟩
      have hq1 := own_keep s0.1 hb1
      replace HO := HO.trans (Only.of_below hb1)
      clear hb1
      obtain ⟨u1, c1, f1⟩ := own_cell hq1 (k * 2 + 1) (by omega)
      have s1 := (hq1.stored (k * 2 + 1) (.string t1))
      replace HO := HO.trans (Only.of_grown s1.2 HGO.out)
      have S2 := Lib.hid s1.1
      go_wp2
      go_roundw
      case rel => exact ⟨k + 1, _, by omega, by go_num, by go_num, S2.out, HO⟩
      case measure => simp [intOf]; omega
    · obtain rfl : k = l.length := by omega
      go_wp2
      go_ret
      exact ⟨rfl, trivial, HO⟩
end Go.Proofs.YtlnkofnfgemfdaaGreat
/- What a condition comes to at a choice (plain). -/
namespace Go.Proofs.YtlnkofnfgemfdaaGreat
def hasPk (ch : List Pk) (o v : ByteArray) : Bool := ch.any fun p => (p.1.toList == o.toList) && (p.2.toList == v.toList)
def evNext (ch : List Pk) (s : List Bool) (x : Cn) : List Bool :=
  if x.1 = 0 then s ++ [true] else if x.1 = 1 then s ++ [hasPk ch x.2.1 x.2.2] else if x.1 = 2 then s.set (s.length - 1) (!s.getD (s.length - 1) false)
  else if x.1 = 3 then s.take (s.length - 2) ++ [s.getD (s.length - 2) false && s.getD (s.length - 1) false] else s.take (s.length - 2) ++ [s.getD (s.length - 2) false || s.getD (s.length - 1) false]
def evTo (l : List Cn) (ch : List Pk) (k : Nat) : List Bool := (l.take k).foldl (evNext ch) []
def condVal (l : List Cn) (ch : List Pk) : Bool := (evTo l ch l.length).getD 0 false
theorem evTo_succ (l : List Cn) (ch : List Pk) (k : Nat) (h : k < l.length) : evTo l ch (k + 1) = evNext ch (evTo l ch k) l[k] := by
  unfold evTo
  rw [List.take_add_one, List.getElem?_eq_getElem h, Option.toList_some, List.foldl_append]; rfl
theorem evNext_len (ch : List Pk) (s : List Bool) (x : Cn) (m : Nat) (h : cnNext s.length x = some m) : (evNext ch s x).length = m := by
  unfold cnNext at h
  unfold evNext
  split at h
  · next h0 =>
    have := Option.some.inj h
    rcases h0 with h0 | h0
    · rw [if_pos h0, List.length_append]; simpa using this
    · rw [if_neg (by omega), if_pos h0, List.length_append]; simpa using this
  · next h0 =>
    rw [if_neg (by omega), if_neg (by omega)]
    split at h
    · next h2 =>
      rw [if_pos h2]
      split at h
      · cases h
      · have := Option.some.inj h
        rw [List.length_set]; exact this
    · next h2 =>
      rw [if_neg h2]
      split at h
      · split at h
        · cases h
        · have := Option.some.inj h
          have e : ∀ b : Bool, (s.take (s.length - 2) ++ [b]).length = m := fun b => by
            rw [List.length_append, List.length_take]; simp only [List.length_cons, List.length_nil]; omega
          split
          · exact e _
          · exact e _
      · cases h
theorem condTo_some {l : List Cn} {k n : Nat} (hk : k < l.length) (h : condTo l (k + 1) = some n) : ∃ m, condTo l k = some m ∧ cnNext m l[k] = some n := by
  simp only [condTo] at h
  rw [cn_getD _ _ hk] at h
  cases hc : condTo l k with
  | none => rw [hc] at h; cases h
  | some m =>
    rw [hc] at h
    simp only at h
    cases hn : cnNext m l[k] with
    | none => rw [hn] at h; cases h
    | some q =>
      rw [hn] at h
      simp only at h
      split at h
      · exact ⟨m, rfl, by rw [hn]; exact h⟩
      · cases h
theorem evTo_len (l : List Cn) (ch : List Pk) (k : Nat) : ∀ n, k ≤ l.length → condTo l k = some n → (evTo l ch k).length = n := by
  induction k with
  | zero => intro n _ h; have := Option.some.inj h; subst this; rfl
  | succ k ih =>
    intro n hk h
    obtain ⟨m, h1, h2⟩ := condTo_some (by omega) h
    have h3 := ih m (by omega) h1
    rw [evTo_succ l ch k (by omega)]
    exact evNext_len ch _ _ n (by rw [h3]; exact h2)
theorem isCond_parts {l : List Cn} (h : isCond l = true) : l.length ≤ 30 ∧ condTo l l.length = some 1 := by
  simp only [isCond, Bool.and_eq_true, decide_eq_true_eq] at h
  exact h
/-- What is known of every node of a condition. -/
theorem isCond_at_all {l : List Cn} (h : isCond l = true) (k : Nat) (hk : k < l.length) : ∃ n m, condTo l k = some n ∧ condTo l (k + 1) = some m ∧ cnNext n l[k] = some m := by
  obtain ⟨_, h1⟩ := isCond_parts h
  cases h2 : condTo l (k + 1) with
  | none =>
    have := condTo_none h2 (l.length - (k + 1))
    rw [show k + 1 + (l.length - (k + 1)) = l.length by omega, h1] at this
    cases this
  | some m =>
    obtain ⟨n, h3, h4⟩ := condTo_some hk h2
    exact ⟨n, m, h3, rfl, h4⟩
/-- A node's kinds, with what lies on the stack ahead of it. -/
theorem ev_kinds {l : List Cn} (h : isCond l = true) (ch : List Pk) (k : Nat) (hk : k < l.length) : (evTo l ch k).length ≤ k ∧ (l[k].1 = 0 ∨ l[k].1 = 1 ∨ (l[k].1 = 2 ∧ 1 ≤ (evTo l ch k).length) ∨ (l[k].1 = 3 ∧ 2 ≤ (evTo l ch k).length) ∨ (l[k].1 = 4 ∧ 2 ≤ (evTo l ch k).length)) := by
  obtain ⟨n, m, h1, h2, h3⟩ := isCond_at_all h k hk
  have hl := evTo_len l ch k n (by omega) h1
  have hle := condTo_le h1
  refine ⟨by omega, ?_⟩
  unfold cnNext at h3
  split at h3
  · omega
  · split at h3
    · split at h3
      · cases h3
      · omega
    · split at h3
      · split at h3
        · cases h3
        · omega
      · cases h3
theorem ev_end {l : List Cn} (h : isCond l = true) (ch : List Pk) : (evTo l ch l.length).length = 1 := evTo_len l ch _ 1 (Nat.le_refl _) (isCond_parts h).2
theorem evNext_0 (ch : List Pk) (s : List Bool) (x : Cn) (h : x.1 = 0) : evNext ch s x = s ++ [true] := by unfold evNext; rw [if_pos h]
theorem evNext_1 (ch : List Pk) (s : List Bool) (x : Cn) (h : x.1 = 1) : evNext ch s x = s ++ [hasPk ch x.2.1 x.2.2] := by unfold evNext; rw [if_neg (by omega), if_pos h]
theorem evNext_2 (ch : List Pk) (s : List Bool) (x : Cn) (h : x.1 = 2) : evNext ch s x = s.set (s.length - 1) (!s.getD (s.length - 1) false) := by unfold evNext; rw [if_neg (by omega), if_neg (by omega), if_pos h]
theorem evNext_3 (ch : List Pk) (s : List Bool) (x : Cn) (h : x.1 = 3) : evNext ch s x = s.take (s.length - 2) ++ [s.getD (s.length - 2) false && s.getD (s.length - 1) false] := by unfold evNext; rw [if_neg (by omega), if_neg (by omega), if_neg (by omega), if_pos h]
theorem evNext_4 (ch : List Pk) (s : List Bool) (x : Cn) (h : x.1 = 4) : evNext ch s x = s.take (s.length - 2) ++ [s.getD (s.length - 2) false || s.getD (s.length - 1) false] := by unfold evNext; rw [if_neg (by omega), if_neg (by omega), if_neg (by omega), if_neg (by omega)]
theorem set_two (s : List Bool) (b : Bool) (h : 2 ≤ s.length) : (s.set (s.length - 2) b).take (s.length - 1) = s.take (s.length - 2) ++ [b] := by
  rw [List.take_set, show s.length - 1 = (s.length - 2) + 1 by omega, List.take_add_one, List.getElem?_eq_getElem (by omega), Option.toList_some, List.set_append_right _ _ (by simp)]
  simp only [List.length_take]
  rw [show s.length - 2 - min (s.length - 2) s.length = 0 by omega]; rfl
theorem has_hit {ch : List Pk} {o v : ByteArray} {k : Nat} (hk : k < ch.length) (h : ((ch[k].1.toList == o.toList) && (ch[k].2.toList == v.toList)) = true) : hasPk ch o v = true := by
  unfold hasPk; rw [List.any_eq_true]; exact ⟨ch[k], List.getElem_mem hk, h⟩
theorem has_miss {ch : List Pk} {o v : ByteArray} (h : (ch.take ch.length).any (fun p => (p.1.toList == o.toList) && (p.2.toList == v.toList)) = false) : hasPk ch o v = false := by
  rw [List.take_length] at h; exact h
theorem any_take {α : Type} (l : List α) (p : α → Bool) (k : Nat) (h : k < l.length) : (l.take (k + 1)).any p = ((l.take k).any p || p l[k]) := by
  rw [List.take_add_one, List.getElem?_eq_getElem h, Option.toList_some, List.any_append]; simp
end Go.Proofs.YtlnkofnfgemfdaaGreat
