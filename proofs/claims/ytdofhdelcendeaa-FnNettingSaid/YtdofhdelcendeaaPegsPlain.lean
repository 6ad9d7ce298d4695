/- Pegging: the reference's way (one place in the supplies that moves on) and the program's (what is left of each) come to one. -/
import Derived.Test.YtdofhdelcendeaaPegged
import Derived.Test.YtdofhdelcendeaaAddPlain
namespace Go.Proofs.Ytdofhdelcendeaa

/-- The reference's inner loop: demand i, 'left' of it open, from supply k on, 'used' of which is gone. -/
def fillS (t : Bool) (d : Int) (i : Nat) : List Fl → Nat → Int → Int → List Pg × Nat × Int
  | [], k, used, _ => ([], k, used)
  | s :: r, k, used, left =>
    if 0 < left ∧ (t = false ∨ s.1 ≤ d) then
      if used + min left (s.2 - used) = s.2 then
        (((i : Int), (k : Int), min left (s.2 - used)) :: (fillS t d i r (k + 1) 0 (left - min left (s.2 - used))).1, (fillS t d i r (k + 1) 0 (left - min left (s.2 - used))).2)
      else ([((i : Int), (k : Int), min left (s.2 - used))], k, used + min left (s.2 - used))
    else ([], k, used)
theorem fillS_len (t : Bool) (d : Int) (i : Nat) (r : List Fl) (k : Nat) (used left : Int) : (fillS t d i r k used left).1.length ≤ r.length := by
  induction r generalizing k used left with
  | nil => simp [fillS]
  | cons s r ih =>
    rw [fillS]
    split
    · split
      · have := ih (k + 1) 0 (left - min left (s.2 - used))
        simp; omega
      · simp
    · simp
/-- The program's inner loop: 'need' of demand i is open, the second list says what is left of each supply. -/
def fillI (t : Bool) (d : Int) (i : Nat) : List Fl → List Int → Nat → Int → List Pg × List Int
  | s :: r, a :: b, k, need =>
    if min need a = 0 ∨ (t = true ∧ d < s.1) then ((fillI t d i r b (k + 1) need).1, a :: (fillI t d i r b (k + 1) need).2)
    else (((i : Int), (k : Int), min need a) :: (fillI t d i r b (k + 1) (need - min need a)).1, (a - min need a) :: (fillI t d i r b (k + 1) (need - min need a)).2)
  | _, _, _, _ => ([], [])
theorem fillI_len (t : Bool) (d : Int) (i : Nat) (r : List Fl) (b : List Int) (k : Nat) (need : Int) : (fillI t d i r b k need).1.length ≤ r.length := by
  induction r generalizing b k need with
  | nil => simp [fillI]
  | cons s r ih =>
    cases b with
    | nil => simp [fillI]
    | cons a b =>
      rw [fillI]
      split
      · have := ih b (k + 1) need
        simp; omega
      · have := ih b (k + 1) (need - min need a)
        simp; omega
theorem fillI_len2 (t : Bool) (d : Int) (i : Nat) (r : List Fl) (b : List Int) (k : Nat) (need : Int) (h : b.length = r.length) : (fillI t d i r b k need).2.length = r.length := by
  induction r generalizing b k need with
  | nil => simp [fillI]
  | cons s r ih =>
    cases b with
    | nil => simp at h
    | cons a b =>
      have hb : b.length = r.length := by simpa using h
      rw [fillI]
      split
      · simp [ih b (k + 1) need hb]
      · simp [ih b (k + 1) (need - min need a) hb]
theorem fillI_none (t : Bool) (d : Int) (i : Nat) (r : List Fl) (b : List Int) (k : Nat) (h : b.length = r.length) (hb : ∀ a ∈ b, 0 ≤ a) : fillI t d i r b k 0 = ([], b) := by
  induction r generalizing b k with
  | nil => cases b with
    | nil => simp [fillI]
    | cons a b => simp at h
  | cons s r ih =>
    cases b with
    | nil => simp at h
    | cons a b =>
      have h0 := hb a List.mem_cons_self
      rw [fillI, if_pos (.inl (by omega)), ih b (k + 1) (by simpa using h) (fun x hx => hb x (List.mem_cons_of_mem _ hx))]
theorem fillI_late (d : Int) (i : Nat) (r : List Fl) (b : List Int) (k : Nat) (need : Int) (h : b.length = r.length) (hr : ∀ s ∈ r, d < s.1) : fillI true d i r b k need = ([], b) := by
  induction r generalizing b k with
  | nil => cases b with
    | nil => simp [fillI]
    | cons a b => simp at h
  | cons s r ih =>
    cases b with
    | nil => simp at h
    | cons a b =>
      rw [fillI, if_pos (.inr ⟨rfl, hr s List.mem_cons_self⟩), ih b (k + 1) (by simpa using h) (fun x hx => hr x (List.mem_cons_of_mem _ hx))]
/-- What is left of each supply where the first k are gone, and 'used' of the next. -/
def leftOf : List Fl → Nat → Int → List Int
  | [], _, _ => []
  | s :: r, 0, used => (s.2 - used) :: r.map (·.2)
  | _ :: r, k + 1, used => 0 :: leftOf r k used
theorem leftOf_len (l : List Fl) (k : Nat) (used : Int) : (leftOf l k used).length = l.length := by
  induction l generalizing k with
  | nil => simp [leftOf]
  | cons s r ih => cases k <;> simp [leftOf, ih]
theorem leftOf_zero (l : List Fl) : leftOf l 0 0 = l.map (·.2) := by
  cases l <;> simp [leftOf]
/-- A place in the supplies. -/
def Place (l : List Fl) (k : Nat) (used : Int) : Prop := k ≤ l.length ∧ 0 ≤ used ∧ ∀ (h : k < l.length), used < l[k].2
theorem place_zero {l : List Fl} (h : ∀ f ∈ l, 1 ≤ f.2) : Place l 0 0 := ⟨by omega, by omega, fun hl => by have := h _ (List.getElem_mem hl); omega⟩
theorem place_tail {s : Fl} {r : List Fl} {k : Nat} {used : Int} (h : Place (s :: r) (k + 1) used) : Place r k used :=
  ⟨by have := h.1; simp at this; omega, h.2.1, fun hl => by have := h.2.2 (by simp; omega); simpa using this⟩
theorem place_cons {s : Fl} {r : List Fl} {k : Nat} {used : Int} (h : Place r k used) : Place (s :: r) (k + 1) used :=
  ⟨by have := h.1; simp; omega, h.2.1, fun hl => by simpa using h.2.2 (by simpa using hl)⟩
theorem fill_eq (t : Bool) (d : Int) (i : Nat) (l : List Fl) (k j : Nat) (used need : Int) (hp : Place l k used) (hn : 0 ≤ need) (hq : ∀ f ∈ l, 1 ≤ f.2) (ha : ascends l) :
    ∃ k' used', Place l k' used' ∧ (fillS t d i (l.drop k) (j + k) used need).2 = (j + k', used') ∧ fillI t d i l (leftOf l k used) j need = ((fillS t d i (l.drop k) (j + k) used need).1, leftOf l k' used') := by
  induction l generalizing k j used need with
  | nil =>
    have h0 := hp.1
    simp at h0
    subst h0
    exact ⟨0, used, hp, by simp [fillS], by simp [fillS, fillI, leftOf]⟩
  | cons s r ih =>
    have hq2 : ∀ f ∈ r, 1 ≤ f.2 := fun f hf => hq f (List.mem_cons_of_mem _ hf)
    cases k with
    | succ k =>
      obtain ⟨k', used', p1, p2, p3⟩ := ih k (j + 1) used need (place_tail hp) hn hq2 (ascends_tail ha)
      have e : j + 1 + k = j + (k + 1) := by omega
      rw [e] at p2 p3
      refine ⟨k' + 1, used', place_cons p1, ?_, ?_⟩
      · simp only [List.drop_succ_cons]
        rw [p2, show j + 1 + k' = j + (k' + 1) by omega]
      · simp only [List.drop_succ_cons, leftOf]
        rw [fillI, if_pos (.inl (by omega)), p3]
    | zero =>
      have hu := hp.2.1
      have hu2 : used < s.2 := by have := hp.2.2 (by simp); simpa using this
      simp only [List.drop_zero, Nat.add_zero, leftOf]
      have hml : (r.map (·.2)).length = r.length := by simp
      have hmp : ∀ a ∈ r.map (·.2), 0 ≤ a := fun a hx => by
        obtain ⟨f, hf, rfl⟩ := List.mem_map.1 hx
        have := hq2 f hf
        omega
      by_cases h0 : need = 0
      · subst h0
        refine ⟨0, used, hp, ?_, ?_⟩
        · rw [fillS, if_neg (by omega)]; rfl
        · rw [fillS, if_neg (by omega), fillI, if_pos (.inl (by omega)), fillI_none _ _ _ _ _ _ hml hmp]; rfl
      by_cases h1 : t = true ∧ d < s.1
      · obtain ⟨rfl, h1⟩ := h1
        refine ⟨0, used, hp, ?_, ?_⟩
        · rw [fillS, if_neg (by simp; omega)]; rfl
        · rw [fillS, if_neg (by simp; omega), fillI, if_pos (.inr ⟨rfl, h1⟩), fillI_late _ _ _ _ _ _ hml (fun f hf => by have := ascends_head ha f hf; omega)]; rfl
      have hc : 0 < need ∧ (t = false ∨ s.1 ≤ d) := by
        refine ⟨by omega, ?_⟩
        cases t
        · exact .inl rfl
        · exact .inr (by simp at h1; omega)
      by_cases h2 : used + min need (s.2 - used) = s.2
      · obtain ⟨k', used', p1, p2, p3⟩ := ih 0 (j + 1) 0 (need - min need (s.2 - used)) (place_zero hq2) (by omega) hq2 (ascends_tail ha)
        rw [leftOf_zero] at p3
        simp only [List.drop_zero, Nat.add_zero] at p2 p3
        refine ⟨k' + 1, used', place_cons p1, ?_, ?_⟩
        · rw [fillS, if_pos hc, if_pos h2, p2, show j + 1 + k' = j + (k' + 1) by omega]
        · rw [fillS, if_pos hc, if_pos h2, fillI, if_neg (by rintro (h | h); omega; exact h1 h), p3, leftOf]
          simp only [Prod.mk.injEq, List.cons.injEq, and_true, true_and]
          omega
      · have h3 : need - min need (s.2 - used) = 0 := by omega
        refine ⟨0, used + min need (s.2 - used), ⟨by simp, by omega, fun _ => ?_⟩, ?_, ?_⟩
        · simp only [List.getElem_cons_zero]; omega
        · rw [fillS, if_pos hc, if_neg h2]; rfl
        · rw [fillS, if_pos hc, if_neg h2, fillI, if_neg (by rintro (h | h); omega; exact h1 h), h3, fillI_none _ _ _ _ _ _ hml hmp, leftOf]
          simp only [Prod.mk.injEq, List.cons.injEq, and_true, true_and]
          omega
/-- The reference's pegs, demand by demand. -/
def pegsS (t : Bool) (sup : List Fl) : List Fl → Nat → Nat → Int → List Pg
  | [], _, _, _ => []
  | f :: r, i, k, used => (fillS t f.1 i (sup.drop k) k used f.2).1 ++ pegsS t sup r (i + 1) (fillS t f.1 i (sup.drop k) k used f.2).2.1 (fillS t f.1 i (sup.drop k) k used f.2).2.2
/-- The program's. -/
def pegsI (t : Bool) (sup : List Fl) : List Fl → Nat → List Int → List Pg
  | [], _, _ => []
  | f :: r, i, b => (fillI t f.1 i sup b 0 f.2).1 ++ pegsI t sup r (i + 1) (fillI t f.1 i sup b 0 f.2).2
theorem pegs_eq (t : Bool) (sup dem : List Fl) (i k : Nat) (used : Int) (hp : Place sup k used) (hd : ∀ f ∈ dem, 1 ≤ f.2) (hq : ∀ f ∈ sup, 1 ≤ f.2) (ha : ascends sup) : pegsI t sup dem i (leftOf sup k used) = pegsS t sup dem i k used := by
  induction dem generalizing i k used with
  | nil => rfl
  | cons f r ih =>
    have h1 := hd f List.mem_cons_self
    obtain ⟨k', used', p1, p2, p3⟩ := fill_eq t f.1 i sup k 0 used f.2 hp (by omega) hq ha
    simp only [Nat.zero_add] at p2 p3
    rw [pegsI, pegsS, p3, p2, ih _ _ _ p1 (fun g hg => hd g (List.mem_cons_of_mem _ hg))]
theorem pegsS_len (t : Bool) (sup dem : List Fl) (i k : Nat) (used : Int) : (pegsS t sup dem i k used).length ≤ dem.length * sup.length := by
  induction dem generalizing i k used with
  | nil => simp [pegsS]
  | cons f r ih =>
    have h1 := fillS_len t f.1 i (sup.drop k) k used f.2
    have h2 := ih (i + 1) (fillS t f.1 i (sup.drop k) k used f.2).2.1 (fillS t f.1 i (sup.drop k) k used f.2).2.2
    simp only [List.length_drop] at h1
    rw [pegsS, List.length_append, List.length_cons, Nat.succ_mul]
    omega
def pegsOf (t : Bool) (dem sup : List Fl) : List Pg × Bool := if areFlows dem && areFlows sup then (pegsS t sup dem 0 0 0, true) else ([], false)
theorem pegsOf_no {t : Bool} {dem sup : List Fl} (h : (areFlows dem && areFlows sup) = false) : pegsOf t dem sup = ([], false) := by unfold pegsOf; rw [h]; rfl
theorem pegsOf_yes {t : Bool} {dem sup : List Fl} (h1 : areFlows dem = true) (h2 : areFlows sup = true) : pegsOf t dem sup = (pegsS t sup dem 0 0 0, true) := by unfold pegsOf; rw [h1, h2]; rfl
theorem pegsI_start {t : Bool} {dem sup : List Fl} (h1 : areFlows dem = true) (h2 : areFlows sup = true) : pegsI t sup dem 0 (sup.map (·.2)) = pegsS t sup dem 0 0 0 := by
  have hq : ∀ f ∈ sup, 1 ≤ f.2 := fun f hf => (areFlows_mem h2 f hf).2.1
  rw [← leftOf_zero]
  exact pegs_eq t sup dem 0 0 0 (place_zero hq) (fun f hf => (areFlows_mem h1 f hf).2.1) hq (areFlows_ascends h2)
theorem pegsS_bd {t : Bool} {dem sup : List Fl} (h1 : areFlows dem = true) (h2 : areFlows sup = true) : (pegsS t sup dem 0 0 0).length ≤ 1600 := by
  have h3 := pegsS_len t sup dem 0 0 0
  have h4 := (areFlows_parts h1).2
  have h5 := (areFlows_parts h2).2
  have : dem.length * sup.length ≤ 40 * 40 := Nat.mul_le_mul h4 h5
  omega
theorem pegsOf_len (t : Bool) (dem sup : List Fl) : (pegsOf t dem sup).1.length ≤ 16777216 := by
  cases h1 : areFlows dem
  · rw [pegsOf_no (by rw [h1]; rfl)]; simp
  cases h2 : areFlows sup
  · rw [pegsOf_no (by rw [h1, h2]; rfl)]; simp
  rw [pegsOf_yes h1 h2]
  have := pegsS_bd (t := t) h1 h2
  simp only; omega
end Go.Proofs.Ytdofhdelcendeaa
