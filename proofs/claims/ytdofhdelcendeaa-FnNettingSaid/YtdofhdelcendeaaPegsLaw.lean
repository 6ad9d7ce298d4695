/- What the reference's pegs are: in order, no more than there is, and as much as can be. -/
import Derived.Test.YtdofhdelcendeaaPegs
import Derived.Test.YtdofhdelcendeaaPeggingPlain
import Derived.Test.YtdofhdelcendeaaMergedPlain
namespace Go.Proofs.Ytdofhdelcendeaa

/-- How much of supply j is gone at a place. -/
def goneAt (sup : List Fl) (k : Nat) (used : Int) (j : Nat) : Int := if j < k then (sup.getD j (0, 0)).2 else if j = k then used else 0
def qSum : List Pg → Int
  | [] => 0
  | p :: t => p.2.2 + qSum t
theorem qSum_append (a b : List Pg) : qSum (a ++ b) = qSum a + qSum b := by
  induction a with
  | nil => simp [qSum]
  | cons p t ih => simp only [List.cons_append, qSum, ih]; omega
def fSum : List Fl → Int
  | [] => 0
  | f :: t => f.2 + fSum t
theorem fSum_append (a b : List Fl) : fSum (a ++ b) = fSum a + fSum b := by
  induction a with
  | nil => simp [fSum]
  | cons p t ih => simp only [List.cons_append, fSum, ih]; omega
theorem fSum_take (l : List Fl) (k : Nat) (h : k < l.length) : fSum (l.take (k + 1)) = fSum (l.take k) + l[k].2 := by
  rw [List.take_succ_eq_append_getElem h, fSum_append]; simp [fSum]
/-- How much of all supplies is gone at a place. -/
def goneTo (sup : List Fl) (k : Nat) (used : Int) : Int := fSum (sup.take k) + used
theorem fillS_ind (t : Bool) (d : Int) (i : Nat) (sup : List Fl) (P : Nat → Int → Int → List Pg × Nat × Int → Prop)
    (stop : ∀ k used left, (¬ 0 < left ∨ sup.length ≤ k ∨ (t = true ∧ ∃ hk : k < sup.length, d < sup[k].1)) → P k used left ([], k, used))
    (part : ∀ k used left (hk : k < sup.length), 0 < left → (t = false ∨ sup[k].1 ≤ d) → left < sup[k].2 - used → P k used left ([((i : Int), (k : Int), left)], k, used + left))
    (full : ∀ k used left (hk : k < sup.length), 0 < left → (t = false ∨ sup[k].1 ≤ d) → sup[k].2 - used ≤ left → ∀ x, P (k + 1) 0 (left - (sup[k].2 - used)) x → P k used left (((i : Int), (k : Int), sup[k].2 - used) :: x.1, x.2)) :
    ∀ k used left, P k used left (fillS t d i (sup.drop k) k used left) := by
  have h : ∀ n k used left, sup.length - k = n → P k used left (fillS t d i (sup.drop k) k used left) := by
    intro n
    induction n with
    | zero =>
      intro k used left hn
      rw [fillS_no (.inr (.inl (by omega)))]
      exact stop _ _ _ (.inr (.inl (by omega)))
    | succ n ih =>
      intro k used left hn
      have hk : k < sup.length := by omega
      by_cases h0 : 0 < left
      · by_cases ht : t = false ∨ sup[k].1 ≤ d
        · by_cases hq : left < sup[k].2 - used
          · rw [fillS_part hk h0 ht hq]
            exact part _ _ _ hk h0 ht hq
          · rw [fillS_full hk h0 ht (by omega)]
            exact full _ _ _ hk h0 ht (by omega) _ (ih (k + 1) 0 _ (by omega))
        · have hs : ¬ 0 < left ∨ sup.length ≤ k ∨ (t = true ∧ ∃ hk : k < sup.length, d < sup[k].1) := by
            refine .inr (.inr ⟨?_, hk, ?_⟩)
            · cases t
              · exact absurd (.inl rfl) ht
              · rfl
            · have : ¬ sup[k].1 ≤ d := fun h => ht (.inr h)
              omega
          rw [fillS_no hs]
          exact stop _ _ _ hs
      · rw [fillS_no (.inl h0)]
        exact stop _ _ _ (.inl h0)
  exact fun k used left => h _ k used left rfl
/-- What the inner loop brings. -/
structure Filled (t : Bool) (d : Int) (i : Nat) (sup : List Fl) (k : Nat) (used left : Int) (x : List Pg × Nat × Int) : Prop where
  place : Place sup x.2.1 x.2.2
  le : k ≤ x.2.1
  mem : ∀ p ∈ x.1, p.1 = (i : Int) ∧ ∃ (j : Nat) (hj : j < sup.length), p.2.1 = (j : Int) ∧ k ≤ j ∧ j ≤ x.2.1 ∧ 1 ≤ p.2.2 ∧ p.2.2 ≤ left ∧ p.2.2 ≤ sup[j].2 ∧ (t = true → sup[j].1 ≤ d)
  pair : x.1.Pairwise (fun p q => p.2.1 ≤ q.2.1)
  gone : ∀ j, j < sup.length → took (·.2.1) x.1 j = goneAt sup x.2.1 x.2.2 j - goneAt sup k used j
  sum : goneTo sup x.2.1 x.2.2 = goneTo sup k used + qSum x.1
  some : 0 ≤ qSum x.1 ∧ qSum x.1 ≤ left
  all : qSum x.1 = left ∨ x.2.1 = sup.length ∨ (t = true ∧ ∃ hk : x.2.1 < sup.length, d < sup[x.2.1].1)
  len : x.1.length + k ≤ x.2.1 + 1
  last : (sup.length ≤ k → used = 0) → sup.length ≤ x.2.1 → x.2.2 = 0
  day : t = true → (∀ j (hj : j < sup.length), j < k → sup[j].1 ≤ d) → (0 < used → ∃ hk : k < sup.length, sup[k].1 ≤ d) → (∀ j (hj : j < sup.length), j < x.2.1 → sup[j].1 ≤ d) ∧ (0 < x.2.2 → ∃ hk : x.2.1 < sup.length, sup[x.2.1].1 ≤ d)
theorem filled (t : Bool) (d : Int) (i : Nat) (sup : List Fl) (hs : ∀ f ∈ sup, 1 ≤ f.2) (k : Nat) (used left : Int) (hp : Place sup k used) (hl : 0 ≤ left) : Filled t d i sup k used left (fillS t d i (sup.drop k) k used left) := by
  refine fillS_ind t d i sup (fun k used left x => Place sup k used → 0 ≤ left → Filled t d i sup k used left x) ?_ ?_ ?_ k used left hp hl
  · intro k used left h hp hl
    refine ⟨hp, Nat.le_refl _, fun p h => absurd h (by simp), List.Pairwise.nil, fun j hj => by simp [took], by simp [qSum], by simp [qSum]; exact hl, ?_, by simp, fun h => h, fun _ h1 h2 => ⟨h1, h2⟩⟩
    rcases h with h | h | h
    · left; simp only [qSum]; omega
    · right; left; have := hp.1; simp only; omega
    · right; right; exact h
  · intro k used left hk h0 ht hq hp hl
    have hu := hp.2.1
    refine ⟨⟨hp.1, by simp only; omega, fun _ => by simp only; omega⟩, Nat.le_refl _, fun p h => ?_, List.pairwise_singleton _ _, fun j hj => ?_, by simp [qSum, goneTo]; omega, by simp [qSum]; omega, .inl (by simp [qSum]), by simp; omega, fun _ h => absurd h (by simp only; omega), fun h h1 h2 => ⟨h1, fun _ => ⟨hk, ?_⟩⟩⟩
    · obtain rfl : p = ((i : Int), (k : Int), left) := by simpa using h
      refine ⟨rfl, k, hk, rfl, Nat.le_refl _, Nat.le_refl _, by simp only; omega, Int.le_refl _, by simp only; omega, fun h => ?_⟩
      rcases ht with h3 | h3
      · rw [h] at h3; cases h3
      · exact h3
    · simp only [took, goneAt]
      by_cases h1 : j < k
      · rw [if_pos h1, if_pos h1, if_neg (by omega)]; omega
      · rw [if_neg h1, if_neg h1]
        by_cases h2 : j = k
        · rw [if_pos h2, if_pos h2, if_pos (by omega)]; omega
        · rw [if_neg h2, if_neg h2, if_neg (by omega)]; omega
    · rcases ht with h3 | h3
      · rw [h] at h3; cases h3
      · exact h3
  · intro k used left hk h0 ht hq x ih hp hl
    have hu := hp.2.1
    have hu2 := hp.2.2 hk
    have F := ih ⟨by omega, by omega, fun h => by have := hs _ (List.getElem_mem h); omega⟩ (by omega)
    have hle := F.le
    refine ⟨F.place, by have := F.le; simp only; omega, fun p h => ?_, ?_, fun j hj => ?_, ?_, ?_, ?_, by have := F.len; simp only [List.length_cons]; omega, fun _ => F.last (fun _ => rfl), fun h h1 h2 => ?_⟩
    · rcases List.mem_cons.1 h with rfl | h
      · refine ⟨rfl, k, hk, rfl, Nat.le_refl _, by simp only; omega, by simp only; omega, by simp only; omega, by simp only; omega, fun h => ?_⟩
        rcases ht with h3 | h3
        · rw [h] at h3; cases h3
        · exact h3
      · obtain ⟨m1, j, hj, m2, m3, m4, m5, m6, m7, m8⟩ := F.mem p h
        exact ⟨m1, j, hj, m2, by omega, m4, m5, by omega, m7, m8⟩
    · refine List.Pairwise.cons (fun q hq2 => ?_) F.pair
      obtain ⟨_, j, _, m2, m3, _⟩ := F.mem q hq2
      simp only; omega
    · have hg := F.gone j hj
      have a0 : took (·.2.1) (((i : Int), (k : Int), sup[k].2 - used) :: x.1) j = (if (k : Int) = (j : Int) then sup[k].2 - used else 0) + took (·.2.1) x.1 j := rfl
      show took (·.2.1) (((i : Int), (k : Int), sup[k].2 - used) :: x.1) j = goneAt sup x.2.1 x.2.2 j - goneAt sup k used j
      rw [a0, hg]
      by_cases h1 : j < k
      · have a1 : goneAt sup (k + 1) 0 j = goneAt sup k used j := by unfold goneAt; rw [if_pos (by omega), if_pos h1]
        rw [if_neg (by omega), a1]; omega
      · by_cases h2 : j = k
        · subst h2
          have a1 : goneAt sup (j + 1) 0 j = sup[j].2 := by unfold goneAt; rw [if_pos (by omega), getD_at _ _ _ hj]
          have a3 : goneAt sup j used j = used := by unfold goneAt; rw [if_neg (by omega), if_pos rfl]
          rw [if_pos rfl, a1, a3]; omega
        · have a1 : goneAt sup (k + 1) 0 j = 0 := by unfold goneAt; rw [if_neg (by omega)]; split <;> rfl
          have a3 : goneAt sup k used j = 0 := by unfold goneAt; rw [if_neg h1, if_neg h2]
          rw [if_neg (by omega), a1, a3]; omega
    · have := F.sum
      simp only [goneTo, qSum] at this ⊢
      rw [fSum_take sup k hk] at this
      omega
    · have := F.some
      simp only [qSum]; omega
    · rcases F.all with h | h | h
      · left; simp only [qSum]; omega
      · exact .inr (.inl h)
      · exact .inr (.inr h)
    · have hkd : sup[k].1 ≤ d := by
        rcases ht with h3 | h3
        · rw [h] at h3; cases h3
        · exact h3
      refine F.day h (fun j hj hjk => ?_) (fun h => absurd h (by omega))
      rcases Nat.lt_or_ge j k with h3 | h3
      · exact h1 j hj h3
      · obtain rfl : j = k := by omega
        exact hkd
theorem upTo_all (l : List Fl) (d : Int) (h : ∀ f ∈ l, f.1 ≤ d) : upTo l d = fSum l := by
  induction l with
  | nil => rfl
  | cons f t ih =>
    have h0 := h f List.mem_cons_self
    simp only [upTo, fSum, if_pos h0, ih (fun g hg => h g (List.mem_cons_of_mem _ hg))]
theorem upTo_split (l : List Fl) (d : Int) (k : Nat) : upTo l d = upTo (l.take k) d + upTo (l.drop k) d := by
  rw [← upTo_append, List.take_append_drop]
theorem take_mem {l : List Fl} {k : Nat} {f : Fl} (h : f ∈ l.take k) : ∃ (j : Nat) (hj : j < l.length), j < k ∧ f = l[j] := by
  obtain ⟨j, hj, rfl⟩ := List.mem_iff_getElem.1 h
  rw [List.length_take] at hj
  exact ⟨j, by omega, by omega, by simp⟩
theorem drop_mem {l : List Fl} {k : Nat} {f : Fl} (h : f ∈ l.drop k) : ∃ (j : Nat) (hj : j < l.length), k ≤ j ∧ f = l[j] := by
  obtain ⟨j, hj, rfl⟩ := List.mem_iff_getElem.1 h
  simp at hj
  exact ⟨k + j, by omega, by omega, by simp⟩
theorem fSum_upTo {l : List Fl} (ha : ascends l) {i : Nat} (hi : i < l.length) : fSum (l.take (i + 1)) = upTo l l[i].1 := by
  rw [upTo_split l _ (i + 1), upTo_all (l.take (i + 1)), upTo_late (l.drop (i + 1))]
  · omega
  · intro f hf
    obtain ⟨j, hj, hjk, rfl⟩ := drop_mem hf
    exact ha i j hj (by omega)
  · intro f hf
    obtain ⟨j, hj, hjk, rfl⟩ := take_mem hf
    rcases Nat.lt_or_ge j i with h | h
    · have := ha j i hi h; omega
    · have : j = i := by omega
      subst this; omega
theorem fSum_nonneg (l : List Fl) (h : ∀ f ∈ l, 1 ≤ f.2) : 0 ≤ fSum l := by
  induction l with
  | nil => simp [fSum]
  | cons f t ih =>
    have h0 := h f List.mem_cons_self
    have h1 := ih (fun g hg => h g (List.mem_cons_of_mem _ hg))
    simp only [fSum]; omega
theorem goneTo_le {sup : List Fl} {k : Nat} {used d : Int} (hp : Place sup k used) (hs : ∀ f ∈ sup, 1 ≤ f.2) (h1 : ∀ j (hj : j < sup.length), j < k → sup[j].1 ≤ d) (h2 : 0 < used → ∃ hk : k < sup.length, sup[k].1 ≤ d) : goneTo sup k used ≤ upTo sup d := by
  rw [upTo_split sup d k, upTo_all (sup.take k) d (fun f hf => by obtain ⟨j, hj, hjk, rfl⟩ := take_mem hf; exact h1 j hj hjk)]
  unfold goneTo
  have h3 := upTo_nonneg (sup.drop k) d (fun f hf => hs f (List.mem_of_mem_drop hf))
  by_cases h0 : 0 < used
  · obtain ⟨hk, hd⟩ := h2 h0
    have h4 := hp.2.2 hk
    rw [List.drop_eq_getElem_cons hk, upTo, if_pos hd]
    have h5 := upTo_nonneg (sup.drop (k + 1)) d (fun f hf => hs f (List.mem_of_mem_drop hf))
    omega
  · omega
theorem goneTo_eq {sup : List Fl} {k : Nat} {d : Int} (ha : ascends sup) (h1 : ∀ j (hj : j < sup.length), j < k → sup[j].1 ≤ d) (h2 : sup.length ≤ k ∨ ∃ hk : k < sup.length, d < sup[k].1) : goneTo sup k 0 = upTo sup d := by
  rw [upTo_split sup d k, upTo_all (sup.take k) d (fun f hf => by obtain ⟨j, hj, hjk, rfl⟩ := take_mem hf; exact h1 j hj hjk)]
  unfold goneTo
  rw [upTo_late (sup.drop k)]
  intro f hf
  obtain ⟨j, hj, hjk, rfl⟩ := drop_mem hf
  rcases h2 with h2 | ⟨hk, h2⟩
  · omega
  · rcases Nat.lt_or_ge k j with h | h
    · have := ha k j hj h; omega
    · have : k = j := by omega
      subst this; exact h2
def DayInv (dem sup : List Fl) (i k : Nat) (used : Int) : Prop := ∀ hi : i < dem.length, (∀ j (hj : j < sup.length), j < k → sup[j].1 ≤ dem[i].1) ∧ (0 < used → ∃ hk : k < sup.length, sup[k].1 ≤ dem[i].1)
/-- What the outer loop brings from demand i on. -/
structure Pegged (t : Bool) (dem sup : List Fl) (i k : Nat) (used : Int) (x : List Pg) : Prop where
  mem : ∀ p ∈ x, ∃ (a : Nat) (ha : a < dem.length) (j : Nat) (hj : j < sup.length), p.1 = (a : Int) ∧ i ≤ a ∧ p.2.1 = (j : Int) ∧ k ≤ j ∧ 1 ≤ p.2.2 ∧ p.2.2 ≤ sup[j].2 ∧ (t = true → sup[j].1 ≤ dem[a].1)
  pair : x.Pairwise (fun p q => p.1 ≤ q.1 ∧ p.2.1 ≤ q.2.1)
  goneS : ∀ j (hj : j < sup.length), took (·.2.1) x j ≤ sup[j].2 - goneAt sup k used j
  goneD : ∀ a (ha : a < dem.length), took (·.1) x a ≤ dem[a].2 ∧ (a < i → took (·.1) x a = 0)
  len : x.length + k + i ≤ sup.length + dem.length
  sum0 : t = false → (sup.length ≤ k → used = 0) → qSum x = min (fSum (dem.drop i)) (fSum sup - goneTo sup k used)
  sum1 : t = true → DayInv dem sup i k used → (sup.length ≤ k → used = 0) → fSum (dem.take i) - goneTo sup k used = lackTo dem sup i → fSum dem - (goneTo sup k used + qSum x) = lackTo dem sup dem.length
theorem took_of {g : Pg → Int} {l : List Pg} {i a : Nat} (h : ∀ p ∈ l, g p = (i : Int)) : took g l a = if i = a then qSum l else 0 := by
  induction l with
  | nil => simp [took, qSum]
  | cons p t ih =>
    have h0 := h p List.mem_cons_self
    simp only [took, qSum, ih (fun q hq => h q (List.mem_cons_of_mem _ hq)), h0]
    by_cases he : i = a
    · rw [if_pos he, if_pos he, if_pos (by omega)]
    · rw [if_neg he, if_neg he, if_neg (by omega)]; omega
theorem goneAt_le {sup : List Fl} {k : Nat} {used : Int} (hp : Place sup k used) (j : Nat) (hj : j < sup.length) (hs : ∀ f ∈ sup, 1 ≤ f.2) : goneAt sup k used j ≤ sup[j].2 := by
  have h1 := hs _ (List.getElem_mem hj)
  unfold goneAt
  split
  · rw [getD_at _ _ _ hj]; omega
  · split
    · rename_i h; subst h; have := hp.2.2 hj; omega
    · omega
theorem pegged {t : Bool} {dem sup : List Fl} (hd : ∀ f ∈ dem, 1 ≤ f.2) (hs : ∀ f ∈ sup, 1 ≤ f.2) (had : ascends dem) (has : ascends sup) (hfd : areFlows dem = true) (hfs : areFlows sup = true) :
    ∀ n i k used, dem.length - i = n → i ≤ dem.length → Place sup k used → Pegged t dem sup i k used (pegsS t sup (dem.drop i) i k used) := by
  intro n
  induction n with
  | zero =>
    intro i k used hn hi hp
    obtain rfl : i = dem.length := by omega
    rw [List.drop_length, pegsS]
    refine ⟨fun p h => absurd h (by simp), List.Pairwise.nil, fun j hj => ?_, fun a ha => ?_, by have := hp.1; simp; omega, fun _ hl => ?_, fun _ _ _ h => ?_⟩
    · have := goneAt_le hp j hj hs
      simp only [took]; omega
    · have := hd _ (List.getElem_mem ha)
      exact ⟨by simp only [took]; omega, fun _ => rfl⟩
    · rw [List.drop_length]
      simp only [qSum, fSum]
      have h1 : goneTo sup k used ≤ fSum sup := by
        have h2 : fSum sup = fSum (sup.take k) + fSum (sup.drop k) := by rw [← fSum_append, List.take_append_drop]
        unfold goneTo
        rcases Nat.lt_or_ge k sup.length with hk | hk
        · have h3 := hp.2.2 hk
          have h4 := fSum_nonneg (sup.drop (k + 1)) (fun f hf => hs f (List.mem_of_mem_drop hf))
          rw [List.drop_eq_getElem_cons hk, fSum] at h2
          omega
        · have := hl hk
          have h4 := fSum_nonneg (sup.drop k) (fun f hf => hs f (List.mem_of_mem_drop hf))
          omega
      omega
    · rw [List.take_length] at h
      simp only [qSum]; omega
  | succ n ih =>
    intro i k used hn hi hp
    have hlt : i < dem.length := by omega
    have hq := hd _ (List.getElem_mem hlt)
    rw [pegsS_at hlt]
    have F := filled t dem[i].1 i sup hs k used dem[i].2 hp (by omega)
    generalize fillS t dem[i].1 i (sup.drop k) k used dem[i].2 = x at F
    obtain ⟨P, k', used'⟩ := x
    have G := ih (i + 1) k' used' (by omega) (by omega) F.place
    have hkk := F.le
    simp only at hkk ⊢
    generalize pegsS t sup (dem.drop (i + 1)) (i + 1) k' used' = R at G
    have hsum := F.sum
    have hsm := F.some
    have hall := F.all
    simp only at hsum hsm hall
    have hD : ∀ a, took (·.1) P a = if i = a then qSum P else 0 := fun a => took_of (fun p hp => (F.mem p hp).1)
    refine ⟨fun p h => ?_, ?_, fun j hj => ?_, fun a ha => ?_, ?_, fun ht hl => ?_, fun ht hdi hl hu => ?_⟩
    · rcases List.mem_append.1 h with h | h
      · obtain ⟨m1, j, hj, m2, m3, m4, m5, m6, m7, m8⟩ := F.mem p h
        exact ⟨i, hlt, j, hj, m1, Nat.le_refl _, m2, m3, m5, m7, m8⟩
      · obtain ⟨a, ha, j, hj, m1, m2, m3, m4, m5⟩ := G.mem p h
        exact ⟨a, ha, j, hj, m1, by omega, m3, by omega, m5⟩
    · rw [List.pairwise_append]
      refine ⟨?_, G.pair, fun p hp q hq2 => ?_⟩
      · refine List.Pairwise.imp_of_mem (fun {p q} hp hq2 h => ?_) F.pair
        exact ⟨by rw [(F.mem p hp).1, (F.mem q hq2).1]; omega, h⟩
      · obtain ⟨m1, j, hj, m2, m3, m4, _⟩ := F.mem p hp
        obtain ⟨a, ha, j2, hj2, e1, e2, e3, e4, _⟩ := G.mem q hq2
        simp only at m4
        omega
    · have h1 := F.gone j hj
      have h2 := G.goneS j hj
      simp only at h1
      rw [took_append]; omega
    · have h2 := G.goneD a ha
      rw [took_append, hD]
      by_cases he : i = a
      · subst he
        have := h2.2 (by omega)
        rw [if_pos rfl]
        exact ⟨by omega, fun h => absurd h (by omega)⟩
      · rw [if_neg he]
        exact ⟨by omega, fun h => by have := h2.2 (by omega); omega⟩
    · have h1 := F.len
      have h2 := G.len
      simp only at h1
      rw [List.length_append]; omega
    · have hl2 := F.last hl
      simp only at hl2
      have hG := G.sum0 ht hl2
      rw [qSum_append, hG, List.drop_eq_getElem_cons hlt, fSum]
      have hr := fSum_nonneg (dem.drop (i + 1)) (fun f hf => hd f (List.mem_of_mem_drop hf))
      rcases hall with h | h | ⟨h, _⟩
      · omega
      · have h0 := hl2 (by omega)
        subst h0
        have h3 : goneTo sup k' 0 = fSum sup := by unfold goneTo; rw [h, List.take_length]; omega
        omega
      · rw [ht] at h; cases h
    · have hl2 := F.last hl
      have hday := F.day ht (hdi hlt).1 (hdi hlt).2
      simp only at hl2 hday
      have hdi2 : DayInv dem sup (i + 1) k' used' := fun hi2 => by
        have hm := had i (i + 1) hi2 (by omega)
        refine ⟨fun j hj hjk => by have := hday.1 j hj hjk; omega, fun h0 => ?_⟩
        obtain ⟨hk, h3⟩ := hday.2 h0
        exact ⟨hk, by omega⟩
      have hle := goneTo_le F.place hs hday.1 hday.2
      simp only at hle
      have e1 := fSum_take dem i hlt
      have e2 := fSum_upTo had hlt
      have hG := G.sum1 ht hdi2 hl2 (by
        simp only [lackTo]
        rw [getD_at _ _ _ hlt, flowUpTo_yes hfd, flowUpTo_yes hfs, ← e2, e1, ← hu]
        by_cases hc : qSum P = dem[i].2
        · omega
        · have h3 : goneTo sup k' used' = upTo sup dem[i].1 := by
            have hz : used' = 0 := by
              by_cases h0 : 0 < used'
              · obtain ⟨hk, h3⟩ := hday.2 h0
                rcases hall with h | h | ⟨_, hk2, h4⟩
                · exact absurd h hc
                · omega
                · omega
              · have := F.place.2.1; simp only at this; omega
            rw [hz]
            refine goneTo_eq has hday.1 ?_
            rcases hall with h | h | ⟨_, hk2, h4⟩
            · exact absurd h hc
            · left; omega
            · exact .inr ⟨hk2, h4⟩
          omega)
      rw [qSum_append]; omega
section
variable {t : Bool} {dem sup : List Fl}
theorem pegs_facts (h1 : areFlows dem = true) (h2 : areFlows sup = true) : Pegged t dem sup 0 0 0 (pegsS t sup dem 0 0 0) := by
  have hd : ∀ f ∈ dem, 1 ≤ f.2 := fun f hf => (areFlows_mem h1 f hf).2.1
  have hs : ∀ f ∈ sup, 1 ≤ f.2 := fun f hf => (areFlows_mem h2 f hf).2.1
  have := pegged (t := t) hd hs (areFlows_ascends h1) (areFlows_ascends h2) h1 h2 dem.length 0 0 0 (by omega) (by omega) (place_zero hs)
  rwa [List.drop_zero] at this
theorem goneTo_zero : goneTo sup 0 0 = 0 := by simp [goneTo, fSum]
theorem pegs_sum (h1 : areFlows dem = true) (h2 : areFlows sup = true) : qSum (pegsS false sup dem 0 0 0) = min (fSum dem) (fSum sup) := by
  have := (pegs_facts (t := false) h1 h2).sum0 rfl (fun _ => rfl)
  rw [goneTo_zero, List.drop_zero] at this
  omega
theorem pegs_lack (h1 : areFlows dem = true) (h2 : areFlows sup = true) : fSum dem - qSum (pegsS true sup dem 0 0 0) = lackTo dem sup dem.length := by
  have := (pegs_facts (t := true) h1 h2).sum1 rfl (fun _ => ⟨fun j hj h => absurd h (by omega), fun h => absurd h (by omega)⟩) (fun _ => rfl) (by rw [goneTo_zero]; simp [fSum, lackTo])
  rw [goneTo_zero] at this
  omega
theorem pegs_ok (h1 : areFlows dem = true) (h2 : areFlows sup = true) : ∀ p ∈ pegsS t sup dem 0 0 0, okPeg dem.length sup.length p = true := by
  intro p hp
  obtain ⟨a, ha, j, hj, m1, _, m2, _, m3, m4, _⟩ := (pegs_facts h1 h2).mem p hp
  have := (areFlows_mem h2 _ (List.getElem_mem hj)).2.2
  simp only [okPeg, Bool.and_eq_true, inB_iff]
  omega
theorem pegs_isPegging (h1 : areFlows dem = true) (h2 : areFlows sup = true) : isPegging dem sup (pegsS t sup dem 0 0 0) = true := by
  have F := pegs_facts (t := t) h1 h2
  have hl := F.len
  have l1 := (areFlows_parts h1).2
  have l2 := (areFlows_parts h2).2
  unfold isPegging
  have e1 : (pegsS t sup dem 0 0 0).all (okPeg dem.length sup.length) = true := by
    rw [List.all_eq_true]; exact pegs_ok h1 h2
  have e2 : ((List.range dem.length).all fun i => decide (took (·.1) (pegsS t sup dem 0 0 0) i ≤ (dem.getD i (0, 0)).2)) = true := by
    rw [List.all_eq_true]
    intro k hk
    rw [List.mem_range] at hk
    rw [getD_at _ _ _ hk]
    exact decide_eq_true (F.goneD k hk).1
  have e3 : ((List.range sup.length).all fun i => decide (took (·.2.1) (pegsS t sup dem 0 0 0) i ≤ (sup.getD i (0, 0)).2)) = true := by
    rw [List.all_eq_true]
    intro k hk
    rw [List.mem_range] at hk
    rw [getD_at _ _ _ hk]
    refine decide_eq_true ?_
    have h3 := F.goneS k hk
    have h4 : goneAt sup 0 0 k = 0 := by unfold goneAt; rw [if_neg (by omega)]; split <;> rfl
    omega
  rw [h1, h2, decide_eq_true (show ((pegsS t sup dem 0 0 0).length : Int) ≤ 80 by omega), e1, e2, e3]; rfl
theorem fSum_999 {l : List Fl} (h : areFlows l = true) : flowUpTo l 999 = fSum l := by
  rw [flowUpTo_yes h, upTo_all l 999 (fun f hf => (areFlows_mem h f hf).1.2)]
/-- What is pegged for all demands together. -/
def pegSum (l : List Pg) : Nat → Int
  | 0 => 0
  | k + 1 => pegSum l k + peggedFor l k
theorem peggedFor_took (l : List Pg) (a nd ns : Nat) (h : ∀ p ∈ l, okPeg nd ns p = true) : peggedFor l a = took (·.1) l a := by
  have key : ∀ k, k ≤ l.length → peggedTo l a k = took (·.1) (l.take k) a := by
    intro k
    induction k with
    | zero => intro _; simp [peggedTo, took]
    | succ k ih =>
      intro hk
      rw [peggedTo_succ l a k (by omega), took_take _ l k a (by omega), ih (by omega)]
      have h3 := h _ (List.getElem_mem (show k < l.length by omega))
      simp only [okPeg, Bool.and_eq_true] at h3
      unfold peggedStep
      rw [h3.2.2, Bool.and_true]
      by_cases he : l[k].1 = (a : Int)
      · rw [if_pos (by rw [beq_iff_eq]; exact he), if_pos he]
      · rw [if_neg (by rw [beq_iff_eq]; exact he), if_neg he]; omega
  unfold peggedFor
  rw [key _ (Nat.le_refl _), List.take_length]
def tookSum (l : List Pg) : Nat → Int
  | 0 => 0
  | k + 1 => tookSum l k + took (·.1) l k
theorem tookSum_cons (p : Pg) (l : List Pg) (k : Nat) : tookSum (p :: l) k = tookSum l k + if 0 ≤ p.1 ∧ p.1 < (k : Int) then p.2.2 else 0 := by
  induction k with
  | zero => simp only [tookSum]; rw [if_neg (by omega)]; omega
  | succ k ih =>
    simp only [tookSum, took, ih]
    by_cases h1 : p.1 = (k : Int)
    · rw [if_pos h1, if_neg (by omega), if_pos (by omega)]; omega
    · rw [if_neg h1]
      by_cases h2 : 0 ≤ p.1 ∧ p.1 < (k : Int)
      · rw [if_pos h2, if_pos (by omega)]; omega
      · rw [if_neg h2, if_neg (by omega)]; omega
theorem tookSum_all (l : List Pg) (nd ns : Nat) (h : ∀ p ∈ l, okPeg nd ns p = true) : tookSum l nd = qSum l := by
  induction l with
  | nil =>
    have : ∀ k, tookSum [] k = 0 := fun k => by
      induction k with
      | zero => rfl
      | succ k ih => simp only [tookSum, ih, took]; rfl
    rw [this]; rfl
  | cons p t ih =>
    have h3 := h p List.mem_cons_self
    simp only [okPeg, Bool.and_eq_true, inB_iff] at h3
    rw [tookSum_cons, ih (fun q hq => h q (List.mem_cons_of_mem _ hq)), if_pos (by omega), qSum]; omega
theorem pegSum_all (l : List Pg) (nd ns : Nat) (h : ∀ p ∈ l, okPeg nd ns p = true) : pegSum l nd = qSum l := by
  rw [← tookSum_all l nd ns h]
  have : ∀ k, pegSum l k = tookSum l k := fun k => by
    induction k with
    | zero => rfl
    | succ k ih => simp only [pegSum, tookSum, ih, peggedFor_took l k nd ns h]
  exact this nd
theorem pegs_mono (h1 : areFlows dem = true) (h2 : areFlows sup = true) (i : Nat) (hi : i + 1 < (pegsS t sup dem 0 0 0).length) :
    ((pegsS t sup dem 0 0 0)[i]'(by omega)).1 ≤ ((pegsS t sup dem 0 0 0)[i + 1]).1 ∧ ((pegsS t sup dem 0 0 0)[i]'(by omega)).2.1 ≤ ((pegsS t sup dem 0 0 0)[i + 1]).2.1 :=
  List.pairwise_iff_getElem.1 (pegs_facts h1 h2).pair i (i + 1) (by omega) hi (by omega)
end
end Go.Proofs.Ytdofhdelcendeaa
