/- Plain law of calendars: hours of a day. No program in sight. -/
import Derived.Test.YtajlfdofjegdjaaBase
namespace Go.Proofs.Ytajlfdofjegdjaa
def exNone : Int × Int := (0, 0)
def okEx (ex : List (Int × Int)) (k : Nat) : Bool :=
  inB (ex.getD k exNone).1 0 999 && (inB (ex.getD k exNone).2 0 24 && (decide (k = 0) || decide ((ex.getD (k - 1) exNone).1 < (ex.getD k exNone).1)))
def isCal (wk : List Int) (ex : List (Int × Int)) : Bool :=
  decide (wk.length = 7) && (decide (ex.length ≤ 20) && (wk.all (inB · 0 24) && (List.range ex.length).all (okEx ex)))
theorem ex_getD (l : List (Int × Int)) (k : Nat) (h : k < l.length) : l.getD k exNone = l[k] := by
  rw [List.getD_eq_getElem?_getD, List.getElem?_eq_getElem h]; rfl
theorem isCal_wk {wk : List Int} {ex : List (Int × Int)} {k : Nat} (hk : k < wk.length) (h : inB wk[k] 0 24 = false) : isCal wk ex = false := by
  have : wk.all (inB · 0 24) = false := by rw [List.all_eq_false]; exact ⟨_, List.getElem_mem hk, by simp [h]⟩
  simp [isCal, this]
theorem isCal_ex {wk : List Int} {ex : List (Int × Int)} {k : Nat} (hk : k < ex.length) (h : okEx ex k = false) : isCal wk ex = false := by
  have : (List.range ex.length).all (okEx ex) = false := by rw [List.all_eq_false]; exact ⟨k, by simpa using hk, by simp [h]⟩
  simp [isCal, this]
theorem isCal_yes {wk : List Int} {ex : List (Int × Int)} (h7 : wk.length = 7) (h20 : ex.length ≤ 20) (hw : wk.all (inB · 0 24) = true) (he : ∀ j < ex.length, okEx ex j = true) : isCal wk ex = true := by
  have : (List.range ex.length).all (okEx ex) = true := by rw [List.all_eq_true]; intro x hx; exact he x (by simpa using hx)
  simp [isCal, this, h7, h20, hw]
theorem isCal_no7 {wk : List Int} {ex : List (Int × Int)} (h : ¬ wk.length = 7) : isCal wk ex = false := by simp [isCal, h]
theorem isCal_no20 {wk : List Int} {ex : List (Int × Int)} (h : ¬ ex.length ≤ 20) : isCal wk ex = false := by
  have : decide (ex.length ≤ 20) = false := by simpa using h
  simp [isCal, this]
theorem isCal_parts {wk : List Int} {ex : List (Int × Int)} (h : isCal wk ex = true) : wk.length = 7 ∧ ex.length ≤ 20 ∧ (∀ x ∈ wk, 0 ≤ x ∧ x ≤ 24) ∧ (∀ k, k < ex.length → 0 ≤ (ex.getD k exNone).1 ∧ (ex.getD k exNone).1 ≤ 999 ∧ 0 ≤ (ex.getD k exNone).2 ∧ (ex.getD k exNone).2 ≤ 24 ∧ (0 < k → (ex.getD (k - 1) exNone).1 < (ex.getD k exNone).1)) := by
  simp only [isCal, Bool.and_eq_true, decide_eq_true_eq, List.all_eq_true, List.mem_range, okEx, Bool.or_eq_true, inB_iff] at h
  obtain ⟨h1, h2, h3, h4⟩ := h
  refine ⟨h1, h2, h3, fun k hk => ?_⟩
  obtain ⟨⟨a1, a2⟩, ⟨a3, a4⟩, a5⟩ := h4 k hk
  exact ⟨a1, a2, a3, a4, fun h0 => by rcases a5 with h | h <;> omega⟩
/-- The hours of a day with the first k exceptions. -/
def hoursTo (wk : List Int) (ex : List (Int × Int)) (day : Nat) : Nat → Int
  | 0 => wk.getD (day % 7) 0
  | k + 1 => if (ex.getD k exNone).1 = day then (ex.getD k exNone).2 else hoursTo wk ex day k
theorem ex_lt {wk : List Int} {ex : List (Int × Int)} (h : isCal wk ex = true) (a b : Nat) (hab : a < b) (hb : b < ex.length) : (ex.getD a exNone).1 < (ex.getD b exNone).1 := by
  have hp := (isCal_parts h).2.2.2
  induction b with
  | zero => omega
  | succ b ih =>
    have h1 := (hp (b + 1) hb).2.2.2.2 (by omega)
    rw [Nat.add_sub_cancel] at h1
    rcases Nat.lt_or_ge a b with h2 | h2
    · have := ih h2 (by omega); omega
    · obtain rfl : a = b := by omega
      exact h1
/-- The first exception of a day is its last one. -/
theorem hoursTo_hit {wk : List Int} {ex : List (Int × Int)} (h : isCal wk ex = true) (day k : Nat) (hk : k < ex.length) (hd : (ex.getD k exNone).1 = day) : hoursTo wk ex day ex.length = (ex.getD k exNone).2 := by
  have key : ∀ m, m ≤ ex.length → k < m → hoursTo wk ex day m = (ex.getD k exNone).2 := by
    intro m
    induction m with
    | zero => omega
    | succ m ih =>
      intro hm hkm
      simp only [hoursTo]
      rcases Nat.lt_or_ge k m with h1 | h1
      · have := ex_lt h k m h1 (by omega)
        rw [if_neg (by omega)]; exact ih (by omega) h1
      · obtain rfl : k = m := by omega
        rw [if_pos hd]
  exact key _ (Nat.le_refl _) hk
theorem hoursTo_miss (wk : List Int) (ex : List (Int × Int)) (day k : Nat) (h : ∀ j < k, (ex.getD j exNone).1 ≠ day) : hoursTo wk ex day k = wk.getD (day % 7) 0 := by
  induction k with
  | zero => rfl
  | succ k ih => simp only [hoursTo]; rw [if_neg (h k (by omega))]; exact ih (fun j hj => h j (by omega))
theorem hoursTo_bd {wk : List Int} {ex : List (Int × Int)} (h : isCal wk ex = true) (day k : Nat) (hk : k ≤ ex.length) : 0 ≤ hoursTo wk ex day k ∧ hoursTo wk ex day k ≤ 24 := by
  obtain ⟨h7, _, hw, he⟩ := isCal_parts h
  induction k with
  | zero =>
    have hlt : day % 7 < wk.length := by omega
    simp only [hoursTo]
    rw [List.getD_eq_getElem?_getD, List.getElem?_eq_getElem hlt]
    exact hw _ (List.getElem_mem hlt)
  | succ k ih =>
    simp only [hoursTo]
    split
    · have := he k (by omega); omega
    · exact ih (by omega)
def hoursOn (wk : List Int) (ex : List (Int × Int)) (day : Int) : Int := if isCal wk ex && inB day 0 999 then hoursTo wk ex day.toNat ex.length else 0
theorem hoursOn_no {wk : List Int} {ex : List (Int × Int)} {day : Int} (h : (isCal wk ex && inB day 0 999) = false) : hoursOn wk ex day = 0 := by simp [hoursOn, h]
theorem hoursOn_yes {wk : List Int} {ex : List (Int × Int)} {day : Int} (h : isCal wk ex = true) (h2 : inB day 0 999 = true) : hoursOn wk ex day = hoursTo wk ex day.toNat ex.length := by simp [hoursOn, h, h2]
theorem hoursOn_bd (wk : List Int) (ex : List (Int × Int)) (day : Int) : 0 ≤ hoursOn wk ex day ∧ hoursOn wk ex day ≤ 24 := by
  unfold hoursOn
  cases h : isCal wk ex
  · simp
  · split
    · exact hoursTo_bd h _ _ (Nat.le_refl _)
    · omega
def minutesOn (wk : List Int) (ex : List (Int × Int)) (m day : Int) : Int := if inB m 0 20 then hoursOn wk ex day * 60 * m else 0
/-- The row of the hours of all days, with the first k exceptions. -/
def hoursRow (wk : List Int) (ex : List (Int × Int)) (k : Nat) : List Int := (List.range 1000).map fun d => hoursTo wk ex d k
theorem hoursRow_len (wk : List Int) (ex : List (Int × Int)) (k : Nat) : (hoursRow wk ex k).length = 1000 := by simp [hoursRow]
theorem hoursRow_at (wk : List Int) (ex : List (Int × Int)) (k d : Nat) (hd : d < 1000) : (hoursRow wk ex k).getD d 0 = hoursTo wk ex d k := by
  unfold hoursRow
  rw [List.getD_eq_getElem?_getD, List.getElem?_map, List.getElem?_range hd]; rfl
theorem hoursRow_next (wk : List Int) (ex : List (Int × Int)) (k e : Nat) (he : (ex.getD k exNone).1 = e) (h1000 : e < 1000) : (hoursRow wk ex k).set e (ex.getD k exNone).2 = hoursRow wk ex (k + 1) := by
  apply List.ext_getElem
  · simp [hoursRow]
  · intro i h1 h2
    rw [List.getElem_set]
    simp only [hoursRow, List.getElem_map, List.getElem_range, hoursTo]
    by_cases hi : e = i
    · subst hi
      rw [if_pos rfl, if_pos he]
    · rw [if_neg hi, if_neg (by omega)]
/-- The row of the week's hours while the first d days are written. -/
def weekRow (wk : List Int) (d : Nat) : List Int := (List.range 1000).map fun j => if j < d then wk.getD (j % 7) 0 else 0
theorem weekRow_zero (wk : List Int) : weekRow wk 0 = List.replicate 1000 0 := by
  have : List.replicate 1000 (0 : Int) = (List.range 1000).map (fun _ => 0) := by rw [List.map_const', List.length_range]
  rw [this]
  unfold weekRow
  refine List.map_congr_left fun j hj => ?_
  rw [if_neg (by omega)]
theorem weekRow_all (wk : List Int) (ex : List (Int × Int)) : weekRow wk 1000 = hoursRow wk ex 0 := by
  unfold weekRow hoursRow
  refine List.map_congr_left fun j hj => ?_
  have h1 : j < 1000 := List.mem_range.1 hj
  simp only [hoursTo]; rw [if_pos h1]
theorem weekRow_len (wk : List Int) (d : Nat) : (weekRow wk d).length = 1000 := by simp [weekRow]
theorem weekRow_next (wk : List Int) (d : Nat) (hd : d < 1000) : (weekRow wk d).set d (wk.getD (d % 7) 0) = weekRow wk (d + 1) := by
  apply List.ext_getElem
  · simp [weekRow]
  · intro i h1 h2
    rw [List.getElem_set]
    simp only [weekRow, List.getElem_map, List.getElem_range]
    by_cases hi : d = i
    · subst hi
      rw [if_pos rfl, if_pos (by omega)]
    · rw [if_neg hi]
      by_cases h : i < d
      · rw [if_pos h, if_pos (by omega)]
      · rw [if_neg h, if_neg (by omega)]
end Go.Proofs.Ytajlfdofjegdjaa
