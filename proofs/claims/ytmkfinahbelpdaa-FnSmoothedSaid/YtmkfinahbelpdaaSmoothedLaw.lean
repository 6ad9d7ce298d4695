/- Plain law: smoothing loses no minute, moves none to a later day, and leaves too much on day 0 alone. -/
import Derived.Test.YtmkfinahbelpdaaSmoothPlain
namespace Go.Proofs.Ytmkfinahbelpdaa
open Go.RowKit
/-- The minutes of all days ahead of day D. -/
def preS (m : List Int) : Nat → Int
  | 0 => 0
  | D + 1 => preS m D + m.getD D 0
theorem preS_step {cap : Int → Int} {m : List Int} (hl : m.length = 1000) (d : Nat) (hd1 : 1 ≤ d) (hd2 : d ≤ 999) (D : Nat) : preS (smStep cap m d) D = preS m D + if D = d then overD cap m d else 0 := by
  have e : ∀ i, (smStep cap m d).getD i 0 = if d - 1 = i then m.getD (d - 1) 0 + overD cap m d else if d = i then m.getD d 0 - overD cap m d else m.getD i 0 := fun i => by
    unfold smStep
    rw [getD_set _ _ _ _ (by rw [List.length_set]; omega), getD_set _ _ _ _ (by omega)]
  induction D with
  | zero => simp only [preS]; rw [if_neg (by omega)]; rfl
  | succ D ih =>
    simp only [preS]
    rw [ih, e]
    by_cases h1 : d - 1 = D
    · subst h1
      rw [if_pos rfl, if_neg (by omega), if_pos (by omega)]; omega
    · rw [if_neg h1]
      by_cases h2 : d = D
      · subst h2
        rw [if_pos rfl, if_pos rfl, if_neg (by omega)]; omega
      · rw [if_neg h2, if_neg (by omega), if_neg (by omega)]; omega
theorem overD_nonneg (cap : Int → Int) (m : List Int) (d : Nat) : 0 ≤ overD cap m d := by unfold overD; omega
theorem preS_grow {cap : Int → Int} (hc : ∀ d, 0 ≤ cap d) {m : List Int} (h : SmOk m 0) (j : Nat) (hj : j ≤ 999) (D : Nat) : preS m D ≤ preS (smTo cap m j) D := by
  induction j with
  | zero => exact Int.le_refl _
  | succ j ih =>
    have hok := smTo_ok hc h j (by omega)
    simp only [smTo]
    rw [preS_step hok.len (999 - j) (by omega) (by omega)]
    have := overD_nonneg cap (smTo cap m j) (999 - j)
    have := ih (by omega)
    split <;> omega
theorem preS_all {cap : Int → Int} (hc : ∀ d, 0 ≤ cap d) {m : List Int} (h : SmOk m 0) (j : Nat) (hj : j ≤ 999) (D : Nat) (hD : 999 < D) : preS (smTo cap m j) D = preS m D := by
  induction j with
  | zero => rfl
  | succ j ih =>
    have hok := smTo_ok hc h j (by omega)
    simp only [smTo]
    rw [preS_step hok.len (999 - j) (by omega) (by omega), if_neg (by omega), ih (by omega)]; omega
theorem sm_cap {cap : Int → Int} (hc : ∀ d, 0 ≤ cap d) {m : List Int} (h : SmOk m 0) (j : Nat) (hj : j ≤ 999) (i : Nat) (hi : 999 - j < i) (hi2 : i ≤ 999) : (smTo cap m j).getD i 0 ≤ cap i := by
  induction j with
  | zero => omega
  | succ j ih =>
    have hok := smTo_ok hc h j (by omega)
    have hl := hok.len
    simp only [smTo]
    unfold smStep
    rw [getD_set _ _ _ _ (by rw [List.length_set]; omega), getD_set _ _ _ _ (by omega), if_neg (by omega)]
    by_cases e : 999 - j = i
    · rw [if_pos e, e]
      unfold overD; omega
    · rw [if_neg e]; exact ih (by omega) (by omega)
/-! The loads of the days. -/
def sumL (l : List Ld) : Nat → Int
  | 0 => 0
  | i + 1 => sumL l i + (l.getD i ldNone).2.2
theorem days_lt {l : List Ld} (h : areMinutes l = true) (a d : Nat) (hb : a + d + 1 < l.length) : (l[a]'(by omega)).2.1 < (l[a + d + 1]).2.1 := by
  have key : ∀ k, k + 1 < l.length → (l.getD k ldNone).2.1 < (l.getD (k + 1) ldNone).2.1 := fun k hk => by
    simp only [areMinutes, Bool.and_eq_true, decide_eq_true_eq, List.all_eq_true, List.mem_range, okMin] at h
    have h1 := h.1 (k + 1) hk
    simp only [Bool.or_eq_true, decide_eq_true_eq] at h1
    rcases h1.2.2.2.2 with h2 | h2
    · omega
    · exact h2
  induction d with
  | zero =>
    have := key a (by omega)
    rw [ld_getD _ _ (by omega), ld_getD _ _ (by omega)] at this
    exact this
  | succ d ih =>
    have h1 := ih (by omega)
    have h2 := key (a + d + 1) (by omega)
    rw [ld_getD _ _ (by omega), ld_getD _ _ (by omega)] at h2
    exact Int.lt_trans h1 h2
theorem days_ne {l : List Ld} (h : areMinutes l = true) {a b : Nat} (ha : a < l.length) (hb : b < l.length) (he : l[a].2.1 = l[b].2.1) : a = b := by
  rcases Nat.lt_trichotomy a b with h1 | h1 | h1
  · have := days_lt h a (b - a - 1) (by omega)
    have e : a + (b - a - 1) + 1 = b := by omega
    simp only [e] at this
    omega
  · exact h1
  · have := days_lt h b (a - b - 1) (by omega)
    have e : b + (a - b - 1) + 1 = a := by omega
    simp only [e] at this
    omega
theorem dayRow_hit {l : List Ld} (h : areMinutes l = true) (k : Nat) (hk : k ≤ l.length) (i : Nat) (hi : i < k) (D : Nat) (hD : (l[i]'(by omega)).2.1 = (D : Int)) : (dayRow l k).getD D 0 = (l[i]'(by omega)).2.2 := by
  induction k with
  | zero => omega
  | succ k ih =>
    have hp := (areMinutes_parts h).2 k (by omega)
    rw [dayRow_next l k (by omega), getD_set _ _ _ _ (by rw [dayRow_len l k (by omega)]; omega)]
    by_cases e : i = k
    · subst e
      rw [if_pos (by omega)]
    · rw [if_neg (fun e2 => e (days_ne h (by omega) (by omega) (by omega)))]
      exact ih (by omega) (by omega) hD
theorem dayRow_miss {l : List Ld} (h : areMinutes l = true) (k : Nat) (hk : k ≤ l.length) (D : Nat) (hD : ∀ i (hi : i < k), (l[i]'(by omega)).2.1 ≠ (D : Int)) : (dayRow l k).getD D 0 = 0 := by
  induction k with
  | zero =>
    have : dayRow l 0 = List.replicate 1000 0 := rfl
    rw [this, List.getD_eq_getElem?_getD, List.getElem?_replicate]
    split <;> rfl
  | succ k ih =>
    have hp := (areMinutes_parts h).2 k (by omega)
    have hd := hD k (by omega)
    rw [dayRow_next l k (by omega), getD_set _ _ _ _ (by rw [dayRow_len l k (by omega)]; omega), if_neg (by omega)]
    exact ih (by omega) (fun i hi => hD i (by omega))
/-- i loads lie ahead of day D, all others don't. -/
structure Ptr (l : List Ld) (i D : Nat) : Prop where
  le : i ≤ l.length
  lo : ∀ j (hj : j < i), (l[j]'(by omega)).2.1 < (D : Int)
  hi : ∀ j (hj : j < l.length), i ≤ j → (D : Int) ≤ l[j].2.1
  sum : sumL l i = preS (dayRow l l.length) D
theorem Ptr.zero {l : List Ld} (h : areMinutes l = true) : Ptr l 0 0 := ⟨Nat.zero_le _, fun j hj => absurd hj (by omega), fun j hj _ => ((areMinutes_parts h).2 j hj).1, rfl⟩
theorem Ptr.take {l : List Ld} (h : areMinutes l = true) {i D : Nat} (p : Ptr l i D) (hi : i < l.length) (hd : l[i].2.1 = (D : Int)) : Ptr l (i + 1) (D + 1) := by
  refine ⟨hi, fun j hj => ?_, fun j hj hij => ?_, ?_⟩
  · by_cases e : j = i
    · subst e; omega
    · have := p.lo j (by omega); omega
  · have h1 := days_lt h i (j - i - 1) (by omega)
    have e : i + (j - i - 1) + 1 = j := by omega
    simp only [e] at h1
    omega
  · simp only [sumL, preS]
    rw [p.sum, dayRow_hit h l.length (Nat.le_refl _) i hi D hd, ld_getD _ _ hi]
theorem Ptr.pass {l : List Ld} (h : areMinutes l = true) {i D : Nat} (p : Ptr l i D) (hd : ∀ hi : i < l.length, l[i].2.1 ≠ (D : Int)) : Ptr l i (D + 1) := by
  have key : ∀ j (hj : j < l.length), i ≤ j → (D : Int) < l[j].2.1 := fun j hj hij => by
    have h1 := p.hi i (by omega) (Nat.le_refl _)
    have h2 := hd (by omega)
    by_cases e : i = j
    · subst e; omega
    · have h3 := days_lt h i (j - i - 1) (by omega)
      have e : i + (j - i - 1) + 1 = j := by omega
      simp only [e] at h3
      omega
  refine ⟨p.le, fun j hj => by have := p.lo j hj; omega, fun j hj hij => by have := key j hj hij; omega, ?_⟩
  simp only [preS]
  rw [p.sum, dayRow_miss h l.length (Nat.le_refl _) D (fun j hj => ?_)]
  · omega
  · rcases Nat.lt_or_ge j i with h1 | h1
    · have := p.lo j h1; omega
    · have := key j hj h1; omega
theorem Ptr.last {l : List Ld} (h : areMinutes l = true) {i : Nat} (p : Ptr l i 1000) : i = l.length := by
  have h1 := p.le
  rcases Nat.lt_or_ge i l.length with h2 | h2
  · have h3 := p.hi i h2 (Nat.le_refl _)
    have h4 := (areMinutes_parts h).2 i h2
    omega
  · omega
/-! What smoothing hands back. -/
theorem outTo_split (c : ByteArray) (m : List Int) (D d : Nat) : ∃ R, outTo c m (D + d) = outTo c m D ++ R ∧ ∀ x ∈ R, (D : Int) ≤ x.2.1 := by
  induction d with
  | zero => exact ⟨[], by simp, by simp⟩
  | succ d ih =>
    obtain ⟨R, h1, h2⟩ := ih
    rw [show D + (d + 1) = (D + d) + 1 by omega]
    simp only [outTo]
    rw [h1]
    by_cases hp : 0 < m.getD (D + d) 0
    · rw [if_pos hp]
      refine ⟨R ++ [(c, ((D + d : Nat) : Int), m.getD (D + d) 0)], by rw [List.append_assoc], fun x hx => ?_⟩
      rcases List.mem_append.1 hx with hx | hx
      · exact h2 x hx
      · simp only [List.mem_singleton] at hx
        subst hx
        show (D : Int) ≤ ((D + d : Nat) : Int)
        omega
    · rw [if_neg hp]
      exact ⟨R, rfl, h2⟩
def kAt (c : ByteArray) (m : List Int) (D : Nat) : Nat := (outTo c m D).length
theorem kAt_hit {c : ByteArray} {m : List Int} {D : Nat} (hD : D < 1000) (hp : 0 < m.getD D 0) : ∃ h : kAt c m D < (outTo c m 1000).length, (outTo c m 1000)[kAt c m D] = (c, (D : Int), m.getD D 0) := by
  obtain ⟨R, h1, _⟩ := outTo_split c m (D + 1) (1000 - (D + 1))
  rw [show D + 1 + (1000 - (D + 1)) = 1000 by omega] at h1
  have h2 : outTo c m (D + 1) = outTo c m D ++ [(c, (D : Int), m.getD D 0)] := by simp only [outTo]; rw [if_pos hp]
  rw [h2, List.append_assoc] at h1
  have hlt : kAt c m D < (outTo c m 1000).length := by
    rw [h1]; unfold kAt; simp
  refine ⟨hlt, ?_⟩
  have h3 : (outTo c m 1000)[kAt c m D]? = some (c, (D : Int), m.getD D 0) := by
    rw [h1]; unfold kAt
    rw [List.getElem?_append_right (Nat.le_refl _)]; simp
  rw [List.getElem?_eq_getElem hlt] at h3
  exact Option.some.inj h3
theorem kAt_far {c : ByteArray} {m : List Int} {D : Nat} (hD : D ≤ 1000) (h : kAt c m D < (outTo c m 1000).length) : (D : Int) ≤ ((outTo c m 1000)[kAt c m D]).2.1 := by
  obtain ⟨R, h1, h2⟩ := outTo_split c m D (1000 - D)
  rw [show D + (1000 - D) = 1000 by omega] at h1
  have h3 : ((outTo c m 1000)[kAt c m D]) ∈ R := by
    have h4 : (outTo c m 1000)[kAt c m D]? = R[0]? := by
      rw [h1]; unfold kAt
      rw [List.getElem?_append_right (Nat.le_refl _), Nat.sub_self]
    rw [List.getElem?_eq_getElem h] at h4
    exact List.mem_of_getElem? h4.symm
  exact h2 _ h3
theorem kAt_next {c : ByteArray} {m : List Int} {D : Nat} : kAt c m (D + 1) = if 0 < m.getD D 0 then kAt c m D + 1 else kAt c m D := by
  unfold kAt
  simp only [outTo]
  split
  · rw [List.length_append]; rfl
  · rfl
/-- All that the law asks of what smoothing hands back. -/
structure SmFacts (l : List Ld) (wk : List Int) (ex : List (Int × Int)) (q : Int) (S : List Ld) (mr : List Int) (kk : Nat → Nat) : Prop where
  len : S.length ≤ 1000
  hit : ∀ D, D < 1000 → 0 < mr.getD D 0 → ∃ h : kk D < S.length, S[kk D].2.1 = (D : Int) ∧ S[kk D].2.2 = mr.getD D 0
  far : ∀ D, D ≤ 1000 → ∀ h : kk D < S.length, (D : Int) ≤ S[kk D].2.1
  next : ∀ D, kk (D + 1) = if 0 < mr.getD D 0 then kk D + 1 else kk D
  last : kk 1000 = S.length
  zero : kk 0 = 0
  sum : ∀ D, preS (dayRow l l.length) D ≤ preS mr D
  all : preS mr 1000 = preS (dayRow l l.length) 1000
  cap : ∀ i : Nat, 0 < i → i ≤ 999 → mr.getD i 0 ≤ minutesOn wk ex q i
  nn : ∀ i, 0 ≤ mr.getD i 0
  le : ∀ i, mr.getD i 0 ≤ 1000000000000
theorem preS_bd {m : List Int} {K : Int} (h0 : ∀ i, 0 ≤ m.getD i 0) (h1 : ∀ i, m.getD i 0 ≤ K) (D : Nat) : 0 ≤ preS m D ∧ preS m D ≤ K * D := by
  induction D with
  | zero => simp [preS]
  | succ D ih =>
    have a := h0 D
    have b := h1 D
    simp only [preS]
    rw [show K * ((D + 1 : Nat) : Int) = K * D + K by rw [Int.natCast_succ, Int.mul_add, Int.mul_one]]
    omega
theorem SmFacts.bd {l : List Ld} {wk : List Int} {ex : List (Int × Int)} {q : Int} {S : List Ld} {mr : List Int} {kk : Nat → Nat} (h : SmFacts l wk ex q S mr kk) (D : Nat) (hD : D ≤ 1000) : 0 ≤ preS mr D ∧ preS mr D ≤ 1000000000000000 := by
  have := preS_bd h.nn h.le D
  omega
theorem row_bd {l : List Ld} (h : areMinutes l = true) (D : Nat) : 0 ≤ preS (dayRow l l.length) D := (preS_bd (K := 1000000000) (fun i => (dayRow_bd h _ (Nat.le_refl _) i).1) (fun i => (dayRow_bd h _ (Nat.le_refl _) i).2) D).1
theorem smFacts_of {l : List Ld} (hm : areMinutes l = true) (wk : List Int) (ex : List (Int × Int)) (q : Int) (c : ByteArray) (mr : List Int) (hmr : mr = smRow l wk ex q 999) (S : List Ld) (n : Nat) (hn : n = 1000) (hS : S = outTo c mr n) : SmFacts l wk ex q S mr (kAt c mr) := by
  have hok : SmOk mr 999 := by rw [hmr]; exact smRow_ok hm wk ex q 999 (Nat.le_refl _)
  have hc : ∀ d, 0 ≤ minutesOn wk ex q d := fun d => (minutesOn_bd wk ex q d).1
  have hsum : ∀ D, preS (dayRow l l.length) D ≤ preS mr D := fun D => by rw [hmr]; exact preS_grow hc (dayRow_ok hm) 999 (Nat.le_refl _) D
  have hall : ∀ D, 999 < D → preS mr D = preS (dayRow l l.length) D := fun D hD => by rw [hmr]; exact preS_all hc (dayRow_ok hm) 999 (Nat.le_refl _) D hD
  have hcap : ∀ i : Nat, 0 < i → i ≤ 999 → mr.getD i 0 ≤ minutesOn wk ex q i := fun i h1 h2 => by rw [hmr]; exact sm_cap hc (dayRow_ok hm) 999 (Nat.le_refl _) i (by omega) h2
  clear hmr
  have hit := fun (D : Nat) (h1 : D < 1000) (h2 : 0 < mr.getD D 0) => kAt_hit (c := c) h1 h2
  have far := fun (D : Nat) (h1 : D ≤ 1000) => kAt_far (c := c) (m := mr) h1
  rw [← hn, ← hS] at hit far
  have hlen : S.length ≤ n := by rw [hS]; exact outTo_len c mr n
  refine ⟨by omega, fun D h1 h2 => ?_, fun D h1 h => far D (by omega) h, fun D => kAt_next, ?_, rfl, hsum, hall 1000 (by omega), hcap, hok.nn, fun i => by have := hok.le i; omega⟩
  · obtain ⟨h, e⟩ := hit D (by omega) h2
    exact ⟨h, by rw [e], by rw [e]⟩
  · rw [← hn, hS]; rfl
theorem smoothLoads_facts {l : List Ld} {wk : List Int} {ex : List (Int × Int)} {q : Int} (h : (areMinutes l && (isCal wk ex && inB q 0 20)) = true) : ∃ (S : List Ld) (mr : List Int) (kk : Nat → Nat), smoothLoads l wk ex q = (S, true) ∧ SmFacts l wk ex q S mr kk := by
  have hm : areMinutes l = true := by
    simp only [Bool.and_eq_true] at h
    exact h.1
  exact ⟨_, _, _, smoothLoads_yes h, smFacts_of hm wk ex q (l.headD ldNone).1 (smRow l wk ex q 999) rfl _ 1000 rfl rfl⟩
end Go.Proofs.Ytmkfinahbelpdaa
