/- Plain law: what lots that begin at chosen periods cost, and that the best ones cost least. No program in sight. -/
import Derived.Test.YtcfcfgecdlpflaaBestRows
namespace Go.Proofs.Ytcfcfgecdlpflaa

/-- What the starts S cost, the last of them serving up to e. -/
def costE (needs : List Int) (s h : Int) : List Nat → Nat → Int
  | [], _ => 0
  | a :: t, e => lotC needs s h a (t.headD e) + costE needs s h t e
section
variable (needs : List Int) (s h : Int)
theorem costE_snoc (S : List Nat) (i e : Nat) : costE needs s h (S ++ [i]) e = costE needs s h S i + lotC needs s h i e := by
  induction S with
  | nil => simp [costE]
  | cons a t ih =>
    rw [List.cons_append, costE, costE, ih]
    have : (t ++ [i]).headD e = t.headD i := by cases t <;> rfl
    rw [this]; omega
/-- The best starts cost what the table says. -/
theorem chain_cost (hs : 0 ≤ s) (hh : 0 ≤ h) (hn : ∀ x ∈ needs, 0 ≤ x) (n k : Nat) : costE needs s h (chain needs s h n k).1 (chain needs s h n k).2 + bestN needs s h n (chain needs s h n k).2 = bestN needs s h n 0 := by
  induction k with
  | zero => simp [chain, costE]
  | succ k ih =>
    by_cases hc : (chain needs s h n k).2 < n
    · have e : chain needs s h n (k + 1) = ((chain needs s h n k).1 ++ [(chain needs s h n k).2], nextN needs s h n (chain needs s h n k).2) := by simp only [chain]; rw [if_pos hc]
      rw [e]
      simp only
      rw [costE_snoc]
      have := (bestN_facts needs s h hs hh hn n _ hc).2.2.2
      omega
    · have e : chain needs s h n (k + 1) = chain needs s h n k := by simp only [chain]; rw [if_neg hc]
      rw [e]; exact ih
/-- No starts cost less. -/
theorem costE_ge (hs : 0 ≤ s) (hh : 0 ≤ h) (hn : ∀ x ∈ needs, 0 ≤ x) (n : Nat) (S : List Nat) (hu : Ups S) (hm : ∀ i ∈ S, i < n) : bestN needs s h n (S.headD n) ≤ costE needs s h S n := by
  induction S with
  | nil => simp [costE, bestN_end]
  | cons a t ih =>
    have hut : Ups t := fun i j hj hij => by
      have := hu (i + 1) (j + 1) (by simp; omega) (by omega)
      simpa using this
    have h1 := ih hut (fun i hi => hm i (List.mem_cons_of_mem _ hi))
    have ha := hm a (List.mem_cons_self ..)
    have hb : a < t.headD n ∧ t.headD n ≤ n := by
      cases t with
      | nil => exact ⟨ha, Nat.le_refl _⟩
      | cons b u =>
        have h2 := hu 0 1 (by simp) (by omega)
        have h3 := hm b (by simp)
        exact ⟨by simpa using h2, by simp; omega⟩
    have h4 := (bestN_facts needs s h hs hh hn n a ha).1 _ hb.1 hb.2
    simp only [List.headD_cons, costE]
    omega
/-- The stock of a lot's periods, added up. -/
def sumSeg (a b : Nat) : Nat → Int
  | 0 => 0
  | i + 1 => sumSeg a b i + seg needs (a + i + 1) b
theorem sumSeg_next (a b i : Nat) : sumSeg needs a (b + 1) i = sumSeg needs a b i + i * needs.getD b 0 := by
  induction i with
  | zero => simp [sumSeg]
  | succ i ih =>
    simp only [sumSeg]
    rw [ih]
    have : seg needs (a + i + 1) (b + 1) = seg needs (a + i + 1) b + needs.getD b 0 := by simp only [seg, sumN]; omega
    rw [this, show ((i + 1 : Nat) : Int) = (i : Int) + 1 by omega, Int.add_mul]; omega
theorem holdN_eq (a d : Nat) : holdN needs h a d = h * sumSeg needs a (a + d) d := by
  induction d with
  | zero => simp [holdN, sumSeg]
  | succ d ih =>
    simp only [holdN, sumSeg]
    rw [ih, show a + (d + 1) = (a + d) + 1 by omega, sumSeg_next, show a + d + 1 = (a + d) + 1 by omega]
    have : seg needs (a + d + 1) (a + d + 1) = 0 := by simp [seg]
    rw [this, Int.add_zero, Int.mul_add, Int.mul_assoc, Int.mul_comm (needs.getD (a + d) 0)]
/-- Within a lot's periods: what is in stock, and what it has cost. -/
theorem seg_run (L : List Int) (a b : Nat) (hab : a < b) (h0 : stockUp needs L a = 0) (hL : L.getD a 0 = seg needs a b) (hz : ∀ i, a < i → i < b → L.getD i 0 = 0) (i : Nat) (hi : a + i + 1 ≤ b) :
    stockUp needs L (a + i + 1) = seg needs (a + i + 1) b ∧ costUp s h needs L (a + i + 1) = costUp s h needs L a + (if 0 < seg needs a b then s else 0) + h * sumSeg needs a b (i + 1) := by
  induction i with
  | zero =>
    have e1 : stockUp needs L (a + 1) = seg needs (a + 1) b := by
      simp only [stockUp]
      rw [h0, hL]; simp only [seg, sumN]; omega
    refine ⟨e1, ?_⟩
    simp only [Nat.add_zero, costUp, sumSeg]
    rw [e1, hL, Int.zero_add]
  | succ i ih =>
    obtain ⟨i1, i2⟩ := ih (by omega)
    have hzz := hz (a + i + 1) (by omega) (by omega)
    have e1 : stockUp needs L (a + (i + 1) + 1) = seg needs (a + (i + 1) + 1) b := by
      rw [show a + (i + 1) + 1 = (a + i + 1) + 1 by omega]
      rw [show stockUp needs L (a + i + 1 + 1) = stockUp needs L (a + i + 1) + L.getD (a + i + 1) 0 - needs.getD (a + i + 1) 0 from rfl, i1, hzz]
      have : seg needs (a + i + 1) b = seg needs (a + i + 1 + 1) b + needs.getD (a + i + 1) 0 := by
        unfold seg
        rw [show sumN needs (a + i + 1 + 1) = sumN needs (a + i + 1) + needs.getD (a + i + 1) 0 from rfl]; omega
      omega
    refine ⟨e1, ?_⟩
    rw [show a + (i + 1) + 1 = (a + i + 1) + 1 by omega] at e1 ⊢
    rw [show costUp s h needs L (a + i + 1 + 1) = costUp s h needs L (a + i + 1) + (if 0 < L.getD (a + i + 1) 0 then s else 0) + h * stockUp needs L (a + i + 1 + 1) from rfl, e1, i2, hzz, if_neg (show ¬ (0 : Int) < 0 by omega)]
    rw [show sumSeg needs a b (i + 1 + 1) = sumSeg needs a b (i + 1) + seg needs (a + (i + 1) + 1) b from rfl, show a + (i + 1) + 1 = a + i + 1 + 1 by omega, Int.mul_add]; omega
theorem seg_cost (L : List Int) (a b : Nat) (hab : a < b) (hn : ∀ x ∈ needs, 0 ≤ x) (h0 : stockUp needs L a = 0) (hL : L.getD a 0 = seg needs a b) (hz : ∀ i, a < i → i < b → L.getD i 0 = 0) :
    stockUp needs L b = 0 ∧ costUp s h needs L b = costUp s h needs L a + lotC needs s h a b ∧ ∀ t, a < t → t ≤ b → 0 ≤ stockUp needs L t := by
  have key := fun i hi => seg_run needs s h L a b hab h0 hL hz i hi
  have hb := key (b - a - 1) (by omega)
  rw [show a + (b - a - 1) + 1 = b by omega, show b - a - 1 + 1 = b - a by omega] at hb
  refine ⟨by rw [hb.1]; simp [seg], ?_, fun t h1 h2 => ?_⟩
  · rw [hb.2]
    unfold lotC
    rw [holdN_eq, show a + (b - a) = b by omega]; omega
  · have := (key (t - a - 1) (by omega)).1
    rw [show a + (t - a - 1) + 1 = t by omega] at this
    rw [this]
    have := sumN_mono needs hn t b h2
    unfold seg; omega
theorem lots16_hit (S : List Nat) (e : Nat) (hu : Ups S) (hm : ∀ i ∈ S, i < needs.length) (k : Nat) (hk : k ≤ S.length) (j : Nat) (hj : j < k) : (lots16 needs S e k).getD (S[j]'(by omega)) 0 = seg needs (S[j]'(by omega)) (S.getD (j + 1) e) := by
  induction k with
  | zero => omega
  | succ k ih =>
    have hkS : k < S.length := by omega
    have hg : S.getD k 0 = S[k] := by rw [List.getD_eq_getElem?_getD, List.getElem?_eq_getElem hkS]; rfl
    have hlt := hm _ (List.getElem_mem hkS)
    simp only [lots16]
    rw [hg]
    rcases Nat.lt_or_ge j k with h1 | h1
    · have h2 := hu j k hkS h1
      rw [List.getD_eq_getElem?_getD, List.getElem?_set_ne (by omega), ← List.getD_eq_getElem?_getD]
      exact ih (by omega) h1
    · obtain rfl : j = k := by omega
      rw [List.getD_eq_getElem?_getD, List.getElem?_set_self (by rw [lots16_len]; exact hlt)]; rfl
/-- What lots that begin at S cost. -/
theorem lots16_cost (hn : ∀ x ∈ needs, 0 ≤ x) (S : List Nat) (hu : Ups S) (hm : ∀ i ∈ S, i < needs.length) (h0 : S.headD needs.length = 0) :
    costUp s h needs (lots16 needs S needs.length S.length) needs.length = costE needs s h S needs.length ∧ ∀ t ≤ needs.length, 0 ≤ stockUp needs (lots16 needs S needs.length S.length) t := by
  have key : ∀ j, j ≤ S.length → stockUp needs (lots16 needs S needs.length S.length) (S.getD j needs.length) = 0 ∧ costUp s h needs (lots16 needs S needs.length S.length) (S.getD j needs.length) = costE needs s h (S.take j) (S.getD j needs.length) ∧ ∀ t ≤ S.getD j needs.length, 0 ≤ stockUp needs (lots16 needs S needs.length S.length) t := by
    intro j
    induction j with
    | zero =>
      intro _
      have e0 : S.getD 0 needs.length = 0 := by cases S <;> simpa using h0
      rw [e0]
      refine ⟨rfl, rfl, fun t ht => ?_⟩
      rw [show t = 0 by omega]; exact Int.le_refl _
    | succ j ih =>
      intro hj
      obtain ⟨i1, i2, i3⟩ := ih (by omega)
      have hjS : j < S.length := by omega
      have hg : S.getD j needs.length = S[j] := by rw [List.getD_eq_getElem?_getD, List.getElem?_eq_getElem hjS]; rfl
      have hlt := hm _ (List.getElem_mem hjS)
      have hnx : S[j] < S.getD (j + 1) needs.length ∧ S.getD (j + 1) needs.length ≤ needs.length := by
        rcases Nat.lt_or_ge (j + 1) S.length with h1 | h1
        · rw [List.getD_eq_getElem?_getD, List.getElem?_eq_getElem h1]
          have h2 := hu j (j + 1) h1 (by omega)
          have h3 := hm _ (List.getElem_mem h1)
          exact ⟨h2, Nat.le_of_lt h3⟩
        · rw [List.getD_eq_getElem?_getD, List.getElem?_eq_none (by omega)]
          exact ⟨hlt, Nat.le_refl _⟩
      rw [hg] at i1 i2 i3
      have hz : ∀ i, S[j] < i → i < S.getD (j + 1) needs.length → (lots16 needs S needs.length S.length).getD i 0 = 0 := fun i h1 h2 => by
        refine lots16_far needs S needs.length S.length i (fun m hm2 => ?_)
        rw [List.getD_eq_getElem?_getD, List.getElem?_eq_getElem hm2]
        simp only [Option.getD_some]
        intro he
        rcases Nat.lt_or_ge j m with h3 | h3
        · rcases Nat.lt_or_ge (j + 1) m with h4 | h4
          · have h5 := hu (j + 1) m hm2 h4
            rw [List.getD_eq_getElem?_getD, List.getElem?_eq_getElem (by omega)] at h2
            simp only [Option.getD_some] at h2; omega
          · obtain rfl : m = j + 1 := by omega
            rw [List.getD_eq_getElem?_getD, List.getElem?_eq_getElem hm2] at h2
            simp only [Option.getD_some] at h2; omega
        · rcases Nat.lt_or_ge m j with h4 | h4
          · have h5 := hu m j hjS h4; omega
          · obtain rfl : m = j := by omega
            omega
      obtain ⟨c1, c2, c3⟩ := seg_cost needs s h _ S[j] (S.getD (j + 1) needs.length) hnx.1 hn i1 (lots16_hit needs S needs.length hu hm S.length (Nat.le_refl _) j hjS) hz
      refine ⟨c1, ?_, fun t ht => ?_⟩
      · rw [c2, i2, List.take_succ_eq_append_getElem hjS, costE_snoc]
      · rcases Nat.lt_or_ge S[j] t with h1 | h1
        · exact c3 t h1 ht
        · exact i3 t h1
  have hl := key S.length (Nat.le_refl _)
  rw [List.getD_eq_getElem?_getD, List.getElem?_eq_none (Nat.le_refl _), List.take_length] at hl
  exact ⟨hl.2.1, hl.2.2⟩
theorem lots16_in (hn : ∀ x ∈ needs, 0 ≤ x ∧ x ≤ 1000) (h10 : needs.length ≤ 10) (S : List Nat) (hu : Ups S) (hm : ∀ i ∈ S, i < needs.length) (k : Nat) (hk : k ≤ S.length) : ∀ x ∈ lots16 needs S needs.length k, 0 ≤ x ∧ x ≤ 10000 := by
  induction k with
  | zero => intro x hx; simp only [lots16, List.mem_replicate] at hx; omega
  | succ k ih =>
    intro x hx
    simp only [lots16] at hx
    rcases List.mem_or_eq_of_mem_set hx with h1 | h1
    · exact ih (by omega) x h1
    · have hkS : k < S.length := by omega
      have hlt := hm _ (List.getElem_mem hkS)
      have hg : S.getD k 0 = S[k] := by rw [List.getD_eq_getElem?_getD, List.getElem?_eq_getElem hkS]; rfl
      have hnx : S[k] ≤ S.getD (k + 1) needs.length ∧ S.getD (k + 1) needs.length ≤ needs.length := by
        rcases Nat.lt_or_ge (k + 1) S.length with h2 | h2
        · rw [List.getD_eq_getElem?_getD, List.getElem?_eq_getElem h2]
          have h3 := hu k (k + 1) h2 (by omega)
          have h4 := hm _ (List.getElem_mem h2)
          exact ⟨Nat.le_of_lt h3, Nat.le_of_lt h4⟩
        · rw [List.getD_eq_getElem?_getD, List.getElem?_eq_none (by omega)]
          exact ⟨Nat.le_of_lt hlt, Nat.le_refl _⟩
      rw [h1, hg]
      have m1 := sumN_mono needs (fun x hx => (hn x hx).1) S[k] (S.getD (k + 1) needs.length) hnx.1
      have m2 : ∀ m, m ≤ needs.length → 0 ≤ sumN needs m ∧ sumN needs m ≤ 1000 * m := by
        intro m
        induction m with
        | zero => intro _; simp [sumN]
        | succ m ihm =>
          intro hm2
          have h5 := ihm (by omega)
          have h6 := hn _ (List.getElem_mem (show m < needs.length by omega))
          simp only [sumN, List.getD_eq_getElem?_getD, List.getElem?_eq_getElem (show m < needs.length by omega), Option.getD_some]
          omega
      have m3 := m2 _ hnx.2
      have m4 := m2 S[k] (by omega)
      unfold seg; omega
end
/-- The starts of a mask's lots: period 0, and each period whose bit is set. -/
def maskTo (b : Nat → Bool) : Nat → List Nat
  | 0 => []
  | k + 1 => if (maskTo b k).length = 0 ∨ b k = true then maskTo b k ++ [k] else maskTo b k
theorem maskTo_ok (b : Nat → Bool) (k : Nat) : Ups (maskTo b k) ∧ (∀ i ∈ maskTo b k, i < k) ∧ (0 < k → 0 < (maskTo b k).length) ∧ ∀ d, (maskTo b k).headD d = if k = 0 then d else 0 := by
  induction k with
  | zero => exact ⟨fun i j hj => by simp [maskTo] at hj, fun i hi => by simp [maskTo] at hi, fun h => absurd h (by omega), fun d => rfl⟩
  | succ k ih =>
    obtain ⟨h1, h2, h3, h4⟩ := ih
    simp only [maskTo]
    split
    · refine ⟨ups_snoc h1 h2, fun i hi => ?_, fun _ => by simp, fun d => ?_⟩
      · simp only [List.mem_append, List.mem_singleton] at hi
        rcases hi with hi | rfl
        · have := h2 i hi; omega
        · omega
      · rw [if_neg (by omega)]
        cases hc : maskTo b k with
        | nil =>
          have : k = 0 := by
            rcases Nat.eq_zero_or_pos k with h0 | h0
            · exact h0
            · have := h3 h0; rw [hc] at this; simp at this
          subst this; rfl
        | cons x t =>
          have := h4 d
          rw [hc] at this
          have hk0 : ¬ k = 0 := by
            intro h0
            subst h0; simp [maskTo] at hc
          rw [if_neg hk0] at this
          simpa using this
    · rename_i hcond
      have hpos : 0 < (maskTo b k).length := by omega
      have hk0 : ¬ k = 0 := by intro h0; subst h0; simp [maskTo] at hpos
      exact ⟨h1, fun i hi => by have := h2 i hi; omega, fun _ => hpos, fun d => by rw [h4 d, if_neg hk0, if_neg (by omega)]⟩
/-- A need more for the mask's lots, as the law adds it. -/
theorem mask_step (needs : List Int) (b : Nat → Bool) (k : Nat) (hk : k < needs.length) :
    let last := if b k = true then k else lastOf (maskTo b k)
    (lots16 needs (maskTo b k) k (maskTo b k).length).set last ((lots16 needs (maskTo b k) k (maskTo b k).length).getD last 0 + needs.getD k 0) = lots16 needs (maskTo b (k + 1)) (k + 1) (maskTo b (k + 1)).length ∧ lastOf (maskTo b (k + 1)) = last := by
  obtain ⟨h1, h2, h3, h4⟩ := maskTo_ok b k
  intro last
  by_cases hc : (maskTo b k).length = 0 ∨ b k = true
  · have hl : last = k := by
      show (if b k = true then k else lastOf (maskTo b k)) = k
      by_cases hb : b k = true
      · rw [if_pos hb]
      · rw [if_neg hb]
        have hz : (maskTo b k).length = 0 := by
          rcases hc with h | h
          · exact h
          · exact absurd h hb
        have hk0 : k = 0 := by
          rcases Nat.eq_zero_or_pos k with h0 | h0
          · exact h0
          · have := h3 h0; omega
        subst hk0; rfl
    have e : maskTo b (k + 1) = maskTo b k ++ [k] := by simp only [maskTo]; rw [if_pos hc]
    rw [hl, e]
    exact ⟨lots16_new needs _ k hk h2, lastOf_snoc _ _⟩
  · have hb : ¬ b k = true := fun h => hc (.inr h)
    have hl : last = lastOf (maskTo b k) := by show (if b k = true then k else lastOf (maskTo b k)) = _; rw [if_neg hb]
    have e : maskTo b (k + 1) = maskTo b k := by simp only [maskTo]; rw [if_neg hc]
    have hpos : 0 < (maskTo b k).length := by omega
    rw [hl, e]
    exact ⟨lots16_more needs _ k hpos (Nat.lt_trans (lastOf_lt h2 hpos) hk), rfl⟩
theorem partTo_head (needs : List Int) (s h : Int) (k : Nat) (d : Nat) : (partTo needs s h k).1.headD d = if k = 0 then d else 0 := by
  induction k with
  | zero => rfl
  | succ k ih =>
    rw [if_neg (by omega)]
    have hsn : ((partTo needs s h k).1 ++ [k]).headD d = 0 := by
      cases hc : (partTo needs s h k).1 with
      | nil =>
        cases k with
        | zero => rfl
        | succ k => have := partTo_some needs s h k; rw [hc] at this; simp at this
      | cons x t =>
        cases k with
        | zero => simp [partTo] at hc
        | succ k => rw [hc, if_neg (by omega)] at ih; simpa using ih
    simp only [partTo, partStep]
    split
    · exact hsn
    · split
      · exact hsn
      · rename_i h1 h2
        cases k with
        | zero => simp [partTo] at h1
        | succ k => rw [if_neg (by omega)] at ih; exact ih
theorem chain_head (needs : List Int) (s h : Int) (n k : Nat) (hn : 0 < n) (hk : 0 < k) (d : Nat) : (chain needs s h n k).1.headD d = 0 := by
  induction k with
  | zero => omega
  | succ k ih =>
    by_cases hc : (chain needs s h n k).2 < n
    · have e : chain needs s h n (k + 1) = ((chain needs s h n k).1 ++ [(chain needs s h n k).2], nextN needs s h n (chain needs s h n k).2) := by simp only [chain]; rw [if_pos hc]
      rw [e]
      cases k with
      | zero => rfl
      | succ k =>
        have h1 := ih (by omega)
        cases hl : (chain needs s h n (k + 1)).1 with
        | nil =>
          exfalso
          simp only [chain] at hl
          split at hl
          · simp at hl
          · rename_i hc2
            simp only [chain] at hc
            rw [if_neg hc2] at hc
            exact hc2 hc
        | cons x t => rw [hl] at h1; simpa using h1
    · have e : chain needs s h n (k + 1) = chain needs s h n k := by simp only [chain]; rw [if_neg hc]
      rw [e]
      cases k with
      | zero => simp [chain] at hc; omega
      | succ k => exact ih (by omega)
end Go.Proofs.Ytcfcfgecdlpflaa
