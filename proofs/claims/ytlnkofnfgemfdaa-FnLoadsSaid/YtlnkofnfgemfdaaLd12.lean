/- Part 12 of the texts of this claim: Sorted loads, and what the map of loads says of them (plain). -/
import Derived.Test.YtlnkofnfgemfdaaLd6
import Derived.Test.YtlnkofnfgemfdaaLd11
/- Sorted loads, and what the map of loads says of them (plain). -/
namespace Go.Proofs.Ytlnkofnfgemfdaa
open Go.RowKit Go.Maps
theorem bl_irrefl : ∀ x : List UInt8, Op.bytesLess x x = false
  | [] => rfl
  | a :: x => by simp [Op.bytesLess, bl_irrefl x]
theorem bl_trans : ∀ x y z : List UInt8, Op.bytesLess x y = true → Op.bytesLess y z = true → Op.bytesLess x z = true
  | _, [], _, h, _ => by cases ‹List UInt8› <;> simp [Op.bytesLess] at h
  | _, _ :: _, [], _, h => by simp [Op.bytesLess] at h
  | [], _ :: _, _ :: _, _, _ => rfl
  | a :: x, b :: y, c :: z, h1, h2 => by
    simp only [Op.bytesLess, Bool.or_eq_true, Bool.and_eq_true, decide_eq_true_eq, beq_iff_eq, UInt8.lt_iff_toNat_lt, ← UInt8.toNat_inj] at *
    rcases h1 with h1 | ⟨h1, h3⟩ <;> rcases h2 with h2 | ⟨h2, h4⟩
    · exact .inl (by omega)
    · exact .inl (by omega)
    · exact .inl (by omega)
    · exact .inr ⟨by omega, bl_trans x y z h3 h4⟩
theorem bl_total : ∀ x y : List UInt8, Op.bytesLess x y = false → Op.bytesLess y x = false → x = y
  | [], [], _, _ => rfl
  | [], _ :: _, h, _ => by simp [Op.bytesLess] at h
  | _ :: _, [], _, h => by simp [Op.bytesLess] at h
  | a :: x, b :: y, h1, h2 => by
    simp only [Op.bytesLess, Bool.or_eq_false_iff, Bool.and_eq_false_iff, decide_eq_false_iff_not, beq_eq_false_iff_ne, ne_eq, UInt8.lt_iff_toNat_lt, ← UInt8.toNat_inj] at h1 h2
    have e : a.toNat = b.toNat := by omega
    have ea : a = b := UInt8.toNat_inj.1 e
    rw [ea, bl_total x y (by rcases h1.2 with h | h; exact absurd e h; exact h) (by rcases h2.2 with h | h; exact absurd e.symm h; exact h)]
theorem toList_inj {a b : ByteArray} (h : a.toList = b.toList) : a = b := by
  rw [ByteArray.toList_eq, ByteArray.toList_eq] at h
  cases a; cases b
  simpa using h
def ltK (c : ByteArray) (d : Int) (c' : ByteArray) (d' : Int) : Bool := Op.bytesLess c.toList c'.toList || ((c.toList == c'.toList) && decide (d < d'))
theorem befL_eq (x : Ld) (c : ByteArray) (d : Int) : befL x c d = ltK x.1 x.2.1 c d := rfl
theorem sameL_iff {x : Ld} {c : ByteArray} {d : Int} : sameL x c d = true ↔ x.1 = c ∧ x.2.1 = d := by
  unfold sameL
  simp only [Bool.and_eq_true, beq_iff_eq, decide_eq_true_eq]
  exact ⟨fun h => ⟨toList_inj h.1, h.2⟩, fun h => ⟨by rw [h.1], h.2⟩⟩
theorem ltK_irrefl (c : ByteArray) (d : Int) : ltK c d c d = false := by simp [ltK, bl_irrefl]
theorem ltK_trans {c c' c'' : ByteArray} {d d' d'' : Int} (h1 : ltK c d c' d' = true) (h2 : ltK c' d' c'' d'' = true) : ltK c d c'' d'' = true := by
  unfold ltK at *
  simp only [Bool.or_eq_true, Bool.and_eq_true, beq_iff_eq, decide_eq_true_eq] at *
  rcases h1 with h1 | ⟨h1, h3⟩ <;> rcases h2 with h2 | ⟨h2, h4⟩
  · exact .inl (bl_trans _ _ _ h1 h2)
  · exact .inl (by rw [← h2]; exact h1)
  · exact .inl (by rw [h1]; exact h2)
  · exact .inr ⟨h1.trans h2, by omega⟩
theorem ltK_total {c c' : ByteArray} {d d' : Int} (h1 : ltK c d c' d' = false) (h2 : ltK c' d' c d = false) : c = c' ∧ d = d' := by
  unfold ltK at *
  simp only [Bool.or_eq_false_iff, Bool.and_eq_false_iff, beq_eq_false_iff_ne, decide_eq_false_iff_not, ne_eq] at *
  have e := bl_total _ _ h1.1 h2.1
  refine ⟨toList_inj e, ?_⟩
  rcases h1.2 with h | h
  · exact absurd e h
  · rcases h2.2 with h' | h'
    · exact absurd e.symm h'
    · omega
def SortedL (S : List Ld) : Prop := S.Pairwise fun x y => ltK x.1 x.2.1 y.1 y.2.1 = true
def hasL (S : List Ld) (c : ByteArray) (d : Int) : Prop := ∃ x ∈ S, x.1 = c ∧ x.2.1 = d
def valL : List Ld → ByteArray → Int → Int
  | [], _, _ => 0
  | x :: t, c, d => if sameL x c d = true then x.2.2 else valL t c d
theorem hasL_nil (c : ByteArray) (d : Int) : ¬ hasL [] c d := by rintro ⟨x, hx, _⟩; simp at hx
theorem hasL_cons {x : Ld} {t : List Ld} {c : ByteArray} {d : Int} : hasL (x :: t) c d ↔ (x.1 = c ∧ x.2.1 = d) ∨ hasL t c d := by
  simp [hasL]
theorem valL_none {S : List Ld} {c : ByteArray} {d : Int} (h : ¬ hasL S c d) : valL S c d = 0 := by
  induction S with
  | nil => rfl
  | cons x t ih =>
    rw [hasL_cons] at h
    simp only [not_or] at h
    unfold valL
    rw [if_neg (fun hs => h.1 (sameL_iff.1 hs))]; exact ih h.2
theorem sorted_key {S : List Ld} (h : SortedL S) {x y : Ld} (hx : x ∈ S) (hy : y ∈ S) (h1 : x.1 = y.1) (h2 : x.2.1 = y.2.1) : x = y := by
  induction S with
  | nil => simp at hx
  | cons z t ih =>
    obtain ⟨p1, p2⟩ := List.pairwise_cons.1 h
    rcases List.mem_cons.1 hx with rfl | hx' <;> rcases List.mem_cons.1 hy with rfl | hy'
    · rfl
    · have := p1 y hy'; rw [h1, h2, ltK_irrefl] at this; cases this
    · have := p1 x hx'; rw [h1, h2, ltK_irrefl] at this; cases this
    · exact ih p2 hx' hy'
theorem valL_mem {S : List Ld} (h : SortedL S) {x : Ld} (hx : x ∈ S) : valL S x.1 x.2.1 = x.2.2 := by
  induction S with
  | nil => simp at hx
  | cons z t ih =>
    unfold valL
    split
    · next hs =>
      obtain ⟨h1, h2⟩ := sameL_iff.1 hs
      rw [sorted_key h List.mem_cons_self hx h1 h2]
    · next hs =>
      rcases List.mem_cons.1 hx with rfl | hx'
      · exact absurd (sameL_iff.2 ⟨rfl, rfl⟩) hs
      · exact ih (List.pairwise_cons.1 h).2 hx'
theorem addL_key (S : List Ld) (c : ByteArray) (d q : Int) (c' : ByteArray) (d' : Int) : hasL (addL S c d q) c' d' ↔ hasL S c' d' ∨ (c = c' ∧ d = d') := by
  induction S with
  | nil => simp [addL, hasL]
  | cons x t ih =>
    unfold addL
    split
    · rw [hasL_cons, hasL_cons, ih, or_assoc]
    · split
      · next h =>
        rw [hasL_cons, hasL_cons]
        obtain ⟨h1, h2⟩ := sameL_iff.1 h
        simp only [h1, h2]
        constructor
        · rintro (h | h)
          · exact .inr h
          · exact .inl (.inr h)
        · rintro ((h | h) | h)
          · exact .inl h
          · exact .inr h
          · exact .inl h
      · rw [hasL_cons]; exact or_comm
theorem addL_sorted {S : List Ld} (h : SortedL S) (c : ByteArray) (d q : Int) : SortedL (addL S c d q) := by
  induction S with
  | nil => exact List.pairwise_singleton _ _
  | cons x t ih =>
    obtain ⟨p1, p2⟩ := List.pairwise_cons.1 h
    unfold addL
    split
    · next hb =>
      refine List.pairwise_cons.2 ⟨fun y hy => ?_, ih p2⟩
      rcases (addL_key t c d q y.1 y.2.1).1 ⟨y, hy, rfl, rfl⟩ with ⟨z, hz, e1, e2⟩ | ⟨rfl, rfl⟩
      · rw [← e1, ← e2]; exact p1 z hz
      · exact hb
    · next hb =>
      split
      · exact List.pairwise_cons.2 ⟨p1, p2⟩
      · next hs =>
        have hlt : ltK c d x.1 x.2.1 = true := by
          cases hh : ltK c d x.1 x.2.1
          · have := ltK_total (by simpa [befL_eq] using hb) hh
            exact absurd (sameL_iff.2 this) hs
          · rfl
        refine List.pairwise_cons.2 ⟨fun y hy => ?_, h⟩
        rcases List.mem_cons.1 hy with rfl | hy'
        · exact hlt
        · exact ltK_trans hlt (p1 y hy')
theorem valL_other (S : List Ld) (c : ByteArray) (d q : Int) {c' : ByteArray} {d' : Int} (hne : ¬ (c = c' ∧ d = d')) : valL (addL S c d q) c' d' = valL S c' d' := by
  induction S with
  | nil => simp only [addL, valL]; rw [if_neg (fun h => hne (sameL_iff.1 h))]
  | cons x t ih =>
    unfold addL
    split
    · unfold valL; rw [ih]
    · split
      · next hs =>
        obtain ⟨h1, h2⟩ := sameL_iff.1 hs
        have n1 : ¬ sameL x c' d' = true := fun h => hne ((by rw [← h1, ← h2]; exact sameL_iff.1 h))
        have n2 : ¬ sameL (x.1, x.2.1, x.2.2 + q) c' d' = true := fun h => n1 h
        unfold valL
        rw [if_neg n1, if_neg n2]
      · rw [valL, if_neg (fun h => hne (sameL_iff.1 h))]
theorem valL_same {S : List Ld} (h : SortedL S) (c : ByteArray) (d q : Int) : valL (addL S c d q) c d = valL S c d + q := by
  induction S with
  | nil => simp only [addL, valL]; rw [if_pos (sameL_iff.2 ⟨rfl, rfl⟩)]; omega
  | cons x t ih =>
    obtain ⟨p1, p2⟩ := List.pairwise_cons.1 h
    unfold addL
    split
    · next hb =>
      have n1 : ¬ sameL x c d = true := fun hs => by
        obtain ⟨e1, e2⟩ := sameL_iff.1 hs
        rw [befL_eq, e1, e2, ltK_irrefl] at hb; cases hb
      unfold valL
      rw [if_neg n1, if_neg n1]; exact ih p2
    · next hb =>
      split
      · next hs =>
        have n2 : sameL (x.1, x.2.1, x.2.2 + q) c d = true := hs
        unfold valL
        rw [if_pos hs, if_pos n2]
      · next hs =>
        have hlt : ltK c d x.1 x.2.1 = true := by
          cases hh : ltK c d x.1 x.2.1
          · have := ltK_total (by simpa [befL_eq] using hb) hh
            exact absurd (sameL_iff.2 this) hs
          · rfl
        have hno : ¬ hasL (x :: t) c d := by
          rintro ⟨y, hy, rfl, rfl⟩
          rcases List.mem_cons.1 hy with rfl | hy'
          · rw [ltK_irrefl] at hlt; cases hlt
          · have := ltK_trans hlt (p1 y hy'); rw [ltK_irrefl] at this; cases this
        rw [valL, if_pos (sameL_iff.2 ⟨rfl, rfl⟩), valL_none hno]; show q = 0 + q; omega
theorem sorted_ext {A B : List Ld} (ha : SortedL A) (hb : SortedL B) (h : ∀ x, x ∈ A ↔ x ∈ B) : A = B := by
  induction A generalizing B with
  | nil =>
    cases B with
    | nil => rfl
    | cons y t => have := (h y).2 List.mem_cons_self; simp at this
  | cons x t ih =>
    cases B with
    | nil => have := (h x).1 List.mem_cons_self; simp at this
    | cons y s =>
      obtain ⟨a1, a2⟩ := List.pairwise_cons.1 ha
      obtain ⟨b1, b2⟩ := List.pairwise_cons.1 hb
      have hxy : x = y := by
        rcases List.mem_cons.1 ((h x).1 List.mem_cons_self) with e | hx
        · exact e
        · rcases List.mem_cons.1 ((h y).2 List.mem_cons_self) with e | hy
          · exact e.symm
          · have := ltK_trans (a1 y hy) (b1 x hx); rw [ltK_irrefl] at this; cases this
      subst hxy
      rw [ih a2 b2 (fun z => ⟨fun hz => ?_, fun hz => ?_⟩)]
      · rcases List.mem_cons.1 ((h z).1 (List.mem_cons_of_mem _ hz)) with rfl | hz'
        · have := a1 z hz; rw [ltK_irrefl] at this; cases this
        · exact hz'
      · rcases List.mem_cons.1 ((h z).2 (List.mem_cons_of_mem _ hz)) with rfl | hz'
        · have := b1 z hz; rw [ltK_irrefl] at this; cases this
        · exact hz'
/-! The map. -/
def okK (c : ByteArray) (d : Int) : Prop := c.size ≤ maxLen ∧ (Lit.int .i64 d).wf = true
def ViewL (D : DataW Unit) (S : List Ld) : Prop :=
  IsMap D ∧ ∀ c d, okK c d → (has D (keyP c d) = true ↔ hasL S c d) ∧ (hasL S c d → D.atKey (keyP c d) (.lit (.int .i64 0)) = .lit (.int .i64 (valL S c d)))
theorem ViewL.empty : ViewL (.map []) [] := ⟨isMap_empty, fun c d _ => ⟨by simp [has, hasL_nil], fun h => absurd h (hasL_nil c d)⟩⟩
theorem ViewL.at_ {D : DataW Unit} {S : List Ld} (h : ViewL D S) {c : ByteArray} {d v : Int} (hk : okK c d) (hat : D.atKey (keyP c d) (.lit (.int .i64 0)) = .lit (.int .i64 v)) : v = valL S c d := by
  by_cases hh : hasL S c d
  · rw [((h.2 c d hk).2 hh)] at hat
    cases hat; rfl
  · have : has D (keyP c d) = false := by
      cases h1 : has D (keyP c d)
      · rfl
      · exact absurd ((h.2 c d hk).1.1 h1) hh
    rw [atKey_of_not_has this] at hat
    cases hat; exact (valL_none hh).symm
theorem ViewL.add {D : DataW Unit} {S : List Ld} (h : ViewL D S) (hs : SortedL S) {c : ByteArray} {d : Int} (hk : okK c d) (q : Int) : ViewL (D.put (keyP c d) (.lit (.int .i64 (valL S c d + q)))) (addL S c d q) := by
  refine ⟨h.1.put _ _, fun c' d' hk' => ?_⟩
  by_cases he : c = c' ∧ d = d'
  · obtain ⟨rfl, rfl⟩ := he
    rw [addL_key, valL_same hs]
    exact ⟨by simp [has_put_same h.1 (keyP_key c d)], fun _ => atKey_put_same h.1 (keyP_key c d) _ _⟩
  · have hne : keyP c' d' ≠ keyP c d := fun e => he (by obtain ⟨a, b⟩ := keyP_inj hk'.1 hk'.2 hk.1 hk.2 e; exact ⟨a.symm, b.symm⟩)
    rw [has_put_other hne, atKey_put_other hne, addL_key, valL_other _ _ _ _ he]
    refine ⟨by rw [(h.2 c' d' hk').1]; exact ⟨.inl, fun h => h.resolve_right he⟩, fun hh => (h.2 c' d' hk').2 (hh.resolve_right he)⟩
/-! What has been read out of the map so far. -/
def Coll (S L : List Ld) (left : Lit → Bool) : Prop := (∀ x ∈ L, x ∈ S) ∧ L.Nodup ∧ ∀ x ∈ S, left (keyP x.1 x.2.1) = true ↔ x ∉ L
def okLs (S : List Ld) : Prop := ∀ x ∈ S, okK x.1 x.2.1
theorem Coll.start {D : DataW Unit} {S : List Ld} (h : ViewL D S) (ho : okLs S) : Coll S [] (has D) :=
  ⟨by simp, List.nodup_nil, fun x hx => by rw [(h.2 x.1 x.2.1 (ho x hx)).1]; exact ⟨fun _ => by simp, fun _ => ⟨x, hx, rfl, rfl⟩⟩⟩
theorem Coll.step {D : DataW Unit} {S L : List Ld} {left : Lit → Bool} (h : ViewL D S) (hs : SortedL S) (ho : okLs S) (hc : Coll S L left) {c : ByteArray} {d v : Int} (hk : okK c d) (hl : left (keyP c d) = true) (hat : ∀ zd, D.atKey (keyP c d) zd = .lit (.int .i64 v)) :
    (c, d, v) ∈ S ∧ Coll S (L ++ [(c, d, v)]) (fun z => left z && !z.sameKey (keyP c d)) := by
  have hh : hasL S c d := by
    cases h1 : has D (keyP c d)
    · have e1 := hat (.lit (.int .i64 v))
      have e2 := hat (.lit (.int .i64 (v + 1)))
      rw [atKey_of_not_has h1] at e2
      injection e2 with e2
      injection e2 with _ e2
      omega
    · exact (h.2 c d hk).1.1 h1
  have hv := (h.2 c d hk).2 hh
  rw [hat] at hv
  injection hv with hv
  injection hv with _ hv
  obtain ⟨x, hx, rfl, rfl⟩ := hh
  rw [valL_mem hs hx] at hv
  subst hv
  have hxl : x ∉ L := (hc.2.2 x hx).1 hl
  refine ⟨hx, fun y hy => ?_, ?_, fun y hy => ?_⟩
  · rcases List.mem_append.1 hy with hy | hy
    · exact hc.1 y hy
    · rw [List.mem_singleton.1 hy]; exact hx
  · exact List.nodup_append.2 ⟨hc.2.1, List.pairwise_singleton _ _, fun a ha b hb => by rw [List.mem_singleton.1 hb]; intro e; rw [e] at ha; exact hxl ha⟩
  · simp only [Bool.and_eq_true, Bool.not_eq_true', hc.2.2 y hy, List.mem_append, List.mem_singleton, not_or]
    refine and_congr_right fun _ => ?_
    constructor
    · intro h1 e
      rw [e] at h1
      rw [WideAt.sameKey_self (keyP_key _ _)] at h1; cases h1
    · intro hne
      cases hsk : (keyP y.1 y.2.1).sameKey (keyP x.1 x.2.1)
      · rfl
      · obtain ⟨a, b⟩ := keyP_inj (ho y hy).1 (ho y hy).2 hk.1 hk.2 (WideAt.sameKey_eq hsk)
        exact absurd (sorted_key hs hy hx a b) hne
theorem Coll.done {S L : List Ld} {left : Lit → Bool} (hc : Coll S L left) (hl : ∀ z, left z = false) : ∀ x, x ∈ L ↔ x ∈ S := fun x =>
  ⟨hc.1 x, fun hx => Classical.byContradiction fun hn => by have := (hc.2.2 x hx).2 hn; rw [hl] at this; cases this⟩
end Go.Proofs.Ytlnkofnfgemfdaa
