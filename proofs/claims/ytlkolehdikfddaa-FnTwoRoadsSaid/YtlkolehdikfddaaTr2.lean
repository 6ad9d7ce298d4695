/- Part 2 of the texts of this claim: CondNode: its cells, and the walks of the laws' own helpers on lists of it; Items, catalogs, conditions (plain): what both the reference and the program ask of them; The walks of IsItem, IsCatalog, FindItem; Steps through a region that draws its order, by hand: an operation that only reads is taken in the text's order; one that its guard passes over is passed over. -/
import Derived.Test.YtlkolehdikfddaaTr1
import Derived.StillTailTactics
import Derived.Deep.RegionHeld3
import Derived.Laws.Cover1
/- CondNode: its cells, and the walks of the laws' own helpers on lists of it. -/
namespace Go.Proofs.Ytlkolehdikfddaa
open Go.RowKit

abbrev Cn := Int × ByteArray × ByteArray
def cnF : Flat Cn := ⟨fun f => [.int .i64 (f.1), .string (f.2.1), .string (f.2.2)], 3, fun _ => rfl⟩
abbrev CondsIn (w : World) (A : Option Addr) (n : Nat) (l : List Cn) : Prop := RowsIn cnF w A n l
theorem cond_at {w : World} {A : Option Addr} {n : Nat} {l : List Cn} (h : CondsIn w A n l) {k : Nat} (hk : k < l.length) :
    ∃ b o, A = some ⟨b, o, none⟩ ∧ b < w.heap.size ∧ w.cell? ⟨b, o + k * 3, none⟩ = some (.int .i64 (l[k].1)) ∧ w.cell? ⟨b, o + k * 3 + 1, none⟩ = some (.string (l[k].2.1)) ∧ w.cell? ⟨b, o + k * 3 + 2, none⟩ = some (.string (l[k].2.2)) := by
  obtain ⟨b, o, e, hlt, hc⟩ := h.at_ hk
  exact ⟨b, o, e, hlt, hc 0 _ rfl, hc 1 _ rfl, hc 2 _ rfl⟩
theorem condInfo : (Try.prog.info? 114).map (fun i => (i.zero, i.size, i.bytes)) = some (some (.agg #[.int .i64 0, .string ByteArray.empty, .string ByteArray.empty]), 3, 40) := by kernel_rfl
theorem condElem : ElemOk cnF 88 114 := by
  obtain ⟨i, h1, h2, h3, h4⟩ := info_parts condInfo
  exact ⟨i, _, 40, Try.underlying88, h1, h2, h3, h4, rfl, by decide, by omega⟩
def okCn (x : Cn) : Prop := x.2.1.size ≤ 9223372036854775807 ∧ x.2.2.size ≤ 9223372036854775807
end Go.Proofs.Ytlkolehdikfddaa
/- Items, catalogs, conditions (plain): what both the reference and the program ask of them. -/
namespace Go.Proofs.Ytlkolehdikfddaa
open Go.RowKit
/-! It: code, unit, kind, lead, rule, size, safety, scrap. -/
def itNone : It := (ByteArray.empty, ByteArray.empty, 0, 0, 0, 0, 0, 0)
def isLotR (rule size : Int) : Bool := decide ((rule = 0 ∧ size = 0) ∨ ((rule = 1 ∨ rule = 2) ∧ 1 ≤ size ∧ size ≤ 1000))
def isItem (x : It) : Bool :=
  isCode x.1 && (isCode x.2.1 && (inB x.2.2.1 0 2 && (inB x.2.2.2.1 0 30 && (inB x.2.2.2.2.2.2.1 0 100000 && (inB x.2.2.2.2.2.2.2 0 50 && (isLotR x.2.2.2.2.1 x.2.2.2.2.2.1 && decide (x.2.2.1 = 2 → x.2.2.2.1 = 0 ∧ x.2.2.2.2.1 = 0 ∧ x.2.2.2.2.2.2.1 = 0 ∧ x.2.2.2.2.2.2.2 = 0)))))))
def catAt (l : List It) (lt : ByteArray → ByteArray → Bool) (k : Nat) : Bool := isItem (l.getD k itNone) && (decide (k = 0) || lt (l.getD (k - 1) itNone).1 (l.getD k itNone).1)
/-! Cn: kind, option, value. -/
def cnNone : Cn := (0, ByteArray.empty, ByteArray.empty)
/-- The texts of a node. -/
def cnText (x : Cn) : Bool := if x.1 = 1 then isCode x.2.1 && isCode x.2.2 else (x.2.1.toList == []) && (x.2.2.toList == [])
/-- How many conditions lie there behind a node; none if too few lay there ahead of it. -/
def cnNext (n : Nat) (x : Cn) : Option Nat :=
  if x.1 = 0 ∨ x.1 = 1 then some (n + 1) else if x.1 = 2 then (if n < 1 then none else some n) else if x.1 = 3 ∨ x.1 = 4 then (if n < 2 then none else some (n - 1)) else none
def condTo (l : List Cn) : Nat → Option Nat
  | 0 => some 0
  | k + 1 => match condTo l k with
    | none => none
    | some n => match cnNext n (l.getD k cnNone) with
      | none => none
      | some m => if cnText (l.getD k cnNone) then some m else none
def isCond (l : List Cn) : Bool := decide (l.length ≤ 30) && decide (condTo l l.length = some 1)
theorem condTo_le {l : List Cn} {k n : Nat} (h : condTo l k = some n) : n ≤ k := by
  induction k generalizing n with
  | zero => simp only [condTo, Option.some.injEq] at h; omega
  | succ k ih =>
    simp only [condTo] at h
    split at h
    · cases h
    · next n0 h0 =>
      split at h
      · cases h
      · next m hm =>
        split at h
        · have h1 := ih h0
          have h2 := Option.some.inj h
          subst h2
          simp only [cnNext] at hm
          split at hm
          · have := Option.some.inj hm; omega
          · split at hm
            · split at hm
              · cases hm
              · have := Option.some.inj hm; omega
            · split at hm
              · split at hm
                · cases hm
                · have := Option.some.inj hm; omega
              · cases hm
        · cases h
theorem condTo_none {l : List Cn} {k : Nat} (h : condTo l k = none) : ∀ d, condTo l (k + d) = none := by
  intro d
  induction d with
  | zero => exact h
  | succ d ih =>
    rw [show k + (d + 1) = (k + d) + 1 by omega]
    simp only [condTo]
    rw [ih]
theorem isCond_at {l : List Cn} {k : Nat} (hk : k ≤ l.length) (h : condTo l k = none) : isCond l = false := by
  have := condTo_none h (l.length - k)
  rw [show k + (l.length - k) = l.length by omega] at this
  unfold isCond
  rw [this]; simp
end Go.Proofs.Ytlkolehdikfddaa
/- The walks of IsItem, IsCatalog, FindItem. -/
namespace Go.Proofs.Ytlkolehdikfddaa
open Go.RowKit
def itLt (a b : ByteArray) : Bool := Op.bytesLess a.toList b.toList
def isCat (l : List It) : Bool := (List.range l.length).all (catAt l itLt) && decide ((l.length : Int) ≤ 12)
theorem it_getD (l : List It) (k : Nat) (h : k < l.length) : l.getD k itNone = l[k] := by
  rw [List.getD_eq_getElem?_getD, List.getElem?_eq_getElem h]; rfl
theorem isCat_no {l : List It} {k : Nat} (hk : k < l.length) (h : catAt l itLt k = false) : isCat l = false := by
  unfold isCat
  have : (List.range l.length).all (catAt l itLt) = false := by rw [List.all_eq_false]; exact ⟨k, by simpa using hk, by simp [h]⟩
  rw [this]; rfl
theorem isCat_end {l : List It} (h : ∀ j < l.length, catAt l itLt j = true) : isCat l = decide ((l.length : Int) ≤ 12) := by
  unfold isCat
  have : (List.range l.length).all (catAt l itLt) = true := by rw [List.all_eq_true]; intro x hx; exact h x (by simpa using hx)
  rw [this]; rfl
theorem catAt_of {l : List It} {k : Nat} (hk : k < l.length) : catAt l itLt k = (isItem l[k] && (decide (k = 0) || itLt (l.getD (k - 1) itNone).1 l[k].1)) := by
  unfold catAt; rw [it_getD _ _ hk]
theorem isCat_item {l : List It} (h : isCat l = true) {k : Nat} (hk : k < l.length) : isItem l[k] = true := by
  simp only [isCat, Bool.and_eq_true, List.all_eq_true, List.mem_range] at h
  have := h.1 k hk
  rw [catAt_of hk] at this
  simp only [Bool.and_eq_true] at this
  exact this.1
theorem isCat_len {l : List It} (h : isCat l = true) : l.length ≤ 12 := by
  simp only [isCat, Bool.and_eq_true, decide_eq_true_eq] at h
  omega
/-- The index of the item with a code; -1 if there is none. -/
def findIt (l : List It) (c : ByteArray) : Int := match l.findIdx? (fun x => x.1.toList == c.toList) with
  | some k => (k : Int)
  | none => -1
theorem findIt_hit {l : List It} {c : ByteArray} {k : Nat} (hk : k < l.length) (h : ∀ j (hj : j < l.length), j < k → (l[j].1.toList == c.toList) = false) (he : (l[k].1.toList == c.toList) = true) : findIt l c = k := by
  have : l.findIdx? (fun x => x.1.toList == c.toList) = some k := by
    rw [List.findIdx?_eq_some_iff_getElem]
    exact ⟨hk, he, fun j hj => by rw [h j (by omega) hj]; simp⟩
  unfold findIt; rw [this]
theorem findIt_miss {l : List It} {c : ByteArray} (h : ∀ j (hj : j < l.length), (l[j].1.toList == c.toList) = false) : findIt l c = -1 := by
  have : l.findIdx? (fun x => x.1.toList == c.toList) = none := by
    rw [List.findIdx?_eq_none_iff]
    intro x hx
    obtain ⟨k, hk, rfl⟩ := List.getElem_of_mem hx
    exact h k hk
  unfold findIt; rw [this]
theorem findIt_cases (l : List It) (c : ByteArray) : findIt l c = -1 ∨ ∃ k : Nat, ∃ hk : k < l.length, findIt l c = (k : Int) ∧ (l[k].1.toList == c.toList) = true := by
  unfold findIt
  cases h : l.findIdx? (fun x => x.1.toList == c.toList) with
  | none => exact .inl rfl
  | some k =>
    rw [List.findIdx?_eq_some_iff_getElem] at h
    obtain ⟨h1, h2, _⟩ := h
    exact .inr ⟨k, h1, rfl, h2⟩
theorem findIt_bd (l : List It) (c : ByteArray) : -1 ≤ findIt l c ∧ findIt l c < l.length := by
  rcases findIt_cases l c with h | ⟨k, hk, h, _⟩ <;> rw [h] <;> omega
theorem findIt_lt {l : List It} {c : ByteArray} (h : 0 ≤ findIt l c) : (findIt l c).toNat < l.length := by
  have := findIt_bd l c; omega
theorem isItem_lots (x : It) (h : isItem x = true) : isCode x.1 = true ∧ isCode x.2.1 = true ∧ (0 ≤ x.2.2.1 ∧ x.2.2.1 ≤ 2) ∧ (0 ≤ x.2.2.2.1 ∧ x.2.2.2.1 ≤ 30) ∧ (0 ≤ x.2.2.2.2.2.2.1 ∧ x.2.2.2.2.2.2.1 ≤ 100000) ∧ (0 ≤ x.2.2.2.2.2.2.2 ∧ x.2.2.2.2.2.2.2 ≤ 50) ∧ isLotR x.2.2.2.2.1 x.2.2.2.2.2.1 = true := by
  simp only [isItem, Bool.and_eq_true, inB_iff] at h
  obtain ⟨h1, h2, h3, h4, h5, h6, h7, _⟩ := h
  exact ⟨h1, h2, h3, h4, h5, h6, h7⟩

theorem isLotR_in {r : Int} (h : inB r 0 2 = true) (s : Int) : isLotR r s = ((r == 0) && (s == 0) || (!(r == 0)) && inB s 1 1000) := by
  rw [inB_iff] at h
  have h3 : r = 0 ∨ r = 1 ∨ r = 2 := by omega
  rcases h3 with rfl | rfl | rfl <;> simp [isLotR, inB, Bool.beq_eq_decide_eq]
theorem isItem_rule {x0 x1 : ByteArray} {x2 x3 x4 x5 x6 x7 : Int} (h : inB x4 0 2 = false) : isItem (x0, x1, x2, x3, x4, x5, x6, x7) = false := by
  rw [inB_no] at h
  have : isLotR x4 x5 = false := by
    simp only [isLotR, decide_eq_false_iff_not]
    omega
  simp [isItem, this]
theorem isLotR_eq (r s : Int) : isLotR r s = ((r == 0) && (s == 0) || ((r == 1) || (r == 2)) && inB s 1 1000) := by
  by_cases h0 : r = 0
  · subst h0; simp [isLotR, Bool.beq_eq_decide_eq]
  · by_cases h1 : r = 1
    · subst h1; simp [isLotR, inB]
    · by_cases h2 : r = 2
      · subst h2; simp [isLotR, inB]
      · simp [isLotR, h0, h1, h2]
set_option maxRecDepth 100000 in
theorem isLotR_any (r s : Int) (w : World) : Calls Try.prog 86 #[.int .i64 r, .int .i64 s] w fun e w' => e = .returned (.bool (isLotR r s)) ∧ w = w' := by
  have HE := Lib.hid (isLotR_eq r s)
  cases h0 : (r == 0) <;> cases h1 : (r == 1) <;> cases h2 : (r == 2) <;> cases h3 : (s == 0) <;> cases h4 : inB s 1 1000
  all_goals
    first
      | (go_enter Try.func86, Try.ntmps86
         go_wp2_with (go_at_call 25; refine (in_any _ _ _ _).mono ?_; rintro e w' ⟨rfl, rfl⟩)
         go_ret
         exact ⟨ret_bool (by rw [HE.out, h0, h1, h2, h3, h4]; rfl), rfl⟩)
set_option maxRecDepth 100000 in
set_option maxHeartbeats 4000000 in
theorem specIsItem_any (x0 x1 : ByteArray) (x2 x3 x4 x5 x6 x7 : Int) (w : World) (hs0 : x0.size ≤ 9223372036854775807) (hs1 : x1.size ≤ 9223372036854775807) :
    Calls Try.prog 92 #[.agg #[.string x0, .string x1, .int .i64 x2, .int .i64 x3, .int .i64 x4, .int .i64 x5, .int .i64 x6, .int .i64 x7]] w fun e w' => e = .returned (.bool (isItem (x0, x1, x2, x3, x4, x5, x6, x7))) ∧ Below w.heap.size w w' := by
  have hbx := below_alloc w (.cells #[.string x0, .string x1, .int .i64 x2, .int .i64 x3, .int .i64 x4, .int .i64 x5, .int .i64 x6, .int .i64 x7] 47)
  cases a0 : isCode x0
  · have HF : Hid (isItem (x0, x1, x2, x3, x4, x5, x6, x7) = false) := by show isItem (x0, x1, x2, x3, x4, x5, x6, x7) = false; simp [isItem, a0]
    go_enter Try.func92, Try.ntmps92
    go_wp2_with (first | (go_at_call 42; refine (l1In_any _ _ _ _).mono ?_; rintro e w' ⟨rfl, rfl⟩) | (go_at_call 44; refine (specIsCode_any _ _ (by assumption)).mono ?_; rintro e w' ⟨rfl, rfl⟩))
    go_ret
    exact ⟨ret_bool HF.out.symm, hbx⟩
  cases a1 : isCode x1
  · have HF : Hid (isItem (x0, x1, x2, x3, x4, x5, x6, x7) = false) := by show isItem (x0, x1, x2, x3, x4, x5, x6, x7) = false; simp [isItem, a0, a1]
    go_enter Try.func92, Try.ntmps92
    go_wp2_with (first | (go_at_call 42; refine (l1In_any _ _ _ _).mono ?_; rintro e w' ⟨rfl, rfl⟩) | (go_at_call 44; refine (specIsCode_any _ _ (by assumption)).mono ?_; rintro e w' ⟨rfl, rfl⟩))
    go_ret
    exact ⟨ret_bool HF.out.symm, hbx⟩
  cases a2 : inB x2 0 2
  · have HF : Hid (isItem (x0, x1, x2, x3, x4, x5, x6, x7) = false) := by show isItem (x0, x1, x2, x3, x4, x5, x6, x7) = false; simp [isItem, a0, a1, a2]
    go_enter Try.func92, Try.ntmps92
    go_wp2_with (first | (go_at_call 42; refine (l1In_any _ _ _ _).mono ?_; rintro e w' ⟨rfl, rfl⟩) | (go_at_call 44; refine (specIsCode_any _ _ (by assumption)).mono ?_; rintro e w' ⟨rfl, rfl⟩))
    go_ret
    exact ⟨ret_bool HF.out.symm, hbx⟩
  cases a3 : inB x3 0 30
  · have HF : Hid (isItem (x0, x1, x2, x3, x4, x5, x6, x7) = false) := by show isItem (x0, x1, x2, x3, x4, x5, x6, x7) = false; simp [isItem, a0, a1, a2, a3]
    go_enter Try.func92, Try.ntmps92
    go_wp2_with (first | (go_at_call 42; refine (l1In_any _ _ _ _).mono ?_; rintro e w' ⟨rfl, rfl⟩) | (go_at_call 44; refine (specIsCode_any _ _ (by assumption)).mono ?_; rintro e w' ⟨rfl, rfl⟩))
    go_ret
    exact ⟨ret_bool HF.out.symm, hbx⟩
  cases a4 : inB x4 0 2
  · have HF : Hid (isItem (x0, x1, x2, x3, x4, x5, x6, x7) = false) := isItem_rule a4
    go_enter Try.func92, Try.ntmps92
    go_wp2_with (first | (go_at_call 42; refine (l1In_any _ _ _ _).mono ?_; rintro e w' ⟨rfl, rfl⟩) | (go_at_call 44; refine (specIsCode_any _ _ (by assumption)).mono ?_; rintro e w' ⟨rfl, rfl⟩))
    go_ret
    exact ⟨ret_bool HF.out.symm, hbx⟩
  cases a6 : inB x6 0 100000
  · have HF : Hid (isItem (x0, x1, x2, x3, x4, x5, x6, x7) = false) := by show isItem (x0, x1, x2, x3, x4, x5, x6, x7) = false; simp [isItem, a0, a1, a2, a3, a6]
    go_enter Try.func92, Try.ntmps92
    go_wp2_with (first | (go_at_call 42; refine (l1In_any _ _ _ _).mono ?_; rintro e w' ⟨rfl, rfl⟩) | (go_at_call 44; refine (specIsCode_any _ _ (by assumption)).mono ?_; rintro e w' ⟨rfl, rfl⟩))
    go_ret
    exact ⟨ret_bool HF.out.symm, hbx⟩
  cases a7 : inB x7 0 50
  · have HF : Hid (isItem (x0, x1, x2, x3, x4, x5, x6, x7) = false) := by show isItem (x0, x1, x2, x3, x4, x5, x6, x7) = false; simp [isItem, a0, a1, a2, a3, a6, a7]
    go_enter Try.func92, Try.ntmps92
    go_wp2_with (first | (go_at_call 42; refine (l1In_any _ _ _ _).mono ?_; rintro e w' ⟨rfl, rfl⟩) | (go_at_call 44; refine (specIsCode_any _ _ (by assumption)).mono ?_; rintro e w' ⟨rfl, rfl⟩))
    go_ret
    exact ⟨ret_bool HF.out.symm, hbx⟩
  have HI : Hid (isItem (x0, x1, x2, x3, x4, x5, x6, x7) = (isLotR x4 x5 && decide (x2 = 2 → x3 = 0 ∧ x4 = 0 ∧ x6 = 0 ∧ x7 = 0))) := by show _ = _; simp [isItem, a0, a1, a2, a3, a6, a7]
  have HL := Lib.hid (isLotR_in a4 x5)
  by_cases b2 : x2 = 2
  · have k2 : (x2 == 2) = true := by simpa using b2
    by_cases bx3 : x3 = 0
    case neg =>
      have kx3 : (x3 != 0) = true := by simpa using bx3
      have HF : Hid (isItem (x0, x1, x2, x3, x4, x5, x6, x7) = false) := by show _ = _; rw [HI.out, decide_eq_false (fun h => bx3 (h b2).1), Bool.and_false]
      clear b2 bx3
      go_enter Try.func92, Try.ntmps92
      go_wp2_with (first | (go_at_call 42; refine (l1In_any _ _ _ _).mono ?_; rintro e w' ⟨rfl, rfl⟩) | (go_at_call 44; refine (specIsCode_any _ _ (by assumption)).mono ?_; rintro e w' ⟨rfl, rfl⟩))
      go_ret
      exact ⟨ret_bool HF.out.symm, hbx⟩
    have kx3 : (x3 != 0) = false := by simpa using bx3
    have mx3 : (x3 == 0) = true := by simpa using bx3
    by_cases bx4 : x4 = 0
    case neg =>
      have kx4 : (x4 != 0) = true := by simpa using bx4
      have HF : Hid (isItem (x0, x1, x2, x3, x4, x5, x6, x7) = false) := by show _ = _; rw [HI.out, decide_eq_false (fun h => bx4 (h b2).2.1), Bool.and_false]
      clear b2 bx3 bx4
      go_enter Try.func92, Try.ntmps92
      go_wp2_with (first | (go_at_call 42; refine (l1In_any _ _ _ _).mono ?_; rintro e w' ⟨rfl, rfl⟩) | (go_at_call 44; refine (specIsCode_any _ _ (by assumption)).mono ?_; rintro e w' ⟨rfl, rfl⟩))
      go_ret
      exact ⟨ret_bool HF.out.symm, hbx⟩
    have kx4 : (x4 != 0) = false := by simpa using bx4
    have mx4 : (x4 == 0) = true := by simpa using bx4
    by_cases bx6 : x6 = 0
    case neg =>
      have kx6 : (x6 != 0) = true := by simpa using bx6
      have HF : Hid (isItem (x0, x1, x2, x3, x4, x5, x6, x7) = false) := by show _ = _; rw [HI.out, decide_eq_false (fun h => bx6 (h b2).2.2.1), Bool.and_false]
      clear b2 bx3 bx4 bx6
      go_enter Try.func92, Try.ntmps92
      go_wp2_with (first | (go_at_call 42; refine (l1In_any _ _ _ _).mono ?_; rintro e w' ⟨rfl, rfl⟩) | (go_at_call 44; refine (specIsCode_any _ _ (by assumption)).mono ?_; rintro e w' ⟨rfl, rfl⟩))
      go_ret
      exact ⟨ret_bool HF.out.symm, hbx⟩
    have kx6 : (x6 != 0) = false := by simpa using bx6
    have mx6 : (x6 == 0) = true := by simpa using bx6
    by_cases bx7 : x7 = 0
    case neg =>
      have kx7 : (x7 != 0) = true := by simpa using bx7
      have HF : Hid (isItem (x0, x1, x2, x3, x4, x5, x6, x7) = false) := by show _ = _; rw [HI.out, decide_eq_false (fun h => bx7 (h b2).2.2.2), Bool.and_false]
      clear b2 bx3 bx4 bx6 bx7
      go_enter Try.func92, Try.ntmps92
      go_wp2_with (first | (go_at_call 42; refine (l1In_any _ _ _ _).mono ?_; rintro e w' ⟨rfl, rfl⟩) | (go_at_call 44; refine (specIsCode_any _ _ (by assumption)).mono ?_; rintro e w' ⟨rfl, rfl⟩))
      go_ret
      exact ⟨ret_bool HF.out.symm, hbx⟩
    have kx7 : (x7 != 0) = false := by simpa using bx7
    have mx7 : (x7 == 0) = true := by simpa using bx7
    have HP := Lib.hid (decide_eq_true (p := (x2 = 2 → x3 = 0 ∧ x4 = 0 ∧ x6 = 0 ∧ x7 = 0)) (fun _ => ⟨bx3, bx4, bx6, bx7⟩))
    clear b2 bx3 bx4 bx6 bx7
    have m5 : (x4 != 0) = false := kx4
    have m6 : (x4 == 0) = true := mx4
    cases q5 : (x5 == 0) <;> cases q6 : inB x5 1 1000
    all_goals
      go_enter Try.func92, Try.ntmps92
      go_wp2_with (first | (go_at_call 42; refine (l1In_any _ _ _ _).mono ?_; rintro e w' ⟨rfl, rfl⟩) | (go_at_call 44; refine (specIsCode_any _ _ (by assumption)).mono ?_; rintro e w' ⟨rfl, rfl⟩))
      go_ret
      exact ⟨ret_bool (by rw [HI.out, HP.out, HL.out, m6, q5, q6]; rfl), hbx⟩
  · have k2 : (x2 == 2) = false := by simpa using b2
    have HP := Lib.hid (decide_eq_true (p := (x2 = 2 → x3 = 0 ∧ x4 = 0 ∧ x6 = 0 ∧ x7 = 0)) (fun h => absurd h b2))
    clear b2
    cases m6 : (x4 == 0)
    · have m5 : (x4 != 0) = true := by simp [bne, m6]
      cases q5 : (x5 == 0) <;> cases q6 : inB x5 1 1000
      all_goals
        go_enter Try.func92, Try.ntmps92
        go_wp2_with (first | (go_at_call 42; refine (l1In_any _ _ _ _).mono ?_; rintro e w' ⟨rfl, rfl⟩) | (go_at_call 44; refine (specIsCode_any _ _ (by assumption)).mono ?_; rintro e w' ⟨rfl, rfl⟩))
        go_ret
        exact ⟨ret_bool (by rw [HI.out, HP.out, HL.out, m6, q5, q6]; rfl), hbx⟩
    · have m5 : (x4 != 0) = false := by simp [bne, m6]
      cases q5 : (x5 == 0) <;> cases q6 : inB x5 1 1000
      all_goals
        go_enter Try.func92, Try.ntmps92
        go_wp2_with (first | (go_at_call 42; refine (l1In_any _ _ _ _).mono ?_; rintro e w' ⟨rfl, rfl⟩) | (go_at_call 44; refine (specIsCode_any _ _ (by assumption)).mono ?_; rintro e w' ⟨rfl, rfl⟩))
        go_ret
        exact ⟨ret_bool (by rw [HI.out, HP.out, HL.out, m6, q5, q6]; rfl), hbx⟩
set_option maxRecDepth 100000 in
set_option maxHeartbeats 4000000 in
theorem implIsItem_any (x0 x1 : ByteArray) (x2 x3 x4 x5 x6 x7 : Int) (w : World) (hs0 : x0.size ≤ 9223372036854775807) (hs1 : x1.size ≤ 9223372036854775807) :
    Calls Try.prog 69 #[.agg #[.string x0, .string x1, .int .i64 x2, .int .i64 x3, .int .i64 x4, .int .i64 x5, .int .i64 x6, .int .i64 x7]] w fun e w' => e = .returned (.bool (isItem (x0, x1, x2, x3, x4, x5, x6, x7))) ∧ Below w.heap.size w w' := by
  have hbx := below_alloc w (.cells #[.string x0, .string x1, .int .i64 x2, .int .i64 x3, .int .i64 x4, .int .i64 x5, .int .i64 x6, .int .i64 x7] 47)
  cases a0 : isCode x0
  · have HF : Hid (isItem (x0, x1, x2, x3, x4, x5, x6, x7) = false) := by show isItem (x0, x1, x2, x3, x4, x5, x6, x7) = false; simp [isItem, a0]
    go_enter Try.func69, Try.ntmps69
    go_wp2_with (first | (go_at_call 25; refine (in_any _ _ _ _).mono ?_; rintro e w' ⟨rfl, rfl⟩) | (go_at_call 39; refine (implIsCode_any _ _ (by assumption)).mono ?_; rintro e w' ⟨rfl, rfl⟩) | (go_at_call 86; refine (isLotR_any _ _ _).mono ?_; rintro e w' ⟨rfl, rfl⟩))
    go_ret
    exact ⟨ret_bool HF.out.symm, hbx⟩
  cases a1 : isCode x1
  · have HF : Hid (isItem (x0, x1, x2, x3, x4, x5, x6, x7) = false) := by show isItem (x0, x1, x2, x3, x4, x5, x6, x7) = false; simp [isItem, a0, a1]
    go_enter Try.func69, Try.ntmps69
    go_wp2_with (first | (go_at_call 25; refine (in_any _ _ _ _).mono ?_; rintro e w' ⟨rfl, rfl⟩) | (go_at_call 39; refine (implIsCode_any _ _ (by assumption)).mono ?_; rintro e w' ⟨rfl, rfl⟩) | (go_at_call 86; refine (isLotR_any _ _ _).mono ?_; rintro e w' ⟨rfl, rfl⟩))
    go_ret
    exact ⟨ret_bool HF.out.symm, hbx⟩
  cases a2 : inB x2 0 2
  · have HF : Hid (isItem (x0, x1, x2, x3, x4, x5, x6, x7) = false) := by show isItem (x0, x1, x2, x3, x4, x5, x6, x7) = false; simp [isItem, a0, a1, a2]
    go_enter Try.func69, Try.ntmps69
    go_wp2_with (first | (go_at_call 25; refine (in_any _ _ _ _).mono ?_; rintro e w' ⟨rfl, rfl⟩) | (go_at_call 39; refine (implIsCode_any _ _ (by assumption)).mono ?_; rintro e w' ⟨rfl, rfl⟩) | (go_at_call 86; refine (isLotR_any _ _ _).mono ?_; rintro e w' ⟨rfl, rfl⟩))
    go_ret
    exact ⟨ret_bool HF.out.symm, hbx⟩
  cases a3 : inB x3 0 30
  · have HF : Hid (isItem (x0, x1, x2, x3, x4, x5, x6, x7) = false) := by show isItem (x0, x1, x2, x3, x4, x5, x6, x7) = false; simp [isItem, a0, a1, a2, a3]
    go_enter Try.func69, Try.ntmps69
    go_wp2_with (first | (go_at_call 25; refine (in_any _ _ _ _).mono ?_; rintro e w' ⟨rfl, rfl⟩) | (go_at_call 39; refine (implIsCode_any _ _ (by assumption)).mono ?_; rintro e w' ⟨rfl, rfl⟩) | (go_at_call 86; refine (isLotR_any _ _ _).mono ?_; rintro e w' ⟨rfl, rfl⟩))
    go_ret
    exact ⟨ret_bool HF.out.symm, hbx⟩
  cases a6 : inB x6 0 100000
  · have HF : Hid (isItem (x0, x1, x2, x3, x4, x5, x6, x7) = false) := by show isItem (x0, x1, x2, x3, x4, x5, x6, x7) = false; simp [isItem, a0, a1, a2, a3, a6]
    go_enter Try.func69, Try.ntmps69
    go_wp2_with (first | (go_at_call 25; refine (in_any _ _ _ _).mono ?_; rintro e w' ⟨rfl, rfl⟩) | (go_at_call 39; refine (implIsCode_any _ _ (by assumption)).mono ?_; rintro e w' ⟨rfl, rfl⟩) | (go_at_call 86; refine (isLotR_any _ _ _).mono ?_; rintro e w' ⟨rfl, rfl⟩))
    go_ret
    exact ⟨ret_bool HF.out.symm, hbx⟩
  cases a7 : inB x7 0 50
  · have HF : Hid (isItem (x0, x1, x2, x3, x4, x5, x6, x7) = false) := by show isItem (x0, x1, x2, x3, x4, x5, x6, x7) = false; simp [isItem, a0, a1, a2, a3, a6, a7]
    go_enter Try.func69, Try.ntmps69
    go_wp2_with (first | (go_at_call 25; refine (in_any _ _ _ _).mono ?_; rintro e w' ⟨rfl, rfl⟩) | (go_at_call 39; refine (implIsCode_any _ _ (by assumption)).mono ?_; rintro e w' ⟨rfl, rfl⟩) | (go_at_call 86; refine (isLotR_any _ _ _).mono ?_; rintro e w' ⟨rfl, rfl⟩))
    go_ret
    exact ⟨ret_bool HF.out.symm, hbx⟩
  cases a8 : isLotR x4 x5
  · have HF : Hid (isItem (x0, x1, x2, x3, x4, x5, x6, x7) = false) := by show isItem (x0, x1, x2, x3, x4, x5, x6, x7) = false; simp [isItem, a0, a1, a2, a3, a6, a7, a8]
    go_enter Try.func69, Try.ntmps69
    go_wp2_with (first | (go_at_call 25; refine (in_any _ _ _ _).mono ?_; rintro e w' ⟨rfl, rfl⟩) | (go_at_call 39; refine (implIsCode_any _ _ (by assumption)).mono ?_; rintro e w' ⟨rfl, rfl⟩) | (go_at_call 86; refine (isLotR_any _ _ _).mono ?_; rintro e w' ⟨rfl, rfl⟩))
    go_ret
    exact ⟨ret_bool HF.out.symm, hbx⟩
  have HI : Hid (isItem (x0, x1, x2, x3, x4, x5, x6, x7) = decide (x2 = 2 → x3 = 0 ∧ x4 = 0 ∧ x6 = 0 ∧ x7 = 0)) := by show _ = _; simp [isItem, a0, a1, a2, a3, a6, a7, a8]
  by_cases b2 : x2 = 2
  case neg =>
    have k2 : (x2 != 2) = true := by simpa using b2
    have HF : Hid (isItem (x0, x1, x2, x3, x4, x5, x6, x7) = true) := by show _ = _; rw [HI.out, decide_eq_true (fun h => absurd h b2)]
    clear b2
    go_enter Try.func69, Try.ntmps69
    go_wp2_with (first | (go_at_call 25; refine (in_any _ _ _ _).mono ?_; rintro e w' ⟨rfl, rfl⟩) | (go_at_call 39; refine (implIsCode_any _ _ (by assumption)).mono ?_; rintro e w' ⟨rfl, rfl⟩) | (go_at_call 86; refine (isLotR_any _ _ _).mono ?_; rintro e w' ⟨rfl, rfl⟩))
    go_ret
    exact ⟨ret_bool HF.out.symm, hbx⟩
  have k2 : (x2 != 2) = false := by simpa using b2
  by_cases bx3 : x3 = 0
  case neg =>
    have kx3 : (x3 == 0) = false := by simpa using bx3
    have HF : Hid (isItem (x0, x1, x2, x3, x4, x5, x6, x7) = false) := by show _ = _; rw [HI.out, decide_eq_false (fun h => bx3 (h b2).1)]
    clear b2 bx3
    go_enter Try.func69, Try.ntmps69
    go_wp2_with (first | (go_at_call 25; refine (in_any _ _ _ _).mono ?_; rintro e w' ⟨rfl, rfl⟩) | (go_at_call 39; refine (implIsCode_any _ _ (by assumption)).mono ?_; rintro e w' ⟨rfl, rfl⟩) | (go_at_call 86; refine (isLotR_any _ _ _).mono ?_; rintro e w' ⟨rfl, rfl⟩))
    go_ret
    exact ⟨ret_bool HF.out.symm, hbx⟩
  have kx3 : (x3 == 0) = true := by simpa using bx3
  by_cases bx4 : x4 = 0
  case neg =>
    have kx4 : (x4 == 0) = false := by simpa using bx4
    have HF : Hid (isItem (x0, x1, x2, x3, x4, x5, x6, x7) = false) := by show _ = _; rw [HI.out, decide_eq_false (fun h => bx4 (h b2).2.1)]
    clear b2 bx3 bx4
    go_enter Try.func69, Try.ntmps69
    go_wp2_with (first | (go_at_call 25; refine (in_any _ _ _ _).mono ?_; rintro e w' ⟨rfl, rfl⟩) | (go_at_call 39; refine (implIsCode_any _ _ (by assumption)).mono ?_; rintro e w' ⟨rfl, rfl⟩) | (go_at_call 86; refine (isLotR_any _ _ _).mono ?_; rintro e w' ⟨rfl, rfl⟩))
    go_ret
    exact ⟨ret_bool HF.out.symm, hbx⟩
  have kx4 : (x4 == 0) = true := by simpa using bx4
  by_cases bx6 : x6 = 0
  case neg =>
    have kx6 : (x6 == 0) = false := by simpa using bx6
    have HF : Hid (isItem (x0, x1, x2, x3, x4, x5, x6, x7) = false) := by show _ = _; rw [HI.out, decide_eq_false (fun h => bx6 (h b2).2.2.1)]
    clear b2 bx3 bx4 bx6
    go_enter Try.func69, Try.ntmps69
    go_wp2_with (first | (go_at_call 25; refine (in_any _ _ _ _).mono ?_; rintro e w' ⟨rfl, rfl⟩) | (go_at_call 39; refine (implIsCode_any _ _ (by assumption)).mono ?_; rintro e w' ⟨rfl, rfl⟩) | (go_at_call 86; refine (isLotR_any _ _ _).mono ?_; rintro e w' ⟨rfl, rfl⟩))
    go_ret
    exact ⟨ret_bool HF.out.symm, hbx⟩
  have kx6 : (x6 == 0) = true := by simpa using bx6
  by_cases bx7 : x7 = 0
  case neg =>
    have kx7 : (x7 == 0) = false := by simpa using bx7
    have HF : Hid (isItem (x0, x1, x2, x3, x4, x5, x6, x7) = false) := by show _ = _; rw [HI.out, decide_eq_false (fun h => bx7 (h b2).2.2.2)]
    clear b2 bx3 bx4 bx6 bx7
    go_enter Try.func69, Try.ntmps69
    go_wp2_with (first | (go_at_call 25; refine (in_any _ _ _ _).mono ?_; rintro e w' ⟨rfl, rfl⟩) | (go_at_call 39; refine (implIsCode_any _ _ (by assumption)).mono ?_; rintro e w' ⟨rfl, rfl⟩) | (go_at_call 86; refine (isLotR_any _ _ _).mono ?_; rintro e w' ⟨rfl, rfl⟩))
    go_ret
    exact ⟨ret_bool HF.out.symm, hbx⟩
  have kx7 : (x7 == 0) = true := by simpa using bx7
  have HF : Hid (isItem (x0, x1, x2, x3, x4, x5, x6, x7) = true) := by show _ = _; rw [HI.out, decide_eq_true (fun _ => ⟨bx3, bx4, bx6, bx7⟩)]
  clear b2 bx3 bx4 bx6 bx7
  go_enter Try.func69, Try.ntmps69
  go_wp2_with (first | (go_at_call 25; refine (in_any _ _ _ _).mono ?_; rintro e w' ⟨rfl, rfl⟩) | (go_at_call 39; refine (implIsCode_any _ _ (by assumption)).mono ?_; rintro e w' ⟨rfl, rfl⟩) | (go_at_call 86; refine (isLotR_any _ _ _).mono ?_; rintro e w' ⟨rfl, rfl⟩))
  go_ret
  exact ⟨ret_bool HF.out.symm, hbx⟩
end Go.Proofs.Ytlkolehdikfddaa
/- Steps through a region that draws its order, by hand: an operation that only reads is taken in the text's order; one that its guard passes over is passed over. -/
namespace Go.Proofs.Ytlkolehdikfddaa
section
variable {P : Program} {ops : Array Oper} {Q : Exit → Act → World → Prop} {S : World → Prop}
theorem held_on (i : Nat) (dst : Option Tmp) {oi : Oper} {v : Value} {fuel : Nat} {listed : Array Bool} {a : Act} {w : World} (hi : ops[i]? = some oi) (hd : oi.dst = dst) (hs : Region.noSelect ops = true) (hf : Region.free .any ops listed i = true) (hr : (Region.ready .any ops listed).contains i = true)
    (hQ : ∀ c a w, Q (.panic c) (a.put oi.dst v) w → Q (.panic c) a w) (hw : Region.wanted oi (yielded ops a.tmps) = true) (hS : S w) (hy : ∀ w, S w → (execOp a.eval oi).run P w = .ok (.value v) w)
    (h : wpAnyH P .any ops Q S fuel (listed.setIfInBounds i true) (a.put dst v) w) : wpAnyH P .any ops Q S (fuel + 1) listed a w := by
  subst hd
  exact wpAnyH_take hi hs hf hr hQ (.inl ⟨hw, hy⟩) hS h
/-- As held_on, with all that is the same at each step filled in. -/
theorem held1 (i : Nat) (dst : Option Tmp) {oi : Oper} {v : Value} {fuel : Nat} {listed listed' : Array Bool} {a a' : Act} {w : World} (hS : S w) (h : wpAnyH P .any ops Q S fuel listed' a' w)
    (hi : ops[i]? = some oi := by rfl) (hd : oi.dst = dst := by rfl) (hs : Region.noSelect ops = true := by kernel_rfl) (hf : Region.free .any ops listed i = true := by kernel_rfl) (hr : (Region.ready .any ops listed).contains i = true := by kernel_rfl)
    (hQ : ∀ c a w, Q (.panic c) (a.put oi.dst v) w → Q (.panic c) a w := by exact fun _ _ _ h => h) (hw : Region.wanted oi (yielded ops a.tmps) = true := by rfl)
    (hy : ∀ w, S w → (execOp a.eval oi).run P w = .ok (.value v) w := by (intro w hSw; (try dsimp only at hSw); go_simp; (try with_reducible rfl)))
    (hl : listed.setIfInBounds i true = listed' := by first | (simp only [List.setIfInBounds_toArray, List.set_cons_zero, List.set_cons_succ]; rfl) | rfl)
    (ha : a.put dst v = a' := by first | (simp only [Act.put, List.setIfInBounds_toArray, List.set_cons_zero, List.set_cons_succ]; rfl) | rfl) : wpAnyH P .any ops Q S (fuel + 1) listed a w := by
  subst hl ha
  exact held_on i dst hi hd hs hf hr hQ hw hS hy h
theorem held_off (i : Nat) (dst : Option Tmp) {oi : Oper} {fuel : Nat} {listed : Array Bool} {a : Act} {w : World} (hi : ops[i]? = some oi) (hd : oi.dst = dst) (hs : Region.noSelect ops = true) (hf : Region.free .any ops listed i = true) (hr : (Region.ready .any ops listed).contains i = true)
    (hQ : ∀ c a w, Q (.panic c) (a.put oi.dst undef) w → Q (.panic c) a w) (hw : Region.wanted oi (yielded ops a.tmps) = false) (hS : S w)
    (h : wpAnyH P .any ops Q S fuel (listed.setIfInBounds i true) (a.put dst undef) w) : wpAnyH P .any ops Q S (fuel + 1) listed a w := by
  subst hd
  exact wpAnyH_take hi hs hf hr hQ (.inr ⟨hw, rfl⟩) hS h
/-- As held_off, with all that is the same at each step filled in. -/
theorem held0 (i : Nat) (dst : Option Tmp) {oi : Oper} {fuel : Nat} {listed listed' : Array Bool} {a a' : Act} {w : World} (hS : S w) (h : wpAnyH P .any ops Q S fuel listed' a' w)
    (hi : ops[i]? = some oi := by rfl) (hd : oi.dst = dst := by rfl) (hs : Region.noSelect ops = true := by kernel_rfl) (hf : Region.free .any ops listed i = true := by kernel_rfl) (hr : (Region.ready .any ops listed).contains i = true := by kernel_rfl)
    (hQ : ∀ c a w, Q (.panic c) (a.put oi.dst undef) w → Q (.panic c) a w := by exact fun _ _ _ h => h) (hw : Region.wanted oi (yielded ops a.tmps) = false := by rfl)
    (hl : listed.setIfInBounds i true = listed' := by first | (simp only [List.setIfInBounds_toArray, List.set_cons_zero, List.set_cons_succ]; rfl) | rfl)
    (ha : a.put dst undef = a' := by first | (simp only [Act.put, List.setIfInBounds_toArray, List.set_cons_zero, List.set_cons_succ]; rfl) | rfl) : wpAnyH P .any ops Q S (fuel + 1) listed a w := by
  subst hl ha
  exact held_off i dst hi hd hs hf hr hQ hw hS h
/-- The one operation that is ready, whatever it does. -/
theorem held_do (i : Nat) {o : Oper} {fuel : Nat} {listed : Array Bool} {a : Act} {w : World}
    (h : ∀ K' : Act → World → Prop, Shut (∀ a w, S w → (S w → wpAnyH P .any ops Q S fuel (listed.setIfInBounds i true) a w) → K' a w) → if Region.wanted o (yielded ops a.tmps) = true then Oper.wp P o a w K' Q else K' (a.put o.dst undef) w)
    (ho : ops[i]? = some o := by rfl) (hr : Region.ready .any ops listed = [i] := by kernel_rfl) : wpAnyH P .any ops Q S (fuel + 1) listed a w :=
  wpAnyH_ready hr (by simp) (AllReadyH.cons ho h AllReadyH.nil)
end
end Go.Proofs.Ytlkolehdikfddaa
