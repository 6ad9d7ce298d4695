/- Part 6 of the texts of this claim: Plain law of calendars: hours of a day. No program in sight; Exception: its cells, and the walks of the laws' own helpers on lists of it; Rows of numbers of the call's own: made whole, read, written one by one; More on rows of the call's own: endings that hand them back, rows of numbers that grow; The walks of IsCalendar and of what reckons with calendars; The walks of the small functions on needs of periods; The walks of the laws' own helpers on calendars; Boxes in memory. -/
import Derived.Test.YtpbibkjcjgggdaaIt1
import Derived.StillTailTactics
import Derived.OwnWalk
import Derived.Test.YtpbibkjcjgggdaaIt3
import Derived.Maps.AppendAt
import Derived.Deep.DeepMust
import Derived.Test.YtpbibkjcjgggdaaIt5
/- Plain law of calendars: hours of a day. No program in sight. -/
namespace Go.Proofs.Ytpbibkjcjgggdaa
def exNone : Int × Int := (0, 0)
def okEx (ex : List (Int × Int)) (k : Nat) : Bool :=
  inB (ex.getD k exNone).1 0 999 && (inB (ex.getD k exNone).2 0 24 && (decide (k = 0) || decide ((ex.getD (k - 1) exNone).1 < (ex.getD k exNone).1)))
def isCal (wk : List Int) (ex : List (Int × Int)) : Bool :=
  decide (wk.length = 7) && (decide (ex.length ≤ 20) && (wk.all (inB · 0 24) && (List.range ex.length).all (okEx ex)))
theorem ex_getD (l : List (Int × Int)) (k : Nat) (h : k < l.length) : l.getD k exNone = l[k] := by
  rw [List.getD_eq_getElem?_getD, List.getElem?_eq_getElem h]; rfl
theorem isCal_wk {wk : List Int} {ex : List (Int × Int)} {k : Nat} (hk : k < wk.length) (h : inB wk[k] 0 24 = false) : isCal wk ex = false := by
  have : wk.all (inB · 0 24) = false := by rw [List.all_eq_false]; exact ⟨_, List.getElem_mem hk, by simp [h]⟩
  simp [isCal, this]
theorem isCal_ex {wk : List Int} {ex : List (Int × Int)} {k : Nat} (hk : k < ex.length) (h : okEx ex k = false) : isCal wk ex = false := by
  have : (List.range ex.length).all (okEx ex) = false := by rw [List.all_eq_false]; exact ⟨k, by simpa using hk, by simp [h]⟩
  simp [isCal, this]
theorem isCal_yes {wk : List Int} {ex : List (Int × Int)} (h7 : wk.length = 7) (h20 : ex.length ≤ 20) (hw : wk.all (inB · 0 24) = true) (he : ∀ j < ex.length, okEx ex j = true) : isCal wk ex = true := by
  have : (List.range ex.length).all (okEx ex) = true := by rw [List.all_eq_true]; intro x hx; exact he x (by simpa using hx)
  simp [isCal, this, h7, h20, hw]
theorem isCal_no7 {wk : List Int} {ex : List (Int × Int)} (h : ¬ wk.length = 7) : isCal wk ex = false := by simp [isCal, h]
theorem isCal_no20 {wk : List Int} {ex : List (Int × Int)} (h : ¬ ex.length ≤ 20) : isCal wk ex = false := by
  have : decide (ex.length ≤ 20) = false := by simpa using h
  simp [isCal, this]
theorem isCal_parts {wk : List Int} {ex : List (Int × Int)} (h : isCal wk ex = true) : wk.length = 7 ∧ ex.length ≤ 20 ∧ (∀ x ∈ wk, 0 ≤ x ∧ x ≤ 24) ∧ (∀ k, k < ex.length → 0 ≤ (ex.getD k exNone).1 ∧ (ex.getD k exNone).1 ≤ 999 ∧ 0 ≤ (ex.getD k exNone).2 ∧ (ex.getD k exNone).2 ≤ 24 ∧ (0 < k → (ex.getD (k - 1) exNone).1 < (ex.getD k exNone).1)) := by
  simp only [isCal, Bool.and_eq_true, decide_eq_true_eq, List.all_eq_true, List.mem_range, okEx, Bool.or_eq_true, inB_iff] at h
  obtain ⟨h1, h2, h3, h4⟩ := h
  refine ⟨h1, h2, h3, fun k hk => ?_⟩
  obtain ⟨⟨a1, a2⟩, ⟨a3, a4⟩, a5⟩ := h4 k hk
  exact ⟨a1, a2, a3, a4, fun h0 => by rcases a5 with h | h <;> omega⟩
/-- The hours of a day with the first k exceptions. -/
def hoursTo (wk : List Int) (ex : List (Int × Int)) (day : Nat) : Nat → Int
  | 0 => wk.getD (day % 7) 0
  | k + 1 => if (ex.getD k exNone).1 = day then (ex.getD k exNone).2 else hoursTo wk ex day k
theorem ex_lt {wk : List Int} {ex : List (Int × Int)} (h : isCal wk ex = true) (a b : Nat) (hab : a < b) (hb : b < ex.length) : (ex.getD a exNone).1 < (ex.getD b exNone).1 := by
  have hp := (isCal_parts h).2.2.2
  induction b with
  | zero => omega
  | succ b ih =>
    have h1 := (hp (b + 1) hb).2.2.2.2 (by omega)
    rw [Nat.add_sub_cancel] at h1
    rcases Nat.lt_or_ge a b with h2 | h2
    · have := ih h2 (by omega); omega
    · obtain rfl : a = b := by omega
      exact h1
/-- The first exception of a day is its last one. -/
theorem hoursTo_hit {wk : List Int} {ex : List (Int × Int)} (h : isCal wk ex = true) (day k : Nat) (hk : k < ex.length) (hd : (ex.getD k exNone).1 = day) : hoursTo wk ex day ex.length = (ex.getD k exNone).2 := by
  have key : ∀ m, m ≤ ex.length → k < m → hoursTo wk ex day m = (ex.getD k exNone).2 := by
    intro m
    induction m with
    | zero => omega
    | succ m ih =>
      intro hm hkm
      simp only [hoursTo]
      rcases Nat.lt_or_ge k m with h1 | h1
      · have := ex_lt h k m h1 (by omega)
        rw [if_neg (by omega)]; exact ih (by omega) h1
      · obtain rfl : k = m := by omega
        rw [if_pos hd]
  exact key _ (Nat.le_refl _) hk
theorem hoursTo_miss (wk : List Int) (ex : List (Int × Int)) (day k : Nat) (h : ∀ j < k, (ex.getD j exNone).1 ≠ day) : hoursTo wk ex day k = wk.getD (day % 7) 0 := by
  induction k with
  | zero => rfl
  | succ k ih => simp only [hoursTo]; rw [if_neg (h k (by omega))]; exact ih (fun j hj => h j (by omega))
theorem hoursTo_bd {wk : List Int} {ex : List (Int × Int)} (h : isCal wk ex = true) (day k : Nat) (hk : k ≤ ex.length) : 0 ≤ hoursTo wk ex day k ∧ hoursTo wk ex day k ≤ 24 := by
  obtain ⟨h7, _, hw, he⟩ := isCal_parts h
  induction k with
  | zero =>
    have hlt : day % 7 < wk.length := by omega
    simp only [hoursTo]
    rw [List.getD_eq_getElem?_getD, List.getElem?_eq_getElem hlt]
    exact hw _ (List.getElem_mem hlt)
  | succ k ih =>
    simp only [hoursTo]
    split
    · have := he k (by omega); omega
    · exact ih (by omega)
def hoursOn (wk : List Int) (ex : List (Int × Int)) (day : Int) : Int := if isCal wk ex && inB day 0 999 then hoursTo wk ex day.toNat ex.length else 0
theorem hoursOn_no {wk : List Int} {ex : List (Int × Int)} {day : Int} (h : (isCal wk ex && inB day 0 999) = false) : hoursOn wk ex day = 0 := by simp [hoursOn, h]
theorem hoursOn_yes {wk : List Int} {ex : List (Int × Int)} {day : Int} (h : isCal wk ex = true) (h2 : inB day 0 999 = true) : hoursOn wk ex day = hoursTo wk ex day.toNat ex.length := by simp [hoursOn, h, h2]
theorem hoursOn_bd (wk : List Int) (ex : List (Int × Int)) (day : Int) : 0 ≤ hoursOn wk ex day ∧ hoursOn wk ex day ≤ 24 := by
  unfold hoursOn
  cases h : isCal wk ex
  · simp
  · split
    · exact hoursTo_bd h _ _ (Nat.le_refl _)
    · omega
def minutesOn (wk : List Int) (ex : List (Int × Int)) (m day : Int) : Int := if inB m 0 20 then hoursOn wk ex day * 60 * m else 0
/-- The row of the hours of all days, with the first k exceptions. -/
def hoursRow (wk : List Int) (ex : List (Int × Int)) (k : Nat) : List Int := (List.range 1000).map fun d => hoursTo wk ex d k
theorem hoursRow_len (wk : List Int) (ex : List (Int × Int)) (k : Nat) : (hoursRow wk ex k).length = 1000 := by simp [hoursRow]
theorem hoursRow_at (wk : List Int) (ex : List (Int × Int)) (k d : Nat) (hd : d < 1000) : (hoursRow wk ex k).getD d 0 = hoursTo wk ex d k := by
  unfold hoursRow
  rw [List.getD_eq_getElem?_getD, List.getElem?_map, List.getElem?_range hd]; rfl
theorem hoursRow_next (wk : List Int) (ex : List (Int × Int)) (k e : Nat) (he : (ex.getD k exNone).1 = e) (h1000 : e < 1000) : (hoursRow wk ex k).set e (ex.getD k exNone).2 = hoursRow wk ex (k + 1) := by
  apply List.ext_getElem
  · simp [hoursRow]
  · intro i h1 h2
    rw [List.getElem_set]
    simp only [hoursRow, List.getElem_map, List.getElem_range, hoursTo]
    by_cases hi : e = i
    · subst hi
      rw [if_pos rfl, if_pos he]
    · rw [if_neg hi, if_neg (by omega)]
/-- The row of the week's hours while the first d days are written. -/
def weekRow (wk : List Int) (d : Nat) : List Int := (List.range 1000).map fun j => if j < d then wk.getD (j % 7) 0 else 0
theorem weekRow_zero (wk : List Int) : weekRow wk 0 = List.replicate 1000 0 := by
  have : List.replicate 1000 (0 : Int) = (List.range 1000).map (fun _ => 0) := by rw [List.map_const', List.length_range]
  rw [this]
  unfold weekRow
  refine List.map_congr_left fun j hj => ?_
  rw [if_neg (by omega)]
theorem weekRow_all (wk : List Int) (ex : List (Int × Int)) : weekRow wk 1000 = hoursRow wk ex 0 := by
  unfold weekRow hoursRow
  refine List.map_congr_left fun j hj => ?_
  have h1 : j < 1000 := List.mem_range.1 hj
  simp only [hoursTo]; rw [if_pos h1]
theorem weekRow_len (wk : List Int) (d : Nat) : (weekRow wk d).length = 1000 := by simp [weekRow]
theorem weekRow_next (wk : List Int) (d : Nat) (hd : d < 1000) : (weekRow wk d).set d (wk.getD (d % 7) 0) = weekRow wk (d + 1) := by
  apply List.ext_getElem
  · simp [weekRow]
  · intro i h1 h2
    rw [List.getElem_set]
    simp only [weekRow, List.getElem_map, List.getElem_range]
    by_cases hi : d = i
    · subst hi
      rw [if_pos rfl, if_pos (by omega)]
    · rw [if_neg hi]
      by_cases h : i < d
      · rw [if_pos h, if_pos (by omega)]
      · rw [if_neg h, if_neg (by omega)]
end Go.Proofs.Ytpbibkjcjgggdaa
/- Exception: its cells, and the walks of the laws' own helpers on lists of it. -/
namespace Go.Proofs.Ytpbibkjcjgggdaa
open Go.RowKit

abbrev Ex := Int × Int
def exF : Flat Ex := ⟨fun f => [.int .i64 (f.1), .int .i64 (f.2)], 2, fun _ => rfl⟩
abbrev ExsIn (w : World) (A : Option Addr) (n : Nat) (l : List Ex) : Prop := RowsIn exF w A n l
theorem exc_at {w : World} {A : Option Addr} {n : Nat} {l : List Ex} (h : ExsIn w A n l) {k : Nat} (hk : k < l.length) :
    ∃ b o, A = some ⟨b, o, none⟩ ∧ b < w.heap.size ∧ w.cell? ⟨b, o + k * 2, none⟩ = some (.int .i64 (l[k].1)) ∧ w.cell? ⟨b, o + k * 2 + 1, none⟩ = some (.int .i64 (l[k].2)) := by
  obtain ⟨b, o, e, hlt, hc⟩ := h.at_ hk
  exact ⟨b, o, e, hlt, hc 0 _ rfl, hc 1 _ rfl⟩
theorem excInfo : (Try.prog.info? 93).map (fun i => (i.zero, i.size, i.bytes)) = some (some (.agg #[.int .i64 0, .int .i64 0]), 2, 16) := by kernel_rfl
theorem excElem : ElemOk exF 27 93 := by
  obtain ⟨i, h1, h2, h3, h4⟩ := info_parts excInfo
  exact ⟨i, _, 16, Try.underlying27, h1, h2, h3, h4, rfl, by decide, by omega⟩
end Go.Proofs.Ytpbibkjcjgggdaa
/- Rows of numbers of the call's own: made whole, read, written one by one. -/
namespace Go.Proofs.Ytpbibkjcjgggdaa
open Go.RowKit

/-- The row of numbers in block g. -/
def NumRow (w : World) (lo g n c : Nat) (l : List Int) : Prop := n = l.length ∧ w.ownsRow lo 3 1 (.slice (some ⟨g, 0, none⟩) n c) n (ints l)
section
variable {w w' : World} {lo g n c : Nat} {l : List Int}
theorem NumRow.cell (h : NumRow w lo g n c l) {j : Nat} (hj : j < l.length) : w.cell? ⟨g, j, none⟩ = some (.int .i64 l[j]) := by
  rw [h.2.cellAt j (by have := h.1; omega)]; simp [hj]
theorem NumRow.frozen (h : NumRow w lo g n c l) (j : Nat) : w.frozen? ⟨g, j, none⟩ = false := h.2.frozenAt j
theorem NumRow.set (h : NumRow w lo g n c l) (j : Nat) (x : Int) : NumRow (w.setCell ⟨g, j, none⟩ (.int .i64 x)) lo g n c (l.set j x) :=
  ⟨by simp [h.1], by rw [ints, List.map_set]; exact (h.2.stored j (.int .i64 x)).1⟩
theorem NumRow.far (h : NumRow w lo g n c l) {p : Addr} {v : Value} (hp : p.block ≠ g) : NumRow (w.setCell p v) lo g n c l := by
  refine ⟨h.1, ?_⟩
  refine h.2.kept (row := some p.block) ⟨rfl, rfl, rfl, by simp, fun k _ hk => heap_setCell_other w p k v (fun e => hk (by simp [e]))⟩ (.inr ?_)
  simp [Value.ownBlock]; exact fun h => hp h.symm
theorem NumRow.keep (h : NumRow w lo g n c l) (hb : Below w.heap.size w w') : NumRow w' lo g n c l := ⟨h.1, own_keep h.2 hb⟩
theorem NumRow.drew (h : NumRow w lo g n c l) : NumRow w.drew lo g n c l := h
theorem NumRow.drewN (h : NumRow w lo g n c l) (k : Nat) : NumRow (w.drewN k) lo g n c l := h.keep (below_drewN (Below.refl _ _) _)
theorem NumRow.lt (h : NumRow w lo g n c l) : lo ≤ g ∧ g < w.heap.size := own_lt h.2 _ rfl
theorem NumRow.len (h : NumRow w lo g n c l) : l.length = n := h.1.symm
theorem NumRow.ints (h : NumRow w lo g n c l) (hn : l.length ≤ 16777216) : IntsIn w (some ⟨g, 0, none⟩) n l := ⟨h.1, Sl.of_own h.2 (by have := h.1; omega)⟩
end
theorem below_in {w w1 : World} {b o : Nat} {v : Value} (hb : Below w.heap.size w w1) (h : b < w.heap.size) (hc : w.cell? ⟨b, o, none⟩ = some v) : w1.cell? ⟨b, o, none⟩ = some v := (hb.cell (p := ⟨b, o, none⟩) h).trans hc
theorem cell_far {w : World} {g i b j : Nat} {v : Value} (h : g ≠ b) : (w.setCell ⟨g, i, none⟩ v).cell? ⟨b, j, none⟩ = w.cell? ⟨b, j, none⟩ :=
  World.cell?_setCell_other _ _ _ _ (by intro e; injection e; contradiction)
theorem numRow_made {w : World} {lo g n : Nat} (h : w.ownsRow lo 3 1 (.slice (some ⟨g, 0, none⟩) n n) n (madeCells (Value.int .i64 0).cells (n * 1)).toList) : NumRow w lo g n n (List.replicate n 0) := by
  refine ⟨by simp, ?_⟩
  have e : (madeCells (Value.int .i64 0).cells (n * 1)).toList = ints (List.replicate n 0) := by
    rw [show (Value.int .i64 0).cells = #[.int .i64 0] by rfl, toList_madeCells_one, Nat.mul_one, ints, List.map_replicate]
  rw [← e]; exact h
theorem wpList_make_nums {w : World} {ops : Array Oper} {rest : List Oper} {o : Oper} {a : Act} {Q : Exit → Act → World → Prop}
    (hg : o.guard = none) (l c : Operand) (hop : o.op = Op.makeSlice 26 l c) (base : Nat) {kl kc : IntKind} {L C : Int} (n : Nat) (hl : a.eval l = .int kl L) (hc : a.eval c = .int kc C) (hL : L = (n : Int)) (hC : C = (n : Int)) (hn : n ≤ 16777216) (b4 : base ≤ w.heap.size)
    (hK : ∀ w', NumRow w' base w.heap.size n n (List.replicate n 0) → Below w.heap.size w w' → w.heap.size < w'.heap.size → wpList Try.prog ops Q rest (a.put o.dst (.slice (some ⟨w.heap.size, 0, none⟩) n n)) w') :
    wpList Try.prog ops Q (o :: rest) a w := by
  obtain ⟨i0, hi0, hz0, hz1, hz2⟩ := info_parts intInfo
  refine wpList_make_full _ hg l c _ hop base 3 i0 _ 1 Try.underlying26 hi0 hz0 hz1 kl kc L C n hl hc hL hC (by rw [hz2]; omega) (by unfold maxLen; omega) b4 ?_
  intro w' h1 h2
  exact hK w' (numRow_made h1) (below_none h2) (own_lt (numRow_made h1).2 _ rfl).2
end Go.Proofs.Ytpbibkjcjgggdaa
/- More on rows of the call's own: endings that hand them back, rows of numbers that grow. -/
namespace Go.Proofs.Ytpbibkjcjgggdaa
open Go.RowKit
/-- The ending of a call that hands back a row of flat structs. -/
def OneRowOf {α : Type} (F : Flat α) (t : TypeId) (w : World) (val : List α) (e : Ending) (w' : World) : Prop :=
  ∃ A c, e = .returned (.slice A val.length c) ∧ OwnRows F t w' w.heap.size A val.length c val ∧ Below w.heap.size w w'
theorem oneRowOf_mk {α : Type} {F : Flat α} {t : TypeId} {w w' : World} {val : List α} {v : Value} (h : RowVal F t w' w.heap.size v val) (hb : Below w.heap.size w w') : OneRowOf F t w val (.returned v) w' := by
  obtain ⟨A, c, rfl, ho⟩ := h.form
  exact ⟨A, c, rfl, ho, hb⟩
/-- The ending of a call that hands back such a row and a Bool. -/
def PairRowsOf {α : Type} (F : Flat α) (t : TypeId) (w : World) (val : List α × Bool) (e : Ending) (w' : World) : Prop :=
  ∃ A c, e = .returned (.tuple #[.slice A val.1.length c, .bool val.2]) ∧ OwnRows F t w' w.heap.size A val.1.length c val.1 ∧ Below w.heap.size w w'
theorem pairRowsOf_mk {α : Type} {F : Flat α} {t : TypeId} {w w' : World} {val : List α × Bool} {v : Value} {l : List α} {b : Bool} (hv : val = (l, b)) (h : RowVal F t w' w.heap.size v l) (hb : Below w.heap.size w w') : PairRowsOf F t w val (.returned (.tuple #[v, .bool b])) w' := by
  obtain ⟨A, c, rfl, ho⟩ := h.form
  subst hv
  exact ⟨A, c, rfl, ho, hb⟩
theorem rowOf_some {α : Type} {F : Flat α} {t : TypeId} {w : World} {lo n c : Nat} {A : Option Addr} {l : List α} (h : OwnRows F t w lo A n c l) (hn : 0 < n) : ∃ g, A = some ⟨g, 0, none⟩ := by
  rcases h.2.2 with ⟨hv, h0⟩ | ⟨g, cap, cur, hv, _⟩
  · omega
  · exact ⟨g, by injection hv⟩
theorem own_keepB {w w' : World} {lo B g : Nat} {e : TypeId} {sz n m c : Nat} {xs : List Value} (h : w.ownsRow lo e sz (.slice (some ⟨g, 0, none⟩) m c) n xs) (hb : Below B w w') (hg : g < B) : w'.ownsRow lo e sz (.slice (some ⟨g, 0, none⟩) m c) n xs := by
  refine ⟨h.1, ?_⟩
  rcases h.2 with h0 | ⟨g2, cap, cur, hv, hlo, hg2, hr⟩
  · exact .inl h0
  · refine .inr ⟨g2, cap, cur, hv, hlo, ?_, hr⟩
    have hA : g = g2 := by injection hv with h1; injection h1 with h1; injection h1
    rw [hb.block g2 (by omega)]; exact hg2
theorem NumRow.keepB {w w' : World} {lo B g n c : Nat} {l : List Int} (h : NumRow w lo g n c l) (hb : Below B w w') (hg : g < B) : NumRow w' lo g n c l := ⟨h.1, own_keepB h.2 hb hg⟩
theorem RowVal.far {α : Type} {F : Flat α} {t : TypeId} {w : World} {lo : Nat} {v : Value} {l : List α} (h : RowVal F t w lo v l) {p : Addr} (hp : p.block < lo) (x : Value) : RowVal F t (w.setCell p x) lo v l := by
  refine World.ownsRow.kept h (row := some p.block) ⟨rfl, rfl, rfl, by simp, fun k _ hk => heap_setCell_other w p k x (fun e => hk (by simp [e]))⟩ (.inr ?_)
  intro he
  have := own_block h _ he
  omega
/-- Numbers as flat structs of one cell. -/
def intF : Flat Int := ⟨fun x => [.int .i64 x], 1, fun _ => rfl⟩
theorem intF_flat (l : List Int) : l.flatMap intF.enc = ints l := by
  induction l with
  | nil => rfl
  | cons a l ih => rw [List.flatMap_cons, ih]; rfl
theorem intOne : ∀ (a : Int), ∀ u ∈ intF.enc a, u.oneCell' = true := by
  intro a u hu
  simp [intF] at hu
  subst hu; rfl
theorem intElem : ElemOk intF 26 3 := by
  obtain ⟨i, h1, h2, h3, h4⟩ := info_parts intInfo
  exact ⟨i, _, 8, Try.underlying26, h1, h2, h3, h4, rfl, by decide, by omega⟩
theorem NumRow.of_own {w : World} {lo g n c : Nat} {l : List Int} (h : OwnRows intF 3 w lo (some ⟨g, 0, none⟩) n c l) : NumRow w lo g n c l := ⟨h.1, by have := h.2; rw [intF_flat] at this; exact this⟩
theorem NumRow.own {w : World} {lo g n c : Nat} {l : List Int} (h : NumRow w lo g n c l) : RowVal intF 3 w lo (.slice (some ⟨g, 0, none⟩) n c) l := by
  obtain ⟨rfl, h⟩ := h
  unfold RowVal
  rw [intF_flat]; exact h
theorem NumRow.lower {w : World} {lo lo' g n c : Nat} {l : List Int} (h : NumRow w lo g n c l) (hl : lo' ≤ lo) : NumRow w lo' g n c l := ⟨h.1, own_lower h.2 hl⟩
theorem numRow_empty {w : World} {lo H : Nat} (hH : w.heap.size = H) (h : lo ≤ w.heap.size) : NumRow (w.alloc (.cells #[] 3)) lo H 0 0 [] := by
  subst hH
  exact ⟨rfl, empty_own w lo 3 1 h⟩
/-- out = append(out, x) on a row of numbers. -/
theorem wpList_append_num {w1 : World} {ops : Array Oper} {rest : List Oper} {o : Oper} {a : Act} {Q : Exit → Act → World → Prop} (hgd : o.guard = none) (s x : Operand)
    (ho : o.op = .call { callee := .builtin .append, args := #[s, x], argTypes := #[26, 26] }) {lo g n c : Nat} {l : List Int} (hs : a.eval s = .slice (some ⟨g, 0, none⟩) n c) (hrow : NumRow w1 lo g n c l) (hlen : l.length ≤ 16777216)
    (y : Int) (H cx : Nat) (hH : w1.heap.size = H) (hx : a.eval x = .slice (some ⟨H, 0, none⟩) 1 cx) (hlo : lo ≤ w1.heap.size)
    (h : ∀ g' c' w', NumRow w' lo g' (n + 1) c' (l ++ [y]) → (∀ B, B ≤ lo → B ≤ w1.heap.size → Below B w1 w') → w1.heap.size < w'.heap.size → wpList Try.prog ops Q rest (a.put o.dst (.slice (some ⟨g', 0, none⟩) (n + 1) c')) w') :
    wpList Try.prog ops Q (o :: rest) a (w1.alloc (.cells #[.int .i64 y] 3)) := by
  refine wpList_append_one intElem hgd s x ho hs hrow.own hlen y #[.int .i64 y] rfl (by simp [Value.oneCell']) H cx hH hx hlo (fun v' w' h1 h2 h3 => ?_)
  obtain ⟨A, c', hv, ho'⟩ := h1.form
  obtain ⟨g', rfl⟩ := rowOf_some ho' (by simp)
  have e : (l ++ [y]).length = n + 1 := by rw [List.length_append, hrow.1]; rfl
  rw [e] at ho' hv
  subst hv
  exact h g' c' w' (NumRow.of_own ho') h2 h3
section
variable {α : Type} {F : Flat α} {t e : TypeId}
/-- out = append(out, x), with what became of all other blocks, and where the row lies now. -/
theorem wpList_append_at (hE : ElemOk F t e) {w1 : World} {ops : Array Oper} {rest : List Oper} {o : Oper} {a : Act} {Q : Exit → Act → World → Prop} (hgd : o.guard = none) (s x : Operand)
    (ho : o.op = .call { callee := .builtin .append, args := #[s, x], argTypes := #[t, t] }) {lo : Nat} {v : Value} {l : List α} (hs : a.eval s = v) (hrow : RowVal F e w1 lo v l) (hlen : l.length ≤ 16777216)
    (y : α) (cs : Array Value) (hcs : cs.toList = F.enc y) (hone : ∀ u ∈ cs.toList, u.oneCell' = true) (H c : Nat) (hH : w1.heap.size = H) (hx : a.eval x = .slice (some ⟨H, 0, none⟩) 1 c) (hlo : lo ≤ w1.heap.size)
    (h : ∀ v' w', RowVal F e w' lo v' (l ++ [y]) → (∀ B, B ≤ lo → B ≤ w1.heap.size → Below B w1 w') → w1.heap.size < w'.heap.size → (∀ p : Addr, p.block < w1.heap.size → v.ownBlock ≠ some p.block → w'.cell? p = w1.cell? p) → (∀ g, g < w1.heap.size → v.ownBlock ≠ some g → v'.ownBlock ≠ some g) → wpList Try.prog ops Q rest (a.put o.dst v') w') :
    wpList Try.prog ops Q (o :: rest) a (w1.alloc (.cells cs e)) := by
  obtain ⟨i, z, bytes, ht, hi, hz, hsz, hby, hzs, hpos, hbb⟩ := hE
  have hb2 : (l.length + 1) * bytes ≤ 140737488355328 := Nat.le_trans (Nat.mul_le_mul (show l.length + 1 ≤ 16777217 by omega) hbb) (by omega)
  refine wpList_append_own_at _ hgd s x t ho lo e i z F.sz bytes ht hi hz hsz hby hzs hpos v l.length (l.flatMap F.enc) hs (hrow.alloc _) ⟨H, 0, none⟩ 1 c cs.toList hx (by rw [hcs, F.len, Nat.one_mul]) (news_at hH cs e) hone (by unfold maxLen; omega) hb2 (by simp; omega) (fun v' w' h2 h3 _ h5 => h v' w' (RowVal.snoc hcs h2) (fun B hB hB2 => ?_) ?_ (fun p hp hne => ?_) (fun g hg hne => ?_))
  · refine ((Below.refl B w1).alloc hB2 _).trans (below_grown h3 (by simp; omega) (fun g hg => Nat.le_trans hB (own_block hrow g hg)))
  · have := h3.size; simp at this; omega
  · rw [World.cell?_of_block (h3.block p.block (by simp; omega) (Ne.symm hne)), World.cell?_alloc_lt w1 _ p hp]
  · rcases h5 with h5 | h5
    · rw [h5]; exact hne
    · rw [h5]; simp; omega
end
end Go.Proofs.Ytpbibkjcjgggdaa
/- The walks of IsCalendar and of what reckons with calendars. -/
namespace Go.Proofs.Ytpbibkjcjgggdaa
open Go.RowKit
theorem okEx_of {ex : List (Int × Int)} {k : Nat} (hk : k < ex.length) : okEx ex k = (inB ex[k].1 0 999 && (inB ex[k].2 0 24 && (decide (k = 0) || decide ((ex.getD (k - 1) exNone).1 < ex[k].1)))) := by
  unfold okEx; rw [ex_getD _ _ hk]

set_option maxRecDepth 100000 in
set_option maxHeartbeats 4000000 in
theorem specIsCalendar_any (A B : Option Addr) (n m c d : Nat) (wk : List Int) (ex : List Ex) (w : World) (ha : IntsIn w A n wk) (hb : ExsIn w B m ex) :
    Calls Try.prog 36 #[.agg #[.slice A n c, .slice B m d]] w fun e w' => e = .returned (.bool (isCal wk ex)) ∧ Below w.heap.size w w' := by
  have hn := ha.len
  have hm := hb.len
  obtain rfl := ha.1
  obtain rfl := hb.1
  have hbox := below_alloc w (.cells #[.slice A wk.length c, .slice B ex.length d] 29)
  have hs1 : w.heap.size < (w.alloc (.cells #[.slice A wk.length c, .slice B ex.length d] 29)).heap.size := by simp
  have g0 : (w.alloc (.cells #[.slice A wk.length c, .slice B ex.length d] 29)).cell? ⟨w.heap.size, 0, none⟩ = some (.slice A wk.length c) := by simp [go_sem]
  have g1 : (w.alloc (.cells #[.slice A wk.length c, .slice B ex.length d] 29)).cell? ⟨w.heap.size, 1, none⟩ = some (.slice B ex.length d) := by simp [go_sem]
  by_cases h7 : wk.length = 7
  case neg =>
    have h7b : ((wk.length : Int) != 7) = true := by rw [bne_iff_ne]; omega
    have HN := Lib.hid h7; clear h7 g0 g1
    go_enter Try.func36, Try.ntmps36
    go_wp2
    go_ret
    exact ⟨ret_bool (isCal_no7 HN.out).symm, hbox⟩
  have h7b : ((wk.length : Int) != 7) = false := by rw [bne_eq_false_iff_eq]; omega
  have h7l : wk.length ≤ 7 := by omega
  have h7g : 7 ≤ wk.length := by omega
  have H7 := Lib.hid h7; clear h7
  by_cases h20 : ex.length ≤ 20
  case neg =>
    have h20b : ¬ (ex.length : Int) ≤ 20 := by omega
    have HN := Lib.hid h20; clear h20 g0 g1
    go_enter Try.func36, Try.ntmps36
    go_wp2
    go_ret
    exact ⟨ret_bool (isCal_no20 HN.out).symm, hbox⟩
  go_enter Try.func36, Try.ntmps36
  go_wp2_with fail
  clear h7b
  generalize w.alloc (.cells #[.slice A wk.length c, .slice B ex.length d] 29) = w1 at *
  replace ha := ha.keep hbox
  replace hb := hb.keep hbox
  go_loop [3] (fun i => ∃ k : Nat, k ≤ 7 ∧ i = .int .i64 k ∧ (wk.take k).all (inB · 0 24) = true) (fun i => wk.length - (intOf i).toNat)
  case atStart => exact ⟨0, by omega, rfl, rfl⟩
  case round =>
    obtain ⟨k, hk, rfl, hall⟩ := hrel
    have HA := Lib.hid hall; clear hall
    by_cases hlt : k < wk.length
    · obtain ⟨b, o, rfl, _, hcell⟩ := ha.at_ hlt
      cases hin : inB wk[k] 0 24
      · go_wp2_with (go_at_call 35; refine (l1In_any _ _ _ _).mono ?_; rintro e w' ⟨rfl, rfl⟩)
        go_ret
        exact ⟨ret_bool (isCal_wk hlt hin).symm, hbox⟩
      · go_wp2_with (go_at_call 35; refine (l1In_any _ _ _ _).mono ?_; rintro e w' ⟨rfl, rfl⟩)
        go_round
        case rel => exact ⟨k + 1, by omega, by go_num, by rw [all_take wk _ k hlt, HA.out, hin]; rfl⟩
        case measure => simp [intOf]; omega
    · obtain rfl : k = wk.length := by omega
      have HW : Hid (wk.all (inB · 0 24) = true) := by
        have := HA.out
        rw [List.take_length] at this; exact this
      clear HA
      go_wp2_with fail
      go_loopw [4] (fun i wr => ∃ k : Nat, k ≤ ex.length ∧ i = .int .i64 k ∧ Hid (∀ j < k, okEx ex j = true) ∧ Below w1.heap.size w1 wr) (fun i _ => ex.length - (intOf i).toNat)
      case atStart => exact ⟨0, by omega, rfl, fun j h => absurd h (by omega), Below.refl _ _⟩
      case round =>
        clear hlt hk
        obtain ⟨k, hk, rfl, HI, HD⟩ := hrel
        replace g0 := (HD.cell (p := ⟨w.heap.size, 0, none⟩) hs1).trans g0
        replace g1 := (HD.cell (p := ⟨w.heap.size, 1, none⟩) hs1).trans g1
        have hbl0 : w.heap.size < wr.heap.size := Nat.lt_of_lt_of_le hs1 HD.size
        by_cases hlt : k < ex.length
        · obtain ⟨b, o, rfl, hbl, hc0, hc1⟩ := exc_at (hb.keep HD) hlt
          have hsz := HD.size
          have HO := okEx_of hlt
          have HOK := Lib.hid HO
          clear HO
          have HX : Hid (okEx ex k = true → ∀ j < k + 1, okEx ex j = true) := fun hb j hj => by
            rcases Nat.lt_or_ge j k with h1 | h1
            · exact HI.out j h1
            · rw [show j = k by omega]; exact hb
          cases hd : inB ex[k].1 0 999
          · go_wp2_with fail
            go_quiet (((go_at_call 35; exact quietS (l1In_any _ _ _))))
            go_wp2
            go_ret
            exact ⟨ret_bool (isCal_ex hlt (by rw [HOK.out, hd]; rfl)).symm, hbox.trans ((below_drewN (HD.alloc hsz _) _).mono (Nat.le_of_lt hs1))⟩
          cases hh : inB ex[k].2 0 24
          · go_wp2_with fail
            go_quiet (((go_at_call 35; exact quietS (l1In_any _ _ _))))
            go_wp2
            go_ret
            exact ⟨ret_bool (isCal_ex hlt (by rw [HOK.out, hd, hh]; rfl)).symm, hbox.trans ((below_drewN (HD.alloc hsz _) _).mono (Nat.le_of_lt hs1))⟩
          by_cases h0 : k = 0
          · have hy1 : decide (0 < k) = false := by simp; omega
            have hy2 : decide ((0 : Int) < (k : Int)) = false := by simp; omega
            have H0 := Lib.hid h0; clear h0
            go_wp2_with fail
            go_quiet (((go_at_call 35; exact quietS (l1In_any _ _ _))))
            go_wp2
            go_roundw
            case rel => exact ⟨k + 1, by omega, by go_num, HX.out (by rw [HOK.out, hd, hh, decide_eq_true H0.out]; rfl), below_drewN (HD.alloc hsz _) _⟩
            case measure => simp [intOf]; omega
          · have hlt2 : k - 1 < ex.length := by omega
            obtain ⟨b2, o2, e2, _, hp1, _⟩ := exc_at (hb.keep HD) hlt2
            obtain ⟨rfl, rfl⟩ : b = b2 ∧ o = o2 := by simpa using e2
            clear e2
            have hp2 := World.cell?_alloc_lt wr (.cells #[.int .i64 ex[k].1, .int .i64 ex[k].2] 93) ⟨b, o + (k - 1) * 2, none⟩ hbl
            rw [hp1] at hp2
            have hp3 := World.cell?_alloc_lt wr (.cells #[.int .i64 ex[k].1, .int .i64 ex[k].2] 93) ⟨w.heap.size, 1, none⟩ hbl0
            rw [g1] at hp3
            have hy1 : decide (0 < k) = true := by simp; omega
            have hy2 : decide ((0 : Int) < (k : Int)) = true := by simp; omega
            have hi1 : (0 : Int) ≤ (k : Int) - 1 := by omega
            have hi2 : (k : Int) - 1 < (ex.length : Int) := by omega
            have hi3 : ((k : Int) - 1).toNat = k - 1 := by omega
            have HG2 : Hid (ex.getD (k - 1) exNone = ex[k - 1]) := ex_getD _ _ hlt2
            have H0 := Lib.hid h0; clear h0
            by_cases hge : ex[k - 1].1 < ex[k].1
            · have hy3 : decide (ex[k].1 ≤ ex[k - 1].1) = false := by simp; omega
              have HGE := Lib.hid hge
              go_wp2_with fail
              go_quiet (((go_at_call 35; exact quietS (l1In_any _ _ _))))
              go_wp2
              go_roundw
              case rel => exact ⟨k + 1, by omega, by go_num, HX.out (by rw [HOK.out, HG2.out, hd, hh, decide_eq_true HGE.out]; simp), below_drewN (HD.alloc hsz _) _⟩
              case measure => simp [intOf]; omega
            · have hge2 : ex[k].1 ≤ ex[k - 1].1 := by omega
              have hy3 : decide (ex[k].1 ≤ ex[k - 1].1) = true := by simp; omega
              have HGE := Lib.hid hge2
              go_wp2_with fail
              go_quiet (((go_at_call 35; exact quietS (l1In_any _ _ _))))
              go_wp2
              go_ret
              exact ⟨ret_bool (isCal_ex hlt (by rw [HOK.out, HG2.out, hd, hh, decide_eq_false H0.out, decide_eq_false (show ¬ ex[k - 1].1 < ex[k].1 by have := HGE.out; omega)]; rfl)).symm, hbox.trans ((below_drewN (HD.alloc hsz _) _).mono (Nat.le_of_lt hs1))⟩
        · obtain rfl : k = ex.length := by omega
          go_wp2
          go_ret
          exact ⟨ret_bool (isCal_yes H7.out h20 HW.out HI.out).symm, hbox.trans (HD.mono (Nat.le_of_lt hs1))⟩
set_option maxRecDepth 100000 in
set_option maxHeartbeats 4000000 in
theorem implIsCalendar_any (A B : Option Addr) (n m c d : Nat) (wk : List Int) (ex : List Ex) (w : World) (ha : IntsIn w A n wk) (hb : ExsIn w B m ex) :
    Calls Try.prog 50 #[.agg #[.slice A n c, .slice B m d]] w fun e w' => e = .returned (.bool (isCal wk ex)) ∧ Below w.heap.size w w' := by
  have hn := ha.len
  have hm := hb.len
  obtain rfl := ha.1
  obtain rfl := hb.1
  have hbox := below_alloc w (.cells #[.slice A wk.length c, .slice B ex.length d] 29)
  have hs1 : w.heap.size < (w.alloc (.cells #[.slice A wk.length c, .slice B ex.length d] 29)).heap.size := by simp
  have g0 : (w.alloc (.cells #[.slice A wk.length c, .slice B ex.length d] 29)).cell? ⟨w.heap.size, 0, none⟩ = some (.slice A wk.length c) := by simp [go_sem]
  have g1 : (w.alloc (.cells #[.slice A wk.length c, .slice B ex.length d] 29)).cell? ⟨w.heap.size, 1, none⟩ = some (.slice B ex.length d) := by simp [go_sem]
  by_cases h7 : wk.length = 7
  case neg =>
    have h7b : ((wk.length : Int) != 7) = true := by rw [bne_iff_ne]; omega
    have HN := Lib.hid h7; clear h7 g0 g1
    go_enter Try.func50, Try.ntmps50
    go_wp2
    go_ret
    exact ⟨ret_bool (isCal_no7 HN.out).symm, hbox⟩
  have h7b : ((wk.length : Int) != 7) = false := by rw [bne_eq_false_iff_eq]; omega
  have h7l : wk.length ≤ 7 := by omega
  have h7g : 7 ≤ wk.length := by omega
  have H7 := Lib.hid h7; clear h7
  by_cases h20 : ex.length ≤ 20
  case neg =>
    have h20b : ¬ (ex.length : Int) ≤ 20 := by omega
    have HN := Lib.hid h20; clear h20 g0 g1
    go_enter Try.func50, Try.ntmps50
    go_wp2
    go_ret
    exact ⟨ret_bool (isCal_no20 HN.out).symm, hbox⟩
  go_enter Try.func50, Try.ntmps50
  go_wp2_with fail
  clear h7b
  generalize w.alloc (.cells #[.slice A wk.length c, .slice B ex.length d] 29) = w1 at *
  replace ha := ha.keep hbox
  replace hb := hb.keep hbox
  go_loop [20] (fun i => ∃ k : Nat, k ≤ wk.length ∧ i = .int .i64 k ∧ (wk.take k).all (inB · 0 24) = true) (fun i => wk.length - (intOf i).toNat)
  case atStart => exact ⟨0, by omega, rfl, rfl⟩
  case round =>
    obtain ⟨k, hk, rfl, hall⟩ := hrel
    have HA := Lib.hid hall; clear hall
    by_cases hlt : k < wk.length
    · obtain ⟨b, o, rfl, _, hcell⟩ := ha.at_ hlt
      cases hin : inB wk[k] 0 24
      · go_wp2_with (go_at_call 51; refine (in_any _ _ _ _).mono ?_; rintro e w' ⟨rfl, rfl⟩)
        go_ret
        exact ⟨ret_bool (isCal_wk hlt hin).symm, hbox⟩
      · go_wp2_with (go_at_call 51; refine (in_any _ _ _ _).mono ?_; rintro e w' ⟨rfl, rfl⟩)
        go_round
        case rel => exact ⟨k + 1, by omega, by go_num, by rw [all_take wk _ k hlt, HA.out, hin]; rfl⟩
        case measure => simp [intOf]; omega
    · obtain rfl : k = wk.length := by omega
      have HW : Hid (wk.all (inB · 0 24) = true) := by
        have := HA.out
        rw [List.take_length] at this; exact this
      clear HA
      go_wp2_with fail
      go_loopw [31] (fun i wr => ∃ k : Nat, k ≤ ex.length ∧ i = .int .i64 k ∧ Hid (∀ j < k, okEx ex j = true) ∧ Below w1.heap.size w1 wr) (fun i _ => ex.length - (intOf i).toNat)
      case atStart => exact ⟨0, by omega, rfl, fun j h => absurd h (by omega), Below.refl _ _⟩
      case round =>
        clear hlt hk
        obtain ⟨k, hk, rfl, HI, HD⟩ := hrel
        replace g0 := (HD.cell (p := ⟨w.heap.size, 0, none⟩) hs1).trans g0
        replace g1 := (HD.cell (p := ⟨w.heap.size, 1, none⟩) hs1).trans g1
        have hbl0 : w.heap.size < wr.heap.size := Nat.lt_of_lt_of_le hs1 HD.size
        by_cases hlt : k < ex.length
        · obtain ⟨b, o, rfl, hbl, hc0, hc1⟩ := exc_at (hb.keep HD) hlt
          have hsz := HD.size
          have HO := okEx_of hlt
          have HOK := Lib.hid HO
          clear HO
          have HX : Hid (okEx ex k = true → ∀ j < k + 1, okEx ex j = true) := fun hb j hj => by
            rcases Nat.lt_or_ge j k with h1 | h1
            · exact HI.out j h1
            · rw [show j = k by omega]; exact hb
          cases hd : inB ex[k].1 0 999
          · go_wp2_with fail
            go_quiet (((go_at_call 51; exact quietS (in_any _ _ _))))
            go_wp2
            go_ret
            exact ⟨ret_bool (isCal_ex hlt (by rw [HOK.out, hd]; rfl)).symm, hbox.trans ((below_drewN (HD.alloc hsz _) _).mono (Nat.le_of_lt hs1))⟩
          cases hh : inB ex[k].2 0 24
          · go_wp2_with fail
            go_quiet (((go_at_call 51; exact quietS (in_any _ _ _))))
            go_wp2
            go_ret
            exact ⟨ret_bool (isCal_ex hlt (by rw [HOK.out, hd, hh]; rfl)).symm, hbox.trans ((below_drewN (HD.alloc hsz _) _).mono (Nat.le_of_lt hs1))⟩
          by_cases h0 : k = 0
          · have hy1 : decide (0 < k) = false := by simp; omega
            have hy2 : decide ((0 : Int) < (k : Int)) = false := by simp; omega
            have H0 := Lib.hid h0; clear h0
            go_wp2_with fail
            go_quiet (((go_at_call 51; exact quietS (in_any _ _ _))))
            go_wp2
            go_roundw
            case rel => exact ⟨k + 1, by omega, by go_num, HX.out (by rw [HOK.out, hd, hh, decide_eq_true H0.out]; rfl), below_drewN (HD.alloc hsz _) _⟩
            case measure => simp [intOf]; omega
          · have hlt2 : k - 1 < ex.length := by omega
            obtain ⟨b2, o2, e2, _, hp1, _⟩ := exc_at (hb.keep HD) hlt2
            obtain ⟨rfl, rfl⟩ : b = b2 ∧ o = o2 := by simpa using e2
            clear e2
            have hp2 := World.cell?_alloc_lt wr (.cells #[.int .i64 ex[k].1, .int .i64 ex[k].2] 93) ⟨b, o + (k - 1) * 2, none⟩ hbl
            rw [hp1] at hp2
            have hp3 := World.cell?_alloc_lt wr (.cells #[.int .i64 ex[k].1, .int .i64 ex[k].2] 93) ⟨w.heap.size, 1, none⟩ hbl0
            rw [g1] at hp3
            have hy1 : decide (0 < k) = true := by simp; omega
            have hy2 : decide ((0 : Int) < (k : Int)) = true := by simp; omega
            have hi1 : (0 : Int) ≤ (k : Int) - 1 := by omega
            have hi2 : (k : Int) - 1 < (ex.length : Int) := by omega
            have hi3 : ((k : Int) - 1).toNat = k - 1 := by omega
            have HG2 : Hid (ex.getD (k - 1) exNone = ex[k - 1]) := ex_getD _ _ hlt2
            have H0 := Lib.hid h0; clear h0
            by_cases hge : ex[k - 1].1 < ex[k].1
            · have hy3 : decide (ex[k].1 ≤ ex[k - 1].1) = false := by simp; omega
              have HGE := Lib.hid hge
              go_wp2_with fail
              go_quiet (((go_at_call 51; exact quietS (in_any _ _ _))))
              go_wp2
              go_roundw
              case rel => exact ⟨k + 1, by omega, by go_num, HX.out (by rw [HOK.out, HG2.out, hd, hh, decide_eq_true HGE.out]; simp), below_drewN (HD.alloc hsz _) _⟩
              case measure => simp [intOf]; omega
            · have hge2 : ex[k].1 ≤ ex[k - 1].1 := by omega
              have hy3 : decide (ex[k].1 ≤ ex[k - 1].1) = true := by simp; omega
              have HGE := Lib.hid hge2
              go_wp2_with fail
              go_quiet (((go_at_call 51; exact quietS (in_any _ _ _))))
              go_wp2
              go_ret
              exact ⟨ret_bool (isCal_ex hlt (by rw [HOK.out, HG2.out, hd, hh, decide_eq_false H0.out, decide_eq_false (show ¬ ex[k - 1].1 < ex[k].1 by have := HGE.out; omega)]; rfl)).symm, hbox.trans ((below_drewN (HD.alloc hsz _) _).mono (Nat.le_of_lt hs1))⟩
        · obtain rfl : k = ex.length := by omega
          go_wp2
          go_ret
          exact ⟨ret_bool (isCal_yes H7.out h20 HW.out HI.out).symm, hbox.trans (HD.mono (Nat.le_of_lt hs1))⟩
end Go.Proofs.Ytpbibkjcjgggdaa
/- The walks of the small functions on needs of periods. -/
namespace Go.Proofs.Ytpbibkjcjgggdaa
open Go.RowKit

def arePeriods (l : List Int) (s h : Int) : Bool := l.all (inB · 0 1000) && (decide ((l.length : Int) ≤ 10) && (inB s 0 10000 && inB h 0 10000))

end Go.Proofs.Ytpbibkjcjgggdaa
/- The walks of the laws' own helpers on calendars. -/
namespace Go.Proofs.Ytpbibkjcjgggdaa
open Go.RowKit
theorem OwnInts.at_M {w : World} {lo lo' M : Nat} {A : Option Addr} {n c : Nat} {l : List Int} (h : OwnInts w lo A n c l) (hl : lo' ≤ lo) (hM : M ≤ w.heap.size) (hlt : ∀ a, A = some a → a.block < M) : IntsAt w lo' M A n c l := ⟨h.1, own_lower h.2 hl, hM, hlt⟩
end Go.Proofs.Ytpbibkjcjgggdaa
/- Boxes in memory. -/
namespace Go.Proofs.Ytpbibkjcjgggdaa
open Go.RowKit
/-- A box in memory: block N holds the cells cs. -/
def BoxOf (w : World) (N : Nat) (cs : List Value) : Prop := N < w.heap.size ∧ ∀ j u, cs[j]? = some u → w.cell? ⟨N, j, none⟩ = some u
theorem BoxOf.keep {w w' : World} {N : Nat} {cs : List Value} (h : BoxOf w N cs) (hb : Below w.heap.size w w') : BoxOf w' N cs :=
  ⟨Nat.lt_of_lt_of_le h.1 hb.size, fun j u hu => (hb.cell (p := ⟨N, j, none⟩) h.1).trans (h.2 j u hu)⟩
theorem BoxOf.two {w : World} {N : Nat} {x y : Value} (h : BoxOf w N [x, y]) : w.cell? ⟨N, 0, none⟩ = some x ∧ w.cell? ⟨N, 1, none⟩ = some y ∧ N < w.heap.size := ⟨h.2 0 x rfl, h.2 1 y rfl, h.1⟩
theorem boxOf_alloc (w : World) (cs : Array Value) (t : TypeId) : BoxOf (w.alloc (.cells cs t)) w.heap.size cs.toList := by
  refine ⟨by simp, fun j u hu => ?_⟩
  have := news_at (w := w) rfl cs t j u hu
  rwa [Addr.add_lit, Nat.zero_add] at this
end Go.Proofs.Ytpbibkjcjgggdaa
