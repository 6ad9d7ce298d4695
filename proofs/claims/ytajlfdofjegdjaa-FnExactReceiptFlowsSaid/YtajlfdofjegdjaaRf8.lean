/- Part 8 of the texts of this claim: Exception: its cells, and the walks of the laws' own helpers on lists of it; Rows of numbers of the call's own: made whole, read, written one by one. -/
import Derived.Test.YtajlfdofjegdjaaRf2
import Derived.StillTailTactics
import Derived.OwnWalk
/- Exception: its cells, and the walks of the laws' own helpers on lists of it. -/
namespace Go.Proofs.Ytajlfdofjegdjaa
open Go.RowKit

abbrev Ex := Int × Int
def exF : Flat Ex := ⟨fun f => [.int .i64 (f.1), .int .i64 (f.2)], 2, fun _ => rfl⟩
abbrev ExsIn (w : World) (A : Option Addr) (n : Nat) (l : List Ex) : Prop := RowsIn exF w A n l
theorem exc_at {w : World} {A : Option Addr} {n : Nat} {l : List Ex} (h : ExsIn w A n l) {k : Nat} (hk : k < l.length) :
    ∃ b o, A = some ⟨b, o, none⟩ ∧ b < w.heap.size ∧ w.cell? ⟨b, o + k * 2, none⟩ = some (.int .i64 (l[k].1)) ∧ w.cell? ⟨b, o + k * 2 + 1, none⟩ = some (.int .i64 (l[k].2)) := by
  obtain ⟨b, o, e, hlt, hc⟩ := h.at_ hk
  exact ⟨b, o, e, hlt, hc 0 _ rfl, hc 1 _ rfl⟩
theorem excInfo : (Try.prog.info? 152).map (fun i => (i.zero, i.size, i.bytes)) = some (some (.agg #[.int .i64 0, .int .i64 0]), 2, 16) := by kernel_rfl
theorem excElem : ElemOk exF 37 152 := by
  obtain ⟨i, h1, h2, h3, h4⟩ := info_parts excInfo
  exact ⟨i, _, 16, Try.underlying37, h1, h2, h3, h4, rfl, by decide, by omega⟩
theorem toException_any (x0 : Int) (x1 : Int) (w : World) : Calls Try.prog 140 #[.agg #[.int .i64 (x0), .int .i64 (x1)]] w fun e w' => e = .returned (.agg #[.int .i64 (x0), .int .i64 (x1)]) ∧ Below w.heap.size w w' := by
  go_enter Try.func140, Try.ntmps140
  go_wp2
  refine bodyPost_ret (v := .agg #[.int .i64 (x0), .int .i64 (x1)]) (by simp [results, Try.results140, go_sem]) rfl ⟨rfl, ?_⟩
  exact (((Below.refl _ _).alloc (Nat.le_refl _) _).alloc (by simp) _).alloc (by simp; omega) _
set_option maxRecDepth 100000 in
set_option maxHeartbeats 2000000 in
theorem toExceptionS_any (A : Option Addr) (n c : Nat) (l : List Ex) (w : World) (hl : ExsIn w A n l) :
    Calls Try.prog 101 #[.slice A n c] w fun e w' => ∃ A', e = .returned (.slice A' n n) ∧ OwnRows exF 152 w' w.heap.size A' n n l ∧ Below w.heap.size w w' := by
  obtain ⟨i0, hi0, hz0, hz1, hz2⟩ := info_parts excInfo
  have hn := hl.len
  obtain rfl := hl.1
  go_enter Try.func101, Try.ntmps101
  go_wp2_with (at_make; refine wpList_make_full _ rfl (.tmp 6) (.tmp 6) _ rfl w.heap.size 152 i0 _ 2 Try.underlying37 hi0 hz0 hz1 .i64 .i64 _ _ l.length rfl rfl rfl rfl (by rw [hz2]; omega) (by unfold maxLen; omega) (Nat.le_refl _) ?_; intro w1 hown hg)
  have hb1 := below_none hg
  generalize hzs : (madeCells (Value.agg #[.int .i64 0, .int .i64 0]).cells (l.length * 2)).toList = zs at hown
  have hzl : zs.length = (l.flatMap exF.enc).length := by rw [flatMap_len exF.enc 2 exF.len, hown.1]
  clear hg hzs
  have HZ := Lib.hid hzl; clear hzl
  have hown1 : w1.ownsRow w.heap.size 152 2 (.slice (some ⟨w.heap.size, 0, none⟩) l.length l.length) l.length (fillC zs (l.flatMap exF.enc) 0) := by
    rw [fillC_zero]; exact hown
  clear hown
  go_loopw [4] (fun i wr => ∃ k : Nat, k ≤ l.length ∧ i = .int .i64 k ∧ wr.ownsRow w.heap.size 152 2 (.slice (some ⟨w.heap.size, 0, none⟩) l.length l.length) l.length (fillC zs (l.flatMap exF.enc) (k * 2)) ∧ Below w.heap.size w wr) (fun i _ => l.length - (intOf i).toNat)
  case atStart => exact ⟨0, by omega, rfl, by rw [Nat.zero_mul]; exact hown1, hb1⟩
  case round =>
    obtain ⟨k, hk, rfl, hown, hb⟩ := hrel
    by_cases hlt : k < l.length
    · obtain ⟨b, o, rfl, _, hc0, hc1⟩ := exc_at (hl.keep hb) hlt
      go_wp2_with fail
      refine (toException_any _ _ _).mono ?_
      rintro e w2 ⟨rfl, hb2⟩
      have ho := own_keep hown hb2
      have hlen : (l.flatMap exF.enc).length = l.length * 2 := flatMap_len exF.enc 2 exF.len l
      have hz := HZ.out
      have e0 : (l.flatMap exF.enc)[k * 2]? = some (.int .i64 (l[k].1)) := flatMap_at exF.enc 2 exF.len l k 0 hlt (by omega)
      obtain ⟨u0, c0, f0⟩ := own_cell ho (k * 2) (by omega)
      have e1 : (l.flatMap exF.enc)[k * 2 + 1]? = some (.int .i64 (l[k].2)) := flatMap_at exF.enc 2 exF.len l k 1 hlt (by omega)
      obtain ⟨u1, c1, f1⟩ := own_cell ho (k * 2 + 1) (by omega)
      have s0 := (ho.stored (k * 2) (.int .i64 (l[k].1))).1
      rw [fillC_set _ _ _ _ e0 hz] at s0
      have s1 := (s0.stored (k * 2 + 1) (.int .i64 (l[k].2))).1
      rw [fillC_set _ _ _ _ e1 hz] at s1
      have hb3 : Below w.heap.size w w2 := hb.trans (hb2.mono hb.size)
      have S2 := Lib.hid s1
      clear ho e0 e1 s0 s1 hown hz hlen hb hb2
      go_wp2
      go_roundw
      case rel => exact ⟨k + 1, by omega, by go_num, by rw [show (k + 1) * 2 = k * 2 + 1 + 1 by omega]; exact S2.out, ((hb3.setCell (Nat.le_refl _) _).setCell (Nat.le_refl _) _)⟩
      case measure => simp [intOf]; omega
    · obtain rfl : k = l.length := by omega
      go_wp2
      go_ret
      refine ⟨_, rfl, ⟨rfl, ?_⟩, hb⟩
      have h2 : (l.flatMap exF.enc).length = l.length * 2 := flatMap_len exF.enc 2 exF.len l
      rw [← h2, fillC_all _ _ HZ.out] at hown
      exact hown
theorem eqException_yes (x0 : Int) (x1 : Int) (w : World) : Calls Try.prog 144 #[.agg #[.int .i64 (x0), .int .i64 (x1)], .agg #[.int .i64 (x0), .int .i64 (x1)]] w fun e w' => e = .returned (.bool true) ∧ Below w.heap.size w w' := by
  go_enter Try.func144, Try.ntmps144
  go_wp2
  go_ret
  exact ⟨rfl, ((Below.refl _ _).alloc (Nat.le_refl _) _).alloc (by simp) _⟩
set_option maxRecDepth 100000 in
set_option maxHeartbeats 2000000 in
theorem eqExceptionS_yes (A B : Option Addr) (n m c d : Nat) (l : List Ex) (w : World) (ha : ExsIn w A n l) (hb : ExsIn w B m l) :
    Calls Try.prog 111 #[.slice A n c, .slice B m d] w fun e w' => e = .returned (.bool true) ∧ Below w.heap.size w w' := by
  have hn := ha.len
  obtain rfl := ha.1
  obtain rfl := hb.1
  go_enter Try.func111, Try.ntmps111
  go_wp2
  go_loopw [5] (fun i wr => ∃ k : Nat, k ≤ l.length ∧ i = .int .i64 k ∧ Below w.heap.size w wr) (fun i _ => l.length - (intOf i).toNat)
  case atStart => exact ⟨0, by omega, rfl, Below.refl _ _⟩
  case round =>
    obtain ⟨k, hk, rfl, HD⟩ := hrel
    by_cases hlt : k < l.length
    · obtain ⟨b1, o1, rfl, _, hc0, hc1⟩ := exc_at (ha.keep HD) hlt
      obtain ⟨b2, o2, rfl, _, hd0, hd1⟩ := exc_at (hb.keep HD) hlt
      go_wp2
      go_still_tail 8, (by kernel_rfl)
      change wpList _ _ _ _ _ wr.drew
      have HE : Below w.heap.size w wr.drew := HD.drew
      generalize wr.drew = w2 at *
      go_wp2_with (go_at_call 144; refine (eqException_yes _ _ _).mono ?_; rintro e w3 ⟨rfl, hb3⟩)
      go_roundw
      case rel => exact ⟨k + 1, by omega, by go_num, HE.trans (hb3.mono HE.size)⟩
      case measure => simp [intOf]; omega
    · obtain rfl : k = l.length := by omega
      go_wp2
      go_ret
      exact ⟨rfl, HD⟩
theorem szExceptionS_ok (A : Option Addr) (n c : Nat) (left : Int) (w : World) (h : (n : Int) ≤ left) (hl : left ≤ 1048576) :
    Calls Try.prog 91 #[.slice A n c, .int .i64 left] w fun e w' => e = .returned (.int .i64 (left - n)) ∧ w = w' := by
  go_enter Try.func91, Try.ntmps91
  go_wp2
  go_ret
  exact ⟨rfl, rfl⟩
theorem szExceptionS_big (A : Option Addr) (n c : Nat) (left : Int) (w : World) (h : left < (n : Int)) (h0 : 0 ≤ left) (hn : n ≤ 9223372036854775807) :
    Calls Try.prog 91 #[.slice A n c, .int .i64 left] w fun e w' => e = .returned (.int .i64 (-1)) ∧ w = w' := by
  go_enter Try.func91, Try.ntmps91
  go_wp2
  go_ret
  exact ⟨rfl, rfl⟩
/-- What the marks from k on make of a list. -/
def marksEx : List Ex → Int → List Ex
  | [], _ => []
  | _ :: t, k => (k, k + 1) :: marksEx t (k + 2)
theorem marksEx_len (l : List Ex) (k : Int) : (marksEx l k).length = l.length := by
  induction l generalizing k with
  | nil => rfl
  | cons f t ih => simp [marksEx, ih]
theorem marksEx_at (l : List Ex) (k : Int) (j : Nat) (h : j < (marksEx l k).length) : (marksEx l k)[j] = (k + 2 * j, k + 2 * j + 1) := by
  induction l generalizing k j with
  | nil => simp [marksEx] at h
  | cons f t ih =>
    cases j with
    | zero => simp [marksEx]
    | succ j =>
      simp only [marksEx, List.getElem_cons_succ]
      rw [ih]
      rw [show k + 2 + 2 * (j : Int) = k + 2 * ((j + 1 : Nat) : Int) by omega]
set_option maxRecDepth 100000 in
set_option maxHeartbeats 2000000 in
theorem markExceptionS_any (A : Option Addr) (n c lo hi : Nat) (l : List Ex) (k0 : Int) (w : World) (ha : RowsAt exF 152 w lo hi A n c l) (hk0 : 0 ≤ k0) (hk1 : k0 ≤ 2000000000000000000) (hn : l.length ≤ 16777216) :
    Calls Try.prog 137 #[.slice A n c, .int .i64 k0] w fun e w' => e = .returned (.int .i64 (k0 + 2 * l.length)) ∧ RowsAt exF 152 w' lo hi A n c (marksEx l k0) ∧ Only lo hi w w' := by
  obtain rfl := ha.1
  have hml := marksEx_len l k0
  have hlen : (l.flatMap exF.enc).length = l.length * 2 := flatMap_len exF.enc 2 exF.len l
  have hlen2 : ((marksEx l k0).flatMap exF.enc).length = l.length * 2 := by rw [flatMap_len exF.enc 2 exF.len, hml]
  have HZ := Lib.hid (hlen.trans hlen2.symm)
  have HL := Lib.hid hlen2
  have HM := Lib.hid hml
  clear hml hlen hlen2
  obtain ⟨_, ⟨hown, hhi, hlt⟩⟩ := ha
  have HT := Lib.hid hlt
  clear hlt
  go_enter Try.func137, Try.ntmps137
  go_wp2
  go_loopw [1, 5] (fun m i wr => ∃ k : Nat, k ≤ l.length ∧ i = .int .i64 k ∧ m = .int .i64 (k0 + 2 * k) ∧ wr.ownsRow lo 152 2 (.slice A l.length c) l.length (fillC (l.flatMap exF.enc) ((marksEx l k0).flatMap exF.enc) (k * 2)) ∧ Only lo hi w wr) (fun _ i _ => l.length - (intOf i).toNat)
  case atStart => exact ⟨0, by omega, rfl, by go_num, by rw [Nat.zero_mul, fillC_zero]; exact hown, Only.refl _ _ _⟩
  case round =>
    obtain ⟨k, hk, rfl, rfl, ho, HO⟩ := hrel
    by_cases hlt : k < l.length
    · have hA : ∃ g, A = some ⟨g, 0, none⟩ := by
        rcases ho.2 with ⟨hv, h0⟩ | ⟨g, cap, cur, hv, _⟩
        · omega
        · exact ⟨g, by injection hv⟩
      obtain ⟨g, rfl⟩ := hA
      have hm : k < (marksEx l k0).length := by rw [HM.out]; exact hlt
      have e0 : ((marksEx l k0).flatMap exF.enc)[k * 2]? = some (.int .i64 (k0 + 2 * k)) := by
        have := flatMap_at exF.enc 2 exF.len (marksEx l k0) k 0 hm (by omega)
        rw [marksEx_at _ _ _ hm] at this; exact this
      obtain ⟨u0, c0, f0⟩ := own_cell ho (k * 2) (by omega)
      have e1 : ((marksEx l k0).flatMap exF.enc)[k * 2 + 1]? = some (.int .i64 (k0 + 2 * k + 1)) := by
        have := flatMap_at exF.enc 2 exF.len (marksEx l k0) k 1 hm (by omega)
        rw [marksEx_at _ _ _ hm] at this; exact this
      obtain ⟨u1, c1, f1⟩ := own_cell ho (k * 2 + 1) (by omega)
      have s0 := (ho.stored (k * 2) (.int .i64 (k0 + 2 * k)))
      rw [fillC_set _ _ _ _ e0 HZ.out] at s0
      have s1 := (s0.1.stored (k * 2 + 1) (.int .i64 (k0 + 2 * k + 1)))
      rw [fillC_set _ _ _ _ e1 HZ.out] at s1
      have hgl : lo ≤ g ∧ g < hi := ⟨(own_lt ho _ rfl).1, HT.out _ rfl⟩
      have HO2 : Only lo hi w _ := ((HO.trans (Only.of_grown s0.2 (fun x hx => by injection hx with hx; subst hx; exact hgl))).trans (Only.of_grown s1.2 (fun x hx => by injection hx with hx; subst hx; exact hgl)))
      have S2 := Lib.hid s1.1
      clear e0 e1 s0 s1 ho
      go_wp2
      go_roundw
      case rel => exact ⟨k + 1, by omega, by go_num, by go_num, by rw [show (k + 1) * 2 = k * 2 + 1 + 1 by omega]; exact S2.out, HO2⟩
      case measure => simp [intOf]; omega
    · obtain rfl : k = l.length := by omega
      go_wp2
      go_ret
      rw [← HL.out, fillC_all _ _ HZ.out] at ho
      exact ⟨rfl, ⟨HM.out.symm, ho, Nat.le_trans hhi HO.size, HT.out⟩, HO⟩
end Go.Proofs.Ytajlfdofjegdjaa
/- Rows of numbers of the call's own: made whole, read, written one by one. -/
namespace Go.Proofs.Ytajlfdofjegdjaa
open Go.RowKit

/-- The row of numbers in block g. -/
def NumRow (w : World) (lo g n c : Nat) (l : List Int) : Prop := n = l.length ∧ w.ownsRow lo 3 1 (.slice (some ⟨g, 0, none⟩) n c) n (ints l)
section
variable {w w' : World} {lo g n c : Nat} {l : List Int}
theorem NumRow.cell (h : NumRow w lo g n c l) {j : Nat} (hj : j < l.length) : w.cell? ⟨g, j, none⟩ = some (.int .i64 l[j]) := by
  rw [h.2.cellAt j (by have := h.1; omega)]; simp [hj]
theorem NumRow.frozen (h : NumRow w lo g n c l) (j : Nat) : w.frozen? ⟨g, j, none⟩ = false := h.2.frozenAt j
theorem NumRow.set (h : NumRow w lo g n c l) (j : Nat) (x : Int) : NumRow (w.setCell ⟨g, j, none⟩ (.int .i64 x)) lo g n c (l.set j x) :=
  ⟨by simp [h.1], by rw [ints, List.map_set]; exact (h.2.stored j (.int .i64 x)).1⟩
theorem NumRow.far (h : NumRow w lo g n c l) {p : Addr} {v : Value} (hp : p.block ≠ g) : NumRow (w.setCell p v) lo g n c l := by
  refine ⟨h.1, ?_⟩
  refine h.2.kept (row := some p.block) ⟨rfl, rfl, rfl, by simp, fun k _ hk => heap_setCell_other w p k v (fun e => hk (by simp [e]))⟩ (.inr ?_)
  simp [Value.ownBlock]; exact fun h => hp h.symm
theorem NumRow.keep (h : NumRow w lo g n c l) (hb : Below w.heap.size w w') : NumRow w' lo g n c l := ⟨h.1, own_keep h.2 hb⟩
theorem NumRow.drew (h : NumRow w lo g n c l) : NumRow w.drew lo g n c l := h
theorem NumRow.drewN (h : NumRow w lo g n c l) (k : Nat) : NumRow (w.drewN k) lo g n c l := h.keep (below_drewN (Below.refl _ _) _)
theorem NumRow.lt (h : NumRow w lo g n c l) : lo ≤ g ∧ g < w.heap.size := own_lt h.2 _ rfl
theorem NumRow.len (h : NumRow w lo g n c l) : l.length = n := h.1.symm
theorem NumRow.ints (h : NumRow w lo g n c l) (hn : l.length ≤ 16777216) : IntsIn w (some ⟨g, 0, none⟩) n l := ⟨h.1, Sl.of_own h.2 (by have := h.1; omega)⟩
end
theorem below_in {w w1 : World} {b o : Nat} {v : Value} (hb : Below w.heap.size w w1) (h : b < w.heap.size) (hc : w.cell? ⟨b, o, none⟩ = some v) : w1.cell? ⟨b, o, none⟩ = some v := (hb.cell (p := ⟨b, o, none⟩) h).trans hc
theorem cell_far {w : World} {g i b j : Nat} {v : Value} (h : g ≠ b) : (w.setCell ⟨g, i, none⟩ v).cell? ⟨b, j, none⟩ = w.cell? ⟨b, j, none⟩ :=
  World.cell?_setCell_other _ _ _ _ (by intro e; injection e; contradiction)
theorem numRow_made {w : World} {lo g n : Nat} (h : w.ownsRow lo 3 1 (.slice (some ⟨g, 0, none⟩) n n) n (madeCells (Value.int .i64 0).cells (n * 1)).toList) : NumRow w lo g n n (List.replicate n 0) := by
  refine ⟨by simp, ?_⟩
  have e : (madeCells (Value.int .i64 0).cells (n * 1)).toList = ints (List.replicate n 0) := by
    rw [show (Value.int .i64 0).cells = #[.int .i64 0] by rfl, toList_madeCells_one, Nat.mul_one, ints, List.map_replicate]
  rw [← e]; exact h
theorem wpList_make_nums {w : World} {ops : Array Oper} {rest : List Oper} {o : Oper} {a : Act} {Q : Exit → Act → World → Prop}
    (hg : o.guard = none) (l c : Operand) (hop : o.op = Op.makeSlice 24 l c) (base : Nat) {kl kc : IntKind} {L C : Int} (n : Nat) (hl : a.eval l = .int kl L) (hc : a.eval c = .int kc C) (hL : L = (n : Int)) (hC : C = (n : Int)) (hn : n ≤ 16777216) (b4 : base ≤ w.heap.size)
    (hK : ∀ w', NumRow w' base w.heap.size n n (List.replicate n 0) → Below w.heap.size w w' → w.heap.size < w'.heap.size → wpList Try.prog ops Q rest (a.put o.dst (.slice (some ⟨w.heap.size, 0, none⟩) n n)) w') :
    wpList Try.prog ops Q (o :: rest) a w := by
  obtain ⟨i0, hi0, hz0, hz1, hz2⟩ := info_parts intInfo
  refine wpList_make_full _ hg l c _ hop base 3 i0 _ 1 Try.underlying24 hi0 hz0 hz1 kl kc L C n hl hc hL hC (by rw [hz2]; omega) (by unfold maxLen; omega) b4 ?_
  intro w' h1 h2
  exact hK w' (numRow_made h1) (below_none h2) (own_lt (numRow_made h1).2 _ rfl).2
end Go.Proofs.Ytajlfdofjegdjaa
