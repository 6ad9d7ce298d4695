/- Part 2 of the texts of this claim: What an append of one element does to a row of the call's own; The walk of the laws' own marks that are texts: some text comes back; Load: its cells, and the walks of the laws' own helpers on lists of it; Rows of numbers of the call's own: made whole, read, written one by one. -/
import Derived.Test.YtlnkofnfgemfdaaLd1
import Derived.Laws.BytesArg
import Derived.StillTailTactics
import Derived.OwnWalk
/- What an append of one element does to a row of the call's own. -/
namespace Go.Proofs.Ytlnkofnfgemfdaa
open Go.RowKit
theorem own_form {w : World} {lo : Nat} {e : TypeId} {sz n : Nat} {v : Value} {xs : List Value} (h : w.ownsRow lo e sz v n xs) : ∃ A c, v = .slice A n c := by
  rcases h.2 with ⟨hv, h0⟩ | ⟨g, cap, cur, hv, _⟩
  · exact ⟨none, 0, by rw [hv, h0]⟩
  · exact ⟨_, _, hv⟩
theorem own_block {w : World} {lo : Nat} {e : TypeId} {sz n : Nat} {v : Value} {xs : List Value} (h : w.ownsRow lo e sz v n xs) : ∀ g, v.ownBlock = some g → lo ≤ g := by
  intro g hg
  rcases h.2 with ⟨hv, h0⟩ | ⟨g', cap, cur, hv, hlo, _⟩
  · rw [hv] at hg; simp [Value.ownBlock] at hg
  · rw [hv] at hg
    simp [Value.ownBlock] at hg
    omega
/-- A value that is a row of flat structs of the call's own. -/
def RowVal {α : Type} (F : Flat α) (e : TypeId) (w : World) (lo : Nat) (v : Value) (l : List α) : Prop := w.ownsRow lo e F.sz v l.length (l.flatMap F.enc)
section
variable {α : Type} {F : Flat α} {e : TypeId} {w w' : World} {lo : Nat} {v v' : Value} {l : List α}
theorem RowVal.form (h : RowVal F e w lo v l) : ∃ A c, v = .slice A l.length c ∧ OwnRows F e w lo A l.length c l := by
  obtain ⟨A, c, rfl⟩ := own_form h
  exact ⟨A, c, rfl, rfl, h⟩
theorem OwnRows.val {A : Option Addr} {n c : Nat} (h : OwnRows F e w lo A n c l) : RowVal F e w lo (.slice A n c) l := by
  obtain ⟨rfl, h⟩ := h
  exact h
theorem RowVal.keep (h : RowVal F e w lo v l) (hb : Below w.heap.size w w') : RowVal F e w' lo v l := own_keep h hb
theorem RowVal.alloc (h : RowVal F e w lo v l) (o : Obj) : RowVal F e (w.alloc o) lo v l := World.ownsRow.alloc h o
theorem RowVal.nil (w : World) (lo : Nat) : RowVal F e w lo (.slice none 0 0) [] := World.ownsRow_nil _ _ _ _
/-- Behind the append's law: what the row is now, and that nothing else has turned. -/
theorem RowVal.snoc {x : α} {xs : List Value} (hx : xs = F.enc x) (h : w'.ownsRow lo e F.sz v' (l.length + 1) (l.flatMap F.enc ++ xs)) : RowVal F e w' lo v' (l ++ [x]) := by
  subst hx
  unfold RowVal
  rw [List.length_append, List.flatMap_append]
  simpa using h
theorem RowVal.below {B : Nat} (h : RowVal F e w lo v l) (hg : w.grownBy w' v.ownBlock) (hB : B ≤ lo) (hw : B ≤ w.heap.size) : Below B w w' :=
  below_grown hg hw (fun g hgg => Nat.le_trans hB (own_block h g hgg))
end
theorem empty_own (w : World) (lo : Nat) (e : TypeId) (sz : Nat) (h : lo ≤ w.heap.size) : (w.alloc (.cells #[] e)).ownsRow lo e sz (.slice (some ⟨w.heap.size, 0, none⟩) 0 0) 0 [] :=
  World.ownsRow_lit w #[] 0 h (by unfold maxLen; omega) (by simp)

theorem empty_row {α : Type} {F : Flat α} {e : TypeId} {w : World} {lo H : Nat} (hH : w.heap.size = H) (h : lo ≤ w.heap.size) : RowVal F e (w.alloc (.cells #[] e)) lo (.slice (some ⟨H, 0, none⟩) 0 0) [] := by
  subst hH
  exact empty_own w lo e F.sz h

/-- What the program's table says of a slice type of flat structs. -/
def ElemOk {α : Type} (F : Flat α) (t e : TypeId) : Prop :=
  ∃ (i : TypeInfo) (z : Value) (bytes : Nat), Try.prog.underlying t = some (.slice e) ∧ Try.prog.info? e = some i ∧ i.zero = some z ∧ i.size = F.sz ∧ i.bytes = bytes ∧ z.cells.size = F.sz ∧ 0 < F.sz ∧ bytes ≤ 1000
theorem news_at {w : World} {H : Nat} (hH : w.heap.size = H) (cs : Array Value) (e : TypeId) : ∀ j u, cs.toList[j]? = some u → (w.alloc (.cells cs e)).cell? ((⟨H, 0, none⟩ : Addr).add j) = some u := by
  intro j u hu
  subst hH
  have h := heap_alloc_new w (.cells cs e)
  rw [Addr.add_lit, Nat.zero_add]
  unfold World.cell?
  simp only [h]
  simpa using hu
/-- out = append(out, x), out a row of the call's own, x a struct that has just been laid in a block of its own. -/
theorem wpList_append_one {α : Type} {F : Flat α} {t e : TypeId} (hE : ElemOk F t e) {w1 : World} {ops : Array Oper} {rest : List Oper} {o : Oper} {a : Act} {Q : Exit → Act → World → Prop} (hgd : o.guard = none) (s x : Operand)
    (ho : o.op = .call { callee := .builtin .append, args := #[s, x], argTypes := #[t, t] }) {lo : Nat} {v : Value} {l : List α} (hs : a.eval s = v) (hrow : RowVal F e w1 lo v l) (hlen : l.length ≤ 16777216)
    (y : α) (cs : Array Value) (hcs : cs.toList = F.enc y) (hone : ∀ u ∈ cs.toList, u.oneCell' = true) (H c : Nat) (hH : w1.heap.size = H) (hx : a.eval x = .slice (some ⟨H, 0, none⟩) 1 c) (hlo : lo ≤ w1.heap.size)
    (h : ∀ v' w', RowVal F e w' lo v' (l ++ [y]) → (∀ B, B ≤ lo → B ≤ w1.heap.size → Below B w1 w') → w1.heap.size < w'.heap.size → wpList Try.prog ops Q rest (a.put o.dst v') w') :
    wpList Try.prog ops Q (o :: rest) a (w1.alloc (.cells cs e)) := by
  obtain ⟨i, z, bytes, ht, hi, hz, hsz, hby, hzs, hpos, hbb⟩ := hE
  have hb2 : (l.length + 1) * bytes ≤ 140737488355328 := Nat.le_trans (Nat.mul_le_mul (show l.length + 1 ≤ 16777217 by omega) hbb) (by omega)
  refine wpList_append_own _ hgd s x t ho lo e i z F.sz bytes ht hi hz hsz hby hzs hpos v l.length (l.flatMap F.enc) hs (hrow.alloc _) ⟨H, 0, none⟩ 1 c cs.toList hx (by rw [hcs, F.len, Nat.one_mul]) (news_at hH cs e) hone (by unfold maxLen; omega) hb2 (by simp; omega) (fun v' w' h2 h3 _ => h v' w' (RowVal.snoc hcs h2) (fun B hB hB2 => ?_) ?_)
  · refine ((Below.refl B w1).alloc hB2 _).trans (below_grown h3 (by simp; omega) (fun g hg => Nat.le_trans hB (own_block hrow g hg)))
  · have := h3.size; simp at this; omega
end Go.Proofs.Ytlnkofnfgemfdaa
/- The walk of the laws' own marks that are texts: some text comes back. -/
namespace Go.Proofs.Ytlnkofnfgemfdaa
open Go.RowKit
def SomeText (w : World) (e : Ending) (w' : World) : Prop := ∃ s : ByteArray, e = .returned (.string s) ∧ Below w.heap.size w w'
set_option maxRecDepth 100000 in
set_option maxHeartbeats 1000000 in
theorem markText_some (k : Int) (w : World) (h0 : 1 ≤ k) (h1 : k ≤ 4000000000000000000) : Calls Try.prog 104 #[.int .i64 k] w (SomeText w) := by
  go_enter Try.func104, Try.ntmps104
  go_wp2
  go_loopw [0, 3] (fun i v wr => ∃ (x : Int) (s : ByteArray), 0 ≤ x ∧ i = .int .i64 x ∧ v = .string s ∧ (s.size : Int) + x ≤ 4000000000000000000 ∧ Below w.heap.size w wr) (fun i _ _ => (intOf i).toNat)
  case atStart => exact ⟨k, ByteArray.empty, by omega, rfl, rfl, by simp; omega, Below.refl _ _⟩
  case round =>
    obtain ⟨x, s, x0, rfl, rfl, hs, HR⟩ := hrel
    have hsz := HR.size
    by_cases hlt : 0 < x
    · have hm1 := Int.emod_nonneg x (show (10 : Int) ≠ 0 by omega)
      have hm2 := Int.emod_lt_of_pos x (show (0 : Int) < 10 by omega)
      have hcell : ∀ i, i < 1 → (wr.alloc (.cells #[.int .u8 (48 + x % 10)] 5)).cell? ⟨wr.heap.size, 0 + i, none⟩ = some (.int .u8 ([48 + x % 10].getD i 0)) := fun i hi => by
        have h0 : i = 0 := by omega
        subst h0
        simp [go_sem]
      obtain ⟨t, ht, hts⟩ : ∃ t : ByteArray, (convert 22 9 (.slice (some ⟨wr.heap.size, 0, none⟩) 1 1)).run Try.prog (wr.alloc (.cells #[.int .u8 (48 + x % 10)] 5)) = .ok (.string t) (wr.alloc (.cells #[.int .u8 (48 + x % 10)] 5)) ∧ t.size = 1 :=
        ⟨_, run_convert_bytes_arg _ 22 5 Try.underlying22 Try.underlying5 wr.heap.size 0 1 1 [48 + x % 10] rfl hcell 9 Try.underlying9, by rw [strOfNums_size]; rfl⟩
      clear hcell
      have hfit : ¬ 9223372036854775807 < t.size + s.size := by omega
      have HTS := Lib.hid hts
      clear hts
      go_wp2
      go_roundw
      case rel => exact ⟨x / 10, t ++ s, by omega, rfl, rfl, by rw [ByteArray.size_append, HTS.out]; omega, HR.alloc hsz _⟩
      case measure => simp [intOf]; omega
    · obtain rfl : x = 0 := by omega
      have hfit : ¬ 9223372036854775807 < 1 + s.size := by omega
      go_wp2
      go_ret
      exact ⟨_, rfl, HR⟩
end Go.Proofs.Ytlnkofnfgemfdaa
/- Load: its cells, and the walks of the laws' own helpers on lists of it. -/
namespace Go.Proofs.Ytlnkofnfgemfdaa
open Go.RowKit

abbrev Ld := ByteArray × Int × Int
def ldF : Flat Ld := ⟨fun f => [.string (f.1), .int .i64 (f.2.1), .int .i64 (f.2.2)], 3, fun _ => rfl⟩
abbrev LoadsIn (w : World) (A : Option Addr) (n : Nat) (l : List Ld) : Prop := RowsIn ldF w A n l
theorem load_at {w : World} {A : Option Addr} {n : Nat} {l : List Ld} (h : LoadsIn w A n l) {k : Nat} (hk : k < l.length) :
    ∃ b o, A = some ⟨b, o, none⟩ ∧ b < w.heap.size ∧ w.cell? ⟨b, o + k * 3, none⟩ = some (.string (l[k].1)) ∧ w.cell? ⟨b, o + k * 3 + 1, none⟩ = some (.int .i64 (l[k].2.1)) ∧ w.cell? ⟨b, o + k * 3 + 2, none⟩ = some (.int .i64 (l[k].2.2)) := by
  obtain ⟨b, o, e, hlt, hc⟩ := h.at_ hk
  exact ⟨b, o, e, hlt, hc 0 _ rfl, hc 1 _ rfl, hc 2 _ rfl⟩
theorem loadInfo : (Try.prog.info? 91).map (fun i => (i.zero, i.size, i.bytes)) = some (some (.agg #[.string ByteArray.empty, .int .i64 0, .int .i64 0]), 3, 32) := by kernel_rfl
theorem loadElem : ElemOk ldF 70 91 := by
  obtain ⟨i, h1, h2, h3, h4⟩ := info_parts loadInfo
  exact ⟨i, _, 32, Try.underlying70, h1, h2, h3, h4, rfl, by decide, by omega⟩
theorem eqLoad_yes (x0 : ByteArray) (x1 : Int) (x2 : Int) (w : World) : Calls Try.prog 101 #[.agg #[.string (x0), .int .i64 (x1), .int .i64 (x2)], .agg #[.string (x0), .int .i64 (x1), .int .i64 (x2)]] w fun e w' => e = .returned (.bool true) ∧ Below w.heap.size w w' := by
  go_enter Try.func101, Try.ntmps101
  go_wp2
  go_ret
  exact ⟨rfl, ((Below.refl _ _).alloc (Nat.le_refl _) _).alloc (by simp) _⟩
set_option maxRecDepth 100000 in
set_option maxHeartbeats 2000000 in
theorem eqLoadS_yes (A B : Option Addr) (n m c d : Nat) (l : List Ld) (w : World) (ha : LoadsIn w A n l) (hb : LoadsIn w B m l) :
    Calls Try.prog 35 #[.slice A n c, .slice B m d] w fun e w' => e = .returned (.bool true) ∧ Below w.heap.size w w' := by
  have hn := ha.len
  obtain rfl := ha.1
  obtain rfl := hb.1
  go_enter Try.func35, Try.ntmps35
  go_wp2
  go_loopw [5] (fun i wr => ∃ k : Nat, k ≤ l.length ∧ i = .int .i64 k ∧ Below w.heap.size w wr) (fun i _ => l.length - (intOf i).toNat)
  case atStart => exact ⟨0, by omega, rfl, Below.refl _ _⟩
  case round =>
    obtain ⟨k, hk, rfl, HD⟩ := hrel
    by_cases hlt : k < l.length
    · obtain ⟨b1, o1, rfl, _, hc0, hc1, hc2⟩ := load_at (ha.keep HD) hlt
      obtain ⟨b2, o2, rfl, _, hd0, hd1, hd2⟩ := load_at (hb.keep HD) hlt
      go_wp2
      go_still_tail 8, (by kernel_rfl)
      change wpList _ _ _ _ _ wr.drew
      have HE : Below w.heap.size w wr.drew := HD.drew
      generalize wr.drew = w2 at *
      go_wp2_with (go_at_call 101; refine (eqLoad_yes _ _ _ _).mono ?_; rintro e w3 ⟨rfl, hb3⟩)
      go_roundw
      case rel => exact ⟨k + 1, by omega, by go_num, HE.trans (hb3.mono HE.size)⟩
      case measure => simp [intOf]; omega
    · obtain rfl : k = l.length := by omega
      go_wp2
      go_ret
      exact ⟨rfl, HD⟩
def okLd (x : Ld) : Prop := x.1.size ≤ 9223372036854775807
set_option maxRecDepth 100000 in
set_option maxHeartbeats 4000000 in
/-- The marks on arguments: what they are is not asked. -/
theorem markLoadS_any (A : Option Addr) (n c lo hi : Nat) (l : List Ld) (k0 : Int) (w : World) (ha : RowsAt ldF 91 w lo hi A n c l) (hk0 : 1 ≤ k0) (hk1 : k0 ≤ 2000000000000000000) (hn : l.length ≤ 16777216) :
    Calls Try.prog 40 #[.slice A n c, .int .i64 k0] w fun e w' => e = .returned (.int .i64 (k0 + 3 * l.length)) ∧ True ∧ Only lo hi w w' := by
  obtain rfl := ha.1
  have HLN := Lib.hid (flatMap_len ldF.enc 3 ldF.len l)
  obtain ⟨_, ⟨hown, hhi, hlt⟩⟩ := ha
  have HT := Lib.hid hlt
  clear hlt
  go_enter Try.func40, Try.ntmps40
  go_wp2
  go_loopw [1, 5] (fun m i wr => ∃ (k : Nat) (xs : List Value), k ≤ l.length ∧ i = .int .i64 k ∧ m = .int .i64 (k0 + 3 * k) ∧ wr.ownsRow lo 91 3 (.slice A l.length c) l.length xs ∧ Only lo hi w wr) (fun _ i _ => l.length - (intOf i).toNat)
  case atStart => exact ⟨0, _, by omega, rfl, by go_num, hown, Only.refl _ _ _⟩
  case round =>
    clear hown
    obtain ⟨k, xs, hk, rfl, rfl, ho, HO⟩ := hrel
    by_cases hlt : k < l.length
    · have hA : ∃ g, A = some ⟨g, 0, none⟩ := by
        rcases ho.2 with ⟨hv, h0⟩ | ⟨g, cap, cur, hv, _⟩
        · omega
        · exact ⟨g, by injection hv⟩
      obtain ⟨g, rfl⟩ := hA
      have hgl : lo ≤ g ∧ g < hi := ⟨(own_lt ho _ rfl).1, HT.out _ rfl⟩
      have hgo : ∀ x, (Value.slice (some ⟨g, 0, none⟩) l.length c).ownBlock = some x → lo ≤ x ∧ x < hi := fun x hx => by injection hx with hx; subst hx; exact hgl
      have HGO := Lib.hid hgo
      clear hgo
      go_wp2_with fail
      refine (markText_some _ _ (by omega) (by omega)).mono ?_
      rintro e v0 ⟨t0, rfl, hb0⟩
      have hq0 := own_keep ho hb0
      replace HO := HO.trans (Only.of_below hb0)
      clear hb0
      obtain ⟨u0, c0, f0⟩ := own_cell hq0 (k * 3) (by omega)
      obtain ⟨u1, c1, f1⟩ := own_cell hq0 (k * 3 + 1) (by omega)
      obtain ⟨u2, c2, f2⟩ := own_cell hq0 (k * 3 + 2) (by omega)
      have s0 := (hq0.stored (k * 3) (.string t0))
      replace HO := HO.trans (Only.of_grown s0.2 HGO.out)
      have s1 := (s0.1.stored (k * 3 + 1) (.int .i64 (k0 + 3 * k + 1)))
      replace HO := HO.trans (Only.of_grown s1.2 HGO.out)
      have s2 := (s1.1.stored (k * 3 + 2) (.int .i64 (k0 + 3 * k + 1 + 1)))
      replace HO := HO.trans (Only.of_grown s2.2 HGO.out)
      have S2 := Lib.hid s2.1
      go_wp2
      go_roundw
      case rel => exact ⟨k + 1, _, by omega, by go_num, by go_num, S2.out, HO⟩
      case measure => simp [intOf]; omega
    · obtain rfl : k = l.length := by omega
      go_wp2
      go_ret
      exact ⟨rfl, trivial, HO⟩
end Go.Proofs.Ytlnkofnfgemfdaa
/- Rows of numbers of the call's own: made whole, read, written one by one. -/
namespace Go.Proofs.Ytlnkofnfgemfdaa
open Go.RowKit

/-- The row of numbers in block g. -/
def NumRow (w : World) (lo g n c : Nat) (l : List Int) : Prop := n = l.length ∧ w.ownsRow lo 3 1 (.slice (some ⟨g, 0, none⟩) n c) n (ints l)
section
variable {w w' : World} {lo g n c : Nat} {l : List Int}
theorem NumRow.cell (h : NumRow w lo g n c l) {j : Nat} (hj : j < l.length) : w.cell? ⟨g, j, none⟩ = some (.int .i64 l[j]) := by
  rw [h.2.cellAt j (by have := h.1; omega)]; simp [hj]
theorem NumRow.frozen (h : NumRow w lo g n c l) (j : Nat) : w.frozen? ⟨g, j, none⟩ = false := h.2.frozenAt j
theorem NumRow.set (h : NumRow w lo g n c l) (j : Nat) (x : Int) : NumRow (w.setCell ⟨g, j, none⟩ (.int .i64 x)) lo g n c (l.set j x) :=
  ⟨by simp [h.1], by rw [ints, List.map_set]; exact (h.2.stored j (.int .i64 x)).1⟩
theorem NumRow.far (h : NumRow w lo g n c l) {p : Addr} {v : Value} (hp : p.block ≠ g) : NumRow (w.setCell p v) lo g n c l := by
  refine ⟨h.1, ?_⟩
  refine h.2.kept (row := some p.block) ⟨rfl, rfl, rfl, by simp, fun k _ hk => heap_setCell_other w p k v (fun e => hk (by simp [e]))⟩ (.inr ?_)
  simp [Value.ownBlock]; exact fun h => hp h.symm
theorem NumRow.keep (h : NumRow w lo g n c l) (hb : Below w.heap.size w w') : NumRow w' lo g n c l := ⟨h.1, own_keep h.2 hb⟩
theorem NumRow.drew (h : NumRow w lo g n c l) : NumRow w.drew lo g n c l := h
theorem NumRow.drewN (h : NumRow w lo g n c l) (k : Nat) : NumRow (w.drewN k) lo g n c l := h.keep (below_drewN (Below.refl _ _) _)
theorem NumRow.lt (h : NumRow w lo g n c l) : lo ≤ g ∧ g < w.heap.size := own_lt h.2 _ rfl
theorem NumRow.len (h : NumRow w lo g n c l) : l.length = n := h.1.symm
theorem NumRow.ints (h : NumRow w lo g n c l) (hn : l.length ≤ 16777216) : IntsIn w (some ⟨g, 0, none⟩) n l := ⟨h.1, Sl.of_own h.2 (by have := h.1; omega)⟩
end
theorem below_in {w w1 : World} {b o : Nat} {v : Value} (hb : Below w.heap.size w w1) (h : b < w.heap.size) (hc : w.cell? ⟨b, o, none⟩ = some v) : w1.cell? ⟨b, o, none⟩ = some v := (hb.cell (p := ⟨b, o, none⟩) h).trans hc
theorem cell_far {w : World} {g i b j : Nat} {v : Value} (h : g ≠ b) : (w.setCell ⟨g, i, none⟩ v).cell? ⟨b, j, none⟩ = w.cell? ⟨b, j, none⟩ :=
  World.cell?_setCell_other _ _ _ _ (by intro e; injection e; contradiction)
theorem numRow_made {w : World} {lo g n : Nat} (h : w.ownsRow lo 3 1 (.slice (some ⟨g, 0, none⟩) n n) n (madeCells (Value.int .i64 0).cells (n * 1)).toList) : NumRow w lo g n n (List.replicate n 0) := by
  refine ⟨by simp, ?_⟩
  have e : (madeCells (Value.int .i64 0).cells (n * 1)).toList = ints (List.replicate n 0) := by
    rw [show (Value.int .i64 0).cells = #[.int .i64 0] by rfl, toList_madeCells_one, Nat.mul_one, ints, List.map_replicate]
  rw [← e]; exact h
theorem wpList_make_nums {w : World} {ops : Array Oper} {rest : List Oper} {o : Oper} {a : Act} {Q : Exit → Act → World → Prop}
    (hg : o.guard = none) (l c : Operand) (hop : o.op = Op.makeSlice 26 l c) (base : Nat) {kl kc : IntKind} {L C : Int} (n : Nat) (hl : a.eval l = .int kl L) (hc : a.eval c = .int kc C) (hL : L = (n : Int)) (hC : C = (n : Int)) (hn : n ≤ 16777216) (b4 : base ≤ w.heap.size)
    (hK : ∀ w', NumRow w' base w.heap.size n n (List.replicate n 0) → Below w.heap.size w w' → w.heap.size < w'.heap.size → wpList Try.prog ops Q rest (a.put o.dst (.slice (some ⟨w.heap.size, 0, none⟩) n n)) w') :
    wpList Try.prog ops Q (o :: rest) a w := by
  obtain ⟨i0, hi0, hz0, hz1, hz2⟩ := info_parts intInfo
  refine wpList_make_full _ hg l c _ hop base 3 i0 _ 1 Try.underlying26 hi0 hz0 hz1 kl kc L C n hl hc hL hC (by rw [hz2]; omega) (by unfold maxLen; omega) b4 ?_
  intro w' h1 h2
  exact hK w' (numRow_made h1) (below_none h2) (own_lt (numRow_made h1).2 _ rfl).2
end Go.Proofs.Ytlnkofnfgemfdaa
