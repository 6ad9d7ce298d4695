/- Part 2 of the texts of this claim: What an append of one element does to a row of the call's own; The walk of the laws' own marks that are texts: some text comes back; Item: its cells, and the walks of the laws' own helpers on lists of it; CondNode: its cells, and the walks of the laws' own helpers on lists of it; Items, catalogs, conditions (plain): what both the reference and the program ask of them. -/
import Derived.Test.YtlnkofnfgemfdaaGreatIp1
import Derived.Laws.BytesArg
import Derived.StillTailTactics
/- What an append of one element does to a row of the call's own. -/
namespace Go.Proofs.YtlnkofnfgemfdaaGreat
open Go.RowKit
theorem own_form {w : World} {lo : Nat} {e : TypeId} {sz n : Nat} {v : Value} {xs : List Value} (h : w.ownsRow lo e sz v n xs) : ∃ A c, v = .slice A n c := by
  rcases h.2 with ⟨hv, h0⟩ | ⟨g, cap, cur, hv, _⟩
  · exact ⟨none, 0, by rw [hv, h0]⟩
  · exact ⟨_, _, hv⟩
theorem own_block {w : World} {lo : Nat} {e : TypeId} {sz n : Nat} {v : Value} {xs : List Value} (h : w.ownsRow lo e sz v n xs) : ∀ g, v.ownBlock = some g → lo ≤ g := by
  intro g hg
  rcases h.2 with ⟨hv, h0⟩ | ⟨g', cap, cur, hv, hlo, _⟩
  · rw [hv] at hg; simp [Value.ownBlock] at hg
  · rw [hv] at hg
    simp [Value.ownBlock] at hg
    omega
/-- A value that is a row of flat structs of the call's own. -/
def RowVal {α : Type} (F : Flat α) (e : TypeId) (w : World) (lo : Nat) (v : Value) (l : List α) : Prop := w.ownsRow lo e F.sz v l.length (l.flatMap F.enc)
section
variable {α : Type} {F : Flat α} {e : TypeId} {w w' : World} {lo : Nat} {v v' : Value} {l : List α}
theorem RowVal.form (h : RowVal F e w lo v l) : ∃ A c, v = .slice A l.length c ∧ OwnRows F e w lo A l.length c l := by
  obtain ⟨A, c, rfl⟩ := own_form h
  exact ⟨A, c, rfl, rfl, h⟩
theorem OwnRows.val {A : Option Addr} {n c : Nat} (h : OwnRows F e w lo A n c l) : RowVal F e w lo (.slice A n c) l := by
  obtain ⟨rfl, h⟩ := h
  exact h
theorem RowVal.keep (h : RowVal F e w lo v l) (hb : Below w.heap.size w w') : RowVal F e w' lo v l := own_keep h hb
theorem RowVal.alloc (h : RowVal F e w lo v l) (o : Obj) : RowVal F e (w.alloc o) lo v l := World.ownsRow.alloc h o
theorem RowVal.nil (w : World) (lo : Nat) : RowVal F e w lo (.slice none 0 0) [] := World.ownsRow_nil _ _ _ _
/-- Behind the append's law: what the row is now, and that nothing else has turned. -/
theorem RowVal.snoc {x : α} {xs : List Value} (hx : xs = F.enc x) (h : w'.ownsRow lo e F.sz v' (l.length + 1) (l.flatMap F.enc ++ xs)) : RowVal F e w' lo v' (l ++ [x]) := by
  subst hx
  unfold RowVal
  rw [List.length_append, List.flatMap_append]
  simpa using h
theorem RowVal.below {B : Nat} (h : RowVal F e w lo v l) (hg : w.grownBy w' v.ownBlock) (hB : B ≤ lo) (hw : B ≤ w.heap.size) : Below B w w' :=
  below_grown hg hw (fun g hgg => Nat.le_trans hB (own_block h g hgg))
end
theorem empty_own (w : World) (lo : Nat) (e : TypeId) (sz : Nat) (h : lo ≤ w.heap.size) : (w.alloc (.cells #[] e)).ownsRow lo e sz (.slice (some ⟨w.heap.size, 0, none⟩) 0 0) 0 [] :=
  World.ownsRow_lit w #[] 0 h (by unfold maxLen; omega) (by simp)

theorem empty_row {α : Type} {F : Flat α} {e : TypeId} {w : World} {lo H : Nat} (hH : w.heap.size = H) (h : lo ≤ w.heap.size) : RowVal F e (w.alloc (.cells #[] e)) lo (.slice (some ⟨H, 0, none⟩) 0 0) [] := by
  subst hH
  exact empty_own w lo e F.sz h

/-- What the program's table says of a slice type of flat structs. -/
def ElemOk {α : Type} (F : Flat α) (t e : TypeId) : Prop :=
  ∃ (i : TypeInfo) (z : Value) (bytes : Nat), Tryz.prog.underlying t = some (.slice e) ∧ Tryz.prog.info? e = some i ∧ i.zero = some z ∧ i.size = F.sz ∧ i.bytes = bytes ∧ z.cells.size = F.sz ∧ 0 < F.sz ∧ bytes ≤ 1000
theorem news_at {w : World} {H : Nat} (hH : w.heap.size = H) (cs : Array Value) (e : TypeId) : ∀ j u, cs.toList[j]? = some u → (w.alloc (.cells cs e)).cell? ((⟨H, 0, none⟩ : Addr).add j) = some u := by
  intro j u hu
  subst hH
  have h := heap_alloc_new w (.cells cs e)
  rw [Addr.add_lit, Nat.zero_add]
  unfold World.cell?
  simp only [h]
  simpa using hu
/-- out = append(out, x), out a row of the call's own, x a struct that has just been laid in a block of its own. -/
theorem wpList_append_one {α : Type} {F : Flat α} {t e : TypeId} (hE : ElemOk F t e) {w1 : World} {ops : Array Oper} {rest : List Oper} {o : Oper} {a : Act} {Q : Exit → Act → World → Prop} (hgd : o.guard = none) (s x : Operand)
    (ho : o.op = .call { callee := .builtin .append, args := #[s, x], argTypes := #[t, t] }) {lo : Nat} {v : Value} {l : List α} (hs : a.eval s = v) (hrow : RowVal F e w1 lo v l) (hlen : l.length ≤ 16777216)
    (y : α) (cs : Array Value) (hcs : cs.toList = F.enc y) (hone : ∀ u ∈ cs.toList, u.oneCell' = true) (H c : Nat) (hH : w1.heap.size = H) (hx : a.eval x = .slice (some ⟨H, 0, none⟩) 1 c) (hlo : lo ≤ w1.heap.size)
    (h : ∀ v' w', RowVal F e w' lo v' (l ++ [y]) → (∀ B, B ≤ lo → B ≤ w1.heap.size → Below B w1 w') → w1.heap.size < w'.heap.size → wpList Tryz.prog ops Q rest (a.put o.dst v') w') :
    wpList Tryz.prog ops Q (o :: rest) a (w1.alloc (.cells cs e)) := by
  obtain ⟨i, z, bytes, ht, hi, hz, hsz, hby, hzs, hpos, hbb⟩ := hE
  have hb2 : (l.length + 1) * bytes ≤ 140737488355328 := Nat.le_trans (Nat.mul_le_mul (show l.length + 1 ≤ 16777217 by omega) hbb) (by omega)
  refine wpList_append_own _ hgd s x t ho lo e i z F.sz bytes ht hi hz hsz hby hzs hpos v l.length (l.flatMap F.enc) hs (hrow.alloc _) ⟨H, 0, none⟩ 1 c cs.toList hx (by rw [hcs, F.len, Nat.one_mul]) (news_at hH cs e) hone (by unfold maxLen; omega) hb2 (by simp; omega) (fun v' w' h2 h3 _ => h v' w' (RowVal.snoc hcs h2) (fun B hB hB2 => ?_) ?_)
  · refine ((Below.refl B w1).alloc hB2 _).trans (below_grown h3 (by simp; omega) (fun g hg => Nat.le_trans hB (own_block hrow g hg)))
  · have := h3.size; simp at this; omega
end Go.Proofs.YtlnkofnfgemfdaaGreat
/- The walk of the laws' own marks that are texts: some text comes back. -/
namespace Go.Proofs.YtlnkofnfgemfdaaGreat
open Go.RowKit
def SomeText (w : World) (e : Ending) (w' : World) : Prop := ∃ s : ByteArray, e = .returned (.string s) ∧ Below w.heap.size w w'
set_option maxRecDepth 100000 in
set_option maxHeartbeats 1000000 in
theorem markText_some (k : Int) (w : World) (h0 : 1 ≤ k) (h1 : k ≤ 4000000000000000000) : Calls Tryz.prog 76 #[.int .i64 k] w (SomeText w) := by
  go_enter Tryz.func76, Tryz.ntmps76
  go_wp2
  go_loopw [0, 3] (fun i v wr => ∃ (x : Int) (s : ByteArray), 0 ≤ x ∧ i = .int .i64 x ∧ v = .string s ∧ (s.size : Int) + x ≤ 4000000000000000000 ∧ Below w.heap.size w wr) (fun i _ _ => (intOf i).toNat)
  case atStart => exact ⟨k, ByteArray.empty, by omega, rfl, rfl, by simp; omega, Below.refl _ _⟩
  case round =>
    obtain ⟨x, s, x0, rfl, rfl, hs, HR⟩ := hrel
    have hsz := HR.size
    by_cases hlt : 0 < x
    · have hm1 := Int.emod_nonneg x (show (10 : Int) ≠ 0 by omega)
      have hm2 := Int.emod_lt_of_pos x (show (0 : Int) < 10 by omega)
      have hcell : ∀ i, i < 1 → (wr.alloc (.cells #[.int .u8 (48 + x % 10)] 5)).cell? ⟨wr.heap.size, 0 + i, none⟩ = some (.int .u8 ([48 + x % 10].getD i 0)) := fun i hi => by
        have h0 : i = 0 := by omega
        subst h0
        simp [go_sem]
      obtain ⟨t, ht, hts⟩ : ∃ t : ByteArray, (convert 181 9 (.slice (some ⟨wr.heap.size, 0, none⟩) 1 1)).run Tryz.prog (wr.alloc (.cells #[.int .u8 (48 + x % 10)] 5)) = .ok (.string t) (wr.alloc (.cells #[.int .u8 (48 + x % 10)] 5)) ∧ t.size = 1 :=
        ⟨_, run_convert_bytes_arg _ 181 5 Tryz.underlying181 Tryz.underlying5 wr.heap.size 0 1 1 [48 + x % 10] rfl hcell 9 Tryz.underlying9, by rw [strOfNums_size]; rfl⟩
      clear hcell
      have hfit : ¬ 9223372036854775807 < t.size + s.size := by omega
      have HTS := Lib.hid hts
      clear hts
      go_wp2
      go_roundw
      case rel => exact ⟨x / 10, t ++ s, by omega, rfl, rfl, by rw [ByteArray.size_append, HTS.out]; omega, HR.alloc hsz _⟩
      case measure => simp [intOf]; omega
    · obtain rfl : x = 0 := by omega
      have hfit : ¬ 9223372036854775807 < 1 + s.size := by omega
      go_wp2
      go_ret
      exact ⟨_, rfl, HR⟩
end Go.Proofs.YtlnkofnfgemfdaaGreat
/- Item: its cells, and the walks of the laws' own helpers on lists of it. -/
namespace Go.Proofs.YtlnkofnfgemfdaaGreat
open Go.RowKit

abbrev It := ByteArray × ByteArray × Int × Int × Int × Int × Int × Int
def itF : Flat It := ⟨fun f => [.string (f.1), .string (f.2.1), .int .i64 (f.2.2.1), .int .i64 (f.2.2.2.1), .int .i64 (f.2.2.2.2.1), .int .i64 (f.2.2.2.2.2.1), .int .i64 (f.2.2.2.2.2.2.1), .int .i64 (f.2.2.2.2.2.2.2)], 8, fun _ => rfl⟩
abbrev ItemsIn (w : World) (A : Option Addr) (n : Nat) (l : List It) : Prop := RowsIn itF w A n l
theorem item_at {w : World} {A : Option Addr} {n : Nat} {l : List It} (h : ItemsIn w A n l) {k : Nat} (hk : k < l.length) :
    ∃ b o, A = some ⟨b, o, none⟩ ∧ b < w.heap.size ∧ w.cell? ⟨b, o + k * 8, none⟩ = some (.string (l[k].1)) ∧ w.cell? ⟨b, o + k * 8 + 1, none⟩ = some (.string (l[k].2.1)) ∧ w.cell? ⟨b, o + k * 8 + 2, none⟩ = some (.int .i64 (l[k].2.2.1)) ∧ w.cell? ⟨b, o + k * 8 + 3, none⟩ = some (.int .i64 (l[k].2.2.2.1)) ∧ w.cell? ⟨b, o + k * 8 + 4, none⟩ = some (.int .i64 (l[k].2.2.2.2.1)) ∧ w.cell? ⟨b, o + k * 8 + 5, none⟩ = some (.int .i64 (l[k].2.2.2.2.2.1)) ∧ w.cell? ⟨b, o + k * 8 + 6, none⟩ = some (.int .i64 (l[k].2.2.2.2.2.2.1)) ∧ w.cell? ⟨b, o + k * 8 + 7, none⟩ = some (.int .i64 (l[k].2.2.2.2.2.2.2)) := by
  obtain ⟨b, o, e, hlt, hc⟩ := h.at_ hk
  exact ⟨b, o, e, hlt, hc 0 _ rfl, hc 1 _ rfl, hc 2 _ rfl, hc 3 _ rfl, hc 4 _ rfl, hc 5 _ rfl, hc 6 _ rfl, hc 7 _ rfl⟩
theorem itemInfo : (Tryz.prog.info? 81).map (fun i => (i.zero, i.size, i.bytes)) = some (some (.agg #[.string ByteArray.empty, .string ByteArray.empty, .int .i64 0, .int .i64 0, .int .i64 0, .int .i64 0, .int .i64 0, .int .i64 0]), 8, 80) := by kernel_rfl
theorem itemElem : ElemOk itF 39 81 := by
  obtain ⟨i, h1, h2, h3, h4⟩ := info_parts itemInfo
  exact ⟨i, _, 80, Tryz.underlying39, h1, h2, h3, h4, rfl, by decide, by omega⟩
theorem toItem_any (x0 : ByteArray) (x1 : ByteArray) (x2 : Int) (x3 : Int) (x4 : Int) (x5 : Int) (x6 : Int) (x7 : Int) (w : World) : Calls Tryz.prog 108 #[.agg #[.string (x0), .string (x1), .int .i64 (x2), .int .i64 (x3), .int .i64 (x4), .int .i64 (x5), .int .i64 (x6), .int .i64 (x7)]] w fun e w' => e = .returned (.agg #[.string (x0), .string (x1), .int .i64 (x2), .int .i64 (x3), .int .i64 (x4), .int .i64 (x5), .int .i64 (x6), .int .i64 (x7)]) ∧ Below w.heap.size w w' := by
  go_enter Tryz.func108, Tryz.ntmps108
  go_wp2
  refine bodyPost_ret (v := .agg #[.string (x0), .string (x1), .int .i64 (x2), .int .i64 (x3), .int .i64 (x4), .int .i64 (x5), .int .i64 (x6), .int .i64 (x7)]) (by simp [results, Tryz.results108, go_sem]) rfl ⟨rfl, ?_⟩
  exact (((Below.refl _ _).alloc (Nat.le_refl _) _).alloc (by simp) _).alloc (by simp; omega) _
set_option maxRecDepth 100000 in
set_option maxHeartbeats 2000000 in
theorem toItemS_any (A : Option Addr) (n c : Nat) (l : List It) (w : World) (hl : ItemsIn w A n l) :
    Calls Tryz.prog 46 #[.slice A n c] w fun e w' => ∃ A', e = .returned (.slice A' n n) ∧ OwnRows itF 81 w' w.heap.size A' n n l ∧ Below w.heap.size w w' := by
  obtain ⟨i0, hi0, hz0, hz1, hz2⟩ := info_parts itemInfo
  have hn := hl.len
  obtain rfl := hl.1
  go_enter Tryz.func46, Tryz.ntmps46
  go_wp2_with (at_make; refine wpList_make_full _ rfl (.tmp 6) (.tmp 6) _ rfl w.heap.size 81 i0 _ 8 Tryz.underlying39 hi0 hz0 hz1 .i64 .i64 _ _ l.length rfl rfl rfl rfl (by rw [hz2]; omega) (by unfold maxLen; omega) (Nat.le_refl _) ?_; intro w1 hown hg)
  have hb1 := below_none hg
  generalize hzs : (madeCells (Value.agg #[.string ByteArray.empty, .string ByteArray.empty, .int .i64 0, .int .i64 0, .int .i64 0, .int .i64 0, .int .i64 0, .int .i64 0]).cells (l.length * 8)).toList = zs at hown
  have hzl : zs.length = (l.flatMap itF.enc).length := by rw [flatMap_len itF.enc 8 itF.len, hown.1]
  clear hg hzs
  have HZ := Lib.hid hzl; clear hzl
  have hown1 : w1.ownsRow w.heap.size 81 8 (.slice (some ⟨w.heap.size, 0, none⟩) l.length l.length) l.length (fillC zs (l.flatMap itF.enc) 0) := by
    rw [fillC_zero]; exact hown
  clear hown
  go_loopw [4] (fun i wr => ∃ k : Nat, k ≤ l.length ∧ i = .int .i64 k ∧ wr.ownsRow w.heap.size 81 8 (.slice (some ⟨w.heap.size, 0, none⟩) l.length l.length) l.length (fillC zs (l.flatMap itF.enc) (k * 8)) ∧ Below w.heap.size w wr) (fun i _ => l.length - (intOf i).toNat)
  case atStart => exact ⟨0, by omega, rfl, by rw [Nat.zero_mul]; exact hown1, hb1⟩
  case round =>
    obtain ⟨k, hk, rfl, hown, hb⟩ := hrel
    by_cases hlt : k < l.length
    · obtain ⟨b, o, rfl, _, hc0, hc1, hc2, hc3, hc4, hc5, hc6, hc7⟩ := item_at (hl.keep hb) hlt
      go_wp2_with fail
      refine (toItem_any _ _ _ _ _ _ _ _ _).mono ?_
      rintro e w2 ⟨rfl, hb2⟩
      have ho := own_keep hown hb2
      have hlen : (l.flatMap itF.enc).length = l.length * 8 := flatMap_len itF.enc 8 itF.len l
      have hz := HZ.out
      have e0 : (l.flatMap itF.enc)[k * 8]? = some (.string (l[k].1)) := flatMap_at itF.enc 8 itF.len l k 0 hlt (by omega)
      obtain ⟨u0, c0, f0⟩ := own_cell ho (k * 8) (by omega)
      have e1 : (l.flatMap itF.enc)[k * 8 + 1]? = some (.string (l[k].2.1)) := flatMap_at itF.enc 8 itF.len l k 1 hlt (by omega)
      obtain ⟨u1, c1, f1⟩ := own_cell ho (k * 8 + 1) (by omega)
      have e2 : (l.flatMap itF.enc)[k * 8 + 2]? = some (.int .i64 (l[k].2.2.1)) := flatMap_at itF.enc 8 itF.len l k 2 hlt (by omega)
      obtain ⟨u2, c2, f2⟩ := own_cell ho (k * 8 + 2) (by omega)
      have e3 : (l.flatMap itF.enc)[k * 8 + 3]? = some (.int .i64 (l[k].2.2.2.1)) := flatMap_at itF.enc 8 itF.len l k 3 hlt (by omega)
      obtain ⟨u3, c3, f3⟩ := own_cell ho (k * 8 + 3) (by omega)
      have e4 : (l.flatMap itF.enc)[k * 8 + 4]? = some (.int .i64 (l[k].2.2.2.2.1)) := flatMap_at itF.enc 8 itF.len l k 4 hlt (by omega)
      obtain ⟨u4, c4, f4⟩ := own_cell ho (k * 8 + 4) (by omega)
      have e5 : (l.flatMap itF.enc)[k * 8 + 5]? = some (.int .i64 (l[k].2.2.2.2.2.1)) := flatMap_at itF.enc 8 itF.len l k 5 hlt (by omega)
      obtain ⟨u5, c5, f5⟩ := own_cell ho (k * 8 + 5) (by omega)
      have e6 : (l.flatMap itF.enc)[k * 8 + 6]? = some (.int .i64 (l[k].2.2.2.2.2.2.1)) := flatMap_at itF.enc 8 itF.len l k 6 hlt (by omega)
      obtain ⟨u6, c6, f6⟩ := own_cell ho (k * 8 + 6) (by omega)
      have e7 : (l.flatMap itF.enc)[k * 8 + 7]? = some (.int .i64 (l[k].2.2.2.2.2.2.2)) := flatMap_at itF.enc 8 itF.len l k 7 hlt (by omega)
      obtain ⟨u7, c7, f7⟩ := own_cell ho (k * 8 + 7) (by omega)
      have s0 := (ho.stored (k * 8) (.string (l[k].1))).1
      rw [fillC_set _ _ _ _ e0 hz] at s0
      have s1 := (s0.stored (k * 8 + 1) (.string (l[k].2.1))).1
      rw [fillC_set _ _ _ _ e1 hz] at s1
      have s2 := (s1.stored (k * 8 + 2) (.int .i64 (l[k].2.2.1))).1
      rw [fillC_set _ _ _ _ e2 hz] at s2
      have s3 := (s2.stored (k * 8 + 3) (.int .i64 (l[k].2.2.2.1))).1
      rw [fillC_set _ _ _ _ e3 hz] at s3
      have s4 := (s3.stored (k * 8 + 4) (.int .i64 (l[k].2.2.2.2.1))).1
      rw [fillC_set _ _ _ _ e4 hz] at s4
      have s5 := (s4.stored (k * 8 + 5) (.int .i64 (l[k].2.2.2.2.2.1))).1
      rw [fillC_set _ _ _ _ e5 hz] at s5
      have s6 := (s5.stored (k * 8 + 6) (.int .i64 (l[k].2.2.2.2.2.2.1))).1
      rw [fillC_set _ _ _ _ e6 hz] at s6
      have s7 := (s6.stored (k * 8 + 7) (.int .i64 (l[k].2.2.2.2.2.2.2))).1
      rw [fillC_set _ _ _ _ e7 hz] at s7
      have hb3 : Below w.heap.size w w2 := hb.trans (hb2.mono hb.size)
      have S2 := Lib.hid s7
      clear ho e0 e1 e2 e3 e4 e5 e6 e7 s0 s1 s2 s3 s4 s5 s6 s7 hown hz hlen hb hb2
      go_wp2
      go_roundw
      case rel => exact ⟨k + 1, by omega, by go_num, by rw [show (k + 1) * 8 = k * 8 + 1 + 1 + 1 + 1 + 1 + 1 + 1 + 1 by omega]; exact S2.out, ((((((((hb3.setCell (Nat.le_refl _) _).setCell (Nat.le_refl _) _).setCell (Nat.le_refl _) _).setCell (Nat.le_refl _) _).setCell (Nat.le_refl _) _).setCell (Nat.le_refl _) _).setCell (Nat.le_refl _) _).setCell (Nat.le_refl _) _)⟩
      case measure => simp [intOf]; omega
    · obtain rfl : k = l.length := by omega
      go_wp2
      go_ret
      refine ⟨_, rfl, ⟨rfl, ?_⟩, hb⟩
      have h2 : (l.flatMap itF.enc).length = l.length * 8 := flatMap_len itF.enc 8 itF.len l
      rw [← h2, fillC_all _ _ HZ.out] at hown
      exact hown
theorem eqItem_yes (x0 : ByteArray) (x1 : ByteArray) (x2 : Int) (x3 : Int) (x4 : Int) (x5 : Int) (x6 : Int) (x7 : Int) (w : World) : Calls Tryz.prog 124 #[.agg #[.string (x0), .string (x1), .int .i64 (x2), .int .i64 (x3), .int .i64 (x4), .int .i64 (x5), .int .i64 (x6), .int .i64 (x7)], .agg #[.string (x0), .string (x1), .int .i64 (x2), .int .i64 (x3), .int .i64 (x4), .int .i64 (x5), .int .i64 (x6), .int .i64 (x7)]] w fun e w' => e = .returned (.bool true) ∧ Below w.heap.size w w' := by
  go_enter Tryz.func124, Tryz.ntmps124
  go_wp2
  go_ret
  exact ⟨rfl, ((Below.refl _ _).alloc (Nat.le_refl _) _).alloc (by simp) _⟩
set_option maxRecDepth 100000 in
set_option maxHeartbeats 2000000 in
theorem eqItemS_yes (A B : Option Addr) (n m c d : Nat) (l : List It) (w : World) (ha : ItemsIn w A n l) (hb : ItemsIn w B m l) :
    Calls Tryz.prog 63 #[.slice A n c, .slice B m d] w fun e w' => e = .returned (.bool true) ∧ Below w.heap.size w w' := by
  have hn := ha.len
  obtain rfl := ha.1
  obtain rfl := hb.1
  go_enter Tryz.func63, Tryz.ntmps63
  go_wp2
  go_loopw [5] (fun i wr => ∃ k : Nat, k ≤ l.length ∧ i = .int .i64 k ∧ Below w.heap.size w wr) (fun i _ => l.length - (intOf i).toNat)
  case atStart => exact ⟨0, by omega, rfl, Below.refl _ _⟩
  case round =>
    obtain ⟨k, hk, rfl, HD⟩ := hrel
    by_cases hlt : k < l.length
    · obtain ⟨b1, o1, rfl, _, hc0, hc1, hc2, hc3, hc4, hc5, hc6, hc7⟩ := item_at (ha.keep HD) hlt
      obtain ⟨b2, o2, rfl, _, hd0, hd1, hd2, hd3, hd4, hd5, hd6, hd7⟩ := item_at (hb.keep HD) hlt
      go_wp2
      go_still_tail 8, (by kernel_rfl)
      change wpList _ _ _ _ _ wr.drew
      have HE : Below w.heap.size w wr.drew := HD.drew
      generalize wr.drew = w2 at *
      go_wp2_with (go_at_call 124; refine (eqItem_yes _ _ _ _ _ _ _ _ _).mono ?_; rintro e w3 ⟨rfl, hb3⟩)
      go_roundw
      case rel => exact ⟨k + 1, by omega, by go_num, HE.trans (hb3.mono HE.size)⟩
      case measure => simp [intOf]; omega
    · obtain rfl : k = l.length := by omega
      go_wp2
      go_ret
      exact ⟨rfl, HD⟩
def okIt (x : It) : Prop := x.1.size ≤ 9223372036854775807 ∧ x.2.1.size ≤ 9223372036854775807
set_option maxRecDepth 100000 in
set_option maxHeartbeats 1000000 in
theorem szItem_any (x0 : ByteArray) (x1 : ByteArray) (x2 : Int) (x3 : Int) (x4 : Int) (x5 : Int) (x6 : Int) (x7 : Int) (left : Int) (w : World) (h0 : 0 ≤ left) (h1 : left ≤ 1048576) (hs0 : x0.size ≤ 9223372036854775807) (hs1 : x1.size ≤ 9223372036854775807) :
    Calls Tryz.prog 92 #[.agg #[.string (x0), .string (x1), .int .i64 (x2), .int .i64 (x3), .int .i64 (x4), .int .i64 (x5), .int .i64 (x6), .int .i64 (x7)], .int .i64 left] w fun e w' => ∃ r : Int, e = .returned (.int .i64 r) ∧ -1 ≤ r ∧ r ≤ left ∧ Below w.heap.size w w' := by
  go_enter Tryz.func92, Tryz.ntmps92
  go_wp2
  all_goals
    go_ret
    exact ⟨_, rfl, by omega, by omega, below_alloc _ _⟩
theorem szItemS_big (A : Option Addr) (n c : Nat) (left : Int) (w : World) (h : left < (n : Int)) (h0 : 0 ≤ left) (hn : n ≤ 9223372036854775807) :
    Calls Tryz.prog 31 #[.slice A n c, .int .i64 left] w fun e w' => e = .returned (.int .i64 (-1)) ∧ w = w' := by
  go_enter Tryz.func31, Tryz.ntmps31
  go_wp2
  go_ret
  exact ⟨rfl, rfl⟩
set_option maxRecDepth 100000 in
set_option maxHeartbeats 2000000 in
theorem szItemS_any (A : Option Addr) (n c : Nat) (l : List It) (left : Int) (w : World) (h : (n : Int) ≤ left) (hl : left ≤ 1048576) (ha : ItemsIn w A n l) (hok : ∀ x ∈ l, okIt x) :
    Calls Tryz.prog 31 #[.slice A n c, .int .i64 left] w fun e w' => ∃ r : Int, e = .returned (.int .i64 r) ∧ -1 ≤ r ∧ r ≤ 1048576 ∧ Below w.heap.size w w' := by
  have hn := ha.len
  obtain rfl := ha.1
  have HO := Lib.hid hok
  clear hok
  go_enter Tryz.func31, Tryz.ntmps31
  go_wp2
  go_loopw [1, 5] (fun r i wr => ∃ (k : Nat) (x : Int), k ≤ l.length ∧ i = .int .i64 k ∧ r = .int .i64 x ∧ 0 ≤ x ∧ x ≤ 1048576 ∧ Below w.heap.size w wr) (fun _ i _ => l.length - (intOf i).toNat)
  case atStart => exact ⟨0, _, by omega, rfl, rfl, by omega, by omega, Below.refl _ _⟩
  case round =>
    obtain ⟨k, x, hk, rfl, rfl, x0, x1, HR⟩ := hrel
    by_cases hlt : k < l.length
    · obtain ⟨b, o, rfl, _, hc0, hc1, hc2, hc3, hc4, hc5, hc6, hc7⟩ := item_at (ha.keep HR) hlt
      have hs := HO.out _ (List.getElem_mem hlt)
      unfold okIt at hs
      obtain ⟨hs0, hs1⟩ := hs
      go_wp2_with fail
      refine (szItem_any _ _ _ _ _ _ _ _ _ _ x0 x1 hs0 hs1).mono ?_
      rintro e v ⟨r, rfl, r0, r1, hb⟩
      by_cases hneg : r < 0
      · go_wp2_with fail
        go_ret
        exact ⟨-1, rfl, by omega, by omega, below_on HR hb⟩
      · go_wp2_with fail
        go_roundw
        case rel => exact ⟨k + 1, r, by omega, by go_num, rfl, by omega, by omega, below_on HR hb⟩
        case measure => simp [intOf]; omega
    · obtain rfl : k = l.length := by omega
      go_wp2
      go_ret
      exact ⟨x, rfl, by omega, by omega, HR⟩
set_option maxRecDepth 100000 in
set_option maxHeartbeats 4000000 in
/-- The marks on arguments: what they are is not asked. -/
theorem markItemS_any (A : Option Addr) (n c lo hi : Nat) (l : List It) (k0 : Int) (w : World) (ha : RowsAt itF 81 w lo hi A n c l) (hk0 : 1 ≤ k0) (hk1 : k0 ≤ 2000000000000000000) (hn : l.length ≤ 16777216) :
    Calls Tryz.prog 70 #[.slice A n c, .int .i64 k0] w fun e w' => e = .returned (.int .i64 (k0 + 8 * l.length)) ∧ True ∧ Only lo hi w w' := by
  obtain rfl := ha.1
  have HLN := Lib.hid (flatMap_len itF.enc 8 itF.len l)
  obtain ⟨_, ⟨hown, hhi, hlt⟩⟩ := ha
  have HT := Lib.hid hlt
  clear hlt
  go_enter Tryz.func70, Tryz.ntmps70
  go_wp2
  go_loopw [1, 5] (fun m i wr => ∃ (k : Nat) (xs : List Value), k ≤ l.length ∧ i = .int .i64 k ∧ m = .int .i64 (k0 + 8 * k) ∧ wr.ownsRow lo 81 8 (.slice A l.length c) l.length xs ∧ Only lo hi w wr) (fun _ i _ => l.length - (intOf i).toNat)
  case atStart => exact ⟨0, _, by omega, rfl, by go_num, hown, Only.refl _ _ _⟩
  case round =>
    clear hown
    obtain ⟨k, xs, hk, rfl, rfl, ho, HO⟩ := hrel
    by_cases hlt : k < l.length
    · have hA : ∃ g, A = some ⟨g, 0, none⟩ := by
        rcases ho.2 with ⟨hv, h0⟩ | ⟨g, cap, cur, hv, _⟩
        · omega
        · exact ⟨g, by injection hv⟩
      obtain ⟨g, rfl⟩ := hA
      have hgl : lo ≤ g ∧ g < hi := ⟨(own_lt ho _ rfl).1, HT.out _ rfl⟩
      have hgo : ∀ x, (Value.slice (some ⟨g, 0, none⟩) l.length c).ownBlock = some x → lo ≤ x ∧ x < hi := fun x hx => by injection hx with hx; subst hx; exact hgl
      have HGO := Lib.hid hgo
      clear hgo
      go_wp2_with fail
      refine (markText_some _ _ (by omega) (by omega)).mono ?_
      rintro e v0 ⟨t0, rfl, hb0⟩
      have hq0 := own_keep ho hb0
      replace HO := HO.trans (Only.of_below hb0)
      clear hb0
      obtain ⟨u0, c0, f0⟩ := own_cell hq0 (k * 8) (by omega)
      have s0 := (hq0.stored (k * 8) (.string t0))
      replace HO := HO.trans (Only.of_grown s0.2 HGO.out)
      go_wp2_with fail
      refine (markText_some _ _ (by omega) (by omega)).mono ?_
      rintro e v1 ⟨t1, rfl, hb1⟩
      have hq1 := own_keep s0.1 hb1
      replace HO := HO.trans (Only.of_below hb1)
      clear hb1
      obtain ⟨u1, c1, f1⟩ := own_cell hq1 (k * 8 + 1) (by omega)
      obtain ⟨u2, c2, f2⟩ := own_cell hq1 (k * 8 + 2) (by omega)
      obtain ⟨u3, c3, f3⟩ := own_cell hq1 (k * 8 + 3) (by omega)
      obtain ⟨u4, c4, f4⟩ := own_cell hq1 (k * 8 + 4) (by omega)
      obtain ⟨u5, c5, f5⟩ := own_cell hq1 (k * 8 + 5) (by omega)
      obtain ⟨u6, c6, f6⟩ := own_cell hq1 (k * 8 + 6) (by omega)
      obtain ⟨u7, c7, f7⟩ := own_cell hq1 (k * 8 + 7) (by omega)
      have s1 := (hq1.stored (k * 8 + 1) (.string t1))
      replace HO := HO.trans (Only.of_grown s1.2 HGO.out)
      have s2 := (s1.1.stored (k * 8 + 2) (.int .i64 (k0 + 8 * k + 1 + 1)))
      replace HO := HO.trans (Only.of_grown s2.2 HGO.out)
      have s3 := (s2.1.stored (k * 8 + 3) (.int .i64 (k0 + 8 * k + 1 + 1 + 1)))
      replace HO := HO.trans (Only.of_grown s3.2 HGO.out)
      have s4 := (s3.1.stored (k * 8 + 4) (.int .i64 (k0 + 8 * k + 1 + 1 + 1 + 1)))
      replace HO := HO.trans (Only.of_grown s4.2 HGO.out)
      have s5 := (s4.1.stored (k * 8 + 5) (.int .i64 (k0 + 8 * k + 1 + 1 + 1 + 1 + 1)))
      replace HO := HO.trans (Only.of_grown s5.2 HGO.out)
      have s6 := (s5.1.stored (k * 8 + 6) (.int .i64 (k0 + 8 * k + 1 + 1 + 1 + 1 + 1 + 1)))
      replace HO := HO.trans (Only.of_grown s6.2 HGO.out)
      have s7 := (s6.1.stored (k * 8 + 7) (.int .i64 (k0 + 8 * k + 1 + 1 + 1 + 1 + 1 + 1 + 1)))
      replace HO := HO.trans (Only.of_grown s7.2 HGO.out)
      have S2 := Lib.hid s7.1
      go_wp2
      go_roundw
      case rel => exact ⟨k + 1, _, by omega, by go_num, by go_num, S2.out, HO⟩
      case measure => simp [intOf]; omega
    · obtain rfl : k = l.length := by omega
      go_wp2
      go_ret
      exact ⟨rfl, trivial, HO⟩
end Go.Proofs.YtlnkofnfgemfdaaGreat
/- CondNode: its cells, and the walks of the laws' own helpers on lists of it. -/
namespace Go.Proofs.YtlnkofnfgemfdaaGreat
open Go.RowKit

abbrev Cn := Int × ByteArray × ByteArray
def cnF : Flat Cn := ⟨fun f => [.int .i64 (f.1), .string (f.2.1), .string (f.2.2)], 3, fun _ => rfl⟩
abbrev CondsIn (w : World) (A : Option Addr) (n : Nat) (l : List Cn) : Prop := RowsIn cnF w A n l
theorem cond_at {w : World} {A : Option Addr} {n : Nat} {l : List Cn} (h : CondsIn w A n l) {k : Nat} (hk : k < l.length) :
    ∃ b o, A = some ⟨b, o, none⟩ ∧ b < w.heap.size ∧ w.cell? ⟨b, o + k * 3, none⟩ = some (.int .i64 (l[k].1)) ∧ w.cell? ⟨b, o + k * 3 + 1, none⟩ = some (.string (l[k].2.1)) ∧ w.cell? ⟨b, o + k * 3 + 2, none⟩ = some (.string (l[k].2.2)) := by
  obtain ⟨b, o, e, hlt, hc⟩ := h.at_ hk
  exact ⟨b, o, e, hlt, hc 0 _ rfl, hc 1 _ rfl, hc 2 _ rfl⟩
theorem condInfo : (Tryz.prog.info? 201).map (fun i => (i.zero, i.size, i.bytes)) = some (some (.agg #[.int .i64 0, .string ByteArray.empty, .string ByteArray.empty]), 3, 40) := by kernel_rfl
theorem condElem : ElemOk cnF 160 201 := by
  obtain ⟨i, h1, h2, h3, h4⟩ := info_parts condInfo
  exact ⟨i, _, 40, Tryz.underlying160, h1, h2, h3, h4, rfl, by decide, by omega⟩
theorem toCondNode_any (x0 : Int) (x1 : ByteArray) (x2 : ByteArray) (w : World) : Calls Tryz.prog 161 #[.agg #[.int .i64 (x0), .string (x1), .string (x2)]] w fun e w' => e = .returned (.agg #[.int .i64 (x0), .string (x1), .string (x2)]) ∧ Below w.heap.size w w' := by
  go_enter Tryz.func161, Tryz.ntmps161
  go_wp2
  refine bodyPost_ret (v := .agg #[.int .i64 (x0), .string (x1), .string (x2)]) (by simp [results, Tryz.results161, go_sem]) rfl ⟨rfl, ?_⟩
  exact (((Below.refl _ _).alloc (Nat.le_refl _) _).alloc (by simp) _).alloc (by simp; omega) _
set_option maxRecDepth 100000 in
set_option maxHeartbeats 2000000 in
theorem toCondNodeS_any (A : Option Addr) (n c : Nat) (l : List Cn) (w : World) (hl : CondsIn w A n l) :
    Calls Tryz.prog 145 #[.slice A n c] w fun e w' => ∃ A', e = .returned (.slice A' n n) ∧ OwnRows cnF 201 w' w.heap.size A' n n l ∧ Below w.heap.size w w' := by
  obtain ⟨i0, hi0, hz0, hz1, hz2⟩ := info_parts condInfo
  have hn := hl.len
  obtain rfl := hl.1
  go_enter Tryz.func145, Tryz.ntmps145
  go_wp2_with (at_make; refine wpList_make_full _ rfl (.tmp 6) (.tmp 6) _ rfl w.heap.size 201 i0 _ 3 Tryz.underlying160 hi0 hz0 hz1 .i64 .i64 _ _ l.length rfl rfl rfl rfl (by rw [hz2]; omega) (by unfold maxLen; omega) (Nat.le_refl _) ?_; intro w1 hown hg)
  have hb1 := below_none hg
  generalize hzs : (madeCells (Value.agg #[.int .i64 0, .string ByteArray.empty, .string ByteArray.empty]).cells (l.length * 3)).toList = zs at hown
  have hzl : zs.length = (l.flatMap cnF.enc).length := by rw [flatMap_len cnF.enc 3 cnF.len, hown.1]
  clear hg hzs
  have HZ := Lib.hid hzl; clear hzl
  have hown1 : w1.ownsRow w.heap.size 201 3 (.slice (some ⟨w.heap.size, 0, none⟩) l.length l.length) l.length (fillC zs (l.flatMap cnF.enc) 0) := by
    rw [fillC_zero]; exact hown
  clear hown
  go_loopw [4] (fun i wr => ∃ k : Nat, k ≤ l.length ∧ i = .int .i64 k ∧ wr.ownsRow w.heap.size 201 3 (.slice (some ⟨w.heap.size, 0, none⟩) l.length l.length) l.length (fillC zs (l.flatMap cnF.enc) (k * 3)) ∧ Below w.heap.size w wr) (fun i _ => l.length - (intOf i).toNat)
  case atStart => exact ⟨0, by omega, rfl, by rw [Nat.zero_mul]; exact hown1, hb1⟩
  case round =>
    obtain ⟨k, hk, rfl, hown, hb⟩ := hrel
    by_cases hlt : k < l.length
    · obtain ⟨b, o, rfl, _, hc0, hc1, hc2⟩ := cond_at (hl.keep hb) hlt
      go_wp2_with fail
      refine (toCondNode_any _ _ _ _).mono ?_
      rintro e w2 ⟨rfl, hb2⟩
      have ho := own_keep hown hb2
      have hlen : (l.flatMap cnF.enc).length = l.length * 3 := flatMap_len cnF.enc 3 cnF.len l
      have hz := HZ.out
      have e0 : (l.flatMap cnF.enc)[k * 3]? = some (.int .i64 (l[k].1)) := flatMap_at cnF.enc 3 cnF.len l k 0 hlt (by omega)
      obtain ⟨u0, c0, f0⟩ := own_cell ho (k * 3) (by omega)
      have e1 : (l.flatMap cnF.enc)[k * 3 + 1]? = some (.string (l[k].2.1)) := flatMap_at cnF.enc 3 cnF.len l k 1 hlt (by omega)
      obtain ⟨u1, c1, f1⟩ := own_cell ho (k * 3 + 1) (by omega)
      have e2 : (l.flatMap cnF.enc)[k * 3 + 2]? = some (.string (l[k].2.2)) := flatMap_at cnF.enc 3 cnF.len l k 2 hlt (by omega)
      obtain ⟨u2, c2, f2⟩ := own_cell ho (k * 3 + 2) (by omega)
      have s0 := (ho.stored (k * 3) (.int .i64 (l[k].1))).1
      rw [fillC_set _ _ _ _ e0 hz] at s0
      have s1 := (s0.stored (k * 3 + 1) (.string (l[k].2.1))).1
      rw [fillC_set _ _ _ _ e1 hz] at s1
      have s2 := (s1.stored (k * 3 + 2) (.string (l[k].2.2))).1
      rw [fillC_set _ _ _ _ e2 hz] at s2
      have hb3 : Below w.heap.size w w2 := hb.trans (hb2.mono hb.size)
      have S2 := Lib.hid s2
      clear ho e0 e1 e2 s0 s1 s2 hown hz hlen hb hb2
      go_wp2
      go_roundw
      case rel => exact ⟨k + 1, by omega, by go_num, by rw [show (k + 1) * 3 = k * 3 + 1 + 1 + 1 by omega]; exact S2.out, (((hb3.setCell (Nat.le_refl _) _).setCell (Nat.le_refl _) _).setCell (Nat.le_refl _) _)⟩
      case measure => simp [intOf]; omega
    · obtain rfl : k = l.length := by omega
      go_wp2
      go_ret
      refine ⟨_, rfl, ⟨rfl, ?_⟩, hb⟩
      have h2 : (l.flatMap cnF.enc).length = l.length * 3 := flatMap_len cnF.enc 3 cnF.len l
      rw [← h2, fillC_all _ _ HZ.out] at hown
      exact hown
theorem eqCondNode_yes (x0 : Int) (x1 : ByteArray) (x2 : ByteArray) (w : World) : Calls Tryz.prog 163 #[.agg #[.int .i64 (x0), .string (x1), .string (x2)], .agg #[.int .i64 (x0), .string (x1), .string (x2)]] w fun e w' => e = .returned (.bool true) ∧ Below w.heap.size w w' := by
  go_enter Tryz.func163, Tryz.ntmps163
  go_wp2
  go_ret
  exact ⟨rfl, ((Below.refl _ _).alloc (Nat.le_refl _) _).alloc (by simp) _⟩
set_option maxRecDepth 100000 in
set_option maxHeartbeats 2000000 in
theorem eqCondNodeS_yes (A B : Option Addr) (n m c d : Nat) (l : List Cn) (w : World) (ha : CondsIn w A n l) (hb : CondsIn w B m l) :
    Calls Tryz.prog 152 #[.slice A n c, .slice B m d] w fun e w' => e = .returned (.bool true) ∧ Below w.heap.size w w' := by
  have hn := ha.len
  obtain rfl := ha.1
  obtain rfl := hb.1
  go_enter Tryz.func152, Tryz.ntmps152
  go_wp2
  go_loopw [5] (fun i wr => ∃ k : Nat, k ≤ l.length ∧ i = .int .i64 k ∧ Below w.heap.size w wr) (fun i _ => l.length - (intOf i).toNat)
  case atStart => exact ⟨0, by omega, rfl, Below.refl _ _⟩
  case round =>
    obtain ⟨k, hk, rfl, HD⟩ := hrel
    by_cases hlt : k < l.length
    · obtain ⟨b1, o1, rfl, _, hc0, hc1, hc2⟩ := cond_at (ha.keep HD) hlt
      obtain ⟨b2, o2, rfl, _, hd0, hd1, hd2⟩ := cond_at (hb.keep HD) hlt
      go_wp2
      go_still_tail 8, (by kernel_rfl)
      change wpList _ _ _ _ _ wr.drew
      have HE : Below w.heap.size w wr.drew := HD.drew
      generalize wr.drew = w2 at *
      go_wp2_with (go_at_call 163; refine (eqCondNode_yes _ _ _ _).mono ?_; rintro e w3 ⟨rfl, hb3⟩)
      go_roundw
      case rel => exact ⟨k + 1, by omega, by go_num, HE.trans (hb3.mono HE.size)⟩
      case measure => simp [intOf]; omega
    · obtain rfl : k = l.length := by omega
      go_wp2
      go_ret
      exact ⟨rfl, HD⟩
def okCn (x : Cn) : Prop := x.2.1.size ≤ 9223372036854775807 ∧ x.2.2.size ≤ 9223372036854775807
set_option maxRecDepth 100000 in
set_option maxHeartbeats 1000000 in
theorem szCondNode_any (x0 : Int) (x1 : ByteArray) (x2 : ByteArray) (left : Int) (w : World) (h0 : 0 ≤ left) (h1 : left ≤ 1048576) (hs1 : x1.size ≤ 9223372036854775807) (hs2 : x2.size ≤ 9223372036854775807) :
    Calls Tryz.prog 160 #[.agg #[.int .i64 (x0), .string (x1), .string (x2)], .int .i64 left] w fun e w' => ∃ r : Int, e = .returned (.int .i64 r) ∧ -1 ≤ r ∧ r ≤ left ∧ Below w.heap.size w w' := by
  go_enter Tryz.func160, Tryz.ntmps160
  go_wp2
  all_goals
    go_ret
    exact ⟨_, rfl, by omega, by omega, below_alloc _ _⟩
theorem szCondNodeS_big (A : Option Addr) (n c : Nat) (left : Int) (w : World) (h : left < (n : Int)) (h0 : 0 ≤ left) (hn : n ≤ 9223372036854775807) :
    Calls Tryz.prog 141 #[.slice A n c, .int .i64 left] w fun e w' => e = .returned (.int .i64 (-1)) ∧ w = w' := by
  go_enter Tryz.func141, Tryz.ntmps141
  go_wp2
  go_ret
  exact ⟨rfl, rfl⟩
set_option maxRecDepth 100000 in
set_option maxHeartbeats 2000000 in
theorem szCondNodeS_any (A : Option Addr) (n c : Nat) (l : List Cn) (left : Int) (w : World) (h : (n : Int) ≤ left) (hl : left ≤ 1048576) (ha : CondsIn w A n l) (hok : ∀ x ∈ l, okCn x) :
    Calls Tryz.prog 141 #[.slice A n c, .int .i64 left] w fun e w' => ∃ r : Int, e = .returned (.int .i64 r) ∧ -1 ≤ r ∧ r ≤ 1048576 ∧ Below w.heap.size w w' := by
  have hn := ha.len
  obtain rfl := ha.1
  have HO := Lib.hid hok
  clear hok
  go_enter Tryz.func141, Tryz.ntmps141
  go_wp2
  go_loopw [1, 5] (fun r i wr => ∃ (k : Nat) (x : Int), k ≤ l.length ∧ i = .int .i64 k ∧ r = .int .i64 x ∧ 0 ≤ x ∧ x ≤ 1048576 ∧ Below w.heap.size w wr) (fun _ i _ => l.length - (intOf i).toNat)
  case atStart => exact ⟨0, _, by omega, rfl, rfl, by omega, by omega, Below.refl _ _⟩
  case round =>
    obtain ⟨k, x, hk, rfl, rfl, x0, x1, HR⟩ := hrel
    by_cases hlt : k < l.length
    · obtain ⟨b, o, rfl, _, hc0, hc1, hc2⟩ := cond_at (ha.keep HR) hlt
      have hs := HO.out _ (List.getElem_mem hlt)
      unfold okCn at hs
      obtain ⟨hs1, hs2⟩ := hs
      go_wp2_with fail
      refine (szCondNode_any _ _ _ _ _ x0 x1 hs1 hs2).mono ?_
      rintro e v ⟨r, rfl, r0, r1, hb⟩
      by_cases hneg : r < 0
      · go_wp2_with fail
        go_ret
        exact ⟨-1, rfl, by omega, by omega, below_on HR hb⟩
      · go_wp2_with fail
        go_roundw
        case rel => exact ⟨k + 1, r, by omega, by go_num, rfl, by omega, by omega, below_on HR hb⟩
        case measure => simp [intOf]; omega
    · obtain rfl : k = l.length := by omega
      go_wp2
      go_ret
      exact ⟨x, rfl, by omega, by omega, HR⟩
set_option maxRecDepth 100000 in
set_option maxHeartbeats 4000000 in
/-- The marks on arguments: what they are is not asked. -/
theorem markCondNodeS_any (A : Option Addr) (n c lo hi : Nat) (l : List Cn) (k0 : Int) (w : World) (ha : RowsAt cnF 201 w lo hi A n c l) (hk0 : 1 ≤ k0) (hk1 : k0 ≤ 2000000000000000000) (hn : l.length ≤ 16777216) :
    Calls Tryz.prog 131 #[.slice A n c, .int .i64 k0] w fun e w' => e = .returned (.int .i64 (k0 + 3 * l.length)) ∧ True ∧ Only lo hi w w' := by
  obtain rfl := ha.1
  have HLN := Lib.hid (flatMap_len cnF.enc 3 cnF.len l)
  obtain ⟨_, ⟨hown, hhi, hlt⟩⟩ := ha
  have HT := Lib.hid hlt
  clear hlt
  go_enter Tryz.func131, Tryz.ntmps131
  go_wp2
  go_loopw [1, 5] (fun m i wr => ∃ (k : Nat) (xs : List Value), k ≤ l.length ∧ i = .int .i64 k ∧ m = .int .i64 (k0 + 3 * k) ∧ wr.ownsRow lo 201 3 (.slice A l.length c) l.length xs ∧ Only lo hi w wr) (fun _ i _ => l.length - (intOf i).toNat)
  case atStart => exact ⟨0, _, by omega, rfl, by go_num, hown, Only.refl _ _ _⟩
  case round =>
    clear hown
    obtain ⟨k, xs, hk, rfl, rfl, ho, HO⟩ := hrel
    by_cases hlt : k < l.length
    · have hA : ∃ g, A = some ⟨g, 0, none⟩ := by
        rcases ho.2 with ⟨hv, h0⟩ | ⟨g, cap, cur, hv, _⟩
        · omega
        · exact ⟨g, by injection hv⟩
      obtain ⟨g, rfl⟩ := hA
      have hgl : lo ≤ g ∧ g < hi := ⟨(own_lt ho _ rfl).1, HT.out _ rfl⟩
      have hgo : ∀ x, (Value.slice (some ⟨g, 0, none⟩) l.length c).ownBlock = some x → lo ≤ x ∧ x < hi := fun x hx => by injection hx with hx; subst hx; exact hgl
      have HGO := Lib.hid hgo
      clear hgo
      obtain ⟨u0, c0, f0⟩ := own_cell ho (k * 3) (by omega)
      have s0 := (ho.stored (k * 3) (.int .i64 (k0 + 3 * k)))
      replace HO := HO.trans (Only.of_grown s0.2 HGO.out)
      go_wp2_with fail
      refine (markText_some _ _ (by omega) (by omega)).mono ?_
      rintro e v1 ⟨t1, rfl, hb1⟩
      have hq1 := own_keep s0.1 hb1
      replace HO := HO.trans (Only.of_below hb1)
      clear hb1
      obtain ⟨u1, c1, f1⟩ := own_cell hq1 (k * 3 + 1) (by omega)
      have s1 := (hq1.stored (k * 3 + 1) (.string t1))
      replace HO := HO.trans (Only.of_grown s1.2 HGO.out)
      go_wp2_with fail
      refine (markText_some _ _ (by omega) (by omega)).mono ?_
      rintro e v2 ⟨t2, rfl, hb2⟩
      have hq2 := own_keep s1.1 hb2
      replace HO := HO.trans (Only.of_below hb2)
      clear hb2
      obtain ⟨u2, c2, f2⟩ := own_cell hq2 (k * 3 + 2) (by omega)
      have s2 := (hq2.stored (k * 3 + 2) (.string t2))
      replace HO := HO.trans (Only.of_grown s2.2 HGO.out)
      have S2 := Lib.hid s2.1
      go_wp2
      go_roundw
      case rel => exact ⟨k + 1, _, by omega, by go_num, by go_num, S2.out, HO⟩
      case measure => simp [intOf]; omega
    · obtain rfl : k = l.length := by omega
      go_wp2
      go_ret
      exact ⟨rfl, trivial, HO⟩
end Go.Proofs.YtlnkofnfgemfdaaGreat
/- Items, catalogs, conditions (plain): what both the reference and the program ask of them. -/
namespace Go.Proofs.YtlnkofnfgemfdaaGreat
open Go.RowKit
/-! It: code, unit, kind, lead, rule, size, safety, scrap. -/
def itNone : It := (ByteArray.empty, ByteArray.empty, 0, 0, 0, 0, 0, 0)
def isLotR (rule size : Int) : Bool := decide ((rule = 0 ∧ size = 0) ∨ ((rule = 1 ∨ rule = 2) ∧ 1 ≤ size ∧ size ≤ 1000))
def isItem (x : It) : Bool :=
  isCode x.1 && (isCode x.2.1 && (inB x.2.2.1 0 2 && (inB x.2.2.2.1 0 30 && (inB x.2.2.2.2.2.2.1 0 100000 && (inB x.2.2.2.2.2.2.2 0 50 && (isLotR x.2.2.2.2.1 x.2.2.2.2.2.1 && decide (x.2.2.1 = 2 → x.2.2.2.1 = 0 ∧ x.2.2.2.2.1 = 0 ∧ x.2.2.2.2.2.2.1 = 0 ∧ x.2.2.2.2.2.2.2 = 0)))))))
def catAt (l : List It) (lt : ByteArray → ByteArray → Bool) (k : Nat) : Bool := isItem (l.getD k itNone) && (decide (k = 0) || lt (l.getD (k - 1) itNone).1 (l.getD k itNone).1)
/-! Cn: kind, option, value. -/
def cnNone : Cn := (0, ByteArray.empty, ByteArray.empty)
/-- The texts of a node. -/
def cnText (x : Cn) : Bool := if x.1 = 1 then isCode x.2.1 && isCode x.2.2 else (x.2.1.toList == []) && (x.2.2.toList == [])
/-- How many conditions lie there behind a node; none if too few lay there ahead of it. -/
def cnNext (n : Nat) (x : Cn) : Option Nat :=
  if x.1 = 0 ∨ x.1 = 1 then some (n + 1) else if x.1 = 2 then (if n < 1 then none else some n) else if x.1 = 3 ∨ x.1 = 4 then (if n < 2 then none else some (n - 1)) else none
def condTo (l : List Cn) : Nat → Option Nat
  | 0 => some 0
  | k + 1 => match condTo l k with
    | none => none
    | some n => match cnNext n (l.getD k cnNone) with
      | none => none
      | some m => if cnText (l.getD k cnNone) then some m else none
def isCond (l : List Cn) : Bool := decide (l.length ≤ 30) && decide (condTo l l.length = some 1)
theorem condTo_le {l : List Cn} {k n : Nat} (h : condTo l k = some n) : n ≤ k := by
  induction k generalizing n with
  | zero => simp only [condTo, Option.some.injEq] at h; omega
  | succ k ih =>
    simp only [condTo] at h
    split at h
    · cases h
    · next n0 h0 =>
      split at h
      · cases h
      · next m hm =>
        split at h
        · have h1 := ih h0
          have h2 := Option.some.inj h
          subst h2
          simp only [cnNext] at hm
          split at hm
          · have := Option.some.inj hm; omega
          · split at hm
            · split at hm
              · cases hm
              · have := Option.some.inj hm; omega
            · split at hm
              · split at hm
                · cases hm
                · have := Option.some.inj hm; omega
              · cases hm
        · cases h
theorem condTo_none {l : List Cn} {k : Nat} (h : condTo l k = none) : ∀ d, condTo l (k + d) = none := by
  intro d
  induction d with
  | zero => exact h
  | succ d ih =>
    rw [show k + (d + 1) = (k + d) + 1 by omega]
    simp only [condTo]
    rw [ih]
theorem isCond_at {l : List Cn} {k : Nat} (hk : k ≤ l.length) (h : condTo l k = none) : isCond l = false := by
  have := condTo_none h (l.length - k)
  rw [show k + (l.length - k) = l.length by omega] at this
  unfold isCond
  rw [this]; simp
end Go.Proofs.YtlnkofnfgemfdaaGreat
