/- Part 13 of the texts of this claim: Receipt: its cells, and the walks of the laws' own helpers on lists of it; Plain law of calendars: hours of a day. No program in sight; Exception: its cells, and the walks of the laws' own helpers on lists of it. -/
import Derived.Test.YtlnkofnfgemfdaaGreatIp2
import Derived.StillTailTactics
import Derived.Test.YtlnkofnfgemfdaaGreatIp1
/- Receipt: its cells, and the walks of the laws' own helpers on lists of it. -/
namespace Go.Proofs.YtlnkofnfgemfdaaGreat
open Go.RowKit

abbrev Rc := ByteArray × Int × Int
def rcF : Flat Rc := ⟨fun f => [.string (f.1), .int .i64 (f.2.1), .int .i64 (f.2.2)], 3, fun _ => rfl⟩
abbrev ReceiptsIn (w : World) (A : Option Addr) (n : Nat) (l : List Rc) : Prop := RowsIn rcF w A n l
theorem receipt_at {w : World} {A : Option Addr} {n : Nat} {l : List Rc} (h : ReceiptsIn w A n l) {k : Nat} (hk : k < l.length) :
    ∃ b o, A = some ⟨b, o, none⟩ ∧ b < w.heap.size ∧ w.cell? ⟨b, o + k * 3, none⟩ = some (.string (l[k].1)) ∧ w.cell? ⟨b, o + k * 3 + 1, none⟩ = some (.int .i64 (l[k].2.1)) ∧ w.cell? ⟨b, o + k * 3 + 2, none⟩ = some (.int .i64 (l[k].2.2)) := by
  obtain ⟨b, o, e, hlt, hc⟩ := h.at_ hk
  exact ⟨b, o, e, hlt, hc 0 _ rfl, hc 1 _ rfl, hc 2 _ rfl⟩
theorem receiptInfo : (Tryz.prog.info? 154).map (fun i => (i.zero, i.size, i.bytes)) = some (some (.agg #[.string ByteArray.empty, .int .i64 0, .int .i64 0]), 3, 32) := by kernel_rfl
theorem receiptElem : ElemOk rcF 46 154 := by
  obtain ⟨i, h1, h2, h3, h4⟩ := info_parts receiptInfo
  exact ⟨i, _, 32, Tryz.underlying46, h1, h2, h3, h4, rfl, by decide, by omega⟩
theorem toReceipt_any (x0 : ByteArray) (x1 : Int) (x2 : Int) (w : World) : Calls Tryz.prog 114 #[.agg #[.string (x0), .int .i64 (x1), .int .i64 (x2)]] w fun e w' => e = .returned (.agg #[.string (x0), .int .i64 (x1), .int .i64 (x2)]) ∧ Below w.heap.size w w' := by
  go_enter Tryz.func114, Tryz.ntmps114
  go_wp2
  refine bodyPost_ret (v := .agg #[.string (x0), .int .i64 (x1), .int .i64 (x2)]) (by simp [results, Tryz.results114, go_sem]) rfl ⟨rfl, ?_⟩
  exact (((Below.refl _ _).alloc (Nat.le_refl _) _).alloc (by simp) _).alloc (by simp; omega) _
set_option maxRecDepth 100000 in
set_option maxHeartbeats 2000000 in
theorem toReceiptS_any (A : Option Addr) (n c : Nat) (l : List Rc) (w : World) (hl : ReceiptsIn w A n l) :
    Calls Tryz.prog 51 #[.slice A n c] w fun e w' => ∃ A', e = .returned (.slice A' n n) ∧ OwnRows rcF 154 w' w.heap.size A' n n l ∧ Below w.heap.size w w' := by
  obtain ⟨i0, hi0, hz0, hz1, hz2⟩ := info_parts receiptInfo
  have hn := hl.len
  obtain rfl := hl.1
  go_enter Tryz.func51, Tryz.ntmps51
  go_wp2_with (at_make; refine wpList_make_full _ rfl (.tmp 6) (.tmp 6) _ rfl w.heap.size 154 i0 _ 3 Tryz.underlying46 hi0 hz0 hz1 .i64 .i64 _ _ l.length rfl rfl rfl rfl (by rw [hz2]; omega) (by unfold maxLen; omega) (Nat.le_refl _) ?_; intro w1 hown hg)
  have hb1 := below_none hg
  generalize hzs : (madeCells (Value.agg #[.string ByteArray.empty, .int .i64 0, .int .i64 0]).cells (l.length * 3)).toList = zs at hown
  have hzl : zs.length = (l.flatMap rcF.enc).length := by rw [flatMap_len rcF.enc 3 rcF.len, hown.1]
  clear hg hzs
  have HZ := Lib.hid hzl; clear hzl
  have hown1 : w1.ownsRow w.heap.size 154 3 (.slice (some ⟨w.heap.size, 0, none⟩) l.length l.length) l.length (fillC zs (l.flatMap rcF.enc) 0) := by
    rw [fillC_zero]; exact hown
  clear hown
  go_loopw [4] (fun i wr => ∃ k : Nat, k ≤ l.length ∧ i = .int .i64 k ∧ wr.ownsRow w.heap.size 154 3 (.slice (some ⟨w.heap.size, 0, none⟩) l.length l.length) l.length (fillC zs (l.flatMap rcF.enc) (k * 3)) ∧ Below w.heap.size w wr) (fun i _ => l.length - (intOf i).toNat)
  case atStart => exact ⟨0, by omega, rfl, by rw [Nat.zero_mul]; exact hown1, hb1⟩
  case round =>
    obtain ⟨k, hk, rfl, hown, hb⟩ := hrel
    by_cases hlt : k < l.length
    · obtain ⟨b, o, rfl, _, hc0, hc1, hc2⟩ := receipt_at (hl.keep hb) hlt
      go_wp2_with fail
      refine (toReceipt_any _ _ _ _).mono ?_
      rintro e w2 ⟨rfl, hb2⟩
      have ho := own_keep hown hb2
      have hlen : (l.flatMap rcF.enc).length = l.length * 3 := flatMap_len rcF.enc 3 rcF.len l
      have hz := HZ.out
      have e0 : (l.flatMap rcF.enc)[k * 3]? = some (.string (l[k].1)) := flatMap_at rcF.enc 3 rcF.len l k 0 hlt (by omega)
      obtain ⟨u0, c0, f0⟩ := own_cell ho (k * 3) (by omega)
      have e1 : (l.flatMap rcF.enc)[k * 3 + 1]? = some (.int .i64 (l[k].2.1)) := flatMap_at rcF.enc 3 rcF.len l k 1 hlt (by omega)
      obtain ⟨u1, c1, f1⟩ := own_cell ho (k * 3 + 1) (by omega)
      have e2 : (l.flatMap rcF.enc)[k * 3 + 2]? = some (.int .i64 (l[k].2.2)) := flatMap_at rcF.enc 3 rcF.len l k 2 hlt (by omega)
      obtain ⟨u2, c2, f2⟩ := own_cell ho (k * 3 + 2) (by omega)
      have s0 := (ho.stored (k * 3) (.string (l[k].1))).1
      rw [fillC_set _ _ _ _ e0 hz] at s0
      have s1 := (s0.stored (k * 3 + 1) (.int .i64 (l[k].2.1))).1
      rw [fillC_set _ _ _ _ e1 hz] at s1
      have s2 := (s1.stored (k * 3 + 2) (.int .i64 (l[k].2.2))).1
      rw [fillC_set _ _ _ _ e2 hz] at s2
      have hb3 : Below w.heap.size w w2 := hb.trans (hb2.mono hb.size)
      have S2 := Lib.hid s2
      clear ho e0 e1 e2 s0 s1 s2 hown hz hlen hb hb2
      go_wp2
      go_roundw
      case rel => exact ⟨k + 1, by omega, by go_num, by rw [show (k + 1) * 3 = k * 3 + 1 + 1 + 1 by omega]; exact S2.out, (((hb3.setCell (Nat.le_refl _) _).setCell (Nat.le_refl _) _).setCell (Nat.le_refl _) _)⟩
      case measure => simp [intOf]; omega
    · obtain rfl : k = l.length := by omega
      go_wp2
      go_ret
      refine ⟨_, rfl, ⟨rfl, ?_⟩, hb⟩
      have h2 : (l.flatMap rcF.enc).length = l.length * 3 := flatMap_len rcF.enc 3 rcF.len l
      rw [← h2, fillC_all _ _ HZ.out] at hown
      exact hown
theorem eqReceipt_yes (x0 : ByteArray) (x1 : Int) (x2 : Int) (w : World) : Calls Tryz.prog 130 #[.agg #[.string (x0), .int .i64 (x1), .int .i64 (x2)], .agg #[.string (x0), .int .i64 (x1), .int .i64 (x2)]] w fun e w' => e = .returned (.bool true) ∧ Below w.heap.size w w' := by
  go_enter Tryz.func130, Tryz.ntmps130
  go_wp2
  go_ret
  exact ⟨rfl, ((Below.refl _ _).alloc (Nat.le_refl _) _).alloc (by simp) _⟩
set_option maxRecDepth 100000 in
set_option maxHeartbeats 2000000 in
theorem eqReceiptS_yes (A B : Option Addr) (n m c d : Nat) (l : List Rc) (w : World) (ha : ReceiptsIn w A n l) (hb : ReceiptsIn w B m l) :
    Calls Tryz.prog 68 #[.slice A n c, .slice B m d] w fun e w' => e = .returned (.bool true) ∧ Below w.heap.size w w' := by
  have hn := ha.len
  obtain rfl := ha.1
  obtain rfl := hb.1
  go_enter Tryz.func68, Tryz.ntmps68
  go_wp2
  go_loopw [5] (fun i wr => ∃ k : Nat, k ≤ l.length ∧ i = .int .i64 k ∧ Below w.heap.size w wr) (fun i _ => l.length - (intOf i).toNat)
  case atStart => exact ⟨0, by omega, rfl, Below.refl _ _⟩
  case round =>
    obtain ⟨k, hk, rfl, HD⟩ := hrel
    by_cases hlt : k < l.length
    · obtain ⟨b1, o1, rfl, _, hc0, hc1, hc2⟩ := receipt_at (ha.keep HD) hlt
      obtain ⟨b2, o2, rfl, _, hd0, hd1, hd2⟩ := receipt_at (hb.keep HD) hlt
      go_wp2
      go_still_tail 8, (by kernel_rfl)
      change wpList _ _ _ _ _ wr.drew
      have HE : Below w.heap.size w wr.drew := HD.drew
      generalize wr.drew = w2 at *
      go_wp2_with (go_at_call 130; refine (eqReceipt_yes _ _ _ _).mono ?_; rintro e w3 ⟨rfl, hb3⟩)
      go_roundw
      case rel => exact ⟨k + 1, by omega, by go_num, HE.trans (hb3.mono HE.size)⟩
      case measure => simp [intOf]; omega
    · obtain rfl : k = l.length := by omega
      go_wp2
      go_ret
      exact ⟨rfl, HD⟩
def okRc (x : Rc) : Prop := x.1.size ≤ 9223372036854775807
theorem szReceipt_any (x0 : ByteArray) (x1 : Int) (x2 : Int) (left : Int) (w : World) (h0 : 0 ≤ left) (h1 : left ≤ 1048576) (hs : x0.size ≤ 9223372036854775807) :
    Calls Tryz.prog 98 #[.agg #[.string (x0), .int .i64 (x1), .int .i64 (x2)], .int .i64 left] w fun e w' => e = .returned (.int .i64 (if left < (x0.size : Int) then -1 else left - x0.size)) ∧ Below w.heap.size w w' := by
  by_cases hlt : left < (x0.size : Int)
  · go_enter Tryz.func98, Tryz.ntmps98
    go_wp2
    go_ret
    exact ⟨rfl, below_alloc _ _⟩
  · go_enter Tryz.func98, Tryz.ntmps98
    go_wp2
    go_ret
    exact ⟨rfl, below_alloc _ _⟩
theorem szReceiptS_big (A : Option Addr) (n c : Nat) (left : Int) (w : World) (h : left < (n : Int)) (h0 : 0 ≤ left) (hn : n ≤ 9223372036854775807) :
    Calls Tryz.prog 36 #[.slice A n c, .int .i64 left] w fun e w' => e = .returned (.int .i64 (-1)) ∧ w = w' := by
  go_enter Tryz.func36, Tryz.ntmps36
  go_wp2
  go_ret
  exact ⟨rfl, rfl⟩
set_option maxRecDepth 100000 in
set_option maxHeartbeats 2000000 in
theorem szReceiptS_any (A : Option Addr) (n c : Nat) (l : List Rc) (left : Int) (w : World) (h : (n : Int) ≤ left) (hl : left ≤ 1048576) (ha : ReceiptsIn w A n l) (hok : ∀ x ∈ l, okRc x) :
    Calls Tryz.prog 36 #[.slice A n c, .int .i64 left] w fun e w' => ∃ r : Int, e = .returned (.int .i64 r) ∧ -1 ≤ r ∧ r ≤ 1048576 ∧ Below w.heap.size w w' := by
  have hn := ha.len
  obtain rfl := ha.1
  have HO := Lib.hid hok
  clear hok
  go_enter Tryz.func36, Tryz.ntmps36
  go_wp2
  go_loopw [1, 5] (fun r i wr => ∃ (k : Nat) (x : Int), k ≤ l.length ∧ i = .int .i64 k ∧ r = .int .i64 x ∧ 0 ≤ x ∧ x ≤ 1048576 ∧ Below w.heap.size w wr) (fun _ i _ => l.length - (intOf i).toNat)
  case atStart => exact ⟨0, _, by omega, rfl, rfl, by omega, by omega, Below.refl _ _⟩
  case round =>
    obtain ⟨k, x, hk, rfl, rfl, x0, x1, HR⟩ := hrel
    by_cases hlt : k < l.length
    · obtain ⟨b, o, rfl, _, hc0, hc1, hc2⟩ := receipt_at (ha.keep HR) hlt
      have hs := HO.out _ (List.getElem_mem hlt)
      unfold okRc at hs
      by_cases hneg : x < (l[k].1.size : Int)
      · go_wp2_with fail
        refine (szReceipt_any _ _ _ _ _ x0 x1 hs).mono ?_
        rintro e v ⟨rfl, hb⟩
        rw [if_pos (by omega)]
        go_wp2_with fail
        go_ret
        exact ⟨-1, rfl, by omega, by omega, below_on HR hb⟩
      · go_wp2_with fail
        refine (szReceipt_any _ _ _ _ _ x0 x1 hs).mono ?_
        rintro e v ⟨rfl, hb⟩
        rw [if_neg (by omega)]
        go_wp2_with fail
        go_roundw
        case rel => exact ⟨k + 1, _, by omega, by go_num, rfl, by omega, by omega, below_on HR hb⟩
        case measure => simp [intOf]; omega
    · obtain rfl : k = l.length := by omega
      go_wp2
      go_ret
      exact ⟨x, rfl, by omega, by omega, HR⟩
set_option maxRecDepth 100000 in
set_option maxHeartbeats 4000000 in
/-- The marks on arguments: what they are is not asked. -/
theorem markReceiptS_any (A : Option Addr) (n c lo hi : Nat) (l : List Rc) (k0 : Int) (w : World) (ha : RowsAt rcF 154 w lo hi A n c l) (hk0 : 1 ≤ k0) (hk1 : k0 ≤ 2000000000000000000) (hn : l.length ≤ 16777216) :
    Calls Tryz.prog 75 #[.slice A n c, .int .i64 k0] w fun e w' => e = .returned (.int .i64 (k0 + 3 * l.length)) ∧ True ∧ Only lo hi w w' := by
  obtain rfl := ha.1
  have HLN := Lib.hid (flatMap_len rcF.enc 3 rcF.len l)
  obtain ⟨_, ⟨hown, hhi, hlt⟩⟩ := ha
  have HT := Lib.hid hlt
  clear hlt
  go_enter Tryz.func75, Tryz.ntmps75
  go_wp2
  go_loopw [1, 5] (fun m i wr => ∃ (k : Nat) (xs : List Value), k ≤ l.length ∧ i = .int .i64 k ∧ m = .int .i64 (k0 + 3 * k) ∧ wr.ownsRow lo 154 3 (.slice A l.length c) l.length xs ∧ Only lo hi w wr) (fun _ i _ => l.length - (intOf i).toNat)
  case atStart => exact ⟨0, _, by omega, rfl, by go_num, hown, Only.refl _ _ _⟩
  case round =>
    clear hown
    obtain ⟨k, xs, hk, rfl, rfl, ho, HO⟩ := hrel
    by_cases hlt : k < l.length
    · have hA : ∃ g, A = some ⟨g, 0, none⟩ := by
        rcases ho.2 with ⟨hv, h0⟩ | ⟨g, cap, cur, hv, _⟩
        · omega
        · exact ⟨g, by injection hv⟩
      obtain ⟨g, rfl⟩ := hA
      have hgl : lo ≤ g ∧ g < hi := ⟨(own_lt ho _ rfl).1, HT.out _ rfl⟩
      have hgo : ∀ x, (Value.slice (some ⟨g, 0, none⟩) l.length c).ownBlock = some x → lo ≤ x ∧ x < hi := fun x hx => by injection hx with hx; subst hx; exact hgl
      have HGO := Lib.hid hgo
      clear hgo
      go_wp2_with fail
      refine (markText_some _ _ (by omega) (by omega)).mono ?_
      rintro e v0 ⟨t0, rfl, hb0⟩
      have hq0 := own_keep ho hb0
      replace HO := HO.trans (Only.of_below hb0)
      clear hb0
      obtain ⟨u0, c0, f0⟩ := own_cell hq0 (k * 3) (by omega)
      obtain ⟨u1, c1, f1⟩ := own_cell hq0 (k * 3 + 1) (by omega)
      obtain ⟨u2, c2, f2⟩ := own_cell hq0 (k * 3 + 2) (by omega)
      have s0 := (hq0.stored (k * 3) (.string t0))
      replace HO := HO.trans (Only.of_grown s0.2 HGO.out)
      have s1 := (s0.1.stored (k * 3 + 1) (.int .i64 (k0 + 3 * k + 1)))
      replace HO := HO.trans (Only.of_grown s1.2 HGO.out)
      have s2 := (s1.1.stored (k * 3 + 2) (.int .i64 (k0 + 3 * k + 1 + 1)))
      replace HO := HO.trans (Only.of_grown s2.2 HGO.out)
      have S2 := Lib.hid s2.1
      go_wp2
      go_roundw
      case rel => exact ⟨k + 1, _, by omega, by go_num, by go_num, S2.out, HO⟩
      case measure => simp [intOf]; omega
    · obtain rfl : k = l.length := by omega
      go_wp2
      go_ret
      exact ⟨rfl, trivial, HO⟩
end Go.Proofs.YtlnkofnfgemfdaaGreat
/- Plain law of calendars: hours of a day. No program in sight. -/
namespace Go.Proofs.YtlnkofnfgemfdaaGreat
def exNone : Int × Int := (0, 0)
def okEx (ex : List (Int × Int)) (k : Nat) : Bool :=
  inB (ex.getD k exNone).1 0 999 && (inB (ex.getD k exNone).2 0 24 && (decide (k = 0) || decide ((ex.getD (k - 1) exNone).1 < (ex.getD k exNone).1)))
def isCal (wk : List Int) (ex : List (Int × Int)) : Bool :=
  decide (wk.length = 7) && (decide (ex.length ≤ 20) && (wk.all (inB · 0 24) && (List.range ex.length).all (okEx ex)))
theorem ex_getD (l : List (Int × Int)) (k : Nat) (h : k < l.length) : l.getD k exNone = l[k] := by
  rw [List.getD_eq_getElem?_getD, List.getElem?_eq_getElem h]; rfl
theorem isCal_wk {wk : List Int} {ex : List (Int × Int)} {k : Nat} (hk : k < wk.length) (h : inB wk[k] 0 24 = false) : isCal wk ex = false := by
  have : wk.all (inB · 0 24) = false := by rw [List.all_eq_false]; exact ⟨_, List.getElem_mem hk, by simp [h]⟩
  simp [isCal, this]
theorem isCal_ex {wk : List Int} {ex : List (Int × Int)} {k : Nat} (hk : k < ex.length) (h : okEx ex k = false) : isCal wk ex = false := by
  have : (List.range ex.length).all (okEx ex) = false := by rw [List.all_eq_false]; exact ⟨k, by simpa using hk, by simp [h]⟩
  simp [isCal, this]
theorem isCal_yes {wk : List Int} {ex : List (Int × Int)} (h7 : wk.length = 7) (h20 : ex.length ≤ 20) (hw : wk.all (inB · 0 24) = true) (he : ∀ j < ex.length, okEx ex j = true) : isCal wk ex = true := by
  have : (List.range ex.length).all (okEx ex) = true := by rw [List.all_eq_true]; intro x hx; exact he x (by simpa using hx)
  simp [isCal, this, h7, h20, hw]
theorem isCal_no7 {wk : List Int} {ex : List (Int × Int)} (h : ¬ wk.length = 7) : isCal wk ex = false := by simp [isCal, h]
theorem isCal_no20 {wk : List Int} {ex : List (Int × Int)} (h : ¬ ex.length ≤ 20) : isCal wk ex = false := by
  have : decide (ex.length ≤ 20) = false := by simpa using h
  simp [isCal, this]
theorem isCal_parts {wk : List Int} {ex : List (Int × Int)} (h : isCal wk ex = true) : wk.length = 7 ∧ ex.length ≤ 20 ∧ (∀ x ∈ wk, 0 ≤ x ∧ x ≤ 24) ∧ (∀ k, k < ex.length → 0 ≤ (ex.getD k exNone).1 ∧ (ex.getD k exNone).1 ≤ 999 ∧ 0 ≤ (ex.getD k exNone).2 ∧ (ex.getD k exNone).2 ≤ 24 ∧ (0 < k → (ex.getD (k - 1) exNone).1 < (ex.getD k exNone).1)) := by
  simp only [isCal, Bool.and_eq_true, decide_eq_true_eq, List.all_eq_true, List.mem_range, okEx, Bool.or_eq_true, inB_iff] at h
  obtain ⟨h1, h2, h3, h4⟩ := h
  refine ⟨h1, h2, h3, fun k hk => ?_⟩
  obtain ⟨⟨a1, a2⟩, ⟨a3, a4⟩, a5⟩ := h4 k hk
  exact ⟨a1, a2, a3, a4, fun h0 => by rcases a5 with h | h <;> omega⟩
/-- The hours of a day with the first k exceptions. -/
def hoursTo (wk : List Int) (ex : List (Int × Int)) (day : Nat) : Nat → Int
  | 0 => wk.getD (day % 7) 0
  | k + 1 => if (ex.getD k exNone).1 = day then (ex.getD k exNone).2 else hoursTo wk ex day k
theorem ex_lt {wk : List Int} {ex : List (Int × Int)} (h : isCal wk ex = true) (a b : Nat) (hab : a < b) (hb : b < ex.length) : (ex.getD a exNone).1 < (ex.getD b exNone).1 := by
  have hp := (isCal_parts h).2.2.2
  induction b with
  | zero => omega
  | succ b ih =>
    have h1 := (hp (b + 1) hb).2.2.2.2 (by omega)
    rw [Nat.add_sub_cancel] at h1
    rcases Nat.lt_or_ge a b with h2 | h2
    · have := ih h2 (by omega); omega
    · obtain rfl : a = b := by omega
      exact h1
/-- The first exception of a day is its last one. -/
theorem hoursTo_hit {wk : List Int} {ex : List (Int × Int)} (h : isCal wk ex = true) (day k : Nat) (hk : k < ex.length) (hd : (ex.getD k exNone).1 = day) : hoursTo wk ex day ex.length = (ex.getD k exNone).2 := by
  have key : ∀ m, m ≤ ex.length → k < m → hoursTo wk ex day m = (ex.getD k exNone).2 := by
    intro m
    induction m with
    | zero => omega
    | succ m ih =>
      intro hm hkm
      simp only [hoursTo]
      rcases Nat.lt_or_ge k m with h1 | h1
      · have := ex_lt h k m h1 (by omega)
        rw [if_neg (by omega)]; exact ih (by omega) h1
      · obtain rfl : k = m := by omega
        rw [if_pos hd]
  exact key _ (Nat.le_refl _) hk
theorem hoursTo_miss (wk : List Int) (ex : List (Int × Int)) (day k : Nat) (h : ∀ j < k, (ex.getD j exNone).1 ≠ day) : hoursTo wk ex day k = wk.getD (day % 7) 0 := by
  induction k with
  | zero => rfl
  | succ k ih => simp only [hoursTo]; rw [if_neg (h k (by omega))]; exact ih (fun j hj => h j (by omega))
theorem hoursTo_bd {wk : List Int} {ex : List (Int × Int)} (h : isCal wk ex = true) (day k : Nat) (hk : k ≤ ex.length) : 0 ≤ hoursTo wk ex day k ∧ hoursTo wk ex day k ≤ 24 := by
  obtain ⟨h7, _, hw, he⟩ := isCal_parts h
  induction k with
  | zero =>
    have hlt : day % 7 < wk.length := by omega
    simp only [hoursTo]
    rw [List.getD_eq_getElem?_getD, List.getElem?_eq_getElem hlt]
    exact hw _ (List.getElem_mem hlt)
  | succ k ih =>
    simp only [hoursTo]
    split
    · have := he k (by omega); omega
    · exact ih (by omega)
def hoursOn (wk : List Int) (ex : List (Int × Int)) (day : Int) : Int := if isCal wk ex && inB day 0 999 then hoursTo wk ex day.toNat ex.length else 0
theorem hoursOn_no {wk : List Int} {ex : List (Int × Int)} {day : Int} (h : (isCal wk ex && inB day 0 999) = false) : hoursOn wk ex day = 0 := by simp [hoursOn, h]
theorem hoursOn_yes {wk : List Int} {ex : List (Int × Int)} {day : Int} (h : isCal wk ex = true) (h2 : inB day 0 999 = true) : hoursOn wk ex day = hoursTo wk ex day.toNat ex.length := by simp [hoursOn, h, h2]
theorem hoursOn_bd (wk : List Int) (ex : List (Int × Int)) (day : Int) : 0 ≤ hoursOn wk ex day ∧ hoursOn wk ex day ≤ 24 := by
  unfold hoursOn
  cases h : isCal wk ex
  · simp
  · split
    · exact hoursTo_bd h _ _ (Nat.le_refl _)
    · omega
def minutesOn (wk : List Int) (ex : List (Int × Int)) (m day : Int) : Int := if inB m 0 20 then hoursOn wk ex day * 60 * m else 0
/-- The row of the hours of all days, with the first k exceptions. -/
def hoursRow (wk : List Int) (ex : List (Int × Int)) (k : Nat) : List Int := (List.range 1000).map fun d => hoursTo wk ex d k
theorem hoursRow_len (wk : List Int) (ex : List (Int × Int)) (k : Nat) : (hoursRow wk ex k).length = 1000 := by simp [hoursRow]
theorem hoursRow_at (wk : List Int) (ex : List (Int × Int)) (k d : Nat) (hd : d < 1000) : (hoursRow wk ex k).getD d 0 = hoursTo wk ex d k := by
  unfold hoursRow
  rw [List.getD_eq_getElem?_getD, List.getElem?_map, List.getElem?_range hd]; rfl
theorem hoursRow_next (wk : List Int) (ex : List (Int × Int)) (k e : Nat) (he : (ex.getD k exNone).1 = e) (h1000 : e < 1000) : (hoursRow wk ex k).set e (ex.getD k exNone).2 = hoursRow wk ex (k + 1) := by
  apply List.ext_getElem
  · simp [hoursRow]
  · intro i h1 h2
    rw [List.getElem_set]
    simp only [hoursRow, List.getElem_map, List.getElem_range, hoursTo]
    by_cases hi : e = i
    · subst hi
      rw [if_pos rfl, if_pos he]
    · rw [if_neg hi, if_neg (by omega)]
/-- The row of the week's hours while the first d days are written. -/
def weekRow (wk : List Int) (d : Nat) : List Int := (List.range 1000).map fun j => if j < d then wk.getD (j % 7) 0 else 0
theorem weekRow_zero (wk : List Int) : weekRow wk 0 = List.replicate 1000 0 := by
  have : List.replicate 1000 (0 : Int) = (List.range 1000).map (fun _ => 0) := by rw [List.map_const', List.length_range]
  rw [this]
  unfold weekRow
  refine List.map_congr_left fun j hj => ?_
  rw [if_neg (by omega)]
theorem weekRow_all (wk : List Int) (ex : List (Int × Int)) : weekRow wk 1000 = hoursRow wk ex 0 := by
  unfold weekRow hoursRow
  refine List.map_congr_left fun j hj => ?_
  have h1 : j < 1000 := List.mem_range.1 hj
  simp only [hoursTo]; rw [if_pos h1]
theorem weekRow_len (wk : List Int) (d : Nat) : (weekRow wk d).length = 1000 := by simp [weekRow]
theorem weekRow_next (wk : List Int) (d : Nat) (hd : d < 1000) : (weekRow wk d).set d (wk.getD (d % 7) 0) = weekRow wk (d + 1) := by
  apply List.ext_getElem
  · simp [weekRow]
  · intro i h1 h2
    rw [List.getElem_set]
    simp only [weekRow, List.getElem_map, List.getElem_range]
    by_cases hi : d = i
    · subst hi
      rw [if_pos rfl, if_pos (by omega)]
    · rw [if_neg hi]
      by_cases h : i < d
      · rw [if_pos h, if_pos (by omega)]
      · rw [if_neg h, if_neg (by omega)]
end Go.Proofs.YtlnkofnfgemfdaaGreat
/- Exception: its cells, and the walks of the laws' own helpers on lists of it. -/
namespace Go.Proofs.YtlnkofnfgemfdaaGreat
open Go.RowKit

abbrev Ex := Int × Int
def exF : Flat Ex := ⟨fun f => [.int .i64 (f.1), .int .i64 (f.2)], 2, fun _ => rfl⟩
abbrev ExsIn (w : World) (A : Option Addr) (n : Nat) (l : List Ex) : Prop := RowsIn exF w A n l
theorem exc_at {w : World} {A : Option Addr} {n : Nat} {l : List Ex} (h : ExsIn w A n l) {k : Nat} (hk : k < l.length) :
    ∃ b o, A = some ⟨b, o, none⟩ ∧ b < w.heap.size ∧ w.cell? ⟨b, o + k * 2, none⟩ = some (.int .i64 (l[k].1)) ∧ w.cell? ⟨b, o + k * 2 + 1, none⟩ = some (.int .i64 (l[k].2)) := by
  obtain ⟨b, o, e, hlt, hc⟩ := h.at_ hk
  exact ⟨b, o, e, hlt, hc 0 _ rfl, hc 1 _ rfl⟩
theorem excInfo : (Tryz.prog.info? 192).map (fun i => (i.zero, i.size, i.bytes)) = some (some (.agg #[.int .i64 0, .int .i64 0]), 2, 16) := by kernel_rfl
theorem excElem : ElemOk exF 41 192 := by
  obtain ⟨i, h1, h2, h3, h4⟩ := info_parts excInfo
  exact ⟨i, _, 16, Tryz.underlying41, h1, h2, h3, h4, rfl, by decide, by omega⟩
theorem toException_any (x0 : Int) (x1 : Int) (w : World) : Calls Tryz.prog 146 #[.agg #[.int .i64 (x0), .int .i64 (x1)]] w fun e w' => e = .returned (.agg #[.int .i64 (x0), .int .i64 (x1)]) ∧ Below w.heap.size w w' := by
  go_enter Tryz.func146, Tryz.ntmps146
  go_wp2
  refine bodyPost_ret (v := .agg #[.int .i64 (x0), .int .i64 (x1)]) (by simp [results, Tryz.results146, go_sem]) rfl ⟨rfl, ?_⟩
  exact (((Below.refl _ _).alloc (Nat.le_refl _) _).alloc (by simp) _).alloc (by simp; omega) _
set_option maxRecDepth 100000 in
set_option maxHeartbeats 2000000 in
theorem toExceptionS_any (A : Option Addr) (n c : Nat) (l : List Ex) (w : World) (hl : ExsIn w A n l) :
    Calls Tryz.prog 111 #[.slice A n c] w fun e w' => ∃ A', e = .returned (.slice A' n n) ∧ OwnRows exF 192 w' w.heap.size A' n n l ∧ Below w.heap.size w w' := by
  obtain ⟨i0, hi0, hz0, hz1, hz2⟩ := info_parts excInfo
  have hn := hl.len
  obtain rfl := hl.1
  go_enter Tryz.func111, Tryz.ntmps111
  go_wp2_with (at_make; refine wpList_make_full _ rfl (.tmp 6) (.tmp 6) _ rfl w.heap.size 192 i0 _ 2 Tryz.underlying41 hi0 hz0 hz1 .i64 .i64 _ _ l.length rfl rfl rfl rfl (by rw [hz2]; omega) (by unfold maxLen; omega) (Nat.le_refl _) ?_; intro w1 hown hg)
  have hb1 := below_none hg
  generalize hzs : (madeCells (Value.agg #[.int .i64 0, .int .i64 0]).cells (l.length * 2)).toList = zs at hown
  have hzl : zs.length = (l.flatMap exF.enc).length := by rw [flatMap_len exF.enc 2 exF.len, hown.1]
  clear hg hzs
  have HZ := Lib.hid hzl; clear hzl
  have hown1 : w1.ownsRow w.heap.size 192 2 (.slice (some ⟨w.heap.size, 0, none⟩) l.length l.length) l.length (fillC zs (l.flatMap exF.enc) 0) := by
    rw [fillC_zero]; exact hown
  clear hown
  go_loopw [4] (fun i wr => ∃ k : Nat, k ≤ l.length ∧ i = .int .i64 k ∧ wr.ownsRow w.heap.size 192 2 (.slice (some ⟨w.heap.size, 0, none⟩) l.length l.length) l.length (fillC zs (l.flatMap exF.enc) (k * 2)) ∧ Below w.heap.size w wr) (fun i _ => l.length - (intOf i).toNat)
  case atStart => exact ⟨0, by omega, rfl, by rw [Nat.zero_mul]; exact hown1, hb1⟩
  case round =>
    obtain ⟨k, hk, rfl, hown, hb⟩ := hrel
    by_cases hlt : k < l.length
    · obtain ⟨b, o, rfl, _, hc0, hc1⟩ := exc_at (hl.keep hb) hlt
      go_wp2_with fail
      refine (toException_any _ _ _).mono ?_
      rintro e w2 ⟨rfl, hb2⟩
      have ho := own_keep hown hb2
      have hlen : (l.flatMap exF.enc).length = l.length * 2 := flatMap_len exF.enc 2 exF.len l
      have hz := HZ.out
      have e0 : (l.flatMap exF.enc)[k * 2]? = some (.int .i64 (l[k].1)) := flatMap_at exF.enc 2 exF.len l k 0 hlt (by omega)
      obtain ⟨u0, c0, f0⟩ := own_cell ho (k * 2) (by omega)
      have e1 : (l.flatMap exF.enc)[k * 2 + 1]? = some (.int .i64 (l[k].2)) := flatMap_at exF.enc 2 exF.len l k 1 hlt (by omega)
      obtain ⟨u1, c1, f1⟩ := own_cell ho (k * 2 + 1) (by omega)
      have s0 := (ho.stored (k * 2) (.int .i64 (l[k].1))).1
      rw [fillC_set _ _ _ _ e0 hz] at s0
      have s1 := (s0.stored (k * 2 + 1) (.int .i64 (l[k].2))).1
      rw [fillC_set _ _ _ _ e1 hz] at s1
      have hb3 : Below w.heap.size w w2 := hb.trans (hb2.mono hb.size)
      have S2 := Lib.hid s1
      clear ho e0 e1 s0 s1 hown hz hlen hb hb2
      go_wp2
      go_roundw
      case rel => exact ⟨k + 1, by omega, by go_num, by rw [show (k + 1) * 2 = k * 2 + 1 + 1 by omega]; exact S2.out, ((hb3.setCell (Nat.le_refl _) _).setCell (Nat.le_refl _) _)⟩
      case measure => simp [intOf]; omega
    · obtain rfl : k = l.length := by omega
      go_wp2
      go_ret
      refine ⟨_, rfl, ⟨rfl, ?_⟩, hb⟩
      have h2 : (l.flatMap exF.enc).length = l.length * 2 := flatMap_len exF.enc 2 exF.len l
      rw [← h2, fillC_all _ _ HZ.out] at hown
      exact hown
theorem eqException_yes (x0 : Int) (x1 : Int) (w : World) : Calls Tryz.prog 153 #[.agg #[.int .i64 (x0), .int .i64 (x1)], .agg #[.int .i64 (x0), .int .i64 (x1)]] w fun e w' => e = .returned (.bool true) ∧ Below w.heap.size w w' := by
  go_enter Tryz.func153, Tryz.ntmps153
  go_wp2
  go_ret
  exact ⟨rfl, ((Below.refl _ _).alloc (Nat.le_refl _) _).alloc (by simp) _⟩
set_option maxRecDepth 100000 in
set_option maxHeartbeats 2000000 in
theorem eqExceptionS_yes (A B : Option Addr) (n m c d : Nat) (l : List Ex) (w : World) (ha : ExsIn w A n l) (hb : ExsIn w B m l) :
    Calls Tryz.prog 127 #[.slice A n c, .slice B m d] w fun e w' => e = .returned (.bool true) ∧ Below w.heap.size w w' := by
  have hn := ha.len
  obtain rfl := ha.1
  obtain rfl := hb.1
  go_enter Tryz.func127, Tryz.ntmps127
  go_wp2
  go_loopw [5] (fun i wr => ∃ k : Nat, k ≤ l.length ∧ i = .int .i64 k ∧ Below w.heap.size w wr) (fun i _ => l.length - (intOf i).toNat)
  case atStart => exact ⟨0, by omega, rfl, Below.refl _ _⟩
  case round =>
    obtain ⟨k, hk, rfl, HD⟩ := hrel
    by_cases hlt : k < l.length
    · obtain ⟨b1, o1, rfl, _, hc0, hc1⟩ := exc_at (ha.keep HD) hlt
      obtain ⟨b2, o2, rfl, _, hd0, hd1⟩ := exc_at (hb.keep HD) hlt
      go_wp2
      go_still_tail 8, (by kernel_rfl)
      change wpList _ _ _ _ _ wr.drew
      have HE : Below w.heap.size w wr.drew := HD.drew
      generalize wr.drew = w2 at *
      go_wp2_with (go_at_call 153; refine (eqException_yes _ _ _).mono ?_; rintro e w3 ⟨rfl, hb3⟩)
      go_roundw
      case rel => exact ⟨k + 1, by omega, by go_num, HE.trans (hb3.mono HE.size)⟩
      case measure => simp [intOf]; omega
    · obtain rfl : k = l.length := by omega
      go_wp2
      go_ret
      exact ⟨rfl, HD⟩
theorem szExceptionS_ok (A : Option Addr) (n c : Nat) (left : Int) (w : World) (h : (n : Int) ≤ left) (hl : left ≤ 1048576) :
    Calls Tryz.prog 95 #[.slice A n c, .int .i64 left] w fun e w' => e = .returned (.int .i64 (left - n)) ∧ w = w' := by
  go_enter Tryz.func95, Tryz.ntmps95
  go_wp2
  go_ret
  exact ⟨rfl, rfl⟩
theorem szExceptionS_big (A : Option Addr) (n c : Nat) (left : Int) (w : World) (h : left < (n : Int)) (h0 : 0 ≤ left) (hn : n ≤ 9223372036854775807) :
    Calls Tryz.prog 95 #[.slice A n c, .int .i64 left] w fun e w' => e = .returned (.int .i64 (-1)) ∧ w = w' := by
  go_enter Tryz.func95, Tryz.ntmps95
  go_wp2
  go_ret
  exact ⟨rfl, rfl⟩
/-- What the marks from k on make of a list. -/
def marksEx : List Ex → Int → List Ex
  | [], _ => []
  | _ :: t, k => (k, k + 1) :: marksEx t (k + 2)
theorem marksEx_len (l : List Ex) (k : Int) : (marksEx l k).length = l.length := by
  induction l generalizing k with
  | nil => rfl
  | cons f t ih => simp [marksEx, ih]
theorem marksEx_at (l : List Ex) (k : Int) (j : Nat) (h : j < (marksEx l k).length) : (marksEx l k)[j] = (k + 2 * j, k + 2 * j + 1) := by
  induction l generalizing k j with
  | nil => simp [marksEx] at h
  | cons f t ih =>
    cases j with
    | zero => simp [marksEx]
    | succ j =>
      simp only [marksEx, List.getElem_cons_succ]
      rw [ih]
      rw [show k + 2 + 2 * (j : Int) = k + 2 * ((j + 1 : Nat) : Int) by omega]
set_option maxRecDepth 100000 in
set_option maxHeartbeats 2000000 in
theorem markExceptionS_any (A : Option Addr) (n c lo hi : Nat) (l : List Ex) (k0 : Int) (w : World) (ha : RowsAt exF 192 w lo hi A n c l) (hk0 : 0 ≤ k0) (hk1 : k0 ≤ 2000000000000000000) (hn : l.length ≤ 16777216) :
    Calls Tryz.prog 133 #[.slice A n c, .int .i64 k0] w fun e w' => e = .returned (.int .i64 (k0 + 2 * l.length)) ∧ RowsAt exF 192 w' lo hi A n c (marksEx l k0) ∧ Only lo hi w w' := by
  obtain rfl := ha.1
  have hml := marksEx_len l k0
  have hlen : (l.flatMap exF.enc).length = l.length * 2 := flatMap_len exF.enc 2 exF.len l
  have hlen2 : ((marksEx l k0).flatMap exF.enc).length = l.length * 2 := by rw [flatMap_len exF.enc 2 exF.len, hml]
  have HZ := Lib.hid (hlen.trans hlen2.symm)
  have HL := Lib.hid hlen2
  have HM := Lib.hid hml
  clear hml hlen hlen2
  obtain ⟨_, ⟨hown, hhi, hlt⟩⟩ := ha
  have HT := Lib.hid hlt
  clear hlt
  go_enter Tryz.func133, Tryz.ntmps133
  go_wp2
  go_loopw [1, 5] (fun m i wr => ∃ k : Nat, k ≤ l.length ∧ i = .int .i64 k ∧ m = .int .i64 (k0 + 2 * k) ∧ wr.ownsRow lo 192 2 (.slice A l.length c) l.length (fillC (l.flatMap exF.enc) ((marksEx l k0).flatMap exF.enc) (k * 2)) ∧ Only lo hi w wr) (fun _ i _ => l.length - (intOf i).toNat)
  case atStart => exact ⟨0, by omega, rfl, by go_num, by rw [Nat.zero_mul, fillC_zero]; exact hown, Only.refl _ _ _⟩
  case round =>
    obtain ⟨k, hk, rfl, rfl, ho, HO⟩ := hrel
    by_cases hlt : k < l.length
    · have hA : ∃ g, A = some ⟨g, 0, none⟩ := by
        rcases ho.2 with ⟨hv, h0⟩ | ⟨g, cap, cur, hv, _⟩
        · omega
        · exact ⟨g, by injection hv⟩
      obtain ⟨g, rfl⟩ := hA
      have hm : k < (marksEx l k0).length := by rw [HM.out]; exact hlt
      have e0 : ((marksEx l k0).flatMap exF.enc)[k * 2]? = some (.int .i64 (k0 + 2 * k)) := by
        have := flatMap_at exF.enc 2 exF.len (marksEx l k0) k 0 hm (by omega)
        rw [marksEx_at _ _ _ hm] at this; exact this
      obtain ⟨u0, c0, f0⟩ := own_cell ho (k * 2) (by omega)
      have e1 : ((marksEx l k0).flatMap exF.enc)[k * 2 + 1]? = some (.int .i64 (k0 + 2 * k + 1)) := by
        have := flatMap_at exF.enc 2 exF.len (marksEx l k0) k 1 hm (by omega)
        rw [marksEx_at _ _ _ hm] at this; exact this
      obtain ⟨u1, c1, f1⟩ := own_cell ho (k * 2 + 1) (by omega)
      have s0 := (ho.stored (k * 2) (.int .i64 (k0 + 2 * k)))
      rw [fillC_set _ _ _ _ e0 HZ.out] at s0
      have s1 := (s0.1.stored (k * 2 + 1) (.int .i64 (k0 + 2 * k + 1)))
      rw [fillC_set _ _ _ _ e1 HZ.out] at s1
      have hgl : lo ≤ g ∧ g < hi := ⟨(own_lt ho _ rfl).1, HT.out _ rfl⟩
      have HO2 : Only lo hi w _ := ((HO.trans (Only.of_grown s0.2 (fun x hx => by injection hx with hx; subst hx; exact hgl))).trans (Only.of_grown s1.2 (fun x hx => by injection hx with hx; subst hx; exact hgl)))
      have S2 := Lib.hid s1.1
      clear e0 e1 s0 s1 ho
      go_wp2
      go_roundw
      case rel => exact ⟨k + 1, by omega, by go_num, by go_num, by rw [show (k + 1) * 2 = k * 2 + 1 + 1 by omega]; exact S2.out, HO2⟩
      case measure => simp [intOf]; omega
    · obtain rfl : k = l.length := by omega
      go_wp2
      go_ret
      rw [← HL.out, fillC_all _ _ HZ.out] at ho
      exact ⟨rfl, ⟨HM.out.symm, ho, Nat.le_trans hhi HO.size, HT.out⟩, HO⟩
end Go.Proofs.YtlnkofnfgemfdaaGreat
