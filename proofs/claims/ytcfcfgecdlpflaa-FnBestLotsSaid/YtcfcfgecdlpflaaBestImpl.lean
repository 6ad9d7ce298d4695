/- The walk of the program's BestLots. -/
import Derived.Test.YtcfcfgecdlpflaaBestRows
import Derived.Test.YtcfcfgecdlpflaaLots16
import Derived.Test.YtcfcfgecdlpflaaCellD
namespace Go.Proofs.Ytcfcfgecdlpflaa
open Go.RowKit

/-- Best lots, what they cost, and whether there are any. -/
def bestLots (needs : List Int) (s h : Int) : List Int × Int × Bool :=
  if arePeriods needs s h then (lots16 needs (chain needs s h needs.length needs.length).1 needs.length (chain needs s h needs.length needs.length).1.length, bestN needs s h needs.length 0, true) else ([], 0, false)
theorem bestLots_no {needs : List Int} {s h : Int} (hn : arePeriods needs s h = false) : bestLots needs s h = ([], 0, false) := by simp [bestLots, hn]
theorem bestLots_yes {needs : List Int} {s h : Int} (hn : arePeriods needs s h = true) : bestLots needs s h = (lots16 needs (chain needs s h needs.length needs.length).1 needs.length (chain needs s h needs.length needs.length).1.length, bestN needs s h needs.length 0, true) := by simp [bestLots, hn]
theorem bestLots_len (l : List Int) (s h : Int) (hl : l.length ≤ 16777216) : (bestLots l s h).1.length ≤ 16777216 := by
  unfold bestLots
  split
  · simp only; rw [lots16_len]; exact hl
  · simp
set_option maxRecDepth 100000 in
set_option maxHeartbeats 2000000 in
theorem implPartCost_any (A : Option Addr) (n c : Nat) (l : List Int) (s h : Int) (w : World) (ha : IntsIn w A n l) (hP : ∀ x ∈ l, 0 ≤ x ∧ x ≤ 1000) (h10 : l.length ≤ 10) (hs : 0 ≤ s ∧ s ≤ 10000) (hh : 0 ≤ h ∧ h ≤ 10000) :
    Calls Try.prog 62 #[.slice A n c, .int .i64 s, .int .i64 h] w fun e w' => e = .returned (.int .i64 (partC l s h)) ∧ w = w' := by
  have hn := ha.2.len
  obtain rfl := ha.1
  obtain ⟨s1, s2⟩ := hs
  obtain ⟨h1, h2⟩ := hh
  have HP := Lib.hid hP
  clear hP
  by_cases hz : sumN l l.length = 0
  · have HZ : Hid (partC l s h = 0) := by show partC l s h = 0; unfold partC; rw [if_pos hz]
    have hz2 : (sumN l l.length == 0) = true := by simp [hz]
    clear hz
    go_enter Try.func62, Try.ntmps62
    go_wp2_with (go_at_call 63; refine (implSum_any _ _ _ l _ ha HP.out h10).mono ?_; rintro e w' ⟨rfl, rfl⟩)
    go_ret
    exact ⟨ret_int HZ.out.symm, rfl⟩
  · have HZ : Hid (partC l s h = s + holdN l h 0 l.length) := by show partC l s h = _; unfold partC; rw [if_neg hz]
    have hz2 : (sumN l l.length == 0) = false := by simp [hz]
    clear hz
    go_enter Try.func62, Try.ntmps62
    go_wp2_with (go_at_call 63; refine (implSum_any _ _ _ l _ ha HP.out h10).mono ?_; rintro e w' ⟨rfl, rfl⟩)
    clear hz2
    go_loop [7, 16] (fun t i => ∃ k : Nat, k ≤ l.length ∧ i = .int .i64 k ∧ t = .int .i64 (s + holdN l h 0 k)) (fun _ i => l.length - (intOf i).toNat)
    case atStart => exact ⟨0, by omega, rfl, by simp [holdN]⟩
    case round =>
      obtain ⟨k, hk, rfl, rfl⟩ := hrel
      obtain ⟨t0, t1⟩ := lotC_le HP.out ⟨s1, s2⟩ ⟨h1, h2⟩ 0 k (by omega)
      by_cases hlt : k < l.length
      · obtain ⟨b, o, rfl, _, hcell⟩ := ha.at_ hlt
        obtain ⟨y1, y2⟩ := HP.out _ (List.getElem_mem hlt)
        have HS : Hid (holdN l h 0 (k + 1) = holdN l h 0 k + h * l[k] * k) := by
          show holdN l h 0 (k + 1) = _
          simp only [holdN, Nat.zero_add]; rw [getD_cell hlt]
        obtain ⟨m1, m2⟩ := mul_bd h1 h2 y1 y2
        obtain ⟨m3, m4⟩ := mul_bd m1 m2 (show 0 ≤ (k : Int) by omega) (show (k : Int) ≤ 10 by omega)
        go_wp2
        go_round
        case rel => exact ⟨k + 1, by omega, by go_num, by rw [HS.out, ← Int.add_assoc]⟩
        case measure => simp [intOf]; omega
      · obtain rfl : k = l.length := by omega
        go_wp2
        go_ret
        exact ⟨ret_int HZ.out.symm, rfl⟩
/-- The ending of a call that hands back a row of numbers, a number and a Bool. -/
def TripleInts (w : World) (val : List Int × Int × Bool) (e : Ending) (w' : World) : Prop :=
  ∃ A c, e = .returned (.tuple #[.slice A val.1.length c, .int .i64 val.2.1, .bool val.2.2]) ∧ OwnInts w' w.heap.size A val.1.length c val.1 ∧ Below w.heap.size w w'
theorem tripleInts_mk {w w' : World} {val : List Int × Int × Bool} {A : Option Addr} {n c : Nat} {l : List Int} {x y : Int} {b : Bool} (hv : val = (l, y, b)) (hx : x = y) (h : OwnInts w' w.heap.size A n c l) (hb : Below w.heap.size w w') : TripleInts w val (.returned (.tuple #[.slice A n c, .int .i64 x, .bool b])) w' := by
  subst hv hx
  obtain ⟨rfl, h⟩ := h
  exact ⟨A, c, rfl, ⟨rfl, h⟩, hb⟩
set_option maxRecDepth 100000 in
set_option maxHeartbeats 4000000 in
theorem implBestLots_any (A : Option Addr) (n c : Nat) (needs : List Int) (s h : Int) (w : World) (ha : IntsIn w A n needs) (hcap : needs.length ≤ c) :
    Calls Try.prog 22 #[.slice A n c, .int .i64 s, .int .i64 h] w (TripleInts w (bestLots needs s h)) := by
  have hln := ha.len
  obtain rfl := ha.1
  cases hp : arePeriods needs s h
  · go_enter Try.func22, Try.ntmps22
    go_wp2_with (go_at_call 61; refine (implArePeriods_any _ _ _ needs _ _ _ ha).mono ?_; rintro e w' ⟨rfl, rfl⟩)
    go_ret3
    exact tripleInts_mk (bestLots_no hp) rfl (ownInts_nil _ _) (Below.refl _ _)
  obtain ⟨p1, p2, ⟨p3, p4⟩, ⟨p5, p6⟩⟩ := arePeriods_parts hp
  have hx := fun i (hi : i < needs.length) => (bestN_facts needs s h p3 p5 (fun x hx => (p1 x hx).1) needs.length i hi).2
  have HX := Lib.hid hx; clear hx
  have HP := Lib.hid p1; clear p1
  have HY := Lib.hid (bestLots_yes hp)
  have e1 : ((needs.length : Int) + 1) = ((needs.length + 1 : Nat) : Int) := by omega
  have HE1 := Lib.hid e1; clear e1
  go_enter Try.func22, Try.ntmps22
  go_wp2_with (first
    | (go_at_call 61; refine (implArePeriods_any _ _ _ needs _ _ _ ha).mono ?_; rintro e w' ⟨rfl, rfl⟩)
    | (at_make; refine wpList_make_nums rfl (.tmp 25) (.tmp 25) rfl w.heap.size (needs.length + 1) rfl rfl HE1.out HE1.out (by omega) (Nat.le_refl _) ?_; intro w1 hA hA2 hA3)
    | (at_make; refine wpList_make_nums rfl (.tmp 28) (.tmp 28) rfl w.heap.size (needs.length + 1) rfl rfl HE1.out HE1.out (by omega) (Nat.le_of_lt hA3) ?_; intro w2 hB hB2 hB3))
  clear hp
  replace hA := hA.keep hB2
  have hbb := below_on hA2 hB2
  have hn1 : ¬ w1.heap.size = w.heap.size := by omega
  have hn2 : ¬ w.heap.size = w1.heap.size := by omega
  rw [← rowB_zero needs s h needs.length] at hA
  rw [← rowX_zero needs s h needs.length] at hB
  generalize hg2 : w1.heap.size = g2 at *
  clear hA2 hB2
  go_loopw [12] (fun i wr => ∃ d : Nat, d ≤ needs.length ∧ i = .int .i64 ((needs.length : Int) - 1 - d) ∧ NumRow wr w.heap.size w.heap.size (needs.length + 1) (needs.length + 1) (rowB needs s h needs.length d) ∧ NumRow wr w.heap.size g2 (needs.length + 1) (needs.length + 1) (rowX needs s h needs.length d) ∧ Below w.heap.size w wr) (fun i _ => ((intOf i) + 1).toNat)
  case atStart => exact ⟨0, by omega, congrArg (Value.int .i64) (by omega), hA, hB, hbb⟩
  case round =>
    clear hA hB hbb
    obtain ⟨d, hd, hi, hA, hB, HR⟩ := hrel
    by_cases hlt : d < needs.length
    · obtain ⟨i, hid⟩ : ∃ i, i = needs.length - (d + 1) := ⟨_, rfl⟩
      have e : ((needs.length : Int) - 1 - d) = (i : Int) := by omega
      rw [e] at hi
      subst hi
      have hin : i < needs.length := by omega
      have HD : Hid (needs.length - (d + 1) = i) := hid.symm
      have HI : Hid (i + (d + 1) = needs.length) := by show i + (d + 1) = needs.length; omega
      clear e hid
      obtain ⟨b, o, rfl, hbl, hz0⟩ := (ha.keep HR).at_ hin
      clear hz0
      have f1 := hA.frozen i
      have c1 := hA.cellD (j := i) (by rw [rowB_len _ _ _ _ _ hd]; omega)
      have hs0 := hA.set i (-1)
      have hrs := rowB_start needs s h needs.length d hlt
      rw [HD.out] at hrs
      rw [hrs] at hs0
      rw [rowX_start needs s h needs.length d hlt] at hB
      have hB0 := hB.far (p := ⟨w.heap.size, i, none⟩) (v := .int .i64 (-1)) hn2
      have HR0 : Below w.heap.size w (wr.setCell ⟨w.heap.size, i, none⟩ (.int .i64 (-1))) := HR.setCell (Nat.le_refl _) _
      clear hrs hA hB
      go_wp2_with fail
      generalize wr.setCell ⟨w.heap.size, i, none⟩ (.int .i64 (-1)) = wq at *
      clear f1 c1
      have hcut : ∀ k, i < k → k ≤ needs.length → ∀ W, Below w.heap.size w W → Calls Try.prog 62 #[.slice (some ⟨b, o + i, none⟩) (k - i) (c - i), .int .i64 s, .int .i64 h] W fun e w' => e = .returned (.int .i64 (lotC needs s h i k)) ∧ Drew W w' := fun k h1 h2 W hW => by
        have hin2 := (ha.keep hW).cut i k (by omega) h2
        refine (implPartCost_any _ _ _ _ s h W hin2 (cut_in HP.out _ _) (by simp; omega) ⟨p3, p4⟩ ⟨p5, p6⟩).mono ?_
        rintro e w' ⟨rfl, rfl⟩
        refine ⟨ret_int (partC_cut (fun x hx => (HP.out x hx).1) i k (by omega) h2 (cut_seg needs i k (by omega) h2)), Drew.refl _⟩
      have HK := Lib.hid hcut
      clear hcut
      go_loopw [13] (fun t wr => ∃ k : Nat, i < k ∧ k ≤ needs.length + 1 ∧ t = .int .i64 k ∧ NumRow wr w.heap.size w.heap.size (needs.length + 1) (needs.length + 1) (midB needs s h needs.length d (k - (i + 1))) ∧ NumRow wr w.heap.size g2 (needs.length + 1) (needs.length + 1) (midX needs s h needs.length d (k - (i + 1))) ∧ Below w.heap.size w wr) (fun t _ => needs.length + 1 - (intOf t).toNat)
      case atStart => exact ⟨i + 1, by omega, by omega, by go_num, by rw [Nat.sub_self]; exact hs0, by rw [Nat.sub_self]; exact hB0, HR0⟩
      case round =>
        clear hs0 hB0 HR0
        obtain ⟨k, hik, hkn, rfl, hA, hB, HR⟩ := hrel
        by_cases hlt2 : k ≤ needs.length
        · have hm : i + 1 + (k - (i + 1)) = k := by omega
          have HM := Lib.hid hm; clear hm
          have cB := hA.cellD (j := i) (by rw [midB_len _ _ _ _ _ _ hlt]; omega)
          have cK := hA.cellD (j := k) (by rw [midB_len _ _ _ _ _ _ hlt]; omega)
          have cX := hB.cellD (j := i) (by rw [midX_len _ _ _ _ _ _ hlt]; omega)
          have fB := hA.frozen i
          have fX := hB.frozen i
          have e1 := midB_at needs s h needs.length d (k - (i + 1))
          have e2 := midB_far needs s h needs.length d (k - (i + 1)) (k - (i + 1))
          have hmt := mid_take needs s h needs.length d (k - (i + 1))
          have hms := mid_skip needs s h needs.length d (k - (i + 1))
          obtain ⟨q1, q2⟩ := pick_bd HP.out ⟨p3, p4⟩ ⟨p5, p6⟩ needs.length p2 d hlt (k - (i + 1)) (by have := HI.out; omega)
          obtain ⟨t1, t2⟩ := tbl_bd HP.out ⟨p3, p4⟩ ⟨p5, p6⟩ needs.length p2 d hd (k - (i + 1)) (by have := HI.out; omega)
          obtain ⟨l1, l2⟩ := lotC_bd HP.out ⟨p3, p4⟩ ⟨p5, p6⟩ i k (by omega)
          rw [HD.out] at e1 e2 hmt hms q1 q2
          rw [HM.out] at e2 hmt hms
          rw [e1] at cB
          rw [e2] at cK
          clear e1 e2
          have hd10 : d ≤ 10 := by omega
          generalize ((tbl needs s h needs.length d).getD (k - (i + 1)) (0, 0)).1 = tv at *
          generalize (pickTo needs s h i (tbl needs s h needs.length d) (k - (i + 1))).1 = pv at *
          generalize (midX needs s h needs.length d (k - (i + 1))).getD i 0 = xv at *
          have HT := Lib.hid (hmt _ rfl)
          have HS := Lib.hid (hms _ rfl)
          clear hmt hms
          have hE := HK.out k hik hlt2
          have HE := Lib.hid hE
          clear hE
          generalize lotC needs s h i k = lc at *
          have hk1 : k - (i + 1) + 1 = k + 1 - (i + 1) := by omega
          rw [hk1] at HT HS
          clear hk1
          have w1 : IntKind.i64.wrap (lc + tv) = lc + tv := IntWalk.i64_in _ (by omega)
          have hne : ¬ c = i := by omega
          have j0 : (i : Int) ≤ (k : Int) := by omega
          have j1 : (k : Int) ≤ (c : Int) := by omega
          go_wp2_with fail
          go_quiet ((go_at_call 62; exact quietD (fun W hW => HE.out W (HR.trans (hW.below _)))))
          clear w1
          by_cases hp1 : pv < 0
          · obtain ⟨m1, m2⟩ := HT.out (.inl hp1)
            have M1 := Lib.hid m1
            have M2 := Lib.hid m2
            clear m1 m2 HT HS
            go_wp2
            go_roundw
            case rel =>
              refine ⟨k + 1, by omega, by omega, by go_num, ?_, ?_, ((below_drewN HR _).setCell (Nat.le_refl _) _).setCell (Nat.le_of_lt hA3) _⟩
              · rw [← M1.out]; exact ((hA.drewN _).set i _).far hn1
              · rw [← M2.out]; exact ((hB.drewN _).far hn2).set i _
            case measure => simp [intOf]; omega
          · by_cases hp2 : lc + tv < pv
            · obtain ⟨m1, m2⟩ := HT.out (.inr hp2)
              have M1 := Lib.hid m1
              have M2 := Lib.hid m2
              clear m1 m2 HT HS
              go_wp2
              go_roundw
              case rel =>
                refine ⟨k + 1, by omega, by omega, by go_num, ?_, ?_, ((below_drewN HR _).setCell (Nat.le_refl _) _).setCell (Nat.le_of_lt hA3) _⟩
                · rw [← M1.out]; exact ((hA.drewN _).set i _).far hn1
                · rw [← M2.out]; exact ((hB.drewN _).far hn2).set i _
              case measure => simp [intOf]; omega
            · obtain ⟨m1, m2⟩ := HS.out (by omega)
              have M1 := Lib.hid m1
              have M2 := Lib.hid m2
              clear m1 m2 HT HS
              go_wp2
              go_roundw
              case rel =>
                exact ⟨k + 1, by omega, by omega, by go_num, by rw [← M1.out]; exact hA.drewN _, by rw [← M2.out]; exact hB.drewN _, below_drewN HR _⟩
              case measure => simp [intOf]; omega
        · obtain rfl : k = needs.length + 1 := by omega
          have hk1 : needs.length + 1 - (i + 1) = d + 1 := by have := HI.out; omega
          rw [hk1, midB_end] at hA
          rw [hk1, midX_end] at hB
          clear hk1
          go_wp2
          go_roundw
          case rel => exact ⟨d + 1, by omega, congrArg (Value.int .i64) (by have := HI.out; omega), hA, hB, HR⟩
          case measure => simp [intOf] <;> omega
    · obtain rfl : d = needs.length := by omega
      have e : ((needs.length : Int) - 1 - needs.length) = -1 := by omega
      rw [e] at hi
      subst hi
      clear e
      have hsz := HR.size
      go_wp2_with (at_make; refine wpList_make_nums rfl (.tmp 79) (.tmp 79) rfl w.heap.size needs.length rfl rfl rfl rfl (by omega) hsz ?_; intro w5 hC hC2 hC3)
      have hg3 : ¬ w.heap.size = wr.heap.size := by have := (own_lt hA.2 _ rfl).2; simp only at this; omega
      have hg4 : ¬ g2 = wr.heap.size := by have := (own_lt hB.2 _ rfl).2; simp only at this; omega
      have hg5 : ¬ wr.heap.size = w.heap.size := by omega
      have hg6 : ¬ wr.heap.size = g2 := by omega
      have hg7 : w.heap.size ≤ wr.heap.size := hsz
      replace hA := hA.keep hC2
      replace hB := hB.keep hC2
      replace HR := below_on HR hC2
      clear hC2
      generalize hg3' : wr.heap.size = g3 at *
      go_loopw [16] (fun t wr => ∃ k : Nat, t = .int .i64 ((chain needs s h needs.length k).2 : Int) ∧ NumRow wr w.heap.size g3 needs.length needs.length (lots16 needs (chain needs s h needs.length k).1 (chain needs s h needs.length k).2 (chain needs s h needs.length k).1.length) ∧ NumRow wr w.heap.size w.heap.size (needs.length + 1) (needs.length + 1) (rowB needs s h needs.length needs.length) ∧ NumRow wr w.heap.size g2 (needs.length + 1) (needs.length + 1) (rowX needs s h needs.length needs.length) ∧ Below w.heap.size w wr) (fun t _ => needs.length - (intOf t).toNat)
      case atStart => exact ⟨0, rfl, hC, hA, hB, HR⟩
      case round =>
        clear hA hB hC HR
        obtain ⟨k, rfl, hC, hA, hB, HR⟩ := hrel
        have hxx := fun i hi => (show i < nextN needs s h needs.length i ∧ nextN needs s h needs.length i ≤ needs.length from ⟨(HX.out i hi).1, (HX.out i hi).2.1⟩)
        obtain ⟨ck1, ck2, ck3, ck4, ck5⟩ := chain_ok hxx k
        by_cases hlt : (chain needs s h needs.length k).2 < needs.length
        · obtain ⟨x1, x2⟩ := hxx _ hlt
          have HC : Hid (chain needs s h needs.length (k + 1) = ((chain needs s h needs.length k).1 ++ [(chain needs s h needs.length k).2], nextN needs s h needs.length (chain needs s h needs.length k).2)) := by
            show chain needs s h needs.length (k + 1) = _
            simp only [chain]; rw [if_pos hlt]
          have HL := Lib.hid (lots16_next needs (chain needs s h needs.length k).1 (chain needs s h needs.length k).2 (nextN needs s h needs.length (chain needs s h needs.length k).2))
          have fC := hC.frozen (chain needs s h needs.length k).2
          have cC := hC.cellD (j := (chain needs s h needs.length k).2) (by rw [lots16_len]; exact hlt)
          have cX := hB.cellD (j := (chain needs s h needs.length k).2) (by rw [rowX_len _ _ _ _ _ (Nat.le_refl _)]; omega)
          rw [rowX_all _ _ _ _ _ (by omega)] at cX
          have hCs := hC.set (chain needs s h needs.length k).2 (seg needs (chain needs s h needs.length k).2 (nextN needs s h needs.length (chain needs s h needs.length k).2))
          rw [HL.out] at hCs
          generalize (lots16 needs (chain needs s h needs.length k).1 (chain needs s h needs.length k).2 (chain needs s h needs.length k).1.length).getD (chain needs s h needs.length k).2 0 = ov at cC
          clear HL hC ck2 ck3 ck4 ck5 hxx ck1
          generalize (chain needs s h needs.length k).2 = i at *
          generalize (chain needs s h needs.length k).1 = SS at *
          generalize nextN needs s h needs.length i = x at *
          obtain ⟨b, o, rfl, hbl, hz0⟩ := (ha.keep HR).at_ hlt
          clear hz0
          have hE := fun (W : World) (hW : Below w.heap.size w W) => implSum_any (some ⟨b, o + i, none⟩) (x - i) (c - i) _ W ((ha.keep hW).cut i x (by omega) x2) (cut_in HP.out _ _) (by simp; omega)
          rw [cut_seg needs i x (by omega) x2] at hE
          have HE := Lib.hid hE
          clear hE
          have hne : ¬ c = i := by omega
          have j0 : (i : Int) ≤ (x : Int) := by omega
          have j1 : (x : Int) ≤ (c : Int) := by omega
          go_wp2_with (go_at_call 63; refine (HE.out _ HR).mono ?_; rintro e w' ⟨rfl, rfl⟩)
          go_round
          case rel =>
            refine ⟨k + 1, ?_, ?_, hA.far hg5, hB.far hg6, HR.setCell hg7 _⟩
            · rw [HC.out]
            · rw [HC.out]; exact hCs
          case measure => simp [intOf]; omega
        · have hce := chain_end hxx hlt
          have hcn : (chain needs s h needs.length k).2 = needs.length := by omega
          rw [hcn] at hC
          rw [hce] at hC
          have hb0 := hA.cellD (j := 0) (by rw [rowB_len _ _ _ _ _ (Nat.le_refl _)]; omega)
          rw [rowB_all _ _ _ _ _ (Nat.zero_le _)] at hb0
          clear hce ck1 ck2 ck3 ck4 ck5 hxx
          rw [hcn]
          clear hcn hlt
          go_wp2_with fail
          go_quiet (fail)
          go_wp2_with fail
          go_ret3
          exact tripleInts_mk HY.out rfl (hC.drewN _) (below_drewN HR _)
end Go.Proofs.Ytcfcfgecdlpflaa
