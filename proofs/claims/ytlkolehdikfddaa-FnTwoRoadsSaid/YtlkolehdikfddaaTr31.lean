/- Part 31 of the texts of this claim: The walk of pieces: what is met on the way down from an item; The law on two roads (plain): what is taken, event by event; The walk of PartsOf of the program: what its list holds of a part is what lies in the quantity. -/
import Derived.Test.YtlkolehdikfddaaTr30
import Derived.Test.YtlkolehdikfddaaTr19
import Derived.Test.YtlkolehdikfddaaTr4
import Derived.Deep.Cut
import Derived.Test.YtlkolehdikfddaaTr13
import Derived.Test.YtlkolehdikfddaaTr17
/- The walk of pieces: what is met on the way down from an item. -/
namespace Go.Proofs.Ytlkolehdikfddaa
open Go.RowKit
/-- What pieces tells, if it can tell: what was met of the part is what lies in the quantity. -/
def Met (w : World) (n : Nat) (a0 pi : Nat) (tot : Int) (e : Ending) (w' : World) : Prop := Below w.heap.size w w' ∧ ((∃ (A : Option Addr) (m c : Nat), e = .returned (.tuple #[.slice A m c, .bool false])) ∨ (∃ (g c : Nat) (M : List Int), e = .returned (.tuple #[.slice (some ⟨g, 0, none⟩) n c, .bool true]) ∧ NumRow w' w.heap.size g n c M ∧ (∀ k, 0 ≤ M.getD k 0 ∧ M.getD k 0 ≤ 1000000000) ∧ M.length = n ∧ M.getD pi 0 = if pi = a0 then 0 else tot))
set_option maxRecDepth 100000 in
set_option maxHeartbeats 8000000 in
theorem pieces_any (A B : Option Addr) (n c m d : Nat) (it : List It) (ls : List Bl) (lv : List Nat) (on : Bl → Bool) (part : ByteArray) (a0 : Nat) (q : Int) (w : World) (hL : Lev it ls lv) (hcat : isCat it = true) (hi : ItemsIn w A n it) (hl : FlatL w B m (ls.filter on)) (h12 : it.length ≤ 12) (h24 : ls.length ≤ 24) (hp : 0 ≤ findIt it part) (hpk : (findIt it part).toNat ≠ a0 → kindPh it (findIt it part).toNat = false) (ha0 : a0 < it.length) (hq : 0 ≤ q ∧ q ≤ 100000) (hU : unitV it ls on part (codeAt it a0) ≤ 1000000000) :
    Calls Try.prog 26 #[.slice A n c, .slice B m d, .int .i64 a0, .int .i64 q, .func (.func 28) #[] #[]] w (Met w it.length a0 (findIt it part).toNat (q * unitV it ls on part (codeAt it a0))) := by
  obtain rfl := hi.1
  obtain rfl := hl.num
  obtain ⟨hT, hD⟩ := down_of hL on
  have hact : (ls.filter on).length ≤ 24 := Nat.le_trans (List.length_filter_le _ _) h24
  have hfnd : ∀ k (hk : k < (ls.filter on).length), 0 ≤ findIt it (ls.filter on)[k].1 ∧ 0 ≤ findIt it (ls.filter on)[k].2.1 := fun k hk => hD.fnd _ (List.getElem_mem hk)
  have HS0 := Lib.hid (Pcs.start (it := it) (U := unitV it ls on part) (lev := runTo (edges it (ls.filter on)) it.length it.length) (a0 := a0) (pi := (findIt it part).toNat) (q := q) ha0 ⟨hq.1, by omega⟩ hU)
  have ai : (a0 : Int) < (it.length : Int) := by omega
  go_enter Try.func26, Try.ntmps26
  go_wp2_with (at_make; refine wpList_make_nums rfl _ _ rfl w.heap.size it.length rfl rfl rfl rfl (by omega) (by omega) ?_; intro w5 hA hA2 hA3; have x9 := hA.cellN (j := a0) ha0; have f9 := hA.frozen a0)
  have hb5 := hA2
  have hA5 : NumRow (w5.setCell ⟨w.heap.size, a0, none⟩ (.int .i64 q)) w.heap.size w.heap.size it.length it.length ((List.replicate it.length 0).set a0 q) := hA.set a0 q
  have hB5 : Below w.heap.size w (w5.setCell ⟨w.heap.size, a0, none⟩ (.int .i64 q)) := hb5.setCell (p := ⟨w.heap.size, a0, none⟩) (Nat.le_refl _) _
  clear hA hA2 hA3
  have hz5 : w.heap.size + 1 ≤ (w5.setCell ⟨w.heap.size, a0, none⟩ (.int .i64 q)).heap.size := by have := hA5.lt.2; omega
  refine (levelsF_any A B it.length c _ d it (ls.filter on) _ (hi.keep hB5) (hl.keep hB5) h12 hact hfnd).mono ?_
  clear x9 f9
  generalize (w5.setCell ⟨w.heap.size, a0, none⟩ (.int .i64 q)) = w6 at *
  rintro e w7 ⟨A7, k7, d7, rfl, ho7, hs7⟩
  rw [hT]
  rw [levI_some hT] at ho7
  have HD := Lib.hid hD
  generalize runTo (edges it (ls.filter on)) it.length it.length = lev at *
  have hlev : OwnInts w7 (w.heap.size + 1) A7 k7 d7 (natI lev) := ho7.lower hz5
  have hA7 := hA5.keep hs7
  have hB7 := below_on hB5 hs7
  have HFN := Lib.hid hfnd
  have HL := Lib.hid hL
  clear hA5 hB5 ho7 hs7 hz5 hD hfnd hL hb5 hT
  go_wp2_with fail
  go_loopw [15] (fun v wr => ∃ (lI : Nat) (M : List Int), lI ≤ it.length + 1 ∧ v = .int .i64 lI ∧ NumRow wr w.heap.size w.heap.size it.length it.length M ∧ Hid (Pcs it (unitV it ls on part) lev a0 (findIt it part).toNat (passed lev lI 0) M (q * unitV it ls on part (codeAt it a0))) ∧ OwnInts wr (w.heap.size + 1) A7 k7 d7 (natI lev) ∧ Below w.heap.size w wr) (fun v _ => it.length + 2 - (intOf v).toNat)
  case atStart => exact ⟨0, _, by omega, rfl, hA7, HS0, hlev, hB7⟩
  case round =>
    clear hA7 HS0 hlev hB7
    obtain ⟨lI, M, hlI, rfl, hA, HS, hlev, hb⟩ := hrel
    by_cases hend : lI ≤ it.length
    case neg =>
      have hAll : Hid (∀ k, k < it.length → passed lev lI 0 k = true) := fun k hk => by
        have := HD.out.lt k hk
        unfold passed; rw [decide_eq_true (show lev.getD k 0 < lI by omega)]; rfl
      have xa := hA.cellN (j := a0) ha0
      have fa := hA.frozen a0
      have hAf := hA.set a0 0
      have hbf : Below w.heap.size w (wr.setCell ⟨w.heap.size, a0, none⟩ (.int .i64 0)) := hb.setCell (p := ⟨w.heap.size, a0, none⟩) (Nat.le_refl _) _
      have hle : ¬ (lI : Int) ≤ (it.length : Int) := by omega
      go_wp2_with fail
      go_ret2
      refine ⟨hbf, .inr ⟨w.heap.size, it.length, M.set a0 0, rfl, hAf, fun k => ?_, by rw [List.length_set]; exact HS.out.len, ?_⟩⟩
      · rw [intD_set _ _ _ _ (by rw [HS.out.len]; exact ha0)]
        split
        · omega
        · exact HS.out.bd k
      · rw [intD_set _ _ _ _ (by rw [HS.out.len]; exact ha0)]
        by_cases hpa : (findIt it part).toNat = a0
        · rw [if_pos hpa.symm, if_pos hpa]
        · rw [if_neg (Ne.symm hpa), if_neg hpa]
          exact HS.out.all hAll.out hpa
    have hle : (lI : Int) ≤ (it.length : Int) := by omega
    go_wp2_with fail
    go_loopw [42] (fun v wr => ∃ (i : Nat) (M : List Int), i ≤ it.length ∧ v = .int .i64 i ∧ NumRow wr w.heap.size w.heap.size it.length it.length M ∧ Hid (Pcs it (unitV it ls on part) lev a0 (findIt it part).toNat (passed lev lI i) M (q * unitV it ls on part (codeAt it a0))) ∧ OwnInts wr (w.heap.size + 1) A7 k7 d7 (natI lev) ∧ Below w.heap.size w wr) (fun v _ => it.length - (intOf v).toNat)
    case atStart => exact ⟨0, M, by omega, rfl, hA, HS, hlev, hb⟩
    case round =>
      clear hA HS hlev hb
      obtain ⟨i, M, hi2, rfl, hA, HS, hlev, hb⟩ := hrel
      by_cases hlt : i < it.length
      case neg =>
        obtain rfl : i = it.length := by omega
        have HC := Lib.hid (HS.out.congr (dn' := passed lev (lI + 1) 0) (fun k hk => by unfold passed; rw [Bool.eq_iff_iff]; simp; omega))
        go_wp2_with fail
        go_roundw
        case rel => exact ⟨lI + 1, M, by omega, by go_num, hA, HC, hlev, hb⟩
        case measure => simp [intOf]; omega
      have ii : (i : Int) < (it.length : Int) := by omega
      obtain ⟨bi, oi, hae, hbi, t0, t1, t2, t3, t4, t5, t6, t7⟩ := item_at (hi.keep hb) hlt
      subst hae
      have hk7 : k7 = (natI lev).length := hlev.1
      have hnl : (natI lev).length = it.length := by rw [natI_len]; exact HD.out.len
      obtain ⟨lvi, hlvi⟩ : ∃ x, lev.getD i 0 = x := ⟨_, rfl⟩
      have hli : i < (natI lev).length := by omega
      have ik : (i : Int) < (k7 : Int) := by omega
      have hs := below_alloc wr (.cells #[.string it[i].1, .string it[i].2.1, .int .i64 it[i].2.2.1, .int .i64 it[i].2.2.2.1, .int .i64 it[i].2.2.2.2.1, .int .i64 it[i].2.2.2.2.2.1, .int .i64 it[i].2.2.2.2.2.2.1, .int .i64 it[i].2.2.2.2.2.2.2] 47)
      have BXX : BoxOf (wr.alloc (.cells #[.string it[i].1, .string it[i].2.1, .int .i64 it[i].2.2.1, .int .i64 it[i].2.2.2.1, .int .i64 it[i].2.2.2.2.1, .int .i64 it[i].2.2.2.2.2.1, .int .i64 it[i].2.2.2.2.2.2.1, .int .i64 it[i].2.2.2.2.2.2.2] 47)) wr.heap.size [.string it[i].1, .string it[i].2.1, .int .i64 it[i].2.2.1, .int .i64 it[i].2.2.2.1, .int .i64 it[i].2.2.2.2.1, .int .i64 it[i].2.2.2.2.2.1, .int .i64 it[i].2.2.2.2.2.2.1, .int .i64 it[i].2.2.2.2.2.2.2] := boxOf_alloc wr #[.string it[i].1, .string it[i].2.1, .int .i64 it[i].2.2.1, .int .i64 it[i].2.2.2.1, .int .i64 it[i].2.2.2.2.1, .int .i64 it[i].2.2.2.2.2.1, .int .i64 it[i].2.2.2.2.2.2.1, .int .i64 it[i].2.2.2.2.2.2.2] 47
      have hb1 := below_on hb hs
      have hA1 := hA.keep hs
      have hlev1 := hlev.keep hs
      have HXG : Hid (w.heap.size < wr.heap.size) := hA.lt.2
      obtain ⟨bl, ol, hle7, hbl, l0⟩ := IntsIn.at_ (hlev1.ints (by omega)) hli
      subst hle7
      have HLV : Hid ((natI lev)[i] = (lvi : Int)) := by
        show _ = _
        have h1 := natI_getD lev i
        rw [hlvi, List.getD_eq_getElem?_getD, List.getElem?_eq_getElem hli] at h1
        exact h1
      rw [HLV.out] at l0
      have m0 := hA1.cellN (j := i) hlt
      obtain ⟨mi, hmi⟩ : ∃ x, M.getD i 0 = x := ⟨_, rfl⟩
      rw [hmi] at m0
      have hmb := HS.out.bd i
      rw [hmi] at hmb
      have HMI := Lib.hid hmi
      have HLI := Lib.hid hlvi
      have hok7 : k7 ≤ 12 := by omega
      have HK7 := Lib.hid hk7
      have HNL := Lib.hid hnl
      clear hmi hlvi hk7 hnl hlev hA hb hi2
      go_upto_region 10 with fail
      generalize (wr.alloc (.cells #[.string it[i].1, .string it[i].2.1, .int .i64 it[i].2.2.1, .int .i64 it[i].2.2.2.1, .int .i64 it[i].2.2.2.2.1, .int .i64 it[i].2.2.2.2.2.1, .int .i64 it[i].2.2.2.2.2.2.1, .int .i64 it[i].2.2.2.2.2.2.2] 47)) = w1 at *
      generalize wr.heap.size = Xb at *
      clear t0 t1 t2 t3 t4 t5 t6 t7 hbi hs
      have x0 := BXX.2 0 _ rfl
      have x1 := BXX.2 1 _ rfl
      have x2 := BXX.2 2 _ rfl
      have x3 := BXX.2 3 _ rfl
      have x4 := BXX.2 4 _ rfl
      have x5 := BXX.2 5 _ rfl
      have x6 := BXX.2 6 _ rfl
      have x7 := BXX.2 7 _ rfl
      have xl := BXX.1
      by_cases c1 : lvi = lI
      case neg =>
        have e1 : ¬ ((lvi : Int) = (lI : Int)) := by omega
        have e2 : ((lvi : Int) == (lI : Int)) = false := by simp; omega
        have e3 : ((lvi : Int) != (lI : Int)) = true := by simp; omega
        have HC := Lib.hid (HS.out.congr (dn' := passed lev lI (i + 1)) (fun k hk => by
          unfold passed
          by_cases hki : k = i
          · subst hki; rw [HLI.out, decide_eq_false c1]; rfl
          · rw [Bool.eq_iff_iff]; simp; omega))
        go_wp2_with fail
        go_roundw
        case rel => exact ⟨i + 1, M, by omega, by go_num, hA1, HC, hlev1, hb1⟩
        case measure => simp [intOf]; omega
      subst c1
      have hno : Hid (passed lev lvi i i = false) := by show _ = _; unfold passed; rw [HLI.out]; simp
      have hyes : Hid (passed lev lvi (i + 1) i = true) := by show _ = _; unfold passed; rw [HLI.out]; simp
      have hsame : Hid (∀ k, k ≠ i → passed lev lvi (i + 1) k = passed lev lvi i k) := fun k hk => by unfold passed; rw [Bool.eq_iff_iff]; simp; omega
      have HP := Lib.hid (HS.out.pass (dn' := passed lev lvi (i + 1)) hlt hno.out hyes.out hsame.out)
      by_cases c2 : mi = 0
      case pos =>
        have HC : Hid (Pcs it (unitV it ls on part) lev a0 (findIt it part).toNat (passed lev lvi (i + 1)) M (q * unitV it ls on part (codeAt it a0))) := by
          have h := HP.out
          rw [HMI.out, c2, Int.zero_mul] at h
          have h2 : Pcs it (unitV it ls on part) lev a0 (findIt it part).toNat (passed lev lvi (i + 1)) M (q * unitV it ls on part (codeAt it a0)) := by simpa using h
          exact h2
        have e2 : (mi == 0) = true := by simp [c2]
        go_wp2_with fail
        go_roundw
        case rel => exact ⟨i + 1, M, by omega, by go_num, hA1, HC, hlev1, hb1⟩
        case measure => simp [intOf]; omega
      have e2 : (mi == 0) = false := by simp [c2]
      have hkd : kindPh it i = (it[i].2.2.1 == 2) := by unfold kindPh; rw [List.getD_eq_getElem?_getD, List.getElem?_eq_getElem hlt]; rfl
      by_cases c3 : opn it a0 i = true
      case neg =>
        have hopn : ¬ i = a0 ∧ (it[i].2.2.1 == 2) = false := by
          unfold opn at c3
          rw [hkd] at c3
          simp only [Bool.or_eq_true, decide_eq_true_eq, not_or, Bool.not_eq_true] at c3
          exact c3
        obtain ⟨ha1, hkf⟩ := hopn
        have ha2 : ¬ ((i : Int) = (a0 : Int)) := by omega
        have ha3 : ((i : Int) == (a0 : Int)) = false := by simp; omega
        have HC : Hid (Pcs it (unitV it ls on part) lev a0 (findIt it part).toNat (passed lev lvi (i + 1)) M (q * unitV it ls on part (codeAt it a0))) := by
          have h := HP.out
          rw [if_neg c3, Int.sub_zero] at h
          exact h
        clear hkd
        go_wp2_with (go_at_call 28; refine (partsPh_any it[i] _).mono ?_; rintro e w2 ⟨rfl, hs2⟩; rw [hkf])
        have hb2 := below_on hb1 hs2
        have hA2 := hA1.keep hs2
        have hlev2 := hlev1.keep hs2
        go_roundw
        case rel => exact ⟨i + 1, M, by omega, by go_num, hA2, HC, hlev2, hb2⟩
        case measure => simp [intOf]; omega
      have HUI : Hid (unitV it ls on part it[i].1 ≤ 1000000000) := by
        show _ ≤ _
        have := HS.out.cap i hlt (by rw [HMI.out]; exact c2) c3 hno.out
        rw [codeAt_at hlt] at this; exact this
      have HRAW : Hid (raw it part it[i].1 (unitV it ls on part) (ls.filter on) = unitV it ls on part it[i].1) := unitV_raw HL.out on part it[i].1 (by rw [find_self hcat i hlt]; omega) HUI.out
      have HST : Hid (Pcs it (unitV it ls on part) lev a0 (findIt it part).toNat (passed lev lvi (i + 1)) M (q * unitV it ls on part (codeAt it a0) - mi * (unitV it ls on part it[i].1 - raw it part it[i].1 (unitV it ls on part) ((ls.filter on).take 0)))) := by
        have h := HP.out
        rw [if_pos c3, HMI.out, codeAt_at hlt] at h
        have e : raw it part it[i].1 (unitV it ls on part) ((ls.filter on).take 0) = 0 := rfl
        rw [e, Int.sub_zero]
        exact h
      have hne0 : mi ≠ 0 := c2
      by_cases hia : i = a0
      case pos =>
        subst hia
        clear hkd
        go_wp2_with fail
        have hb2 := hb1
        have hA2 := hA1
        have hlev2 := hlev1
        have BX2 := BXX
        generalize w1 = w2 at *
        clear hA1 hb1 hlev1 BXX x0 x1 x2 x3 x4 x5 x6 x7 xl m0 l0 hbl
        go_loopw [73] (fun v wr => ∃ (j : Nat) (Mj : List Int), j ≤ (ls.filter on).length ∧ v = .int .i64 j ∧ NumRow wr w.heap.size w.heap.size it.length it.length Mj ∧ Hid (Mj.getD i 0 = mi) ∧ Hid (Pcs it (unitV it ls on part) lev i (findIt it part).toNat (passed lev lvi (i + 1)) Mj (q * unitV it ls on part (codeAt it i) - mi * (unitV it ls on part it[i].1 - raw it part it[i].1 (unitV it ls on part) ((ls.filter on).take j)))) ∧ OwnInts wr (w.heap.size + 1) (some ⟨bl, ol, none⟩) k7 d7 (natI lev) ∧ BoxOf wr Xb [.string it[i].1, .string it[i].2.1, .int .i64 it[i].2.2.1, .int .i64 it[i].2.2.2.1, .int .i64 it[i].2.2.2.2.1, .int .i64 it[i].2.2.2.2.2.1, .int .i64 it[i].2.2.2.2.2.2.1, .int .i64 it[i].2.2.2.2.2.2.2] ∧ Below w.heap.size w wr) (fun v _ => (ls.filter on).length - (intOf v).toNat)
        case atStart => exact ⟨0, M, by omega, rfl, hA2, HMI, HST, hlev2, BX2, hb2⟩
        case round =>
          clear hA2 HST hlev2 BX2 hb2
          obtain ⟨j, Mj, hj2, rfl, hA, HMJ, HSJ, hlev, BX, hb⟩ := hrel
          by_cases hj : j < (ls.filter on).length
          case neg =>
            obtain rfl : j = (ls.filter on).length := by omega
            have HE : Hid (Pcs it (unitV it ls on part) lev i (findIt it part).toNat (passed lev lvi (i + 1)) Mj (q * unitV it ls on part (codeAt it i))) := by
              have h := HSJ.out
              rw [List.take_length, HRAW.out, Int.sub_self, Int.mul_zero, Int.sub_zero] at h
              exact h
            go_wp2_with fail
            go_roundw
            case rel => exact ⟨i + 1, Mj, by omega, by go_num, hA, HE, hlev, hb⟩
            case measure => simp [intOf]; omega
          have ji : (j : Int) < ((ls.filter on).length : Int) := by omega
          obtain ⟨bx, ox, B9, m9, c9, hle, hbx, s0, s1, s2, s3, s4, s5⟩ := flat_at (hl.keep hb) hj
          subst hle
          have hxm := List.getElem_mem hj
          have HRS := Lib.hid (raw_succ it part it[i].1 (unitV it ls on part) (ls.filter on) j hj)
          have hfx := HFN.out j hj
          have hqx := HD.out.qty _ hxm
          generalize hxx : (ls.filter on)[j] = x at *
          have HXX := Lib.hid hxx
          clear hxx
          have hs := below_alloc wr (.cells #[.string x.1, .string x.2.1, .int .i64 x.2.2.1, .int .i64 x.2.2.2.1, .int .i64 x.2.2.2.2.1, .slice B9 m9 c9] 90)
          have BL : BoxOf (wr.alloc (.cells #[.string x.1, .string x.2.1, .int .i64 x.2.2.1, .int .i64 x.2.2.2.1, .int .i64 x.2.2.2.2.1, .slice B9 m9 c9] 90)) wr.heap.size [.string x.1, .string x.2.1, .int .i64 x.2.2.1, .int .i64 x.2.2.2.1, .int .i64 x.2.2.2.2.1, .slice B9 m9 c9] := boxOf_alloc wr #[.string x.1, .string x.2.1, .int .i64 x.2.2.1, .int .i64 x.2.2.2.1, .int .i64 x.2.2.2.2.1, .slice B9 m9 c9] 90
          have hA3 := hA.keep hs
          have hlev3 := hlev.keep hs
          have BX3 := BX.keep hs
          have hb3' := below_on hb hs
          go_upto_region 14 with fail
          generalize wr.alloc (.cells #[.string x.1, .string x.2.1, .int .i64 x.2.2.1, .int .i64 x.2.2.2.1, .int .i64 x.2.2.2.2.1, .slice B9 m9 c9] 90) = w3 at *
          generalize wr.heap.size = Lb at *
          clear hA hlev BX hb hs s0 s1 s2 s3 s4 s5 hbx
          have y0 := BL.2 0 _ rfl
          have y1 := BL.2 1 _ rfl
          have y2 := BL.2 2 _ rfl
          have yl := BL.1
          have z0 := BX3.2 0 _ rfl
          have zl := BX3.1
          cases hcmp : (x.1.toList == it[i].1.toList)
          case false =>
            have HN : Hid (Pcs it (unitV it ls on part) lev i (findIt it part).toNat (passed lev lvi (i + 1)) Mj (q * unitV it ls on part (codeAt it i) - mi * (unitV it ls on part it[i].1 - raw it part it[i].1 (unitV it ls on part) ((ls.filter on).take (j + 1))))) := by
              show Pcs _ _ _ _ _ _ _ _
              rw [HRS.out]
              have : rawT it part it[i].1 (unitV it ls on part) x = 0 := by unfold rawT; rw [hcmp]; rfl
              rw [this, Int.add_zero]
              exact HSJ.out
            go_wp2_with fail
            go_roundw
            case rel => exact ⟨j + 1, Mj, by omega, by go_num, hA3, HMJ, HN, hlev3, BX3, hb3'⟩
            case measure => simp [intOf]; omega
          go_wp2_with fail
          refine (implFindItem_any (some ⟨bi, oi, none⟩) it.length c it x.2.1 _ (hi.keep hb3')).mono ?_
          rintro e w4 ⟨rfl, hs4⟩
          obtain ⟨kq, hkq⟩ : ∃ kq : Nat, findIt it x.2.1 = (kq : Int) := ⟨(findIt it x.2.1).toNat, by omega⟩
          have hkl : kq < it.length := by have := findIt_lt hfx.2; omega
          rw [hkq]
          have HKQ := Lib.hid hkq
          clear hkq
          have kqi : (kq : Int) < (it.length : Int) := by omega
          have hA4 := hA3.keep hs4
          have hlev4 := hlev3.keep hs4
          have BX4 := BX3.keep hs4
          have BL4 := BL.keep hs4
          have hb4 := below_on hb3' hs4
          clear hA3 hlev3 BX3 BL hb3' hs4 y0 y1 y2 yl z0 zl
          obtain ⟨mk, hmk⟩ : ∃ v, Mj.getD kq 0 = v := ⟨_, rfl⟩
          have HMK := Lib.hid hmk
          have hbk := HSJ.out.bd kq
          rw [hmk] at hbk
          clear hmk
          obtain ⟨qt, hqt⟩ : ∃ v, x.2.2.1 = v := ⟨_, rfl⟩
          rw [hqt] at hqx
          have hp0 : 0 ≤ mi * qt := Int.mul_nonneg hmb.1 (by omega)
          have hp1 : mi * qt ≤ 1000000000 * 1000 := Int.mul_le_mul hmb.2 hqx.2 (by omega) (by omega)
          have hw1 : IntKind.i64.wrap (mi * qt) = mi * qt := IntWalk.i64_in _ (by omega)
          have hw2 : IntKind.i64.wrap (mk + mi * qt) = mk + mi * qt := IntWalk.i64_in _ (by omega)
          have HNX : Hid (mk + mi * qt ≤ 1000000000 → Pcs it (unitV it ls on part) lev i (findIt it part).toNat (passed lev lvi (i + 1)) (Mj.set kq (mk + mi * qt)) (q * unitV it ls on part (codeAt it i) - mi * (unitV it ls on part it[i].1 - raw it part it[i].1 (unitV it ls on part) ((ls.filter on).take (j + 1)))) ∧ (Mj.set kq (mk + mi * qt)).getD i 0 = mi) := by
            intro hb9
            have hfq : (findIt it x.2.1).toNat = kq := by rw [HKQ.out, Int.toNat_natCast]
            have h := Pcs.line HL.out hcat hp HD.out hpk HSJ.out hlt (by rw [HMJ.out]; exact hne0) HUI.out hxm (by rw [beq_iff_eq] at hcmp; exact hcmp) (fun k hk => by
              rw [HLI.out] at hk
              unfold passed
              rw [decide_eq_false (by omega), decide_eq_false (show ¬ lev.getD k 0 = lvi by omega)]; rfl) (by rw [hfq, HMK.out, HMJ.out, hqt]; exact hb9)
            rw [hfq, HMK.out, HMJ.out, hqt] at h
            refine ⟨?_, ?_⟩
            · have e : q * unitV it ls on part (codeAt it i) - mi * (unitV it ls on part it[i].1 - raw it part it[i].1 (unitV it ls on part) ((ls.filter on).take (j + 1))) = q * unitV it ls on part (codeAt it i) - mi * (unitV it ls on part it[i].1 - raw it part it[i].1 (unitV it ls on part) ((ls.filter on).take j)) + mi * rawT it part it[i].1 (unitV it ls on part) x := by
                rw [HRS.out, show unitV it ls on part it[i].1 - (raw it part it[i].1 (unitV it ls on part) ((ls.filter on).take j) + rawT it part it[i].1 (unitV it ls on part) x) = unitV it ls on part it[i].1 - raw it part it[i].1 (unitV it ls on part) ((ls.filter on).take j) - rawT it part it[i].1 (unitV it ls on part) x by omega, Int.mul_sub mi (unitV it ls on part it[i].1 - raw it part it[i].1 (unitV it ls on part) ((ls.filter on).take j))]
                omega
              rw [e]; exact h.1
            · rw [intD_set _ _ _ _ (by rw [HSJ.out.len]; exact hkl), if_neg h.2.1]; exact HMJ.out
          have mk0 := hA4.cellN (j := kq) hkl
          rw [HMK.out] at mk0
          have mi0 := hA4.cellN (j := i) hlt
          rw [HMJ.out] at mi0
          have y2 := BL4.2 2 _ rfl
          rw [hqt] at y2
          have gl := hA4.lt.2
          have Ll := BL4.1
          clear HRS HXX HKQ hqt hcmp HSJ hfx hxm
          go_wp2_with fail
          go_still_tail 13, (by kernel_rfl)
          change wpList _ _ _ _ _ w4.drew
          replace hA4 := hA4.keep (Below.refl w4.heap.size w4).drew
          replace hlev4 := hlev4.keep (Below.refl w4.heap.size w4).drew
          replace BX4 := BX4.keep (Below.refl w4.heap.size w4).drew
          replace hb4 := hb4.drew
          have hXg : Xb ≠ w.heap.size := by have := HXG.out; omega
          clear mk0 mi0 y2 BL4 gl Ll
          generalize w4.drew = W8 at *
          have mk0 := hA4.cellN (j := kq) hkl
          rw [HMK.out] at mk0
          have fz := hA4.frozen kq
          have hAF := hA4.set kq (mk + mi * qt)
          have hbF : Below w.heap.size w (W8.setCell ⟨w.heap.size, kq, none⟩ (.int .i64 (mk + mi * qt))) := hb4.setCell (p := ⟨w.heap.size, kq, none⟩) (Nat.le_refl _) _
          have hlevF := hlev4.far (p := ⟨w.heap.size, kq, none⟩) (Nat.lt_succ_self _) (.int .i64 (mk + mi * qt))
          have BXF := BX4.off (p := ⟨w.heap.size, kq, none⟩) (by show w.heap.size ≠ Xb; omega) (.int .i64 (mk + mi * qt))
          have hgF : mk + mi * qt ≤ 1000000000 ∨ 1000000000 < mk + mi * qt := by omega
          clear hA4 hlev4 BX4 hb4
          rcases hgF with hsm | hbig
          case inr =>
            have hbd : decide (1000000000 < mk + mi * qt) = true := decide_eq_true hbig
            go_wp2_with fail
            go_ret2
            exact ⟨hbF, .inl ⟨none, 0, 0, rfl⟩⟩
          have hbd : decide (1000000000 < mk + mi * qt) = false := decide_eq_false (by omega)
          have hN9 := Lib.hid (HNX.out hsm).1
          have hM9 := Lib.hid (HNX.out hsm).2
          clear HNX
          go_wp2_with fail
          go_roundw
          case rel => exact ⟨j + 1, Mj.set kq (mk + mi * qt), by omega, by go_num, hAF, hM9, hN9, hlevF, BXF, hbF⟩
          case measure => simp [intOf]; omega
      case neg =>
        have ha2 : ¬ ((i : Int) = (a0 : Int)) := by omega
        have ha3 : ((i : Int) == (a0 : Int)) = false := by simp; omega
        have hkt : (it[i].2.2.1 == 2) = true := by
          unfold opn at c3
          rw [hkd, decide_eq_false hia] at c3
          simpa using c3
        clear hkd
        go_wp2_with (go_at_call 28; refine (partsPh_any it[i] _).mono ?_; rintro e w2 ⟨rfl, hs2⟩; rw [hkt])
        have hb2 := below_on hb1 hs2
        have hA2 := hA1.keep hs2
        have hlev2 := hlev1.keep hs2
        have BX2 := BXX.keep hs2
        clear hA1 hb1 hlev1 BXX x0 x1 x2 x3 x4 x5 x6 x7 xl m0 l0 hbl
        go_loopw [73] (fun v wr => ∃ (j : Nat) (Mj : List Int), j ≤ (ls.filter on).length ∧ v = .int .i64 j ∧ NumRow wr w.heap.size w.heap.size it.length it.length Mj ∧ Hid (Mj.getD i 0 = mi) ∧ Hid (Pcs it (unitV it ls on part) lev a0 (findIt it part).toNat (passed lev lvi (i + 1)) Mj (q * unitV it ls on part (codeAt it a0) - mi * (unitV it ls on part it[i].1 - raw it part it[i].1 (unitV it ls on part) ((ls.filter on).take j)))) ∧ OwnInts wr (w.heap.size + 1) (some ⟨bl, ol, none⟩) k7 d7 (natI lev) ∧ BoxOf wr Xb [.string it[i].1, .string it[i].2.1, .int .i64 it[i].2.2.1, .int .i64 it[i].2.2.2.1, .int .i64 it[i].2.2.2.2.1, .int .i64 it[i].2.2.2.2.2.1, .int .i64 it[i].2.2.2.2.2.2.1, .int .i64 it[i].2.2.2.2.2.2.2] ∧ Below w.heap.size w wr) (fun v _ => (ls.filter on).length - (intOf v).toNat)
        case atStart => exact ⟨0, M, by omega, rfl, hA2, HMI, HST, hlev2, BX2, hb2⟩
        case round =>
          clear hA2 HST hlev2 BX2 hb2
          obtain ⟨j, Mj, hj2, rfl, hA, HMJ, HSJ, hlev, BX, hb⟩ := hrel
          by_cases hj : j < (ls.filter on).length
          case neg =>
            obtain rfl : j = (ls.filter on).length := by omega
            have HE : Hid (Pcs it (unitV it ls on part) lev a0 (findIt it part).toNat (passed lev lvi (i + 1)) Mj (q * unitV it ls on part (codeAt it a0))) := by
              have h := HSJ.out
              rw [List.take_length, HRAW.out, Int.sub_self, Int.mul_zero, Int.sub_zero] at h
              exact h
            go_wp2_with fail
            go_roundw
            case rel => exact ⟨i + 1, Mj, by omega, by go_num, hA, HE, hlev, hb⟩
            case measure => simp [intOf]; omega
          have ji : (j : Int) < ((ls.filter on).length : Int) := by omega
          obtain ⟨bx, ox, B9, m9, c9, hle, hbx, s0, s1, s2, s3, s4, s5⟩ := flat_at (hl.keep hb) hj
          subst hle
          have hxm := List.getElem_mem hj
          have HRS := Lib.hid (raw_succ it part it[i].1 (unitV it ls on part) (ls.filter on) j hj)
          have hfx := HFN.out j hj
          have hqx := HD.out.qty _ hxm
          generalize hxx : (ls.filter on)[j] = x at *
          have HXX := Lib.hid hxx
          clear hxx
          have hs := below_alloc wr (.cells #[.string x.1, .string x.2.1, .int .i64 x.2.2.1, .int .i64 x.2.2.2.1, .int .i64 x.2.2.2.2.1, .slice B9 m9 c9] 90)
          have BL : BoxOf (wr.alloc (.cells #[.string x.1, .string x.2.1, .int .i64 x.2.2.1, .int .i64 x.2.2.2.1, .int .i64 x.2.2.2.2.1, .slice B9 m9 c9] 90)) wr.heap.size [.string x.1, .string x.2.1, .int .i64 x.2.2.1, .int .i64 x.2.2.2.1, .int .i64 x.2.2.2.2.1, .slice B9 m9 c9] := boxOf_alloc wr #[.string x.1, .string x.2.1, .int .i64 x.2.2.1, .int .i64 x.2.2.2.1, .int .i64 x.2.2.2.2.1, .slice B9 m9 c9] 90
          have hA3 := hA.keep hs
          have hlev3 := hlev.keep hs
          have BX3 := BX.keep hs
          have hb3' := below_on hb hs
          go_upto_region 14 with fail
          generalize wr.alloc (.cells #[.string x.1, .string x.2.1, .int .i64 x.2.2.1, .int .i64 x.2.2.2.1, .int .i64 x.2.2.2.2.1, .slice B9 m9 c9] 90) = w3 at *
          generalize wr.heap.size = Lb at *
          clear hA hlev BX hb hs s0 s1 s2 s3 s4 s5 hbx
          have y0 := BL.2 0 _ rfl
          have y1 := BL.2 1 _ rfl
          have y2 := BL.2 2 _ rfl
          have yl := BL.1
          have z0 := BX3.2 0 _ rfl
          have zl := BX3.1
          cases hcmp : (x.1.toList == it[i].1.toList)
          case false =>
            have HN : Hid (Pcs it (unitV it ls on part) lev a0 (findIt it part).toNat (passed lev lvi (i + 1)) Mj (q * unitV it ls on part (codeAt it a0) - mi * (unitV it ls on part it[i].1 - raw it part it[i].1 (unitV it ls on part) ((ls.filter on).take (j + 1))))) := by
              show Pcs _ _ _ _ _ _ _ _
              rw [HRS.out]
              have : rawT it part it[i].1 (unitV it ls on part) x = 0 := by unfold rawT; rw [hcmp]; rfl
              rw [this, Int.add_zero]
              exact HSJ.out
            go_wp2_with fail
            go_roundw
            case rel => exact ⟨j + 1, Mj, by omega, by go_num, hA3, HMJ, HN, hlev3, BX3, hb3'⟩
            case measure => simp [intOf]; omega
          go_wp2_with fail
          refine (implFindItem_any (some ⟨bi, oi, none⟩) it.length c it x.2.1 _ (hi.keep hb3')).mono ?_
          rintro e w4 ⟨rfl, hs4⟩
          obtain ⟨kq, hkq⟩ : ∃ kq : Nat, findIt it x.2.1 = (kq : Int) := ⟨(findIt it x.2.1).toNat, by omega⟩
          have hkl : kq < it.length := by have := findIt_lt hfx.2; omega
          rw [hkq]
          have HKQ := Lib.hid hkq
          clear hkq
          have kqi : (kq : Int) < (it.length : Int) := by omega
          have hA4 := hA3.keep hs4
          have hlev4 := hlev3.keep hs4
          have BX4 := BX3.keep hs4
          have BL4 := BL.keep hs4
          have hb4 := below_on hb3' hs4
          clear hA3 hlev3 BX3 BL hb3' hs4 y0 y1 y2 yl z0 zl
          obtain ⟨mk, hmk⟩ : ∃ v, Mj.getD kq 0 = v := ⟨_, rfl⟩
          have HMK := Lib.hid hmk
          have hbk := HSJ.out.bd kq
          rw [hmk] at hbk
          clear hmk
          obtain ⟨qt, hqt⟩ : ∃ v, x.2.2.1 = v := ⟨_, rfl⟩
          rw [hqt] at hqx
          have hp0 : 0 ≤ mi * qt := Int.mul_nonneg hmb.1 (by omega)
          have hp1 : mi * qt ≤ 1000000000 * 1000 := Int.mul_le_mul hmb.2 hqx.2 (by omega) (by omega)
          have hw1 : IntKind.i64.wrap (mi * qt) = mi * qt := IntWalk.i64_in _ (by omega)
          have hw2 : IntKind.i64.wrap (mk + mi * qt) = mk + mi * qt := IntWalk.i64_in _ (by omega)
          have HNX : Hid (mk + mi * qt ≤ 1000000000 → Pcs it (unitV it ls on part) lev a0 (findIt it part).toNat (passed lev lvi (i + 1)) (Mj.set kq (mk + mi * qt)) (q * unitV it ls on part (codeAt it a0) - mi * (unitV it ls on part it[i].1 - raw it part it[i].1 (unitV it ls on part) ((ls.filter on).take (j + 1)))) ∧ (Mj.set kq (mk + mi * qt)).getD i 0 = mi) := by
            intro hb9
            have hfq : (findIt it x.2.1).toNat = kq := by rw [HKQ.out, Int.toNat_natCast]
            have h := Pcs.line HL.out hcat hp HD.out hpk HSJ.out hlt (by rw [HMJ.out]; exact hne0) HUI.out hxm (by rw [beq_iff_eq] at hcmp; exact hcmp) (fun k hk => by
              rw [HLI.out] at hk
              unfold passed
              rw [decide_eq_false (by omega), decide_eq_false (show ¬ lev.getD k 0 = lvi by omega)]; rfl) (by rw [hfq, HMK.out, HMJ.out, hqt]; exact hb9)
            rw [hfq, HMK.out, HMJ.out, hqt] at h
            refine ⟨?_, ?_⟩
            · have e : q * unitV it ls on part (codeAt it a0) - mi * (unitV it ls on part it[i].1 - raw it part it[i].1 (unitV it ls on part) ((ls.filter on).take (j + 1))) = q * unitV it ls on part (codeAt it a0) - mi * (unitV it ls on part it[i].1 - raw it part it[i].1 (unitV it ls on part) ((ls.filter on).take j)) + mi * rawT it part it[i].1 (unitV it ls on part) x := by
                rw [HRS.out, show unitV it ls on part it[i].1 - (raw it part it[i].1 (unitV it ls on part) ((ls.filter on).take j) + rawT it part it[i].1 (unitV it ls on part) x) = unitV it ls on part it[i].1 - raw it part it[i].1 (unitV it ls on part) ((ls.filter on).take j) - rawT it part it[i].1 (unitV it ls on part) x by omega, Int.mul_sub mi (unitV it ls on part it[i].1 - raw it part it[i].1 (unitV it ls on part) ((ls.filter on).take j))]
                omega
              rw [e]; exact h.1
            · rw [intD_set _ _ _ _ (by rw [HSJ.out.len]; exact hkl), if_neg h.2.1]; exact HMJ.out
          have mk0 := hA4.cellN (j := kq) hkl
          rw [HMK.out] at mk0
          have mi0 := hA4.cellN (j := i) hlt
          rw [HMJ.out] at mi0
          have y2 := BL4.2 2 _ rfl
          rw [hqt] at y2
          have gl := hA4.lt.2
          have Ll := BL4.1
          clear HRS HXX HKQ hqt hcmp HSJ hfx hxm
          go_wp2_with fail
          go_still_tail 13, (by kernel_rfl)
          change wpList _ _ _ _ _ w4.drew
          replace hA4 := hA4.keep (Below.refl w4.heap.size w4).drew
          replace hlev4 := hlev4.keep (Below.refl w4.heap.size w4).drew
          replace BX4 := BX4.keep (Below.refl w4.heap.size w4).drew
          replace hb4 := hb4.drew
          have hXg : Xb ≠ w.heap.size := by have := HXG.out; omega
          clear mk0 mi0 y2 BL4 gl Ll
          generalize w4.drew = W8 at *
          have mk0 := hA4.cellN (j := kq) hkl
          rw [HMK.out] at mk0
          have fz := hA4.frozen kq
          have hAF := hA4.set kq (mk + mi * qt)
          have hbF : Below w.heap.size w (W8.setCell ⟨w.heap.size, kq, none⟩ (.int .i64 (mk + mi * qt))) := hb4.setCell (p := ⟨w.heap.size, kq, none⟩) (Nat.le_refl _) _
          have hlevF := hlev4.far (p := ⟨w.heap.size, kq, none⟩) (Nat.lt_succ_self _) (.int .i64 (mk + mi * qt))
          have BXF := BX4.off (p := ⟨w.heap.size, kq, none⟩) (by show w.heap.size ≠ Xb; omega) (.int .i64 (mk + mi * qt))
          have hgF : mk + mi * qt ≤ 1000000000 ∨ 1000000000 < mk + mi * qt := by omega
          clear hA4 hlev4 BX4 hb4
          rcases hgF with hsm | hbig
          case inr =>
            have hbd : decide (1000000000 < mk + mi * qt) = true := decide_eq_true hbig
            go_wp2_with fail
            go_ret2
            exact ⟨hbF, .inl ⟨none, 0, 0, rfl⟩⟩
          have hbd : decide (1000000000 < mk + mi * qt) = false := decide_eq_false (by omega)
          have hN9 := Lib.hid (HNX.out hsm).1
          have hM9 := Lib.hid (HNX.out hsm).2
          clear HNX
          go_wp2_with fail
          go_roundw
          case rel => exact ⟨j + 1, Mj.set kq (mk + mi * qt), by omega, by go_num, hAF, hM9, hN9, hlevF, BXF, hbF⟩
          case measure => simp [intOf]; omega
end Go.Proofs.Ytlkolehdikfddaa
/- The law on two roads (plain): what is taken, event by event. -/
namespace Go.Proofs.Ytlkolehdikfddaa
theorem evSum_take (l : List (Int × Int × Int)) (day : Int) (k : Nat) (h : k < l.length) : evSum (l.take (k + 1)) day = evSum (l.take k) day + (if l[k].2.2 ≤ day then l[k].1 * l[k].2.1 else 0) := by
  unfold evSum
  rw [List.take_add_one, List.getElem?_eq_getElem h, Option.toList_some, List.map_append, List.sum_append]
  simp only [List.map_cons, List.map_nil, List.sum_cons, List.sum_nil, Int.add_zero]
theorem roadP_step (p : Pt) (item : ByteArray) (day : Int) (l : List Pl) (k : Nat) (h : k < l.length) : evSum ((evsP p item l).take (k + 1)) day = evSum ((evsP p item l).take k) day + (if l[k].2.2.1 ≤ day then unitAt p item l[k].1 l[k].2.2.1 * l[k].2.1 else 0) := by
  rw [evSum_take _ _ _ (by rw [evsP_len]; exact h)]
  simp only [evsP, List.getElem_map, plV]
theorem roadD_step (p : Pt) (item : ByteArray) (day : Int) (ds : List Dm) (k : Nat) (h : k < ds.length) : evSum ((evsD p item ds).take (k + 1)) day = evSum ((evsD p item ds).take k) day + (if ds[k].2.2.2.1 ≤ day then dmN p item ds[k] * ds[k].2.2.1 else 0) := by
  rw [evSum_take _ _ _ (by rw [evsD_len]; exact h)]
  simp only [evsD, List.getElem_map, dmV]
theorem roadD_zero (p : Pt) (item : ByteArray) (day : Int) (ds : List Dm) : evSum ((evsD p item ds).take 0) day = 0 := rfl
theorem roadP_all (p : Pt) (item : ByteArray) (day : Int) (l : List Pl) : evSum ((evsP p item l).take l.length) day = evSum (evsP p item l) day := by rw [List.take_of_length_le (by rw [evsP_len]; omega)]
theorem roadD_all (p : Pt) (item : ByteArray) (day : Int) (ds : List Dm) : evSum ((evsD p item ds).take ds.length) day = evSum (evsD p item ds) day := by rw [List.take_of_length_le (by rw [evsD_len]; omega)]
/-- What is taken up to a day is what the orders' and the demands' events take. -/
theorem roads_meet {p : Pt} {ds : List Dm} {l : List Pl} (item : ByteArray) (day : Int) (hp : arePlanned p l = true) (hd : areDemands ds = true) : prefS (takenOn p ds l item).1 (cutD day) = evSum (evsP p item l) day + evSum (evsD p item ds) day := by
  unfold takenOn
  rw [prefS_tk (fun v hv => (evs_ok p ds l item hp hd v hv).2), evSum_append]
  omega
/-- What is told is told of each: what lies in each order's item is no more than the limit. -/
theorem few_P {p : Pt} {ds : List Dm} {l : List Pl} {item : ByteArray} (h : (takenOn p ds l item).2 = true) (k : Nat) (hk : k < l.length) : unitAt p item l[k].1 l[k].2.2.1 ≤ 1000000000 := by
  unfold takenOn few at h
  have := List.all_eq_true.1 h (plV p item l[k]) (List.mem_append_right _ (List.mem_map_of_mem (List.getElem_mem hk)))
  exact of_decide_eq_true this
theorem few_D {p : Pt} {ds : List Dm} {l : List Pl} {item : ByteArray} (h : (takenOn p ds l item).2 = true) (k : Nat) (hk : k < ds.length) : dmN p item ds[k] ≤ 1000000000 := by
  unfold takenOn few at h
  have := List.all_eq_true.1 h (dmV p item ds[k]) (List.mem_append_left _ (List.mem_map_of_mem (List.getElem_mem hk)))
  exact of_decide_eq_true this
theorem dmN_same {p : Pt} {item : ByteArray} {d : Dm} (h : (d.2.1.toList == item.toList) = true) : dmN p item d = 1 := by unfold dmN; rw [if_pos h]
theorem dmN_ph {p : Pt} {item : ByteArray} {d : Dm} (h : (d.2.1.toList == item.toList) = false) (h0 : 0 ≤ findIt p.it d.2.1) (h1 : phan p.it d.2.1 = true) : dmN p item d = unitAt p item d.2.1 d.2.2.2.1 := by
  unfold dmN
  rw [if_neg (by rw [h]; decide), if_pos (by rw [decide_eq_true h0, h1]; rfl)]
theorem dmN_out {p : Pt} {item : ByteArray} {d : Dm} (h : (d.2.1.toList == item.toList) = false) (h0 : (decide (0 ≤ findIt p.it d.2.1) && phan p.it d.2.1) = false) : dmN p item d = 0 := by
  unfold dmN
  rw [if_neg (by rw [h]; decide), if_neg (by rw [h0]; decide)]
theorem inSum_take (l : List Nd) (c : ByteArray) (k : Nat) (h : k < l.length) : inSum (l.take (k + 1)) c = inSum (l.take k) c + (if l[k].1.toList == c.toList then l[k].2 else 0) := by
  rw [List.take_add_one, List.getElem?_eq_getElem h, Option.toList_some, inSum_snoc]
theorem inSum_bd (l : List Nd) (c : ByteArray) (h : ∀ x ∈ l, 0 ≤ x.2 ∧ x.2 ≤ 1000000000) (k : Nat) : 0 ≤ inSum (l.take k) c ∧ inSum (l.take k) c ≤ 1000000000 * k := by
  induction k with
  | zero => simp [inSum]
  | succ k ih =>
    by_cases hk : k < l.length
    · rw [inSum_take _ _ _ hk]
      have := h _ (List.getElem_mem hk)
      split <;> omega
    · rw [List.take_of_length_le (by omega)]
      rw [List.take_of_length_le (by omega)] at ih
      omega
/-- Nothing of an item lies in itself. -/
theorem unitAt_self {p : Pt} (hp : isPlant p = true) (code : ByteArray) (day : Int) (h0 : 0 ≤ findIt p.it code) : unitAt p code code day = 0 := by
  obtain ⟨hL, _⟩ := lev_of (isPlant_parts hp).1
  exact unitV_none hL _ code _ code h0 (Nat.le_refl _) (Nat.le_refl _)
end Go.Proofs.Ytlkolehdikfddaa
/- The walk of PartsOf of the program: what its list holds of a part is what lies in the quantity. -/
namespace Go.Proofs.Ytlkolehdikfddaa
open Go.RowKit
/-- What PartsOf tells, if it tells. -/
def PartsEnd (P : List Nd → Prop) (w : World) (e : Ending) (w' : World) : Prop := Below w.heap.size w w' ∧ ((∃ (A : Option Addr) (n c : Nat), e = .returned (.tuple #[.slice A n c, .bool false])) ∨ ∃ (l : List Nd) (v : Value), e = .returned (.tuple #[v, .bool true]) ∧ RowVal ndF 70 w' w.heap.size v l ∧ l.length ≤ 12 ∧ (∀ x ∈ l, 0 ≤ x.2 ∧ x.2 ≤ 1000000000) ∧ P l)
theorem PartsEnd.mono {P Q : List Nd → Prop} (h : ∀ l, P l → Q l) {w w' : World} {e : Ending} (hp : PartsEnd P w e w') : PartsEnd Q w e w' := by
  obtain ⟨hb, hx | ⟨l, v, h1, h2, h3, h4, h5⟩⟩ := hp
  · exact ⟨hb, .inl hx⟩
  · exact ⟨hb, .inr ⟨l, v, h1, h2, h3, h4, h _ h5⟩⟩
theorem unitV_same {it : List It} {ls : List Bl} {lv : List Nat} (hL : Lev it ls lv) (on : Bl → Bool) {part code : ByteArray} (h0 : 0 ≤ findIt it code) (he : (findIt it part).toNat = (findIt it code).toNat) : unitV it ls on part code = 0 :=
  unitV_none hL on part _ code h0 (Nat.le_refl _) (by rw [he]; exact Nat.le_refl _)
set_option maxRecDepth 100000 in
set_option maxHeartbeats 4000000 in
theorem implPartsG_any (A B C : Option Addr) (n c m d k5 c5 : Nat) (it : List It) (ls : List Bl) (ch : List Pk) (code part : ByteArray) (q day : Int) (w : World) (hi : ItemsIn w A n it) (hl : BillLinesIn w B m ls) (hch : PicksIn w C k5 ch) (hoki : ∀ x ∈ it, okIt x) (hokl : ∀ x ∈ ls, okBl x) (hbl : isBills it ls = true) (h0 : 0 ≤ findIt it code) (hp : 0 ≤ findIt it part)
    (hpk : (findIt it part).toNat ≠ (findIt it code).toNat → kindPh it (findIt it part).toNat = false) (hU : unitV it ls (lineOn ch day) part code ≤ 1000000000) :
    Calls Try.prog 8 #[.slice A n c, .slice B m d, .string code, .int .i64 q, .int .i64 day, .slice C k5 c5] w (PartsEnd (fun l => inSum l part = q * unitV it ls (lineOn ch day) part code) w) := by
  obtain ⟨hL, _⟩ := lev_of hbl
  obtain ⟨hcat, h24, hok, _⟩ := isBills_parts hbl
  have h12 := isCat_12 hcat
  have hcond : ∀ k (hk : k < ls.length), isCond ls[k].2.2.2.2.2 = true := fun k hk => (okLine_parts (hok k hk)).2.2.2.2.2
  have HI := Lib.hid hi
  have HLS := Lib.hid hl
  have HCH := Lib.hid hch
  have HOKI := Lib.hid hoki
  have HOKL := Lib.hid hokl
  have HCAT := Lib.hid hcat
  have HL := Lib.hid hL
  have HCO := Lib.hid hcond
  have HPK := Lib.hid hpk
  have HU := Lib.hid hU
  have HBL := Lib.hid hbl
  have HP := Lib.hid hp
  clear hi hl hch hoki hokl hcat hL hok hcond hpk hU hbl hp
  obtain ⟨a0, hk0, hkl, hcode⟩ : ∃ a0 : Nat, findIt it code = (a0 : Int) ∧ ∃ h : a0 < it.length, it[a0].1.toList = code.toList := by
    rcases findIt_cases it code with e | ⟨k, h1, h2, h3⟩
    · omega
    · exact ⟨k, h2, h1, by rwa [beq_iff_eq] at h3⟩
  have HCU : Hid (unitV it ls (lineOn ch day) part (codeAt it a0) = unitV it ls (lineOn ch day) part code) := by
    show _ = _
    rw [codeAt_at hkl]; exact unitV_congr hcode
  have HSM : Hid ((findIt it part).toNat = a0 → unitV it ls (lineOn ch day) part code = 0) := fun e => unitV_same HL.out _ h0 (by rw [e, hk0, Int.toNat_natCast])
  have HPK2 : Hid ((findIt it part).toNat ≠ a0 → kindPh it (findIt it part).toNat = false) := fun e => HPK.out (by rw [hk0, Int.toNat_natCast]; exact e)
  have HK0 := Lib.hid hk0
  clear hcode HPK hk0
  go_enter Try.func8, Try.ntmps8
  go_wp2_with fail
  refine (implFindItem_any A n c it code _ HI.out).mono ?_
  rintro e w1 ⟨rfl, hs⟩
  rw [HK0.out]
  have hb1 := hs
  clear hs h0
  go_wp2_with fail
  refine (implIsBills_any A B n c m d it ls _ (HI.out.keep hb1) (HLS.out.keep hb1) HOKI.out HOKL.out).mono ?_
  rintro e w2 ⟨rfl, hs⟩
  rw [HBL.out]
  have hb2 := below_on hb1 hs
  clear hs hb1
  have hlt0 : ¬ (a0 : Int) < 0 := by omega
  have hld0 : decide ((a0 : Int) < 0) = false := decide_eq_false hlt0
  go_wp2_with fail
  refine (in_any _ _ _ _).mono ?_
  rintro e V0 ⟨rfl, rfl⟩
  cases hq : inB q 0 100000
  · go_wp2_with fail
    go_ret2
    exact ⟨hb2, .inl ⟨none, 0, 0, rfl⟩⟩
  have hqb : 0 ≤ q ∧ q ≤ 100000 := by
    unfold inB at hq
    exact of_decide_eq_true hq
  clear hq
  go_wp2_with fail
  refine (inForce_any B C m d k5 c5 ls day ch _ (HLS.out.keep hb2) (HCH.out.keep hb2) HOKL.out HCO.out).mono ?_
  rintro e w3 ⟨A3, m3, c3, rfl, hfl, hs⟩
  have hb3 := below_on hb2 hs
  clear hs hb2
  go_wp2_with fail
  refine (pieces_any A A3 n c m3 c3 it ls _ (lineOn ch day) part a0 q _ HL.out HCAT.out (HI.out.keep hb3) hfl h12 h24 HP.out HPK2.out hkl hqb (by rw [HCU.out]; exact HU.out)).mono ?_
  rintro e w4 ⟨hs, hx⟩
  rw [HCU.out] at hx
  have hb4 := below_on hb3 hs
  have hz3 := hb3.size
  clear hs hb3 hfl
  rcases hx with ⟨A4, m4, c4, rfl⟩ | ⟨g4, c4, M, rfl, hM, hMb, hMl, hMp⟩
  · go_wp2_with fail
    go_ret2
    exact ⟨hb4, .inl ⟨none, 0, 0, rfl⟩⟩
  have HT : Hid (M.getD (findIt it part).toNat 0 = q * unitV it ls (lineOn ch day) part code) := by
    show _ = _
    rw [hMp]
    split
    · next e => rw [HSM.out e, Int.mul_zero]
    · rfl
  have HMB := Lib.hid hMb
  have HKN : Hid (M.getD (findIt it part).toNat 0 ≠ 0 → kindPh it (findIt it part).toNat = false) := fun h => HPK2.out (fun e => h (by rw [hMp, if_pos e]))
  clear hMp hMb
  go_wp2_with fail
  refine (needs_any A (some ⟨g4, 0, none⟩) n c it.length c4 it M part _ (HI.out.keep hb4) (hM.ints (by omega)) hMl h12 HCAT.out HOKI.out HP.out HKN.out HMB.out).mono ?_
  rintro e w5 ⟨l, v, rfl, hrow, hll, hokl, hsum, hs⟩
  have hb5 := below_on hb4 hs
  have HS : Hid (inSum l part = q * unitV it ls (lineOn ch day) part code) := hsum.trans HT.out
  have HOL := Lib.hid hokl
  have hr5 : RowVal ndF 70 w5 w.heap.size v l := own_lower hrow hb4.size
  clear hs hsum hokl hrow
  go_wp2_with fail
  go_ret2
  exact ⟨hb5, .inr ⟨l, v, rfl, hr5, by omega, fun x hx => (HOL.out x hx).2, HS.out⟩⟩
theorem implPartsOf_any (A B C : Option Addr) (n c m d k5 c5 : Nat) (p : Pt) (code part : ByteArray) (q day : Int) (w : World) (hi : ItemsIn w A n p.it) (hl : BillLinesIn w B m p.ls) (hch : PicksIn w C k5 p.ch) (hok : okPt p) (hpl : isPlant p = true) (h0 : 0 ≤ findIt p.it code) (hp : 0 ≤ findIt p.it part) :
    Calls Try.prog 8 #[.slice A n c, .slice B m d, .string code, .int .i64 q, .int .i64 day, .slice C k5 c5] w (PartsEnd (fun l => phan p.it part = false → unitAt p part code day ≤ 1000000000 → inSum l part = q * unitAt p part code day) w) := by
  by_cases hc : phan p.it part = false ∧ unitAt p part code day ≤ 1000000000
  · refine (implPartsG_any A B C n c m d k5 c5 p.it p.ls p.ch code part q day w hi hl hch hok.it hok.ls (isPlant_parts hpl).1 h0 hp (fun _ => hc.1) hc.2).mono ?_
    exact fun e w' h => h.mono (fun l hl _ _ => hl)
  · refine (implPartsG_any A B C n c m d k5 c5 p.it p.ls p.ch code code q day w hi hl hch hok.it hok.ls (isPlant_parts hpl).1 h0 h0 (fun e => absurd rfl e) ?_).mono ?_
    · have := unitAt_self hpl code day h0
      unfold unitAt at this
      omega
    · exact fun e w' h => h.mono (fun l _ h1 h2 => absurd ⟨h1, h2⟩ hc)
end Go.Proofs.Ytlkolehdikfddaa
