/- Part 29 of the texts of this claim: The walk of l10Down, told weakly: what stands at each item is between -1 and the limit; What a plan must be (plain); What of a part is met on the way down from an item, by levels (plain): it is what lies in the item, taken upwards; The walks of PartsOf's two functions: is an item a phantom, is it none; The walk of needs: the list of what was met of the items that are no phantoms. -/
import Derived.Test.YtfjbliefcafiaaaBa15
import Derived.Test.YtfjbliefcafiaaaBa19
import Derived.Sort.Walk0
import Derived.Test.YtfjbliefcafiaaaBa16
import Derived.Test.YtfjbliefcafiaaaBa1
import Derived.Test.YtfjbliefcafiaaaBa5
import Derived.Deep.CutRange
import Derived.Test.YtfjbliefcafiaaaBa2
import Derived.Test.YtfjbliefcafiaaaBa8
import Derived.Test.YtfjbliefcafiaaaBa22
/- The walk of l10Down, told weakly: what stands at each item is between -1 and the limit. -/
namespace Go.Proofs.Ytfjbliefcafiaaa
open Go.RowKit
def okNums (n : Nat) (M : List Int) : Prop := M.length = n ∧ ∀ k, -1 ≤ M.getD k 0 ∧ M.getD k 0 ≤ 1000000000
theorem okNums.set {n : Nat} {M : List Int} (h : okNums n M) {i : Nat} (hi : i < n) {x : Int} (hx : -1 ≤ x ∧ x ≤ 1000000000) : okNums n (M.set i x) := by
  refine ⟨by rw [List.length_set]; exact h.1, fun k => ?_⟩
  rw [intD_set _ _ _ _ (by rw [h.1]; exact hi)]
  split
  · exact hx
  · exact h.2 k
theorem okNums.zero (n : Nat) : okNums n (List.replicate n 0) := ⟨List.length_replicate, fun k => by
  rw [List.getD_eq_getElem?_getD, List.getElem?_replicate]; split <;> simp⟩
set_option maxRecDepth 100000 in
set_option maxHeartbeats 16000000 in
theorem l10Down_any (A B C : Option Addr) (n c m d k5 c5 : Nat) (it : List It) (ls : List Bl) (ch : List Pk) (a0 : Nat) (q day : Int) (w : World) (hi : ItemsIn w A n it) (hl : BillLinesIn w B m ls) (hch : PicksIn w C k5 ch) (hbl : isBills it ls = true) (ha0 : a0 < it.length) (hq : 0 ≤ q ∧ q ≤ 1000000000) :
    Calls Try.prog 103 #[.slice A n c, .slice B m d, .int .i64 a0, .int .i64 q, .int .i64 day, .slice C k5 c5, .bool true] w fun e w' => ∃ (g : Nat) (M : List Int), e = .returned (.slice (some ⟨g, 0, none⟩) it.length it.length) ∧ NumRow w' w.heap.size g it.length it.length M ∧ okNums it.length M ∧ Below w.heap.size w w' := by
  obtain ⟨hL, hLI⟩ := lev_of hbl
  obtain ⟨hcat, h24, hok, htn⟩ := isBills_parts hbl
  have h12 := isCat_12 hcat
  have HFND : Hid (∀ k (hk : k < ls.length), 0 ≤ findIt it ls[k].1 ∧ 0 ≤ findIt it ls[k].2.1) := fun k hk => ⟨(okLine_parts (hok k hk)).1, (okLine_parts (hok k hk)).2.1⟩
  have HCND : Hid (∀ k (hk : k < ls.length), isCond ls[k].2.2.2.2.2 = true ∧ (1 ≤ ls[k].2.2.1 ∧ ls[k].2.2.1 ≤ 1000)) := fun k hk => ⟨(okLine_parts (hok k hk)).2.2.2.2.2, (okLine_parts (hok k hk)).2.2.1⟩
  generalize runTo (edges it ls) it.length it.length = lev at hL hLI
  clear hcat hok htn hbl
  have hll := hL.len
  have HMEM : Hid (∀ k (hk : k < (ordOf lev it.length).length), (ordOf lev it.length)[k] < it.length) := fun k hk => by
    have := (ordOf_mem.1 (List.getElem_mem hk)).1
    omega
  have HOL : Hid ((ordOf lev it.length).length ≤ 144) := by
    have := ordOf_len lev it.length
    have := Nat.mul_le_mul (show it.length ≤ 12 from h12) (show lev.length ≤ 12 by omega)
    show _ ≤ _
    omega
  clear hL
  obtain rfl := hi.1
  have hn1 : m = ls.length := hl.num
  subst hn1
  have HQ0 := Lib.hid hi
  have HQ1 := Lib.hid hl
  have HQ4 := Lib.hid hch
  clear hi hl hch
  have ai : (a0 : Int) < (it.length : Int) := by omega
  go_enter Try.func103, Try.ntmps103
  go_wp2_with (at_make; refine wpList_make_nums rfl _ _ rfl w.heap.size it.length rfl rfl rfl rfl (by omega) (by omega) ?_; intro w5 hA hA2 hA3; have x9 := hA.cellN (j := a0) ha0; have f9 := hA.frozen a0)
  have hA5 : NumRow (w5.setCell ⟨w.heap.size, a0, none⟩ (.int .i64 q)) w.heap.size w.heap.size it.length it.length ((List.replicate it.length 0).set a0 q) := hA.set a0 q
  have hB5 : Below w.heap.size w (w5.setCell ⟨w.heap.size, a0, none⟩ (.int .i64 q)) := hA2.setCell (p := ⟨w.heap.size, a0, none⟩) (Nat.le_refl _) _
  have HM5 : Hid (okNums it.length ((List.replicate it.length 0).set a0 q)) := (okNums.zero it.length).set ha0 (by omega)
  have hz5 : w.heap.size + 1 ≤ (w5.setCell ⟨w.heap.size, a0, none⟩ (.int .i64 q)).heap.size := by have := hA5.lt.2; omega
  clear hA hA2 hA3
  refine (l9Levels_any A B it.length c ls.length d it ls _ (HQ0.out.keep hB5) (HQ1.out.keep hB5) h12 h24 HFND.out).mono ?_
  clear x9 f9
  generalize (w5.setCell ⟨w.heap.size, a0, none⟩ (.int .i64 q)) = w6 at *
  rintro e w7 ⟨A7, k7, d7, rfl, ho7, hs⟩
  rw [hLI] at ho7
  have hints : IntsIn w7 A7 k7 (natI lev) := ho7.ints (by rw [natI_len, hll]; omega)
  have hb1 := below_on hB5 hs
  have hA1 := hA5.keep hs
  have hz7 := Nat.le_trans hz5 hs.size
  generalize ((List.replicate it.length 0).set a0 q) = M5 at *
  clear hs ho7 hLI hA5 hB5 hz5
  go_wp2_with fail
  refine (l10Order_any _ _ _ lev _ hints (by omega)).mono ?_
  rintro e w8 ⟨g8, q8, rfl, ho8, hs⟩
  rw [hll] at ho8 ⊢
  replace hb1 := below_on hb1 hs
  replace hA1 := hA1.keep hs
  have hne : w.heap.size ≠ g8 := by have := ho8.lt.1; omega
  replace ho8 := ho8.lower (lo' := w.heap.size) (by omega)
  clear hs hints hz7
  generalize hord : ordOf lev it.length = ord at *
  have hol := HOL.out
  go_wp2_with fail
  go_loopw [17] (fun v wr => ∃ (K : Nat) (M : List Int), K ≤ ord.length ∧ v = .int .i64 K ∧ NumRow wr w.heap.size w.heap.size it.length it.length M ∧ Hid (okNums it.length M) ∧ NumRow wr w.heap.size g8 ord.length q8 (natI ord) ∧ Below w.heap.size w wr) (fun v _ => ord.length - (intOf v).toNat)
  case atStart => exact ⟨0, M5, by omega, rfl, hA1, HM5, ho8, hb1⟩
  case round =>
    clear hA1 ho8 hb1 HM5
    obtain ⟨K, M, hK, rfl, hA, HM, hO, hb⟩ := hrel
    by_cases hKl : K < ord.length
    case neg =>
      obtain rfl : K = ord.length := by omega
      have xa := hA.cellN (j := a0) ha0
      have fa := hA.frozen a0
      have hAF := hA.set a0 0
      have hbF : Below w.heap.size w (wr.setCell ⟨w.heap.size, a0, none⟩ (.int .i64 0)) := hb.setCell (p := ⟨w.heap.size, a0, none⟩) (Nat.le_refl _) _
      go_wp2_with fail
      go_ret
      exact ⟨w.heap.size, M.set a0 0, rfl, hAF, HM.out.set ha0 (by omega), hbF⟩
    have hal := HMEM.out K hKl
    have cO := hO.cell (j := K) (by rw [natI_len]; exact hKl)
    have cO2 : wr.cell? ⟨g8, K, none⟩ = some (.int .i64 (ord[K] : Int)) := by rw [cO]; simp [natI]
    clear cO
    generalize hao : ord[K] = a at *
    have HAO := Lib.hid hao
    clear hao
    obtain ⟨bi, oi, rfl, hbi, t0, t1, t2, t3, t4, t5, t6, t7⟩ := item_at (HQ0.out.keep hb) hal
    have j1 : (a : Int) < (it.length : Int) := by omega
    have j2 : (K : Int) < (ord.length : Int) := by omega
    have hw1 : IntKind.i64.wrap ((K : Int) + 1) = (K : Int) + 1 := IntWalk.i64_in _ (by omega)
    by_cases haa : a = a0
    case neg =>
      have haz : ¬ ((a : Int) = (a0 : Int)) := by omega
      have hab : ((a : Int) == (a0 : Int)) = false := by simp; omega
      have hac : ((a : Int) != (a0 : Int)) = true := by simp; omega
      by_cases hk2 : it[a].2.2.1 = 2
      case neg =>
        have hkb : (it[a].2.2.1 != 2) = true := by simp [hk2]
        have hkc : (it[a].2.2.1 == 2) = false := by simp [hk2]
        go_wp2_with fail
        go_roundw
        case rel => exact ⟨K + 1, M, by omega, by go_num, hA, HM, hO, hb⟩
        case measure => simp [intOf]; omega
      have hkb : (it[a].2.2.1 != 2) = false := by simp [hk2]
      go_wp2_with fail
      clear t0 t1 t2 t3 t4 t5 t6 t7 cO2 hbi
      go_loopw [19] (fun j wi => ∃ (i : Nat) (M : List Int), i ≤ ls.length ∧ j = .int .i64 i ∧ NumRow wi w.heap.size w.heap.size it.length it.length M ∧ Hid (okNums it.length M) ∧ NumRow wi w.heap.size g8 ord.length q8 (natI ord) ∧ Below w.heap.size w wi) (fun j _ => ls.length - (intOf j).toNat)
      case atStart => exact ⟨0, M, by omega, rfl, hA, HM, hO, hb⟩
      case round =>
        clear hA HM hO hb
        obtain ⟨i, M, hi, rfl, hA, HM, hO, hb⟩ := hrel
        by_cases hlt : i < ls.length
        case neg =>
          obtain rfl : i = ls.length := by omega
          have cA := hA.cellN hal
          have fA := hA.frozen a
          generalize M.getD a 0 = mv at *
          by_cases hp : 0 < mv
          case neg =>
            have hpd : decide (0 < mv) = false := decide_eq_false hp
            go_wp2_with fail
            go_roundw
            case rel => exact ⟨K + 1, M, by omega, by go_num, hA, HM, hO, hb⟩
            case measure => simp [intOf]; omega
          have hpd : decide (0 < mv) = true := decide_eq_true hp
          have hA9 := hA.set a 0
          have hO9 := hO.far (p := ⟨w.heap.size, a, none⟩) (v := .int .i64 0) (by show w.heap.size ≠ g8; omega)
          have hb9 : Below w.heap.size w (wr.setCell ⟨w.heap.size, a, none⟩ (.int .i64 0)) := hb.setCell (p := ⟨w.heap.size, a, none⟩) (Nat.le_refl _) _
          have HM9 : Hid (okNums it.length (M.set a 0)) := HM.out.set hal (by omega)
          go_wp2_with fail
          go_roundw
          case rel => exact ⟨K + 1, M.set a 0, by omega, by go_num, hA9, HM9, hO9, hb9⟩
          case measure => simp [intOf]; omega
        obtain ⟨bo, oo, Bw, mw, cw, rfl, hbo, l0, l1, l2, l3, l4, l5, hcd⟩ := bl_at (HQ1.out.keep hb) hlt
        obtain ⟨hcond, hq1, hq2⟩ := HCND.out i hlt
        obtain ⟨hf1, hf2⟩ := HFND.out i hlt
        obtain ⟨_, _, e9, hbi, x0, _⟩ := item_at (HQ0.out.keep hb) hal
        obtain ⟨rfl, rfl⟩ : bi = _ ∧ oi = _ := by simpa using e9
        clear e9
        have ii : (i : Int) < (ls.length : Int) := by omega
        have hwi : IntKind.i64.wrap ((i : Int) + 1) = (i : Int) + 1 := IntWalk.i64_in _ (by omega)
        have cA := hA.cellN hal
        have hbA := HM.out.2 a
        generalize hmv : M.getD a 0 = mv at *
        have HMV := Lib.hid hmv
        clear hmv
        have hgl := hA.lt.2
        cases he : (ls[i].1.toList == it[a].1.toList)
        case false =>
          go_wp2_with fail
          refine wp_region_held_drew (S := (fun w' => w'.cell? ⟨bo, oo + i * 6, none⟩ = some (.string ls[i].1) ∧ w'.cell? ⟨bi, oi + a * 8, none⟩ = some (.string it[a].1) ∧ w' = wr.drew)) (by kernel_rfl) ⟨l0, x0, rfl⟩ (fun hHeld => ?_)
          refine held1 0 (some 62) hHeld ?_
          refine held1 1 (some 63) hHeld ?_
          refine held1 2 (some 64) hHeld ?_
          refine held1 3 (some 65) hHeld ?_
          refine held1 4 (some 66) hHeld ?_
          refine held1 5 (some 67) hHeld ?_
          refine held1 6 (some 68) hHeld ?_
          refine held1 7 (some 69) hHeld ?_
          refine held1 8 (some 70) hHeld ?_
          refine held1 9 (some 71) hHeld ?_
          refine held1 10 (some 72) hHeld ?_
          refine held1 11 (some 73) hHeld ?_
          refine held0 12 (some 74) hHeld ?_
          refine held0 13 (some 75) hHeld ?_
          refine held0 14 (some 76) hHeld ?_
          refine held0 15 (some 77) hHeld ?_
          refine held0 16 (some 78) hHeld ?_
          refine held0 17 (some 79) hHeld ?_
          refine held0 18 (some 80) hHeld ?_
          refine held1 19 (some 81) hHeld ?_
          refine held1 20 (some 82) hHeld ?_
          refine held0 21 (some 83) hHeld ?_
          refine held0 22 (some 84) hHeld ?_
          refine held0 23 (some 85) hHeld ?_
          refine held0 24 (some 86) hHeld ?_
          refine held0 25 (some 87) hHeld ?_
          refine held1 26 (some 88) hHeld ?_
          refine wpAnyH_done (by kernel_rfl) ?_ _
          obtain ⟨y_l0, y_x0, y_W⟩ := hHeld
          clear y_l0 y_x0 y_W
          go_wp2_with fail
          go_roundw
          case rel => exact ⟨i + 1, M, by omega, by go_num, hA.keep (Below.refl _ _).drew, HM, hO.keep (Below.refl _ _).drew, hb.drew⟩
          case measure => simp [intOf]; omega
        cases hon : lineOn ch day ls[i]
        case false =>
          go_wp2_with fail
          refine wp_region_held_drew (S := (fun w' => w'.cell? ⟨bo, oo + i * 6, none⟩ = some (.string ls[i].1) ∧ w'.cell? ⟨bo, oo + i * 6 + 1, none⟩ = some (.string ls[i].2.1) ∧ w'.cell? ⟨bo, oo + i * 6 + 2, none⟩ = some (.int .i64 ls[i].2.2.1) ∧ w'.cell? ⟨bo, oo + i * 6 + 3, none⟩ = some (.int .i64 ls[i].2.2.2.1) ∧ w'.cell? ⟨bo, oo + i * 6 + 4, none⟩ = some (.int .i64 ls[i].2.2.2.2.1) ∧ w'.cell? ⟨bo, oo + i * 6 + 5, none⟩ = some (.slice Bw mw cw) ∧ w'.cell? ⟨bi, oi + a * 8, none⟩ = some (.string it[a].1) ∧ w'.cell? ⟨w.heap.size, a, none⟩ = some (.int .i64 mv) ∧ w.heap.size < w'.heap.size ∧ bo < w'.heap.size ∧ bi < w'.heap.size ∧ Below wr.heap.size wr w')) (by kernel_rfl) ⟨l0, l1, l2, l3, l4, l5, x0, cA, hgl, hbo, hbi, (Below.refl _ _).drew⟩ (fun hHeld => ?_)
          refine held1 0 (some 62) hHeld ?_
          refine held1 1 (some 63) hHeld ?_
          refine held1 2 (some 64) hHeld ?_
          refine held1 3 (some 65) hHeld ?_
          refine held1 4 (some 66) hHeld ?_
          refine held1 5 (some 67) hHeld ?_
          refine held1 6 (some 68) hHeld ?_
          refine held1 7 (some 69) hHeld ?_
          refine held1 8 (some 70) hHeld ?_
          refine held1 9 (some 71) hHeld ?_
          refine held1 10 (some 72) hHeld ?_
          refine held1 11 (some 73) hHeld ?_
          refine held1 12 (some 74) hHeld ?_
          refine held1 13 (some 75) hHeld ?_
          refine held1 14 (some 76) hHeld ?_
          refine held1 15 (some 77) hHeld ?_
          refine held1 16 (some 78) hHeld ?_
          refine held1 17 (some 79) hHeld ?_
          refine held_do 18 fun K hK => ?_
          go_simp
          go_at_call 85; refine (specOn_any ls[i] _ _ _ _ _ _ day ch _ (hcd.keep (by obtain ⟨y_l0, y_l1, y_l2, y_l3, y_l4, y_l5, y_x0, y_cA, y_g, y_b, y_x, y_R⟩ := hHeld; exact y_R)) (HQ4.out.keep (below_on hb (by obtain ⟨y_l0, y_l1, y_l2, y_l3, y_l4, y_l5, y_x0, y_cA, y_g, y_b, y_x, y_R⟩ := hHeld; exact y_R))) hcond).mono ?_; rintro e w6 ⟨rfl, hb3⟩; rw [hon]; go_simp
          refine hK.out _ _ ?_ (fun hHeld => ?_)
          · obtain ⟨y_l0, y_l1, y_l2, y_l3, y_l4, y_l5, y_x0, y_cA, y_g, y_b, y_x, y_R⟩ := hHeld; exact ⟨(hb3.cell y_b).trans y_l0, (hb3.cell y_b).trans y_l1, (hb3.cell y_b).trans y_l2, (hb3.cell y_b).trans y_l3, (hb3.cell y_b).trans y_l4, (hb3.cell y_b).trans y_l5, (hb3.cell y_x).trans y_x0, (hb3.cell y_g).trans y_cA, Nat.lt_of_lt_of_le y_g hb3.size, Nat.lt_of_lt_of_le y_b hb3.size, Nat.lt_of_lt_of_le y_x hb3.size, below_on y_R hb3⟩
          clear hK K
          refine held1 19 (some 81) hHeld ?_
          refine held1 20 (some 82) hHeld ?_
          refine held0 21 (some 83) hHeld ?_
          refine held0 22 (some 84) hHeld ?_
          refine held0 23 (some 85) hHeld ?_
          refine held0 24 (some 86) hHeld ?_
          refine held0 25 (some 87) hHeld ?_
          refine held1 26 (some 88) hHeld ?_
          refine wpAnyH_done (by kernel_rfl) ?_ _
          obtain ⟨y_l0, y_l1, y_l2, y_l3, y_l4, y_l5, y_x0, y_cA, y_g, y_b, y_x, y_R⟩ := hHeld
          replace hA := hA.keep y_R
          replace hO := hO.keep y_R
          replace hb := below_on hb y_R
          clear y_l0 y_l1 y_l2 y_l3 y_l4 y_l5 y_x0 y_cA y_g y_b y_x y_R l0 l1 l2 l3 l4 l5 hcd x0 hbo hbi cA hgl
          go_wp2_with fail
          go_roundw
          case rel => exact ⟨i + 1, M, by omega, by go_num, hA, HM, hO, hb⟩
          case measure => simp [intOf]; omega
        go_wp2_with fail
        refine wp_region_held_drew (S := (fun w' => w'.cell? ⟨bo, oo + i * 6, none⟩ = some (.string ls[i].1) ∧ w'.cell? ⟨bo, oo + i * 6 + 1, none⟩ = some (.string ls[i].2.1) ∧ w'.cell? ⟨bo, oo + i * 6 + 2, none⟩ = some (.int .i64 ls[i].2.2.1) ∧ w'.cell? ⟨bo, oo + i * 6 + 3, none⟩ = some (.int .i64 ls[i].2.2.2.1) ∧ w'.cell? ⟨bo, oo + i * 6 + 4, none⟩ = some (.int .i64 ls[i].2.2.2.2.1) ∧ w'.cell? ⟨bo, oo + i * 6 + 5, none⟩ = some (.slice Bw mw cw) ∧ w'.cell? ⟨bi, oi + a * 8, none⟩ = some (.string it[a].1) ∧ w'.cell? ⟨w.heap.size, a, none⟩ = some (.int .i64 mv) ∧ w.heap.size < w'.heap.size ∧ bo < w'.heap.size ∧ bi < w'.heap.size ∧ Below wr.heap.size wr w')) (by kernel_rfl) ⟨l0, l1, l2, l3, l4, l5, x0, cA, hgl, hbo, hbi, (Below.refl _ _).drew⟩ (fun hHeld => ?_)
        refine held1 0 (some 62) hHeld ?_
        refine held1 1 (some 63) hHeld ?_
        refine held1 2 (some 64) hHeld ?_
        refine held1 3 (some 65) hHeld ?_
        refine held1 4 (some 66) hHeld ?_
        refine held1 5 (some 67) hHeld ?_
        refine held1 6 (some 68) hHeld ?_
        refine held1 7 (some 69) hHeld ?_
        refine held1 8 (some 70) hHeld ?_
        refine held1 9 (some 71) hHeld ?_
        refine held1 10 (some 72) hHeld ?_
        refine held1 11 (some 73) hHeld ?_
        refine held1 12 (some 74) hHeld ?_
        refine held1 13 (some 75) hHeld ?_
        refine held1 14 (some 76) hHeld ?_
        refine held1 15 (some 77) hHeld ?_
        refine held1 16 (some 78) hHeld ?_
        refine held1 17 (some 79) hHeld ?_
        refine held_do 18 fun K hK => ?_
        go_simp
        go_at_call 85; refine (specOn_any ls[i] _ _ _ _ _ _ day ch _ (hcd.keep (by obtain ⟨y_l0, y_l1, y_l2, y_l3, y_l4, y_l5, y_x0, y_cA, y_g, y_b, y_x, y_R⟩ := hHeld; exact y_R)) (HQ4.out.keep (below_on hb (by obtain ⟨y_l0, y_l1, y_l2, y_l3, y_l4, y_l5, y_x0, y_cA, y_g, y_b, y_x, y_R⟩ := hHeld; exact y_R))) hcond).mono ?_; rintro e w6 ⟨rfl, hb3⟩; rw [hon]; go_simp
        refine hK.out _ _ ?_ (fun hHeld => ?_)
        · obtain ⟨y_l0, y_l1, y_l2, y_l3, y_l4, y_l5, y_x0, y_cA, y_g, y_b, y_x, y_R⟩ := hHeld; exact ⟨(hb3.cell y_b).trans y_l0, (hb3.cell y_b).trans y_l1, (hb3.cell y_b).trans y_l2, (hb3.cell y_b).trans y_l3, (hb3.cell y_b).trans y_l4, (hb3.cell y_b).trans y_l5, (hb3.cell y_x).trans y_x0, (hb3.cell y_g).trans y_cA, Nat.lt_of_lt_of_le y_g hb3.size, Nat.lt_of_lt_of_le y_b hb3.size, Nat.lt_of_lt_of_le y_x hb3.size, below_on y_R hb3⟩
        clear hK K
        refine held1 19 (some 81) hHeld ?_
        refine held1 20 (some 82) hHeld ?_
        refine held1 21 (some 83) hHeld ?_
        refine held1 22 (some 84) hHeld ?_
        refine held1 23 (some 85) hHeld ?_
        refine held1 24 (some 86) hHeld ?_
        refine held1 25 (some 87) hHeld ?_
        refine held1 26 (some 88) hHeld ?_
        refine wpAnyH_done (by kernel_rfl) ?_ _
        obtain ⟨y_l0, y_l1, y_l2, y_l3, y_l4, y_l5, y_x0, y_cA, y_g, y_b, y_x, y_R⟩ := hHeld
        replace hA := hA.keep y_R
        replace hO := hO.keep y_R
        replace hb := below_on hb y_R
        clear y_l0 y_l1 y_l2 y_l3 y_l4 y_l5 y_x0 y_cA y_g y_b y_x y_R l0 l1 l2 l3 l4 l5 hcd x0 hbo hbi cA hgl
        clear he hon
        generalize w6 = wq at *
        by_cases hm0 : mv = 0
        case pos =>
          have hmb : (mv != 0) = false := by simp [hm0]
          go_wp2_with fail
          go_roundw
          case rel => exact ⟨i + 1, M, by omega, by go_num, hA, HM, hO, hb⟩
          case measure => simp [intOf]; omega
        have hmb : (mv != 0) = true := by simp [hm0]
        obtain ⟨_, _, _, _, _, e9, hbo, l0, l1, l2, l3, l4, l5, _⟩ := bl_at (HQ1.out.keep hb) hlt
        obtain ⟨rfl, rfl⟩ : bo = _ ∧ oo = _ := by simpa using e9
        clear e9
        have HIT := Lib.hid (HQ0.out.keep hb)
        obtain ⟨f4, f4b⟩ := findIt_bd it ls[i].2.1
        obtain ⟨qn, hqn⟩ : ∃ qn : Nat, findIt it ls[i].2.1 = (qn : Int) := ⟨(findIt it ls[i].2.1).toNat, by omega⟩
        have q1 : qn < it.length := by omega
        have q2 : (qn : Int) < (it.length : Int) := by omega
        go_wp2_with fail
        refine (specFindItem_any _ _ _ it _ _ HIT.out).mono ?_
        rintro e w' ⟨rfl, rfl⟩
        rw [hqn]
        clear hqn f4 f4b hf1 hf2 HIT
        have cA := hA.cellN hal
        rw [HMV.out] at cA
        have cQ := hA.cellN q1
        have hbQ := HM.out.2 qn
        generalize hqv : M.getD qn 0 = qv at *
        have HQV := Lib.hid hqv
        clear hqv
        have hT := timesC_bd mv ls[i].2.2.1 (by omega)
        have hP := plusC_bd qv (timesC mv ls[i].2.2.1)
        generalize hqq : ls[i].2.2.1 = qt at *
        clear hqq
        go_wp2_with fail
        go_still_tail 18, (by kernel_rfl)
        still_call ((l10Times_any _ _ _ (by omega) (by omega)).mono (fun e w' h => ⟨h.1, h.2.symm⟩))
        repeat still_step
        still_call ((l10Plus_any _ _ _ (by omega) (by omega)).mono (fun e w' h => ⟨h.1, h.2.symm⟩))
        repeat still_step
        refine wpStill_nil ?_
        change wpList _ _ _ _ _ wq.drew
        replace hA := hA.keep (Below.refl wq.heap.size wq).drew
        replace hO := hO.keep (Below.refl wq.heap.size wq).drew
        replace hb := hb.drew
        clear cA cQ l0 l1 l2 l3 l4 l5 hbo
        generalize wq.drew = W8 at *
        have cQ := hA.cellN q1
        rw [HQV.out] at cQ
        have fQ := hA.frozen qn
        have hA9 := hA.set qn (plusC qv (timesC mv qt))
        have hO9 := hO.far (p := ⟨w.heap.size, qn, none⟩) (v := .int .i64 (plusC qv (timesC mv qt))) (by show w.heap.size ≠ g8; omega)
        have hb9 : Below w.heap.size w (W8.setCell ⟨w.heap.size, qn, none⟩ (.int .i64 (plusC qv (timesC mv qt)))) := hb.setCell (p := ⟨w.heap.size, qn, none⟩) (Nat.le_refl _) _
        have HM9 : Hid (okNums it.length (M.set qn (plusC qv (timesC mv qt)))) := HM.out.set q1 hP
        go_wp2_with fail
        go_roundw
        case rel => exact ⟨i + 1, M.set qn (plusC qv (timesC mv qt)), by omega, by go_num, hA9, HM9, hO9, hb9⟩
        case measure => simp [intOf]; omega
    subst haa
    go_wp2_with fail
    clear t0 t1 t2 t3 t4 t5 t6 t7 cO2 hbi
    go_loopw [19] (fun j wi => ∃ (i : Nat) (M : List Int), i ≤ ls.length ∧ j = .int .i64 i ∧ NumRow wi w.heap.size w.heap.size it.length it.length M ∧ Hid (okNums it.length M) ∧ NumRow wi w.heap.size g8 ord.length q8 (natI ord) ∧ Below w.heap.size w wi) (fun j _ => ls.length - (intOf j).toNat)
    case atStart => exact ⟨0, M, by omega, rfl, hA, HM, hO, hb⟩
    case round =>
      clear hA HM hO hb
      obtain ⟨i, M, hi, rfl, hA, HM, hO, hb⟩ := hrel
      by_cases hlt : i < ls.length
      case neg =>
        obtain rfl : i = ls.length := by omega
        go_wp2_with fail
        go_roundw
        case rel => exact ⟨K + 1, M, by omega, by go_num, hA, HM, hO, hb⟩
        case measure => simp [intOf]; omega
      obtain ⟨bo, oo, Bw, mw, cw, rfl, hbo, l0, l1, l2, l3, l4, l5, hcd⟩ := bl_at (HQ1.out.keep hb) hlt
      obtain ⟨hcond, hq1, hq2⟩ := HCND.out i hlt
      obtain ⟨hf1, hf2⟩ := HFND.out i hlt
      obtain ⟨_, _, e9, hbi, x0, _⟩ := item_at (HQ0.out.keep hb) hal
      obtain ⟨rfl, rfl⟩ : bi = _ ∧ oi = _ := by simpa using e9
      clear e9
      have ii : (i : Int) < (ls.length : Int) := by omega
      have hwi : IntKind.i64.wrap ((i : Int) + 1) = (i : Int) + 1 := IntWalk.i64_in _ (by omega)
      have cA := hA.cellN hal
      have hbA := HM.out.2 a
      generalize hmv : M.getD a 0 = mv at *
      have HMV := Lib.hid hmv
      clear hmv
      have hgl := hA.lt.2
      cases he : (ls[i].1.toList == it[a].1.toList)
      case false =>
        go_wp2_with fail
        refine wp_region_held_drew (S := (fun w' => w'.cell? ⟨bo, oo + i * 6, none⟩ = some (.string ls[i].1) ∧ w'.cell? ⟨bi, oi + a * 8, none⟩ = some (.string it[a].1) ∧ w' = wr.drew)) (by kernel_rfl) ⟨l0, x0, rfl⟩ (fun hHeld => ?_)
        refine held1 0 (some 62) hHeld ?_
        refine held1 1 (some 63) hHeld ?_
        refine held1 2 (some 64) hHeld ?_
        refine held1 3 (some 65) hHeld ?_
        refine held1 4 (some 66) hHeld ?_
        refine held1 5 (some 67) hHeld ?_
        refine held1 6 (some 68) hHeld ?_
        refine held1 7 (some 69) hHeld ?_
        refine held1 8 (some 70) hHeld ?_
        refine held1 9 (some 71) hHeld ?_
        refine held1 10 (some 72) hHeld ?_
        refine held1 11 (some 73) hHeld ?_
        refine held0 12 (some 74) hHeld ?_
        refine held0 13 (some 75) hHeld ?_
        refine held0 14 (some 76) hHeld ?_
        refine held0 15 (some 77) hHeld ?_
        refine held0 16 (some 78) hHeld ?_
        refine held0 17 (some 79) hHeld ?_
        refine held0 18 (some 80) hHeld ?_
        refine held1 19 (some 81) hHeld ?_
        refine held1 20 (some 82) hHeld ?_
        refine held0 21 (some 83) hHeld ?_
        refine held0 22 (some 84) hHeld ?_
        refine held0 23 (some 85) hHeld ?_
        refine held0 24 (some 86) hHeld ?_
        refine held0 25 (some 87) hHeld ?_
        refine held1 26 (some 88) hHeld ?_
        refine wpAnyH_done (by kernel_rfl) ?_ _
        obtain ⟨y_l0, y_x0, y_W⟩ := hHeld
        clear y_l0 y_x0 y_W
        go_wp2_with fail
        go_roundw
        case rel => exact ⟨i + 1, M, by omega, by go_num, hA.keep (Below.refl _ _).drew, HM, hO.keep (Below.refl _ _).drew, hb.drew⟩
        case measure => simp [intOf]; omega
      cases hon : lineOn ch day ls[i]
      case false =>
        go_wp2_with fail
        refine wp_region_held_drew (S := (fun w' => w'.cell? ⟨bo, oo + i * 6, none⟩ = some (.string ls[i].1) ∧ w'.cell? ⟨bo, oo + i * 6 + 1, none⟩ = some (.string ls[i].2.1) ∧ w'.cell? ⟨bo, oo + i * 6 + 2, none⟩ = some (.int .i64 ls[i].2.2.1) ∧ w'.cell? ⟨bo, oo + i * 6 + 3, none⟩ = some (.int .i64 ls[i].2.2.2.1) ∧ w'.cell? ⟨bo, oo + i * 6 + 4, none⟩ = some (.int .i64 ls[i].2.2.2.2.1) ∧ w'.cell? ⟨bo, oo + i * 6 + 5, none⟩ = some (.slice Bw mw cw) ∧ w'.cell? ⟨bi, oi + a * 8, none⟩ = some (.string it[a].1) ∧ w'.cell? ⟨w.heap.size, a, none⟩ = some (.int .i64 mv) ∧ w.heap.size < w'.heap.size ∧ bo < w'.heap.size ∧ bi < w'.heap.size ∧ Below wr.heap.size wr w')) (by kernel_rfl) ⟨l0, l1, l2, l3, l4, l5, x0, cA, hgl, hbo, hbi, (Below.refl _ _).drew⟩ (fun hHeld => ?_)
        refine held1 0 (some 62) hHeld ?_
        refine held1 1 (some 63) hHeld ?_
        refine held1 2 (some 64) hHeld ?_
        refine held1 3 (some 65) hHeld ?_
        refine held1 4 (some 66) hHeld ?_
        refine held1 5 (some 67) hHeld ?_
        refine held1 6 (some 68) hHeld ?_
        refine held1 7 (some 69) hHeld ?_
        refine held1 8 (some 70) hHeld ?_
        refine held1 9 (some 71) hHeld ?_
        refine held1 10 (some 72) hHeld ?_
        refine held1 11 (some 73) hHeld ?_
        refine held1 12 (some 74) hHeld ?_
        refine held1 13 (some 75) hHeld ?_
        refine held1 14 (some 76) hHeld ?_
        refine held1 15 (some 77) hHeld ?_
        refine held1 16 (some 78) hHeld ?_
        refine held1 17 (some 79) hHeld ?_
        refine held_do 18 fun K hK => ?_
        go_simp
        go_at_call 85; refine (specOn_any ls[i] _ _ _ _ _ _ day ch _ (hcd.keep (by obtain ⟨y_l0, y_l1, y_l2, y_l3, y_l4, y_l5, y_x0, y_cA, y_g, y_b, y_x, y_R⟩ := hHeld; exact y_R)) (HQ4.out.keep (below_on hb (by obtain ⟨y_l0, y_l1, y_l2, y_l3, y_l4, y_l5, y_x0, y_cA, y_g, y_b, y_x, y_R⟩ := hHeld; exact y_R))) hcond).mono ?_; rintro e w6 ⟨rfl, hb3⟩; rw [hon]; go_simp
        refine hK.out _ _ ?_ (fun hHeld => ?_)
        · obtain ⟨y_l0, y_l1, y_l2, y_l3, y_l4, y_l5, y_x0, y_cA, y_g, y_b, y_x, y_R⟩ := hHeld; exact ⟨(hb3.cell y_b).trans y_l0, (hb3.cell y_b).trans y_l1, (hb3.cell y_b).trans y_l2, (hb3.cell y_b).trans y_l3, (hb3.cell y_b).trans y_l4, (hb3.cell y_b).trans y_l5, (hb3.cell y_x).trans y_x0, (hb3.cell y_g).trans y_cA, Nat.lt_of_lt_of_le y_g hb3.size, Nat.lt_of_lt_of_le y_b hb3.size, Nat.lt_of_lt_of_le y_x hb3.size, below_on y_R hb3⟩
        clear hK K
        refine held1 19 (some 81) hHeld ?_
        refine held1 20 (some 82) hHeld ?_
        refine held0 21 (some 83) hHeld ?_
        refine held0 22 (some 84) hHeld ?_
        refine held0 23 (some 85) hHeld ?_
        refine held0 24 (some 86) hHeld ?_
        refine held0 25 (some 87) hHeld ?_
        refine held1 26 (some 88) hHeld ?_
        refine wpAnyH_done (by kernel_rfl) ?_ _
        obtain ⟨y_l0, y_l1, y_l2, y_l3, y_l4, y_l5, y_x0, y_cA, y_g, y_b, y_x, y_R⟩ := hHeld
        replace hA := hA.keep y_R
        replace hO := hO.keep y_R
        replace hb := below_on hb y_R
        clear y_l0 y_l1 y_l2 y_l3 y_l4 y_l5 y_x0 y_cA y_g y_b y_x y_R l0 l1 l2 l3 l4 l5 hcd x0 hbo hbi cA hgl
        go_wp2_with fail
        go_roundw
        case rel => exact ⟨i + 1, M, by omega, by go_num, hA, HM, hO, hb⟩
        case measure => simp [intOf]; omega
      go_wp2_with fail
      refine wp_region_held_drew (S := (fun w' => w'.cell? ⟨bo, oo + i * 6, none⟩ = some (.string ls[i].1) ∧ w'.cell? ⟨bo, oo + i * 6 + 1, none⟩ = some (.string ls[i].2.1) ∧ w'.cell? ⟨bo, oo + i * 6 + 2, none⟩ = some (.int .i64 ls[i].2.2.1) ∧ w'.cell? ⟨bo, oo + i * 6 + 3, none⟩ = some (.int .i64 ls[i].2.2.2.1) ∧ w'.cell? ⟨bo, oo + i * 6 + 4, none⟩ = some (.int .i64 ls[i].2.2.2.2.1) ∧ w'.cell? ⟨bo, oo + i * 6 + 5, none⟩ = some (.slice Bw mw cw) ∧ w'.cell? ⟨bi, oi + a * 8, none⟩ = some (.string it[a].1) ∧ w'.cell? ⟨w.heap.size, a, none⟩ = some (.int .i64 mv) ∧ w.heap.size < w'.heap.size ∧ bo < w'.heap.size ∧ bi < w'.heap.size ∧ Below wr.heap.size wr w')) (by kernel_rfl) ⟨l0, l1, l2, l3, l4, l5, x0, cA, hgl, hbo, hbi, (Below.refl _ _).drew⟩ (fun hHeld => ?_)
      refine held1 0 (some 62) hHeld ?_
      refine held1 1 (some 63) hHeld ?_
      refine held1 2 (some 64) hHeld ?_
      refine held1 3 (some 65) hHeld ?_
      refine held1 4 (some 66) hHeld ?_
      refine held1 5 (some 67) hHeld ?_
      refine held1 6 (some 68) hHeld ?_
      refine held1 7 (some 69) hHeld ?_
      refine held1 8 (some 70) hHeld ?_
      refine held1 9 (some 71) hHeld ?_
      refine held1 10 (some 72) hHeld ?_
      refine held1 11 (some 73) hHeld ?_
      refine held1 12 (some 74) hHeld ?_
      refine held1 13 (some 75) hHeld ?_
      refine held1 14 (some 76) hHeld ?_
      refine held1 15 (some 77) hHeld ?_
      refine held1 16 (some 78) hHeld ?_
      refine held1 17 (some 79) hHeld ?_
      refine held_do 18 fun K hK => ?_
      go_simp
      go_at_call 85; refine (specOn_any ls[i] _ _ _ _ _ _ day ch _ (hcd.keep (by obtain ⟨y_l0, y_l1, y_l2, y_l3, y_l4, y_l5, y_x0, y_cA, y_g, y_b, y_x, y_R⟩ := hHeld; exact y_R)) (HQ4.out.keep (below_on hb (by obtain ⟨y_l0, y_l1, y_l2, y_l3, y_l4, y_l5, y_x0, y_cA, y_g, y_b, y_x, y_R⟩ := hHeld; exact y_R))) hcond).mono ?_; rintro e w6 ⟨rfl, hb3⟩; rw [hon]; go_simp
      refine hK.out _ _ ?_ (fun hHeld => ?_)
      · obtain ⟨y_l0, y_l1, y_l2, y_l3, y_l4, y_l5, y_x0, y_cA, y_g, y_b, y_x, y_R⟩ := hHeld; exact ⟨(hb3.cell y_b).trans y_l0, (hb3.cell y_b).trans y_l1, (hb3.cell y_b).trans y_l2, (hb3.cell y_b).trans y_l3, (hb3.cell y_b).trans y_l4, (hb3.cell y_b).trans y_l5, (hb3.cell y_x).trans y_x0, (hb3.cell y_g).trans y_cA, Nat.lt_of_lt_of_le y_g hb3.size, Nat.lt_of_lt_of_le y_b hb3.size, Nat.lt_of_lt_of_le y_x hb3.size, below_on y_R hb3⟩
      clear hK K
      refine held1 19 (some 81) hHeld ?_
      refine held1 20 (some 82) hHeld ?_
      refine held1 21 (some 83) hHeld ?_
      refine held1 22 (some 84) hHeld ?_
      refine held1 23 (some 85) hHeld ?_
      refine held1 24 (some 86) hHeld ?_
      refine held1 25 (some 87) hHeld ?_
      refine held1 26 (some 88) hHeld ?_
      refine wpAnyH_done (by kernel_rfl) ?_ _
      obtain ⟨y_l0, y_l1, y_l2, y_l3, y_l4, y_l5, y_x0, y_cA, y_g, y_b, y_x, y_R⟩ := hHeld
      replace hA := hA.keep y_R
      replace hO := hO.keep y_R
      replace hb := below_on hb y_R
      clear y_l0 y_l1 y_l2 y_l3 y_l4 y_l5 y_x0 y_cA y_g y_b y_x y_R l0 l1 l2 l3 l4 l5 hcd x0 hbo hbi cA hgl
      clear he hon
      generalize w6 = wq at *
      by_cases hm0 : mv = 0
      case pos =>
        have hmb : (mv != 0) = false := by simp [hm0]
        go_wp2_with fail
        go_roundw
        case rel => exact ⟨i + 1, M, by omega, by go_num, hA, HM, hO, hb⟩
        case measure => simp [intOf]; omega
      have hmb : (mv != 0) = true := by simp [hm0]
      obtain ⟨_, _, _, _, _, e9, hbo, l0, l1, l2, l3, l4, l5, _⟩ := bl_at (HQ1.out.keep hb) hlt
      obtain ⟨rfl, rfl⟩ : bo = _ ∧ oo = _ := by simpa using e9
      clear e9
      have HIT := Lib.hid (HQ0.out.keep hb)
      obtain ⟨f4, f4b⟩ := findIt_bd it ls[i].2.1
      obtain ⟨qn, hqn⟩ : ∃ qn : Nat, findIt it ls[i].2.1 = (qn : Int) := ⟨(findIt it ls[i].2.1).toNat, by omega⟩
      have q1 : qn < it.length := by omega
      have q2 : (qn : Int) < (it.length : Int) := by omega
      go_wp2_with fail
      refine (specFindItem_any _ _ _ it _ _ HIT.out).mono ?_
      rintro e w' ⟨rfl, rfl⟩
      rw [hqn]
      clear hqn f4 f4b hf1 hf2 HIT
      have cA := hA.cellN hal
      rw [HMV.out] at cA
      have cQ := hA.cellN q1
      have hbQ := HM.out.2 qn
      generalize hqv : M.getD qn 0 = qv at *
      have HQV := Lib.hid hqv
      clear hqv
      have hT := timesC_bd mv ls[i].2.2.1 (by omega)
      have hP := plusC_bd qv (timesC mv ls[i].2.2.1)
      generalize hqq : ls[i].2.2.1 = qt at *
      clear hqq
      go_wp2_with fail
      go_still_tail 18, (by kernel_rfl)
      still_call ((l10Times_any _ _ _ (by omega) (by omega)).mono (fun e w' h => ⟨h.1, h.2.symm⟩))
      repeat still_step
      still_call ((l10Plus_any _ _ _ (by omega) (by omega)).mono (fun e w' h => ⟨h.1, h.2.symm⟩))
      repeat still_step
      refine wpStill_nil ?_
      change wpList _ _ _ _ _ wq.drew
      replace hA := hA.keep (Below.refl wq.heap.size wq).drew
      replace hO := hO.keep (Below.refl wq.heap.size wq).drew
      replace hb := hb.drew
      clear cA cQ l0 l1 l2 l3 l4 l5 hbo
      generalize wq.drew = W8 at *
      have cQ := hA.cellN q1
      rw [HQV.out] at cQ
      have fQ := hA.frozen qn
      have hA9 := hA.set qn (plusC qv (timesC mv qt))
      have hO9 := hO.far (p := ⟨w.heap.size, qn, none⟩) (v := .int .i64 (plusC qv (timesC mv qt))) (by show w.heap.size ≠ g8; omega)
      have hb9 : Below w.heap.size w (W8.setCell ⟨w.heap.size, qn, none⟩ (.int .i64 (plusC qv (timesC mv qt)))) := hb.setCell (p := ⟨w.heap.size, qn, none⟩) (Nat.le_refl _) _
      have HM9 : Hid (okNums it.length (M.set qn (plusC qv (timesC mv qt)))) := HM.out.set q1 hP
      go_wp2_with fail
      go_roundw
      case rel => exact ⟨i + 1, M.set qn (plusC qv (timesC mv qt)), by omega, by go_num, hA9, HM9, hO9, hb9⟩
      case measure => simp [intOf]; omega
end Go.Proofs.Ytfjbliefcafiaaa
/- What a plan must be (plain). -/
namespace Go.Proofs.Ytfjbliefcafiaaa
theorem itLt_lt {a b : ByteArray} : itLt a b = true ↔ a.toList < b.toList := by
  unfold itLt
  rw [bytesLess_eq, decide_eq_true_eq]
theorem cat_lt {it : List It} (h : isCat it = true) : ∀ (d i j : Nat) (_ : j = i + d + 1) (hj : j < it.length), (it[i]'(by omega)).1.toList < it[j].1.toList := by
  simp only [isCat, Bool.and_eq_true, List.all_eq_true, List.mem_range] at h
  have step : ∀ j (hj : j < it.length) (h0 : 0 < j), (it[j - 1]'(by omega)).1.toList < it[j].1.toList := by
    intro j hj h0
    have h1 := h.1 j hj
    unfold catAt at h1
    rw [it_getD _ _ hj, it_getD _ _ (show j - 1 < it.length by omega), decide_eq_false (by omega)] at h1
    simp only [Bool.and_eq_true, Bool.false_or] at h1
    exact itLt_lt.1 h1.2
  intro d
  induction d with
  | zero =>
    intro i j hij hj
    have := step j hj (by omega)
    have e : j - 1 = i := by omega
    simp only [e] at this
    exact this
  | succ d ih =>
    intro i j hij hj
    have h1 := ih i (j - 1) (by omega) (by omega)
    have h2 := step j hj (by omega)
    exact List.lt_trans h1 h2
theorem find_self {it : List It} (h : isCat it = true) (k : Nat) (hk : k < it.length) : findIt it it[k].1 = (k : Int) := by
  rcases findIt_cases it it[k].1 with e | ⟨q, hq, e1, e2⟩
  · exfalso
    unfold findIt at e
    split at e
    · omega
    · next hn =>
      rw [List.findIdx?_eq_none_iff] at hn
      have := hn _ (List.getElem_mem hk)
      simp at this
  · have e3 : it[q].1.toList = it[k].1.toList := by simpa using e2
    rcases Nat.lt_trichotomy q k with hlt | heq | hgt
    · have := cat_lt h (k - q - 1) q k (by omega) hk
      rw [e3] at this
      exact absurd this (List.lt_irrefl _)
    · rw [e1, heq]
    · have := cat_lt h (q - k - 1) k q (by omega) hq
      rw [e3] at this
      exact absurd this (List.lt_irrefl _)
def relOf (p : Pt) (o : Pl) : Int × Bool := addWd p.wk p.ex o.2.2.2.1 (-(planX p o.1).2.2.2.1)
def okRel (p : Pt) (o : Pl) : Bool := (o.2.2.1 == (relOf p o).1) && (o.2.2.2.2 == !(relOf p o).2)
def netDay (p : Pt) (ds : List Dm) (l : List Pl) (item : ByteArray) (k : Nat) : Int := stockOf p item + prefS (comeOn p l item) k - prefS (takenOn p ds l item).1 k
def fineItem (p : Pt) (ds : List Dm) (l : List Pl) (x : It) : Bool := (x.2.2.1 == 2) || ((takenOn p ds l x.1).2 && (List.range 1000).all fun d => decide (x.2.2.2.2.2.2.1 ≤ netDay p ds l x.1 (d + 1)))
def isPlan (p : Pt) (ds : List Dm) (l : List Pl) : Bool := (arePlanned p l && areDemands ds) && (l.all (okRel p) && p.it.all (fineItem p ds l))
/-! The program's changes: what is taken counts against, what comes is added. -/
def negL (m : List Int) : List Int := m.map fun x => -x
/-- The first j days turned about. -/
def negTo (m : List Int) (j : Nat) : List Int := (m.take j).map (fun x => -x) ++ m.drop j
def chgR (p : Pt) (ds : List Dm) (l : List Pl) (item : ByteArray) (evs : List (Int × Int × Int)) : List Int := evs.foldl tkStep (negL (takenOn p ds l item).1)
end Go.Proofs.Ytfjbliefcafiaaa
/- What of a part is met on the way down from an item, by levels (plain): it is what lies in the item, taken upwards. -/
namespace Go.Proofs.Ytfjbliefcafiaaa
/-- What the levels of some lines tell. -/
structure Down (it : List It) (act : List Bl) (lev : List Nat) : Prop where
  len : lev.length = it.length
  fnd : ∀ x ∈ act, 0 ≤ findIt it x.1 ∧ 0 ≤ findIt it x.2.1
  qty : ∀ x ∈ act, 1 ≤ x.2.2.1 ∧ x.2.2.1 ≤ 1000
  rest : ∀ x ∈ act, lev.getD (findIt it x.1).toNat 0 < lev.getD (findIt it x.2.1).toNat 0
  lt : ∀ v, v < it.length → lev.getD v 0 < it.length
/-! The sum upwards without its cap. -/
def nIn (it : List It) (part : ByteArray) (f : ByteArray → Int) (x : Bl) : Int := if x.2.1.toList == part.toList then 1 else if phan it x.2.1 then f x.2.1 else 0
def rawT (it : List It) (part code : ByteArray) (f : ByteArray → Int) (x : Bl) : Int := if x.1.toList == code.toList then x.2.2.1 * nIn it part f x else 0
def raw (it : List It) (part code : ByteArray) (f : ByteArray → Int) (l : List Bl) : Int := (l.map (rawT it part code f)).sum
section
variable {it : List It} {ls : List Bl} {lv : List Nat} (hL : Lev it ls lv) (on : Bl → Bool) (part : ByteArray)
include hL
end
/-! The sum downwards. -/
theorem sum_range_one (n : Nat) (f g : Nat → Int) (k : Nat) (hk : k < n) (h : ∀ j, j ≠ k → f j = g j) : ((List.range n).map g).sum = ((List.range n).map f).sum - f k + g k := by
  induction n with
  | zero => omega
  | succ n ih =>
    rw [List.range_succ, List.map_append, List.map_append, List.sum_append, List.sum_append]
    simp only [List.map_cons, List.map_nil, List.sum_cons, List.sum_nil]
    by_cases he : k = n
    · subst he
      have e : (List.range k).map f = (List.range k).map g := List.map_congr_left (fun j hj => h j (by have := List.mem_range.1 hj; omega))
      rw [e]; omega
    · rw [ih (by omega), h n (Ne.symm he)]; omega
theorem sum_range_zero (n : Nat) (f : Nat → Int) (h : ∀ j, j < n → f j = 0) : ((List.range n).map f).sum = 0 := by
  induction n with
  | zero => rfl
  | succ n ih =>
    rw [List.range_succ, List.map_append, List.sum_append, ih (fun j hj => h j (by omega))]
    simp only [List.map_cons, List.map_nil, List.sum_cons, List.sum_nil]
    rw [h n (by omega)]; rfl
def codeAt (it : List It) (k : Nat) : ByteArray := (it.getD k itNone).1
def kindPh (it : List It) (k : Nat) : Bool := (it.getD k itNone).2.2.1 == 2
def opn (it : List It) (a0 k : Nat) : Bool := decide (k = a0) || kindPh it k
/-- Which items the walk downwards has passed: by level, then by place. -/
def passed (lev : List Nat) (l i k : Nat) : Bool := decide (lev.getD k 0 < l) || (decide (lev.getD k 0 = l) && decide (k < i))
def psiT (it : List It) (U : ByteArray → Int) (a0 : Nat) (dn : Nat → Bool) (m : List Int) (k : Nat) : Int := if (opn it a0 k && !(dn k)) = true then m.getD k 0 * U (codeAt it k) else 0
def psi (it : List It) (U : ByteArray → Int) (a0 pi : Nat) (dn : Nat → Bool) (m : List Int) : Int := ((List.range it.length).map (psiT it U a0 dn m)).sum + m.getD pi 0
structure Pcs (it : List It) (U : ByteArray → Int) (lev : List Nat) (a0 pi : Nat) (dn : Nat → Bool) (m : List Int) (T : Int) : Prop where
  len : m.length = it.length
  bd : ∀ k, 0 ≤ m.getD k 0 ∧ m.getD k 0 ≤ 1000000000
  low : ∀ k, m.getD k 0 ≠ 0 → lev.getD a0 0 ≤ lev.getD k 0
  cap : ∀ k, k < it.length → m.getD k 0 ≠ 0 → opn it a0 k = true → dn k = false → U (codeAt it k) ≤ 1000000000
  sum : pi ≠ a0 → psi it U a0 pi dn m = T
theorem Pcs.congr {it : List It} {U : ByteArray → Int} {lev : List Nat} {a0 pi : Nat} {dn dn' : Nat → Bool} {m : List Int} {T : Int} (h : Pcs it U lev a0 pi dn m T) (he : ∀ k, k < it.length → dn' k = dn k) : Pcs it U lev a0 pi dn' m T := by
  refine ⟨h.len, h.bd, h.low, fun k hk hm ho hd => h.cap k hk hm ho (by rw [← he k hk]; exact hd), fun hne => ?_⟩
  rw [← h.sum hne]
  unfold psi
  congr 2
  refine List.map_congr_left (fun k hk => ?_)
  unfold psiT
  rw [he k (List.mem_range.1 hk)]
/-- An item that is passed: its own share leaves the sum. -/
theorem Pcs.pass {it : List It} {U : ByteArray → Int} {lev : List Nat} {a0 pi : Nat} {dn dn' : Nat → Bool} {m : List Int} {T : Int} (h : Pcs it U lev a0 pi dn m T) {a : Nat} (ha : a < it.length) (h1 : dn a = false) (h2 : dn' a = true) (he : ∀ k, k ≠ a → dn' k = dn k) :
    Pcs it U lev a0 pi dn' m (T - (if opn it a0 a = true then m.getD a 0 * U (codeAt it a) else 0)) := by
  refine ⟨h.len, h.bd, h.low, fun k hk hm ho hd => ?_, fun hne => ?_⟩
  · by_cases hka : k = a
    · subst hka; rw [h2] at hd; cases hd
    · exact h.cap k hk hm ho (by rw [← he k hka]; exact hd)
  · rw [← h.sum hne]
    unfold psi
    rw [sum_range_one it.length (psiT it U a0 dn m) _ a ha (fun j hj => ?_)]
    · have e1 : psiT it U a0 dn m a = if opn it a0 a = true then m.getD a 0 * U (codeAt it a) else 0 := by
        unfold psiT; rw [h1]; simp
      have e2 : psiT it U a0 dn' m a = 0 := by
        unfold psiT; rw [h2]; simp
      rw [e1, e2]; omega
    · unfold psiT; rw [he j hj]
/-- More of an item that is not passed yet. -/
theorem Pcs.more {it : List It} {U : ByteArray → Int} {lev : List Nat} {a0 pi : Nat} {dn : Nat → Bool} {m : List Int} {T : Int} (h : Pcs it U lev a0 pi dn m T) {k : Nat} (hk : k < it.length) (hd : dn k = false) (hk0 : k ≠ a0) (hlow : lev.getD a0 0 ≤ lev.getD k 0) (hpk : pi ≠ a0 → kindPh it pi = false)
    {y : Int} (hy : 0 ≤ y) (hb : m.getD k 0 + y ≤ 1000000000) (hcap : y ≠ 0 → kindPh it k = true → U (codeAt it k) ≤ 1000000000) :
    Pcs it U lev a0 pi dn (m.set k (m.getD k 0 + y)) (T + y * (if k = pi then 1 else if kindPh it k = true then U (codeAt it k) else 0)) := by
  have hlk : k < m.length := by rw [h.len]; exact hk
  have hat : ∀ j, (m.set k (m.getD k 0 + y)).getD j 0 = if k = j then m.getD k 0 + y else m.getD j 0 := fun j => intD_set _ _ _ _ hlk
  have hop : opn it a0 k = kindPh it k := by unfold opn; rw [decide_eq_false hk0]; rfl
  refine ⟨by simp [h.len], fun j => ?_, fun j hj => ?_, fun j hj hm ho hdj => ?_, fun hne => ?_⟩
  · rw [hat]
    have h1 := h.bd k
    have h2 := h.bd j
    split <;> omega
  · rw [hat] at hj
    split at hj
    · next e => rw [← e]; exact hlow
    · exact h.low j hj
  · rw [hat] at hm
    split at hm
    · next e =>
      subst e
      by_cases hy0 : y = 0
      · subst hy0
        exact h.cap k hk (by simpa using hm) ho hd
      · exact hcap hy0 (by rw [← hop]; exact ho)
    · exact h.cap j hj hm ho hdj
  · have e0 := h.sum hne
    unfold psi at e0 ⊢
    rw [sum_range_one it.length (psiT it U a0 dn m) _ k hk (fun j hj => ?_)]
    · have e1 : psiT it U a0 dn m k = if kindPh it k = true then m.getD k 0 * U (codeAt it k) else 0 := by
        unfold psiT; rw [hop, hd]; simp
      have e2 : psiT it U a0 dn (m.set k (m.getD k 0 + y)) k = if kindPh it k = true then (m.getD k 0 + y) * U (codeAt it k) else 0 := by
        unfold psiT; rw [hop, hd, hat, if_pos rfl]; simp
      rw [e1, e2, hat]
      by_cases hkp : k = pi
      · subst hkp
        rw [if_pos rfl, if_pos rfl, hpk hne]
        simp only [Bool.false_eq_true, if_false]; omega
      · rw [if_neg hkp, if_neg hkp]
        split
        · rw [Int.add_mul]; omega
        · omega
    · unfold psiT; rw [hat, if_neg (Ne.symm hj)]
/-- When all are passed, the sum is what was met of the part. -/
theorem Pcs.all {it : List It} {U : ByteArray → Int} {lev : List Nat} {a0 pi : Nat} {dn : Nat → Bool} {m : List Int} {T : Int} (h : Pcs it U lev a0 pi dn m T) (hd : ∀ k, k < it.length → dn k = true) (hne : pi ≠ a0) : m.getD pi 0 = T := by
  have := h.sum hne
  unfold psi at this
  rw [sum_range_zero _ _ (fun j hj => by unfold psiT; rw [hd j hj]; simp)] at this
  omega
/-! What a list of needs holds of an item. -/
def inSum (l : List Nd) (c : ByteArray) : Int := (l.map fun x => if x.1.toList == c.toList then x.2 else 0).sum
end Go.Proofs.Ytfjbliefcafiaaa
/- The walks of PartsOf's two functions: is an item a phantom, is it none. -/
namespace Go.Proofs.Ytfjbliefcafiaaa
open Go.RowKit
end Go.Proofs.Ytfjbliefcafiaaa
/- The walk of needs: the list of what was met of the items that are no phantoms. -/
namespace Go.Proofs.Ytfjbliefcafiaaa
open Go.RowKit
theorem ndOneP : ∀ (a : Nd), ∀ u ∈ ndF.enc a, u.oneCell' = true := by
  intro a u hu
  simp [ndF] at hu
  rcases hu with rfl | rfl <;> rfl
/-- What the list holds of the part behind the first k items. -/
def inTill (M : List Int) (pi k : Nat) : Int := if pi < k then M.getD pi 0 else 0
end Go.Proofs.Ytfjbliefcafiaaa
