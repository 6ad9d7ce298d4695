/- Part 28 of the texts of this claim: The walk of l10Down, told weakly: what stands at each item is between -1 and the limit; Rows of rows of flows: a row of the call's own whose elements are rows of flows, each in a block of its own. -/
import Derived.Test.YtlkolehdikfddaaTr15
import Derived.Test.YtlkolehdikfddaaTr19
import Derived.Test.YtlkolehdikfddaaTr8
/- The walk of l10Down, told weakly: what stands at each item is between -1 and the limit. -/
namespace Go.Proofs.Ytlkolehdikfddaa
open Go.RowKit
def okNums (n : Nat) (M : List Int) : Prop := M.length = n ∧ ∀ k, -1 ≤ M.getD k 0 ∧ M.getD k 0 ≤ 1000000000
theorem okNums.set {n : Nat} {M : List Int} (h : okNums n M) {i : Nat} (hi : i < n) {x : Int} (hx : -1 ≤ x ∧ x ≤ 1000000000) : okNums n (M.set i x) := by
  refine ⟨by rw [List.length_set]; exact h.1, fun k => ?_⟩
  rw [intD_set _ _ _ _ (by rw [h.1]; exact hi)]
  split
  · exact hx
  · exact h.2 k
theorem okNums.zero (n : Nat) : okNums n (List.replicate n 0) := ⟨List.length_replicate, fun k => by
  rw [List.getD_eq_getElem?_getD, List.getElem?_replicate]; split <;> simp⟩
set_option maxRecDepth 100000 in
set_option maxHeartbeats 16000000 in
theorem l10Down_any (A B C : Option Addr) (n c m d k5 c5 : Nat) (it : List It) (ls : List Bl) (ch : List Pk) (a0 : Nat) (q day : Int) (w : World) (hi : ItemsIn w A n it) (hl : BillLinesIn w B m ls) (hch : PicksIn w C k5 ch) (hbl : isBills it ls = true) (ha0 : a0 < it.length) (hq : 0 ≤ q ∧ q ≤ 1000000000) :
    Calls Try.prog 89 #[.slice A n c, .slice B m d, .int .i64 a0, .int .i64 q, .int .i64 day, .slice C k5 c5, .bool true] w fun e w' => ∃ (g : Nat) (M : List Int), e = .returned (.slice (some ⟨g, 0, none⟩) it.length it.length) ∧ NumRow w' w.heap.size g it.length it.length M ∧ okNums it.length M ∧ Below w.heap.size w w' := by
  obtain ⟨hL, hLI⟩ := lev_of hbl
  obtain ⟨hcat, h24, hok, htn⟩ := isBills_parts hbl
  have h12 := isCat_12 hcat
  have HFND : Hid (∀ k (hk : k < ls.length), 0 ≤ findIt it ls[k].1 ∧ 0 ≤ findIt it ls[k].2.1) := fun k hk => ⟨(okLine_parts (hok k hk)).1, (okLine_parts (hok k hk)).2.1⟩
  have HCND : Hid (∀ k (hk : k < ls.length), isCond ls[k].2.2.2.2.2 = true ∧ (1 ≤ ls[k].2.2.1 ∧ ls[k].2.2.1 ≤ 1000)) := fun k hk => ⟨(okLine_parts (hok k hk)).2.2.2.2.2, (okLine_parts (hok k hk)).2.2.1⟩
  generalize runTo (edges it ls) it.length it.length = lev at hL hLI
  clear hcat hok htn hbl
  have hll := hL.len
  have HMEM : Hid (∀ k (hk : k < (ordOf lev it.length).length), (ordOf lev it.length)[k] < it.length) := fun k hk => by
    have := (ordOf_mem.1 (List.getElem_mem hk)).1
    omega
  have HOL : Hid ((ordOf lev it.length).length ≤ 144) := by
    have := ordOf_len lev it.length
    have := Nat.mul_le_mul (show it.length ≤ 12 from h12) (show lev.length ≤ 12 by omega)
    show _ ≤ _
    omega
  clear hL
  obtain rfl := hi.1
  have hn1 : m = ls.length := hl.num
  subst hn1
  have HQ0 := Lib.hid hi
  have HQ1 := Lib.hid hl
  have HQ4 := Lib.hid hch
  clear hi hl hch
  have ai : (a0 : Int) < (it.length : Int) := by omega
  go_enter Try.func89, Try.ntmps89
  go_wp2_with (at_make; refine wpList_make_nums rfl _ _ rfl w.heap.size it.length rfl rfl rfl rfl (by omega) (by omega) ?_; intro w5 hA hA2 hA3; have x9 := hA.cellN (j := a0) ha0; have f9 := hA.frozen a0)
  have hA5 : NumRow (w5.setCell ⟨w.heap.size, a0, none⟩ (.int .i64 q)) w.heap.size w.heap.size it.length it.length ((List.replicate it.length 0).set a0 q) := hA.set a0 q
  have hB5 : Below w.heap.size w (w5.setCell ⟨w.heap.size, a0, none⟩ (.int .i64 q)) := hA2.setCell (p := ⟨w.heap.size, a0, none⟩) (Nat.le_refl _) _
  have HM5 : Hid (okNums it.length ((List.replicate it.length 0).set a0 q)) := (okNums.zero it.length).set ha0 (by omega)
  have hz5 : w.heap.size + 1 ≤ (w5.setCell ⟨w.heap.size, a0, none⟩ (.int .i64 q)).heap.size := by have := hA5.lt.2; omega
  clear hA hA2 hA3
  refine (l9Levels_any A B it.length c ls.length d it ls _ (HQ0.out.keep hB5) (HQ1.out.keep hB5) h12 h24 HFND.out).mono ?_
  clear x9 f9
  generalize (w5.setCell ⟨w.heap.size, a0, none⟩ (.int .i64 q)) = w6 at *
  rintro e w7 ⟨A7, k7, d7, rfl, ho7, hs⟩
  rw [hLI] at ho7
  have hints : IntsIn w7 A7 k7 (natI lev) := ho7.ints (by rw [natI_len, hll]; omega)
  have hb1 := below_on hB5 hs
  have hA1 := hA5.keep hs
  have hz7 := Nat.le_trans hz5 hs.size
  generalize ((List.replicate it.length 0).set a0 q) = M5 at *
  clear hs ho7 hLI hA5 hB5 hz5
  go_wp2_with fail
  refine (l10Order_any _ _ _ lev _ hints (by omega)).mono ?_
  rintro e w8 ⟨g8, q8, rfl, ho8, hs⟩
  rw [hll] at ho8 ⊢
  replace hb1 := below_on hb1 hs
  replace hA1 := hA1.keep hs
  have hne : w.heap.size ≠ g8 := by have := ho8.lt.1; omega
  replace ho8 := ho8.lower (lo' := w.heap.size) (by omega)
  clear hs hints hz7
  generalize hord : ordOf lev it.length = ord at *
  have hol := HOL.out
  go_wp2_with fail
  go_loopw [17] (fun v wr => ∃ (K : Nat) (M : List Int), K ≤ ord.length ∧ v = .int .i64 K ∧ NumRow wr w.heap.size w.heap.size it.length it.length M ∧ Hid (okNums it.length M) ∧ NumRow wr w.heap.size g8 ord.length q8 (natI ord) ∧ Below w.heap.size w wr) (fun v _ => ord.length - (intOf v).toNat)
  case atStart => exact ⟨0, M5, by omega, rfl, hA1, HM5, ho8, hb1⟩
  case round =>
    clear hA1 ho8 hb1 HM5
    obtain ⟨K, M, hK, rfl, hA, HM, hO, hb⟩ := hrel
    by_cases hKl : K < ord.length
    case neg =>
      obtain rfl : K = ord.length := by omega
      have xa := hA.cellN (j := a0) ha0
      have fa := hA.frozen a0
      have hAF := hA.set a0 0
      have hbF : Below w.heap.size w (wr.setCell ⟨w.heap.size, a0, none⟩ (.int .i64 0)) := hb.setCell (p := ⟨w.heap.size, a0, none⟩) (Nat.le_refl _) _
      go_wp2_with fail
      go_ret
      exact ⟨w.heap.size, M.set a0 0, rfl, hAF, HM.out.set ha0 (by omega), hbF⟩
    have hal := HMEM.out K hKl
    have cO := hO.cell (j := K) (by rw [natI_len]; exact hKl)
    have cO2 : wr.cell? ⟨g8, K, none⟩ = some (.int .i64 (ord[K] : Int)) := by rw [cO]; simp [natI]
    clear cO
    generalize hao : ord[K] = a at *
    have HAO := Lib.hid hao
    clear hao
    obtain ⟨bi, oi, rfl, hbi, t0, t1, t2, t3, t4, t5, t6, t7⟩ := item_at (HQ0.out.keep hb) hal
    have j1 : (a : Int) < (it.length : Int) := by omega
    have j2 : (K : Int) < (ord.length : Int) := by omega
    have hw1 : IntKind.i64.wrap ((K : Int) + 1) = (K : Int) + 1 := IntWalk.i64_in _ (by omega)
    by_cases haa : a = a0
    case neg =>
      have haz : ¬ ((a : Int) = (a0 : Int)) := by omega
      have hab : ((a : Int) == (a0 : Int)) = false := by simp; omega
      have hac : ((a : Int) != (a0 : Int)) = true := by simp; omega
      by_cases hk2 : it[a].2.2.1 = 2
      case neg =>
        have hkb : (it[a].2.2.1 != 2) = true := by simp [hk2]
        have hkc : (it[a].2.2.1 == 2) = false := by simp [hk2]
        go_wp2_with fail
        go_roundw
        case rel => exact ⟨K + 1, M, by omega, by go_num, hA, HM, hO, hb⟩
        case measure => simp [intOf]; omega
      have hkb : (it[a].2.2.1 != 2) = false := by simp [hk2]
      go_wp2_with fail
      clear t0 t1 t2 t3 t4 t5 t6 t7 cO2 hbi
      go_loopw [19] (fun j wi => ∃ (i : Nat) (M : List Int), i ≤ ls.length ∧ j = .int .i64 i ∧ NumRow wi w.heap.size w.heap.size it.length it.length M ∧ Hid (okNums it.length M) ∧ NumRow wi w.heap.size g8 ord.length q8 (natI ord) ∧ Below w.heap.size w wi) (fun j _ => ls.length - (intOf j).toNat)
      case atStart => exact ⟨0, M, by omega, rfl, hA, HM, hO, hb⟩
      case round =>
        clear hA HM hO hb
        obtain ⟨i, M, hi, rfl, hA, HM, hO, hb⟩ := hrel
        by_cases hlt : i < ls.length
        case neg =>
          obtain rfl : i = ls.length := by omega
          have cA := hA.cellN hal
          have fA := hA.frozen a
          generalize M.getD a 0 = mv at *
          by_cases hp : 0 < mv
          case neg =>
            have hpd : decide (0 < mv) = false := decide_eq_false hp
            go_wp2_with fail
            go_roundw
            case rel => exact ⟨K + 1, M, by omega, by go_num, hA, HM, hO, hb⟩
            case measure => simp [intOf]; omega
          have hpd : decide (0 < mv) = true := decide_eq_true hp
          have hA9 := hA.set a 0
          have hO9 := hO.far (p := ⟨w.heap.size, a, none⟩) (v := .int .i64 0) (by show w.heap.size ≠ g8; omega)
          have hb9 : Below w.heap.size w (wr.setCell ⟨w.heap.size, a, none⟩ (.int .i64 0)) := hb.setCell (p := ⟨w.heap.size, a, none⟩) (Nat.le_refl _) _
          have HM9 : Hid (okNums it.length (M.set a 0)) := HM.out.set hal (by omega)
          go_wp2_with fail
          go_roundw
          case rel => exact ⟨K + 1, M.set a 0, by omega, by go_num, hA9, HM9, hO9, hb9⟩
          case measure => simp [intOf]; omega
        obtain ⟨bo, oo, Bw, mw, cw, rfl, hbo, l0, l1, l2, l3, l4, l5, hcd⟩ := bl_at (HQ1.out.keep hb) hlt
        obtain ⟨hcond, hq1, hq2⟩ := HCND.out i hlt
        obtain ⟨hf1, hf2⟩ := HFND.out i hlt
        obtain ⟨_, _, e9, hbi, x0, _⟩ := item_at (HQ0.out.keep hb) hal
        obtain ⟨rfl, rfl⟩ : bi = _ ∧ oi = _ := by simpa using e9
        clear e9
        have ii : (i : Int) < (ls.length : Int) := by omega
        have hwi : IntKind.i64.wrap ((i : Int) + 1) = (i : Int) + 1 := IntWalk.i64_in _ (by omega)
        have cA := hA.cellN hal
        have hbA := HM.out.2 a
        generalize hmv : M.getD a 0 = mv at *
        have HMV := Lib.hid hmv
        clear hmv
        have hgl := hA.lt.2
        cases he : (ls[i].1.toList == it[a].1.toList)
        case false =>
          go_wp2_with fail
          refine wp_region_held_drew (S := (fun w' => w'.cell? ⟨bo, oo + i * 6, none⟩ = some (.string ls[i].1) ∧ w'.cell? ⟨bi, oi + a * 8, none⟩ = some (.string it[a].1) ∧ w' = wr.drew)) (by kernel_rfl) ⟨l0, x0, rfl⟩ (fun hHeld => ?_)
          refine held1 0 (some 62) hHeld ?_
          refine held1 1 (some 63) hHeld ?_
          refine held1 2 (some 64) hHeld ?_
          refine held1 3 (some 65) hHeld ?_
          refine held1 4 (some 66) hHeld ?_
          refine held1 5 (some 67) hHeld ?_
          refine held1 6 (some 68) hHeld ?_
          refine held1 7 (some 69) hHeld ?_
          refine held1 8 (some 70) hHeld ?_
          refine held1 9 (some 71) hHeld ?_
          refine held1 10 (some 72) hHeld ?_
          refine held1 11 (some 73) hHeld ?_
          refine held0 12 (some 74) hHeld ?_
          refine held0 13 (some 75) hHeld ?_
          refine held0 14 (some 76) hHeld ?_
          refine held0 15 (some 77) hHeld ?_
          refine held0 16 (some 78) hHeld ?_
          refine held0 17 (some 79) hHeld ?_
          refine held0 18 (some 80) hHeld ?_
          refine held1 19 (some 81) hHeld ?_
          refine held1 20 (some 82) hHeld ?_
          refine held0 21 (some 83) hHeld ?_
          refine held0 22 (some 84) hHeld ?_
          refine held0 23 (some 85) hHeld ?_
          refine held0 24 (some 86) hHeld ?_
          refine held0 25 (some 87) hHeld ?_
          refine held1 26 (some 88) hHeld ?_
          refine wpAnyH_done (by kernel_rfl) ?_ _
          obtain ⟨y_l0, y_x0, y_W⟩ := hHeld
          clear y_l0 y_x0 y_W
          go_wp2_with fail
          go_roundw
          case rel => exact ⟨i + 1, M, by omega, by go_num, hA.keep (Below.refl _ _).drew, HM, hO.keep (Below.refl _ _).drew, hb.drew⟩
          case measure => simp [intOf]; omega
        cases hon : lineOn ch day ls[i]
        case false =>
          go_wp2_with fail
          refine wp_region_held_drew (S := (fun w' => w'.cell? ⟨bo, oo + i * 6, none⟩ = some (.string ls[i].1) ∧ w'.cell? ⟨bo, oo + i * 6 + 1, none⟩ = some (.string ls[i].2.1) ∧ w'.cell? ⟨bo, oo + i * 6 + 2, none⟩ = some (.int .i64 ls[i].2.2.1) ∧ w'.cell? ⟨bo, oo + i * 6 + 3, none⟩ = some (.int .i64 ls[i].2.2.2.1) ∧ w'.cell? ⟨bo, oo + i * 6 + 4, none⟩ = some (.int .i64 ls[i].2.2.2.2.1) ∧ w'.cell? ⟨bo, oo + i * 6 + 5, none⟩ = some (.slice Bw mw cw) ∧ w'.cell? ⟨bi, oi + a * 8, none⟩ = some (.string it[a].1) ∧ w'.cell? ⟨w.heap.size, a, none⟩ = some (.int .i64 mv) ∧ w.heap.size < w'.heap.size ∧ bo < w'.heap.size ∧ bi < w'.heap.size ∧ Below wr.heap.size wr w')) (by kernel_rfl) ⟨l0, l1, l2, l3, l4, l5, x0, cA, hgl, hbo, hbi, (Below.refl _ _).drew⟩ (fun hHeld => ?_)
          refine held1 0 (some 62) hHeld ?_
          refine held1 1 (some 63) hHeld ?_
          refine held1 2 (some 64) hHeld ?_
          refine held1 3 (some 65) hHeld ?_
          refine held1 4 (some 66) hHeld ?_
          refine held1 5 (some 67) hHeld ?_
          refine held1 6 (some 68) hHeld ?_
          refine held1 7 (some 69) hHeld ?_
          refine held1 8 (some 70) hHeld ?_
          refine held1 9 (some 71) hHeld ?_
          refine held1 10 (some 72) hHeld ?_
          refine held1 11 (some 73) hHeld ?_
          refine held1 12 (some 74) hHeld ?_
          refine held1 13 (some 75) hHeld ?_
          refine held1 14 (some 76) hHeld ?_
          refine held1 15 (some 77) hHeld ?_
          refine held1 16 (some 78) hHeld ?_
          refine held1 17 (some 79) hHeld ?_
          refine held_do 18 fun K hK => ?_
          go_simp
          go_at_call 66; refine (specOn_any ls[i] _ _ _ _ _ _ day ch _ (hcd.keep (by obtain ⟨y_l0, y_l1, y_l2, y_l3, y_l4, y_l5, y_x0, y_cA, y_g, y_b, y_x, y_R⟩ := hHeld; exact y_R)) (HQ4.out.keep (below_on hb (by obtain ⟨y_l0, y_l1, y_l2, y_l3, y_l4, y_l5, y_x0, y_cA, y_g, y_b, y_x, y_R⟩ := hHeld; exact y_R))) hcond).mono ?_; rintro e w6 ⟨rfl, hb3⟩; rw [hon]; go_simp
          refine hK.out _ _ ?_ (fun hHeld => ?_)
          · obtain ⟨y_l0, y_l1, y_l2, y_l3, y_l4, y_l5, y_x0, y_cA, y_g, y_b, y_x, y_R⟩ := hHeld; exact ⟨(hb3.cell y_b).trans y_l0, (hb3.cell y_b).trans y_l1, (hb3.cell y_b).trans y_l2, (hb3.cell y_b).trans y_l3, (hb3.cell y_b).trans y_l4, (hb3.cell y_b).trans y_l5, (hb3.cell y_x).trans y_x0, (hb3.cell y_g).trans y_cA, Nat.lt_of_lt_of_le y_g hb3.size, Nat.lt_of_lt_of_le y_b hb3.size, Nat.lt_of_lt_of_le y_x hb3.size, below_on y_R hb3⟩
          clear hK K
          refine held1 19 (some 81) hHeld ?_
          refine held1 20 (some 82) hHeld ?_
          refine held0 21 (some 83) hHeld ?_
          refine held0 22 (some 84) hHeld ?_
          refine held0 23 (some 85) hHeld ?_
          refine held0 24 (some 86) hHeld ?_
          refine held0 25 (some 87) hHeld ?_
          refine held1 26 (some 88) hHeld ?_
          refine wpAnyH_done (by kernel_rfl) ?_ _
          obtain ⟨y_l0, y_l1, y_l2, y_l3, y_l4, y_l5, y_x0, y_cA, y_g, y_b, y_x, y_R⟩ := hHeld
          replace hA := hA.keep y_R
          replace hO := hO.keep y_R
          replace hb := below_on hb y_R
          clear y_l0 y_l1 y_l2 y_l3 y_l4 y_l5 y_x0 y_cA y_g y_b y_x y_R l0 l1 l2 l3 l4 l5 hcd x0 hbo hbi cA hgl
          go_wp2_with fail
          go_roundw
          case rel => exact ⟨i + 1, M, by omega, by go_num, hA, HM, hO, hb⟩
          case measure => simp [intOf]; omega
        go_wp2_with fail
        refine wp_region_held_drew (S := (fun w' => w'.cell? ⟨bo, oo + i * 6, none⟩ = some (.string ls[i].1) ∧ w'.cell? ⟨bo, oo + i * 6 + 1, none⟩ = some (.string ls[i].2.1) ∧ w'.cell? ⟨bo, oo + i * 6 + 2, none⟩ = some (.int .i64 ls[i].2.2.1) ∧ w'.cell? ⟨bo, oo + i * 6 + 3, none⟩ = some (.int .i64 ls[i].2.2.2.1) ∧ w'.cell? ⟨bo, oo + i * 6 + 4, none⟩ = some (.int .i64 ls[i].2.2.2.2.1) ∧ w'.cell? ⟨bo, oo + i * 6 + 5, none⟩ = some (.slice Bw mw cw) ∧ w'.cell? ⟨bi, oi + a * 8, none⟩ = some (.string it[a].1) ∧ w'.cell? ⟨w.heap.size, a, none⟩ = some (.int .i64 mv) ∧ w.heap.size < w'.heap.size ∧ bo < w'.heap.size ∧ bi < w'.heap.size ∧ Below wr.heap.size wr w')) (by kernel_rfl) ⟨l0, l1, l2, l3, l4, l5, x0, cA, hgl, hbo, hbi, (Below.refl _ _).drew⟩ (fun hHeld => ?_)
        refine held1 0 (some 62) hHeld ?_
        refine held1 1 (some 63) hHeld ?_
        refine held1 2 (some 64) hHeld ?_
        refine held1 3 (some 65) hHeld ?_
        refine held1 4 (some 66) hHeld ?_
        refine held1 5 (some 67) hHeld ?_
        refine held1 6 (some 68) hHeld ?_
        refine held1 7 (some 69) hHeld ?_
        refine held1 8 (some 70) hHeld ?_
        refine held1 9 (some 71) hHeld ?_
        refine held1 10 (some 72) hHeld ?_
        refine held1 11 (some 73) hHeld ?_
        refine held1 12 (some 74) hHeld ?_
        refine held1 13 (some 75) hHeld ?_
        refine held1 14 (some 76) hHeld ?_
        refine held1 15 (some 77) hHeld ?_
        refine held1 16 (some 78) hHeld ?_
        refine held1 17 (some 79) hHeld ?_
        refine held_do 18 fun K hK => ?_
        go_simp
        go_at_call 66; refine (specOn_any ls[i] _ _ _ _ _ _ day ch _ (hcd.keep (by obtain ⟨y_l0, y_l1, y_l2, y_l3, y_l4, y_l5, y_x0, y_cA, y_g, y_b, y_x, y_R⟩ := hHeld; exact y_R)) (HQ4.out.keep (below_on hb (by obtain ⟨y_l0, y_l1, y_l2, y_l3, y_l4, y_l5, y_x0, y_cA, y_g, y_b, y_x, y_R⟩ := hHeld; exact y_R))) hcond).mono ?_; rintro e w6 ⟨rfl, hb3⟩; rw [hon]; go_simp
        refine hK.out _ _ ?_ (fun hHeld => ?_)
        · obtain ⟨y_l0, y_l1, y_l2, y_l3, y_l4, y_l5, y_x0, y_cA, y_g, y_b, y_x, y_R⟩ := hHeld; exact ⟨(hb3.cell y_b).trans y_l0, (hb3.cell y_b).trans y_l1, (hb3.cell y_b).trans y_l2, (hb3.cell y_b).trans y_l3, (hb3.cell y_b).trans y_l4, (hb3.cell y_b).trans y_l5, (hb3.cell y_x).trans y_x0, (hb3.cell y_g).trans y_cA, Nat.lt_of_lt_of_le y_g hb3.size, Nat.lt_of_lt_of_le y_b hb3.size, Nat.lt_of_lt_of_le y_x hb3.size, below_on y_R hb3⟩
        clear hK K
        refine held1 19 (some 81) hHeld ?_
        refine held1 20 (some 82) hHeld ?_
        refine held1 21 (some 83) hHeld ?_
        refine held1 22 (some 84) hHeld ?_
        refine held1 23 (some 85) hHeld ?_
        refine held1 24 (some 86) hHeld ?_
        refine held1 25 (some 87) hHeld ?_
        refine held1 26 (some 88) hHeld ?_
        refine wpAnyH_done (by kernel_rfl) ?_ _
        obtain ⟨y_l0, y_l1, y_l2, y_l3, y_l4, y_l5, y_x0, y_cA, y_g, y_b, y_x, y_R⟩ := hHeld
        replace hA := hA.keep y_R
        replace hO := hO.keep y_R
        replace hb := below_on hb y_R
        clear y_l0 y_l1 y_l2 y_l3 y_l4 y_l5 y_x0 y_cA y_g y_b y_x y_R l0 l1 l2 l3 l4 l5 hcd x0 hbo hbi cA hgl
        clear he hon
        generalize w6 = wq at *
        by_cases hm0 : mv = 0
        case pos =>
          have hmb : (mv != 0) = false := by simp [hm0]
          go_wp2_with fail
          go_roundw
          case rel => exact ⟨i + 1, M, by omega, by go_num, hA, HM, hO, hb⟩
          case measure => simp [intOf]; omega
        have hmb : (mv != 0) = true := by simp [hm0]
        obtain ⟨_, _, _, _, _, e9, hbo, l0, l1, l2, l3, l4, l5, _⟩ := bl_at (HQ1.out.keep hb) hlt
        obtain ⟨rfl, rfl⟩ : bo = _ ∧ oo = _ := by simpa using e9
        clear e9
        have HIT := Lib.hid (HQ0.out.keep hb)
        obtain ⟨f4, f4b⟩ := findIt_bd it ls[i].2.1
        obtain ⟨qn, hqn⟩ : ∃ qn : Nat, findIt it ls[i].2.1 = (qn : Int) := ⟨(findIt it ls[i].2.1).toNat, by omega⟩
        have q1 : qn < it.length := by omega
        have q2 : (qn : Int) < (it.length : Int) := by omega
        go_wp2_with fail
        refine (specFindItem_any _ _ _ it _ _ HIT.out).mono ?_
        rintro e w' ⟨rfl, rfl⟩
        rw [hqn]
        clear hqn f4 f4b hf1 hf2 HIT
        have cA := hA.cellN hal
        rw [HMV.out] at cA
        have cQ := hA.cellN q1
        have hbQ := HM.out.2 qn
        generalize hqv : M.getD qn 0 = qv at *
        have HQV := Lib.hid hqv
        clear hqv
        have hT := timesC_bd mv ls[i].2.2.1 (by omega)
        have hP := plusC_bd qv (timesC mv ls[i].2.2.1)
        generalize hqq : ls[i].2.2.1 = qt at *
        clear hqq
        go_wp2_with fail
        go_still_tail 18, (by kernel_rfl)
        still_call ((l10Times_any _ _ _ (by omega) (by omega)).mono (fun e w' h => ⟨h.1, h.2.symm⟩))
        repeat still_step
        still_call ((l10Plus_any _ _ _ (by omega) (by omega)).mono (fun e w' h => ⟨h.1, h.2.symm⟩))
        repeat still_step
        refine wpStill_nil ?_
        change wpList _ _ _ _ _ wq.drew
        replace hA := hA.keep (Below.refl wq.heap.size wq).drew
        replace hO := hO.keep (Below.refl wq.heap.size wq).drew
        replace hb := hb.drew
        clear cA cQ l0 l1 l2 l3 l4 l5 hbo
        generalize wq.drew = W8 at *
        have cQ := hA.cellN q1
        rw [HQV.out] at cQ
        have fQ := hA.frozen qn
        have hA9 := hA.set qn (plusC qv (timesC mv qt))
        have hO9 := hO.far (p := ⟨w.heap.size, qn, none⟩) (v := .int .i64 (plusC qv (timesC mv qt))) (by show w.heap.size ≠ g8; omega)
        have hb9 : Below w.heap.size w (W8.setCell ⟨w.heap.size, qn, none⟩ (.int .i64 (plusC qv (timesC mv qt)))) := hb.setCell (p := ⟨w.heap.size, qn, none⟩) (Nat.le_refl _) _
        have HM9 : Hid (okNums it.length (M.set qn (plusC qv (timesC mv qt)))) := HM.out.set q1 hP
        go_wp2_with fail
        go_roundw
        case rel => exact ⟨i + 1, M.set qn (plusC qv (timesC mv qt)), by omega, by go_num, hA9, HM9, hO9, hb9⟩
        case measure => simp [intOf]; omega
    subst haa
    go_wp2_with fail
    clear t0 t1 t2 t3 t4 t5 t6 t7 cO2 hbi
    go_loopw [19] (fun j wi => ∃ (i : Nat) (M : List Int), i ≤ ls.length ∧ j = .int .i64 i ∧ NumRow wi w.heap.size w.heap.size it.length it.length M ∧ Hid (okNums it.length M) ∧ NumRow wi w.heap.size g8 ord.length q8 (natI ord) ∧ Below w.heap.size w wi) (fun j _ => ls.length - (intOf j).toNat)
    case atStart => exact ⟨0, M, by omega, rfl, hA, HM, hO, hb⟩
    case round =>
      clear hA HM hO hb
      obtain ⟨i, M, hi, rfl, hA, HM, hO, hb⟩ := hrel
      by_cases hlt : i < ls.length
      case neg =>
        obtain rfl : i = ls.length := by omega
        go_wp2_with fail
        go_roundw
        case rel => exact ⟨K + 1, M, by omega, by go_num, hA, HM, hO, hb⟩
        case measure => simp [intOf]; omega
      obtain ⟨bo, oo, Bw, mw, cw, rfl, hbo, l0, l1, l2, l3, l4, l5, hcd⟩ := bl_at (HQ1.out.keep hb) hlt
      obtain ⟨hcond, hq1, hq2⟩ := HCND.out i hlt
      obtain ⟨hf1, hf2⟩ := HFND.out i hlt
      obtain ⟨_, _, e9, hbi, x0, _⟩ := item_at (HQ0.out.keep hb) hal
      obtain ⟨rfl, rfl⟩ : bi = _ ∧ oi = _ := by simpa using e9
      clear e9
      have ii : (i : Int) < (ls.length : Int) := by omega
      have hwi : IntKind.i64.wrap ((i : Int) + 1) = (i : Int) + 1 := IntWalk.i64_in _ (by omega)
      have cA := hA.cellN hal
      have hbA := HM.out.2 a
      generalize hmv : M.getD a 0 = mv at *
      have HMV := Lib.hid hmv
      clear hmv
      have hgl := hA.lt.2
      cases he : (ls[i].1.toList == it[a].1.toList)
      case false =>
        go_wp2_with fail
        refine wp_region_held_drew (S := (fun w' => w'.cell? ⟨bo, oo + i * 6, none⟩ = some (.string ls[i].1) ∧ w'.cell? ⟨bi, oi + a * 8, none⟩ = some (.string it[a].1) ∧ w' = wr.drew)) (by kernel_rfl) ⟨l0, x0, rfl⟩ (fun hHeld => ?_)
        refine held1 0 (some 62) hHeld ?_
        refine held1 1 (some 63) hHeld ?_
        refine held1 2 (some 64) hHeld ?_
        refine held1 3 (some 65) hHeld ?_
        refine held1 4 (some 66) hHeld ?_
        refine held1 5 (some 67) hHeld ?_
        refine held1 6 (some 68) hHeld ?_
        refine held1 7 (some 69) hHeld ?_
        refine held1 8 (some 70) hHeld ?_
        refine held1 9 (some 71) hHeld ?_
        refine held1 10 (some 72) hHeld ?_
        refine held1 11 (some 73) hHeld ?_
        refine held0 12 (some 74) hHeld ?_
        refine held0 13 (some 75) hHeld ?_
        refine held0 14 (some 76) hHeld ?_
        refine held0 15 (some 77) hHeld ?_
        refine held0 16 (some 78) hHeld ?_
        refine held0 17 (some 79) hHeld ?_
        refine held0 18 (some 80) hHeld ?_
        refine held1 19 (some 81) hHeld ?_
        refine held1 20 (some 82) hHeld ?_
        refine held0 21 (some 83) hHeld ?_
        refine held0 22 (some 84) hHeld ?_
        refine held0 23 (some 85) hHeld ?_
        refine held0 24 (some 86) hHeld ?_
        refine held0 25 (some 87) hHeld ?_
        refine held1 26 (some 88) hHeld ?_
        refine wpAnyH_done (by kernel_rfl) ?_ _
        obtain ⟨y_l0, y_x0, y_W⟩ := hHeld
        clear y_l0 y_x0 y_W
        go_wp2_with fail
        go_roundw
        case rel => exact ⟨i + 1, M, by omega, by go_num, hA.keep (Below.refl _ _).drew, HM, hO.keep (Below.refl _ _).drew, hb.drew⟩
        case measure => simp [intOf]; omega
      cases hon : lineOn ch day ls[i]
      case false =>
        go_wp2_with fail
        refine wp_region_held_drew (S := (fun w' => w'.cell? ⟨bo, oo + i * 6, none⟩ = some (.string ls[i].1) ∧ w'.cell? ⟨bo, oo + i * 6 + 1, none⟩ = some (.string ls[i].2.1) ∧ w'.cell? ⟨bo, oo + i * 6 + 2, none⟩ = some (.int .i64 ls[i].2.2.1) ∧ w'.cell? ⟨bo, oo + i * 6 + 3, none⟩ = some (.int .i64 ls[i].2.2.2.1) ∧ w'.cell? ⟨bo, oo + i * 6 + 4, none⟩ = some (.int .i64 ls[i].2.2.2.2.1) ∧ w'.cell? ⟨bo, oo + i * 6 + 5, none⟩ = some (.slice Bw mw cw) ∧ w'.cell? ⟨bi, oi + a * 8, none⟩ = some (.string it[a].1) ∧ w'.cell? ⟨w.heap.size, a, none⟩ = some (.int .i64 mv) ∧ w.heap.size < w'.heap.size ∧ bo < w'.heap.size ∧ bi < w'.heap.size ∧ Below wr.heap.size wr w')) (by kernel_rfl) ⟨l0, l1, l2, l3, l4, l5, x0, cA, hgl, hbo, hbi, (Below.refl _ _).drew⟩ (fun hHeld => ?_)
        refine held1 0 (some 62) hHeld ?_
        refine held1 1 (some 63) hHeld ?_
        refine held1 2 (some 64) hHeld ?_
        refine held1 3 (some 65) hHeld ?_
        refine held1 4 (some 66) hHeld ?_
        refine held1 5 (some 67) hHeld ?_
        refine held1 6 (some 68) hHeld ?_
        refine held1 7 (some 69) hHeld ?_
        refine held1 8 (some 70) hHeld ?_
        refine held1 9 (some 71) hHeld ?_
        refine held1 10 (some 72) hHeld ?_
        refine held1 11 (some 73) hHeld ?_
        refine held1 12 (some 74) hHeld ?_
        refine held1 13 (some 75) hHeld ?_
        refine held1 14 (some 76) hHeld ?_
        refine held1 15 (some 77) hHeld ?_
        refine held1 16 (some 78) hHeld ?_
        refine held1 17 (some 79) hHeld ?_
        refine held_do 18 fun K hK => ?_
        go_simp
        go_at_call 66; refine (specOn_any ls[i] _ _ _ _ _ _ day ch _ (hcd.keep (by obtain ⟨y_l0, y_l1, y_l2, y_l3, y_l4, y_l5, y_x0, y_cA, y_g, y_b, y_x, y_R⟩ := hHeld; exact y_R)) (HQ4.out.keep (below_on hb (by obtain ⟨y_l0, y_l1, y_l2, y_l3, y_l4, y_l5, y_x0, y_cA, y_g, y_b, y_x, y_R⟩ := hHeld; exact y_R))) hcond).mono ?_; rintro e w6 ⟨rfl, hb3⟩; rw [hon]; go_simp
        refine hK.out _ _ ?_ (fun hHeld => ?_)
        · obtain ⟨y_l0, y_l1, y_l2, y_l3, y_l4, y_l5, y_x0, y_cA, y_g, y_b, y_x, y_R⟩ := hHeld; exact ⟨(hb3.cell y_b).trans y_l0, (hb3.cell y_b).trans y_l1, (hb3.cell y_b).trans y_l2, (hb3.cell y_b).trans y_l3, (hb3.cell y_b).trans y_l4, (hb3.cell y_b).trans y_l5, (hb3.cell y_x).trans y_x0, (hb3.cell y_g).trans y_cA, Nat.lt_of_lt_of_le y_g hb3.size, Nat.lt_of_lt_of_le y_b hb3.size, Nat.lt_of_lt_of_le y_x hb3.size, below_on y_R hb3⟩
        clear hK K
        refine held1 19 (some 81) hHeld ?_
        refine held1 20 (some 82) hHeld ?_
        refine held0 21 (some 83) hHeld ?_
        refine held0 22 (some 84) hHeld ?_
        refine held0 23 (some 85) hHeld ?_
        refine held0 24 (some 86) hHeld ?_
        refine held0 25 (some 87) hHeld ?_
        refine held1 26 (some 88) hHeld ?_
        refine wpAnyH_done (by kernel_rfl) ?_ _
        obtain ⟨y_l0, y_l1, y_l2, y_l3, y_l4, y_l5, y_x0, y_cA, y_g, y_b, y_x, y_R⟩ := hHeld
        replace hA := hA.keep y_R
        replace hO := hO.keep y_R
        replace hb := below_on hb y_R
        clear y_l0 y_l1 y_l2 y_l3 y_l4 y_l5 y_x0 y_cA y_g y_b y_x y_R l0 l1 l2 l3 l4 l5 hcd x0 hbo hbi cA hgl
        go_wp2_with fail
        go_roundw
        case rel => exact ⟨i + 1, M, by omega, by go_num, hA, HM, hO, hb⟩
        case measure => simp [intOf]; omega
      go_wp2_with fail
      refine wp_region_held_drew (S := (fun w' => w'.cell? ⟨bo, oo + i * 6, none⟩ = some (.string ls[i].1) ∧ w'.cell? ⟨bo, oo + i * 6 + 1, none⟩ = some (.string ls[i].2.1) ∧ w'.cell? ⟨bo, oo + i * 6 + 2, none⟩ = some (.int .i64 ls[i].2.2.1) ∧ w'.cell? ⟨bo, oo + i * 6 + 3, none⟩ = some (.int .i64 ls[i].2.2.2.1) ∧ w'.cell? ⟨bo, oo + i * 6 + 4, none⟩ = some (.int .i64 ls[i].2.2.2.2.1) ∧ w'.cell? ⟨bo, oo + i * 6 + 5, none⟩ = some (.slice Bw mw cw) ∧ w'.cell? ⟨bi, oi + a * 8, none⟩ = some (.string it[a].1) ∧ w'.cell? ⟨w.heap.size, a, none⟩ = some (.int .i64 mv) ∧ w.heap.size < w'.heap.size ∧ bo < w'.heap.size ∧ bi < w'.heap.size ∧ Below wr.heap.size wr w')) (by kernel_rfl) ⟨l0, l1, l2, l3, l4, l5, x0, cA, hgl, hbo, hbi, (Below.refl _ _).drew⟩ (fun hHeld => ?_)
      refine held1 0 (some 62) hHeld ?_
      refine held1 1 (some 63) hHeld ?_
      refine held1 2 (some 64) hHeld ?_
      refine held1 3 (some 65) hHeld ?_
      refine held1 4 (some 66) hHeld ?_
      refine held1 5 (some 67) hHeld ?_
      refine held1 6 (some 68) hHeld ?_
      refine held1 7 (some 69) hHeld ?_
      refine held1 8 (some 70) hHeld ?_
      refine held1 9 (some 71) hHeld ?_
      refine held1 10 (some 72) hHeld ?_
      refine held1 11 (some 73) hHeld ?_
      refine held1 12 (some 74) hHeld ?_
      refine held1 13 (some 75) hHeld ?_
      refine held1 14 (some 76) hHeld ?_
      refine held1 15 (some 77) hHeld ?_
      refine held1 16 (some 78) hHeld ?_
      refine held1 17 (some 79) hHeld ?_
      refine held_do 18 fun K hK => ?_
      go_simp
      go_at_call 66; refine (specOn_any ls[i] _ _ _ _ _ _ day ch _ (hcd.keep (by obtain ⟨y_l0, y_l1, y_l2, y_l3, y_l4, y_l5, y_x0, y_cA, y_g, y_b, y_x, y_R⟩ := hHeld; exact y_R)) (HQ4.out.keep (below_on hb (by obtain ⟨y_l0, y_l1, y_l2, y_l3, y_l4, y_l5, y_x0, y_cA, y_g, y_b, y_x, y_R⟩ := hHeld; exact y_R))) hcond).mono ?_; rintro e w6 ⟨rfl, hb3⟩; rw [hon]; go_simp
      refine hK.out _ _ ?_ (fun hHeld => ?_)
      · obtain ⟨y_l0, y_l1, y_l2, y_l3, y_l4, y_l5, y_x0, y_cA, y_g, y_b, y_x, y_R⟩ := hHeld; exact ⟨(hb3.cell y_b).trans y_l0, (hb3.cell y_b).trans y_l1, (hb3.cell y_b).trans y_l2, (hb3.cell y_b).trans y_l3, (hb3.cell y_b).trans y_l4, (hb3.cell y_b).trans y_l5, (hb3.cell y_x).trans y_x0, (hb3.cell y_g).trans y_cA, Nat.lt_of_lt_of_le y_g hb3.size, Nat.lt_of_lt_of_le y_b hb3.size, Nat.lt_of_lt_of_le y_x hb3.size, below_on y_R hb3⟩
      clear hK K
      refine held1 19 (some 81) hHeld ?_
      refine held1 20 (some 82) hHeld ?_
      refine held1 21 (some 83) hHeld ?_
      refine held1 22 (some 84) hHeld ?_
      refine held1 23 (some 85) hHeld ?_
      refine held1 24 (some 86) hHeld ?_
      refine held1 25 (some 87) hHeld ?_
      refine held1 26 (some 88) hHeld ?_
      refine wpAnyH_done (by kernel_rfl) ?_ _
      obtain ⟨y_l0, y_l1, y_l2, y_l3, y_l4, y_l5, y_x0, y_cA, y_g, y_b, y_x, y_R⟩ := hHeld
      replace hA := hA.keep y_R
      replace hO := hO.keep y_R
      replace hb := below_on hb y_R
      clear y_l0 y_l1 y_l2 y_l3 y_l4 y_l5 y_x0 y_cA y_g y_b y_x y_R l0 l1 l2 l3 l4 l5 hcd x0 hbo hbi cA hgl
      clear he hon
      generalize w6 = wq at *
      by_cases hm0 : mv = 0
      case pos =>
        have hmb : (mv != 0) = false := by simp [hm0]
        go_wp2_with fail
        go_roundw
        case rel => exact ⟨i + 1, M, by omega, by go_num, hA, HM, hO, hb⟩
        case measure => simp [intOf]; omega
      have hmb : (mv != 0) = true := by simp [hm0]
      obtain ⟨_, _, _, _, _, e9, hbo, l0, l1, l2, l3, l4, l5, _⟩ := bl_at (HQ1.out.keep hb) hlt
      obtain ⟨rfl, rfl⟩ : bo = _ ∧ oo = _ := by simpa using e9
      clear e9
      have HIT := Lib.hid (HQ0.out.keep hb)
      obtain ⟨f4, f4b⟩ := findIt_bd it ls[i].2.1
      obtain ⟨qn, hqn⟩ : ∃ qn : Nat, findIt it ls[i].2.1 = (qn : Int) := ⟨(findIt it ls[i].2.1).toNat, by omega⟩
      have q1 : qn < it.length := by omega
      have q2 : (qn : Int) < (it.length : Int) := by omega
      go_wp2_with fail
      refine (specFindItem_any _ _ _ it _ _ HIT.out).mono ?_
      rintro e w' ⟨rfl, rfl⟩
      rw [hqn]
      clear hqn f4 f4b hf1 hf2 HIT
      have cA := hA.cellN hal
      rw [HMV.out] at cA
      have cQ := hA.cellN q1
      have hbQ := HM.out.2 qn
      generalize hqv : M.getD qn 0 = qv at *
      have HQV := Lib.hid hqv
      clear hqv
      have hT := timesC_bd mv ls[i].2.2.1 (by omega)
      have hP := plusC_bd qv (timesC mv ls[i].2.2.1)
      generalize hqq : ls[i].2.2.1 = qt at *
      clear hqq
      go_wp2_with fail
      go_still_tail 18, (by kernel_rfl)
      still_call ((l10Times_any _ _ _ (by omega) (by omega)).mono (fun e w' h => ⟨h.1, h.2.symm⟩))
      repeat still_step
      still_call ((l10Plus_any _ _ _ (by omega) (by omega)).mono (fun e w' h => ⟨h.1, h.2.symm⟩))
      repeat still_step
      refine wpStill_nil ?_
      change wpList _ _ _ _ _ wq.drew
      replace hA := hA.keep (Below.refl wq.heap.size wq).drew
      replace hO := hO.keep (Below.refl wq.heap.size wq).drew
      replace hb := hb.drew
      clear cA cQ l0 l1 l2 l3 l4 l5 hbo
      generalize wq.drew = W8 at *
      have cQ := hA.cellN q1
      rw [HQV.out] at cQ
      have fQ := hA.frozen qn
      have hA9 := hA.set qn (plusC qv (timesC mv qt))
      have hO9 := hO.far (p := ⟨w.heap.size, qn, none⟩) (v := .int .i64 (plusC qv (timesC mv qt))) (by show w.heap.size ≠ g8; omega)
      have hb9 : Below w.heap.size w (W8.setCell ⟨w.heap.size, qn, none⟩ (.int .i64 (plusC qv (timesC mv qt)))) := hb.setCell (p := ⟨w.heap.size, qn, none⟩) (Nat.le_refl _) _
      have HM9 : Hid (okNums it.length (M.set qn (plusC qv (timesC mv qt)))) := HM.out.set q1 hP
      go_wp2_with fail
      go_roundw
      case rel => exact ⟨i + 1, M.set qn (plusC qv (timesC mv qt)), by omega, by go_num, hA9, HM9, hO9, hb9⟩
      case measure => simp [intOf]; omega
end Go.Proofs.Ytlkolehdikfddaa
/- Rows of rows of flows: a row of the call's own whose elements are rows of flows, each in a block of its own. -/
namespace Go.Proofs.Ytlkolehdikfddaa
open Go.RowKit
abbrev FlR := Option Addr × Nat × Nat
def slF : Flat FlR := ⟨fun r => [.slice r.1 r.2.1 r.2.2], 1, fun _ => rfl⟩
theorem flowSInfo : (Try.prog.info? 102).map (fun i => (i.zero, i.size, i.bytes)) = some (some (.slice none 0 0), 1, 24) := by kernel_rfl
theorem flowSElem : ElemOk slF 101 102 := by
  obtain ⟨i, h1, h2, h3, h4⟩ := info_parts flowSInfo
  exact ⟨i, _, 24, Try.underlying101, h1, h2, h3, h4, rfl, by decide, by omega⟩
theorem slOne : ∀ (a : FlR), ∀ u ∈ slF.enc a, u.oneCell' = true := by
  intro a u hu
  simp [slF] at hu
  rcases hu with rfl; rfl
/-- The rows that lie in a row of rows. -/
structure FlowsOf (w : World) (lo : Nat) (R : List FlR) (L : List (List Fl)) : Prop where
  len : R.length = L.length
  at_ : ∀ k (h1 : k < R.length) (h2 : k < L.length), OwnRows flF 107 w lo R[k].1 R[k].2.1 R[k].2.2 L[k]
section
variable {w w' : World} {lo : Nat} {R : List FlR} {L : List (List Fl)}
theorem FlowsOf.nil (w : World) (lo : Nat) : FlowsOf w lo [] [] := ⟨rfl, fun k h1 => by simp at h1⟩
theorem FlowsOf.keep (h : FlowsOf w lo R L) (hb : Below w.heap.size w w') : FlowsOf w' lo R L := ⟨h.len, fun k h1 h2 => (h.at_ k h1 h2).keep hb⟩
theorem FlowsOf.grow {lo' : Nat} {v : Value} {Q : List FlR} (h : FlowsOf w lo R L) (hv : RowVal slF 102 w lo' v Q) (hb : ∀ k, k < w.heap.size → v.ownBlock ≠ some k → w'.heap[k]? = w.heap[k]?) : FlowsOf w' lo R L :=
  ⟨h.len, fun k h1 h2 => (h.at_ k h1 h2).grow (by decide) hv hb⟩
theorem FlowsOf.snoc (h : FlowsOf w lo R L) {r : FlR} {l : List Fl} (hl : OwnRows flF 107 w lo r.1 r.2.1 r.2.2 l) : FlowsOf w lo (R ++ [r]) (L ++ [l]) := by
  have hlen := h.len
  refine ⟨by simp [hlen], fun k h1 h2 => ?_⟩
  by_cases hk : k < R.length
  · rw [List.getElem_append_left hk, List.getElem_append_left (by omega)]
    exact h.at_ k hk (by omega)
  · have e : k = R.length := by simp at h1; omega
    have e1 : (R ++ [r])[k] = r := by subst e; simp
    have e2 : (L ++ [l])[k] = l := by
      have e3 : k = L.length := by omega
      subst e3; simp
    rw [e1, e2]; exact hl
theorem FlowsOf.set (h : FlowsOf w lo R L) (k : Nat) {r : FlR} {l : List Fl} (hl : OwnRows flF 107 w lo r.1 r.2.1 r.2.2 l) : FlowsOf w lo (R.set k r) (L.set k l) := by
  refine ⟨by simp [h.len], fun i h1 h2 => ?_⟩
  rw [List.getElem_set, List.getElem_set]
  split
  · exact hl
  · exact h.at_ i (by simpa using h1) (by simpa using h2)
end
theorem sl_edit {w : World} {lo b n c : Nat} {R : List FlR} (h : OwnRows slF 102 w lo (some ⟨b, 0, none⟩) n c R) (k : Nat) (hk : k < R.length) (r : FlR) : OwnRows slF 102 (w.setCell ⟨b, k, none⟩ (.slice r.1 r.2.1 r.2.2)) lo (some ⟨b, 0, none⟩) n c (R.set k r) := by
  have h1 := h.edit k 0 hk (by decide) (.slice r.1 r.2.1 r.2.2) r rfl
  have e : k * slF.sz + 0 = k := by show k * 1 + 0 = k; omega
  rw [e] at h1; exact h1
theorem sl_at {w : World} {lo b n c : Nat} {R : List FlR} (h : OwnRows slF 102 w lo (some ⟨b, 0, none⟩) n c R) (k : Nat) (hk : k < R.length) : w.cell? ⟨b, k, none⟩ = some (.slice R[k].1 R[k].2.1 R[k].2.2) ∧ w.frozen? ⟨b, k, none⟩ = false := by
  have h1 := h.at_cell k 0 hk (.slice R[k].1 R[k].2.1 R[k].2.2) rfl
  have e : k * slF.sz + 0 = k := by show k * 1 + 0 = k; omega
  rw [e] at h1; exact h1
theorem Only.put {w w' : World} {b : Nat} (h : Only b (b + 1) w w') (o : Nat) (v : Value) : Only b (b + 1) w (w'.setCell ⟨b, o, none⟩ v) :=
  ⟨h.os, h.tape, h.output, by have := h.size; simpa using this, fun k hk hn => (heap_setCell_other w' ⟨b, o, none⟩ k v (by show k ≠ b; omega)).trans (h.block k hk hn)⟩
/-- A row of flows within bounds. -/
def okFls (N : Nat) (V : Int) (l : List Fl) : Prop := l.length ≤ N ∧ ∀ f ∈ l, -V ≤ f.2 ∧ f.2 ≤ V
theorem okFls.mono {N M : Nat} {V U : Int} {l : List Fl} (h : okFls N V l) (hN : N ≤ M) (hV : V ≤ U) : okFls M U l := ⟨by have := h.1; omega, fun f hf => by have := h.2 f hf; omega⟩
theorem okFls.add {N : Nat} {V : Int} {l : List Fl} (h : okFls N V l) (d q : Int) (hq : 0 ≤ q ∧ q ≤ 1000000000) (hV : 0 ≤ V) : okFls (N + 1) (V + 1000000000) (addS l d q) := by
  refine ⟨by have := h.1; have := addS_len l d q; omega, fun f hf => ?_⟩
  have := addS_bd l d q (-V) V 0 1000000000 (fun f hf => by have := h.2 f hf; omega) (by omega) (by omega) (by omega) (by omega) (by omega) f hf
  omega
theorem okFls.of_flows {l : List Fl} (h : areFlows l = true) : okFls 1000 1000000000 l := ⟨by have := (areFlows_parts h).2; omega, fun f hf => by have := areFlows_mem h f hf; omega⟩
theorem okFls.of_demands (l : List Dm) (item : ByteArray) : okFls 1000 1000000000 (demandFlows l item) := by
  cases h : areDemands l
  · rw [demandFlows_no h]; exact ⟨by simp, fun f hf => by simp at hf⟩
  · rw [demandFlows_yes h]
    have h1 := demTo_parts l item h l.length (Nat.le_refl _)
    have h2 := areDemands_len h
    exact ⟨by omega, fun f hf => by have := h1.2.2 f hf; omega⟩
theorem all_put {α : Type} {P : α → Prop} {l : List α} (h : ∀ x ∈ l, P x) (k : Nat) {y : α} (hy : P y) : ∀ x ∈ l.set k y, P x := fun x hx => by
  rcases List.mem_or_eq_of_mem_set hx with h1 | h1
  · exact h x h1
  · rw [h1]; exact hy
end Go.Proofs.Ytlkolehdikfddaa
