/- Part 23 of the texts of this claim: How bills of material are drawn. -/
import Derived.Test.YtlkolehdikfddaaTr21
import Derived.Test.YtlkolehdikfddaaTr22
import Derived.Test.YtlkolehdikfddaaTr17
import Derived.Deep.CutRange
/- How bills of material are drawn. -/
namespace Go.Proofs.Ytlkolehdikfddaa
open Go.RowKit
theorem blOne : ∀ (a : BlR), ∀ u ∈ blF.enc a, u.oneCell' = true := by
  intro a u hu
  simp [blF] at hu
  rcases hu with rfl | rfl | rfl | rfl | rfl | rfl <;> rfl
theorem heap_setFrom_other (b k : Nat) (h : b ≠ k) : ∀ (vs : List Value) (o : Nat) (w : World), (setFrom w b o vs).heap[k]? = w.heap[k]?
  | [], _, _ => rfl
  | v :: t, o, w => (heap_setFrom_other b k h t (o + 1) _).trans (heap_setCell_other w ⟨b, o, none⟩ k v (fun e => h e.symm))
theorem below_setFrom {B b : Nat} (hb : B ≤ b) : ∀ (vs : List Value) (o : Nat) (w : World), Below B w (setFrom w b o vs)
  | [], _, w => Below.refl B w
  | v :: t, o, w => ((Below.refl B w).setCell (p := ⟨b, o, none⟩) hb v).trans (below_setFrom hb t (o + 1) _)
/-- Rows of conditions of the call's own. -/
abbrev CondsOwn (w : World) (lo : Nat) (R : List BlR) (l : List Bl) : Prop := BillLineOfs (fun A n x => ∃ c, OwnRows cnF 114 w lo A n c x ∧ x.length ≤ 3) R l
theorem CondsOwn.only {w w' : World} {lo a b : Nat} {R : List BlR} {l : List Bl} (h : CondsOwn w lo R l) (ho : Only a b w w') (hb : b ≤ lo) : CondsOwn w' lo R l := h.imp fun _ _ _ ⟨c, h1, h2⟩ => ⟨c, h1.only ho hb, h2⟩
theorem CondsOwn.keep {w w' : World} {lo : Nat} {R : List BlR} {l : List Bl} (h : CondsOwn w lo R l) (hb : Below w.heap.size w w') : CondsOwn w' lo R l := h.imp fun _ _ _ ⟨c, h1, h2⟩ => ⟨c, h1.keep hb, h2⟩
theorem CondsOwn.grow {w w' : World} {lo lo' : Nat} {v : Value} {Q : List BlR} {R : List BlR} {l : List Bl} (h : CondsOwn w lo R l) (hv : RowVal blF 90 w lo' v Q) (hb : ∀ k, k < w.heap.size → v.ownBlock ≠ some k → w'.heap[k]? = w.heap[k]?) : CondsOwn w' lo R l := h.imp fun _ _ _ ⟨c, h1, h2⟩ => ⟨c, h1.grow (by decide) hv hb, h2⟩
theorem BillLineOfs.set {P : Option Addr → Nat → List Cn → Prop} {R : List BlR} {l : List Bl} {r : BlR} {j : Bl} (h : BillLineOfs P R l) (k : Nat) (hj : BlOf P r j) : BillLineOfs P (R.set k r) (l.set k j) := by
  refine ⟨by simp [h.1], fun i h1 h2 => ?_⟩
  rw [List.getElem_set, List.getElem_set]
  split
  · exact hj
  · exact h.2 i (by simpa using h1) (by simpa using h2)
/-- The ending of a call that draws bills. -/
def DrawnBills (w : World) (base g : Nat) (e : Ending) (w' : World) : Prop := ∃ (l : List Bl) (R : List BlR) (v : Value), e = .returned v ∧ l.length ≤ 9 ∧ (∀ x ∈ l, okBl x) ∧ RowVal blF 90 w' w.heap.size v R ∧ CondsOwn w' w.heap.size R l ∧ CurAt w' base g ∧ Only g (g + 1) w w'
theorem all_snoc {α : Type} {P : α → Prop} {l : List α} {y : α} (h : ∀ x ∈ l, P x) (hy : P y) : ∀ x ∈ l ++ [y], P x := fun x hx => by
  rcases List.mem_append.1 hx with h1 | h1
  · exact h x h1
  · rw [List.mem_singleton.1 h1]; exact hy
set_option maxRecDepth 100000 in
set_option maxHeartbeats 16000000 in
theorem l9Bills_any (A : Option Addr) (n c : Nat) (it : List It) (w : World) (base g : Nat) (hi : ItemsIn w A n it) (hA : ∀ a, A = some a → a.block ≠ g) (hoki : ∀ x ∈ it, okIt x) (h12 : it.length ≤ 12) (hc : CurAt w base g) : Calls Try.prog 54 #[.pointer (some ⟨g, 0, none⟩), .slice A n c] w (DrawnBills w base g) := by
  have hg := hc.lt
  obtain rfl := hi.1
  have HI := Lib.hid hi
  have HA := Lib.hid hA
  have HOKI := Lib.hid hoki
  clear hi hA hoki
  have hs := below_alloc w (.cells #[] 90)
  have hr0 : RowVal blF 90 (w.alloc (.cells #[] 90)) w.heap.size (.slice (some ⟨w.heap.size, 0, none⟩) 0 0) [] := empty_row rfl (Nat.le_refl _)
  have hc0 := hc.keep hs hg
  have H : Only g (g + 1) w (w.alloc (.cells #[] 90)) := Only.of_below hs
  have hst : CondsOwn (w.alloc (.cells #[] 90)) w.heap.size [] [] := ⟨rfl, fun k h1 => by simp at h1⟩
  have hw1 : IntKind.i64.wrap ((it.length : Int) - 1) = (it.length : Int) - 1 := IntWalk.i64_in _ (by omega)
  go_enter Try.func54, Try.ntmps54
  go_wp2_with fail
  generalize w.alloc (.cells #[] 90) = w0 at *
  clear hs hc
  refine (l1Below_any _ _ _ _ (by omega) hc0).mono ?_
  rintro e w1 ⟨m, rfl, ⟨m0, m1⟩, hc1, HO1⟩
  obtain ⟨m, rfl⟩ : ∃ k : Nat, m = (k : Int) := ⟨_, (Int.toNat_of_nonneg m0).symm⟩
  replace hr0 := hr0.only HO1 (by omega)
  replace hst := hst.only HO1 (by omega)
  replace H := H.trans HO1
  clear hc0 HO1
  go_wp2_with fail
  go_loopw [5, 6] (fun v t wr => ∃ (k : Nat) (RR : List BlR) (l : List Bl), t = .int .i64 k ∧ k ≤ 8 ∧ l.length + k ≤ 8 ∧ Hid (∀ x ∈ l, okBl x) ∧ RowVal blF 90 wr w.heap.size v RR ∧ CondsOwn wr w.heap.size RR l ∧ CurAt wr base g ∧ Only g (g + 1) w wr) (fun _ t _ => (intOf t).toNat)
  case atStart => exact ⟨m, [], [], rfl, by omega, by simp; omega, Lib.hid (by simp), hr0, hst, hc1, H⟩
  case round =>
    clear hr0 hst hc1 H
    obtain ⟨k, RR, l, rfl, hk, hlk, HOK, hrow, hst, hcur, H⟩ := hrel
    have hRL := Lib.hid hst.1
    by_cases hgo : 0 < k ∧ 1 < it.length
    case pos =>
      obtain ⟨hk0, h1l⟩ := hgo
      have hk1 : (0 : Int) < (k : Int) := by omega
      have h1i : (1 : Int) < (it.length : Int) := by omega
      go_wp2_with fail
      refine (l1Below_any _ _ _ _ (by omega) hcur).mono ?_
      rintro e w2 ⟨a, rfl, ⟨a0, a1⟩, hc2, HO2⟩
      obtain ⟨a, rfl⟩ : ∃ k : Nat, a = (k : Int) := ⟨_, (Int.toNat_of_nonneg a0).symm⟩
      replace hrow := hrow.only HO2 (by omega)
      replace hst := hst.only HO2 (by omega)
      replace H := H.trans HO2
      clear HO2 hcur
      have hw2 : IntKind.i64.wrap ((it.length : Int) - (a : Int)) = (it.length : Int) - (a : Int) := IntWalk.i64_in _ (by omega)
      have hw3 : IntKind.i64.wrap ((it.length : Int) - (a : Int) - 1) = (it.length : Int) - (a : Int) - 1 := IntWalk.i64_in _ (by omega)
      go_wp2_with fail
      refine (l1Below_any _ _ _ _ (by omega) hc2).mono ?_
      rintro e w3 ⟨d, rfl, ⟨d0, d1⟩, hc3, HO3⟩
      obtain ⟨d, rfl⟩ : ∃ k : Nat, d = (k : Int) := ⟨_, (Int.toNat_of_nonneg d0).symm⟩
      replace hrow := hrow.only HO3 (by omega)
      replace hst := hst.only HO3 (by omega)
      replace H := H.trans HO3
      clear HO3 hc2
      obtain ⟨bb, hbb⟩ : ∃ bb : Nat, (a : Int) + 1 + (d : Int) = (bb : Int) := ⟨a + 1 + d, by omega⟩
      have hw4 : IntKind.i64.wrap ((a : Int) + 1 + (d : Int)) = (bb : Int) := by rw [IntWalk.i64_in _ (by omega)]; exact hbb
      have hal : a < it.length := by omega
      have hbl : bb < it.length := by omega
      have ja : (a : Int) < (it.length : Int) := by omega
      have jb : (bb : Int) < (it.length : Int) := by omega
      have hI3 : ItemsIn w3 A it.length it := RowS.rows HI.out HA.out H
      obtain ⟨ba, oa, hAe, hba, t0, t1, t2, t3, t4, t5, t6, t7⟩ := item_at hI3 hal
      subst hAe
      obtain ⟨_, _, e9, _, s0, s1, s2, s3, s4, s5, s6, s7⟩ := item_at hI3 hbl
      obtain ⟨rfl, rfl⟩ : ba = _ ∧ oa = _ := by simpa using e9
      clear e9 t1 t3 t4 t5 t6 t7 s1 s2 s3 s4 s5 s6 s7 hI3
      have hbg : ba ≠ g := HA.out _ rfl
      have hsa := (HOKI.out _ (List.getElem_mem hal)).1
      have hsb := (HOKI.out _ (List.getElem_mem hbl)).1
      generalize it[a].1 = sa at *
      generalize it[bb].1 = sb at *
      have HW4 := Lib.hid hw4
      have HBB := Lib.hid hbb
      clear hw4 hbb
      go_upto_region 7 with fail
      try rw [HBB.out]
      try rw [HW4.out]
      by_cases hkd : it[a].2.2.1 = 0
      case pos =>
        rw [hkd] at t2
        go_wp2_with fail
        go_roundw
        case rel => exact ⟨k - 1, RR, l, by go_num, by omega, by omega, HOK, hrow, hst, hc3, H⟩
        case measure => simp [intOf]; omega
      have hkd2 : decide (it[a].2.2.1 = 0) = false := decide_eq_false hkd
      obtain ⟨kd, hkd3⟩ : ∃ kd, it[a].2.2.1 = kd := ⟨_, rfl⟩
      rw [hkd3] at t2 hkd hkd2
      clear hkd3
      have hkd4 : (kd == 0) = false := by simp [hkd]
      obtain ⟨A9, c9, rfl, ho9⟩ := hrow.form
      have hrw : RowVal blF 90 w3.drew w.heap.size (.slice A9 RR.length c9) RR := ho9.val
      have hsw : CondsOwn w3.drew w.heap.size RR l := hst
      clear ho9 hrow hst
      have hz3 := H.size
      go_upto_region 8 with fail
      go_cut [9] from 43 to 58 (fun p wx => ∃ (P : Nat) (qq : Int) (lw : List Cn) (Aw : Option Addr) (cw : Nat), p = .pointer (some ⟨P, 0, none⟩) ∧ w.heap.size ≤ P ∧ (Value.slice A9 RR.length c9).ownBlock ≠ some P ∧ OwnRows blF 90 wx w.heap.size (some ⟨P, 0, none⟩) 1 1 [(sa, sb, qq, 0, 999, (Aw, lw.length, cw))] ∧ OwnRows cnF 114 wx w.heap.size Aw lw.length cw lw ∧ lw.length ≤ 3 ∧ Hid (∀ x ∈ lw, okCn x) ∧ RowVal blF 90 wx w.heap.size (.slice A9 RR.length c9) RR ∧ CondsOwn wx w.heap.size RR l ∧ CurAt wx base g ∧ Only g (g + 1) w wx)
      case first =>
        refine wp_region_held_drew (S := fun w' => (CurAt w' base g ∧ Only g (g + 1) w w') ∧ (w'.cell? ⟨ba, oa + a * 8, none⟩ = some (.string sa) ∧ w'.cell? ⟨ba, oa + bb * 8, none⟩ = some (.string sb) ∧ ba < w'.heap.size)) (by kernel_rfl) (⟨⟨hc3, only_drewN H 1⟩, t0, s0, hba⟩) (fun hHeld => ?_)
        refine held1 0 (some 43) hHeld ?_
        refine held1 1 (some 44) hHeld ?_
        refine held1 2 (some 45) hHeld ?_
        refine held1 3 (some 46) hHeld ?_
        refine held1 4 (some 47) hHeld ?_
        refine held1 5 (some 48) hHeld ?_
        refine held1 6 (some 49) hHeld ?_
        refine held1 7 (some 50) hHeld ?_
        refine held1 8 (some 51) hHeld ?_
        refine held1 9 (some 52) hHeld ?_
        refine held1 10 (some 53) hHeld ?_
        refine held1 13 (some 56) hHeld ?_
        refine wpAnyH_ready (rs := [11, 16]) (by kernel_rfl) (by simp) ?_
        refine AllReadyH.cons rfl (fun K hK => ?_) (AllReadyH.cons rfl (fun K hK => ?_) (AllReadyH.nil))
        · skip
          go_simp
          go_at_call 35
          refine (l1Below_any _ _ _ _ (by omega) hHeld.1.1).mono ?_
          rintro e wp ⟨qa, rfl, ⟨qa0, qa1⟩, hcp, HOp⟩
          have hwq : IntKind.i64.wrap (1 + qa) = 1 + qa := IntWalk.i64_in _ (by omega)
          replace hrw := hrw.only HOp (by omega)
          replace hsw := hsw.only HOp (by omega)
          go_simp
          refine hK.out _ _ (⟨⟨hcp, hHeld.1.2.trans HOp⟩, only_cell HOp hHeld.2.2.2 hbg hHeld.2.1, only_cell HOp hHeld.2.2.2 hbg hHeld.2.2.1, Nat.lt_of_lt_of_le hHeld.2.2.2 HOp.size⟩) (fun hHeld => ?_)
          clear hK K
          refine held1 12 (some 55) hHeld ?_
          refine wpAnyH_ready (rs := [14, 16]) (by kernel_rfl) (by simp) ?_
          refine AllReadyH.cons rfl (fun K hK => ?_) (AllReadyH.cons rfl (fun K hK => ?_) (AllReadyH.nil))
          · skip
            go_simp
            have hzq := hHeld.1.2.size
            go_at_call 73
            refine (l9When_any _ _ _ hHeld.1.1).mono ?_
            rintro e wp2 ⟨lw, vw, rfl, hlw3, hlwok, hlw, hcp, HOp⟩
            replace hlw := hlw.low hzq
            obtain ⟨Aw, cw, rfl, hlwo⟩ := hlw.form
            have hlw9 := hlwo
            clear hlw hlwo
            replace hrw := hrw.only HOp (by omega)
            replace hsw := hsw.only HOp (by omega)
            go_simp
            refine hK.out _ _ (⟨⟨hcp, hHeld.1.2.trans HOp⟩, only_cell HOp hHeld.2.2.2 hbg hHeld.2.1, only_cell HOp hHeld.2.2.2 hbg hHeld.2.2.1, Nat.lt_of_lt_of_le hHeld.2.2.2 HOp.size⟩) (fun hHeld => ?_)
            clear hK K
            refine held1 15 (some 58) hHeld ?_
            refine held_do 16 fun K hK => ?_
            have hzb : w.heap.size ≤ wp2.heap.size := hHeld.1.2.size
            have hbaP : ba < wp2.heap.size := hHeld.2.2.2
            go_simp
            refine hK.out _ _ (⟨⟨hHeld.1.1.keep (below_alloc _ (.cells #[.string ⟨#[]⟩, .string ⟨#[]⟩, .int .i64 0, .int .i64 0, .int .i64 0, .slice none 0 0] 90)) hHeld.1.1.lt, hHeld.1.2.trans (Only.of_below (below_alloc _ (.cells #[.string ⟨#[]⟩, .string ⟨#[]⟩, .int .i64 0, .int .i64 0, .int .i64 0, .slice none 0 0] 90)))⟩, alloc_cell hHeld.2.1 (.cells #[.string ⟨#[]⟩, .string ⟨#[]⟩, .int .i64 0, .int .i64 0, .int .i64 0, .slice none 0 0] 90), alloc_cell hHeld.2.2.1 (.cells #[.string ⟨#[]⟩, .string ⟨#[]⟩, .int .i64 0, .int .i64 0, .int .i64 0, .slice none 0 0] 90), by have := hHeld.2.2.2; simp at this ⊢; omega⟩) (fun hHeld => ?_)
            clear hK K
            try simp only [Act.put, List.setIfInBounds_toArray, List.set_cons_zero, List.set_cons_succ]
            have hbox : RowVal blF 90 ((wp2).alloc (.cells #[.string ⟨#[]⟩, .string ⟨#[]⟩, .int .i64 0, .int .i64 0, .int .i64 0, .slice none 0 0] 90)) w.heap.size (.slice (some ⟨wp2.heap.size, 0, none⟩) 1 1) [((⟨#[]⟩, ⟨#[]⟩, 0, 0, 0, (none, 0, 0)) : BlR)] := lit_one blElem rfl #[.string ⟨#[]⟩, .string ⟨#[]⟩, .int .i64 0, .int .i64 0, .int .i64 0, .slice none 0 0] ((⟨#[]⟩, ⟨#[]⟩, 0, 0, 0, (none, 0, 0)) : BlR) rfl hzb
            have hvP : (Value.slice A9 RR.length c9).ownBlock ≠ some (wp2.heap.size) := fun e => Nat.lt_irrefl _ (RowVal.blt hrw _ e)
            replace hrw := hrw.alloc (.cells #[.string ⟨#[]⟩, .string ⟨#[]⟩, .int .i64 0, .int .i64 0, .int .i64 0, .slice none 0 0] 90)
            replace hsw := hsw.keep (below_alloc _ (.cells #[.string ⟨#[]⟩, .string ⟨#[]⟩, .int .i64 0, .int .i64 0, .int .i64 0, .slice none 0 0] 90))
            replace hlw9 := hlw9.keep (below_alloc _ (.cells #[.string ⟨#[]⟩, .string ⟨#[]⟩, .int .i64 0, .int .i64 0, .int .i64 0, .slice none 0 0] 90))
            generalize wp2.alloc (.cells #[.string ⟨#[]⟩, .string ⟨#[]⟩, .int .i64 0, .int .i64 0, .int .i64 0, .slice none 0 0] 90) = wS at *
            refine held_do 17 fun K hK => ?_
            have hbo := hbox.own_n rfl
            obtain ⟨z0, f0⟩ : (wS).cell? ⟨wp2.heap.size, 0, none⟩ = some (.string ⟨#[]⟩) ∧ (wS).frozen? ⟨wp2.heap.size, 0, none⟩ = false := hbo.at_cell 0 0 (by simp) _ rfl
            obtain ⟨z1, f1⟩ : (wS).cell? ⟨wp2.heap.size, 1, none⟩ = some (.string ⟨#[]⟩) ∧ (wS).frozen? ⟨wp2.heap.size, 1, none⟩ = false := hbo.at_cell 0 1 (by simp) _ rfl
            obtain ⟨z2, f2⟩ : (wS).cell? ⟨wp2.heap.size, 2, none⟩ = some (.int .i64 0) ∧ (wS).frozen? ⟨wp2.heap.size, 2, none⟩ = false := hbo.at_cell 0 2 (by simp) _ rfl
            obtain ⟨z3, f3⟩ : (wS).cell? ⟨wp2.heap.size, 3, none⟩ = some (.int .i64 0) ∧ (wS).frozen? ⟨wp2.heap.size, 3, none⟩ = false := hbo.at_cell 0 3 (by simp) _ rfl
            obtain ⟨z4, f4⟩ : (wS).cell? ⟨wp2.heap.size, 4, none⟩ = some (.int .i64 0) ∧ (wS).frozen? ⟨wp2.heap.size, 4, none⟩ = false := hbo.at_cell 0 4 (by simp) _ rfl
            obtain ⟨z5, f5⟩ : (wS).cell? ⟨wp2.heap.size, 5, none⟩ = some (.slice none 0 0) ∧ (wS).frozen? ⟨wp2.heap.size, 5, none⟩ = false := hbo.at_cell 0 5 (by simp) _ rfl
            have hPl : w.heap.size ≤ wp2.heap.size := hzb
            have hbP : ba < wp2.heap.size := hbaP
            have HBs : Below (wp2.heap.size) (wS) ((((((wS.setCell ⟨wp2.heap.size, 0, none⟩ (.string sa)).setCell ⟨wp2.heap.size, 1, none⟩ (.string sb)).setCell ⟨wp2.heap.size, 2, none⟩ (.int .i64 (1 + qa))).setCell ⟨wp2.heap.size, 3, none⟩ (.int .i64 0)).setCell ⟨wp2.heap.size, 4, none⟩ (.int .i64 999)).setCell ⟨wp2.heap.size, 5, none⟩ (.slice Aw lw.length cw)) := below_setFrom (B := wp2.heap.size) (b := wp2.heap.size) (Nat.le_refl _) [.string sa, .string sb, .int .i64 (1 + qa), .int .i64 0, .int .i64 999, .slice Aw lw.length cw] 0 wS
            have hbox2 : OwnRows blF 90 ((((((wS.setCell ⟨wp2.heap.size, 0, none⟩ (.string sa)).setCell ⟨wp2.heap.size, 1, none⟩ (.string sb)).setCell ⟨wp2.heap.size, 2, none⟩ (.int .i64 (1 + qa))).setCell ⟨wp2.heap.size, 3, none⟩ (.int .i64 0)).setCell ⟨wp2.heap.size, 4, none⟩ (.int .i64 999)).setCell ⟨wp2.heap.size, 5, none⟩ (.slice Aw lw.length cw)) w.heap.size (some ⟨wp2.heap.size, 0, none⟩) 1 1 [(sa, sb, 1 + qa, 0, 999, (Aw, lw.length, cw))] := hbo.put 0 (by simp) (sa, sb, 1 + qa, 0, 999, (Aw, lw.length, cw)) 0 rfl [.string sa, .string sb, .int .i64 (1 + qa), .int .i64 0, .int .i64 999, .slice Aw lw.length cw] rfl
            have hoth : ∀ k, k ≠ wp2.heap.size → ((((((wS.setCell ⟨wp2.heap.size, 0, none⟩ (.string sa)).setCell ⟨wp2.heap.size, 1, none⟩ (.string sb)).setCell ⟨wp2.heap.size, 2, none⟩ (.int .i64 (1 + qa))).setCell ⟨wp2.heap.size, 3, none⟩ (.int .i64 0)).setCell ⟨wp2.heap.size, 4, none⟩ (.int .i64 999)).setCell ⟨wp2.heap.size, 5, none⟩ (.slice Aw lw.length cw)).heap[k]? = (wS).heap[k]? := fun k hk => heap_setFrom_other (wp2.heap.size) k (Ne.symm hk) [.string sa, .string sb, .int .i64 (1 + qa), .int .i64 0, .int .i64 999, .slice Aw lw.length cw] 0 (wS)
            have hrw2 := hrw.blk (w' := ((((((wS.setCell ⟨wp2.heap.size, 0, none⟩ (.string sa)).setCell ⟨wp2.heap.size, 1, none⟩ (.string sb)).setCell ⟨wp2.heap.size, 2, none⟩ (.int .i64 (1 + qa))).setCell ⟨wp2.heap.size, 3, none⟩ (.int .i64 0)).setCell ⟨wp2.heap.size, 4, none⟩ (.int .i64 999)).setCell ⟨wp2.heap.size, 5, none⟩ (.slice Aw lw.length cw))) (fun g9 hg9 _ => hoth g9 (fun e => hvP (by rw [← e]; exact hg9)))
            have hsw2 := hsw.grow (w' := ((((((wS.setCell ⟨wp2.heap.size, 0, none⟩ (.string sa)).setCell ⟨wp2.heap.size, 1, none⟩ (.string sb)).setCell ⟨wp2.heap.size, 2, none⟩ (.int .i64 (1 + qa))).setCell ⟨wp2.heap.size, 3, none⟩ (.int .i64 0)).setCell ⟨wp2.heap.size, 4, none⟩ (.int .i64 999)).setCell ⟨wp2.heap.size, 5, none⟩ (.slice Aw lw.length cw))) hbox (fun k _ hne => hoth k (fun e => hne (by rw [e]; rfl)))
            have hlw2 := hlw9.grow (w' := ((((((wS.setCell ⟨wp2.heap.size, 0, none⟩ (.string sa)).setCell ⟨wp2.heap.size, 1, none⟩ (.string sb)).setCell ⟨wp2.heap.size, 2, none⟩ (.int .i64 (1 + qa))).setCell ⟨wp2.heap.size, 3, none⟩ (.int .i64 0)).setCell ⟨wp2.heap.size, 4, none⟩ (.int .i64 999)).setCell ⟨wp2.heap.size, 5, none⟩ (.slice Aw lw.length cw))) (by decide) hbox (fun k _ hne => hoth k (fun e => hne (by rw [e]; rfl)))
            clear hbox hbo hrw hsw hlw9 hoth
            go_simp
            refine hK.out _ _ (⟨⟨hHeld.1.1.keep HBs (by omega), only_below hHeld.1.2 (HBs.mono hPl)⟩, (HBs.cell (p := ⟨ba, oa + a * 8, none⟩) hbP).trans hHeld.2.1, (HBs.cell (p := ⟨ba, oa + bb * 8, none⟩) hbP).trans hHeld.2.2.1, Nat.lt_of_lt_of_le hHeld.2.2.2 HBs.size⟩) (fun hHeld => ?_)
            clear hK K
            try simp only [Act.put, List.setIfInBounds_toArray, List.set_cons_zero, List.set_cons_succ]
            refine wpAnyH_done (by kernel_rfl) ?_ _
            go_wp2_with fail
            go_meet
            case rel => exact ⟨_, _, lw, Aw, cw, rfl, hPl, hvP, hbox2, hlw2, hlw3, Lib.hid hlwok, hrw2, hsw2, hHeld.1.1, hHeld.1.2⟩
          · skip
            have hzb : w.heap.size ≤ wp.heap.size := hHeld.1.2.size
            have hbaP : ba < wp.heap.size := hHeld.2.2.2
            go_simp
            refine hK.out _ _ (⟨⟨hHeld.1.1.keep (below_alloc _ (.cells #[.string ⟨#[]⟩, .string ⟨#[]⟩, .int .i64 0, .int .i64 0, .int .i64 0, .slice none 0 0] 90)) hHeld.1.1.lt, hHeld.1.2.trans (Only.of_below (below_alloc _ (.cells #[.string ⟨#[]⟩, .string ⟨#[]⟩, .int .i64 0, .int .i64 0, .int .i64 0, .slice none 0 0] 90)))⟩, alloc_cell hHeld.2.1 (.cells #[.string ⟨#[]⟩, .string ⟨#[]⟩, .int .i64 0, .int .i64 0, .int .i64 0, .slice none 0 0] 90), alloc_cell hHeld.2.2.1 (.cells #[.string ⟨#[]⟩, .string ⟨#[]⟩, .int .i64 0, .int .i64 0, .int .i64 0, .slice none 0 0] 90), by have := hHeld.2.2.2; simp at this ⊢; omega⟩) (fun hHeld => ?_)
            clear hK K
            try simp only [Act.put, List.setIfInBounds_toArray, List.set_cons_zero, List.set_cons_succ]
            have hbox : RowVal blF 90 ((wp).alloc (.cells #[.string ⟨#[]⟩, .string ⟨#[]⟩, .int .i64 0, .int .i64 0, .int .i64 0, .slice none 0 0] 90)) w.heap.size (.slice (some ⟨wp.heap.size, 0, none⟩) 1 1) [((⟨#[]⟩, ⟨#[]⟩, 0, 0, 0, (none, 0, 0)) : BlR)] := lit_one blElem rfl #[.string ⟨#[]⟩, .string ⟨#[]⟩, .int .i64 0, .int .i64 0, .int .i64 0, .slice none 0 0] ((⟨#[]⟩, ⟨#[]⟩, 0, 0, 0, (none, 0, 0)) : BlR) rfl hzb
            have hvP : (Value.slice A9 RR.length c9).ownBlock ≠ some (wp.heap.size) := fun e => Nat.lt_irrefl _ (RowVal.blt hrw _ e)
            replace hrw := hrw.alloc (.cells #[.string ⟨#[]⟩, .string ⟨#[]⟩, .int .i64 0, .int .i64 0, .int .i64 0, .slice none 0 0] 90)
            replace hsw := hsw.keep (below_alloc _ (.cells #[.string ⟨#[]⟩, .string ⟨#[]⟩, .int .i64 0, .int .i64 0, .int .i64 0, .slice none 0 0] 90))
            refine held_do 14 fun K hK => ?_
            go_simp
            have hzq := hHeld.1.2.size
            go_at_call 73
            refine (l9When_any _ _ _ hHeld.1.1).mono ?_
            rintro e wp2 ⟨lw, vw, rfl, hlw3, hlwok, hlw, hcp, HOp⟩
            replace hlw := hlw.low hzq
            obtain ⟨Aw, cw, rfl, hlwo⟩ := hlw.form
            have hlw9 := hlwo
            clear hlw hlwo
            replace hrw := hrw.only HOp (by omega)
            replace hsw := hsw.only HOp (by omega)
            replace hbox := hbox.only HOp (by omega)
            go_simp
            refine hK.out _ _ (⟨⟨hcp, hHeld.1.2.trans HOp⟩, only_cell HOp hHeld.2.2.2 hbg hHeld.2.1, only_cell HOp hHeld.2.2.2 hbg hHeld.2.2.1, Nat.lt_of_lt_of_le hHeld.2.2.2 HOp.size⟩) (fun hHeld => ?_)
            clear hK K
            refine held1 15 (some 58) hHeld ?_
            refine held_do 17 fun K hK => ?_
            have hbo := hbox.own_n rfl
            obtain ⟨z0, f0⟩ : (wp2).cell? ⟨wp.heap.size, 0, none⟩ = some (.string ⟨#[]⟩) ∧ (wp2).frozen? ⟨wp.heap.size, 0, none⟩ = false := hbo.at_cell 0 0 (by simp) _ rfl
            obtain ⟨z1, f1⟩ : (wp2).cell? ⟨wp.heap.size, 1, none⟩ = some (.string ⟨#[]⟩) ∧ (wp2).frozen? ⟨wp.heap.size, 1, none⟩ = false := hbo.at_cell 0 1 (by simp) _ rfl
            obtain ⟨z2, f2⟩ : (wp2).cell? ⟨wp.heap.size, 2, none⟩ = some (.int .i64 0) ∧ (wp2).frozen? ⟨wp.heap.size, 2, none⟩ = false := hbo.at_cell 0 2 (by simp) _ rfl
            obtain ⟨z3, f3⟩ : (wp2).cell? ⟨wp.heap.size, 3, none⟩ = some (.int .i64 0) ∧ (wp2).frozen? ⟨wp.heap.size, 3, none⟩ = false := hbo.at_cell 0 3 (by simp) _ rfl
            obtain ⟨z4, f4⟩ : (wp2).cell? ⟨wp.heap.size, 4, none⟩ = some (.int .i64 0) ∧ (wp2).frozen? ⟨wp.heap.size, 4, none⟩ = false := hbo.at_cell 0 4 (by simp) _ rfl
            obtain ⟨z5, f5⟩ : (wp2).cell? ⟨wp.heap.size, 5, none⟩ = some (.slice none 0 0) ∧ (wp2).frozen? ⟨wp.heap.size, 5, none⟩ = false := hbo.at_cell 0 5 (by simp) _ rfl
            have hPl : w.heap.size ≤ wp.heap.size := hzb
            have hbP : ba < wp.heap.size := hbaP
            have HBs : Below (wp.heap.size) (wp2) ((((((wp2.setCell ⟨wp.heap.size, 0, none⟩ (.string sa)).setCell ⟨wp.heap.size, 1, none⟩ (.string sb)).setCell ⟨wp.heap.size, 2, none⟩ (.int .i64 (1 + qa))).setCell ⟨wp.heap.size, 3, none⟩ (.int .i64 0)).setCell ⟨wp.heap.size, 4, none⟩ (.int .i64 999)).setCell ⟨wp.heap.size, 5, none⟩ (.slice Aw lw.length cw)) := below_setFrom (B := wp.heap.size) (b := wp.heap.size) (Nat.le_refl _) [.string sa, .string sb, .int .i64 (1 + qa), .int .i64 0, .int .i64 999, .slice Aw lw.length cw] 0 wp2
            have hbox2 : OwnRows blF 90 ((((((wp2.setCell ⟨wp.heap.size, 0, none⟩ (.string sa)).setCell ⟨wp.heap.size, 1, none⟩ (.string sb)).setCell ⟨wp.heap.size, 2, none⟩ (.int .i64 (1 + qa))).setCell ⟨wp.heap.size, 3, none⟩ (.int .i64 0)).setCell ⟨wp.heap.size, 4, none⟩ (.int .i64 999)).setCell ⟨wp.heap.size, 5, none⟩ (.slice Aw lw.length cw)) w.heap.size (some ⟨wp.heap.size, 0, none⟩) 1 1 [(sa, sb, 1 + qa, 0, 999, (Aw, lw.length, cw))] := hbo.put 0 (by simp) (sa, sb, 1 + qa, 0, 999, (Aw, lw.length, cw)) 0 rfl [.string sa, .string sb, .int .i64 (1 + qa), .int .i64 0, .int .i64 999, .slice Aw lw.length cw] rfl
            have hoth : ∀ k, k ≠ wp.heap.size → ((((((wp2.setCell ⟨wp.heap.size, 0, none⟩ (.string sa)).setCell ⟨wp.heap.size, 1, none⟩ (.string sb)).setCell ⟨wp.heap.size, 2, none⟩ (.int .i64 (1 + qa))).setCell ⟨wp.heap.size, 3, none⟩ (.int .i64 0)).setCell ⟨wp.heap.size, 4, none⟩ (.int .i64 999)).setCell ⟨wp.heap.size, 5, none⟩ (.slice Aw lw.length cw)).heap[k]? = (wp2).heap[k]? := fun k hk => heap_setFrom_other (wp.heap.size) k (Ne.symm hk) [.string sa, .string sb, .int .i64 (1 + qa), .int .i64 0, .int .i64 999, .slice Aw lw.length cw] 0 (wp2)
            have hrw2 := hrw.blk (w' := ((((((wp2.setCell ⟨wp.heap.size, 0, none⟩ (.string sa)).setCell ⟨wp.heap.size, 1, none⟩ (.string sb)).setCell ⟨wp.heap.size, 2, none⟩ (.int .i64 (1 + qa))).setCell ⟨wp.heap.size, 3, none⟩ (.int .i64 0)).setCell ⟨wp.heap.size, 4, none⟩ (.int .i64 999)).setCell ⟨wp.heap.size, 5, none⟩ (.slice Aw lw.length cw))) (fun g9 hg9 _ => hoth g9 (fun e => hvP (by rw [← e]; exact hg9)))
            have hsw2 := hsw.grow (w' := ((((((wp2.setCell ⟨wp.heap.size, 0, none⟩ (.string sa)).setCell ⟨wp.heap.size, 1, none⟩ (.string sb)).setCell ⟨wp.heap.size, 2, none⟩ (.int .i64 (1 + qa))).setCell ⟨wp.heap.size, 3, none⟩ (.int .i64 0)).setCell ⟨wp.heap.size, 4, none⟩ (.int .i64 999)).setCell ⟨wp.heap.size, 5, none⟩ (.slice Aw lw.length cw))) hbox (fun k _ hne => hoth k (fun e => hne (by rw [e]; rfl)))
            have hlw2 := hlw9.grow (w' := ((((((wp2.setCell ⟨wp.heap.size, 0, none⟩ (.string sa)).setCell ⟨wp.heap.size, 1, none⟩ (.string sb)).setCell ⟨wp.heap.size, 2, none⟩ (.int .i64 (1 + qa))).setCell ⟨wp.heap.size, 3, none⟩ (.int .i64 0)).setCell ⟨wp.heap.size, 4, none⟩ (.int .i64 999)).setCell ⟨wp.heap.size, 5, none⟩ (.slice Aw lw.length cw))) (by decide) hbox (fun k _ hne => hoth k (fun e => hne (by rw [e]; rfl)))
            clear hbox hbo hrw hsw hlw9 hoth
            go_simp
            refine hK.out _ _ (⟨⟨hHeld.1.1.keep HBs (by omega), only_below hHeld.1.2 (HBs.mono hPl)⟩, (HBs.cell (p := ⟨ba, oa + a * 8, none⟩) hbP).trans hHeld.2.1, (HBs.cell (p := ⟨ba, oa + bb * 8, none⟩) hbP).trans hHeld.2.2.1, Nat.lt_of_lt_of_le hHeld.2.2.2 HBs.size⟩) (fun hHeld => ?_)
            clear hK K
            try simp only [Act.put, List.setIfInBounds_toArray, List.set_cons_zero, List.set_cons_succ]
            refine wpAnyH_done (by kernel_rfl) ?_ _
            go_wp2_with fail
            go_meet
            case rel => exact ⟨_, _, lw, Aw, cw, rfl, hPl, hvP, hbox2, hlw2, hlw3, Lib.hid hlwok, hrw2, hsw2, hHeld.1.1, hHeld.1.2⟩
        · skip
          have hzb : w.heap.size ≤ w3.heap.size := hHeld.1.2.size
          have hbaP : ba < w3.heap.size := hHeld.2.2.2
          go_simp
          refine hK.out _ _ (⟨⟨hHeld.1.1.keep (below_alloc _ (.cells #[.string ⟨#[]⟩, .string ⟨#[]⟩, .int .i64 0, .int .i64 0, .int .i64 0, .slice none 0 0] 90)) hHeld.1.1.lt, hHeld.1.2.trans (Only.of_below (below_alloc _ (.cells #[.string ⟨#[]⟩, .string ⟨#[]⟩, .int .i64 0, .int .i64 0, .int .i64 0, .slice none 0 0] 90)))⟩, alloc_cell hHeld.2.1 (.cells #[.string ⟨#[]⟩, .string ⟨#[]⟩, .int .i64 0, .int .i64 0, .int .i64 0, .slice none 0 0] 90), alloc_cell hHeld.2.2.1 (.cells #[.string ⟨#[]⟩, .string ⟨#[]⟩, .int .i64 0, .int .i64 0, .int .i64 0, .slice none 0 0] 90), by have := hHeld.2.2.2; simp at this ⊢; omega⟩) (fun hHeld => ?_)
          clear hK K
          try simp only [Act.put, List.setIfInBounds_toArray, List.set_cons_zero, List.set_cons_succ]
          have hbox : RowVal blF 90 ((w3.drew).alloc (.cells #[.string ⟨#[]⟩, .string ⟨#[]⟩, .int .i64 0, .int .i64 0, .int .i64 0, .slice none 0 0] 90)) w.heap.size (.slice (some ⟨w3.heap.size, 0, none⟩) 1 1) [((⟨#[]⟩, ⟨#[]⟩, 0, 0, 0, (none, 0, 0)) : BlR)] := lit_one blElem rfl #[.string ⟨#[]⟩, .string ⟨#[]⟩, .int .i64 0, .int .i64 0, .int .i64 0, .slice none 0 0] ((⟨#[]⟩, ⟨#[]⟩, 0, 0, 0, (none, 0, 0)) : BlR) rfl hzb
          have hvP : (Value.slice A9 RR.length c9).ownBlock ≠ some (w3.heap.size) := fun e => Nat.lt_irrefl _ (RowVal.blt hrw _ e)
          replace hrw := hrw.alloc (.cells #[.string ⟨#[]⟩, .string ⟨#[]⟩, .int .i64 0, .int .i64 0, .int .i64 0, .slice none 0 0] 90)
          replace hsw := hsw.keep (below_alloc _ (.cells #[.string ⟨#[]⟩, .string ⟨#[]⟩, .int .i64 0, .int .i64 0, .int .i64 0, .slice none 0 0] 90))
          refine held_do 11 fun K hK => ?_
          go_simp
          go_at_call 35
          refine (l1Below_any _ _ _ _ (by omega) hHeld.1.1).mono ?_
          rintro e wp ⟨qa, rfl, ⟨qa0, qa1⟩, hcp, HOp⟩
          have hwq : IntKind.i64.wrap (1 + qa) = 1 + qa := IntWalk.i64_in _ (by omega)
          replace hrw := hrw.only HOp (by omega)
          replace hsw := hsw.only HOp (by omega)
          replace hbox := hbox.only HOp (by omega)
          go_simp
          refine hK.out _ _ (⟨⟨hcp, hHeld.1.2.trans HOp⟩, only_cell HOp hHeld.2.2.2 hbg hHeld.2.1, only_cell HOp hHeld.2.2.2 hbg hHeld.2.2.1, Nat.lt_of_lt_of_le hHeld.2.2.2 HOp.size⟩) (fun hHeld => ?_)
          clear hK K
          refine held1 12 (some 55) hHeld ?_
          refine held_do 14 fun K hK => ?_
          go_simp
          have hzq := hHeld.1.2.size
          go_at_call 73
          refine (l9When_any _ _ _ hHeld.1.1).mono ?_
          rintro e wp2 ⟨lw, vw, rfl, hlw3, hlwok, hlw, hcp, HOp⟩
          replace hlw := hlw.low hzq
          obtain ⟨Aw, cw, rfl, hlwo⟩ := hlw.form
          have hlw9 := hlwo
          clear hlw hlwo
          replace hrw := hrw.only HOp (by omega)
          replace hsw := hsw.only HOp (by omega)
          replace hbox := hbox.only HOp (by omega)
          go_simp
          refine hK.out _ _ (⟨⟨hcp, hHeld.1.2.trans HOp⟩, only_cell HOp hHeld.2.2.2 hbg hHeld.2.1, only_cell HOp hHeld.2.2.2 hbg hHeld.2.2.1, Nat.lt_of_lt_of_le hHeld.2.2.2 HOp.size⟩) (fun hHeld => ?_)
          clear hK K
          refine held1 15 (some 58) hHeld ?_
          refine held_do 17 fun K hK => ?_
          have hbo := hbox.own_n rfl
          obtain ⟨z0, f0⟩ : (wp2).cell? ⟨w3.heap.size, 0, none⟩ = some (.string ⟨#[]⟩) ∧ (wp2).frozen? ⟨w3.heap.size, 0, none⟩ = false := hbo.at_cell 0 0 (by simp) _ rfl
          obtain ⟨z1, f1⟩ : (wp2).cell? ⟨w3.heap.size, 1, none⟩ = some (.string ⟨#[]⟩) ∧ (wp2).frozen? ⟨w3.heap.size, 1, none⟩ = false := hbo.at_cell 0 1 (by simp) _ rfl
          obtain ⟨z2, f2⟩ : (wp2).cell? ⟨w3.heap.size, 2, none⟩ = some (.int .i64 0) ∧ (wp2).frozen? ⟨w3.heap.size, 2, none⟩ = false := hbo.at_cell 0 2 (by simp) _ rfl
          obtain ⟨z3, f3⟩ : (wp2).cell? ⟨w3.heap.size, 3, none⟩ = some (.int .i64 0) ∧ (wp2).frozen? ⟨w3.heap.size, 3, none⟩ = false := hbo.at_cell 0 3 (by simp) _ rfl
          obtain ⟨z4, f4⟩ : (wp2).cell? ⟨w3.heap.size, 4, none⟩ = some (.int .i64 0) ∧ (wp2).frozen? ⟨w3.heap.size, 4, none⟩ = false := hbo.at_cell 0 4 (by simp) _ rfl
          obtain ⟨z5, f5⟩ : (wp2).cell? ⟨w3.heap.size, 5, none⟩ = some (.slice none 0 0) ∧ (wp2).frozen? ⟨w3.heap.size, 5, none⟩ = false := hbo.at_cell 0 5 (by simp) _ rfl
          have hPl : w.heap.size ≤ w3.heap.size := hzb
          have hbP : ba < w3.heap.size := hbaP
          have HBs : Below (w3.heap.size) (wp2) ((((((wp2.setCell ⟨w3.heap.size, 0, none⟩ (.string sa)).setCell ⟨w3.heap.size, 1, none⟩ (.string sb)).setCell ⟨w3.heap.size, 2, none⟩ (.int .i64 (1 + qa))).setCell ⟨w3.heap.size, 3, none⟩ (.int .i64 0)).setCell ⟨w3.heap.size, 4, none⟩ (.int .i64 999)).setCell ⟨w3.heap.size, 5, none⟩ (.slice Aw lw.length cw)) := below_setFrom (B := w3.heap.size) (b := w3.heap.size) (Nat.le_refl _) [.string sa, .string sb, .int .i64 (1 + qa), .int .i64 0, .int .i64 999, .slice Aw lw.length cw] 0 wp2
          have hbox2 : OwnRows blF 90 ((((((wp2.setCell ⟨w3.heap.size, 0, none⟩ (.string sa)).setCell ⟨w3.heap.size, 1, none⟩ (.string sb)).setCell ⟨w3.heap.size, 2, none⟩ (.int .i64 (1 + qa))).setCell ⟨w3.heap.size, 3, none⟩ (.int .i64 0)).setCell ⟨w3.heap.size, 4, none⟩ (.int .i64 999)).setCell ⟨w3.heap.size, 5, none⟩ (.slice Aw lw.length cw)) w.heap.size (some ⟨w3.heap.size, 0, none⟩) 1 1 [(sa, sb, 1 + qa, 0, 999, (Aw, lw.length, cw))] := hbo.put 0 (by simp) (sa, sb, 1 + qa, 0, 999, (Aw, lw.length, cw)) 0 rfl [.string sa, .string sb, .int .i64 (1 + qa), .int .i64 0, .int .i64 999, .slice Aw lw.length cw] rfl
          have hoth : ∀ k, k ≠ w3.heap.size → ((((((wp2.setCell ⟨w3.heap.size, 0, none⟩ (.string sa)).setCell ⟨w3.heap.size, 1, none⟩ (.string sb)).setCell ⟨w3.heap.size, 2, none⟩ (.int .i64 (1 + qa))).setCell ⟨w3.heap.size, 3, none⟩ (.int .i64 0)).setCell ⟨w3.heap.size, 4, none⟩ (.int .i64 999)).setCell ⟨w3.heap.size, 5, none⟩ (.slice Aw lw.length cw)).heap[k]? = (wp2).heap[k]? := fun k hk => heap_setFrom_other (w3.heap.size) k (Ne.symm hk) [.string sa, .string sb, .int .i64 (1 + qa), .int .i64 0, .int .i64 999, .slice Aw lw.length cw] 0 (wp2)
          have hrw2 := hrw.blk (w' := ((((((wp2.setCell ⟨w3.heap.size, 0, none⟩ (.string sa)).setCell ⟨w3.heap.size, 1, none⟩ (.string sb)).setCell ⟨w3.heap.size, 2, none⟩ (.int .i64 (1 + qa))).setCell ⟨w3.heap.size, 3, none⟩ (.int .i64 0)).setCell ⟨w3.heap.size, 4, none⟩ (.int .i64 999)).setCell ⟨w3.heap.size, 5, none⟩ (.slice Aw lw.length cw))) (fun g9 hg9 _ => hoth g9 (fun e => hvP (by rw [← e]; exact hg9)))
          have hsw2 := hsw.grow (w' := ((((((wp2.setCell ⟨w3.heap.size, 0, none⟩ (.string sa)).setCell ⟨w3.heap.size, 1, none⟩ (.string sb)).setCell ⟨w3.heap.size, 2, none⟩ (.int .i64 (1 + qa))).setCell ⟨w3.heap.size, 3, none⟩ (.int .i64 0)).setCell ⟨w3.heap.size, 4, none⟩ (.int .i64 999)).setCell ⟨w3.heap.size, 5, none⟩ (.slice Aw lw.length cw))) hbox (fun k _ hne => hoth k (fun e => hne (by rw [e]; rfl)))
          have hlw2 := hlw9.grow (w' := ((((((wp2.setCell ⟨w3.heap.size, 0, none⟩ (.string sa)).setCell ⟨w3.heap.size, 1, none⟩ (.string sb)).setCell ⟨w3.heap.size, 2, none⟩ (.int .i64 (1 + qa))).setCell ⟨w3.heap.size, 3, none⟩ (.int .i64 0)).setCell ⟨w3.heap.size, 4, none⟩ (.int .i64 999)).setCell ⟨w3.heap.size, 5, none⟩ (.slice Aw lw.length cw))) (by decide) hbox (fun k _ hne => hoth k (fun e => hne (by rw [e]; rfl)))
          clear hbox hbo hrw hsw hlw9 hoth
          go_simp
          refine hK.out _ _ (⟨⟨hHeld.1.1.keep HBs (by omega), only_below hHeld.1.2 (HBs.mono hPl)⟩, (HBs.cell (p := ⟨ba, oa + a * 8, none⟩) hbP).trans hHeld.2.1, (HBs.cell (p := ⟨ba, oa + bb * 8, none⟩) hbP).trans hHeld.2.2.1, Nat.lt_of_lt_of_le hHeld.2.2.2 HBs.size⟩) (fun hHeld => ?_)
          clear hK K
          try simp only [Act.put, List.setIfInBounds_toArray, List.set_cons_zero, List.set_cons_succ]
          refine wpAnyH_done (by kernel_rfl) ?_ _
          go_wp2_with fail
          go_meet
          case rel => exact ⟨_, _, lw, Aw, cw, rfl, hPl, hvP, hbox2, hlw2, hlw3, Lib.hid hlwok, hrw2, hsw2, hHeld.1.1, hHeld.1.2⟩
      case rest =>
        obtain ⟨P, qq, lw, Aw, cw, rfl, hPl, hvP, hbx, hlw, hl3, HLW, hrw9, hsw9, hcur9, H9⟩ := hcut
        clear hrw hsw hc3 H t0 t2 s0 hba hz3
        go_wp2_with fail
        refine (l1Once_any _ _ _ _ (by omega) hcur9).mono ?_
        rintro e w4 ⟨b, rfl, hc4, HO4⟩
        replace hbx := hbx.only HO4 (by omega)
        replace hlw := hlw.only HO4 (by omega)
        replace hrw9 := hrw9.only HO4 (by omega)
        replace hsw9 := hsw9.only HO4 (by omega)
        replace H9 := H9.trans HO4
        clear HO4 hcur9
        have hPlt := hbx.blt (by omega)
        cases b
        case' false =>
          go_upto_region 12 with fail
          obtain ⟨f9, hf9⟩ : ∃ f : Int, f = 0 := ⟨_, rfl⟩
          obtain ⟨u9, hu9⟩ : ∃ f : Int, f = 999 := ⟨_, rfl⟩
          rw [← hf9, ← hu9] at hbx
          clear hf9 hu9
          generalize w4 = w9 at *
        case' true =>
          go_wp2_with fail
          refine (l1Below_any _ _ _ _ (by omega) hc4).mono ?_
          rintro e w5 ⟨f, rfl, ⟨f0, f1⟩, hc5, HO5⟩
          replace hbx := hbx.only HO5 (by omega)
          replace hlw := hlw.only HO5 (by omega)
          replace hrw9 := hrw9.only HO5 (by omega)
          replace hsw9 := hsw9.only HO5 (by omega)
          replace H9 := H9.trans HO5
          replace hPlt := Nat.lt_of_lt_of_le hPlt HO5.size
          clear HO5 hc4
          obtain ⟨z3, y3⟩ : w5.cell? ⟨P, 3, none⟩ = some (.int .i64 0) ∧ w5.frozen? ⟨P, 3, none⟩ = false := hbx.at_cell 0 3 (by simp) _ rfl
          have hb6 : OwnRows blF 90 (w5.setCell ⟨P, 3, none⟩ (.int .i64 f)) w.heap.size (some ⟨P, 0, none⟩) 1 1 [(sa, sb, qq, f, 999, (Aw, lw.length, cw))] := hbx.edit 0 3 (by simp) (by decide) (.int .i64 f) (sa, sb, qq, f, 999, (Aw, lw.length, cw)) rfl
          have ho6 : ∀ k, k ≠ P → (w5.setCell ⟨P, 3, none⟩ (.int .i64 f)).heap[k]? = w5.heap[k]? := fun k hk => heap_setCell_other w5 ⟨P, 3, none⟩ k (.int .i64 f) (fun e => hk e)
          have HB6 : Below w.heap.size w5 (w5.setCell ⟨P, 3, none⟩ (.int .i64 f)) := (Below.refl w.heap.size w5).setCell (p := ⟨P, 3, none⟩) hPl _
          have hr6 := hrw9.blk (w' := w5.setCell ⟨P, 3, none⟩ (.int .i64 f)) (fun g9 hg9 _ => ho6 g9 (fun e => hvP (by rw [← e]; exact hg9)))
          have hs6 := hsw9.grow (w' := w5.setCell ⟨P, 3, none⟩ (.int .i64 f)) hbx.val (fun k _ hne => ho6 k (fun e => hne (by rw [e]; rfl)))
          have hl6 := hlw.grow (w' := w5.setCell ⟨P, 3, none⟩ (.int .i64 f)) (by decide) hbx.val (fun k _ hne => ho6 k (fun e => hne (by rw [e]; rfl)))
          have hc6 := hc5.keep HB6 hg
          have H6 := only_below H9 HB6
          have hP6 : P < (w5.setCell ⟨P, 3, none⟩ (.int .i64 f)).heap.size := by simpa using hPlt
          clear hbx hlw hrw9 hsw9 H9 hc5 ho6 HB6 hPlt
          go_upto_region 11 with fail
          clear z3 y3
          generalize w5.setCell ⟨P, 3, none⟩ (.int .i64 f) = w6 at *
          have x3 : w6.cell? ⟨P, 3, none⟩ = some (.int .i64 f) := (hb6.at_cell 0 3 (by simp) _ rfl).1
          refine wp_region_held_drew (S := fun w' => (CurAt w' base g ∧ Only g (g + 1) w w') ∧ (w'.cell? ⟨P, 3, none⟩ = some (.int .i64 f) ∧ P < w'.heap.size)) (by kernel_rfl) (⟨⟨hc6, only_drewN H6 1⟩, x3, hP6⟩) (fun hHeld => ?_)
          refine held1 0 (some 64) hHeld ?_
          refine held1 1 (some 65) hHeld ?_
          refine held1 2 (some 66) hHeld ?_
          refine held_do 3 fun K hK => ?_
          go_simp
          have hPg : P ≠ g := by omega
          go_at_call 35
          refine (l1Below_any _ _ _ _ (by omega) hHeld.1.1).mono ?_
          rintro e w7 ⟨u, rfl, ⟨u0, u1⟩, hcp, HOp⟩
          have hwu : IntKind.i64.wrap (f + u) = f + u := IntWalk.i64_in _ (by omega)
          have hb7 := hb6.drewO.only HOp (by omega)
          have hl7 := hl6.drewO.only HOp (by omega)
          have hr7 := hr6.drew.only HOp (by omega)
          have hs7 : CondsOwn w7 w.heap.size RR l := CondsOwn.only (w := w6.drew) hs6 HOp (by omega)
          go_simp
          refine hK.out _ _ (⟨⟨hcp, hHeld.1.2.trans HOp⟩, only_cell HOp hHeld.2.2 hPg hHeld.2.1, Nat.lt_of_lt_of_le hHeld.2.2 HOp.size⟩) (fun hHeld => ?_)
          clear hK K
          refine held1 4 (some 68) hHeld ?_
          refine held1 5 (some 69) hHeld ?_
          refine held_do 6 fun K hK => ?_
          obtain ⟨z4, y4⟩ : w7.cell? ⟨P, 4, none⟩ = some (.int .i64 999) ∧ w7.frozen? ⟨P, 4, none⟩ = false := hb7.at_cell 0 4 (by simp) _ rfl
          have hb8 : OwnRows blF 90 (w7.setCell ⟨P, 4, none⟩ (.int .i64 (f + u))) w.heap.size (some ⟨P, 0, none⟩) 1 1 [(sa, sb, qq, f, f + u, (Aw, lw.length, cw))] := hb7.edit 0 4 (by simp) (by decide) (.int .i64 (f + u)) (sa, sb, qq, f, f + u, (Aw, lw.length, cw)) rfl
          have ho8 : ∀ k, k ≠ P → (w7.setCell ⟨P, 4, none⟩ (.int .i64 (f + u))).heap[k]? = w7.heap[k]? := fun k hk => heap_setCell_other w7 ⟨P, 4, none⟩ k (.int .i64 (f + u)) (fun e => hk e)
          have HB8 : Below w.heap.size w7 (w7.setCell ⟨P, 4, none⟩ (.int .i64 (f + u))) := (Below.refl w.heap.size w7).setCell (p := ⟨P, 4, none⟩) hPl _
          have hr8 := hr7.blk (w' := (w7.setCell ⟨P, 4, none⟩ (.int .i64 (f + u)))) (fun g9 hg9 _ => ho8 g9 (fun e => hvP (by rw [← e]; exact hg9)))
          have hs8 := hs7.grow (w' := (w7.setCell ⟨P, 4, none⟩ (.int .i64 (f + u)))) hb7.val (fun k _ hne => ho8 k (fun e => hne (by rw [e]; rfl)))
          have hl8 := hl7.grow (w' := (w7.setCell ⟨P, 4, none⟩ (.int .i64 (f + u)))) (by decide) hb7.val (fun k _ hne => ho8 k (fun e => hne (by rw [e]; rfl)))
          have x8 : (w7.setCell ⟨P, 4, none⟩ (.int .i64 (f + u))).cell? ⟨P, 3, none⟩ = some (.int .i64 f) := (hb8.at_cell 0 3 (by simp) _ rfl).1
          clear hb7 hl7 hr7 hs7 ho8
          go_simp
          refine hK.out _ _ (⟨⟨hHeld.1.1.keep HB8 hg, only_below hHeld.1.2 HB8⟩, x8, by have := hHeld.2.2; simpa using this⟩) (fun hHeld => ?_)
          clear hK K
          try simp only [Act.put, List.setIfInBounds_toArray, List.set_cons_zero, List.set_cons_succ]
          refine wpAnyH_done (by kernel_rfl) ?_ _
          obtain ⟨hc4, H9⟩ := hHeld.1
          have hbx := hb8
          have hrw9 := hr8
          have hsw9 := hs8
          have hlw := hl8
          have hPlt := hHeld.2.2
          clear hb6 hl6 hr6 hs6 hc6 H6 hP6 x3 hb8 hr8 hs8 hl8 x8 HB8 hHeld z4 y4
          go_upto_region 12 with fail
          generalize (w7.setCell ⟨P, 4, none⟩ (.int .i64 (f + u))) = w9 at *
          obtain ⟨f9, hf9⟩ : ∃ x : Int, x = f := ⟨_, rfl⟩
          obtain ⟨u9, hu9⟩ : ∃ x : Int, x = f + u := ⟨_, rfl⟩
          rw [← hu9, ← hf9] at hbx
          clear hf9 hu9
        all_goals
          have e0 : w9.cell? ⟨P, 0, none⟩ = some (.string sa) := (hbx.at_cell 0 0 (by simp) _ rfl).1
          have e1 : w9.cell? ⟨P, 1, none⟩ = some (.string sb) := (hbx.at_cell 0 1 (by simp) _ rfl).1
          have e2 : w9.cell? ⟨P, 2, none⟩ = some (.int .i64 qq) := (hbx.at_cell 0 2 (by simp) _ rfl).1
          have e3 : w9.cell? ⟨P, 3, none⟩ = some (.int .i64 f9) := (hbx.at_cell 0 3 (by simp) _ rfl).1
          have e4 : w9.cell? ⟨P, 4, none⟩ = some (.int .i64 u9) := (hbx.at_cell 0 4 (by simp) _ rfl).1
          have e5 : w9.cell? ⟨P, 5, none⟩ = some (.slice Aw lw.length cw) := (hbx.at_cell 0 5 (by simp) _ rfl).1
          have hz9 := H9.size
          go_wp2_with (at_builtin; refine wpList_append_blk blElem rfl _ _ rfl rfl hrw9 (by have := hsw9.1; omega) (sa, sb, qq, f9, u9, (Aw, lw.length, cw)) #[.string sa, .string sb, .int .i64 qq, .int .i64 f9, .int .i64 u9, .slice Aw lw.length cw] rfl (blOne (sa, sb, qq, f9, u9, (Aw, lw.length, cw))) w9.heap.size _ rfl rfl (by omega) ?_; intro v10 w10 hr10 hb10 hs10 hk10)
          have hB := hb10 w.heap.size (Nat.le_refl _) hz9
          have hs11 : CondsOwn w10 w.heap.size (RR ++ [(sa, sb, qq, f9, u9, (Aw, lw.length, cw))]) (l ++ [(sa, sb, qq, f9, u9, lw)]) := (hsw9.grow hrw9 hk10).snoc (r := (sa, sb, qq, f9, u9, (Aw, lw.length, cw))) (j := (sa, sb, qq, f9, u9, lw)) ⟨rfl, rfl, rfl, rfl, rfl, cw, hlw.grow (by decide) hrw9 hk10, hl3⟩
          have hok11 : Hid (∀ z ∈ l ++ [(sa, sb, qq, f9, u9, lw)], okBl z) := all_snoc HOK.out ⟨hsa, hsb, HLW.out⟩
          go_roundw
          case rel => exact ⟨k - 1, RR ++ [(sa, sb, qq, f9, u9, (Aw, lw.length, cw))], l ++ [(sa, sb, qq, f9, u9, lw)], by go_num, by omega, by simp; omega, hok11, hr10, hs11, hc4.keep hB hg, only_below H9 hB⟩
          case measure => simp [intOf]; omega
    have h2 : k = 0 ∨ (0 < k ∧ it.length ≤ 1) := by omega
    clear hgo
    rcases h2 with rfl | ⟨hk0, h1l⟩
    case' inr =>
      have hk1 : (0 : Int) < (k : Int) := by omega
      have h1i : ¬ (1 : Int) < (it.length : Int) := by omega
      have h1d : decide ((1 : Int) < (it.length : Int)) = false := decide_eq_false h1i
    all_goals
      go_wp2_with fail
      refine (l1Below_any _ _ _ _ (by omega) hcur).mono ?_
      rintro e w2 ⟨y, rfl, ⟨y0, y1⟩, hc2, HO2⟩
      replace hrow := hrow.only HO2 (by omega)
      replace hst := hst.only HO2 (by omega)
      replace H := H.trans HO2
      have hz2 := H.size
      have hg2 := hc2.lt
      clear HO2 hcur
      have h3 : (y = 0 ∨ y = 1) ∨ (y = 2 ∨ 2 < y) := by omega
      rcases h3 with (rfl | rfl) | (rfl | h3)
      · have hcn : RowVal cnF 114 (w2.alloc (.cells #[.int .i64 0, .string ⟨#[]⟩, .string ⟨#[]⟩] 114)) w.heap.size (.slice (some ⟨w2.heap.size, 0, none⟩) 1 1) [(0, ⟨#[]⟩, ⟨#[]⟩)] := lit_one condElem rfl #[.int .i64 0, .string ⟨#[]⟩, .string ⟨#[]⟩] (0, ⟨#[]⟩, ⟨#[]⟩) rfl hz2
        go_wp2_with (at_builtin; refine wpList_append_blk blElem rfl _ _ rfl rfl (w1 := w2.alloc (.cells #[.int .i64 0, .string ⟨#[]⟩, .string ⟨#[]⟩] 114)) (hrow.alloc _) (by have := hst.1; omega) (⟨#[67]⟩, ⟨#[65]⟩, 1, 0, 9, (some ⟨w2.heap.size, 0, none⟩, 1, 1)) #[.string ⟨#[67]⟩, .string ⟨#[65]⟩, .int .i64 1, .int .i64 0, .int .i64 9, .slice (some ⟨w2.heap.size, 0, none⟩) 1 1] rfl (blOne (⟨#[67]⟩, ⟨#[65]⟩, 1, 0, 9, (some ⟨w2.heap.size, 0, none⟩, 1, 1))) (w2.heap.size + 1) _ (by simp) rfl (by simp; omega) ?_; intro v9 w9 hr9 hb9 hs9 hk9)
        have hst9 : CondsOwn w9 w.heap.size (RR ++ [(⟨#[67]⟩, ⟨#[65]⟩, 1, 0, 9, (some ⟨w2.heap.size, 0, none⟩, 1, 1))]) (l ++ [(⟨#[67]⟩, ⟨#[65]⟩, 1, 0, 9, [(0, ⟨#[]⟩, ⟨#[]⟩)])]) := ((hst.keep (below_alloc w2 (.cells #[.int .i64 0, .string ⟨#[]⟩, .string ⟨#[]⟩] 114))).grow (hrow.alloc _) hk9).snoc (r := (⟨#[67]⟩, ⟨#[65]⟩, 1, 0, 9, (some ⟨w2.heap.size, 0, none⟩, 1, 1))) (j := (⟨#[67]⟩, ⟨#[65]⟩, 1, 0, 9, [(0, ⟨#[]⟩, ⟨#[]⟩)])) ⟨rfl, rfl, rfl, rfl, rfl, 1, (hcn.own_n rfl).grow (by decide) (hrow.alloc _) hk9, by simp⟩
        have HB : Below w.heap.size w2 w9 := ((Below.refl w.heap.size w2).alloc hz2 _).trans (hb9 w.heap.size (Nat.le_refl _) (by simp; omega))
        go_ret
        exact ⟨l ++ [(⟨#[67]⟩, ⟨#[65]⟩, 1, 0, 9, [(0, ⟨#[]⟩, ⟨#[]⟩)])], RR ++ [(⟨#[67]⟩, ⟨#[65]⟩, 1, 0, 9, (some ⟨w2.heap.size, 0, none⟩, 1, 1))], v9, rfl, by simp; omega, all_snoc HOK.out ⟨by decide, by decide, fun z hz => by rw [List.mem_singleton.1 hz]; exact ⟨emp_ok, emp_ok⟩⟩, hr9, hst9, hc2.keep HB hg, only_below H HB⟩
      · have hcn : RowVal cnF 114 (w2.alloc (.cells #[.int .i64 0, .string ⟨#[]⟩, .string ⟨#[]⟩] 114)) w.heap.size (.slice (some ⟨w2.heap.size, 0, none⟩) 1 1) [(0, ⟨#[]⟩, ⟨#[]⟩)] := lit_one condElem rfl #[.int .i64 0, .string ⟨#[]⟩, .string ⟨#[]⟩] (0, ⟨#[]⟩, ⟨#[]⟩) rfl hz2
        go_wp2_with (at_builtin; refine wpList_append_blk blElem rfl _ _ rfl rfl (w1 := w2.alloc (.cells #[.int .i64 0, .string ⟨#[]⟩, .string ⟨#[]⟩] 114)) (hrow.alloc _) (by have := hst.1; omega) (⟨#[65]⟩, ⟨#[81]⟩, 1, 0, 9, (some ⟨w2.heap.size, 0, none⟩, 1, 1)) #[.string ⟨#[65]⟩, .string ⟨#[81]⟩, .int .i64 1, .int .i64 0, .int .i64 9, .slice (some ⟨w2.heap.size, 0, none⟩) 1 1] rfl (blOne (⟨#[65]⟩, ⟨#[81]⟩, 1, 0, 9, (some ⟨w2.heap.size, 0, none⟩, 1, 1))) (w2.heap.size + 1) _ (by simp) rfl (by simp; omega) ?_; intro v9 w9 hr9 hb9 hs9 hk9)
        have hst9 : CondsOwn w9 w.heap.size (RR ++ [(⟨#[65]⟩, ⟨#[81]⟩, 1, 0, 9, (some ⟨w2.heap.size, 0, none⟩, 1, 1))]) (l ++ [(⟨#[65]⟩, ⟨#[81]⟩, 1, 0, 9, [(0, ⟨#[]⟩, ⟨#[]⟩)])]) := ((hst.keep (below_alloc w2 (.cells #[.int .i64 0, .string ⟨#[]⟩, .string ⟨#[]⟩] 114))).grow (hrow.alloc _) hk9).snoc (r := (⟨#[65]⟩, ⟨#[81]⟩, 1, 0, 9, (some ⟨w2.heap.size, 0, none⟩, 1, 1))) (j := (⟨#[65]⟩, ⟨#[81]⟩, 1, 0, 9, [(0, ⟨#[]⟩, ⟨#[]⟩)])) ⟨rfl, rfl, rfl, rfl, rfl, 1, (hcn.own_n rfl).grow (by decide) (hrow.alloc _) hk9, by simp⟩
        have HB : Below w.heap.size w2 w9 := ((Below.refl w.heap.size w2).alloc hz2 _).trans (hb9 w.heap.size (Nat.le_refl _) (by simp; omega))
        go_ret
        exact ⟨l ++ [(⟨#[65]⟩, ⟨#[81]⟩, 1, 0, 9, [(0, ⟨#[]⟩, ⟨#[]⟩)])], RR ++ [(⟨#[65]⟩, ⟨#[81]⟩, 1, 0, 9, (some ⟨w2.heap.size, 0, none⟩, 1, 1))], v9, rfl, by simp; omega, all_snoc HOK.out ⟨by decide, by decide, fun z hz => by rw [List.mem_singleton.1 hz]; exact ⟨emp_ok, emp_ok⟩⟩, hr9, hst9, hc2.keep HB hg, only_below H HB⟩
      · by_cases hR0 : RR.length = 0
        case pos =>
          obtain ⟨A9, c9, rfl, ho9⟩ := hrow.form
          rw [hR0]
          rw [hR0] at ho9
          go_wp2_with fail
          go_ret
          exact ⟨l, RR, _, rfl, by omega, HOK.out, ho9.val, hst, hc2, H⟩
        obtain ⟨n9, hn9⟩ : ∃ n9, RR.length = n9 + 1 := ⟨RR.length - 1, by omega⟩
        obtain ⟨b, c9, rfl⟩ := hrow.some_of hn9
        have hi0 : (0 : Int) < ((n9 + 1 : Nat) : Int) := by omega
        have hl0 : 0 < RR.length := by omega
        have hll0 : 0 < l.length := by have := hRL.out; omega
        have hlob := own_block hrow b rfl
        go_wp2_with fail
        refine (l1PickInt_any _ 3 _ [0, 1000, 1001] _ base g (lit_ints rfl _ _ _ rfl rfl (by simp)) (by omega) (fun a ha => by have := Option.some.inj ha; rw [← this]; show w2.heap.size ≠ g; omega) (hc2.keep (below_alloc _ _) hg2)).mono ?_
        rintro e w3 ⟨z, rfl, _, hc3, HO3⟩
        replace hrow := (hrow.alloc (.cells #[.int .i64 0, .int .i64 1000, .int .i64 1001] 3)).only HO3 (by omega)
        replace hst := (hst.keep (below_alloc w2 (.cells #[.int .i64 0, .int .i64 1000, .int .i64 1001] 3))).only HO3 (by omega)
        replace H := (H.trans (Only.of_below (below_alloc w2 (.cells #[.int .i64 0, .int .i64 1000, .int .i64 1001] 3)))).trans HO3
        clear HO3 hc2
        have hown := hrow.own_n hn9.symm
        obtain ⟨z2, f2⟩ : w3.cell? ⟨b, 2, none⟩ = some (.int .i64 RR[0].2.2.1) ∧ w3.frozen? ⟨b, 2, none⟩ = false := hown.at_cell 0 2 hl0 _ rfl
        have hcap := own_capD hown
        have hE : OwnRows blF 90 (w3.setCell ⟨b, 2, none⟩ (.int .i64 z)) w.heap.size (some ⟨b, 0, none⟩) (n9 + 1) c9 (RR.set 0 (RR[0].1, RR[0].2.1, z, RR[0].2.2.2)) := hown.edit 0 2 hl0 (by decide) (.int .i64 z) (RR[0].1, RR[0].2.1, z, RR[0].2.2.2) rfl
        have hj := hst.2 0 hl0 hll0
        have hS : CondsOwn (w3.setCell ⟨b, 2, none⟩ (.int .i64 z)) w.heap.size (RR.set 0 (RR[0].1, RR[0].2.1, z, RR[0].2.2.2)) (l.set 0 (l[0].1, l[0].2.1, z, l[0].2.2.2)) := by
          have hg9 := hst.grow (w' := w3.setCell ⟨b, 2, none⟩ (.int .i64 z)) hrow (fun k _ hne => heap_setCell_other w3 ⟨b, 2, none⟩ k (.int .i64 z) (fun e => hne (by rw [e]; rfl)))
          have hj2 := hg9.2 0 hl0 hll0
          exact hg9.set 0 ⟨hj2.1, hj2.2.1, rfl, hj2.2.2.2⟩
        have HB : Below w.heap.size w3 (w3.setCell ⟨b, 2, none⟩ (.int .i64 z)) := (Below.refl w.heap.size w3).setCell (p := ⟨b, 2, none⟩) hlob _
        have hok0 := HOK.out _ (List.getElem_mem hll0)
        have hok9 : Hid (∀ x ∈ l.set 0 (l[0].1, l[0].2.1, z, l[0].2.2.2), okBl x) := all_set HOK.out hok0
        have hcF := hc3.keep HB hg
        have HF := only_below H HB
        clear hj hst hown
        go_wp2_with fail
        go_ret
        exact ⟨l.set 0 (l[0].1, l[0].2.1, z, l[0].2.2.2), RR.set 0 (RR[0].1, RR[0].2.1, z, RR[0].2.2.2), _, rfl, by simp; omega, hok9.out, hE.val, hS, hcF, HF⟩
      · have d0 : decide (y = 0) = false := decide_eq_false (by omega)
        have d1 : decide (y = 1) = false := decide_eq_false (by omega)
        have d2 : decide (y = 2) = false := decide_eq_false (by omega)
        have n0 : ¬ y = 0 := by omega
        have n1 : ¬ y = 1 := by omega
        have n2 : ¬ y = 2 := by omega
        go_wp2_with fail
        go_ret
        exact ⟨l, RR, _, rfl, by omega, HOK.out, hrow, hst, hc2, H⟩
end Go.Proofs.Ytlkolehdikfddaa
