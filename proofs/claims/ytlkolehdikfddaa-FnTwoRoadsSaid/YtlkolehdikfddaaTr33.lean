/- Part 33 of the texts of this claim: The walk of PlanAll of the reference, told weakly: some list of planned orders, nothing of the memory that was there is written. -/
import Derived.Test.YtlkolehdikfddaaTr32
import Derived.Test.YtlkolehdikfddaaTr29
/- The walk of PlanAll of the reference, told weakly: some list of planned orders, nothing of the memory that was there is written. -/
namespace Go.Proofs.Ytlkolehdikfddaa
open Go.RowKit
theorem BoxOf.keepB {w w' : World} {N B : Nat} {cs : List Value} (h : BoxOf w N cs) (hb : Below B w w') (hN : N < B) : BoxOf w' N cs := ⟨Nat.lt_of_lt_of_le h.1 hb.size, fun j u hu => (hb.cell (p := ⟨N, j, none⟩) hN).trans (h.2 j u hu)⟩
theorem BoxOf.onlyB {w w' : World} {N b : Nat} {cs : List Value} (h : BoxOf w N cs) (ho : Only b (b + 1) w w') (hN : N ≠ b) : BoxOf w' N cs := ⟨Nat.lt_of_lt_of_le h.1 ho.size, fun j u hu => (World.cell?_of_block (ho.block N h.1 (by omega))).trans (h.2 j u hu)⟩
section
variable {α : Type} {F : Flat α} {t e : TypeId}
/-- append(l, l2...), with all that is known of the world behind. -/
theorem wpList_append_rows (hE : ElemOk F t e) (hone : ∀ a, ∀ u ∈ F.enc a, u.oneCell' = true) {ops : Array Oper} {rest : List Oper} {o : Oper} {a : Act} {Q : Exit → Act → World → Prop} (hgd : o.guard = none) (s x : Operand)
    (ho : o.op = .call { callee := .builtin .append, args := #[s, x], argTypes := #[t, t] }) {w : World} {lo : Nat} {v : Value} {l : List α} (hs : a.eval s = v) (hrow : RowVal F e w lo v l) (hl : l.length ≤ 16777216)
    {A : Option Addr} {m c : Nat} {l2 : List α} (hx : a.eval x = .slice A m c) (hsrc : RowsIn F w A m l2) (hlo : lo ≤ w.heap.size)
    (h : ∀ v' w', RowVal F e w' lo v' (l ++ l2) → w.grownBy w' v.ownBlock → wpList Try.prog ops Q rest (a.put o.dst v') w') : wpList Try.prog ops Q (o :: rest) a w :=
  wpList_plain hgd fun _ hK => by
    obtain ⟨v', w', hr, h2, h3⟩ := run_append_src hE o.type hrow hl (c := c) hsrc hone hlo
    exact wp_of_append s x ho hs hx hr (hK _ _ (h v' w' h2 h3))
end
theorem numRow_kept {w w' : World} {lo g n c : Nat} {l : List Int} (h : NumRow w lo g n c l) (hb : w'.heap[g]? = w.heap[g]?) : NumRow w' lo g n c l :=
  NumRow.of_own ((RowVal.blk h.own (fun k hk _ => by
    have e : g = k := by simpa [Value.ownBlock] using hk
    rw [← e]; exact hb)).own_n h.1)
/-- What stands on the way: the plant's box, the order of the items, the orders so far, the flows. -/
structure PaSt (w : World) (PV : List Value) (ord : List Nat) (g8 q8 b n c : Nat) (vo : Value) (l : List Pl) (R : List FlR) (L : List (List Fl)) (wr : World) : Prop where
  below : Below w.heap.size w wr
  box : BoxOf wr w.heap.size PV
  ord : NumRow wr (w.heap.size + 1) g8 ord.length q8 (natI ord)
  out : RowVal plF 44 wr (w.heap.size + 1) vo l
  fl : OwnRows slF 102 wr (w.heap.size + 1) (some ⟨b, 0, none⟩) n c R
  fls : FlowsOf wr (w.heap.size + 1) R L
section
variable {w wr wr' : World} {PV : List Value} {ord : List Nat} {g8 q8 b n c : Nat} {vo v' : Value} {l l' : List Pl} {R R' : List FlR} {L L' : List (List Fl)}
theorem PaSt.keep (h : PaSt w PV ord g8 q8 b n c vo l R L wr) (hb : Below wr.heap.size wr wr') : PaSt w PV ord g8 q8 b n c vo l R L wr' := ⟨below_on h.below hb, h.box.keep hb, h.ord.keep hb, h.out.keep hb, h.fl.keep hb, h.fls.keep hb⟩
theorem PaSt.ge (h : PaSt w PV ord g8 q8 b n c vo l R L wr) : w.heap.size + 1 ≤ b := own_block h.fl.val b rfl
theorem row_off {α : Type} {F : Flat α} {t : TypeId} {lo lo' : Nat} {v : Value} {x : List α} (h : RowVal F t wr lo v x) (k : OwnRows slF 102 wr lo' (some ⟨b, 0, none⟩) n c R) (ht : t ≠ 102) : ∀ g, v.ownBlock = some g → g ≠ b := fun g hg e => RowVal.apart ht h k.val g hg (by rw [e]; rfl)
theorem PaSt.parts (h : PaSt w PV ord g8 q8 b n c vo l R L wr) (ho : Only b (b + 1) wr wr') (hF : OwnRows slF 102 wr' (w.heap.size + 1) (some ⟨b, 0, none⟩) n c R') (hL : FlowsOf wr' (w.heap.size + 1) R' L') : PaSt w PV ord g8 q8 b n c vo l R' L' wr' := by
  have hge := h.ge
  refine ⟨below_only h.below ho (by omega) h.below.size, h.box.onlyB ho (by omega), numRow_kept h.ord ?_, RowVal.blk h.out (fun g hg hlt => ho.block g hlt ?_), hF, hL⟩
  · have := row_off h.ord.own h.fl (by decide) g8 rfl
    exact ho.block g8 h.ord.lt.2 (by omega)
  · have := row_off h.out h.fl (by decide) g hg
    omega
theorem PaSt.more (h : PaSt w PV ord g8 q8 b n c vo l R L wr) (hg : wr.grownBy wr' vo.ownBlock) (h9 : RowVal plF 44 wr' (w.heap.size + 1) v' l') : PaSt w PV ord g8 q8 b n c v' l' R L wr' := by
  have hb : Below (w.heap.size + 1) wr wr' := RowVal.below h.out hg (Nat.le_refl _) (by have := h.box.1; omega)
  have hblk : ∀ k, k < wr.heap.size → vo.ownBlock ≠ some k → wr'.heap[k]? = wr.heap[k]? := fun k hk hne => hg.block k hk (Ne.symm hne)
  refine ⟨h.below.trans (hb.mono (by omega)), h.box.keepB hb (by omega), numRow_kept h.ord (hblk g8 h.ord.lt.2 (fun e => RowVal.apart (by decide) h.out h.ord.own g8 e rfl)), h9, h.fl.grow (by decide) h.out hblk, ⟨h.fls.len, fun k h1 h2 => (h.fls.at_ k h1 h2).grow (by decide) h.out hblk⟩⟩
end
/-- The ending of PlanAll. -/
def PlanDrawn (w : World) (e : Ending) (w' : World) : Prop := ∃ (l : List Pl) (A : Option Addr) (c : Nat) (b : Bool), e = .returned (.tuple #[.slice A l.length c, .bool b]) ∧ OwnRows plF 44 w' w.heap.size A l.length c l ∧ l.length ≤ 10000 ∧ (∀ x ∈ l, okPl x) ∧ Below w.heap.size w w'
theorem planDrawn_mk {w w' : World} {l : List Pl} {v : Value} {b : Bool} {lo : Nat} (h : RowVal plF 44 w' lo v l) (hlo : w.heap.size ≤ lo) (hl : l.length ≤ 10000) (hok : ∀ x ∈ l, okPl x) (hb : Below w.heap.size w w') : PlanDrawn w (.returned (.tuple #[v, .bool b])) w' := by
  obtain ⟨A, c, rfl, ho⟩ := h.form
  exact ⟨l, A, c, b, rfl, ho.lower hlo, hl, hok, hb⟩
theorem planDrawn_no {w w' : World} {b : Bool} {H : Nat} (hH : w'.heap.size = H) (hb : Below w.heap.size w w') : PlanDrawn w (.returned (.tuple #[.slice (some ⟨H, 0, none⟩) 0 0, .bool b])) (w'.alloc (.cells #[] 44)) :=
  planDrawn_mk (l := []) (empty_row hH hb.size) (Nat.le_refl _) (by simp) (by simp) (hb.alloc hb.size _)
theorem planItem_ok (p : Pt) (item : ByteArray) (needs : List Fl) (hs : item.size ≤ 9223372036854775807) : ∀ x ∈ (planItem p item needs).1, okPl x := by
  intro x hx
  unfold planItem at hx
  split at hx
  · obtain ⟨f, _, rfl⟩ := List.mem_map.1 hx
    exact hs
  · simp at hx
set_option maxRecDepth 100000 in
set_option maxHeartbeats 1000000 in
theorem specLevelsOf_any (A B : Option Addr) (n c m d : Nat) (it : List It) (ls : List Bl) (w : World) (hi : ItemsIn w A n it) (hl : BillLinesIn w B m ls) (hoki : ∀ x ∈ it, okIt x) (hokl : ∀ x ∈ ls, okBl x) (hbl : isBills it ls = true) :
    Calls Try.prog 58 #[.slice A n c, .slice B m d] w (LevOne w (edges it ls) it.length) := by
  obtain ⟨hcat, h24, hok, htn⟩ := isBills_parts hbl
  have h12 := isCat_12 hcat
  have hfnd : ∀ k (hk : k < ls.length), 0 ≤ findIt it ls[k].1 ∧ 0 ≤ findIt it ls[k].2.1 := fun k hk => ⟨(okLine_parts (hok k hk)).1, (okLine_parts (hok k hk)).2.1⟩
  clear hcat hok htn
  have HI := Lib.hid hi
  have HL := Lib.hid hl
  have HF := Lib.hid hfnd
  clear hi hl hfnd
  go_enter Try.func58, Try.ntmps58
  go_wp2_with fail
  refine (specIsBills_any _ _ _ _ _ _ it ls _ HI.out HL.out hoki hokl).mono ?_
  rintro e w1 ⟨rfl, hs⟩
  rw [hbl]
  clear hoki hokl hbl
  go_wp2_with fail
  refine (l9Levels_any _ _ _ _ _ _ it ls _ (HI.out.keep hs) (HL.out.keep hs) h12 h24 HF.out).mono ?_
  rintro e w2 ⟨A7, k7, d7, rfl, ho7, hs2⟩
  go_wp2_with fail
  go_ret
  exact ⟨A7, k7, d7, rfl, ho7.lower hs.size, below_on hs hs2⟩
set_option maxRecDepth 100000 in
set_option maxHeartbeats 32000000 in
theorem specPlanAll_any (r : PtR) (p : Pt) (A : Option Addr) (n c : Nat) (ds : List Dm) (w : World) (hp : PlantIn w r p) (hok : okPt p) (h1 : 1 ≤ p.it.length) (hds : DemandsIn w A n ds) (hokd : ∀ x ∈ ds, okDm x) :
    Calls Try.prog 33 #[.agg #[.slice r.i.a r.i.n r.i.c, .slice r.l.a r.l.n r.l.c, .slice r.w.a r.w.n r.w.c, .slice r.e.a r.e.n r.e.c, .slice r.p.a r.p.n r.p.c, .slice r.s.a r.s.n r.s.c, .slice r.q.a r.q.n r.q.c], .slice A n c] w (PlanDrawn w) := by
  obtain rfl := hds.1
  have HD := Lib.hid hds
  have HOD := Lib.hid hokd
  have HO := Lib.hid hok
  clear hds hokd hok
  obtain ⟨⟨a0, n0, c0⟩, ⟨a1, n1, c1⟩, ⟨a2, n2, c2⟩, ⟨a3, n3, c3⟩, ⟨a4, n4, c4⟩, ⟨a5, n5, c5⟩, ⟨a6, n6, c6⟩⟩ := r
  have hn0 : n0 = p.it.length := hp.it.1
  have hn1 : n1 = p.ls.length := hp.ls.num
  subst hn0
  subst hn1
  have HP := Lib.hid hp
  have HQ0 := Lib.hid hp.it
  dsimp only at HQ0 ⊢
  clear hp
  have hb := below_alloc w (.cells #[.slice a0 p.it.length c0, .slice a1 p.ls.length c1, .slice a2 n2 c2, .slice a3 n3 c3, .slice a4 n4 c4, .slice a5 n5 c5, .slice a6 n6 c6] 34)
  have B0 : BoxOf (w.alloc (.cells #[.slice a0 p.it.length c0, .slice a1 p.ls.length c1, .slice a2 n2 c2, .slice a3 n3 c3, .slice a4 n4 c4, .slice a5 n5 c5, .slice a6 n6 c6] 34)) w.heap.size [.slice a0 p.it.length c0, .slice a1 p.ls.length c1, .slice a2 n2 c2, .slice a3 n3 c3, .slice a4 n4 c4, .slice a5 n5 c5, .slice a6 n6 c6] := boxOf_alloc w #[.slice a0 p.it.length c0, .slice a1 p.ls.length c1, .slice a2 n2 c2, .slice a3 n3 c3, .slice a4 n4 c4, .slice a5 n5 c5, .slice a6 n6 c6] 34
  have hz : w.heap.size + 1 ≤ (w.alloc (.cells #[.slice a0 p.it.length c0, .slice a1 p.ls.length c1, .slice a2 n2 c2, .slice a3 n3 c3, .slice a4 n4 c4, .slice a5 n5 c5, .slice a6 n6 c6] 34)).heap.size := by simp
  obtain ⟨b0, b1, b2, b3, b4, b5, b6, bl⟩ := B0.seven
  go_enter Try.func33, Try.ntmps33
  go_wp2_with fail
  generalize (w.alloc (.cells #[.slice a0 p.it.length c0, .slice a1 p.ls.length c1, .slice a2 n2 c2, .slice a3 n3 c3, .slice a4 n4 c4, .slice a5 n5 c5, .slice a6 n6 c6] 34)) = V at *
  refine (specIsPlant_any (⟨⟨a0, p.it.length, c0⟩, ⟨a1, p.ls.length, c1⟩, ⟨a2, n2, c2⟩, ⟨a3, n3, c3⟩, ⟨a4, n4, c4⟩, ⟨a5, n5, c5⟩, ⟨a6, n6, c6⟩⟩ : PtR) p _ (HP.out.keep hb) HO.out).mono ?_
  rintro e V1 ⟨rfl, hs⟩
  replace hb := below_on hb hs
  replace B0 := B0.keep hs
  replace hz := Nat.le_trans hz hs.size
  clear hs b0 b1 b2 b3 b4 b5 b6 bl
  cases g : isPlant p
  · go_wp2_with fail
    go_ret2
    exact planDrawn_no rfl hb
  have hbl9 := Lib.hid (isPlant_parts g).1
  have h12 := isCat_12 (isBills_parts hbl9.out).1
  clear g
  go_wp2_with fail
  refine (specAreDemands_any A ds.length c ds _ (HD.out.keep hb) HOD.out).mono ?_
  rintro e V2 ⟨rfl, hs⟩
  replace hb := below_on hb hs
  replace B0 := B0.keep hs
  replace hz := Nat.le_trans hz hs.size
  clear hs
  cases gd : areDemands ds
  · go_wp2_with fail
    go_ret2
    exact planDrawn_no rfl hb
  clear gd
  have hs := below_alloc V2 (.cells #[] 102)
  have hr0 : RowVal slF 102 (V2.alloc (.cells #[] 102)) (w.heap.size + 1) (.slice (some ⟨V2.heap.size, 0, none⟩) 0 0) [] := empty_row rfl hz
  replace hb := below_on hb hs
  replace B0 := B0.keep hs
  replace hz := Nat.le_trans hz hs.size
  go_wp2_with fail
  generalize (V2.alloc (.cells #[] 102)) = V3 at *
  generalize V2.heap.size = N2 at *
  clear hs
  go_loopw [6, 7] (fun v t wr => ∃ (i : Nat) (R : List FlR) (L : List (List Fl)), i ≤ p.it.length ∧ t = .int .i64 i ∧ R.length = i ∧ RowVal slF 102 wr (w.heap.size + 1) v R ∧ FlowsOf wr (w.heap.size + 1) R L ∧ Hid (∀ x ∈ L, okFls 1000 1000000000 x) ∧ BoxOf wr w.heap.size [.slice a0 p.it.length c0, .slice a1 p.ls.length c1, .slice a2 n2 c2, .slice a3 n3 c3, .slice a4 n4 c4, .slice a5 n5 c5, .slice a6 n6 c6] ∧ Below w.heap.size w wr) (fun _ t _ => p.it.length - (intOf t).toNat)
  case atStart => exact ⟨0, [], [], by omega, rfl, rfl, hr0, FlowsOf.nil _ _, Lib.hid (by simp), B0, hb⟩
  case round =>
    clear hr0 B0 hb hz
    obtain ⟨i, R, L, hi, rfl, hRi, hrow, hfl, HB, B0, hb⟩ := hrel
    obtain ⟨b0, b1, b2, b3, b4, b5, b6, bl⟩ := B0.seven
    by_cases hlt : i < p.it.length
    case pos =>
      obtain ⟨bi, oi, hae, hbi, t0, _⟩ := item_at (HQ0.out.keep hb) hlt
      subst hae
      have ii : (i : Int) < (p.it.length : Int) := by omega
      have HRL := Lib.hid hRi
      clear hRi
      go_wp2_with fail
      refine (specDemandFlows_any A ds.length c ds p.it[i].1 _ (HD.out.keep hb) HOD.out).mono ?_
      rintro e w4 ⟨A4, c4', rfl, ho4, hs⟩
      have hgr := ho4.lower (lo' := w.heap.size + 1) (by omega)
      have hok4 := okFls.of_demands ds p.it[i].1
      generalize demandFlows ds p.it[i].1 = l4 at *
      replace hrow := hrow.keep hs
      replace hfl := hfl.keep hs
      replace B0 := B0.keep hs
      replace hb := below_on hb hs
      clear hs b0 b1 b2 b3 b4 b5 b6 bl t0 hbi ho4
      have hz4 : w.heap.size + 1 ≤ w4.heap.size := B0.1
      go_wp2_with (at_builtin; refine wpList_append_blk flowSElem rfl _ _ rfl rfl hrow (by have := HRL.out; omega) (A4, l4.length, c4') #[.slice A4 l4.length c4'] rfl (slOne (A4, l4.length, c4')) w4.heap.size _ rfl rfl hz4 ?_; intro v9 w9 hr9 hb9 hs9 hk9)
      have hB := hb9 (w.heap.size + 1) (Nat.le_refl _) hz4
      have hfl9 := (hfl.grow hrow hk9).snoc (r := (A4, l4.length, c4')) (l := l4) (hgr.grow (by decide) hrow hk9)
      have HB9 : Hid (∀ x ∈ L ++ [l4], okFls 1000 1000000000 x) := fun x hx => by
        rcases List.mem_append.1 hx with h | h
        · exact HB.out x h
        · rw [List.mem_singleton.1 h]; exact hok4
      go_roundw
      case rel => exact ⟨i + 1, R ++ [(A4, l4.length, c4')], L ++ [l4], by omega, by go_num, by rw [List.length_append, HRL.out]; rfl, hr9, hfl9, HB9, B0.keepB hB (by omega), hb.trans (hB.mono (by omega))⟩
      case measure => simp [intOf]; omega
    obtain rfl : i = p.it.length := by omega
    obtain ⟨n9, hn9⟩ : ∃ n9, R.length = n9 + 1 := ⟨R.length - 1, by omega⟩
    obtain ⟨b, c9, rfl⟩ := hrow.some_of hn9
    have hown := hrow.own_n hn9.symm
    have hnn : n9 + 1 = p.it.length := by omega
    rw [hnn] at hown ⊢
    clear hrow hn9 hnn n9
    have hz : w.heap.size + 1 ≤ wr.heap.size := B0.1
    have hs := below_alloc wr (.cells #[] 44)
    have hr0 : RowVal plF 44 (wr.alloc (.cells #[] 44)) (w.heap.size + 1) (.slice (some ⟨wr.heap.size, 0, none⟩) 0 0) [] := empty_row rfl hz
    replace hown := hown.keep hs
    replace hfl := hfl.keep hs
    replace B0 := B0.keep hs
    replace hb := below_on hb hs
    replace hz := Nat.le_trans hz hs.size
    go_upto_region 9 with fail
    clear b0 b1 b2 b3 b4 b5 b6 bl hRi hi
    generalize (wr.alloc (.cells #[] 44)) = V3 at *
    generalize wr.heap.size = N3 at *
    clear hs
    obtain ⟨b0, b1, b2, b3, b4, b5, b6, bl⟩ := B0.seven
    go_wp2_with fail
    have HI3 := Lib.hid (HP.out.keep hb).it
    have HL3 := Lib.hid (HP.out.keep hb).ls
    refine (specLevelsOf_any a0 a1 _ c0 _ c1 p.it p.ls _ HI3.out HL3.out HO.out.it HO.out.ls hbl9.out).mono ?_
    rintro e w6 ⟨A6, k6, d6, rfl, ho6, hs⟩
    obtain ⟨hLv, hLI⟩ := lev_of hbl9.out
    rw [hLI] at ho6
    generalize runTo (edges p.it p.ls) p.it.length p.it.length = lev at *
    have hll := hLv.len
    have HMEM : Hid (∀ k (hk : k < (ordOf lev p.it.length).length), (ordOf lev p.it.length)[k] < p.it.length) := fun k hk => by
      have := (ordOf_mem.1 (List.getElem_mem hk)).1
      omega
    have HOL : Hid ((ordOf lev p.it.length).length ≤ 144) := by
      have := ordOf_len lev p.it.length
      have := Nat.mul_le_mul (show p.it.length ≤ 12 from h12) (show lev.length ≤ 12 by omega)
      show _ ≤ _
      omega
    have hints : IntsIn w6 A6 k6 (natI lev) := ho6.ints (by rw [natI_len, hll]; omega)
    replace hr0 := hr0.keep hs
    replace hown := hown.keep hs
    replace hfl := hfl.keep hs
    replace B0 := B0.keep hs
    replace hb := below_on hb hs
    replace hz := Nat.le_trans hz hs.size
    clear hs ho6 hLI hLv HI3 HL3 b0 b1 b2 b3 b4 b5 b6 bl
    go_wp2_with fail
    refine (l10Order_any _ _ _ lev _ hints (by omega)).mono ?_
    rintro e w7 ⟨g8, q8, rfl, ho8, hs⟩
    rw [hll] at ho8 ⊢
    have hst : PaSt w [.slice a0 p.it.length c0, .slice a1 p.ls.length c1, .slice a2 n2 c2, .slice a3 n3 c3, .slice a4 n4 c4, .slice a5 n5 c5, .slice a6 n6 c6] (ordOf lev p.it.length) g8 q8 b p.it.length c9 (.slice (some ⟨N3, 0, none⟩) 0 0) [] R L w7 := ⟨below_on hb hs, B0.keep hs, ho8.lower hz, hr0.keep hs, hown.keep hs, hfl.keep hs⟩
    clear hr0 hown hfl B0 hb hz hs hints ho8
    have hol := HOL.out
    generalize hord : ordOf lev p.it.length = ord at *
    clear hord
    go_wp2_with fail
    go_loopw [8, 10] (fun v t wr => ∃ (K : Nat) (l : List Pl) (R : List FlR) (L : List (List Fl)), K ≤ ord.length ∧ t = .int .i64 K ∧ l.length ≤ 40 * K ∧ Hid (∀ x ∈ l, okPl x) ∧ Hid (∀ x ∈ L, okFls 1000 1000000000 x) ∧ PaSt w [.slice a0 p.it.length c0, .slice a1 p.ls.length c1, .slice a2 n2 c2, .slice a3 n3 c3, .slice a4 n4 c4, .slice a5 n5 c5, .slice a6 n6 c6] ord g8 q8 b p.it.length c9 v l R L wr) (fun _ t _ => ord.length - (intOf t).toNat)
    case atStart => exact ⟨0, [], R, L, by omega, rfl, by simp, Lib.hid (by simp), HB, hst⟩
    case round =>
      clear hst HB
      obtain ⟨K, l, R, L, hK, rfl, hlK, HOK, HB, hst⟩ := hrel
      obtain ⟨A8, c8, rfl, _⟩ := hst.out.form
      by_cases hKl : K < ord.length
      case neg =>
        obtain rfl : K = ord.length := by omega
        go_wp2_with fail
        go_ret2
        exact planDrawn_mk hst.out (by omega) (by omega) HOK.out hst.below
      have hal := HMEM.out K hKl
      have cO := hst.ord.cell (j := K) (by rw [natI_len]; exact hKl)
      have cO2 : wr.cell? ⟨g8, K, none⟩ = some (.int .i64 (ord[K] : Int)) := by rw [cO]; simp [natI]
      clear cO
      generalize hao : ord[K] = a at *
      have HAO := Lib.hid hao
      clear hao
      obtain ⟨bi, oi, hae, hbi, t0, t1, t2, t3, t4, t5, t6, t7⟩ := item_at (HQ0.out.keep hst.below) hal
      subst hae
      obtain ⟨b0, b1, b2, b3, b4, b5, b6, bl⟩ := hst.box.seven
      have j1 : (a : Int) < (p.it.length : Int) := by omega
      have j2 : (K : Int) < (ord.length : Int) := by omega
      have hwK : IntKind.i64.wrap ((K : Int) + 1) = (K : Int) + 1 := IntWalk.i64_in _ (by omega)
      go_wp2_with fail
      go_region_held3 (fun w' => w'.cell? ⟨w.heap.size, 0, none⟩ = some (.slice (some ⟨bi, oi, none⟩) p.it.length c0) ∧ w'.cell? ⟨g8, K, none⟩ = some (.int .i64 (a : Int)) ∧ w'.cell? ⟨bi, oi + a * 8, none⟩ = some (.string p.it[a].1) ∧ w'.cell? ⟨bi, oi + a * 8 + 1, none⟩ = some (.string p.it[a].2.1) ∧ w'.cell? ⟨bi, oi + a * 8 + 2, none⟩ = some (.int .i64 p.it[a].2.2.1) ∧ w'.cell? ⟨bi, oi + a * 8 + 3, none⟩ = some (.int .i64 p.it[a].2.2.2.1) ∧ w'.cell? ⟨bi, oi + a * 8 + 4, none⟩ = some (.int .i64 p.it[a].2.2.2.2.1) ∧ w'.cell? ⟨bi, oi + a * 8 + 5, none⟩ = some (.int .i64 p.it[a].2.2.2.2.2.1) ∧ w'.cell? ⟨bi, oi + a * 8 + 6, none⟩ = some (.int .i64 p.it[a].2.2.2.2.2.2.1) ∧ w'.cell? ⟨bi, oi + a * 8 + 7, none⟩ = some (.int .i64 p.it[a].2.2.2.2.2.2.2)) (go_keep) (fail)
      have hs := (below_alloc wr (.cells #[.string p.it[a].1, .string p.it[a].2.1, .int .i64 p.it[a].2.2.1, .int .i64 p.it[a].2.2.2.1, .int .i64 p.it[a].2.2.2.2.1, .int .i64 p.it[a].2.2.2.2.2.1, .int .i64 p.it[a].2.2.2.2.2.2.1, .int .i64 p.it[a].2.2.2.2.2.2.2] 47)).drew
      have BX : BoxOf (wr.alloc (.cells #[.string p.it[a].1, .string p.it[a].2.1, .int .i64 p.it[a].2.2.1, .int .i64 p.it[a].2.2.2.1, .int .i64 p.it[a].2.2.2.2.1, .int .i64 p.it[a].2.2.2.2.2.1, .int .i64 p.it[a].2.2.2.2.2.2.1, .int .i64 p.it[a].2.2.2.2.2.2.2] 47)).drew wr.heap.size [.string p.it[a].1, .string p.it[a].2.1, .int .i64 p.it[a].2.2.1, .int .i64 p.it[a].2.2.2.1, .int .i64 p.it[a].2.2.2.2.1, .int .i64 p.it[a].2.2.2.2.2.1, .int .i64 p.it[a].2.2.2.2.2.2.1, .int .i64 p.it[a].2.2.2.2.2.2.2] := (boxOf_alloc wr #[.string p.it[a].1, .string p.it[a].2.1, .int .i64 p.it[a].2.2.1, .int .i64 p.it[a].2.2.2.1, .int .i64 p.it[a].2.2.2.2.1, .int .i64 p.it[a].2.2.2.2.2.1, .int .i64 p.it[a].2.2.2.2.2.2.1, .int .i64 p.it[a].2.2.2.2.2.2.2] 47).keep (Below.refl _ _).drew
      have hbb : b < wr.heap.size := hst.fl.blt (by omega)
      replace hst := hst.keep hs
      have hNb : wr.heap.size ≠ b := by omega
      clear hbb b0 b1 b2 b3 b4 b5 b6 bl t0 t1 t2 t3 t4 t5 t6 t7 cO2 hbi
      generalize (wr.alloc (.cells #[.string p.it[a].1, .string p.it[a].2.1, .int .i64 p.it[a].2.2.1, .int .i64 p.it[a].2.2.2.1, .int .i64 p.it[a].2.2.2.2.1, .int .i64 p.it[a].2.2.2.2.2.1, .int .i64 p.it[a].2.2.2.2.2.2.1, .int .i64 p.it[a].2.2.2.2.2.2.2] 47)).drew = V at *
      generalize wr.heap.size = NX at *
      clear hs
      have cO := hst.ord.cell (j := K) (by rw [natI_len]; exact hKl)
      have cO2 : V.cell? ⟨g8, K, none⟩ = some (.int .i64 (a : Int)) := by rw [cO]; simp [natI, HAO.out]
      have hRl : R.length = p.it.length := hst.fl.1.symm
      have qR : a < R.length := by omega
      have qL : a < L.length := by have := hst.fls.len; omega
      obtain ⟨y5, _⟩ := sl_at hst.fl a qR
      have hneed := hst.fls.at_ a qR qL
      have hokr := HB.out _ (List.getElem_mem qL)
      obtain ⟨⟨A5, m5, d5⟩, hr5⟩ : ∃ x, R[a] = x := ⟨_, rfl⟩
      rw [hr5] at y5 hneed
      generalize L[a] = l5 at *
      dsimp only at y5 hneed
      have hnl := hokr.1
      have hm5 : m5 = l5.length := hneed.1
      subst hm5
      clear hr5 hokr cO
      have x2 := BX.2 2 _ rfl
      have xl := BX.1
      have hkk := HO.out.it _ (List.getElem_mem hal)
      by_cases hk2 : p.it[a].2.2.1 = 2
      case pos =>
        have hkb : (p.it[a].2.2.1 == 2) = true := by simp [hk2]
        clear hk2
        go_wp2_with fail
        clear y5 x2 xl cO2
        go_loopw [13] (fun t wi => ∃ (i : Nat) (R : List FlR) (L : List (List Fl)), i ≤ l5.length ∧ t = .int .i64 i ∧ Hid (∀ x ∈ L, okFls 1000 1000000000 x) ∧ PaSt w [.slice (some ⟨bi, oi, none⟩) p.it.length c0, .slice a1 p.ls.length c1, .slice a2 n2 c2, .slice a3 n3 c3, .slice a4 n4 c4, .slice a5 n5 c5, .slice a6 n6 c6] ord g8 q8 b p.it.length c9 (.slice A8 l.length c8) l R L wi ∧ BoxOf wi NX [.string p.it[a].1, .string p.it[a].2.1, .int .i64 p.it[a].2.2.1, .int .i64 p.it[a].2.2.2.1, .int .i64 p.it[a].2.2.2.2.1, .int .i64 p.it[a].2.2.2.2.2.1, .int .i64 p.it[a].2.2.2.2.2.2.1, .int .i64 p.it[a].2.2.2.2.2.2.2] ∧ OwnRows flF 107 wi (w.heap.size + 1) A5 l5.length d5 l5) (fun t _ => l5.length - (intOf t).toNat)
        case atStart => exact ⟨0, R, L, by omega, rfl, HB, hst, BX, hneed⟩
        case round =>
          clear hst BX hneed HB qR qL hRl
          obtain ⟨i, R, L, hi, rfl, HB, hst, BX, hneed⟩ := hrel
          by_cases hlt : i < l5.length
          case neg =>
            obtain rfl : i = l5.length := by omega
            go_wp2_with fail
            go_roundw
            case rel => exact ⟨K + 1, l, R, L, by omega, by go_num, by omega, HOK, HB, hst⟩
            case measure => simp [intOf]; omega
          obtain ⟨bf, of, hfe, hbf, m0, m1⟩ := flow_at (hneed.rows (by omega)) hlt
          subst hfe
          have ii : (i : Int) < (l5.length : Int) := by omega
          have hwi : IntKind.i64.wrap ((i : Int) + 1) = (i : Int) + 1 := IntWalk.i64_in _ (by omega)
          have hbfb : bf ≠ b := row_off hneed.val hst.fl (by decide) bf rfl
          obtain ⟨b0, b1, b2, b3, b4, b5, b6, bl⟩ := hst.box.seven
          have x0 := BX.2 0 _ rfl
          have hblt : b < wr.heap.size := hst.fl.blt (by omega)
          have hge := hst.ge
          have HG1 : Hid (l5[i] = (l5[i].1, l5[i].2)) := rfl
          generalize l5[i].1 = fd at *
          generalize l5[i].2 = fq at *
          by_cases hbig : 100000 < fq
          case pos =>
            have hbd : decide (100000 < fq) = true := decide_eq_true hbig
            go_wp2_with fail
            refine wp_region_held_drew (S := fun w' => w'.cell? ⟨bf, of + i * 2 + 1, none⟩ = some (.int .i64 fq) ∧ w' = wr.drew) (by kernel_rfl) (⟨m1, rfl⟩) (fun hHeld => ?_)
            refine held1 0 (some 82) hHeld ?_
            refine held1 1 (some 83) hHeld ?_
            refine held1 2 (some 84) hHeld ?_
            refine held1 3 (some 85) hHeld ?_
            refine held1 4 (some 86) hHeld ?_
            refine held1 5 (some 87) hHeld ?_
            refine held1 6 (some 88) hHeld ?_
            refine held0 7 (some 89) hHeld ?_
            refine held0 8 (some 90) hHeld ?_
            refine held0 9 (some 91) hHeld ?_
            refine held0 10 (some 92) hHeld ?_
            refine held0 11 (some 93) hHeld ?_
            refine held0 12 (some 94) hHeld ?_
            refine held0 13 (some 95) hHeld ?_
            refine held0 14 (some 96) hHeld ?_
            refine held0 15 (some 97) hHeld ?_
            refine held0 16 (some 98) hHeld ?_
            refine held0 17 (some 99) hHeld ?_
            refine held0 18 (some 100) hHeld ?_
            refine held0 19 (some 101) hHeld ?_
            refine held0 20 (some 102) hHeld ?_
            refine held0 21 (some 103) hHeld ?_
            refine held0 22 (some 104) hHeld ?_
            refine held1 23 (some 105) hHeld ?_
            refine wpAnyH_done (by kernel_rfl) ?_ _
            clear hHeld
            have hbd9 := hst.below.drew
            go_wp2_with fail
            go_ret2
            exact planDrawn_no rfl hbd9
          have hbd : decide (100000 < fq) = false := decide_eq_false hbig
          have hcell : ∀ W, Only b (b + 1) wr W → ∀ N u o, N ≠ b → N < wr.heap.size → wr.cell? ⟨N, o, none⟩ = some u → W.cell? ⟨N, o, none⟩ = some u := fun W ho N u o hne hl h => (World.cell?_of_block (ho.block N hl (by omega))).trans h
          have hstd : PaSt w [.slice (some ⟨bi, oi, none⟩) p.it.length c0, .slice a1 p.ls.length c1, .slice a2 n2 c2, .slice a3 n3 c3, .slice a4 n4 c4, .slice a5 n5 c5, .slice a6 n6 c6] ord g8 q8 b p.it.length c9 (.slice A8 l.length c8) l R L wr.drew := hst.keep (Below.refl _ _).drew
          have hkeep : ∀ w'', Only b (b + 1) wr.drew w'' → PlantIn w'' (⟨⟨(some ⟨bi, oi, none⟩), p.it.length, c0⟩, ⟨a1, p.ls.length, c1⟩, ⟨a2, n2, c2⟩, ⟨a3, n3, c3⟩, ⟨a4, n4, c4⟩, ⟨a5, n5, c5⟩, ⟨a6, n6, c6⟩⟩ : PtR) p := fun w'' ho => HP.out.keep (below_only hstd.below ho (by omega) hstd.below.size)
          have HKP := Lib.hid hkeep
          clear hkeep
          have hxlt := BX.1
          go_wp2_with fail
          refine wp_region_held_drew (S := fun w' => w'.cell? ⟨w.heap.size, 0, none⟩ = some (.slice (some ⟨bi, oi, none⟩) p.it.length c0) ∧ w'.cell? ⟨w.heap.size, 1, none⟩ = some (.slice a1 p.ls.length c1) ∧ w'.cell? ⟨w.heap.size, 2, none⟩ = some (.slice a2 n2 c2) ∧ w'.cell? ⟨w.heap.size, 3, none⟩ = some (.slice a3 n3 c3) ∧ w'.cell? ⟨w.heap.size, 4, none⟩ = some (.slice a4 n4 c4) ∧ w'.cell? ⟨w.heap.size, 5, none⟩ = some (.slice a5 n5 c5) ∧ w'.cell? ⟨w.heap.size, 6, none⟩ = some (.slice a6 n6 c6) ∧ w'.cell? ⟨NX, 0, none⟩ = some (.string p.it[a].1) ∧ w'.cell? ⟨bf, of + i * 2, none⟩ = some (.int .i64 fd) ∧ w'.cell? ⟨bf, of + i * 2 + 1, none⟩ = some (.int .i64 fq) ∧ Only b (b + 1) wr w') (by kernel_rfl) (⟨b0, b1, b2, b3, b4, b5, b6, x0, m0, m1, only_drewN (Only.refl b (b + 1) wr) 1⟩) (fun hHeld => ?_)
          refine held1 0 (some 82) hHeld ?_
          refine held1 1 (some 83) hHeld ?_
          refine held1 2 (some 84) hHeld ?_
          refine held1 3 (some 85) hHeld ?_
          refine held1 4 (some 86) hHeld ?_
          refine held1 5 (some 87) hHeld ?_
          refine held1 6 (some 88) hHeld ?_
          refine held1 7 (some 89) hHeld ?_
          refine held1 8 (some 90) hHeld ?_
          refine held1 9 (some 91) hHeld ?_
          refine held1 10 (some 92) hHeld ?_
          refine held1 11 (some 93) hHeld ?_
          refine held1 12 (some 94) hHeld ?_
          refine held1 13 (some 95) hHeld ?_
          refine held1 14 (some 96) hHeld ?_
          refine held1 15 (some 97) hHeld ?_
          refine held1 16 (some 98) hHeld ?_
          refine held1 17 (some 99) hHeld ?_
          refine held1 18 (some 100) hHeld ?_
          refine held1 19 (some 101) hHeld ?_
          refine held1 20 (some 102) hHeld ?_
          refine held_do 21 fun K hK => ?_
          go_simp
          go_at_call 59
          refine (l18Parts_any (⟨⟨(some ⟨bi, oi, none⟩), p.it.length, c0⟩, ⟨a1, p.ls.length, c1⟩, ⟨a2, n2, c2⟩, ⟨a3, n3, c3⟩, ⟨a4, n4, c4⟩, ⟨a5, n5, c5⟩, ⟨a6, n6, c6⟩⟩ : PtR) p p.it[a].1 fq fd b p.it.length c9 (w.heap.size + 1) R L _ HKP.out HO.out hstd.fl hstd.fls rfl h12 HB.out hstd.box.1 (by simpa using hblt)).mono ?_
          rintro e w6 ⟨is, R6, L6, rfl, hF6, hL6, hB6, hO6⟩
          have hOall : Only b (b + 1) wr w6 := (only_drewN (Only.refl b (b + 1) wr) 1).trans hO6
          go_simp
          refine hK.out _ _ (⟨hcell _ hOall w.heap.size _ _ (by omega) bl b0, hcell _ hOall w.heap.size _ _ (by omega) bl b1, hcell _ hOall w.heap.size _ _ (by omega) bl b2, hcell _ hOall w.heap.size _ _ (by omega) bl b3, hcell _ hOall w.heap.size _ _ (by omega) bl b4, hcell _ hOall w.heap.size _ _ (by omega) bl b5, hcell _ hOall w.heap.size _ _ (by omega) bl b6, hcell _ hOall NX _ _ hNb hxlt x0, hcell _ hOall bf _ _ hbfb hbf m0, hcell _ hOall bf _ _ hbfb hbf m1, hOall⟩) (fun hHeld => ?_)
          clear hK K
          refine held1 22 (some 104) hHeld ?_
          refine held1 23 (some 105) hHeld ?_
          refine wpAnyH_done (by kernel_rfl) ?_ _
          have hst6 := hstd.parts hO6 hF6 hL6
          have hOw := hHeld.2.2.2.2.2.2.2.2.2.2
          have BX6 := BX.onlyB hOw hNb
          have HB6 := Lib.hid hB6
          have hst0 := hst
          clear hHeld hstd HKP hO6 hF6 hL6 hB6 hst BX hcell b0 b1 b2 b3 b4 b5 b6 bl x0 hxlt HB hblt
          have hneed6 := hneed.kept (b := b) (R := R) hst0.fl (by decide) (fun k hk hne => hOw.block k hk (by omega))
          clear hneed m0 m1 hbf hst0
          cases is
          case false =>
            go_wp2_with fail
            go_ret2
            exact planDrawn_no rfl hst6.below
          go_wp2_with fail
          go_roundw
          case rel => exact ⟨i + 1, R6, L6, by omega, by go_num, Lib.hid (HB6.out (by trivial)), hst6, BX6, hneed6⟩
          case measure => simp [intOf]; omega
      have hkb : (p.it[a].2.2.1 == 2) = false := by simp [hk2]
      obtain ⟨b0, b1, b2, b3, b4, b5, b6, bl⟩ := hst.box.seven
      have x0 := BX.2 0 _ rfl
      go_wp2_with fail
      refine (specPlanItem_any (⟨⟨(some ⟨bi, oi, none⟩), p.it.length, c0⟩, ⟨a1, p.ls.length, c1⟩, ⟨a2, n2, c2⟩, ⟨a3, n3, c3⟩, ⟨a4, n4, c4⟩, ⟨a5, n5, c5⟩, ⟨a6, n6, c6⟩⟩ : PtR) p p.it[a].1 A5 _ d5 l5 _ (HP.out.keep hst.below) HO.out hkk.1 (hneed.rows (by omega))).mono ?_
      rintro e w5 ⟨A6, c6', rfl, ho6, hs⟩
      have hp40 := planItem_len p p.it[a].1 l5
      have HPK := Lib.hid (planItem_ok p p.it[a].1 l5 hkk.1)
      generalize planItem p p.it[a].1 l5 = pr at *
      obtain ⟨pl, pb⟩ := pr
      dsimp only at ho6 hp40 HPK ⊢
      have hst5 := hst.keep hs
      have BX5 := BX.keep hs
      have ho6' := ho6.lower (lo' := w.heap.size + 1) hst.box.1
      clear hst BX hs hneed y5 x2 xl x0 b0 b1 b2 b3 b4 b5 b6 bl cO2 ho6 qR qL hRl
      cases pb
      case false =>
        go_wp2_with fail
        go_ret2
        exact planDrawn_no rfl hst5.below
      go_wp2_with fail
      go_loopw [16] (fun t wi => ∃ (i : Nat) (R : List FlR) (L : List (List Fl)), i ≤ pl.length ∧ t = .int .i64 i ∧ Hid (∀ x ∈ L, okFls 1000 1000000000 x) ∧ PaSt w [.slice (some ⟨bi, oi, none⟩) p.it.length c0, .slice a1 p.ls.length c1, .slice a2 n2 c2, .slice a3 n3 c3, .slice a4 n4 c4, .slice a5 n5 c5, .slice a6 n6 c6] ord g8 q8 b p.it.length c9 (.slice A8 l.length c8) l R L wi ∧ BoxOf wi NX [.string p.it[a].1, .string p.it[a].2.1, .int .i64 p.it[a].2.2.1, .int .i64 p.it[a].2.2.2.1, .int .i64 p.it[a].2.2.2.2.1, .int .i64 p.it[a].2.2.2.2.2.1, .int .i64 p.it[a].2.2.2.2.2.2.1, .int .i64 p.it[a].2.2.2.2.2.2.2] ∧ OwnRows plF 44 wi (w.heap.size + 1) A6 pl.length c6' pl) (fun t _ => pl.length - (intOf t).toNat)
      case atStart => exact ⟨0, R, L, by omega, rfl, HB, hst5, BX5, ho6'⟩
      case round =>
        clear hst5 BX5 ho6' HB
        obtain ⟨i, R, L, hi, rfl, HB, hst, BX, hneed⟩ := hrel
        by_cases hlt : i < pl.length
        case neg =>
          obtain rfl : i = pl.length := by omega
          have hlen9 : l.length ≤ 16777216 := by omega
          go_wp2_with (at_builtin; refine wpList_append_rows plannedElem plOne rfl _ _ rfl rfl hst.out hlen9 rfl (hneed.rows (by omega)) hst.box.1 ?_; intro v9 w9 hr9 hg9)
          have hst9 := hst.more hg9 hr9
          have HOK9 : Hid (∀ x ∈ l ++ pl, okPl x) := fun x hx => by
            rcases List.mem_append.1 hx with h | h
            · exact HOK.out x h
            · exact HPK.out x h
          go_roundw
          case rel => exact ⟨K + 1, l ++ pl, R, L, by omega, by go_num, by rw [List.length_append]; omega, HOK9, HB, hst9⟩
          case measure => simp [intOf]; omega
        obtain ⟨bf, of, hfe, hbf, _, m1, m2, _, _⟩ := planned_at (hneed.rows (by omega)) hlt
        subst hfe
        have ii : (i : Int) < (pl.length : Int) := by omega
        have hwi : IntKind.i64.wrap ((i : Int) + 1) = (i : Int) + 1 := IntWalk.i64_in _ (by omega)
        have hbfb : bf ≠ b := row_off hneed.val hst.fl (by decide) bf rfl
        obtain ⟨b0, b1, b2, b3, b4, b5, b6, bl⟩ := hst.box.seven
        have x0 := BX.2 0 _ rfl
        have hblt : b < wr.heap.size := hst.fl.blt (by omega)
        have hge := hst.ge
        generalize pl[i].2.1 = fq at *
        generalize pl[i].2.2.1 = fd at *
        have hcell : ∀ W, Only b (b + 1) wr W → ∀ N u o, N ≠ b → N < wr.heap.size → wr.cell? ⟨N, o, none⟩ = some u → W.cell? ⟨N, o, none⟩ = some u := fun W ho N u o hne hl h => (World.cell?_of_block (ho.block N hl (by omega))).trans h
        have hstd : PaSt w [.slice (some ⟨bi, oi, none⟩) p.it.length c0, .slice a1 p.ls.length c1, .slice a2 n2 c2, .slice a3 n3 c3, .slice a4 n4 c4, .slice a5 n5 c5, .slice a6 n6 c6] ord g8 q8 b p.it.length c9 (.slice A8 l.length c8) l R L wr.drew := hst.keep (Below.refl _ _).drew
        have hkeep : ∀ w'', Only b (b + 1) wr.drew w'' → PlantIn w'' (⟨⟨(some ⟨bi, oi, none⟩), p.it.length, c0⟩, ⟨a1, p.ls.length, c1⟩, ⟨a2, n2, c2⟩, ⟨a3, n3, c3⟩, ⟨a4, n4, c4⟩, ⟨a5, n5, c5⟩, ⟨a6, n6, c6⟩⟩ : PtR) p := fun w'' ho => HP.out.keep (below_only hstd.below ho (by omega) hstd.below.size)
        have HKP := Lib.hid hkeep
        clear hkeep
        have hxlt := BX.1
        go_wp2_with fail
        refine wp_region_held_drew (S := fun w' => w'.cell? ⟨w.heap.size, 0, none⟩ = some (.slice (some ⟨bi, oi, none⟩) p.it.length c0) ∧ w'.cell? ⟨w.heap.size, 1, none⟩ = some (.slice a1 p.ls.length c1) ∧ w'.cell? ⟨w.heap.size, 2, none⟩ = some (.slice a2 n2 c2) ∧ w'.cell? ⟨w.heap.size, 3, none⟩ = some (.slice a3 n3 c3) ∧ w'.cell? ⟨w.heap.size, 4, none⟩ = some (.slice a4 n4 c4) ∧ w'.cell? ⟨w.heap.size, 5, none⟩ = some (.slice a5 n5 c5) ∧ w'.cell? ⟨w.heap.size, 6, none⟩ = some (.slice a6 n6 c6) ∧ w'.cell? ⟨NX, 0, none⟩ = some (.string p.it[a].1) ∧ w'.cell? ⟨bf, of + i * 5 + 1, none⟩ = some (.int .i64 fq) ∧ w'.cell? ⟨bf, of + i * 5 + 2, none⟩ = some (.int .i64 fd) ∧ Only b (b + 1) wr w') (by kernel_rfl) (⟨b0, b1, b2, b3, b4, b5, b6, x0, m1, m2, only_drewN (Only.refl b (b + 1) wr) 1⟩) (fun hHeld => ?_)
        refine held1 0 (some 124) hHeld ?_
        refine held1 1 (some 125) hHeld ?_
        refine held1 2 (some 126) hHeld ?_
        refine held1 3 (some 127) hHeld ?_
        refine held1 4 (some 128) hHeld ?_
        refine held1 5 (some 129) hHeld ?_
        refine held1 6 (some 130) hHeld ?_
        refine held1 7 (some 131) hHeld ?_
        refine held1 8 (some 132) hHeld ?_
        refine held1 9 (some 133) hHeld ?_
        refine held1 10 (some 134) hHeld ?_
        refine held1 11 (some 135) hHeld ?_
        refine held1 12 (some 136) hHeld ?_
        refine held1 13 (some 137) hHeld ?_
        refine held_do 14 fun K hK => ?_
        go_simp
        go_at_call 59
        refine (l18Parts_any (⟨⟨(some ⟨bi, oi, none⟩), p.it.length, c0⟩, ⟨a1, p.ls.length, c1⟩, ⟨a2, n2, c2⟩, ⟨a3, n3, c3⟩, ⟨a4, n4, c4⟩, ⟨a5, n5, c5⟩, ⟨a6, n6, c6⟩⟩ : PtR) p p.it[a].1 fq fd b p.it.length c9 (w.heap.size + 1) R L _ HKP.out HO.out hstd.fl hstd.fls rfl h12 HB.out hstd.box.1 (by simpa using hblt)).mono ?_
        rintro e w6 ⟨is, R6, L6, rfl, hF6, hL6, hB6, hO6⟩
        have hOall : Only b (b + 1) wr w6 := (only_drewN (Only.refl b (b + 1) wr) 1).trans hO6
        go_simp
        refine hK.out _ _ (⟨hcell _ hOall w.heap.size _ _ (by omega) bl b0, hcell _ hOall w.heap.size _ _ (by omega) bl b1, hcell _ hOall w.heap.size _ _ (by omega) bl b2, hcell _ hOall w.heap.size _ _ (by omega) bl b3, hcell _ hOall w.heap.size _ _ (by omega) bl b4, hcell _ hOall w.heap.size _ _ (by omega) bl b5, hcell _ hOall w.heap.size _ _ (by omega) bl b6, hcell _ hOall NX _ _ hNb hxlt x0, hcell _ hOall bf _ _ hbfb hbf m1, hcell _ hOall bf _ _ hbfb hbf m2, hOall⟩) (fun hHeld => ?_)
        clear hK K
        refine held1 15 (some 139) hHeld ?_
        refine wpAnyH_done (by kernel_rfl) ?_ _
        have hst6 := hstd.parts hO6 hF6 hL6
        have hOw := hHeld.2.2.2.2.2.2.2.2.2.2
        have BX6 := BX.onlyB hOw hNb
        have HB6 := Lib.hid hB6
        have hst0 := hst
        clear hHeld hstd HKP hO6 hF6 hL6 hB6 hst BX hcell b0 b1 b2 b3 b4 b5 b6 bl x0 hxlt HB hblt
        have hneed6 := hneed.kept (b := b) (R := R) hst0.fl (by decide) (fun k hk hne => hOw.block k hk (by omega))
        clear hneed m1 m2 hbf hst0
        cases is
        case false =>
          go_wp2_with fail
          go_ret2
          exact planDrawn_no rfl hst6.below
        go_wp2_with fail
        go_roundw
        case rel => exact ⟨i + 1, R6, L6, by omega, by go_num, Lib.hid (HB6.out (by trivial)), hst6, BX6, hneed6⟩
        case measure => simp [intOf]; omega
end Go.Proofs.Ytlkolehdikfddaa
