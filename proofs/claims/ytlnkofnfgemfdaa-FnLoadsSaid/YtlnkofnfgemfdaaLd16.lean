/- Part 16 of the texts of this claim: The walk of the program's LoadsOf. -/
import Derived.Test.YtlnkofnfgemfdaaLd14
import Derived.Test.YtlnkofnfgemfdaaLd15
/- The walk of the program's LoadsOf. -/
namespace Go.Proofs.Ytlnkofnfgemfdaa
open Go.RowKit Go.Maps Go.WideMaps
theorem nil_row {α : Type} (F : Flat α) (e : TypeId) (w : World) (lo : Nat) : RowVal F e w lo (.slice none 0 0) [] := ⟨by simp, .inl ⟨rfl, rfl⟩⟩
def okLt (S : List Ld) : Prop := SortedL S ∧ ∀ x ∈ S, x.1.size ≤ 9223372036854775807 ∧ 0 ≤ x.2.1 ∧ x.2.1 ≤ 999
theorem okLt_nil : okLt [] := ⟨List.Pairwise.nil, by simp⟩
theorem okLt_add {S : List Ld} (h : okLt S) {c : ByteArray} {d : Int} (hc : c.size ≤ 9223372036854775807) (hd : 0 ≤ d ∧ d ≤ 999) (q : Int) : okLt (addL S c d q) := by
  refine ⟨addL_sorted h.1 c d q, fun x hx => ?_⟩
  rcases (addL_key S c d q x.1 x.2.1).1 ⟨x, hx, rfl, rfl⟩ with ⟨y, hy, e1, e2⟩ | ⟨e1, e2⟩
  · rw [← e1, ← e2]; exact h.2 y hy
  · rw [← e1, ← e2]; exact ⟨hc, hd.1, hd.2⟩
theorem okLt_key {S : List Ld} (h : okLt S) : okLs S := fun x hx => by
  obtain ⟨h1, h2, h3⟩ := h.2 x hx
  exact ⟨by unfold maxLen; exact h1, WalkArith.wf_i64 (by omega)⟩
theorem valL_bd {S : List Ld} {B : Int} (hB : 0 ≤ B) (h : ∀ x ∈ S, 0 ≤ x.2.2 ∧ x.2.2 ≤ B) (c : ByteArray) (d : Int) : 0 ≤ valL S c d ∧ valL S c d ≤ B := by
  induction S with
  | nil => exact ⟨Int.le_refl 0, hB⟩
  | cons x t ih =>
    unfold valL
    split
    · exact h x List.mem_cons_self
    · exact ih fun y hy => h y (List.mem_cons_of_mem _ hy)
theorem own_keepM {w w' : World} {b n : Nat} {D : DataW Unit} {P : Program} {k : TypeId} {R : Value → Option (DataW Unit × List MemPlace)} (h : w.ownsMap P k R b n D) (hb : Below w.heap.size w w') : w'.ownsMap P k R b n D := by
  have h1 := h.lt
  obtain ⟨es, clock, h2, h3⟩ := h
  exact ⟨es, clock, (hb.block b h1).trans h2, h3⟩
theorem wpList_append_grown {α : Type} {F : Flat α} {t e : TypeId} (hE : ElemOk F t e) {w1 : World} {ops : Array Oper} {rest : List Oper} {o : Oper} {a : Act} {Q : Exit → Act → World → Prop} (hgd : o.guard = none) (s x : Operand)
    (ho : o.op = .call { callee := .builtin .append, args := #[s, x], argTypes := #[t, t] }) {lo : Nat} {v : Value} {l : List α} (hs : a.eval s = v) (hrow : RowVal F e w1 lo v l) (hlen : l.length ≤ 16777216)
    (y : α) (cs : Array Value) (hcs : cs.toList = F.enc y) (hone : ∀ u ∈ cs.toList, u.oneCell' = true) (H c : Nat) (hH : w1.heap.size = H) (hx : a.eval x = .slice (some ⟨H, 0, none⟩) 1 c) (hlo : lo ≤ w1.heap.size)
    (h : ∀ v' w', RowVal F e w' lo v' (l ++ [y]) → (w1.alloc (.cells cs e)).grownBy w' v.ownBlock → (∀ g, g < w1.heap.size → v.ownBlock ≠ some g → v'.ownBlock ≠ some g) → wpList Try.prog ops Q rest (a.put o.dst v') w') :
    wpList Try.prog ops Q (o :: rest) a (w1.alloc (.cells cs e)) := by
  obtain ⟨i, z, bytes, ht, hi, hz, hsz, hby, hzs, hpos, hbb⟩ := hE
  have hb2 : (l.length + 1) * bytes ≤ 140737488355328 := Nat.le_trans (Nat.mul_le_mul (show l.length + 1 ≤ 16777217 by omega) hbb) (by omega)
  refine wpList_append_own_at _ hgd s x t ho lo e i z F.sz bytes ht hi hz hsz hby hzs hpos v l.length (l.flatMap F.enc) hs (hrow.alloc _) ⟨H, 0, none⟩ 1 c cs.toList hx (by rw [hcs, F.len, Nat.one_mul]) (news_at hH cs e) hone (by unfold maxLen; omega) hb2 (by simp; omega) (fun v' w' h2 h3 _ h5 => h v' w' (RowVal.snoc hcs h2) h3 (fun g hg hne => ?_))
  rcases h5 with h5 | h5
  · rw [h5]; exact hne
  · rw [h5]; simp; omega
abbrev OwnL (w : World) (B n : Nat) (D : DataW Unit) : Prop := w.ownsMap Try.prog 142 (plainElem Try.prog 3) B n D
set_option maxRecDepth 100000 in
set_option maxHeartbeats 8000000 in
theorem implLoadsOf_any (A B : Option Addr) (n c m d : Nat) (r : List Rt) (l : List Pl) (w : World) (hr : RoutingsIn w A n r) (hl : PlannedsIn w B m l) (hok : ∀ x ∈ r, okRt x) :
    Calls Try.prog 34 #[.slice A n c, .slice B m d] w (PairRowsOf ldF 91 w (loadsOf r l)) := by
  have hnr := hr.len
  obtain rfl := hr.num
  have hnl := hl.len
  obtain rfl := hl.1
  have HO := Lib.hid hok
  clear hok
  have hmm := @run_makeMap Try.prog
  go_enter Try.func34, Try.ntmps34
  go_wp2_with fail
  refine (implAreRoutings_any _ _ _ r _ hr HO.out).mono ?_
  rintro e w1 ⟨rfl, hb0⟩
  cases g1 : areRoutings r
  · go_wp2_with fail
    go_ret2
    exact pairRowsOf_mk (loadsOf_no (by rw [g1]; rfl)) (nil_row _ _ _ _) hb0
  by_cases h500 : (l.length : Int) ≤ 500
  case neg =>
    have h5 : (500 : Int) < (l.length : Int) := by omega
    go_wp2_with fail
    go_ret2
    exact pairRowsOf_mk (loadsOf_no (by rw [g1, decide_eq_false (by omega)]; rfl)) (nil_row _ _ _ _) hb0
  have HAR := Lib.hid (areRoutings_parts g1)
  have HLB : Hid (∀ k, k ≤ l.length → (loadsTo r l k).length ≤ 3000 ∧ ∀ x ∈ loadsTo r l k, 0 ≤ x.2.2 ∧ x.2.2 ≤ 300003000000) := fun k hk => by
    obtain ⟨h1, h2⟩ := loadsTo_bd0 r l k g1
    exact ⟨by omega, fun x hx => by have := h2 x hx; omega⟩
  go_wp2_with fail
  go_loopw [29] (fun i wr => ∃ k : Nat, k ≤ l.length ∧ i = .int .i64 k ∧ Hid ((l.take k).all okPl1 = true) ∧ Below w.heap.size w wr) (fun i _ => l.length - (intOf i).toNat)
  case atStart => exact ⟨0, by omega, rfl, rfl, hb0⟩
  case round =>
    clear hb0
    obtain ⟨k, hk, rfl, HI, hb⟩ := hrel
    by_cases hlt : k < l.length
    case pos =>
      have HAT := Lib.hid (all_take l okPl1 k hlt)
      obtain ⟨b, o, rfl, hbl, hc0, hc1, hc2, hc3, hc4⟩ := planned_at (hl.keep hb) hlt
      have BX : BoxOf (wr.alloc (.cells #[.string l[k].1, .int .i64 l[k].2.1, .int .i64 l[k].2.2.1, .int .i64 l[k].2.2.2.1, .bool l[k].2.2.2.2] 44)) wr.heap.size [.string l[k].1, .int .i64 l[k].2.1, .int .i64 l[k].2.2.1, .int .i64 l[k].2.2.2.1, .bool l[k].2.2.2.2] := boxOf_alloc wr #[.string l[k].1, .int .i64 l[k].2.1, .int .i64 l[k].2.2.1, .int .i64 l[k].2.2.2.1, .bool l[k].2.2.2.2] 44
      have x1 := BX.2 1 _ rfl
      have x2 := BX.2 2 _ rfl
      have hbq := hb.alloc hb.size (.cells #[.string l[k].1, .int .i64 l[k].2.1, .int .i64 l[k].2.2.1, .int .i64 l[k].2.2.2.1, .bool l[k].2.2.2.2] 44)
      cases g2 : inB l[k].2.1 1 100000
      case false =>
        have HF := Lib.hid (loadsOf_bad (r := r) hlt (by unfold okPl1; rw [g2]; rfl))
        go_wp2_with (go_at_call 59; refine (in_any _ _ _ _).mono ?_; rintro e w' ⟨rfl, rfl⟩)
        go_ret2
        exact pairRowsOf_mk HF.out (nil_row _ _ _ _) hbq
      cases g3 : inB l[k].2.2.1 0 999
      case false =>
        have HF := Lib.hid (loadsOf_bad (r := r) hlt (by unfold okPl1; rw [g2, g3]; rfl))
        go_wp2_with (go_at_call 59; refine (in_any _ _ _ _).mono ?_; rintro e w' ⟨rfl, rfl⟩)
        go_ret2
        exact pairRowsOf_mk HF.out (nil_row _ _ _ _) hbq
      have HY : Hid ((l.take (k + 1)).all okPl1 = true) := by show _ = _; rw [HAT.out, HI.out]; unfold okPl1; rw [g2, g3]; rfl
      go_wp2_with (go_at_call 59; refine (in_any _ _ _ _).mono ?_; rintro e w' ⟨rfl, rfl⟩)
      go_roundw
      case rel => exact ⟨k + 1, by omega, by go_num, HY.out, hbq⟩
      case measure => simp [intOf]; omega
    obtain rfl : k = l.length := by omega
    have HF := Lib.hid (loadsOf_yes g1 h500 HI.out)
    have HOK : Hid (∀ k (hk : k < l.length), okPl1 l[k] = true) := fun k hk => by
      have h := HI.out
      rw [List.take_length, List.all_eq_true] at h
      exact h _ (List.getElem_mem hk)
    have hm0 := World.ownsMap_made (H := Unit) wr Try.prog 142 (plainElem Try.prog 3)
    have hbm := hb.alloc hb.size (.map #[] 0)
    have hBm := hb.size
    generalize hBmE : wr.heap.size = Bm at *
    go_wp2_with fail
    clear hmm hb HI
    generalize wr.alloc (.map #[] 0) = wm at *
    go_loopw [47] (fun i wr => ∃ (k : Nat) (D : DataW Unit), k ≤ l.length ∧ i = .int .i64 k ∧ OwnL wr Bm (6 * k) D ∧ Hid (ViewL D (loadsTo r l k)) ∧ Hid (okLt (loadsTo r l k)) ∧ Below w.heap.size w wr) (fun i _ => l.length - (intOf i).toNat)
    case atStart => exact ⟨0, _, by omega, rfl, hm0, ViewL.empty, okLt_nil, hbm⟩
    case round =>
      clear hm0 hbm
      obtain ⟨k, D, hk, rfl, hm, HV, HS, hb⟩ := hrel
      by_cases hlt : k < l.length
      case pos =>
        have HLT := Lib.hid (loadsTo_succ r l k hlt)
        obtain ⟨g2, g3⟩ : inB l[k].2.1 1 100000 = true ∧ inB l[k].2.2.1 0 999 = true := by simpa [okPl1, Bool.and_eq_true] using HOK.out k hlt
        have hq9 := inB_iff.1 g2
        have hd9 := inB_iff.1 g3
        clear g2 g3
        obtain ⟨b, o, rfl, hbl, hc0, hc1, hc2, hc3, hc4⟩ := planned_at (hl.keep hb) hlt
        have BX : BoxOf (wr.alloc (.cells #[.string l[k].1, .int .i64 l[k].2.1, .int .i64 l[k].2.2.1, .int .i64 l[k].2.2.2.1, .bool l[k].2.2.2.2] 44)) wr.heap.size [.string l[k].1, .int .i64 l[k].2.1, .int .i64 l[k].2.2.1, .int .i64 l[k].2.2.2.1, .bool l[k].2.2.2.2] := boxOf_alloc wr #[.string l[k].1, .int .i64 l[k].2.1, .int .i64 l[k].2.2.1, .int .i64 l[k].2.2.2.1, .bool l[k].2.2.2.2] 44
        have x0 := BX.2 0 _ rfl
        replace hbm := hb.alloc hb.size (.cells #[.string l[k].1, .int .i64 l[k].2.1, .int .i64 l[k].2.2.1, .int .i64 l[k].2.2.2.1, .bool l[k].2.2.2.2] 44)
        have hBN := hm.lt
        replace hm := hm.alloc (.cells #[.string l[k].1, .int .i64 l[k].2.1, .int .i64 l[k].2.2.1, .int .i64 l[k].2.2.2.1, .bool l[k].2.2.2.2] 44)
        go_wp2_with fail
        generalize (wr.alloc (.cells #[.string l[k].1, .int .i64 l[k].2.1, .int .i64 l[k].2.2.1, .int .i64 l[k].2.2.2.1, .bool l[k].2.2.2.2] 44)) = wq at *
        generalize wr.heap.size = NX at *
        clear hc0 hc1 hc2 hc3 hc4 hbl hb
        refine (implFindRouting_any _ _ _ r _ _ (hr.keep hbm)).mono ?_
        rintro e w2 ⟨rfl, hs⟩
        replace BX := BX.keep hs
        replace hm := own_keepM hm hs
        have hb := below_on hbm hs
        clear hs hbm x0
        obtain ⟨f1, f2⟩ := findRt_bd r l[k].1
        by_cases hf : 0 ≤ findRt r l[k].1
        case neg =>
          have hf2 : findRt r l[k].1 < 0 := by omega
          have HSAME : Hid (loadsTo r l (k + 1) = loadsTo r l k) := by show _ = _; rw [HLT.out]; unfold loadsPl stepsOf; rw [if_neg hf]; rfl
          go_wp2_with fail
          go_roundw
          case rel => exact ⟨k + 1, D, by omega, by go_num, hm.mono (by omega), by rw [HSAME.out]; exact HV, by rw [HSAME.out]; exact HS, hb⟩
          case measure => simp [intOf]; omega
        obtain ⟨qn, hqn⟩ : ∃ qn : Nat, findRt r l[k].1 = (qn : Int) := ⟨(findRt r l[k].1).toNat, by omega⟩
        have q1 : qn < r.length := by omega
        have q2 : (qn : Int) < (r.length : Int) := by omega
        have q3 : (0 : Int) ≤ (qn : Int) := by omega
        have HST : Hid (stepsOf r l[k] = r[qn].2) := by show _ = _; unfold stepsOf; rw [if_pos hf, hqn, Int.toNat_natCast, rt_getD _ _ q1]
        obtain ⟨_, h6⟩ := isRouting_parts (HAR.out.2 qn q1)
        have HOK6 := Lib.hid (HO.out _ (List.getElem_mem q1)).2
        rw [hqn]
        clear hqn hf f1 f2
        have HL2 : Hid (loadsTo r l (k + 1) = (r[qn].2.take r[qn].2.length).foldl (loadsOne l[k]) (loadsTo r l k)) := by show _ = _; rw [HLT.out]; unfold loadsPl; rw [HST.out, List.take_length]
        have HFB := Lib.hid (fun j => loadsF_bd l[k] r[qn].2 (loadsTo r l k) j (HLB.out k hk).2)
        have HST1 := Lib.hid (fun j (hj : j < r[qn].2.length) => loadsF_succ l[k] r[qn].2 (loadsTo r l k) j hj)
        have HV0 : Hid (ViewL D ((r[qn].2.take 0).foldl (loadsOne l[k]) (loadsTo r l k))) := HV
        have HS0 : Hid (okLt ((r[qn].2.take 0).foldl (loadsOne l[k]) (loadsTo r l k))) := HS
        generalize loadsTo r l k = s0 at *
        obtain ⟨br, or_, Bs, ms, cs, hae, hbr, _, r1, hst⟩ := rt_at hr q1
        subst hae
        have hms := hst.1
        subst hms
        replace r1 := (hb.cell (p := ⟨br, or_ + qn * 2 + 1, none⟩) hbr).trans r1
        go_wp2_with fail
        clear r1 hbr HV HS
        have HW2 := Lib.hid hst
        clear hst
        go_loopw [63] (fun i wr => ∃ (j : Nat) (D : DataW Unit), j ≤ r[qn].2.length ∧ i = .int .i64 j ∧ OwnL wr Bm (6 * k + j) D ∧ Hid (ViewL D ((r[qn].2.take j).foldl (loadsOne l[k]) s0)) ∧ Hid (okLt ((r[qn].2.take j).foldl (loadsOne l[k]) s0)) ∧ BoxOf wr NX [.string l[k].1, .int .i64 l[k].2.1, .int .i64 l[k].2.2.1, .int .i64 l[k].2.2.2.1, .bool l[k].2.2.2.2] ∧ Below w.heap.size w wr) (fun i _ => r[qn].2.length - (intOf i).toNat)
        case atStart => exact ⟨0, D, by omega, rfl, hm, HV0, HS0, BX, hb⟩
        case round =>
          clear hm HV0 HS0 BX hb
          obtain ⟨j, D, hj, rfl, hm, HV, HS, BX, hb⟩ := hrel
          by_cases hjl : j < r[qn].2.length
          case neg =>
            obtain rfl : j = r[qn].2.length := by omega
            go_wp2_with fail
            go_roundw
            case rel => exact ⟨k + 1, D, by omega, by go_num, hm.mono (by omega), by rw [HL2.out]; exact HV, by rw [HL2.out]; exact HS, hb⟩
            case measure => simp [intOf]; omega
          obtain ⟨bs, os, hae, hbs, s1, s2, s3⟩ := step_at (HW2.out.keep hb) hjl
          subst hae
          have j1 : (j : Int) < (r[qn].2.length : Int) := by omega
          have HJ := Lib.hid (HST1.out j hjl)
          obtain ⟨hlj, hbj⟩ := HFB.out j
          have HBJ := Lib.hid hbj
          clear hbj
          have hsz9 := HOK6.out _ (List.getElem_mem hjl)
          generalize (r[qn].2.take j).foldl (loadsOne l[k]) s0 = sj at *
          have BS : BoxOf (wr.alloc (.cells #[.string r[qn].2[j].1, .int .i64 r[qn].2[j].2.1, .int .i64 r[qn].2[j].2.2] 136)) wr.heap.size [.string r[qn].2[j].1, .int .i64 r[qn].2[j].2.1, .int .i64 r[qn].2[j].2.2] := boxOf_alloc wr #[.string r[qn].2[j].1, .int .i64 r[qn].2[j].2.1, .int .i64 r[qn].2[j].2.2] 136
          have hs := below_alloc wr (.cells #[.string r[qn].2[j].1, .int .i64 r[qn].2[j].2.1, .int .i64 r[qn].2[j].2.2] 136)
          replace BX := BX.keep hs
          replace hm := hm.alloc (.cells #[.string r[qn].2[j].1, .int .i64 r[qn].2[j].2.1, .int .i64 r[qn].2[j].2.2] 136)
          replace hb := below_on hb hs
          have y0 := BS.2 0 _ rfl
          have y1 := BS.2 1 _ rfl
          have y2 := BS.2 2 _ rfl
          have x1 := BX.2 1 _ rfl
          go_wp2_with fail
          generalize (wr.alloc (.cells #[.string r[qn].2[j].1, .int .i64 r[qn].2[j].2.1, .int .i64 r[qn].2[j].2.2] 136)) = wq at *
          generalize wr.heap.size = NS at *
          clear s1 s2 s3 hs hbs
          refine (implStepTime_any r[qn].2[j] l[k].2.1 _ hsz9).mono ?_
          rintro e w6 ⟨rfl, hs⟩
          clear y0 y1 y2 x1
          replace BX := BX.keep hs
          replace BS := BS.keep hs
          replace hm := own_keepM hm hs
          replace hb := below_on hb hs
          clear hs
          have htb := stepTime_bd r[qn].2[j] l[k].2.1
          have HSTV : Hid (loadsOne l[k] sj r[qn].2[j] = addL sj r[qn].2[j].1 l[k].2.2.1 (stepTime r[qn].2[j] l[k].2.1).1) := rfl
          generalize stepTime r[qn].2[j] l[k].2.1 = tv at *
          have y0 : w6.drew.cell? ⟨NS, 0, none⟩ = some (.string r[qn].2[j].1) := BS.2 0 _ rfl
          have x2 : w6.drew.cell? ⟨NX, 2, none⟩ = some (.int .i64 l[k].2.2.1) := BX.2 2 _ rfl
          have hkk : okK r[qn].2[j].1 l[k].2.2.1 := ⟨by unfold maxLen; exact hsz9, WalkArith.wf_i64 (by omega)⟩
          have hkey : keyOf Try.prog 142 (.agg #[.string r[qn].2[j].1, .int .i64 l[k].2.2.1]) = some (keyP r[qn].2[j].1 l[k].2.2.1) := keyOf_at hkk.1 hkk.2
          obtain ⟨c0, st, w7, hat, _, H1, H2, H3, hg7, HW⟩ := own_entry hm.drew atLaw Try.underlying140 Try.underlying3 zeroI (by unfold maxLen; omega) hkey
          have hc0 := HV.out.at_ hkk hat
          obtain ⟨v0, v1⟩ := valL_bd (B := 300003000000 + 100001000 * j) (by omega) HBJ.out r[qn].2[j].1 l[k].2.2.1
          have hwr : IntKind.i64.wrap (c0 + tv.1) = c0 + tv.1 := IntWalk.i64_in _ (by omega)
          obtain ⟨w8, H4, hm8, hg8⟩ := HW (c0 + tv.1) (WalkArith.wf_i64 (by omega))
          have H2' : (Instr.mapEntry 140 (.map (some Bm)) (.agg #[.string r[qn].2[j].1, .int .i64 l[k].2.2.1])).run Try.prog w6.drew = .ok (.tuple #[.int .i64 c0, .int .i64 st]) w7 := H2
          have H4' : (Instr.entryStore 140 (.map (some Bm)) (.int .i64 st) (.int .i64 (c0 + tv.1))).run Try.prog w7 = .ok () w8 := H4
          clear HW H2 H4 hat hkey
          have HG8 := Lib.hid hg8
          have HM8 := Lib.hid hm8
          have HC0 := Lib.hid hc0
          clear hg8 hm8 hc0 hg7
          have hv := Lib.hid hsz9
          go_wp2_with fail
          go_region_with (fail)
          all_goals
            have hb8 : Below w.heap.size w w8 := hb.drew.trans (below_grown HG8.out hb.size (fun g hg => by cases hg; exact hBm))
            have BX8 := BoxOf.grown (w := w6.drew) BX HG8.out (by intro e; injection e; omega)
            have HV8 : Hid (ViewL (D.put (keyP r[qn].2[j].1 l[k].2.2.1) (.lit (.int .i64 (c0 + tv.1)))) (addL sj r[qn].2[j].1 l[k].2.2.1 tv.1)) := by show ViewL _ _; rw [HC0.out]; exact HV.out.add HS.out.1 hkk tv.1
            have HS8 : Hid (okLt (addL sj r[qn].2[j].1 l[k].2.2.1 tv.1)) := okLt_add HS.out hv.out hd9 _
            clear H1 H2' H3 H4' y0 x2
            go_wp2_with fail
            go_roundw
            case rel => exact ⟨j + 1, _, by omega, by go_num, HM8.out, by rw [HJ.out, HSTV.out]; exact HV8, by rw [HJ.out, HSTV.out]; exact HS8, BX8, hb8⟩
            case measure => simp [intOf]; omega
      obtain rfl : k = l.length := by omega
      generalize loadsTo r l l.length = S at *
      have hrow : RowVal ldF 91 (wr.alloc (.cells #[] 91)) w.heap.size (.slice (some ⟨wr.heap.size, 0, none⟩) 0 0) [] := empty_row rfl hb.size
      have hbq := hb.alloc hb.size (.cells #[] 91)
      have hBN := hm.lt
      have hsz := hm.size_le
      replace hm := hm.alloc (.cells #[] 91)
      have hzq : (wr.alloc (.cells #[] 91)).heap.size = wr.heap.size + 1 := by simp
      go_wp2_with (first
        | (at_range; refine wpList_range_own _ rfl _ 140 rfl 142 3 atKeyed Try.underlying140 _ Bm (6 * l.length) D rfl hm ?_; intro w5 hrg hg5 hs5))
      go_frame
      have hb5 := below_on hbq (below_none hg5)
      replace hrow := hrow.keep (below_none hg5)
      have HCO : Hid (Coll S [] (has D)) := Coll.start HV.out (okLt_key HS.out)
      generalize (wr.alloc (.cells #[] 91)) = wq at *
      generalize wr.heap.size = NW at *
      clear hm hb hbq hg5 hs5
      generalize wq.heap.size = NR at *
      have hNR : NW < NR := by omega
      clear hzq
      go_loopw [16] (fun v wr => ∃ (L : List Ld) (left : Lit → Bool) (cnt : Nat), wr.ranges Try.prog 142 (plainElem Try.prog 3) Bm NR (6 * l.length) D left cnt ∧ Hid (Coll S L left) ∧ RowVal ldF 91 wr w.heap.size v L ∧ v.ownBlock ≠ some Bm ∧ v.ownBlock ≠ some NR ∧ L.length + cnt ≤ 3000 ∧ Below w.heap.size w wr) (fun _ wr => wr.rangeLeft Bm NR)
      case atStart => exact ⟨[], _, _, hrg, HCO, hrow, by simp [Value.ownBlock]; omega, by simp [Value.ownBlock]; omega, by simp; omega, hb5⟩
      case round =>
        clear hrg HCO hrow hb5 hsz
        obtain ⟨L, left, cnt, hrg, HCO, hrow, hv1, hv2, hcnt, hb⟩ := hrel
        have hbn := hrg.owns.lt
        have hrn := hrg.lt
        go_wp2_with (first
          | (at_next; refine wpList_next_ranges (α := ByteArray × Int) (β := Int) _ rfl _ rfl 142 atKeyed (plainElem Try.prog 3) (fun x => .agg #[.string x.1, .int .i64 x.2]) (Value.int .i64) (fun key k h => by obtain ⟨c, d, h1, _⟩ := keyOf_at_inv h; exact ⟨(c, d), h1⟩) (fun v y h => by obtain ⟨a, h1, _⟩ := plainElem_int_inv Try.underlying3 h; exact ⟨a, h1⟩) Bm NR (6 * l.length) D left cnt rfl hrg ?_ ?_))
        · intro _ hl0
          have hmem := HCO.out.done hl0
          have hnd := HCO.out.2.1
          have hday : ∀ x ∈ S, 0 ≤ x.2.1 ∧ x.2.1 ≤ 999 := fun x hx => (HS.out.2 x hx).2
          have hL : L.length ≤ 16777216 := by omega
          have HMEM := Lib.hid hmem
          have HDAY := Lib.hid hday
          have HND := Lib.hid hnd
          clear hmem hday hnd hl0
          go_wp2_with (go_at_call 99; refine (implSort_any _ S L _ w.heap.size hrow HS.out.1 HMEM.out HND.out HDAY.out hL).mono ?_; rintro e w9 ⟨rfl, hrow9, hb9⟩)
          go_ret2
          exact pairRowsOf_mk HF.out hrow9 (hb.trans (hb9 _ (Nat.le_refl _) hb.size))
        · intro x1 x2 cv kx yd yp w6 cnt6 hkey hlk hv hat hrg6 hlt6 hg6 hs6 hen
          obtain ⟨xc, xd, ex, rfl, hxs, hxd⟩ := keyOf_at_inv hkey
          obtain ⟨rfl, rfl⟩ : x1 = xc ∧ x2 = xd := by unfold atV at ex; injection ex with ex; simpa using ex
          clear ex
          obtain ⟨cv', ec, ey, _⟩ := plainElem_int_inv Try.underlying3 hv
          obtain rfl : cv = cv' := by injection ec
          obtain ⟨rfl, rfl⟩ := Prod.mk.inj ey
          clear ec hv ey
          obtain ⟨_, hco⟩ := Coll.step HV.out HS.out.1 (okLt_key HS.out) HCO.out ⟨hxs, hxd⟩ hlk hat
          have HCO6 := Lib.hid hco
          clear hco hlk hat hkey
          have hb6 : Below w.heap.size w w6 := hb.trans (below_grown hg6 hb.size (fun g hg => by cases hg; omega))
          have hrow6 : RowVal ldF 91 w6 w.heap.size u16 L := World.ownsRow.kept hrow hg6 (.inr hv2)
          have BK : BoxOf (w6.alloc (.cells #[.string x1, .int .i64 x2] 142)) w6.heap.size [.string x1, .int .i64 x2] := boxOf_alloc w6 #[.string x1, .int .i64 x2] 142
          have z0 := BK.2 0 _ rfl
          have z1 := BK.2 1 _ rfl
          have hrow7 : RowVal ldF 91 (w6.alloc (.cells #[.string x1, .int .i64 x2] 142)) w.heap.size u16 L := RowVal.alloc hrow6 _
          have hrg7 := hrg6.alloc (.cells #[.string x1, .int .i64 x2] 142)
          have hL7 : L.length ≤ 16777216 := by omega
          have hb7 := hb6.alloc hb6.size (.cells #[.string x1, .int .i64 x2] 142)
          have hsz6 := hb6.size
          have hbn6 := hrg6.owns.lt
          have hrn6 := hrg6.lt
          have hz7 : (w6.alloc (.cells #[.string x1, .int .i64 x2] 142)).heap.size = w6.heap.size + 1 := by simp
          clear hrg6 hrow6 BK hg6 hrow hb6 hs6
          go_wp2_with (first
            | (at_builtin; refine wpList_append_grown loadElem rfl (.tmp 95) (.tmp 102) rfl rfl (l := L) hrow7 hL7 (x1, x2, cv) #[.string x1, .int .i64 x2, .int .i64 cv] rfl (ldOne (x1, x2, cv)) (w6.heap.size + 1) _ (by simp) rfl (by simp; omega) ?_; intro v' w8 hrow8 hg8 hne8))
          have hrg8 := (hrg7.alloc (.cells #[.string x1, .int .i64 x2, .int .i64 cv] 91)).kept hg8 (Ne.symm hv1) (Ne.symm hv2)
          go_round
          case rel =>
            exact ⟨L ++ [(x1, x2, cv)], _, cnt6, hrg8, HCO6, hrow8, hne8 _ (by simp; omega) hv1, hne8 _ (by simp; omega) hv2, by simp; omega, (hb7.alloc hb7.size _).trans (below_grown hg8 (by simp; omega) (fun g hg => own_block hrow7 g hg))⟩
          case measure => rw [hrg8.left_eq, hrg.left_eq]; exact hlt6
end Go.Proofs.Ytlnkofnfgemfdaa
