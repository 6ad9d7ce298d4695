/- Part 32 of the texts of this claim: The walks of l10Needs and PartsOf of the reference, told weakly: each part is in the catalog, each number within bounds; The walk of l18Parts, told weakly: the rows of flows stay rows of flows; only the row of rows is written. -/
import Derived.Test.YtlkolehdikfddaaTr28
import Derived.Test.YtlkolehdikfddaaTr30
import Derived.Test.YtlkolehdikfddaaTr17
import Derived.Test.YtlkolehdikfddaaTr9
import Derived.Test.YtlkolehdikfddaaTr19
/- The walks of l10Needs and PartsOf of the reference, told weakly: each part is in the catalog, each number within bounds. -/
namespace Go.Proofs.Ytlkolehdikfddaa
open Go.RowKit
def okPart (it : List It) (x : Nd) : Prop := 0 ≤ findIt it x.1 ∧ (0 ≤ x.2 ∧ x.2 ≤ 1000000000)
def PartsWeak (it : List It) (w : World) (e : Ending) (w' : World) : Prop := ∃ (l : List Nd) (A : Option Addr) (c : Nat) (b : Bool), e = .returned (.tuple #[.slice A l.length c, .bool b]) ∧ OwnRows ndF 70 w' w.heap.size A l.length c l ∧ l.length ≤ it.length ∧ (∀ x ∈ l, okPart it x) ∧ Below w.heap.size w w'
theorem partsWeak_mk {it : List It} {w w' : World} {l : List Nd} {v : Value} {b : Bool} (h : RowVal ndF 70 w' w.heap.size v l) (hl : l.length ≤ it.length) (hok : ∀ x ∈ l, okPart it x) (hb : Below w.heap.size w w') : PartsWeak it w (.returned (.tuple #[v, .bool b])) w' := by
  obtain ⟨A, c, rfl, ho⟩ := h.form
  exact ⟨l, A, c, b, rfl, ho, hl, hok, hb⟩
theorem partsWeak_no {it : List It} {w w' : World} {b : Bool} {H : Nat} (hH : w'.heap.size = H) (hb : Below w.heap.size w w') : PartsWeak it w (.returned (.tuple #[.slice (some ⟨H, 0, none⟩) 0 0, .bool b])) (w'.alloc (.cells #[] 70)) :=
  partsWeak_mk (l := []) (empty_row hH hb.size) (by simp) (by simp) (hb.alloc hb.size _)
set_option maxRecDepth 100000 in
set_option maxHeartbeats 4000000 in
theorem l10Needs_any (A B : Option Addr) (n c m d : Nat) (it : List It) (M : List Int) (w : World) (hi : ItemsIn w A n it) (hM : IntsIn w B m M) (hok : okNums it.length M) (hcat : isCat it = true) :
    Calls Try.prog 88 #[.slice A n c, .slice B m d] w (PartsWeak it w) := by
  obtain rfl := hi.1
  obtain rfl := hM.1
  have h12 := isCat_12 hcat
  have HCAT := Lib.hid hcat
  have HOK := Lib.hid hok
  have hl1 : M.length ≤ it.length := Nat.le_of_eq hok.1
  have hl2 : it.length ≤ M.length := Nat.le_of_eq hok.1.symm
  clear hcat hok
  have hb0 := below_alloc w (.cells #[] 70)
  have hr0 : RowVal ndF 70 (w.alloc (.cells #[] 70)) w.heap.size (.slice (some ⟨w.heap.size, 0, none⟩) 0 0) [] := empty_row rfl (Nat.le_refl _)
  go_enter Try.func88, Try.ntmps88
  go_wp2_with fail
  generalize w.alloc (.cells #[] 70) = w0 at *
  go_loopw [6, 7] (fun v i wr => ∃ (k : Nat) (l : List Nd), k ≤ M.length ∧ i = .int .i64 k ∧ l.length ≤ k ∧ Hid (∀ x ∈ l, okPart it x) ∧ RowVal ndF 70 wr w.heap.size v l ∧ Below w.heap.size w wr) (fun _ i _ => M.length - (intOf i).toNat)
  case atStart => exact ⟨0, [], by omega, rfl, by simp, Lib.hid (by simp), hr0, hb0⟩
  case round =>
    clear hr0 hb0
    obtain ⟨k, l, hk, rfl, hlk, HOL, hrow, hb⟩ := hrel
    by_cases hlt : k < M.length
    case neg =>
      obtain rfl : k = M.length := by omega
      go_wp2_with fail
      go_ret2
      exact partsWeak_mk hrow (by omega) HOL.out hb
    have kM : (k : Int) < (M.length : Int) := by omega
    have hki : k < it.length := by omega
    have ki : (k : Int) < (it.length : Int) := by omega
    have hwk : IntKind.i64.wrap ((k : Int) + 1) = (k : Int) + 1 := IntWalk.i64_in _ (by omega)
    obtain ⟨bi, oi, hae, hbi0, t00, _⟩ := item_at hi hki
    subst hae
    obtain ⟨bm, om, hme, hbm0, m00⟩ := IntsIn.at_ hM hlt
    subst hme
    have hmk := HOK.out.2 k
    have HMK : Hid (M[k] = M.getD k 0) := by show _ = _; rw [List.getD_eq_getElem?_getD, List.getElem?_eq_getElem hlt]; rfl
    rw [HMK.out] at m00
    have hokp : Hid (0 ≤ M.getD k 0 → okPart it (it[k].1, M.getD k 0)) := fun h0 => ⟨by rw [find_self HCAT.out k hki]; exact Int.natCast_nonneg k, h0, hmk.2⟩
    generalize M.getD k 0 = mk at *
    generalize it[k].1 = sc at *
    have y0 := (hb.cell (p := ⟨bi, oi + k * 8, none⟩) hbi0).trans t00
    have ym := (hb.cell (p := ⟨bm, om + k, none⟩) hbm0).trans m00
    have yl := Nat.lt_of_lt_of_le hbi0 hb.size
    have yb := Nat.lt_of_lt_of_le hbm0 hb.size
    have hvb := RowVal.blt hrow
    by_cases hneg : mk < 0
    case pos =>
      go_wp2_with fail
      go_ret2
      exact partsWeak_no rfl hb
    by_cases h0 : 0 < mk
    case neg =>
      have h0d : decide (0 < mk) = false := decide_eq_false h0
      have hnd : decide (mk < 0) = false := decide_eq_false hneg
      go_wp2_with fail
      go_roundw
      case rel => exact ⟨k + 1, l, by omega, by go_num, by omega, HOL, hrow, hb⟩
      case measure => simp [intOf]; omega
    have h0d : decide (0 < mk) = true := decide_eq_true h0
    obtain ⟨A9, c9, rfl, ho9⟩ := hrow.form
    have hrw := ho9.val.drew
    clear ho9 hrow
    have hz2 := hb.size
    go_wp2_with fail
    refine wp_region_held_drew (S := fun w' => (w'.cell? ⟨bi, oi + k * 8, none⟩ = some (.string sc) ∧ w'.cell? ⟨bm, om + k, none⟩ = some (.int .i64 mk) ∧ bi < w'.heap.size ∧ bm < w'.heap.size) ∧ Below w.heap.size w w') (by kernel_rfl) (⟨⟨y0, ym, yl, yb⟩, hb.drew⟩) (fun hHeld => ?_)
    refine held1 0 (some 26) hHeld ?_
    refine held1 1 (some 27) hHeld ?_
    refine held1 2 (some 28) hHeld ?_
    refine held1 3 (some 29) hHeld ?_
    refine held1 4 (some 30) hHeld ?_
    refine held1 5 (some 31) hHeld ?_
    refine held1 6 (some 32) hHeld ?_
    refine held1 7 (some 33) hHeld ?_
    refine held1 8 (some 34) hHeld ?_
    refine held1 9 (some 35) hHeld ?_
    refine held1 10 (some 36) hHeld ?_
    refine held_do 11 fun K hK => ?_
    go_simp
    refine hK.out _ _ (⟨⟨alloc_cell hHeld.1.1 (.cells #[.string sc, .int .i64 mk] 70), alloc_cell hHeld.1.2.1 (.cells #[.string sc, .int .i64 mk] 70), by have := hHeld.1.2.2.1; simp at this ⊢; omega, by have := hHeld.1.2.2.2; simp at this ⊢; omega⟩, hHeld.2.alloc (by have := hHeld.2.size; omega) _⟩) (fun hHeld => ?_)
    clear hK K
    try simp only [Act.put, List.setIfInBounds_toArray, List.set_cons_zero, List.set_cons_succ]
    replace hrw := hrw.alloc (.cells #[.string sc, .int .i64 mk] 70)
    refine held_do 12 fun K hK => ?_
    refine step_append_rows needElem ndOneP rfl (.tmp 26) (.tmp 37) rfl _ (lo := w.heap.size) (l := l) rfl hrw (by omega) rfl (lit_row (F := ndF) (by simp) #[.string sc, .int .i64 mk] (sc, mk) rfl) (by have := hHeld.2.size; simp at this ⊢; omega) ?_
    intro v9 w9 hr9 hg9
    have hB9 := RowVal.below hrw hg9 (Nat.le_refl _) (by have := hHeld.2.size; simp at this ⊢; omega)
    refine hK.out _ _ (⟨⟨(hB9.cell (p := ⟨bi, oi + k * 8, none⟩) hbi0).trans hHeld.1.1, (hB9.cell (p := ⟨bm, om + k, none⟩) hbm0).trans hHeld.1.2.1, Nat.lt_of_lt_of_le hHeld.1.2.2.1 hB9.size, Nat.lt_of_lt_of_le hHeld.1.2.2.2 hB9.size⟩, hHeld.2.trans hB9⟩) (fun hHeld => ?_)
    clear hK K
    refine held1 13 (some 6) hHeld ?_
    refine wpAnyH_done (by kernel_rfl) ?_ _
    have hbF := hHeld.2
    have hokF : Hid (∀ x ∈ l ++ [(sc, mk)], okPart it x) := fun z hz => by
      rcases List.mem_append.1 hz with hz | hz
      · exact HOL.out z hz
      · rw [List.mem_singleton.1 hz]; exact hokp.out (by omega)
    go_wp2_with fail
    go_roundw
    case rel => exact ⟨k + 1, l ++ [(sc, mk)], by omega, by go_num, by simp; omega, hokF, hr9, hbF⟩
    case measure => simp [intOf]; omega
set_option maxRecDepth 100000 in
set_option maxHeartbeats 4000000 in
theorem specPartsOf_any (A B C : Option Addr) (n c m d k5 c5 : Nat) (it : List It) (ls : List Bl) (ch : List Pk) (code : ByteArray) (q day : Int) (w : World) (hi : ItemsIn w A n it) (hl : BillLinesIn w B m ls) (hch : PicksIn w C k5 ch) (hoki : ∀ x ∈ it, okIt x) (hokl : ∀ x ∈ ls, okBl x) :
    Calls Try.prog 75 #[.slice A n c, .slice B m d, .string code, .int .i64 q, .int .i64 day, .slice C k5 c5] w (PartsWeak it w) := by
  have HI := Lib.hid hi
  have HL := Lib.hid hl
  have HC := Lib.hid hch
  have HOKI := Lib.hid hoki
  have HOKL := Lib.hid hokl
  clear hi hl hch hoki hokl
  go_enter Try.func75, Try.ntmps75
  go_wp2_with fail
  refine (specFindItem_any _ _ _ it _ _ HI.out).mono ?_
  rintro e V0 ⟨rfl, rfl⟩
  obtain ⟨f3, f3b⟩ := findIt_bd it code
  have HF := Lib.hid (show findIt it code = findIt it code from rfl)
  generalize hfi : findIt it code = fi at *
  have HFI := Lib.hid hfi
  clear hfi HF
  go_wp2_with fail
  refine (specIsBills_any _ _ _ _ _ _ it ls _ HI.out HL.out HOKI.out HOKL.out).mono ?_
  rintro e w1 ⟨rfl, hs⟩
  cases hbl : isBills it ls
  · go_wp2_with fail
    go_ret2
    exact partsWeak_no rfl hs
  by_cases f1 : fi < 0
  · have f6 : decide (fi < 0) = true := decide_eq_true f1
    go_wp2_with fail
    go_ret2
    exact partsWeak_no rfl hs
  have f6 : decide (fi < 0) = false := decide_eq_false f1
  obtain ⟨a0, rfl⟩ : ∃ k : Nat, fi = (k : Int) := ⟨fi.toNat, by omega⟩
  have ha0 : a0 < it.length := by omega
  go_wp2_with fail
  refine (l1In_any _ _ _ _).mono ?_
  rintro e V0 ⟨rfl, rfl⟩
  cases hq : inB q 0 100000
  · go_wp2_with fail
    go_ret2
    exact partsWeak_no rfl hs
  have hqb : 0 ≤ q ∧ q ≤ 100000 := by
    unfold inB at hq
    exact of_decide_eq_true hq
  have hcat := Lib.hid (isBills_parts hbl).1
  go_wp2_with fail
  refine (l10Down_any _ _ _ _ _ _ _ _ _ it ls ch a0 q day _ (HI.out.keep hs) (HL.out.keep hs) (HC.out.keep hs) hbl ha0 (by omega)).mono ?_
  rintro e w2 ⟨g2, M, rfl, hM, hok, hs2⟩
  have h12 := isCat_12 hcat.out
  have hb2 := below_on hs hs2
  have hMI : IntsIn w2 (some ⟨g2, 0, none⟩) it.length M := hM.ints (by rw [hok.1]; omega)
  go_wp2_with fail
  refine (l10Needs_any _ _ _ _ _ _ it M _ (HI.out.keep hb2) hMI hok hcat.out).mono ?_
  rintro e w3 ⟨l, A9, c9, b9, rfl, ho, hll, hokp, hs3⟩
  have hb3 := below_on hb2 hs3
  go_wp2_with fail
  go_ret2
  exact ⟨l, A9, c9, b9, rfl, ho.lower hb2.size, hll, hokp, hb3⟩
end Go.Proofs.Ytlkolehdikfddaa
/- The walk of l18Parts, told weakly: the rows of flows stay rows of flows; only the row of rows is written. -/
namespace Go.Proofs.Ytlkolehdikfddaa
open Go.RowKit
theorem OwnRows.kept {α : Type} {F : Flat α} {t : TypeId} {w w' : World} {lo b n c : Nat} {A : Option Addr} {l : List α} {R : List FlR} {lo' n' c' : Nat} (h : OwnRows F t w lo A n c l) (hv : OwnRows slF 102 w lo' (some ⟨b, 0, none⟩) n' c' R) (ht : 102 ≠ t) (hb : ∀ k, k < w.heap.size → k ≠ b → w'.heap[k]? = w.heap[k]?) : OwnRows F t w' lo A n c l :=
  h.grow ht hv.val (fun k hk hne => hb k hk (fun e => hne (by rw [e]; rfl)))
/-- The ending of l18Parts. -/
def PartsAdded (lo b n c : Nat) (w : World) (e : Ending) (w' : World) : Prop := ∃ (is : Bool) (R : List FlR) (L : List (List Fl)), e = .returned (.bool is) ∧ OwnRows slF 102 w' lo (some ⟨b, 0, none⟩) n c R ∧ FlowsOf w' lo R L ∧ (is = true → ∀ l ∈ L, okFls 1000 1000000000 l) ∧ Only b (b + 1) w w'
set_option maxRecDepth 100000 in
set_option maxHeartbeats 16000000 in
theorem l18Parts_any (r : PtR) (p : Pt) (item : ByteArray) (q day : Int) (b n c lo : Nat) (R : List FlR) (L : List (List Fl)) (w : World) (hkeep : ∀ w'', Only b (b + 1) w w'' → PlantIn w'' r p) (hok : okPt p) (hF : OwnRows slF 102 w lo (some ⟨b, 0, none⟩) n c R) (hL : FlowsOf w lo R L) (hn : n = p.it.length) (h12 : p.it.length ≤ 12) (hbd : ∀ l ∈ L, okFls 1000 1000000000 l) (hlo : lo ≤ w.heap.size) (hblt : b < w.heap.size) :
    Calls Try.prog 59 #[.agg #[.slice r.i.a r.i.n r.i.c, .slice r.l.a r.l.n r.l.c, .slice r.w.a r.w.n r.w.c, .slice r.e.a r.e.n r.e.c, .slice r.p.a r.p.n r.p.c, .slice r.s.a r.s.n r.s.c, .slice r.q.a r.q.n r.q.c], .string item, .int .i64 q, .int .i64 day, .slice (some ⟨b, 0, none⟩) n c] w (PartsAdded lo b n c w) := by
  subst hn
  have HP := Lib.hid hkeep
  have HOK := Lib.hid hok
  have HBD := Lib.hid hbd
  clear hkeep hok hbd
  obtain ⟨⟨a0, n0, c0⟩, ⟨a1, n1, c1⟩, ⟨a2, n2, c2⟩, ⟨a3, n3, c3⟩, ⟨a4, n4, c4⟩, ⟨a5, n5, c5⟩, ⟨a6, n6, c6⟩⟩ := r
  dsimp only at HP ⊢
  have hs := below_alloc w (.cells #[.slice a0 n0 c0, .slice a1 n1 c1, .slice a2 n2 c2, .slice a3 n3 c3, .slice a4 n4 c4, .slice a5 n5 c5, .slice a6 n6 c6] 34)
  have B0 : BoxOf (w.alloc (.cells #[.slice a0 n0 c0, .slice a1 n1 c1, .slice a2 n2 c2, .slice a3 n3 c3, .slice a4 n4 c4, .slice a5 n5 c5, .slice a6 n6 c6] 34)) w.heap.size [.slice a0 n0 c0, .slice a1 n1 c1, .slice a2 n2 c2, .slice a3 n3 c3, .slice a4 n4 c4, .slice a5 n5 c5, .slice a6 n6 c6] := boxOf_alloc w #[.slice a0 n0 c0, .slice a1 n1 c1, .slice a2 n2 c2, .slice a3 n3 c3, .slice a4 n4 c4, .slice a5 n5 c5, .slice a6 n6 c6] 34
  have hz0 : w.heap.size + 1 = (w.alloc (.cells #[.slice a0 n0 c0, .slice a1 n1 c1, .slice a2 n2 c2, .slice a3 n3 c3, .slice a4 n4 c4, .slice a5 n5 c5, .slice a6 n6 c6] 34)).heap.size := by simp
  replace hF := hF.keep hs
  replace hL := hL.keep hs
  have HO : Only b (b + 1) w (w.alloc (.cells #[.slice a0 n0 c0, .slice a1 n1 c1, .slice a2 n2 c2, .slice a3 n3 c3, .slice a4 n4 c4, .slice a5 n5 c5, .slice a6 n6 c6] 34)) := Only.of_below hs
  obtain ⟨b0, b1, b2, b3, b4, b5, b6, bl⟩ := B0.seven
  go_enter Try.func59, Try.ntmps59
  go_wp2_with fail
  generalize (w.alloc (.cells #[.slice a0 n0 c0, .slice a1 n1 c1, .slice a2 n2 c2, .slice a3 n3 c3, .slice a4 n4 c4, .slice a5 n5 c5, .slice a6 n6 c6] 34)) = w1 at *
  clear hs
  have hp1 := Lib.hid (HP.out w1 HO)
  refine (specPartsOf_any a0 a1 a4 n0 c0 n1 c1 n4 c4 p.it p.ls p.ch item q day _ hp1.out.it hp1.out.ls hp1.out.ch HOK.out.it HOK.out.ls).mono ?_
  rintro e w2 ⟨l, A9, c9, is, rfl, ho9, hl9, hokp, hs⟩
  have HOKP := Lib.hid hokp
  replace hF := hF.keep hs
  replace hL := hL.keep hs
  replace B0 := B0.keep hs
  replace HO := only_below HO (hs.mono (by have := HO.size; omega))
  have ho9' := ho9.lower (lo' := w.heap.size) (by omega)
  clear hs hokp b0 b1 b2 b3 b4 b5 b6 bl hp1 ho9
  have HB0 : Hid (∀ x ∈ L, okFls (1000 + 0) (1000000000 * ((0 : Nat) + 1)) x) := fun x hx => (HBD.out x hx).mono (by omega) (by omega)
  have HB1 : Hid (is = true → ∀ x ∈ L, okFls 1000 1000000000 x) := fun _ => HBD.out
  go_wp2_with fail
  go_loopw [12, 13] (fun v t wr => ∃ (i : Nat) (is : Bool) (R : List FlR) (L : List (List Fl)), i ≤ l.length ∧ v = .bool is ∧ t = .int .i64 i ∧ OwnRows slF 102 wr lo (some ⟨b, 0, none⟩) p.it.length c R ∧ FlowsOf wr lo R L ∧ Hid (∀ x ∈ L, okFls (1000 + i) (1000000000 * ((i : Int) + 1)) x) ∧ Hid (is = true → ∀ x ∈ L, okFls 1000 1000000000 x) ∧ BoxOf wr w.heap.size [.slice a0 n0 c0, .slice a1 n1 c1, .slice a2 n2 c2, .slice a3 n3 c3, .slice a4 n4 c4, .slice a5 n5 c5, .slice a6 n6 c6] ∧ OwnRows ndF 70 wr w.heap.size A9 l.length c9 l ∧ Only b (b + 1) w wr) (fun _ t _ => l.length - (intOf t).toNat)
  case atStart => exact ⟨0, is, R, L, by omega, rfl, rfl, hF, hL, HB0, HB1, B0, ho9', HO⟩
  case round =>
    clear hF hL HB0 HB1 B0 ho9' HO HBD
    obtain ⟨i, is, R, L, hi, rfl, rfl, hF, hL, HB, HB1, B0, hN, HO⟩ := hrel
    by_cases hlt : i < l.length
    case neg =>
      obtain rfl : i = l.length := by omega
      go_wp2_with fail
      go_ret
      exact ⟨is, R, L, rfl, hF, hL, HB1.out, HO⟩
    have ii : (i : Int) < (l.length : Int) := by omega
    have hwi : IntKind.i64.wrap ((i : Int) + 1) = (i : Int) + 1 := IntWalk.i64_in _ (by omega)
    obtain ⟨bn, on, hne9, hbn, m0, m1⟩ := need_at (hN.rows (by omega)) hlt
    subst hne9
    obtain ⟨hf0, hq0, hq1⟩ := HOKP.out _ (List.getElem_mem hlt)
    obtain ⟨b0, b1, b2, b3, b4, b5, b6, bl⟩ := B0.seven
    have HIT := Lib.hid (HP.out wr HO).it
    have HFL := Lib.hid (findIt_lt hf0)
    have hbnw : w.heap.size ≤ bn := own_block hN.val bn rfl
    generalize l[i].1 = sc at *
    generalize l[i].2 = pq at *
    obtain ⟨qn, hqn⟩ : ∃ qn : Nat, findIt p.it sc = (qn : Int) := ⟨(findIt p.it sc).toNat, by omega⟩
    have q1 : qn < p.it.length := by have := HFL.out; omega
    have q2 : (qn : Int) < (p.it.length : Int) := by omega
    have hRl : R.length = p.it.length := hF.1.symm
    go_wp2_with fail
    go_quiet ((go_at_call 10; refine (specFindItem_any _ _ _ p.it sc _ (HIT.out.keep (below_drewN (Below.refl _ _) _))).mono ?_; rintro e w' ⟨rfl, rfl⟩; exact ⟨rfl, _, rfl⟩))
    rw [hqn]
    clear hqn hf0 HFL HIT b0 b1 b2 b3 b4 b5 b6 bl
    have hdr := below_drewN (Below.refl wr.heap.size wr) nq
    replace hF := hF.keep hdr
    replace hL := hL.keep hdr
    replace B0 := B0.keep hdr
    replace hN := hN.keep hdr
    replace HO := only_below HO (hdr.mono (by have := HO.size; omega))
    replace m1 := (hdr.cell (p := ⟨bn, on + i * 2 + 1, none⟩) hbn).trans m1
    replace hbn := Nat.lt_of_lt_of_le hbn hdr.size
    clear m0
    generalize hWq : wr.drewN nq = wq at *
    clear hWq hdr
    have qR : qn < R.length := by omega
    have qL : qn < L.length := by have := hL.len; omega
    obtain ⟨y5, f5⟩ := sl_at hF qn qR
    have hrow := hL.at_ qn qR qL
    have hokr := HB.out _ (List.getElem_mem qL)
    obtain ⟨⟨A5, m5, d5⟩, hr5⟩ : ∃ x, R[qn] = x := ⟨_, rfl⟩
    rw [hr5] at y5 hrow
    generalize hl5 : L[qn] = l5 at *
    dsimp only at y5 hrow
    clear hr5 hl5
    obtain ⟨k1, k2⟩ := own_cap hrow
    have hrl := hokr.1
    have HAD : Hid (okFls (1000 + i + 1) (1000000000 * ((i : Int) + 1) + 1000000000) (addS l5 day pq)) := hokr.add day pq ⟨hq0, hq1⟩ (by omega)
    have HHL : Hid (∀ f ∈ l5, -1000000000000 ≤ f.2 ∧ f.2 ≤ 1000000000000) := fun f hf => by have := hokr.2 f hf; omega
    have hl12 : l.length ≤ 12 := by omega
    have hFd : OwnRows slF 102 wq.drew lo (some ⟨b, 0, none⟩) p.it.length c R := hF
    have hNb : bn ≠ b := fun e => RowVal.apart (by decide) hN.val hF.val bn rfl (by rw [e]; rfl)
    have hHb : w.heap.size ≠ b := by omega
    go_wp2_with fail
    refine wp_region_held_drew (S := fun w' => w'.cell? ⟨bn, on + i * 2 + 1, none⟩ = some (.int .i64 pq) ∧ bn < w'.heap.size ∧ Only b (b + 1) w w') (by kernel_rfl) (⟨m1, hbn, only_drewN HO 1⟩) (fun hHeld => ?_)
    refine held1 0 (some 42) hHeld ?_
    refine held1 1 (some 43) hHeld ?_
    refine held1 2 (some 44) hHeld ?_
    refine held1 3 (some 45) hHeld ?_
    refine held1 4 (some 46) hHeld ?_
    refine held1 6 (some 48) hHeld ?_
    refine held1 7 (some 49) hHeld ?_
    refine held1 8 (some 50) hHeld ?_
    refine held1 9 (some 51) hHeld ?_
    refine held1 10 (some 52) hHeld ?_
    refine held1 11 (some 53) hHeld ?_
    refine held_do 5 fun K hK => ?_
    have yr : wq.drew.cell? ⟨b, qn, none⟩ = some (.slice A5 m5 d5) := y5
    go_simp
    refine hK.out _ _ (hHeld) (fun hHeld => ?_)
    clear hK K
    try simp only [Act.put, List.setIfInBounds_toArray, List.set_cons_zero, List.set_cons_succ]
    clear yr
    refine held_do 12 fun K hK => ?_
    go_simp
    go_at_call 74
    refine (l14Add_any A5 m5 d5 l5 day pq _ (OwnRows.rows (w := wq.drew) hrow (by omega)) k1 (by unfold maxLen at k2; omega) (by omega) HHL.out (by omega)).mono ?_
    rintro e w6 ⟨A6, c6', rfl, hr6, hs6⟩
    have hF6 : OwnRows slF 102 w6 lo (some ⟨b, 0, none⟩) p.it.length c R := OwnRows.keep (w := wq.drew) hFd hs6
    have hL6 : FlowsOf w6 lo R L := FlowsOf.keep (w := wq.drew) ⟨hL.len, hL.at_⟩ hs6
    have B6 : BoxOf w6 w.heap.size [.slice a0 n0 c0, .slice a1 n1 c1, .slice a2 n2 c2, .slice a3 n3 c3, .slice a4 n4 c4, .slice a5 n5 c5, .slice a6 n6 c6] := BoxOf.keep (w := wq.drew) B0 hs6
    have hN6 : OwnRows ndF 70 w6 w.heap.size (some ⟨bn, on, none⟩) l.length c9 l := OwnRows.keep (w := wq.drew) hN hs6
    have hz6 := hHeld.2.2.size
    have hr6' := hr6.lower (lo' := lo) (by show lo ≤ wq.heap.size; have := hHeld.2.2.size; simp at this; omega)
    go_simp
    refine hK.out _ _ (⟨(hs6.cell (p := ⟨bn, on + i * 2 + 1, none⟩) hHeld.2.1).trans hHeld.1, Nat.lt_of_lt_of_le hHeld.2.1 hs6.size, only_below hHeld.2.2 (hs6.mono (by simpa using hHeld.2.2.size))⟩) (fun hHeld => ?_)
    clear hK K
    refine held1 13 (some 55) hHeld ?_
    refine held_do 14 fun K hK => ?_
    obtain ⟨y9, f9⟩ := sl_at hF6 qn qR
    have hoth : ∀ k, k < w6.heap.size → k ≠ b → (w6.setCell ⟨b, qn, none⟩ (.slice A6 (addS l5 day pq).length c6')).heap[k]? = w6.heap[k]? := fun k _ hk => heap_setCell_other w6 ⟨b, qn, none⟩ k (.slice A6 (addS l5 day pq).length c6') hk
    have hF7 := sl_edit hF6 qn qR (A6, (addS l5 day pq).length, c6')
    have hrw7 : OwnRows flF 107 (w6.setCell ⟨b, qn, none⟩ (.slice A6 (addS l5 day pq).length c6')) lo A6 (addS l5 day pq).length c6' (addS l5 day pq) := hr6'.kept hF6 (by decide) hoth
    have hL7 : FlowsOf (w6.setCell ⟨b, qn, none⟩ (.slice A6 (addS l5 day pq).length c6')) lo (R.set qn (A6, (addS l5 day pq).length, c6')) (L.set qn (addS l5 day pq)) := FlowsOf.set (FlowsOf.grow hL6 hF6.val (fun k hk hne => hoth k hk (fun e => hne (by rw [e]; rfl)))) qn (r := (A6, (addS l5 day pq).length, c6')) hrw7
    have B7 : BoxOf (w6.setCell ⟨b, qn, none⟩ (.slice A6 (addS l5 day pq).length c6')) w.heap.size [.slice a0 n0 c0, .slice a1 n1 c1, .slice a2 n2 c2, .slice a3 n3 c3, .slice a4 n4 c4, .slice a5 n5 c5, .slice a6 n6 c6] := B6.off (p := ⟨b, qn, none⟩) (Ne.symm hHb) _
    have hN7 : OwnRows ndF 70 (w6.setCell ⟨b, qn, none⟩ (.slice A6 (addS l5 day pq).length c6')) w.heap.size (some ⟨bn, on, none⟩) l.length c9 l := hN6.kept hF6 (by decide) hoth
    have hFI : FlowsIn (w6.setCell ⟨b, qn, none⟩ (.slice A6 (addS l5 day pq).length c6')) A6 (addS l5 day pq).length (addS l5 day pq) := hrw7.rows (by have := addS_len l5 day pq; omega)
    go_simp
    refine hK.out _ _ (⟨(World.cell?_setCell_far w6 ⟨b, qn, none⟩ ⟨bn, on + i * 2 + 1, none⟩ (.slice A6 (addS l5 day pq).length c6') (fun e => hNb e.symm)).trans hHeld.1, by have := hHeld.2.1; simpa using this, hHeld.2.2.put qn _⟩) (fun hHeld => ?_)
    clear hK K
    try simp only [Act.put, List.setIfInBounds_toArray, List.set_cons_zero, List.set_cons_succ]
    refine wpAnyH_done (by kernel_rfl) ?_ _
    have HOF := hHeld.2.2
    obtain ⟨yF, fF⟩ := sl_at hF7 qn (by rw [List.length_set]; exact qR)
    rw [List.getElem_set_self] at yF
    dsimp only at yF
    clear hHeld y5 f5 hrow hokr HHL hF hL B0 hN hFd hF6 hL6 B6 hN6 hr6 hr6' y9 f9 hoth hrw7 m1 hbn hs6 HO

    generalize (w6.setCell ⟨b, qn, none⟩ (.slice A6 (addS l5 day pq).length c6')) = w7 at *
    generalize hR7 : R.set qn (A6, (addS l5 day pq).length, c6') = R7 at *
    have HL7 : Hid (∀ x ∈ L.set qn (addS l5 day pq), okFls (1000 + (i + 1)) (1000000000 * (((i + 1 : Nat) : Int) + 1)) x) := all_put (fun x hx => (HB.out x hx).mono (by omega) (by omega)) qn (HAD.out.mono (by omega) (by omega))
    have HS7 : Hid (is = true → areFlows (addS l5 day pq) = true → ∀ x ∈ L.set qn (addS l5 day pq), okFls 1000 1000000000 x) := fun h1 h2 => all_put (HB1.out h1) qn (okFls.of_flows h2)
    clear HB HB1 HAD hR7
    generalize L.set qn (addS l5 day pq) = L7 at *
    generalize addS l5 day pq = l7 at *
    cases is
    case false =>
      go_wp2_with fail
      go_roundw
      case rel => exact ⟨i + 1, false, R7, L7, by omega, rfl, by go_num, hF7, hL7, HL7, Lib.hid (fun h => by cases h), B7, hN7, HOF⟩
      case measure => simp [intOf]; omega
    go_wp2_with fail
    refine (specAreFlows_any _ _ _ l7 _ hFI).mono ?_
    rintro e w8 ⟨rfl, n8, rfl⟩
    have hdr := below_drewN (Below.refl w7.heap.size w7) n8
    go_wp2_with fail
    go_roundw
    case rel => exact ⟨i + 1, areFlows l7, R7, L7, by omega, rfl, by go_num, hF7.keep hdr, hL7.keep hdr, HL7, Lib.hid (fun h => HS7.out (by trivial) h), B7.keep hdr, hN7.keep hdr, only_below HOF (hdr.mono (by have := HOF.size; omega))⟩
    case measure => simp [intOf]; omega
end Go.Proofs.Ytlkolehdikfddaa
