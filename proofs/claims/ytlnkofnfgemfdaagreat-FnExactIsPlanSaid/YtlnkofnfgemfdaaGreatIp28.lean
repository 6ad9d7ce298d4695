/- Part 28 of the texts of this claim: The walk of through: what of a part lies in an item, over the lines in force; The walks of copyLine and inForce; The walk of takenOn's closure. -/
import Derived.Test.YtlnkofnfgemfdaaGreatIp9
import Derived.Test.YtlnkofnfgemfdaaGreatIp25
import Derived.Test.YtlnkofnfgemfdaaGreatIp24
import Derived.Test.YtlnkofnfgemfdaaGreatIp3
/- The walk of through: what of a part lies in an item, over the lines in force. -/
namespace Go.Proofs.YtlnkofnfgemfdaaGreat
open Go.RowKit
def FlatL (w : World) (A : Option Addr) (n : Nat) (l : List Bl) : Prop := ∃ R, RowsIn blF w A n R ∧ BillLineOfs (fun _ _ _ => True) R l
theorem FlatL.keep {w w' : World} {A : Option Addr} {n : Nat} {l : List Bl} (h : FlatL w A n l) (hb : Below w.heap.size w w') : FlatL w' A n l := by
  obtain ⟨R, h1, h2⟩ := h
  exact ⟨R, h1.keep hb, h2⟩
theorem FlatL.len {w : World} {A : Option Addr} {n : Nat} {l : List Bl} (h : FlatL w A n l) : l.length ≤ 16777216 := by obtain ⟨R, h1, h2⟩ := h; rw [← h2.1]; exact h1.len
theorem FlatL.num {w : World} {A : Option Addr} {n : Nat} {l : List Bl} (h : FlatL w A n l) : n = l.length := by obtain ⟨R, h1, h2⟩ := h; rw [← h2.1]; exact h1.1
theorem flat_at {w : World} {A : Option Addr} {n : Nat} {l : List Bl} (h : FlatL w A n l) {k : Nat} (hk : k < l.length) :
    ∃ b o B m c, A = some ⟨b, o, none⟩ ∧ b < w.heap.size ∧ w.cell? ⟨b, o + k * 6, none⟩ = some (.string (l[k].1)) ∧ w.cell? ⟨b, o + k * 6 + 1, none⟩ = some (.string (l[k].2.1)) ∧ w.cell? ⟨b, o + k * 6 + 2, none⟩ = some (.int .i64 (l[k].2.2.1)) ∧ w.cell? ⟨b, o + k * 6 + 3, none⟩ = some (.int .i64 (l[k].2.2.2.1)) ∧ w.cell? ⟨b, o + k * 6 + 4, none⟩ = some (.int .i64 (l[k].2.2.2.2.1)) ∧ w.cell? ⟨b, o + k * 6 + 5, none⟩ = some (.slice B m c) := by
  obtain ⟨R, h1, h2, h3⟩ := h
  obtain ⟨b, o, e, hlt, hc⟩ := h1.at_ (k := k) (by omega)
  have h4 := h3 k (by omega) hk
  simp only [BlOf] at h4
  exact ⟨b, o, _, _, _, e, hlt, by rw [← h4.1]; exact hc 0 _ rfl, by rw [← h4.2.1]; exact hc 1 _ rfl, by rw [← h4.2.2.1]; exact hc 2 _ rfl, by rw [← h4.2.2.2.1]; exact hc 3 _ rfl, by rw [← h4.2.2.2.2.1]; exact hc 4 _ rfl, hc 5 _ rfl⟩
/-- One line in force. -/
def thrS (it : List It) (part code : ByteArray) (f : ByteArray → Int) (s : Int) (x : Bl) : Int :=
  if x.1.toList == code.toList then (if x.2.1.toList == part.toList then min (s + x.2.2.1) 1000000001 else if phan it x.2.1 then min (s + x.2.2.1 * f x.2.1) 1000000001 else s) else s
theorem thr_force (it : List It) (ls : List Bl) (on : Bl → Bool) (part code : ByteArray) (f : ByteArray → Int) : ls.foldl (thrStep it on part code f) 0 = (ls.filter on).foldl (thrS it part code f) 0 := by
  rw [List.foldl_filter]
  refine foldl_ext' _ _ _ (fun s x _ => ?_) 0
  unfold thrStep thrS
  cases on x <;> simp
theorem thrS_bd (it : List It) (part code : ByteArray) (f : ByteArray → Int) (hf : ∀ c, 0 ≤ f c) (l : List Bl) (hl : ∀ x ∈ l, 1 ≤ x.2.2.1) (k : Nat) : 0 ≤ (l.take k).foldl (thrS it part code f) 0 ∧ (l.take k).foldl (thrS it part code f) 0 ≤ 1000000001 := by
  induction k with
  | zero => exact ⟨by simp, by simp⟩
  | succ k ih =>
    by_cases hk : k < l.length
    · rw [List.take_add_one, List.getElem?_eq_getElem hk, Option.toList_some, List.foldl_append]
      simp only [List.foldl_cons, List.foldl_nil]
      have h1 := hl _ (List.getElem_mem hk)
      have h2 := Int.mul_nonneg (show 0 ≤ l[k].2.2.1 by omega) (hf l[k].2.1)
      generalize (l.take k).foldl (thrS it part code f) 0 = s at *
      unfold thrS
      split
      · split
        · omega
        · split <;> omega
      · exact ih
    · rw [List.take_of_length_le (by omega)]
      rw [List.take_of_length_le (by omega)] at ih
      exact ih
theorem thrS_take (it : List It) (part code : ByteArray) (f : ByteArray → Int) (l : List Bl) (k : Nat) (h : k < l.length) : (l.take (k + 1)).foldl (thrS it part code f) 0 = thrS it part code f ((l.take k).foldl (thrS it part code f) 0) l[k] := by
  rw [List.take_add_one, List.getElem?_eq_getElem h, Option.toList_some, List.foldl_append]; rfl
set_option maxRecDepth 100000 in
set_option maxHeartbeats 4000000 in
theorem through_any (it : List It) (ls : List Bl) (lev : List Nat) (on : Bl → Bool) (part : ByteArray) (hL : Lev it ls lev) (A B : Option Addr) (n c m e9 : Nat) (d : Nat) : ∀ (code : ByteArray) (w : World), ItemsIn w A n it → FlatL w B m (ls.filter on) → 0 ≤ findIt it code → it.length - lev.getD (findIt it code).toNat 0 ≤ d →
    Calls Tryz.prog 139 #[.slice A n c, .slice B m e9, .string code, .string part] w fun e w' => e = .returned (.int .i64 (unitV it ls on part code)) ∧ Below w.heap.size w w' := by
  induction d with
  | zero =>
    intro code w hi hl h0 hd
    exfalso
    have := hL.lt _ (findIt_lt h0)
    omega
  | succ d ih =>
    intro code w hi hl h0 hd
    have hn := hi.len
    have hm := hl.len
    obtain rfl := hi.1
    obtain rfl := hl.num
    have HV : Hid (unitV it ls on part code = ((ls.filter on).take (ls.filter on).length).foldl (thrS it part code (unitV it ls on part)) 0) := by
      show _ = _
      rw [List.take_length, ← thr_force, ← unitV_eq hL on part code h0]
    have HBD := Lib.hid (thrS_bd it part code (unitV it ls on part) (fun c => (unitV_bd hL on part c).1) (ls.filter on) (fun x hx => (hL.qty x (List.mem_filter.1 hx).1).1))
    have HT := Lib.hid (thrS_take it part code (unitV it ls on part) (ls.filter on))
    have HU := Lib.hid (unitV_bd hL on part)
    have HLQ : Hid (∀ k (hk : k < (ls.filter on).length), (1 ≤ (ls.filter on)[k].2.2.1 ∧ (ls.filter on)[k].2.2.1 ≤ 1000) ∧ 0 ≤ findIt it (ls.filter on)[k].2.1 ∧ ((ls.filter on)[k].1.toList = code.toList → it.length - lev.getD (findIt it (ls.filter on)[k].2.1).toNat 0 ≤ d)) := fun k hk => by
      have hx := (List.mem_filter.1 (List.getElem_mem hk)).1
      refine ⟨hL.qty _ hx, (hL.fnd _ hx).2, fun he => ?_⟩
      have h1 := hL.rest _ hx
      rw [findIt_congr he] at h1
      omega
    have IH := Lib.hid ih
    clear ih hd h0
    generalize (ls.filter on) = act at *
    generalize hU : unitV it ls on part = u at *
    have HUU := Lib.hid hU
    clear hU
    go_enter Tryz.func139, Tryz.ntmps139
    go_wp2_with fail
    go_loopw [9, 14] (fun s i wr => ∃ k : Nat, k ≤ act.length ∧ i = .int .i64 k ∧ s = .int .i64 ((act.take k).foldl (thrS it part code u) 0) ∧ Below w.heap.size w wr) (fun _ i _ => act.length - (intOf i).toNat)
    case atStart => exact ⟨0, by omega, rfl, rfl, Below.refl _ _⟩
    case round =>
      obtain ⟨k, hk, rfl, rfl, hb⟩ := hrel
      by_cases hlt : k < act.length
      · obtain ⟨b, o, B2, m2, c2, rfl, hbl, hc0, hc1, hc2, hc3, hc4, hc5⟩ := flat_at (hl.keep hb) hlt
        have hs1 := (HBD.out k).1
        have hs2 := (HBD.out k).2
        have HTT := Lib.hid (HT.out k hlt)
        obtain ⟨⟨hq1, hq2⟩, hfd, hdd⟩ := HLQ.out k hlt
        have HDD := Lib.hid hdd
        clear hdd
        generalize (act.take k).foldl (thrS it part code u) 0 = s at *
-- ROUND
        have hs := below_alloc wr (.cells #[.string act[k].1, .string act[k].2.1, .int .i64 act[k].2.2.1, .int .i64 act[k].2.2.2.1, .int .i64 act[k].2.2.2.2.1, .slice B2 m2 c2] 162)
        have hB := below_on hb hs
        have d0 : (wr.alloc (.cells #[.string act[k].1, .string act[k].2.1, .int .i64 act[k].2.2.1, .int .i64 act[k].2.2.2.1, .int .i64 act[k].2.2.2.2.1, .slice B2 m2 c2] 162)).cell? ⟨wr.heap.size, 0, none⟩ = some (.string act[k].1) := by simp [go_sem]
        have d1 : (wr.alloc (.cells #[.string act[k].1, .string act[k].2.1, .int .i64 act[k].2.2.1, .int .i64 act[k].2.2.2.1, .int .i64 act[k].2.2.2.2.1, .slice B2 m2 c2] 162)).cell? ⟨wr.heap.size, 1, none⟩ = some (.string act[k].2.1) := by simp [go_sem]
        have d2 : (wr.alloc (.cells #[.string act[k].1, .string act[k].2.1, .int .i64 act[k].2.2.1, .int .i64 act[k].2.2.2.1, .int .i64 act[k].2.2.2.2.1, .slice B2 m2 c2] 162)).cell? ⟨wr.heap.size, 2, none⟩ = some (.int .i64 act[k].2.2.1) := by simp [go_sem]
        have dl : wr.heap.size < (wr.alloc (.cells #[.string act[k].1, .string act[k].2.1, .int .i64 act[k].2.2.1, .int .i64 act[k].2.2.2.1, .int .i64 act[k].2.2.2.2.1, .slice B2 m2 c2] 162)).heap.size := by simp
        cases he : (act[k].1.toList == code.toList)
        · have HE : Hid ((act.take (k + 1)).foldl (thrS it part code u) 0 = s) := by show _ = _; rw [HTT.out]; unfold thrS; rw [if_neg (by rw [he]; decide)]
          go_wp2_with fail
          go_roundw
          case rel => exact ⟨k + 1, by omega, by go_num, by first | (rw [HE.out]; done) | (rw [HE.out]; congr 1; split <;> omega), hB⟩
          case measure => simp [intOf]; omega
        have HFD := Lib.hid (HDD.out (by simpa using he))
        cases hp : (act[k].2.1.toList == part.toList)
        case true =>
          have HE : Hid ((act.take (k + 1)).foldl (thrS it part code u) 0 = min (s + act[k].2.2.1) 1000000001) := by show _ = _; rw [HTT.out]; unfold thrS; rw [if_pos he, if_pos hp]
          go_wp2_with fail
          go_roundw
          case rel => exact ⟨k + 1, by omega, by go_num, by first | (rw [HE.out]; done) | (rw [HE.out]; congr 1; split <;> omega), hB⟩
          case measure => simp [intOf]; omega
        obtain ⟨f4, f4b⟩ := findIt_bd it act[k].2.1
        go_wp2_with fail
        generalize wr.alloc (.cells #[.string act[k].1, .string act[k].2.1, .int .i64 act[k].2.2.1, .int .i64 act[k].2.2.2.1, .int .i64 act[k].2.2.2.2.1, .slice B2 m2 c2] 162) = wq at *
        have HN : w.heap.size ≤ wr.heap.size := hb.size
        generalize wr.heap.size = N at *
        clear hc0 hc1 hc2 hc3 hc4 hc5 hs hb hbl
        refine (implFindItem_any _ _ _ it _ _ (hi.keep hB)).mono ?_
        rintro e w3 ⟨rfl, hs⟩
        replace d0 := (hs.cell (p := ⟨N, 0, none⟩) dl).trans d0
        replace d1 := (hs.cell (p := ⟨N, 1, none⟩) dl).trans d1
        replace d2 := (hs.cell (p := ⟨N, 2, none⟩) dl).trans d2
        replace dl := Nat.lt_of_lt_of_le dl hs.size
        replace hB := below_on hB hs
        clear hs
        obtain ⟨qn, hqn⟩ : ∃ qn : Nat, findIt it act[k].2.1 = (qn : Int) := ⟨(findIt it act[k].2.1).toNat, by omega⟩
        have q1 : qn < it.length := by omega
        have q2 : (qn : Int) < (it.length : Int) := by omega
        obtain ⟨bi, oi, rfl, _, _, _, hk2, _⟩ := item_at (hi.keep hB) q1
        have HPH : Hid (phan it act[k].2.1 = (it[qn].2.2.1 == 2)) := by show _ = _; unfold phan; rw [hqn, Int.toNat_natCast, List.getD_eq_getElem?_getD, List.getElem?_eq_getElem q1]; rfl
        rw [hqn]
        have HQN := Lib.hid hqn
        have HFN := Lib.hid hfd
        clear hfd f4 f4b hqn
        cases g : (it[qn].2.2.1 == 2)
        · have HE : Hid ((act.take (k + 1)).foldl (thrS it part code u) 0 = s) := by show _ = _; rw [HTT.out]; unfold thrS; rw [if_pos he, if_neg (by rw [hp]; decide), HPH.out, g]; rfl
          go_wp2_with fail
          go_roundw
          case rel => exact ⟨k + 1, by omega, by go_num, by first | (rw [HE.out]; done) | (rw [HE.out]; congr 1; split <;> omega), hB⟩
          case measure => simp [intOf]; omega
        have HE : Hid ((act.take (k + 1)).foldl (thrS it part code u) 0 = min (s + act[k].2.2.1 * u act[k].2.1) 1000000001) := by show _ = _; rw [HTT.out]; unfold thrS; rw [if_pos he, if_neg (by rw [hp]; decide), HPH.out, g]; rfl
        have hu := HU.out act[k].2.1
        have hm0 : 0 ≤ act[k].2.2.1 * u act[k].2.1 := Int.mul_nonneg (by omega) hu.1
        have hm1 : act[k].2.2.1 * u act[k].2.1 ≤ 1000 * 1000000001 := Int.mul_le_mul hq2 hu.2 hu.1 (by omega)
        have hw1 : IntKind.i64.wrap (act[k].2.2.1 * u act[k].2.1) = act[k].2.2.1 * u act[k].2.1 := by apply IntWalk.i64_in <;> omega
        have hw2 : IntKind.i64.wrap (s + act[k].2.2.1 * u act[k].2.1) = s + act[k].2.2.1 * u act[k].2.1 := by apply IntWalk.i64_in <;> omega
        go_wp2_with fail
        clear hk2 g he hp
        go_region_held3 (fun w' => w'.cell? ⟨N, 1, none⟩ = some (.string act[k].2.1) ∧ w'.cell? ⟨N, 2, none⟩ = some (.int .i64 act[k].2.2.1) ∧ N < w'.heap.size ∧ Below w.heap.size w w')
          (first
            | exact ⟨d1, d2, dl, hB.drew⟩
            | (go_split_ands; refine ⟨?_, ?_, ?_, ?_⟩ <;> with_reducible assumption)
            | (go_split_ands; exact ⟨(hb3.cell (by with_reducible assumption)).trans (by with_reducible assumption), (hb3.cell (by with_reducible assumption)).trans (by with_reducible assumption), Nat.lt_of_lt_of_le (by with_reducible assumption) hb3.size, below_on (by with_reducible assumption) hb3⟩))
          (first
            | ((with_reducible refine (IH.out act[k].2.1 _ (hi.keep ?_) (hl.keep ?_) HFN.out HFD.out).mono ?_); (go_split_ands; with_reducible assumption); (go_split_ands; with_reducible assumption); rintro e w4 ⟨rfl, hb3⟩))
        all_goals
          go_split_ands
          have hB4 : Below w.heap.size w w4 := by with_reducible assumption
          clear hB
          have hB := hB4
          go_wp2_with fail
          go_roundw
          case rel => exact ⟨k + 1, by omega, by go_num, by first | (rw [HE.out]; done) | (rw [HE.out]; congr 1; split <;> omega), hB⟩
          case measure => simp [intOf]; omega
      · obtain rfl : k = act.length := by omega
        go_wp2_with fail
        go_ret
        exact ⟨ret_int HV.out.symm, hb⟩
end Go.Proofs.YtlnkofnfgemfdaaGreat
/- The walks of copyLine and inForce. -/
namespace Go.Proofs.YtlnkofnfgemfdaaGreat
open Go.RowKit
theorem cnOne : ∀ (a : Cn), ∀ u ∈ cnF.enc a, u.oneCell' = true := by
  intro a u hu
  simp [cnF] at hu
  rcases hu with rfl | rfl | rfl <;> rfl
theorem blElem : ElemOk blF 40 162 := by
  obtain ⟨i, h1, h2, h3, h4⟩ := info_parts blInfo
  exact ⟨i, _, _, Tryz.underlying40, h1, h2, h3, h4, rfl, by decide, by omega⟩
theorem run_results_bl {fn : Func} {p : Tmp} (h : fn.results = #[.cell p 162]) (tmps : Array Value) (W : World) (N : Nat) (hp : tmps.getD p undef = .pointer (some ⟨N, 0, none⟩)) {a0 a1 a2 a3 a4 a5 : Value} (HB : BoxOf W N [a0, a1, a2, a3, a4, a5]) : (results fn tmps).run Tryz.prog W = .ok (.agg #[a0, a1, a2, a3, a4, a5]) W := by
  have z0 := HB.2 0 _ rfl
  have z1 := HB.2 1 _ rfl
  have z2 := HB.2 2 _ rfl
  have z3 := HB.2 3 _ rfl
  have z4 := HB.2 4 _ rfl
  have z5 := HB.2 5 _ rfl
  have hp' : tmps[p]?.getD undef = .pointer (some ⟨N, 0, none⟩) := by simpa using hp
  simp [results, h, hp', asAddr]
  go_simp
set_option maxRecDepth 100000 in
set_option maxHeartbeats 4000000 in
theorem copyLine_any (x : Bl) (B : Option Addr) (m c : Nat) (w : World) (hl : CondsIn w B m x.2.2.2.2.2) :
    Calls Tryz.prog 159 #[.agg #[.string x.1, .string x.2.1, .int .i64 x.2.2.1, .int .i64 x.2.2.2.1, .int .i64 x.2.2.2.2.1, .slice B m c]] w fun e w' => ∃ A' n' c', e = .returned (.agg #[.string x.1, .string x.2.1, .int .i64 x.2.2.1, .int .i64 x.2.2.2.1, .int .i64 x.2.2.2.2.1, .slice A' n' c']) ∧ Below w.heap.size w w' := by
  have hb1 := below_alloc w (.cells #[.string x.1, .string x.2.1, .int .i64 x.2.2.1, .int .i64 x.2.2.2.1, .int .i64 x.2.2.2.2.1, .slice B m c] 162)
  have hb3 : Below w.heap.size w (((w.alloc (.cells #[.string x.1, .string x.2.1, .int .i64 x.2.2.1, .int .i64 x.2.2.2.1, .int .i64 x.2.2.2.2.1, .slice B m c] 162)).alloc (.cells #[.string { data := #[] }, .string { data := #[] }, .int .i64 0, .int .i64 0, .int .i64 0, .slice none 0 0] 162)).alloc (.cells #[] 201)) := below_on (below_on hb1 (below_alloc _ _)) (below_alloc _ _)
  have B3 : BoxOf (((w.alloc (.cells #[.string x.1, .string x.2.1, .int .i64 x.2.2.1, .int .i64 x.2.2.2.1, .int .i64 x.2.2.2.2.1, .slice B m c] 162)).alloc (.cells #[.string { data := #[] }, .string { data := #[] }, .int .i64 0, .int .i64 0, .int .i64 0, .slice none 0 0] 162)).alloc (.cells #[] 201)) w.heap.size [.string x.1, .string x.2.1, .int .i64 x.2.2.1, .int .i64 x.2.2.2.1, .int .i64 x.2.2.2.2.1, .slice B m c] := ((boxOf_alloc w #[.string x.1, .string x.2.1, .int .i64 x.2.2.1, .int .i64 x.2.2.2.1, .int .i64 x.2.2.2.2.1, .slice B m c] 162).keep (below_alloc _ _)).keep (below_alloc _ _)
  have D3 : BoxOf (((w.alloc (.cells #[.string x.1, .string x.2.1, .int .i64 x.2.2.1, .int .i64 x.2.2.2.1, .int .i64 x.2.2.2.2.1, .slice B m c] 162)).alloc (.cells #[.string { data := #[] }, .string { data := #[] }, .int .i64 0, .int .i64 0, .int .i64 0, .slice none 0 0] 162)).alloc (.cells #[] 201)) (w.heap.size + 1) [.string { data := #[] }, .string { data := #[] }, .int .i64 0, .int .i64 0, .int .i64 0, .slice none 0 0] := by
    have h := (boxOf_alloc (w.alloc (.cells #[.string x.1, .string x.2.1, .int .i64 x.2.2.1, .int .i64 x.2.2.2.1, .int .i64 x.2.2.2.2.1, .slice B m c] 162)) #[.string { data := #[] }, .string { data := #[] }, .int .i64 0, .int .i64 0, .int .i64 0, .slice none 0 0] 162).keep (below_alloc _ (.cells #[] 201))
    have e : (w.alloc (.cells #[.string x.1, .string x.2.1, .int .i64 x.2.2.1, .int .i64 x.2.2.2.1, .int .i64 x.2.2.2.2.1, .slice B m c] 162)).heap.size = w.heap.size + 1 := by simp
    rw [e] at h; exact h
  have f1 : ∀ j, (((w.alloc (.cells #[.string x.1, .string x.2.1, .int .i64 x.2.2.1, .int .i64 x.2.2.2.1, .int .i64 x.2.2.2.2.1, .slice B m c] 162)).alloc (.cells #[.string { data := #[] }, .string { data := #[] }, .int .i64 0, .int .i64 0, .int .i64 0, .slice none 0 0] 162)).alloc (.cells #[] 201)).frozen? ⟨w.heap.size, j, none⟩ = false := fun j => by simp [go_sem]
  have f2 : ∀ j, (((w.alloc (.cells #[.string x.1, .string x.2.1, .int .i64 x.2.2.1, .int .i64 x.2.2.2.1, .int .i64 x.2.2.2.2.1, .slice B m c] 162)).alloc (.cells #[.string { data := #[] }, .string { data := #[] }, .int .i64 0, .int .i64 0, .int .i64 0, .slice none 0 0] 162)).alloc (.cells #[] 201)).frozen? ⟨w.heap.size + 1, j, none⟩ = false := fun j => by simp [go_sem]
  have hr3 : RowVal cnF 201 (((w.alloc (.cells #[.string x.1, .string x.2.1, .int .i64 x.2.2.1, .int .i64 x.2.2.2.1, .int .i64 x.2.2.2.2.1, .slice B m c] 162)).alloc (.cells #[.string { data := #[] }, .string { data := #[] }, .int .i64 0, .int .i64 0, .int .i64 0, .slice none 0 0] 162)).alloc (.cells #[] 201)) (w.heap.size + 2) (.slice (some ⟨w.heap.size + 1 + 1, 0, none⟩) 0 0) [] := empty_row (by simp) (by simp)
  have hz3 : w.heap.size + 2 ≤ (((w.alloc (.cells #[.string x.1, .string x.2.1, .int .i64 x.2.2.1, .int .i64 x.2.2.2.1, .int .i64 x.2.2.2.2.1, .slice B m c] 162)).alloc (.cells #[.string { data := #[] }, .string { data := #[] }, .int .i64 0, .int .i64 0, .int .i64 0, .slice none 0 0] 162)).alloc (.cells #[] 201)).heap.size := by simp
  have hl3 := hl.keep hb3
  go_enter Tryz.func159, Tryz.ntmps159
  go_wp2_with (at_builtin; refine wpList_append_copy condElem cnOne rfl (.tmp 3) (.tmp 5) rfl rfl hr3 rfl hl3 hz3 ?_; intro A2 c2 w2 ho2 hbl; have hk : Below (w.heap.size + 2) (((w.alloc (.cells #[.string x.1, .string x.2.1, .int .i64 x.2.2.1, .int .i64 x.2.2.2.1, .int .i64 x.2.2.2.2.1, .slice B m c] 162)).alloc (.cells #[.string { data := #[] }, .string { data := #[] }, .int .i64 0, .int .i64 0, .int .i64 0, .slice none 0 0] 162)).alloc (.cells #[] 201)) w2 := hbl _ (Nat.le_refl _) hz3; have B4 : BoxOf w2 w.heap.size [.string x.1, .string x.2.1, .int .i64 x.2.2.1, .int .i64 x.2.2.2.1, .int .i64 x.2.2.2.2.1, .slice B m c] := ⟨by have := hk.size; omega, fun j u hu => (hk.cell (p := ⟨w.heap.size, j, none⟩) (by show w.heap.size < _; omega)).trans (B3.2 j u hu)⟩; have D4 : BoxOf w2 (w.heap.size + 1) [.string { data := #[] }, .string { data := #[] }, .int .i64 0, .int .i64 0, .int .i64 0, .slice none 0 0] := ⟨by have := hk.size; omega, fun j u hu => (hk.cell (p := ⟨w.heap.size + 1, j, none⟩) (by show w.heap.size + 1 < _; omega)).trans (D3.2 j u hu)⟩; have g1 : ∀ j, w2.frozen? ⟨w.heap.size, j, none⟩ = false := fun j => (hk.frozen (p := ⟨w.heap.size, j, none⟩) (by show w.heap.size < _; omega)).trans (f1 j); have g2 : ∀ j, w2.frozen? ⟨w.heap.size + 1, j, none⟩ = false := fun j => (hk.frozen (p := ⟨w.heap.size + 1, j, none⟩) (by show w.heap.size + 1 < _; omega)).trans (f2 j); have x0 := B4.2 0 _ rfl; have x1 := B4.2 1 _ rfl; have x2 := B4.2 2 _ rfl; have x3 := B4.2 3 _ rfl; have x4 := B4.2 4 _ rfl; have x5 := B4.2 5 _ rfl; have y0 := D4.2 0 _ rfl; have y1 := D4.2 1 _ rfl; have y2 := D4.2 2 _ rfl; have y3 := D4.2 3 _ rfl; have y4 := D4.2 4 _ rfl; have y5 := D4.2 5 _ rfl; have p0 := g1 0; have p1 := g1 1; have p5 := g1 5; have q0 := g2 0; have q1 := g2 1; have q2 := g2 2; have q3 := g2 3; have q4 := g2 4; have q5 := g2 5)
  have D5 := D4.off (p := ⟨w.heap.size, 5, none⟩) (by show w.heap.size ≠ w.heap.size + 1; omega) (.slice A2 m c2)
  have G5 : ∀ j, (w2.setCell ⟨w.heap.size, 5, none⟩ (.slice A2 m c2)).frozen? ⟨w.heap.size + 1, j, none⟩ = false := fun j => by simp [go_sem, g2]
  have D6 := D5.set G5 0 (.string x.1) (by simp)
  have G6 := frozen_set (M := w.heap.size + 1) G5 0 (.string x.1)
  have D7 := D6.set G6 1 (.string x.2.1) (by simp)
  have G7 := frozen_set (M := w.heap.size + 1) G6 1 (.string x.2.1)
  have D8 := D7.set G7 2 (.int .i64 x.2.2.1) (by simp)
  have G8 := frozen_set (M := w.heap.size + 1) G7 2 (.int .i64 x.2.2.1)
  have D9 := D8.set G8 3 (.int .i64 x.2.2.2.1) (by simp)
  have G9 := frozen_set (M := w.heap.size + 1) G8 3 (.int .i64 x.2.2.2.1)
  have D10 := D9.set G9 4 (.int .i64 x.2.2.2.2.1) (by simp)
  have G10 := frozen_set (M := w.heap.size + 1) G9 4 (.int .i64 x.2.2.2.2.1)
  have D11 := D10.set G10 5 (.slice A2 m c2) (by simp)
  simp only [List.set_cons_zero, List.set_cons_succ] at D11
  have hk2 : Below w.heap.size w w2 := hb3.trans (hk.mono (by omega))
  have hbF := ((((((hk2.setCell (p := ⟨w.heap.size, 5, none⟩) (Nat.le_refl _) (.slice A2 m c2)).setCell (p := ⟨w.heap.size + 1, 0, none⟩) (Nat.le_succ _) (.string x.1)).setCell (p := ⟨w.heap.size + 1, 1, none⟩) (Nat.le_succ _) (.string x.2.1)).setCell (p := ⟨w.heap.size + 1, 2, none⟩) (Nat.le_succ _) (.int .i64 x.2.2.1)).setCell (p := ⟨w.heap.size + 1, 3, none⟩) (Nat.le_succ _) (.int .i64 x.2.2.2.1)).setCell (p := ⟨w.heap.size + 1, 4, none⟩) (Nat.le_succ _) (.int .i64 x.2.2.2.2.1)).setCell (p := ⟨w.heap.size + 1, 5, none⟩) (Nat.le_succ _) (.slice A2 m c2)
  (try simp only [Exit.inBlock, Exit.then])
  exact bodyPost_ret (v := .agg #[.string x.1, .string x.2.1, .int .i64 x.2.2.1, .int .i64 x.2.2.2.1, .int .i64 x.2.2.2.2.1, .slice A2 m c2]) (run_results_bl rfl _ _ _ rfl D11) rfl ⟨A2, m, c2, rfl, hbF⟩

theorem filter_take1 {α : Type} (q : α → Bool) (l : List α) (k : Nat) (h : k < l.length) : (l.take (k + 1)).filter q = (l.take k).filter q ++ (if q l[k] = true then [l[k]] else []) := by
  rw [List.take_add_one, List.getElem?_eq_getElem h, Option.toList_some, List.filter_append]
  congr 1
  by_cases hq : q l[k] = true
  · rw [if_pos hq, List.filter_cons_of_pos hq]; rfl
  · rw [if_neg hq, List.filter_cons_of_neg hq]; rfl
set_option maxRecDepth 100000 in
set_option maxHeartbeats 4000000 in
theorem inForce_any (A C : Option Addr) (n c m2 c2 : Nat) (ls : List Bl) (day : Int) (ch : List Pk) (w : World) (hl : BillLinesIn w A n ls) (hp : PicksIn w C m2 ch) (hok : ∀ x ∈ ls, okBl x) (hi : ∀ k (hk : k < ls.length), isCond ls[k].2.2.2.2.2 = true) :
    Calls Tryz.prog 140 #[.slice A n c, .int .i64 day, .slice C m2 c2] w fun e w' => ∃ A' m' c', e = .returned (.slice A' m' c') ∧ FlatL w' A' m' (ls.filter (lineOn ch day)) ∧ Below w.heap.size w w' := by
  have hn := hl.len
  obtain rfl := hl.num
  have HO := Lib.hid hok
  have HI := Lib.hid hi
  clear hok hi
  have hb0 := below_alloc w (.cells #[] 162)
  have hr0 : RowVal blF 162 (w.alloc (.cells #[] 162)) w.heap.size (.slice (some ⟨w.heap.size, 0, none⟩) 0 0) [] := empty_row rfl (Nat.le_refl _)
  go_enter Tryz.func140, Tryz.ntmps140
  go_wp2_with fail
  generalize (w.alloc (.cells #[] 162)) = V at *
  go_loopw [7, 13] (fun v i wr => ∃ (k : Nat) (R : List BlR), k ≤ ls.length ∧ i = .int .i64 k ∧ RowVal blF 162 wr w.heap.size v R ∧ BillLineOfs (fun _ _ _ => True) R ((ls.take k).filter (lineOn ch day)) ∧ Below w.heap.size w wr) (fun _ i _ => ls.length - (intOf i).toNat)
  case atStart => exact ⟨0, [], by omega, rfl, hr0, ⟨rfl, fun k h1 _ => by cases h1⟩, hb0⟩
  case round =>
    clear hr0 hb0
    obtain ⟨k, R, hk, rfl, hr, hR, hb⟩ := hrel
    have hRL := hR.1
    have hRK : R.length ≤ k := by
      rw [hRL]
      exact Nat.le_trans (List.length_filter_le _ _) (by rw [List.length_take]; omega)
    have HR := Lib.hid hR
    clear hR hRL
    by_cases hlt : k < ls.length
    · have HT := Lib.hid (filter_take1 (lineOn ch day) ls k hlt)
      obtain ⟨A9, q9, rfl, _⟩ := hr.form
      obtain ⟨b, o, B2, m9, c9, rfl, hbl, hc0, hc1, hc2, hc3, hc4, hc5, hcd⟩ := bl_at (hl.keep hb) hlt
      have hs := below_alloc wr (.cells #[.string ls[k].1, .string ls[k].2.1, .int .i64 ls[k].2.2.1, .int .i64 ls[k].2.2.2.1, .int .i64 ls[k].2.2.2.2.1, .slice B2 m9 c9] 162)
      have hB := below_on hb hs
      have BX : BoxOf (wr.alloc (.cells #[.string ls[k].1, .string ls[k].2.1, .int .i64 ls[k].2.2.1, .int .i64 ls[k].2.2.2.1, .int .i64 ls[k].2.2.2.2.1, .slice B2 m9 c9] 162)) wr.heap.size [.string ls[k].1, .string ls[k].2.1, .int .i64 ls[k].2.2.1, .int .i64 ls[k].2.2.2.1, .int .i64 ls[k].2.2.2.2.1, .slice B2 m9 c9] := boxOf_alloc wr #[.string ls[k].1, .string ls[k].2.1, .int .i64 ls[k].2.2.1, .int .i64 ls[k].2.2.2.1, .int .i64 ls[k].2.2.2.2.1, .slice B2 m9 c9] 162
      by_cases h1 : ls[k].2.2.2.1 ≤ day
      case neg =>
        have HF : Hid ((ls.take (k + 1)).filter (lineOn ch day) = (ls.take k).filter (lineOn ch day)) := by
          show _ = _
          rw [HT.out, if_neg (by unfold lineOn; rw [decide_eq_false h1]; simp), List.append_nil]
        go_wp2_with fail
        go_roundw
        case rel => exact ⟨k + 1, R, by omega, by go_num, hr.keep hs, by rw [HF.out]; exact HR.out, hB⟩
        case measure => simp [intOf]; omega
      by_cases h2 : day ≤ ls[k].2.2.2.2.1
      case neg =>
        have HF : Hid ((ls.take (k + 1)).filter (lineOn ch day) = (ls.take k).filter (lineOn ch day)) := by
          show _ = _
          rw [HT.out, if_neg (by unfold lineOn; rw [decide_eq_false h2]; simp), List.append_nil]
        go_wp2_with fail
        go_roundw
        case rel => exact ⟨k + 1, R, by omega, by go_num, hr.keep hs, by rw [HF.out]; exact HR.out, hB⟩
        case measure => simp [intOf]; omega
      have hokn := HO.out _ (List.getElem_mem hlt)
      have HKN : Hid (∀ y ∈ ls[k].2.2.2.2.2, okCn y) := by unfold okBl at hokn; exact hokn.2.2
      clear hokn
      have HL : Hid (lineOn ch day ls[k] = condVal ls[k].2.2.2.2.2 ch) := by show _ = _; unfold lineOn; rw [decide_eq_true h1, decide_eq_true h2]; rfl
      have hcd2 := hcd.keep hs
      have hr1 := hr.keep hs
      have x3 := BX.2 3 _ rfl
      have x4 := BX.2 4 _ rfl
      have x5 := BX.2 5 _ rfl
      go_wp2_with fail
      generalize wr.alloc (.cells #[.string ls[k].1, .string ls[k].2.1, .int .i64 ls[k].2.2.1, .int .i64 ls[k].2.2.2.1, .int .i64 ls[k].2.2.2.2.1, .slice B2 m9 c9] 162) = V1 at *
      generalize wr.heap.size = N at *
      clear hc0 hc1 hc2 hc3 hc4 hc5 hs hb hbl hcd hr x3 x4 x5
      refine (implHolds_any _ _ _ _ _ _ ls[k].2.2.2.2.2 ch _ hcd2 (hp.keep hB) HKN.out (HI.out k hlt)).mono ?_
      rintro e V2 ⟨rfl, hs⟩
      replace hB := below_on hB hs
      replace BX := BX.keep hs
      replace hr1 := hr1.keep hs
      replace hcd2 := hcd2.keep hs
      clear hs
      rw [← HL.out]
      have x0 := BX.2 0 _ rfl
      have x1 := BX.2 1 _ rfl
      have x2 := BX.2 2 _ rfl
      have x3 := BX.2 3 _ rfl
      have x4 := BX.2 4 _ rfl
      have x5 := BX.2 5 _ rfl
      cases g : lineOn ch day ls[k]
      · have HF : Hid ((ls.take (k + 1)).filter (lineOn ch day) = (ls.take k).filter (lineOn ch day)) := by
          show _ = _
          rw [HT.out, if_neg (by rw [g]; decide), List.append_nil]
        go_wp2_with fail
        go_roundw
        case rel => exact ⟨k + 1, R, by omega, by go_num, hr1, by rw [HF.out]; exact HR.out, hB⟩
        case measure => simp [intOf]; omega
      have HF : Hid ((ls.take (k + 1)).filter (lineOn ch day) = (ls.take k).filter (lineOn ch day) ++ [ls[k]]) := by
        show _ = _
        rw [HT.out, if_pos g]
      go_wp2_with fail
      refine (copyLine_any ls[k] B2 m9 c9 _ hcd2).mono ?_
      rintro e V3 ⟨A5, m5, c5, rfl, hs⟩
      replace hB := below_on hB hs
      replace hr1 := hr1.keep hs
      clear hs x0 x1 x2 x3 x4 x5 BX
      have hsz := hB.size
      go_wp2_with (at_builtin; refine wpList_append_one blElem rfl _ _ rfl rfl (l := R) hr1 (by omega) (ls[k].1, ls[k].2.1, ls[k].2.2.1, ls[k].2.2.2.1, ls[k].2.2.2.2.1, (A5, m5, c5)) #[.string ls[k].1, .string ls[k].2.1, .int .i64 ls[k].2.2.1, .int .i64 ls[k].2.2.2.1, .int .i64 ls[k].2.2.2.2.1, .slice A5 m5 c5] rfl (by simp [Value.oneCell']) V3.heap.size _ rfl rfl hsz ?_; intro v' w2 hrow' hbl hgr)
      go_roundw
      case rel => exact ⟨k + 1, _, by omega, by go_num, hrow', by rw [HF.out]; exact HR.out.snoc ⟨rfl, rfl, rfl, rfl, rfl, trivial⟩, hB.trans (hbl _ (Nat.le_refl _) hsz)⟩
      case measure => simp [intOf]; omega
    · obtain rfl : k = ls.length := by omega
      obtain ⟨A9, c9, rfl, ho⟩ := hr.form
      have HF : Hid (FlatL wr A9 R.length (ls.filter (lineOn ch day))) := ⟨R, ho.rows (by omega), by have := HR.out; rw [List.take_length] at this; exact this⟩
      go_wp2_with fail
      go_ret
      exact ⟨A9, R.length, c9, rfl, HF.out, hb⟩
end Go.Proofs.YtlnkofnfgemfdaaGreat
/- The walk of takenOn's closure. -/
namespace Go.Proofs.YtlnkofnfgemfdaaGreat
open Go.RowKit
theorem BoxOf.only {w w' : World} {N a b : Nat} {cs : List Value} (h : BoxOf w N cs) (ho : Only a b w w') (hN : ¬ (a ≤ N ∧ N < b)) : BoxOf w' N cs :=
  ⟨Nat.lt_of_lt_of_le h.1 ho.size, fun j u hu => (World.cell?_of_block (a := ⟨N, j, none⟩) (ho.block N h.1 hN)).trans (h.2 j u hu)⟩
theorem only_store {w : World} {g o : Nat} {v : Value} : Only g (g + 1) w (w.setCell ⟨g, o, none⟩ v) :=
  Only.of_grown (row := some g) ⟨rfl, rfl, rfl, by simp, fun k _ hk => heap_setCell_other w ⟨g, o, none⟩ k v (fun e => hk (by simp [e]))⟩ (fun x hx => by injection hx with hx; omega)
/-- The ending of the closure: whether so much can be told, the days' row anew. -/
def TakeEnd (w : World) (lo g : Nat) (u : Int) (M : List Int) (e : Ending) (w' : World) : Prop := e = .returned (.bool (decide (u ≤ 1000000000))) ∧ NumRow w' lo g 1000 1000 M ∧ Only g (g + 1) w w'
set_option maxRecDepth 100000 in
set_option maxHeartbeats 4000000 in
theorem take_any (r : PtR) (p : Pt) (N1 N2 N3 lo g dn : Nat) (code item : ByteArray) (q : Int) (M : List Int) (w w0 : World) (hp : PlantIn w0 r p) (hbw : Below w0.heap.size w0 w) (hok : okPt p) (hpl : isPlant p = true) (h0 : 0 ≤ findIt p.it code) (B1 : BoxOf w N1 [.slice r.i.a r.i.n r.i.c, .slice r.l.a r.l.n r.l.c, .slice r.w.a r.w.n r.w.c, .slice r.e.a r.e.n r.e.c, .slice r.p.a r.p.n r.p.c, .slice r.s.a r.s.n r.s.c, .slice r.q.a r.q.n r.q.c]) (B2 : BoxOf w N2 [.string item]) (B3 : BoxOf w N3 [.slice (some ⟨g, 0, none⟩) 1000 1000]) (hA : NumRow w lo g 1000 1000 M) (hd : dn < 1000) (hq : 0 ≤ q ∧ q ≤ 100000) (hM : 0 ≤ M.getD dn 0 ∧ M.getD dn 0 ≤ 60000000000000000) :
    Calls Tryz.prog 138 #[.string code, .int .i64 q, .int .i64 (dn : Int), .pointer (some ⟨N1, 0, none⟩), .pointer (some ⟨N2, 0, none⟩), .pointer (some ⟨N3, 0, none⟩)] w (TakeEnd w lo g (unitAt p item code dn) (M.set dn (M.getD dn 0 + unitAt p item code dn * q))) := by
  obtain ⟨hL, _⟩ := lev_of (isPlant_parts hpl).1
  generalize runTo (edges p.it p.ls) p.it.length p.it.length = lev at hL
  have hub := unitV_bd hL (lineOn p.ch dn) item code
  have HI : Hid (∀ k (hk : k < p.ls.length), isCond p.ls[k].2.2.2.2.2 = true) := fun k hk => (okLine_parts ((isBills_parts (isPlant_parts hpl).1).2.2.1 k hk)).2.2.2.2.2
  obtain ⟨⟨a0, n0, c0⟩, ⟨a1, n1, c1⟩, ⟨a2, n2, c2⟩, ⟨a3, n3, c3⟩, ⟨a4, n4, c4⟩, ⟨a5, n5, c5⟩, ⟨a6, n6, c6⟩⟩ := r
  have HQ0 := Lib.hid (hp.it.keep hbw)
  have HQ1 := Lib.hid (hp.ls.keep hbw)
  have HQ4 := Lib.hid (hp.ch.keep hbw)
  have HOK := Lib.hid hok
  have HL := Lib.hid hL
  have HU : Hid (unitAt p item code dn = unitV p.it p.ls (lineOn p.ch dn) item code) := rfl
  dsimp only at HQ0 HQ1 HQ4 B1 ⊢
  clear hp hpl hok hL hbw
  have hn0 : n0 = p.it.length := HQ0.out.1
  subst hn0
  obtain ⟨b0, b1, b2, b3, b4, b5, b6, bl⟩ := B1.seven
  have i0 := B2.2 0 _ rfl
  have il := B2.1
  rw [HU.out]
  generalize hM0 : M.getD dn 0 = mv at *
  have HM0 := Lib.hid hM0
  clear hM0
  go_enter Tryz.func138, Tryz.ntmps138
  go_wp2_with fail
  refine wp_region_held_drew (S := (fun w' => w'.cell? ⟨N1, 0, none⟩ = some (.slice a0 p.it.length c0) ∧ w'.cell? ⟨N1, 1, none⟩ = some (.slice a1 n1 c1) ∧ w'.cell? ⟨N1, 4, none⟩ = some (.slice a4 n4 c4) ∧ w'.cell? ⟨N2, 0, none⟩ = some (.string item) ∧ N1 < w'.heap.size ∧ N2 < w'.heap.size ∧ Below w.heap.size w w')) (by kernel_rfl) ⟨b0, b1, b4, i0, bl, il, (Below.refl _ _).drew⟩ (fun hHeld => ?_)
  refine held_on 0 (some 11) rfl rfl (by kernel_rfl) (by kernel_rfl) (by kernel_rfl) (fun _ _ _ h => h) (by rfl) hHeld (v := ?v1) ?y1 ?r1
  case y1 => intro w hSw; (try dsimp only at hSw); go_simp; (try with_reducible rfl)
  try simp only [Act.put, List.setIfInBounds_toArray, List.set_cons_zero, List.set_cons_succ]
  refine held_on 1 (some 12) rfl rfl (by kernel_rfl) (by kernel_rfl) (by kernel_rfl) (fun _ _ _ h => h) (by rfl) hHeld (v := ?v2) ?y2 ?r2
  case y2 => intro w hSw; (try dsimp only at hSw); go_simp; (try with_reducible rfl)
  try simp only [Act.put, List.setIfInBounds_toArray, List.set_cons_zero, List.set_cons_succ]
  refine held_on 2 (some 13) rfl rfl (by kernel_rfl) (by kernel_rfl) (by kernel_rfl) (fun _ _ _ h => h) (by rfl) hHeld (v := ?v3) ?y3 ?r3
  case y3 => intro w hSw; (try dsimp only at hSw); go_simp; (try with_reducible rfl)
  try simp only [Act.put, List.setIfInBounds_toArray, List.set_cons_zero, List.set_cons_succ]
  refine held_on 3 (some 14) rfl rfl (by kernel_rfl) (by kernel_rfl) (by kernel_rfl) (fun _ _ _ h => h) (by rfl) hHeld (v := ?v4) ?y4 ?r4
  case y4 => intro w hSw; (try dsimp only at hSw); go_simp; (try with_reducible rfl)
  try simp only [Act.put, List.setIfInBounds_toArray, List.set_cons_zero, List.set_cons_succ]
  refine held_on 4 (some 15) rfl rfl (by kernel_rfl) (by kernel_rfl) (by kernel_rfl) (fun _ _ _ h => h) (by rfl) hHeld (v := ?v5) ?y5 ?r5
  case y5 => intro w hSw; (try dsimp only at hSw); go_simp; (try with_reducible rfl)
  try simp only [Act.put, List.setIfInBounds_toArray, List.set_cons_zero, List.set_cons_succ]
  refine held_on 5 (some 16) rfl rfl (by kernel_rfl) (by kernel_rfl) (by kernel_rfl) (fun _ _ _ h => h) (by rfl) hHeld (v := ?v6) ?y6 ?r6
  case y6 => intro w hSw; (try dsimp only at hSw); go_simp; (try with_reducible rfl)
  try simp only [Act.put, List.setIfInBounds_toArray, List.set_cons_zero, List.set_cons_succ]
  refine held_on 6 (some 17) rfl rfl (by kernel_rfl) (by kernel_rfl) (by kernel_rfl) (fun _ _ _ h => h) (by rfl) hHeld (v := ?v7) ?y7 ?r7
  case y7 => intro w hSw; (try dsimp only at hSw); go_simp; (try with_reducible rfl)
  try simp only [Act.put, List.setIfInBounds_toArray, List.set_cons_zero, List.set_cons_succ]
  refine held_on 8 (some 19) rfl rfl (by kernel_rfl) (by kernel_rfl) (by kernel_rfl) (fun _ _ _ h => h) (by rfl) hHeld (v := ?v8) ?y8 ?r8
  case y8 => intro w hSw; (try dsimp only at hSw); go_simp; (try with_reducible rfl)
  try simp only [Act.put, List.setIfInBounds_toArray, List.set_cons_zero, List.set_cons_succ]
  refine held_on 9 (some 20) rfl rfl (by kernel_rfl) (by kernel_rfl) (by kernel_rfl) (fun _ _ _ h => h) (by rfl) hHeld (v := ?v9) ?y9 ?r9
  case y9 => intro w hSw; (try dsimp only at hSw); go_simp; (try with_reducible rfl)
  try simp only [Act.put, List.setIfInBounds_toArray, List.set_cons_zero, List.set_cons_succ]
  refine wpAnyH_ready (rs := [7]) (by kernel_rfl) (by simp) ?_
  refine AllReadyH.cons rfl (fun K hK => ?_) AllReadyH.nil
  go_simp
  go_at_call 140; refine (inForce_any _ _ _ _ _ _ p.ls (dn : Int) p.ch _ (HQ1.out.keep (by obtain ⟨y_c0, y_c1, y_c4, y_i0, y_n, y_i, y_R⟩ := hHeld; exact y_R)) (HQ4.out.keep (by obtain ⟨y_c0, y_c1, y_c4, y_i0, y_n, y_i, y_R⟩ := hHeld; exact y_R)) HOK.out.ls HI.out).mono ?_; rintro e w6 ⟨A5, m5, c5, rfl, hfl, hb3⟩; go_simp
  refine hK.out _ _ ?_ (fun hHeld => ?_)
  · obtain ⟨y_c0, y_c1, y_c4, y_i0, y_n, y_i, y_R⟩ := hHeld; exact ⟨(hb3.cell y_n).trans y_c0, (hb3.cell y_n).trans y_c1, (hb3.cell y_n).trans y_c4, (hb3.cell y_i).trans y_i0, Nat.lt_of_lt_of_le y_n hb3.size, Nat.lt_of_lt_of_le y_i hb3.size, below_on y_R hb3⟩
  clear hK K
  try simp only [Act.put, List.setIfInBounds_toArray, List.set_cons_zero, List.set_cons_succ]
  refine wpAnyH_ready (rs := [10]) (by kernel_rfl) (by simp) ?_
  refine AllReadyH.cons rfl (fun K hK => ?_) AllReadyH.nil
  go_simp
  go_at_call 139; refine (through_any p.it p.ls lev (lineOn p.ch (dn : Int)) item HL.out _ _ _ _ _ _ p.it.length code _ (HQ0.out.keep (by obtain ⟨y_c0, y_c1, y_c4, y_i0, y_n, y_i, y_R⟩ := hHeld; exact y_R)) hfl h0 (by omega)).mono ?_; rintro e w7 ⟨rfl, hb3⟩; go_simp
  refine hK.out _ _ ?_ (fun hHeld => ?_)
  · obtain ⟨y_c0, y_c1, y_c4, y_i0, y_n, y_i, y_R⟩ := hHeld; exact ⟨(hb3.cell y_n).trans y_c0, (hb3.cell y_n).trans y_c1, (hb3.cell y_n).trans y_c4, (hb3.cell y_i).trans y_i0, Nat.lt_of_lt_of_le y_n hb3.size, Nat.lt_of_lt_of_le y_i hb3.size, below_on y_R hb3⟩
  clear hK K
  try simp only [Act.put, List.setIfInBounds_toArray, List.set_cons_zero, List.set_cons_succ]
  refine held_on 11 (some 10) rfl rfl (by kernel_rfl) (by kernel_rfl) (by kernel_rfl) (fun _ _ _ h => h) (by rfl) hHeld (v := ?v10) ?y10 ?r10
  case y10 => intro w hSw; (try dsimp only at hSw); go_simp; (try with_reducible rfl)
  try simp only [Act.put, List.setIfInBounds_toArray, List.set_cons_zero, List.set_cons_succ]
  refine wpAnyH_done (by kernel_rfl) ?_ _
  obtain ⟨y_c0, y_c1, y_c4, y_i0, y_n, y_i, y_R⟩ := hHeld
  have hA7 := hA.keep y_R
  have x3 := (B3.keep y_R).2 0 _ rfl
  have hd2 : (dn : Int) < (1000 : Int) := by omega
  have cA := hA7.cell (j := dn) (by rw [hA7.len]; exact hd)
  have cA2 : w7.cell? ⟨g, dn, none⟩ = some (.int .i64 mv) := by rw [cA, ← HM0.out, List.getD_eq_getElem?_getD, List.getElem?_eq_getElem (by rw [hA7.len]; exact hd)]; rfl
  have fA := hA7.frozen dn
  clear cA
  have HR := Lib.hid y_R
  clear y_c0 y_c1 y_c4 y_i0 y_n y_i y_R b0 b1 b2 b3 b4 b5 b6 bl i0 il hfl
  generalize unitV p.it p.ls (lineOn p.ch (dn : Int)) item code = u at *
  have hp0 : 0 ≤ q * u := Int.mul_nonneg (by omega) (by omega)
  have hp1 : q * u ≤ 100000 * 1000000001 := Int.mul_le_mul (by omega) (by omega) (by omega) (by omega)
  have hw1 : IntKind.i64.wrap (q * u) = q * u := by apply IntWalk.i64_in <;> omega
  have hw2 : IntKind.i64.wrap (mv + q * u) = mv + q * u := by apply IntWalk.i64_in <;> omega
  go_wp2_with fail
  go_ret
  exact ⟨rfl, by rw [Int.mul_comm u q]; exact hA7.set dn _, (Only.of_below HR.out).trans only_store⟩
end Go.Proofs.YtlnkofnfgemfdaaGreat
