/- Part 12 of the texts of this claim: The walk of the reference's way to add a flow; The walks of MergeFlows; The walks of DemandFlows; Need: its cells, and the walks of the laws' own helpers on lists of it. -/
import Derived.Test.YtlnkofnfgemfdaaGreatIp11
import Derived.StillTailTactics
import Derived.Test.YtlnkofnfgemfdaaGreatIp10
import Derived.Test.YtlnkofnfgemfdaaGreatIp2
/- The walk of the reference's way to add a flow. -/
namespace Go.Proofs.YtlnkofnfgemfdaaGreat
open Go.RowKit
theorem size_alloc1 (w : World) (o : Obj) : (w.alloc o).heap.size = w.heap.size + 1 := by simp
theorem le_alloc1 {w : World} {B : Nat} (h : B ≤ w.heap.size) (o : Obj) : B ≤ (w.alloc o).heap.size := by simp; omega
theorem below_two {w w2 : World} (h : Below w.heap.size w w2) (o p : Obj) : Below w.heap.size w ((w2.alloc o).alloc p) := (h.alloc h.size _).alloc (by simp; have := h.size; omega) _
theorem len_take {l : List Fl} (k : Nat) (h : l.length ≤ 1048576) : (l.take k).length ≤ 16777216 := by simp; omega
theorem len_take1 {l : List Fl} (k : Nat) (x : Fl) (h : l.length ≤ 1048576) : (l.take k ++ [x]).length ≤ 16777216 := by simp; omega
theorem len_1 {l : List Fl} (x : Fl) (h : l.length ≤ 1048576) : (l ++ [x]).length ≤ 16777216 := by simp; omega
theorem new_row (w : World) {H : Nat} (hH : w.heap.size = H) (d q : Int) : RowsIn flF (w.alloc (.cells #[.int .i64 d, .int .i64 q] 90)) (some ⟨H, 0, none⟩) 1 [(d, q)] := by
  refine ⟨rfl, rfl, by omega, fun _ => ⟨H, 0, rfl, by simp; omega, fun j u hu => ?_⟩⟩
  have := news_at hH #[.int .i64 d, .int .i64 q] 90 j u hu
  rwa [Addr.add_lit] at this
theorem flF_set (l : List Fl) (k : Nat) (x : Int) (hk : k < l.length) : (l.flatMap flF.enc).set (k * 2 + 1) (.int .i64 x) = (l.set k (l[k].1, x)).flatMap flF.enc := by
  induction l generalizing k with
  | nil => simp at hk
  | cons f t ih =>
    cases k with
    | zero => simp [flF]
    | succ k =>
      have h := ih k (by simpa using hk)
      simp only [List.flatMap_cons, List.set_cons_succ, List.getElem_cons_succ]
      rw [← h, List.set_append_right _ _ (by simp [flF]; omega)]
      congr 2
      simp [flF]
      omega
theorem own_some {w : World} {lo n c : Nat} {A : Option Addr} {l : List Fl} (h : OwnRows flF 90 w lo A n c l) (hn : 0 < n) : ∃ g, A = some ⟨g, 0, none⟩ := by
  rcases h.2.2 with ⟨hv, h0⟩ | ⟨g, cap, cur, hv, _⟩
  · omega
  · exact ⟨g, by injection hv⟩
set_option maxRecDepth 100000 in
set_option maxHeartbeats 4000000 in
theorem l14Add_any (A : Option Addr) (n c : Nat) (l : List Fl) (d q : Int) (w : World) (ha : FlowsIn w A n l) (hnc : n ≤ c) (_hc : c ≤ 9223372036854775807) (hq : -1000000000000 ≤ q ∧ q ≤ 1000000000000) (hl : ∀ f ∈ l, -1000000000000 ≤ f.2 ∧ f.2 ≤ 1000000000000) (hn : l.length ≤ 1048576) :
    Calls Tryz.prog 103 #[.slice A n c, .int .i64 d, .int .i64 q] w (OneRow w (addS l d q)) := by
  obtain rfl := ha.1
  obtain ⟨q1, q2⟩ := hq
  have HL := Lib.hid hl
  clear hl
  go_enter Tryz.func103, Tryz.ntmps103
  go_wp2
  go_loop [7] (fun i => ∃ k : Nat, k ≤ l.length ∧ i = .int .i64 k ∧ Hid (∀ j (hj : j < l.length), j < k → l[j].1 < d)) (fun i => l.length - (intOf i).toNat)
  case atStart => exact ⟨0, by omega, rfl, fun j _ h => absurd h (by omega)⟩
  case round =>
    obtain ⟨k, hk, rfl, HI⟩ := hrel
    by_cases hlt : k < l.length
    · obtain ⟨b, o, rfl, hb, hc1, hc2⟩ := flow_at ha hlt
      by_cases h1 : l[k].1 < d
      · go_wp2
        go_round
        case rel =>
          refine ⟨k + 1, by omega, by go_num, ?_⟩
          intro j hj hjk
          rcases Nat.lt_or_ge j k with h3 | h3
          · exact HI.out j hj h3
          · obtain rfl : j = k := by omega
            exact h1
        case measure => simp [intOf]; omega
      by_cases h2 : l[k].1 = d
      · have e1 : (l[k].1 == d) = true := by rw [beq_iff_eq]; exact h2
        have H2 := Lib.hid h2
        clear h2
        have hfm : (l.flatMap flF.enc)[k * 2 + 1]? = some (.int .i64 l[k].2) := flatMap_at flF.enc 2 flF.len l k 1 hlt (by omega)
        have HF := Lib.hid hfm
        clear hfm
        obtain ⟨m1, m2⟩ := HL.out _ (List.getElem_mem hlt)
        go_wp2_with (at_builtin; refine wpList_append_copy flowElem flOne rfl (.tmp 24) (.tmp 25) rfl rfl (empty_row rfl (Nat.le_refl _)) rfl (ha.keep (below_alloc _ _)) (by simp) ?_; intro A2 c2 w2 ho2 hbl; have hB : Below w.heap.size w w2 := (below_alloc w (.cells #[] 90)).trans (hbl _ (Nat.le_refl _) (by simp)); clear hbl; obtain ⟨g, rfl⟩ := own_some ho2 (by omega); have hd1 := (hB.cell (p := ⟨b, o + k * 2, none⟩) hb).trans hc1; have hd2 := (ho2.2.cellAt (k * 2 + 1) (by show k * 2 + 1 < l.length * 2; omega)).trans HF.out; have hd3 := ho2.2.frozenAt (k * 2 + 1))
        have s1 := (ho2.2.stored (k * 2 + 1) (.int .i64 (l[k].2 + q))).1
        rw [flF_set l k _ hlt] at s1
        have S1 := Lib.hid s1
        have hsz := hB.size
        go_wp2
        go_ret
        refine oneRow_mk ?_ (hB.setCell (by exact (own_lt ho2.2 _ rfl).1) _)
        rw [addS_eq l d q k hlt HI.out H2.out]
        show World.ownsRow _ _ _ _ _ (l.set k (l[k].1, l[k].2 + q)).length _
        rw [List.length_set]
        exact S1.out
      · have e1 : (l[k].1 == d) = false := by rw [beq_eq_false_iff_ne]; exact h2
        have H2 := Lib.hid h2
        clear h2
        have hkc : k ≤ c := by omega
        go_wp2_with (at_builtin; refine wpList_append_copy flowElem flOne rfl (.tmp 24) (.tmp 25) rfl rfl (empty_row rfl (Nat.le_refl _)) rfl (ha.keep (below_alloc _ _)) (by simp) ?_; intro A2 c2 w2 ho2 hbl; have hB : Below w.heap.size w w2 := (below_alloc w (.cells #[] 90)).trans (hbl _ (Nat.le_refl _) (by simp)); clear hbl; have hd1 := (hB.cell (p := ⟨b, o + k * 2, none⟩) hb).trans hc1; have hr2 := ha.keep hB)
        have hsz := hB.size
        have HT : Hid (∀ W, Below w.heap.size w W → RowsIn flF W (some ⟨b, o, none⟩) k (l.take k)) := fun W hW => (ha.keep hW).take (by omega)
        have HD : Hid (∀ W, Below w.heap.size w W → RowsIn flF W (some ⟨b, o + k * 2, none⟩) (l.length - k) (l.drop k)) := fun W hW => by
          have := (ha.keep hW).drop (k := k) (cap := c) (by omega) hnc
          rw [if_neg (by omega)] at this
          simp only [Option.map_some, Addr.add_lit] at this
          exact this
        have hck : ¬ c = k := by omega
        go_region_law (first | (refine step_append_rows flowElem flOne rfl (.tmp 52) (.tmp 55) rfl ((w2.alloc (.cells #[] 90)).drew) (lo := w.heap.size) (v := .slice (some ⟨w2.heap.size, 0, none⟩) 0 0) (l := []) rfl (RowVal.drew (empty_row (F := flF) (e := 90) (H := w2.heap.size) rfl hB.size)) (Nat.zero_le _) rfl (HT.out _ ((hB.alloc hB.size _).drew)) ((hB.alloc hB.size _).drew).size ?_; intro v3 w3 hrow3 hg3; rw [List.nil_append] at hrow3; have hB3 : Below w.heap.size w w3 := ((hB.alloc hB.size _).drew).trans (RowVal.below (RowVal.drew (empty_row (F := flF) (e := 90) (H := w2.heap.size) rfl hB.size)) hg3 (Nat.le_refl _) ((hB.alloc hB.size _).drew).size); have hlen3 := len_take k hn; have hle3 := le_alloc1 hB3.size (.cells #[.int .i64 d, .int .i64 q] 90); clear hg3) | (refine step_append_rows flowElem flOne rfl (.tmp 52) (.tmp 55) rfl (((w2.alloc (.cells #[] 90)).alloc (.cells #[.int .i64 d, .int .i64 q] 90)).drew) (lo := w.heap.size) (v := .slice (some ⟨w2.heap.size, 0, none⟩) 0 0) (l := []) rfl (RowVal.drew (RowVal.alloc (empty_row (F := flF) (e := 90) (H := w2.heap.size) rfl hB.size) _)) (Nat.zero_le _) rfl (HT.out _ ((below_two hB _ _).drew)) ((below_two hB _ _).drew).size ?_; intro v3 w3 hrow3 hg3; rw [List.nil_append] at hrow3; have hB3 : Below w.heap.size w w3 := ((below_two hB _ _).drew).trans (RowVal.below (RowVal.drew (RowVal.alloc (empty_row (F := flF) (e := 90) (H := w2.heap.size) rfl hB.size) _)) hg3 (Nat.le_refl _) ((below_two hB _ _).drew).size); have hX3 := RowsIn.far (RowsIn.drew (new_row _ (H := w2.heap.size + 1) (size_alloc1 _ _) d q)) hg3 (by simp [Value.ownBlock]); have hlen3 := len_take k hn; have hle3 := le_alloc1 hB3.size (.cells #[.int .i64 d, .int .i64 q] 90); clear hg3) | (refine step_append_rows flowElem flOne rfl (.tmp 52) (.tmp 55) rfl (((w2.alloc (.cells #[.int .i64 d, .int .i64 q] 90)).alloc (.cells #[] 90)).drew) (lo := w.heap.size) (v := .slice (some ⟨w2.heap.size + 1, 0, none⟩) 0 0) (l := []) rfl (RowVal.drew (empty_row (F := flF) (e := 90) (H := w2.heap.size + 1) (size_alloc1 _ _) (le_alloc1 hB.size _))) (Nat.zero_le _) rfl (HT.out _ ((below_two hB _ _).drew)) ((below_two hB _ _).drew).size ?_; intro v3 w3 hrow3 hg3; rw [List.nil_append] at hrow3; have hB3 : Below w.heap.size w w3 := ((below_two hB _ _).drew).trans (RowVal.below (RowVal.drew (empty_row (F := flF) (e := 90) (H := w2.heap.size + 1) (size_alloc1 _ _) (le_alloc1 hB.size _))) hg3 (Nat.le_refl _) ((below_two hB _ _).drew).size); have hX3 := RowsIn.far (RowsIn.drew ((new_row w2 rfl d q).keep (below_alloc _ _))) hg3 (by simp [Value.ownBlock]); have hlen3 := len_take k hn; have hle3 := le_alloc1 hB3.size (.cells #[.int .i64 d, .int .i64 q] 90); clear hg3) | (refine step_append_rows flowElem flOne rfl (.tmp 56) (.tmp 60) rfl (w3.alloc (.cells #[.int .i64 d, .int .i64 q] 90)) (lo := w.heap.size) rfl (RowVal.alloc hrow3 _) hlen3 rfl (new_row w3 rfl d q) hle3 ?_; intro v4 w4 hrow4 hg4; have hB4 : Below w.heap.size w w4 := (hB3.alloc hB3.size _).trans (RowVal.below (RowVal.alloc hrow3 _) hg4 (Nat.le_refl _) hle3); have hlen4 := len_take1 k (d, q) hn; clear hg4) | (refine step_append_rows flowElem flOne rfl (.tmp 56) (.tmp 60) rfl w3 (lo := w.heap.size) rfl hrow3 hlen3 rfl hX3 hB3.size ?_; intro v4 w4 hrow4 hg4; have hB4 : Below w.heap.size w w4 := hB3.trans (RowVal.below hrow3 hg4 (Nat.le_refl _) hB3.size); have hlen4 := len_take1 k (d, q) hn; clear hg4) | (refine step_append_rows flowElem flOne rfl (.tmp 61) (.tmp 64) rfl w4 (lo := w.heap.size) rfl hrow4 hlen4 rfl (HD.out _ hB4) hB4.size ?_; intro v5 w5 hrow5 hg5; have hB5 : Below w.heap.size w w5 := hB4.trans (RowVal.below hrow4 hg5 (Nat.le_refl _) hB4.size); clear hg5))
        all_goals
          have hsz5 := hB5.size
          go_wp2
          go_ret
          refine oneRow_mk ?_ hB5
          rw [addS_gt l d q k hlt HI.out (by have := H2.out; omega)]
          exact hrow5
    · obtain rfl : k = l.length := by omega
      go_wp2_with (at_builtin; refine wpList_append_copy flowElem flOne rfl (.tmp 24) (.tmp 25) rfl rfl (empty_row rfl (Nat.le_refl _)) rfl (ha.keep (below_alloc _ _)) (by simp) ?_; intro A2 c2 w2 ho2 hbl; have hB : Below w.heap.size w w2 := (below_alloc w (.cells #[] 90)).trans (hbl _ (Nat.le_refl _) (by simp)); clear hbl)
      have hsz := hB.size
      have HT : Hid (∀ W, Below w.heap.size w W → RowsIn flF W A l.length l) := fun W hW => ha.keep hW
      have HD : Hid (∀ W, Below w.heap.size w W → ∀ X, RowsIn flF W X 0 []) := fun W _ X => RowsIn.nil_ W X
      go_region_law (first | (refine step_append_rows flowElem flOne rfl (.tmp 52) (.tmp 55) rfl ((w2.alloc (.cells #[] 90)).drew) (lo := w.heap.size) (v := .slice (some ⟨w2.heap.size, 0, none⟩) 0 0) (l := []) rfl (RowVal.drew (empty_row (F := flF) (e := 90) (H := w2.heap.size) rfl hB.size)) (Nat.zero_le _) rfl (HT.out _ ((hB.alloc hB.size _).drew)) ((hB.alloc hB.size _).drew).size ?_; intro v3 w3 hrow3 hg3; rw [List.nil_append] at hrow3; have hB3 : Below w.heap.size w w3 := ((hB.alloc hB.size _).drew).trans (RowVal.below (RowVal.drew (empty_row (F := flF) (e := 90) (H := w2.heap.size) rfl hB.size)) hg3 (Nat.le_refl _) ((hB.alloc hB.size _).drew).size); have hlen3 := (Nat.le_trans hn (by decide) : l.length ≤ 16777216); have hle3 := le_alloc1 hB3.size (.cells #[.int .i64 d, .int .i64 q] 90); clear hg3) | (refine step_append_rows flowElem flOne rfl (.tmp 52) (.tmp 55) rfl (((w2.alloc (.cells #[] 90)).alloc (.cells #[.int .i64 d, .int .i64 q] 90)).drew) (lo := w.heap.size) (v := .slice (some ⟨w2.heap.size, 0, none⟩) 0 0) (l := []) rfl (RowVal.drew (RowVal.alloc (empty_row (F := flF) (e := 90) (H := w2.heap.size) rfl hB.size) _)) (Nat.zero_le _) rfl (HT.out _ ((below_two hB _ _).drew)) ((below_two hB _ _).drew).size ?_; intro v3 w3 hrow3 hg3; rw [List.nil_append] at hrow3; have hB3 : Below w.heap.size w w3 := ((below_two hB _ _).drew).trans (RowVal.below (RowVal.drew (RowVal.alloc (empty_row (F := flF) (e := 90) (H := w2.heap.size) rfl hB.size) _)) hg3 (Nat.le_refl _) ((below_two hB _ _).drew).size); have hX3 := RowsIn.far (RowsIn.drew (new_row _ (H := w2.heap.size + 1) (size_alloc1 _ _) d q)) hg3 (by simp [Value.ownBlock]); have hlen3 := (Nat.le_trans hn (by decide) : l.length ≤ 16777216); have hle3 := le_alloc1 hB3.size (.cells #[.int .i64 d, .int .i64 q] 90); clear hg3) | (refine step_append_rows flowElem flOne rfl (.tmp 52) (.tmp 55) rfl (((w2.alloc (.cells #[.int .i64 d, .int .i64 q] 90)).alloc (.cells #[] 90)).drew) (lo := w.heap.size) (v := .slice (some ⟨w2.heap.size + 1, 0, none⟩) 0 0) (l := []) rfl (RowVal.drew (empty_row (F := flF) (e := 90) (H := w2.heap.size + 1) (size_alloc1 _ _) (le_alloc1 hB.size _))) (Nat.zero_le _) rfl (HT.out _ ((below_two hB _ _).drew)) ((below_two hB _ _).drew).size ?_; intro v3 w3 hrow3 hg3; rw [List.nil_append] at hrow3; have hB3 : Below w.heap.size w w3 := ((below_two hB _ _).drew).trans (RowVal.below (RowVal.drew (empty_row (F := flF) (e := 90) (H := w2.heap.size + 1) (size_alloc1 _ _) (le_alloc1 hB.size _))) hg3 (Nat.le_refl _) ((below_two hB _ _).drew).size); have hX3 := RowsIn.far (RowsIn.drew ((new_row w2 rfl d q).keep (below_alloc _ _))) hg3 (by simp [Value.ownBlock]); have hlen3 := (Nat.le_trans hn (by decide) : l.length ≤ 16777216); have hle3 := le_alloc1 hB3.size (.cells #[.int .i64 d, .int .i64 q] 90); clear hg3) | (refine step_append_rows flowElem flOne rfl (.tmp 56) (.tmp 60) rfl (w3.alloc (.cells #[.int .i64 d, .int .i64 q] 90)) (lo := w.heap.size) rfl (RowVal.alloc hrow3 _) hlen3 rfl (new_row w3 rfl d q) hle3 ?_; intro v4 w4 hrow4 hg4; have hB4 : Below w.heap.size w w4 := (hB3.alloc hB3.size _).trans (RowVal.below (RowVal.alloc hrow3 _) hg4 (Nat.le_refl _) hle3); have hlen4 := len_1 (d, q) hn; clear hg4) | (refine step_append_rows flowElem flOne rfl (.tmp 56) (.tmp 60) rfl w3 (lo := w.heap.size) rfl hrow3 hlen3 rfl hX3 hB3.size ?_; intro v4 w4 hrow4 hg4; have hB4 : Below w.heap.size w w4 := hB3.trans (RowVal.below hrow3 hg4 (Nat.le_refl _) hB3.size); have hlen4 := len_1 (d, q) hn; clear hg4) | (refine step_append_rows flowElem flOne rfl (.tmp 61) (.tmp 64) rfl w4 (lo := w.heap.size) rfl hrow4 hlen4 rfl (HD.out _ hB4 _) hB4.size ?_; intro v5 w5 hrow5 hg5; have hB5 : Below w.heap.size w w5 := hB4.trans (RowVal.below hrow4 hg5 (Nat.le_refl _) hB4.size); clear hg5))
      all_goals
        have hsz5 := hB5.size
        rw [List.append_nil] at hrow5
        go_wp2
        all_goals
          go_ret
          refine oneRow_mk ?_ hB5
          rw [addS_end l d q HI.out]
          exact hrow5
end Go.Proofs.YtlnkofnfgemfdaaGreat
/- The walks of MergeFlows. -/
namespace Go.Proofs.YtlnkofnfgemfdaaGreat
open Go.RowKit
def mergeTo (a b : List Fl) (k : Nat) : List Fl := (b.take k).foldl (fun o f => addS o f.1 f.2) a
theorem mergeTo_succ (a b : List Fl) (k : Nat) (h : k < b.length) : mergeTo a b (k + 1) = addS (mergeTo a b k) b[k].1 b[k].2 := by
  unfold mergeTo
  rw [List.take_succ_eq_append_getElem h, List.foldl_append]; rfl
theorem mergeTo_parts (a b : List Fl) (ha : areFlows a = true) (hb : areFlows b = true) (k : Nat) (hk : k ≤ b.length) :
    ascends (mergeTo a b k) ∧ (mergeTo a b k).length ≤ 40 + k ∧ ∀ f ∈ mergeTo a b k, 0 ≤ f.2 ∧ f.2 ≤ 1000000000 + 1000000000 * k := by
  induction k with
  | zero =>
    refine ⟨areFlows_ascends ha, (areFlows_parts ha).2, fun f hf => ?_⟩
    have := (areFlows_mem ha f hf).2
    simp; omega
  | succ k ih =>
    obtain ⟨h1, h2, h3⟩ := ih (by omega)
    have hm := (areFlows_mem hb b[k] (List.getElem_mem (by omega))).2
    rw [mergeTo_succ a b k (by omega)]
    refine ⟨addS_ascends _ _ _ h1, by have := addS_len (mergeTo a b k) b[k].1 b[k].2; omega, fun f hf => ?_⟩
    have := addS_bd (mergeTo a b k) b[k].1 b[k].2 0 (1000000000 + 1000000000 * k) 0 1000000000 h3 (by omega) (by omega) (by omega) (by omega) (by omega) f hf
    simp; omega
def mergeFlows (a b : List Fl) : List Fl × Bool := if (areFlows a && areFlows b) && areFlows (mergeTo a b b.length) then (mergeTo a b b.length, true) else ([], false)
theorem mergeFlows_no {a b : List Fl} (h : ((areFlows a && areFlows b) && areFlows (mergeTo a b b.length)) = false) : mergeFlows a b = ([], false) := by unfold mergeFlows; rw [h]; rfl
theorem mergeFlows_yes {a b : List Fl} (h : ((areFlows a && areFlows b) && areFlows (mergeTo a b b.length)) = true) : mergeFlows a b = (mergeTo a b b.length, true) := by unfold mergeFlows; rw [h]; rfl
theorem mergeFlows_flows (a b : List Fl) : areFlows (mergeFlows a b).1 = true := by
  unfold mergeFlows
  split
  · rename_i h
    simp only [Bool.and_eq_true] at h
    exact h.2
  · rfl
theorem mergeFlows_len (a b : List Fl) : (mergeFlows a b).1.length ≤ 16777216 := by
  have := (areFlows_parts (mergeFlows_flows a b)).2
  omega
theorem own_cap {w : World} {lo n c : Nat} {A : Option Addr} {l : List Fl} (h : OwnRows flF 90 w lo A n c l) : n ≤ c ∧ c ≤ maxLen := by
  rcases h.2.2 with ⟨hv, h0⟩ | ⟨g, cap, cur, hv, _, _, h1, h2, _⟩
  · injection hv with _ h1 h2; unfold maxLen; omega
  · injection hv with _ h3 h4; subst h4; exact ⟨h1, h2⟩
end Go.Proofs.YtlnkofnfgemfdaaGreat
/- The walks of DemandFlows. -/
namespace Go.Proofs.YtlnkofnfgemfdaaGreat
open Go.RowKit
def demStep (item : ByteArray) (o : List Fl) (d : Dm) : List Fl := if d.2.1.toList == item.toList then addS o d.2.2.2.1 d.2.2.1 else o
def demTo (l : List Dm) (item : ByteArray) (k : Nat) : List Fl := (l.take k).foldl (demStep item) []
theorem demTo_succ (l : List Dm) (item : ByteArray) (k : Nat) (h : k < l.length) : demTo l item (k + 1) = demStep item (demTo l item k) l[k] := foldl_take _ _ _ _ h
theorem areDemands_mem {l : List Dm} (h : areDemands l = true) {k : Nat} (hk : k < l.length) : 1 ≤ l[k].2.2.1 ∧ l[k].2.2.1 ≤ 100000 ∧ 0 ≤ l[k].2.2.2.1 ∧ l[k].2.2.2.1 ≤ 999 := by
  simp only [areDemands, Bool.and_eq_true, List.all_eq_true, List.mem_range] at h
  have := h.1 k hk
  simp only [okDem, dm_getD l k hk, Bool.and_eq_true, inB_iff] at this
  omega
theorem areDemands_len {l : List Dm} (h : areDemands l = true) : l.length ≤ 16 := by
  simp only [areDemands, Bool.and_eq_true, decide_eq_true_eq] at h
  omega
theorem demTo_parts (l : List Dm) (item : ByteArray) (h : areDemands l = true) (k : Nat) (hk : k ≤ l.length) : ascends (demTo l item k) ∧ (demTo l item k).length ≤ k ∧ ∀ f ∈ demTo l item k, 0 ≤ f.2 ∧ f.2 ≤ 100000 * k := by
  induction k with
  | zero => exact ⟨fun i j hj => by simp [demTo] at hj, by simp [demTo], fun f hf => by simp [demTo] at hf⟩
  | succ k ih =>
    obtain ⟨h1, h2, h3⟩ := ih (by omega)
    have hm := areDemands_mem h (show k < l.length by omega)
    rw [demTo_succ l item k (by omega)]
    unfold demStep
    split
    · refine ⟨addS_ascends _ _ _ h1, by have := addS_len (demTo l item k) l[k].2.2.2.1 l[k].2.2.1; omega, fun f hf => ?_⟩
      have := addS_bd (demTo l item k) l[k].2.2.2.1 l[k].2.2.1 0 (100000 * k) 0 100000 h3 (by omega) (by omega) (by omega) (by omega) (by omega) f hf
      omega
    · exact ⟨h1, by omega, fun f hf => by have := h3 f hf; omega⟩
def demandFlows (l : List Dm) (item : ByteArray) : List Fl := if areDemands l then demTo l item l.length else []
theorem demandFlows_no {l : List Dm} {item : ByteArray} (h : areDemands l = false) : demandFlows l item = [] := by unfold demandFlows; rw [h]; rfl
theorem demandFlows_yes {l : List Dm} {item : ByteArray} (h : areDemands l = true) : demandFlows l item = demTo l item l.length := by unfold demandFlows; rw [if_pos h]
theorem demandFlows_len (l : List Dm) (item : ByteArray) : (demandFlows l item).length ≤ 16777216 := by
  cases h : areDemands l
  · rw [demandFlows_no h]; simp
  · rw [demandFlows_yes h]
    have := (demTo_parts l item h l.length (Nat.le_refl _)).2.1
    have := areDemands_len h
    omega
end Go.Proofs.YtlnkofnfgemfdaaGreat
/- Need: its cells, and the walks of the laws' own helpers on lists of it. -/
namespace Go.Proofs.YtlnkofnfgemfdaaGreat
open Go.RowKit

abbrev Nd := ByteArray × Int
def ndF : Flat Nd := ⟨fun f => [.string (f.1), .int .i64 (f.2)], 2, fun _ => rfl⟩
abbrev NeedsIn (w : World) (A : Option Addr) (n : Nat) (l : List Nd) : Prop := RowsIn ndF w A n l
theorem need_at {w : World} {A : Option Addr} {n : Nat} {l : List Nd} (h : NeedsIn w A n l) {k : Nat} (hk : k < l.length) :
    ∃ b o, A = some ⟨b, o, none⟩ ∧ b < w.heap.size ∧ w.cell? ⟨b, o + k * 2, none⟩ = some (.string (l[k].1)) ∧ w.cell? ⟨b, o + k * 2 + 1, none⟩ = some (.int .i64 (l[k].2)) := by
  obtain ⟨b, o, e, hlt, hc⟩ := h.at_ hk
  exact ⟨b, o, e, hlt, hc 0 _ rfl, hc 1 _ rfl⟩
theorem needInfo : (Tryz.prog.info? 152).map (fun i => (i.zero, i.size, i.bytes)) = some (some (.agg #[.string ByteArray.empty, .int .i64 0]), 2, 24) := by kernel_rfl
theorem needElem : ElemOk ndF 45 152 := by
  obtain ⟨i, h1, h2, h3, h4⟩ := info_parts needInfo
  exact ⟨i, _, 24, Tryz.underlying45, h1, h2, h3, h4, rfl, by decide, by omega⟩
theorem toNeed_any (x0 : ByteArray) (x1 : Int) (w : World) : Calls Tryz.prog 113 #[.agg #[.string (x0), .int .i64 (x1)]] w fun e w' => e = .returned (.agg #[.string (x0), .int .i64 (x1)]) ∧ Below w.heap.size w w' := by
  go_enter Tryz.func113, Tryz.ntmps113
  go_wp2
  refine bodyPost_ret (v := .agg #[.string (x0), .int .i64 (x1)]) (by simp [results, Tryz.results113, go_sem]) rfl ⟨rfl, ?_⟩
  exact (((Below.refl _ _).alloc (Nat.le_refl _) _).alloc (by simp) _).alloc (by simp; omega) _
set_option maxRecDepth 100000 in
set_option maxHeartbeats 2000000 in
theorem toNeedS_any (A : Option Addr) (n c : Nat) (l : List Nd) (w : World) (hl : NeedsIn w A n l) :
    Calls Tryz.prog 50 #[.slice A n c] w fun e w' => ∃ A', e = .returned (.slice A' n n) ∧ OwnRows ndF 152 w' w.heap.size A' n n l ∧ Below w.heap.size w w' := by
  obtain ⟨i0, hi0, hz0, hz1, hz2⟩ := info_parts needInfo
  have hn := hl.len
  obtain rfl := hl.1
  go_enter Tryz.func50, Tryz.ntmps50
  go_wp2_with (at_make; refine wpList_make_full _ rfl (.tmp 6) (.tmp 6) _ rfl w.heap.size 152 i0 _ 2 Tryz.underlying45 hi0 hz0 hz1 .i64 .i64 _ _ l.length rfl rfl rfl rfl (by rw [hz2]; omega) (by unfold maxLen; omega) (Nat.le_refl _) ?_; intro w1 hown hg)
  have hb1 := below_none hg
  generalize hzs : (madeCells (Value.agg #[.string ByteArray.empty, .int .i64 0]).cells (l.length * 2)).toList = zs at hown
  have hzl : zs.length = (l.flatMap ndF.enc).length := by rw [flatMap_len ndF.enc 2 ndF.len, hown.1]
  clear hg hzs
  have HZ := Lib.hid hzl; clear hzl
  have hown1 : w1.ownsRow w.heap.size 152 2 (.slice (some ⟨w.heap.size, 0, none⟩) l.length l.length) l.length (fillC zs (l.flatMap ndF.enc) 0) := by
    rw [fillC_zero]; exact hown
  clear hown
  go_loopw [4] (fun i wr => ∃ k : Nat, k ≤ l.length ∧ i = .int .i64 k ∧ wr.ownsRow w.heap.size 152 2 (.slice (some ⟨w.heap.size, 0, none⟩) l.length l.length) l.length (fillC zs (l.flatMap ndF.enc) (k * 2)) ∧ Below w.heap.size w wr) (fun i _ => l.length - (intOf i).toNat)
  case atStart => exact ⟨0, by omega, rfl, by rw [Nat.zero_mul]; exact hown1, hb1⟩
  case round =>
    obtain ⟨k, hk, rfl, hown, hb⟩ := hrel
    by_cases hlt : k < l.length
    · obtain ⟨b, o, rfl, _, hc0, hc1⟩ := need_at (hl.keep hb) hlt
      go_wp2_with fail
      refine (toNeed_any _ _ _).mono ?_
      rintro e w2 ⟨rfl, hb2⟩
      have ho := own_keep hown hb2
      have hlen : (l.flatMap ndF.enc).length = l.length * 2 := flatMap_len ndF.enc 2 ndF.len l
      have hz := HZ.out
      have e0 : (l.flatMap ndF.enc)[k * 2]? = some (.string (l[k].1)) := flatMap_at ndF.enc 2 ndF.len l k 0 hlt (by omega)
      obtain ⟨u0, c0, f0⟩ := own_cell ho (k * 2) (by omega)
      have e1 : (l.flatMap ndF.enc)[k * 2 + 1]? = some (.int .i64 (l[k].2)) := flatMap_at ndF.enc 2 ndF.len l k 1 hlt (by omega)
      obtain ⟨u1, c1, f1⟩ := own_cell ho (k * 2 + 1) (by omega)
      have s0 := (ho.stored (k * 2) (.string (l[k].1))).1
      rw [fillC_set _ _ _ _ e0 hz] at s0
      have s1 := (s0.stored (k * 2 + 1) (.int .i64 (l[k].2))).1
      rw [fillC_set _ _ _ _ e1 hz] at s1
      have hb3 : Below w.heap.size w w2 := hb.trans (hb2.mono hb.size)
      have S2 := Lib.hid s1
      clear ho e0 e1 s0 s1 hown hz hlen hb hb2
      go_wp2
      go_roundw
      case rel => exact ⟨k + 1, by omega, by go_num, by rw [show (k + 1) * 2 = k * 2 + 1 + 1 by omega]; exact S2.out, ((hb3.setCell (Nat.le_refl _) _).setCell (Nat.le_refl _) _)⟩
      case measure => simp [intOf]; omega
    · obtain rfl : k = l.length := by omega
      go_wp2
      go_ret
      refine ⟨_, rfl, ⟨rfl, ?_⟩, hb⟩
      have h2 : (l.flatMap ndF.enc).length = l.length * 2 := flatMap_len ndF.enc 2 ndF.len l
      rw [← h2, fillC_all _ _ HZ.out] at hown
      exact hown
theorem eqNeed_yes (x0 : ByteArray) (x1 : Int) (w : World) : Calls Tryz.prog 129 #[.agg #[.string (x0), .int .i64 (x1)], .agg #[.string (x0), .int .i64 (x1)]] w fun e w' => e = .returned (.bool true) ∧ Below w.heap.size w w' := by
  go_enter Tryz.func129, Tryz.ntmps129
  go_wp2
  go_ret
  exact ⟨rfl, ((Below.refl _ _).alloc (Nat.le_refl _) _).alloc (by simp) _⟩
set_option maxRecDepth 100000 in
set_option maxHeartbeats 2000000 in
theorem eqNeedS_yes (A B : Option Addr) (n m c d : Nat) (l : List Nd) (w : World) (ha : NeedsIn w A n l) (hb : NeedsIn w B m l) :
    Calls Tryz.prog 67 #[.slice A n c, .slice B m d] w fun e w' => e = .returned (.bool true) ∧ Below w.heap.size w w' := by
  have hn := ha.len
  obtain rfl := ha.1
  obtain rfl := hb.1
  go_enter Tryz.func67, Tryz.ntmps67
  go_wp2
  go_loopw [5] (fun i wr => ∃ k : Nat, k ≤ l.length ∧ i = .int .i64 k ∧ Below w.heap.size w wr) (fun i _ => l.length - (intOf i).toNat)
  case atStart => exact ⟨0, by omega, rfl, Below.refl _ _⟩
  case round =>
    obtain ⟨k, hk, rfl, HD⟩ := hrel
    by_cases hlt : k < l.length
    · obtain ⟨b1, o1, rfl, _, hc0, hc1⟩ := need_at (ha.keep HD) hlt
      obtain ⟨b2, o2, rfl, _, hd0, hd1⟩ := need_at (hb.keep HD) hlt
      go_wp2
      go_still_tail 8, (by kernel_rfl)
      change wpList _ _ _ _ _ wr.drew
      have HE : Below w.heap.size w wr.drew := HD.drew
      generalize wr.drew = w2 at *
      go_wp2_with (go_at_call 129; refine (eqNeed_yes _ _ _).mono ?_; rintro e w3 ⟨rfl, hb3⟩)
      go_roundw
      case rel => exact ⟨k + 1, by omega, by go_num, HE.trans (hb3.mono HE.size)⟩
      case measure => simp [intOf]; omega
    · obtain rfl : k = l.length := by omega
      go_wp2
      go_ret
      exact ⟨rfl, HD⟩
def okNd (x : Nd) : Prop := x.1.size ≤ 9223372036854775807
theorem szNeed_any (x0 : ByteArray) (x1 : Int) (left : Int) (w : World) (h0 : 0 ≤ left) (h1 : left ≤ 1048576) (hs : x0.size ≤ 9223372036854775807) :
    Calls Tryz.prog 97 #[.agg #[.string (x0), .int .i64 (x1)], .int .i64 left] w fun e w' => e = .returned (.int .i64 (if left < (x0.size : Int) then -1 else left - x0.size)) ∧ Below w.heap.size w w' := by
  by_cases hlt : left < (x0.size : Int)
  · go_enter Tryz.func97, Tryz.ntmps97
    go_wp2
    go_ret
    exact ⟨rfl, below_alloc _ _⟩
  · go_enter Tryz.func97, Tryz.ntmps97
    go_wp2
    go_ret
    exact ⟨rfl, below_alloc _ _⟩
theorem szNeedS_big (A : Option Addr) (n c : Nat) (left : Int) (w : World) (h : left < (n : Int)) (h0 : 0 ≤ left) (hn : n ≤ 9223372036854775807) :
    Calls Tryz.prog 35 #[.slice A n c, .int .i64 left] w fun e w' => e = .returned (.int .i64 (-1)) ∧ w = w' := by
  go_enter Tryz.func35, Tryz.ntmps35
  go_wp2
  go_ret
  exact ⟨rfl, rfl⟩
set_option maxRecDepth 100000 in
set_option maxHeartbeats 2000000 in
theorem szNeedS_any (A : Option Addr) (n c : Nat) (l : List Nd) (left : Int) (w : World) (h : (n : Int) ≤ left) (hl : left ≤ 1048576) (ha : NeedsIn w A n l) (hok : ∀ x ∈ l, okNd x) :
    Calls Tryz.prog 35 #[.slice A n c, .int .i64 left] w fun e w' => ∃ r : Int, e = .returned (.int .i64 r) ∧ -1 ≤ r ∧ r ≤ 1048576 ∧ Below w.heap.size w w' := by
  have hn := ha.len
  obtain rfl := ha.1
  have HO := Lib.hid hok
  clear hok
  go_enter Tryz.func35, Tryz.ntmps35
  go_wp2
  go_loopw [1, 5] (fun r i wr => ∃ (k : Nat) (x : Int), k ≤ l.length ∧ i = .int .i64 k ∧ r = .int .i64 x ∧ 0 ≤ x ∧ x ≤ 1048576 ∧ Below w.heap.size w wr) (fun _ i _ => l.length - (intOf i).toNat)
  case atStart => exact ⟨0, _, by omega, rfl, rfl, by omega, by omega, Below.refl _ _⟩
  case round =>
    obtain ⟨k, x, hk, rfl, rfl, x0, x1, HR⟩ := hrel
    by_cases hlt : k < l.length
    · obtain ⟨b, o, rfl, _, hc0, hc1⟩ := need_at (ha.keep HR) hlt
      have hs := HO.out _ (List.getElem_mem hlt)
      unfold okNd at hs
      by_cases hneg : x < (l[k].1.size : Int)
      · go_wp2_with fail
        refine (szNeed_any _ _ _ _ x0 x1 hs).mono ?_
        rintro e v ⟨rfl, hb⟩
        rw [if_pos (by omega)]
        go_wp2_with fail
        go_ret
        exact ⟨-1, rfl, by omega, by omega, below_on HR hb⟩
      · go_wp2_with fail
        refine (szNeed_any _ _ _ _ x0 x1 hs).mono ?_
        rintro e v ⟨rfl, hb⟩
        rw [if_neg (by omega)]
        go_wp2_with fail
        go_roundw
        case rel => exact ⟨k + 1, _, by omega, by go_num, rfl, by omega, by omega, below_on HR hb⟩
        case measure => simp [intOf]; omega
    · obtain rfl : k = l.length := by omega
      go_wp2
      go_ret
      exact ⟨x, rfl, by omega, by omega, HR⟩
set_option maxRecDepth 100000 in
set_option maxHeartbeats 4000000 in
/-- The marks on arguments: what they are is not asked. -/
theorem markNeedS_any (A : Option Addr) (n c lo hi : Nat) (l : List Nd) (k0 : Int) (w : World) (ha : RowsAt ndF 152 w lo hi A n c l) (hk0 : 1 ≤ k0) (hk1 : k0 ≤ 2000000000000000000) (hn : l.length ≤ 16777216) :
    Calls Tryz.prog 74 #[.slice A n c, .int .i64 k0] w fun e w' => e = .returned (.int .i64 (k0 + 2 * l.length)) ∧ True ∧ Only lo hi w w' := by
  obtain rfl := ha.1
  have HLN := Lib.hid (flatMap_len ndF.enc 2 ndF.len l)
  obtain ⟨_, ⟨hown, hhi, hlt⟩⟩ := ha
  have HT := Lib.hid hlt
  clear hlt
  go_enter Tryz.func74, Tryz.ntmps74
  go_wp2
  go_loopw [1, 5] (fun m i wr => ∃ (k : Nat) (xs : List Value), k ≤ l.length ∧ i = .int .i64 k ∧ m = .int .i64 (k0 + 2 * k) ∧ wr.ownsRow lo 152 2 (.slice A l.length c) l.length xs ∧ Only lo hi w wr) (fun _ i _ => l.length - (intOf i).toNat)
  case atStart => exact ⟨0, _, by omega, rfl, by go_num, hown, Only.refl _ _ _⟩
  case round =>
    clear hown
    obtain ⟨k, xs, hk, rfl, rfl, ho, HO⟩ := hrel
    by_cases hlt : k < l.length
    · have hA : ∃ g, A = some ⟨g, 0, none⟩ := by
        rcases ho.2 with ⟨hv, h0⟩ | ⟨g, cap, cur, hv, _⟩
        · omega
        · exact ⟨g, by injection hv⟩
      obtain ⟨g, rfl⟩ := hA
      have hgl : lo ≤ g ∧ g < hi := ⟨(own_lt ho _ rfl).1, HT.out _ rfl⟩
      have hgo : ∀ x, (Value.slice (some ⟨g, 0, none⟩) l.length c).ownBlock = some x → lo ≤ x ∧ x < hi := fun x hx => by injection hx with hx; subst hx; exact hgl
      have HGO := Lib.hid hgo
      clear hgo
      go_wp2_with fail
      refine (markText_some _ _ (by omega) (by omega)).mono ?_
      rintro e v0 ⟨t0, rfl, hb0⟩
      have hq0 := own_keep ho hb0
      replace HO := HO.trans (Only.of_below hb0)
      clear hb0
      obtain ⟨u0, c0, f0⟩ := own_cell hq0 (k * 2) (by omega)
      obtain ⟨u1, c1, f1⟩ := own_cell hq0 (k * 2 + 1) (by omega)
      have s0 := (hq0.stored (k * 2) (.string t0))
      replace HO := HO.trans (Only.of_grown s0.2 HGO.out)
      have s1 := (s0.1.stored (k * 2 + 1) (.int .i64 (k0 + 2 * k + 1)))
      replace HO := HO.trans (Only.of_grown s1.2 HGO.out)
      have S2 := Lib.hid s1.1
      go_wp2
      go_roundw
      case rel => exact ⟨k + 1, _, by omega, by go_num, by go_num, S2.out, HO⟩
      case measure => simp [intOf]; omega
    · obtain rfl : k = l.length := by omega
      go_wp2
      go_ret
      exact ⟨rfl, trivial, HO⟩
end Go.Proofs.YtlnkofnfgemfdaaGreat
