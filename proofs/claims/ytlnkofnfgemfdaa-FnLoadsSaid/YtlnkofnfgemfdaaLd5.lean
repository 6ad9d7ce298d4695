/- Part 5 of the texts of this claim: The walk of the reference's way to add a load. -/
import Derived.Test.YtlnkofnfgemfdaaLd2
import Derived.Test.YtlnkofnfgemfdaaLd4
import Derived.Test.YtlnkofnfgemfdaaLd3
/- The walk of the reference's way to add a load. -/
namespace Go.Proofs.Ytlnkofnfgemfdaa
open Go.RowKit
theorem ldOne : ∀ (a : Ld), ∀ u ∈ ldF.enc a, u.oneCell' = true := by
  intro a u hu
  simp [ldF] at hu
  rcases hu with rfl | rfl | rfl <;> rfl
def befL (x : Ld) (c : ByteArray) (d : Int) : Bool := Op.bytesLess x.1.toList c.toList || ((x.1.toList == c.toList) && decide (x.2.1 < d))
def sameL (x : Ld) (c : ByteArray) (d : Int) : Bool := (x.1.toList == c.toList) && decide (x.2.1 = d)
def addL : List Ld → ByteArray → Int → Int → List Ld
  | [], c, d, q => [(c, d, q)]
  | x :: t, c, d, q => if befL x c d = true then x :: addL t c d q else if sameL x c d = true then (x.1, x.2.1, x.2.2 + q) :: t else (c, d, q) :: x :: t
theorem addL_take (l : List Ld) (c : ByteArray) (d q : Int) (k : Nat) (hk : k ≤ l.length) (h : ∀ j (hj : j < l.length), j < k → befL l[j] c d = true) : addL l c d q = l.take k ++ addL (l.drop k) c d q := by
  induction l generalizing k with
  | nil => simp at hk; subst hk; simp
  | cons f t ih =>
    cases k with
    | zero => simp
    | succ k =>
      have h0 := h 0 (by simp) (by omega)
      simp at h0
      have := ih k (by simpa using hk) (fun j hj hjk => by have := h (j + 1) (by simpa using hj) (by omega); simpa using this)
      simp [addL, h0, this]
theorem addL_end (l : List Ld) (c : ByteArray) (d q : Int) (h : ∀ j (hj : j < l.length), j < l.length → befL l[j] c d = true) : addL l c d q = l ++ [(c, d, q)] := by
  rw [addL_take l c d q l.length (Nat.le_refl _) h]; simp [addL]
theorem addL_eq (l : List Ld) (c : ByteArray) (d q : Int) (k : Nat) (hk : k < l.length) (h : ∀ j (hj : j < l.length), j < k → befL l[j] c d = true) (hb : befL l[k] c d = false) (he : sameL l[k] c d = true) : addL l c d q = l.set k (l[k].1, l[k].2.1, l[k].2.2 + q) := by
  rw [addL_take l c d q k (by omega) h, List.drop_eq_getElem_cons hk, addL, if_neg (by rw [hb]; decide), if_pos he, List.set_eq_take_append_cons_drop, if_pos hk]
theorem addL_gt (l : List Ld) (c : ByteArray) (d q : Int) (k : Nat) (hk : k < l.length) (h : ∀ j (hj : j < l.length), j < k → befL l[j] c d = true) (hb : befL l[k] c d = false) (he : sameL l[k] c d = false) : addL l c d q = l.take k ++ [(c, d, q)] ++ l.drop k := by
  rw [addL_take l c d q k (by omega) h, List.drop_eq_getElem_cons hk, addL, if_neg (by rw [hb]; decide), if_neg (by rw [he]; decide)]
  simp
theorem addL_len (l : List Ld) (c : ByteArray) (d q : Int) : (addL l c d q).length ≤ l.length + 1 := by
  induction l with
  | nil => simp [addL]
  | cons f t ih =>
    simp only [addL]
    split
    · simp; omega
    · split <;> simp
theorem addL_bd (l : List Ld) (c : ByteArray) (d q : Int) (B C : Int) (h : ∀ x ∈ l, 0 ≤ x.2.2 ∧ x.2.2 ≤ B) (hq : 0 ≤ q ∧ q ≤ C) (hB : 0 ≤ B) : ∀ x ∈ addL l c d q, 0 ≤ x.2.2 ∧ x.2.2 ≤ B + C := by
  induction l with
  | nil => intro x hx; simp [addL] at hx; rw [hx]; simp only; omega
  | cons f t ih =>
    have h0 := h f List.mem_cons_self
    have h1 := ih (fun x hx => h x (List.mem_cons_of_mem _ hx))
    intro x hx
    simp only [addL] at hx
    split at hx
    · rcases List.mem_cons.1 hx with rfl | hx
      · omega
      · exact h1 x hx
    · split at hx
      · rcases List.mem_cons.1 hx with rfl | hx
        · simp only; omega
        · have := h x (List.mem_cons_of_mem _ hx); omega
      · rcases List.mem_cons.1 hx with rfl | hx
        · simp only; omega
        · have := h x hx; omega
theorem size_alloc1L (w : World) (o : Obj) : (w.alloc o).heap.size = w.heap.size + 1 := by simp
theorem le_alloc1L {w : World} {B : Nat} (h : B ≤ w.heap.size) (o : Obj) : B ≤ (w.alloc o).heap.size := by simp; omega
theorem below_twoL {w w2 : World} (h : Below w.heap.size w w2) (o p : Obj) : Below w.heap.size w ((w2.alloc o).alloc p) := (h.alloc h.size _).alloc (by simp; have := h.size; omega) _
theorem len_takeL {l : List Ld} (k : Nat) (h : l.length ≤ 1048576) : (l.take k).length ≤ 16777216 := by simp; omega
theorem len_take1L {l : List Ld} (k : Nat) (x : Ld) (h : l.length ≤ 1048576) : (l.take k ++ [x]).length ≤ 16777216 := by simp; omega
theorem len_1L {l : List Ld} (x : Ld) (h : l.length ≤ 1048576) : (l ++ [x]).length ≤ 16777216 := by simp; omega
theorem new_rowL (w : World) {H : Nat} (hH : w.heap.size = H) (c9 : ByteArray) (d q : Int) : RowsIn ldF (w.alloc (.cells #[.string c9, .int .i64 d, .int .i64 q] 91)) (some ⟨H, 0, none⟩) 1 [(c9, d, q)] := by
  refine ⟨rfl, rfl, by omega, fun _ => ⟨H, 0, rfl, by simp; omega, fun j u hu => ?_⟩⟩
  have := news_at hH #[.string c9, .int .i64 d, .int .i64 q] 91 j u hu
  rwa [Addr.add_lit] at this
theorem own_someL {w : World} {lo n c : Nat} {A : Option Addr} {l : List Ld} (h : OwnRows ldF 91 w lo A n c l) (hn : 0 < n) : ∃ g, A = some ⟨g, 0, none⟩ := by
  rcases h.2.2 with ⟨hv, h0⟩ | ⟨g, cap, cur, hv, _⟩
  · omega
  · exact ⟨g, by injection hv⟩
theorem ldF_set (l : List Ld) (k : Nat) (x : Int) (hk : k < l.length) : (l.flatMap ldF.enc).set (k * 3 + 2) (.int .i64 x) = (l.set k (l[k].1, l[k].2.1, x)).flatMap ldF.enc := by
  induction l generalizing k with
  | nil => simp at hk
  | cons f t ih =>
    cases k with
    | zero => simp [ldF]
    | succ k =>
      have h := ih k (by simpa using hk)
      simp only [List.flatMap_cons, List.set_cons_succ, List.getElem_cons_succ]
      rw [← h, List.set_append_right _ _ (by simp [ldF]; omega)]
      congr 2
      simp [ldF]
      omega
set_option maxRecDepth 100000 in
set_option maxHeartbeats 4000000 in
theorem l21Add_any (A : Option Addr) (n c : Nat) (l : List Ld) (c9 : ByteArray) (d q : Int) (w : World) (ha : LoadsIn w A n l) (hnc : n ≤ c) (_hc : c ≤ 9223372036854775807) (hq : -1000000000000 ≤ q ∧ q ≤ 1000000000000) (hl : ∀ f ∈ l, -1000000000000 ≤ f.2.2 ∧ f.2.2 ≤ 1000000000000) (hn : l.length ≤ 1048576) :
    Calls Try.prog 94 #[.slice A n c, .string c9, .int .i64 d, .int .i64 q] w (OneRowOf ldF 91 w (addL l c9 d q)) := by
  obtain rfl := ha.1
  obtain ⟨q1, q2⟩ := hq
  have HL := Lib.hid hl
  clear hl
  go_enter Try.func94, Try.ntmps94
  go_wp2
  go_loop [9] (fun i => ∃ k : Nat, k ≤ l.length ∧ i = .int .i64 k ∧ Hid (∀ j (hj : j < l.length), j < k → befL l[j] c9 d = true)) (fun i => l.length - (intOf i).toNat)
  case atStart => exact ⟨0, by omega, rfl, fun j _ h => absurd h (by omega)⟩
  case round =>
    obtain ⟨k, hk, rfl, HI⟩ := hrel
    by_cases hlt : k < l.length
    · obtain ⟨b, o, rfl, hb, hc0, hc1, hc2⟩ := load_at ha hlt
      cases b1 : Op.bytesLess l[k].1.toList c9.toList
      case true =>
        have HB : Hid (befL l[k] c9 d = true) := by show _ = _; unfold befL; rw [b1]; rfl
        go_wp2
        go_round
        case rel =>
          refine ⟨k + 1, by omega, by go_num, ?_⟩
          intro j hj hjk
          rcases Nat.lt_or_ge j k with h3 | h3
          · exact HI.out j hj h3
          · obtain rfl : j = k := by omega
            exact HB.out
        case measure => simp [intOf]; omega
      cases b2 : (l[k].1.toList == c9.toList)
      case false =>
        have HB : Hid (befL l[k] c9 d = false) := by show _ = _; unfold befL; rw [b1, b2]; rfl
        have HS : Hid (sameL l[k] c9 d = false) := by show _ = _; unfold sameL; rw [b2]; rfl
        go_wp2_with (at_builtin; refine wpList_append_copy loadElem ldOne rfl (.tmp 44) (.tmp 45) rfl rfl (empty_row rfl (Nat.le_refl _)) rfl (ha.keep (below_alloc _ _)) (by simp) ?_; intro A2 c2 w2 ho2 hbl; have hB : Below w.heap.size w w2 := (below_alloc w (.cells #[] 91)).trans (hbl _ (Nat.le_refl _) (by simp)); clear hbl; have hd0 := (hB.cell (p := ⟨b, o + k * 3, none⟩) hb).trans hc0; have hd1 := (hB.cell (p := ⟨b, o + k * 3 + 1, none⟩) hb).trans hc1; have hr2 := ha.keep hB)
        have hsz := hB.size
        have HT : Hid (∀ W, Below w.heap.size w W → RowsIn ldF W (some ⟨b, o, none⟩) k (l.take k)) := fun W hW => (ha.keep hW).take (by omega)
        have HD : Hid (∀ W, Below w.heap.size w W → RowsIn ldF W (some ⟨b, o + k * 3, none⟩) (l.length - k) (l.drop k)) := fun W hW => by
          have := (ha.keep hW).drop (k := k) (cap := c) (by omega) hnc
          rw [if_neg (by omega)] at this
          simp only [Option.map_some, Addr.add_lit] at this
          exact this
        have hck : ¬ c = k := by omega
        have hkc : k ≤ c := by omega
        go_region_law (first | (refine step_append_rows loadElem ldOne rfl (.tmp 81) (.tmp 84) rfl ((w2.alloc (.cells #[] 91)).drew) (lo := w.heap.size) (v := .slice (some ⟨w2.heap.size, 0, none⟩) 0 0) (l := []) rfl (RowVal.drew (empty_row (F := ldF) (e := 91) (H := w2.heap.size) rfl hB.size)) (Nat.zero_le _) rfl (HT.out _ ((hB.alloc hB.size _).drew)) ((hB.alloc hB.size _).drew).size ?_; intro v3 w3 hrow3 hg3; rw [List.nil_append] at hrow3; have hB3 : Below w.heap.size w w3 := ((hB.alloc hB.size _).drew).trans (RowVal.below (RowVal.drew (empty_row (F := ldF) (e := 91) (H := w2.heap.size) rfl hB.size)) hg3 (Nat.le_refl _) ((hB.alloc hB.size _).drew).size); have hlen3 := len_takeL k hn; have hle3 := le_alloc1L hB3.size (.cells #[.string c9, .int .i64 d, .int .i64 q] 91); clear hg3) | (refine step_append_rows loadElem ldOne rfl (.tmp 81) (.tmp 84) rfl (((w2.alloc (.cells #[] 91)).alloc (.cells #[.string c9, .int .i64 d, .int .i64 q] 91)).drew) (lo := w.heap.size) (v := .slice (some ⟨w2.heap.size, 0, none⟩) 0 0) (l := []) rfl (RowVal.drew (RowVal.alloc (empty_row (F := ldF) (e := 91) (H := w2.heap.size) rfl hB.size) _)) (Nat.zero_le _) rfl (HT.out _ ((below_twoL hB _ _).drew)) ((below_twoL hB _ _).drew).size ?_; intro v3 w3 hrow3 hg3; rw [List.nil_append] at hrow3; have hB3 : Below w.heap.size w w3 := ((below_twoL hB _ _).drew).trans (RowVal.below (RowVal.drew (RowVal.alloc (empty_row (F := ldF) (e := 91) (H := w2.heap.size) rfl hB.size) _)) hg3 (Nat.le_refl _) ((below_twoL hB _ _).drew).size); have hX3 := RowsIn.far (RowsIn.drew (new_rowL _ (H := w2.heap.size + 1) (size_alloc1L _ _) c9 d q)) hg3 (by simp [Value.ownBlock]); have hlen3 := len_takeL k hn; have hle3 := le_alloc1L hB3.size (.cells #[.string c9, .int .i64 d, .int .i64 q] 91); clear hg3) | (refine step_append_rows loadElem ldOne rfl (.tmp 81) (.tmp 84) rfl (((w2.alloc (.cells #[.string c9, .int .i64 d, .int .i64 q] 91)).alloc (.cells #[] 91)).drew) (lo := w.heap.size) (v := .slice (some ⟨w2.heap.size + 1, 0, none⟩) 0 0) (l := []) rfl (RowVal.drew (empty_row (F := ldF) (e := 91) (H := w2.heap.size + 1) (size_alloc1L _ _) (le_alloc1L hB.size _))) (Nat.zero_le _) rfl (HT.out _ ((below_twoL hB _ _).drew)) ((below_twoL hB _ _).drew).size ?_; intro v3 w3 hrow3 hg3; rw [List.nil_append] at hrow3; have hB3 : Below w.heap.size w w3 := ((below_twoL hB _ _).drew).trans (RowVal.below (RowVal.drew (empty_row (F := ldF) (e := 91) (H := w2.heap.size + 1) (size_alloc1L _ _) (le_alloc1L hB.size _))) hg3 (Nat.le_refl _) ((below_twoL hB _ _).drew).size); have hX3 := RowsIn.far (RowsIn.drew ((new_rowL w2 rfl c9 d q).keep (below_alloc _ _))) hg3 (by simp [Value.ownBlock]); have hlen3 := len_takeL k hn; have hle3 := le_alloc1L hB3.size (.cells #[.string c9, .int .i64 d, .int .i64 q] 91); clear hg3) | (refine step_append_rows loadElem ldOne rfl (.tmp 85) (.tmp 90) rfl (w3.alloc (.cells #[.string c9, .int .i64 d, .int .i64 q] 91)) (lo := w.heap.size) rfl (RowVal.alloc hrow3 _) hlen3 rfl (new_rowL w3 rfl c9 d q) hle3 ?_; intro v4 w4 hrow4 hg4; have hB4 : Below w.heap.size w w4 := (hB3.alloc hB3.size _).trans (RowVal.below (RowVal.alloc hrow3 _) hg4 (Nat.le_refl _) hle3); have hlen4 := len_take1L k (c9, d, q) hn; clear hg4) | (refine step_append_rows loadElem ldOne rfl (.tmp 85) (.tmp 90) rfl w3 (lo := w.heap.size) rfl hrow3 hlen3 rfl hX3 hB3.size ?_; intro v4 w4 hrow4 hg4; have hB4 : Below w.heap.size w w4 := hB3.trans (RowVal.below hrow3 hg4 (Nat.le_refl _) hB3.size); have hlen4 := len_take1L k (c9, d, q) hn; clear hg4) | (refine step_append_rows loadElem ldOne rfl (.tmp 91) (.tmp 94) rfl w4 (lo := w.heap.size) rfl hrow4 hlen4 rfl (HD.out _ hB4) hB4.size ?_; intro v5 w5 hrow5 hg5; have hB5 : Below w.heap.size w w5 := hB4.trans (RowVal.below hrow4 hg5 (Nat.le_refl _) hB4.size); clear hg5))
        all_goals
          have hsz5 := hB5.size
          go_wp2
          go_ret
          refine oneRowOf_mk ?_ hB5
          rw [addL_gt l c9 d q k hlt HI.out HB.out HS.out]
          exact hrow5
      by_cases h1 : l[k].2.1 < d
      · have HB : Hid (befL l[k] c9 d = true) := by show _ = _; unfold befL; rw [b1, b2, decide_eq_true h1]; rfl
        go_wp2
        go_round
        case rel =>
          refine ⟨k + 1, by omega, by go_num, ?_⟩
          intro j hj hjk
          rcases Nat.lt_or_ge j k with h3 | h3
          · exact HI.out j hj h3
          · obtain rfl : j = k := by omega
            exact HB.out
        case measure => simp [intOf]; omega
      have HB : Hid (befL l[k] c9 d = false) := by show _ = _; unfold befL; rw [b1, b2, decide_eq_false h1]; rfl
      by_cases h2 : l[k].2.1 = d
      · have e1 : (l[k].2.1 == d) = true := by rw [beq_iff_eq]; exact h2
        have HS : Hid (sameL l[k] c9 d = true) := by show _ = _; unfold sameL; rw [b2, decide_eq_true h2]; rfl
        clear h2
        have hfm : (l.flatMap ldF.enc)[k * 3 + 2]? = some (.int .i64 l[k].2.2) := flatMap_at ldF.enc 3 ldF.len l k 2 hlt (by omega)
        have HF := Lib.hid hfm
        clear hfm
        obtain ⟨m1, m2⟩ := HL.out _ (List.getElem_mem hlt)
        go_wp2_with (at_builtin; refine wpList_append_copy loadElem ldOne rfl (.tmp 44) (.tmp 45) rfl rfl (empty_row rfl (Nat.le_refl _)) rfl (ha.keep (below_alloc _ _)) (by simp) ?_; intro A2 c2 w2 ho2 hbl; have hB : Below w.heap.size w w2 := (below_alloc w (.cells #[] 91)).trans (hbl _ (Nat.le_refl _) (by simp)); clear hbl; obtain ⟨g, rfl⟩ := own_someL ho2 (by omega); have hd0 := (hB.cell (p := ⟨b, o + k * 3, none⟩) hb).trans hc0; have hd1 := (hB.cell (p := ⟨b, o + k * 3 + 1, none⟩) hb).trans hc1; have hd2 := (ho2.2.cellAt (k * 3 + 2) (by show k * 3 + 2 < l.length * 3; omega)).trans HF.out; have hd3 := ho2.2.frozenAt (k * 3 + 2))
        have s1 := (ho2.2.stored (k * 3 + 2) (.int .i64 (l[k].2.2 + q))).1
        rw [ldF_set l k _ hlt] at s1
        have S1 := Lib.hid s1
        have hsz := hB.size
        go_wp2
        go_ret
        refine oneRowOf_mk ?_ (hB.setCell (by exact (own_lt ho2.2 _ rfl).1) _)
        rw [addL_eq l c9 d q k hlt HI.out HB.out HS.out]
        show World.ownsRow _ _ _ _ _ (l.set k (l[k].1, l[k].2.1, l[k].2.2 + q)).length _
        rw [List.length_set]
        exact S1.out
      have e1 : (l[k].2.1 == d) = false := by rw [beq_eq_false_iff_ne]; exact h2
      have HS : Hid (sameL l[k] c9 d = false) := by show _ = _; unfold sameL; rw [b2, decide_eq_false h2]; rfl
      clear h2
      go_wp2_with (at_builtin; refine wpList_append_copy loadElem ldOne rfl (.tmp 44) (.tmp 45) rfl rfl (empty_row rfl (Nat.le_refl _)) rfl (ha.keep (below_alloc _ _)) (by simp) ?_; intro A2 c2 w2 ho2 hbl; have hB : Below w.heap.size w w2 := (below_alloc w (.cells #[] 91)).trans (hbl _ (Nat.le_refl _) (by simp)); clear hbl; have hd0 := (hB.cell (p := ⟨b, o + k * 3, none⟩) hb).trans hc0; have hd1 := (hB.cell (p := ⟨b, o + k * 3 + 1, none⟩) hb).trans hc1; have hr2 := ha.keep hB)
      have hsz := hB.size
      have HT : Hid (∀ W, Below w.heap.size w W → RowsIn ldF W (some ⟨b, o, none⟩) k (l.take k)) := fun W hW => (ha.keep hW).take (by omega)
      have HD : Hid (∀ W, Below w.heap.size w W → RowsIn ldF W (some ⟨b, o + k * 3, none⟩) (l.length - k) (l.drop k)) := fun W hW => by
        have := (ha.keep hW).drop (k := k) (cap := c) (by omega) hnc
        rw [if_neg (by omega)] at this
        simp only [Option.map_some, Addr.add_lit] at this
        exact this
      have hck : ¬ c = k := by omega
      have hkc : k ≤ c := by omega
      go_region_law (first | (refine step_append_rows loadElem ldOne rfl (.tmp 81) (.tmp 84) rfl ((w2.alloc (.cells #[] 91)).drew) (lo := w.heap.size) (v := .slice (some ⟨w2.heap.size, 0, none⟩) 0 0) (l := []) rfl (RowVal.drew (empty_row (F := ldF) (e := 91) (H := w2.heap.size) rfl hB.size)) (Nat.zero_le _) rfl (HT.out _ ((hB.alloc hB.size _).drew)) ((hB.alloc hB.size _).drew).size ?_; intro v3 w3 hrow3 hg3; rw [List.nil_append] at hrow3; have hB3 : Below w.heap.size w w3 := ((hB.alloc hB.size _).drew).trans (RowVal.below (RowVal.drew (empty_row (F := ldF) (e := 91) (H := w2.heap.size) rfl hB.size)) hg3 (Nat.le_refl _) ((hB.alloc hB.size _).drew).size); have hlen3 := len_takeL k hn; have hle3 := le_alloc1L hB3.size (.cells #[.string c9, .int .i64 d, .int .i64 q] 91); clear hg3) | (refine step_append_rows loadElem ldOne rfl (.tmp 81) (.tmp 84) rfl (((w2.alloc (.cells #[] 91)).alloc (.cells #[.string c9, .int .i64 d, .int .i64 q] 91)).drew) (lo := w.heap.size) (v := .slice (some ⟨w2.heap.size, 0, none⟩) 0 0) (l := []) rfl (RowVal.drew (RowVal.alloc (empty_row (F := ldF) (e := 91) (H := w2.heap.size) rfl hB.size) _)) (Nat.zero_le _) rfl (HT.out _ ((below_twoL hB _ _).drew)) ((below_twoL hB _ _).drew).size ?_; intro v3 w3 hrow3 hg3; rw [List.nil_append] at hrow3; have hB3 : Below w.heap.size w w3 := ((below_twoL hB _ _).drew).trans (RowVal.below (RowVal.drew (RowVal.alloc (empty_row (F := ldF) (e := 91) (H := w2.heap.size) rfl hB.size) _)) hg3 (Nat.le_refl _) ((below_twoL hB _ _).drew).size); have hX3 := RowsIn.far (RowsIn.drew (new_rowL _ (H := w2.heap.size + 1) (size_alloc1L _ _) c9 d q)) hg3 (by simp [Value.ownBlock]); have hlen3 := len_takeL k hn; have hle3 := le_alloc1L hB3.size (.cells #[.string c9, .int .i64 d, .int .i64 q] 91); clear hg3) | (refine step_append_rows loadElem ldOne rfl (.tmp 81) (.tmp 84) rfl (((w2.alloc (.cells #[.string c9, .int .i64 d, .int .i64 q] 91)).alloc (.cells #[] 91)).drew) (lo := w.heap.size) (v := .slice (some ⟨w2.heap.size + 1, 0, none⟩) 0 0) (l := []) rfl (RowVal.drew (empty_row (F := ldF) (e := 91) (H := w2.heap.size + 1) (size_alloc1L _ _) (le_alloc1L hB.size _))) (Nat.zero_le _) rfl (HT.out _ ((below_twoL hB _ _).drew)) ((below_twoL hB _ _).drew).size ?_; intro v3 w3 hrow3 hg3; rw [List.nil_append] at hrow3; have hB3 : Below w.heap.size w w3 := ((below_twoL hB _ _).drew).trans (RowVal.below (RowVal.drew (empty_row (F := ldF) (e := 91) (H := w2.heap.size + 1) (size_alloc1L _ _) (le_alloc1L hB.size _))) hg3 (Nat.le_refl _) ((below_twoL hB _ _).drew).size); have hX3 := RowsIn.far (RowsIn.drew ((new_rowL w2 rfl c9 d q).keep (below_alloc _ _))) hg3 (by simp [Value.ownBlock]); have hlen3 := len_takeL k hn; have hle3 := le_alloc1L hB3.size (.cells #[.string c9, .int .i64 d, .int .i64 q] 91); clear hg3) | (refine step_append_rows loadElem ldOne rfl (.tmp 85) (.tmp 90) rfl (w3.alloc (.cells #[.string c9, .int .i64 d, .int .i64 q] 91)) (lo := w.heap.size) rfl (RowVal.alloc hrow3 _) hlen3 rfl (new_rowL w3 rfl c9 d q) hle3 ?_; intro v4 w4 hrow4 hg4; have hB4 : Below w.heap.size w w4 := (hB3.alloc hB3.size _).trans (RowVal.below (RowVal.alloc hrow3 _) hg4 (Nat.le_refl _) hle3); have hlen4 := len_take1L k (c9, d, q) hn; clear hg4) | (refine step_append_rows loadElem ldOne rfl (.tmp 85) (.tmp 90) rfl w3 (lo := w.heap.size) rfl hrow3 hlen3 rfl hX3 hB3.size ?_; intro v4 w4 hrow4 hg4; have hB4 : Below w.heap.size w w4 := hB3.trans (RowVal.below hrow3 hg4 (Nat.le_refl _) hB3.size); have hlen4 := len_take1L k (c9, d, q) hn; clear hg4) | (refine step_append_rows loadElem ldOne rfl (.tmp 91) (.tmp 94) rfl w4 (lo := w.heap.size) rfl hrow4 hlen4 rfl (HD.out _ hB4) hB4.size ?_; intro v5 w5 hrow5 hg5; have hB5 : Below w.heap.size w w5 := hB4.trans (RowVal.below hrow4 hg5 (Nat.le_refl _) hB4.size); clear hg5))
      all_goals
        have hsz5 := hB5.size
        go_wp2
        go_ret
        refine oneRowOf_mk ?_ hB5
        rw [addL_gt l c9 d q k hlt HI.out HB.out HS.out]
        exact hrow5
    · obtain rfl : k = l.length := by omega
      go_wp2_with (at_builtin; refine wpList_append_copy loadElem ldOne rfl (.tmp 44) (.tmp 45) rfl rfl (empty_row rfl (Nat.le_refl _)) rfl (ha.keep (below_alloc _ _)) (by simp) ?_; intro A2 c2 w2 ho2 hbl; have hB : Below w.heap.size w w2 := (below_alloc w (.cells #[] 91)).trans (hbl _ (Nat.le_refl _) (by simp)); clear hbl)
      have hsz := hB.size
      have HT : Hid (∀ W, Below w.heap.size w W → RowsIn ldF W A l.length l) := fun W hW => ha.keep hW
      have HD : Hid (∀ W, Below w.heap.size w W → ∀ X, RowsIn ldF W X 0 []) := fun W _ X => RowsIn.nil_ W X
      go_region_law (first | (refine step_append_rows loadElem ldOne rfl (.tmp 81) (.tmp 84) rfl ((w2.alloc (.cells #[] 91)).drew) (lo := w.heap.size) (v := .slice (some ⟨w2.heap.size, 0, none⟩) 0 0) (l := []) rfl (RowVal.drew (empty_row (F := ldF) (e := 91) (H := w2.heap.size) rfl hB.size)) (Nat.zero_le _) rfl (HT.out _ ((hB.alloc hB.size _).drew)) ((hB.alloc hB.size _).drew).size ?_; intro v3 w3 hrow3 hg3; rw [List.nil_append] at hrow3; have hB3 : Below w.heap.size w w3 := ((hB.alloc hB.size _).drew).trans (RowVal.below (RowVal.drew (empty_row (F := ldF) (e := 91) (H := w2.heap.size) rfl hB.size)) hg3 (Nat.le_refl _) ((hB.alloc hB.size _).drew).size); have hlen3 := (Nat.le_trans hn (by decide) : l.length ≤ 16777216); have hle3 := le_alloc1L hB3.size (.cells #[.string c9, .int .i64 d, .int .i64 q] 91); clear hg3) | (refine step_append_rows loadElem ldOne rfl (.tmp 81) (.tmp 84) rfl (((w2.alloc (.cells #[] 91)).alloc (.cells #[.string c9, .int .i64 d, .int .i64 q] 91)).drew) (lo := w.heap.size) (v := .slice (some ⟨w2.heap.size, 0, none⟩) 0 0) (l := []) rfl (RowVal.drew (RowVal.alloc (empty_row (F := ldF) (e := 91) (H := w2.heap.size) rfl hB.size) _)) (Nat.zero_le _) rfl (HT.out _ ((below_twoL hB _ _).drew)) ((below_twoL hB _ _).drew).size ?_; intro v3 w3 hrow3 hg3; rw [List.nil_append] at hrow3; have hB3 : Below w.heap.size w w3 := ((below_twoL hB _ _).drew).trans (RowVal.below (RowVal.drew (RowVal.alloc (empty_row (F := ldF) (e := 91) (H := w2.heap.size) rfl hB.size) _)) hg3 (Nat.le_refl _) ((below_twoL hB _ _).drew).size); have hX3 := RowsIn.far (RowsIn.drew (new_rowL _ (H := w2.heap.size + 1) (size_alloc1L _ _) c9 d q)) hg3 (by simp [Value.ownBlock]); have hlen3 := (Nat.le_trans hn (by decide) : l.length ≤ 16777216); have hle3 := le_alloc1L hB3.size (.cells #[.string c9, .int .i64 d, .int .i64 q] 91); clear hg3) | (refine step_append_rows loadElem ldOne rfl (.tmp 81) (.tmp 84) rfl (((w2.alloc (.cells #[.string c9, .int .i64 d, .int .i64 q] 91)).alloc (.cells #[] 91)).drew) (lo := w.heap.size) (v := .slice (some ⟨w2.heap.size + 1, 0, none⟩) 0 0) (l := []) rfl (RowVal.drew (empty_row (F := ldF) (e := 91) (H := w2.heap.size + 1) (size_alloc1L _ _) (le_alloc1L hB.size _))) (Nat.zero_le _) rfl (HT.out _ ((below_twoL hB _ _).drew)) ((below_twoL hB _ _).drew).size ?_; intro v3 w3 hrow3 hg3; rw [List.nil_append] at hrow3; have hB3 : Below w.heap.size w w3 := ((below_twoL hB _ _).drew).trans (RowVal.below (RowVal.drew (empty_row (F := ldF) (e := 91) (H := w2.heap.size + 1) (size_alloc1L _ _) (le_alloc1L hB.size _))) hg3 (Nat.le_refl _) ((below_twoL hB _ _).drew).size); have hX3 := RowsIn.far (RowsIn.drew ((new_rowL w2 rfl c9 d q).keep (below_alloc _ _))) hg3 (by simp [Value.ownBlock]); have hlen3 := (Nat.le_trans hn (by decide) : l.length ≤ 16777216); have hle3 := le_alloc1L hB3.size (.cells #[.string c9, .int .i64 d, .int .i64 q] 91); clear hg3) | (refine step_append_rows loadElem ldOne rfl (.tmp 85) (.tmp 90) rfl (w3.alloc (.cells #[.string c9, .int .i64 d, .int .i64 q] 91)) (lo := w.heap.size) rfl (RowVal.alloc hrow3 _) hlen3 rfl (new_rowL w3 rfl c9 d q) hle3 ?_; intro v4 w4 hrow4 hg4; have hB4 : Below w.heap.size w w4 := (hB3.alloc hB3.size _).trans (RowVal.below (RowVal.alloc hrow3 _) hg4 (Nat.le_refl _) hle3); have hlen4 := len_1L (c9, d, q) hn; clear hg4) | (refine step_append_rows loadElem ldOne rfl (.tmp 85) (.tmp 90) rfl w3 (lo := w.heap.size) rfl hrow3 hlen3 rfl hX3 hB3.size ?_; intro v4 w4 hrow4 hg4; have hB4 : Below w.heap.size w w4 := hB3.trans (RowVal.below hrow3 hg4 (Nat.le_refl _) hB3.size); have hlen4 := len_1L (c9, d, q) hn; clear hg4) | (refine step_append_rows loadElem ldOne rfl (.tmp 91) (.tmp 94) rfl w4 (lo := w.heap.size) rfl hrow4 hlen4 rfl (HD.out _ hB4 _) hB4.size ?_; intro v5 w5 hrow5 hg5; have hB5 : Below w.heap.size w w5 := hB4.trans (RowVal.below hrow4 hg5 (Nat.le_refl _) hB4.size); clear hg5))
      all_goals
        have hsz5 := hB5.size
        rw [List.append_nil] at hrow5
        go_wp2
        all_goals
          go_ret
          refine oneRowOf_mk ?_ hB5
          rw [addL_end l c9 d q HI.out]
          exact hrow5
end Go.Proofs.Ytlnkofnfgemfdaa
