/- How the laws on schedules draw their jobs. -/
import Derived.Test.YtmkfinahbelpdaaJobOwn
namespace Go.Proofs.Ytmkfinahbelpdaa
open Go.RowKit
/-- The ending of a call that draws jobs. -/
def DrawnJobs (w : World) (base g : Nat) (e : Ending) (w' : World) : Prop := ∃ (l : List Jb) (R : List JbR) (b c : Nat), e = .returned (.slice (some ⟨b, 0, none⟩) l.length c) ∧ l.length ≤ 4 ∧ (∀ j ∈ l, okJb j ∧ j.2.2.length ≤ 4) ∧ OwnRows jbF 44 w' w.heap.size (some ⟨b, 0, none⟩) l.length c R ∧ JbsOwn w' w.heap.size R l ∧ CurAt w' base g ∧ Only g (g + 1) w w'
theorem RowVal.some_of {α : Type} {F : Flat α} {t : TypeId} {w : World} {lo n : Nat} {v : Value} {l : List α} (h : RowVal F t w lo v l) (hn : l.length = n + 1) : ∃ b c, v = .slice (some ⟨b, 0, none⟩) (n + 1) c := by
  obtain ⟨A, c, rfl, ho⟩ := h.form
  obtain ⟨b, rfl⟩ := rowOf_some ho (by omega)
  exact ⟨b, c, by rw [hn]⟩
theorem lit_row {α : Type} {F : Flat α} {t : TypeId} {w : World} {H : Nat} (hH : w.heap.size = H) (cs : Array Value) (x : α) (hcs : cs.toList = F.enc x) : RowsIn F (w.alloc (.cells cs t)) (some ⟨H, 0, none⟩) 1 [x] := by
  refine ⟨rfl, by rw [flatMap_len F.enc F.sz F.len]; rfl, by omega, fun _ => ⟨H, 0, rfl, by simp; omega, fun j u hu => ?_⟩⟩
  have := news_at hH cs t j u (by rw [hcs]; simpa using hu)
  rwa [Addr.add_lit] at this
/-- Rows of two kinds lie in two blocks. -/
theorem RowVal.apart {α β : Type} {F : Flat α} {G : Flat β} {s t : TypeId} {w : World} {lo lo' : Nat} {v v' : Value} {l : List α} {l' : List β} (hst : s ≠ t) (h : RowVal F s w lo v l) (k : RowVal G t w lo' v' l') : ∀ g, v.ownBlock = some g → v'.ownBlock ≠ some g := by
  intro g hg he
  rcases h.2 with ⟨h0, _⟩ | ⟨g1, cap1, cur1, hv1, _, hg1, _⟩
  · subst h0; simp [Value.ownBlock] at hg
  · rcases k.2 with ⟨k0, _⟩ | ⟨g2, cap2, cur2, hv2, _, hg2, _⟩
    · subst k0; simp [Value.ownBlock] at he
    · subst hv1 hv2
      simp only [Value.ownBlock, Option.some.injEq] at hg he
      subst hg
      rw [he] at hg2
      rw [hg1] at hg2
      injection hg2 with e1
      injection e1 with e2 e3
      exact hst e3
theorem RowVal.blk {α : Type} {F : Flat α} {t : TypeId} {w w' : World} {lo : Nat} {v : Value} {l : List α} (h : RowVal F t w lo v l) (hb : ∀ g, v.ownBlock = some g → g < w.heap.size → w'.heap[g]? = w.heap[g]?) : RowVal F t w' lo v l := by
  refine ⟨h.1, ?_⟩
  rcases h.2 with h0 | ⟨g, cap, cur, hv, hlo, hg, hr⟩
  · exact .inl h0
  · refine .inr ⟨g, cap, cur, hv, hlo, ?_, hr⟩
    have hlt : g < w.heap.size := by
      rcases Nat.lt_or_ge g w.heap.size with h1 | h1
      · exact h1
      · rw [Array.getElem?_eq_none h1] at hg; cases hg
    rw [hb g (by subst hv; rfl) hlt]; exact hg
/-- Jobs stay where another row (of jobs) grows. -/
theorem JbOwn.grow {α : Type} {F : Flat α} {t : TypeId} (ht : t ≠ 46) {w w' : World} {lo lo' : Nat} {v : Value} {l : List α} {r : JbR} {j : Jb} (hv : RowVal F t w lo' v l) (h : JbOwn w lo r j) (hb : ∀ k, k < w.heap.size → v.ownBlock ≠ some k → w'.heap[k]? = w.heap[k]?) : JbOwn w' lo r j := by
  simp only [JbOwn] at h ⊢
  refine ⟨h.1, h.2.1, h.2.2.1, h.2.2.2.1, ?_⟩
  have h4 := h.2.2.2.val
  have h5 := h4.blk (w' := w') (fun g hg hlt => hb g hlt (fun he => RowVal.apart ht hv h4 g he hg))
  have hn := h.2.2.2.1
  rw [hn]
  rw [hn] at h5
  exact h5
/-- The first job's row lies below M, those of all others from M on. -/
def TailOwn (w : World) (M : Nat) (R : List JbR) (l : List Jb) : Prop := (∀ r, R.head? = some r → ∀ a, r.2.2.1 = some a → a.block < M) ∧ ∀ k (_ : 1 ≤ k) (h1 : k < R.length) (h2 : k < l.length), JbOwn w M R[k] l[k]
theorem TailOwn.nil {w : World} {M : Nat} : TailOwn w M [] [] := ⟨fun r h => by simp at h, fun k h0 h1 => by simp at h1⟩
theorem TailOwn.only {w w' : World} {M a b : Nat} {R : List JbR} {l : List Jb} (h : TailOwn w M R l) (ho : Only a b w w') (hb : b ≤ M) : TailOwn w' M R l := ⟨h.1, fun k h0 h1 h2 => (h.2 k h0 h1 h2).only ho hb⟩
theorem TailOwn.grow {w w' : World} {M lo' : Nat} {v : Value} {Q : List JbR} {R : List JbR} {l : List Jb} (hv : RowVal jbF 44 w lo' v Q) (h : TailOwn w M R l) (hb : ∀ k, k < w.heap.size → v.ownBlock ≠ some k → w'.heap[k]? = w.heap[k]?) : TailOwn w' M R l := ⟨h.1, fun k h0 h1 h2 => (h.2 k h0 h1 h2).grow (by decide) hv hb⟩
theorem TailOwn.snoc {w : World} {M M' : Nat} {R : List JbR} {l : List Jb} {r : JbR} {j : Jb} (h : TailOwn w M R l) (hRl : R.length = l.length) (hj : JbOwn w M' r j) (hM : M ≤ M') (hMw : M ≤ w.heap.size) (hb : ∀ a, r.2.2.1 = some a → a.block < w.heap.size) : ∃ M2, M ≤ M2 ∧ M2 ≤ w.heap.size ∧ TailOwn w M2 (R ++ [r]) (l ++ [j]) := by
  cases R with
  | nil =>
    refine ⟨w.heap.size, hMw, Nat.le_refl _, fun r' hr' a ha => ?_, fun k h0 h1 h2 => ?_⟩
    · simp at hr'; subst hr'; exact hb a ha
    · simp at h1; omega
  | cons r0 R =>
    refine ⟨M, Nat.le_refl _, hMw, fun r' hr' a ha => h.1 r' (by simpa using hr') a ha, fun k h0 h1 h2 => ?_⟩
    simp only [List.getElem_append]
    simp only [List.length_append, List.length_cons, List.length_nil] at h1 hRl
    by_cases hk : k < (r0 :: R).length
    · rw [dif_pos hk, dif_pos (by simp at hk; omega)]; exact h.2 k h0 hk (by simp at hk; omega)
    · rw [dif_neg hk, dif_neg (by simp at hk; omega)]
      simp only [List.getElem_singleton]; exact hj.lower hM
section
variable {α : Type} {F : Flat α} {t e : TypeId}
/-- out = append(out, x), with all other blocks kept. -/
theorem wpList_append_blk (hE : ElemOk F t e) {w1 : World} {ops : Array Oper} {rest : List Oper} {o : Oper} {a : Act} {Q : Exit → Act → World → Prop} (hgd : o.guard = none) (s x : Operand)
    (ho : o.op = .call { callee := .builtin .append, args := #[s, x], argTypes := #[t, t] }) {lo : Nat} {v : Value} {l : List α} (hs : a.eval s = v) (hrow : RowVal F e w1 lo v l) (hlen : l.length ≤ 16777216)
    (y : α) (cs : Array Value) (hcs : cs.toList = F.enc y) (hone : ∀ u ∈ cs.toList, u.oneCell' = true) (H c : Nat) (hH : w1.heap.size = H) (hx : a.eval x = .slice (some ⟨H, 0, none⟩) 1 c) (hlo : lo ≤ w1.heap.size)
    (h : ∀ v' w', RowVal F e w' lo v' (l ++ [y]) → (∀ B, B ≤ lo → B ≤ w1.heap.size → Below B w1 w') → w1.heap.size < w'.heap.size → (∀ k, k < w1.heap.size → v.ownBlock ≠ some k → w'.heap[k]? = w1.heap[k]?) → wpList Try.prog ops Q rest (a.put o.dst v') w') :
    wpList Try.prog ops Q (o :: rest) a (w1.alloc (.cells cs e)) := by
  obtain ⟨i, z, bytes, ht, hi, hz, hsz, hby, hzs, hpos, hbb⟩ := hE
  have hb2 : (l.length + 1) * bytes ≤ 140737488355328 := Nat.le_trans (Nat.mul_le_mul (show l.length + 1 ≤ 16777217 by omega) hbb) (by omega)
  refine wpList_append_own_at _ hgd s x t ho lo e i z F.sz bytes ht hi hz hsz hby hzs hpos v l.length (l.flatMap F.enc) hs (hrow.alloc _) ⟨H, 0, none⟩ 1 c cs.toList hx (by rw [hcs, F.len, Nat.one_mul]) (news_at hH cs e) hone (by unfold maxLen; omega) hb2 (by simp; omega) (fun v' w' h2 h3 _ h5 => h v' w' (RowVal.snoc hcs h2) (fun B hB hB2 => ?_) ?_ (fun k hk hne => ?_))
  · refine ((Below.refl B w1).alloc hB2 _).trans (below_grown h3 (by simp; omega) (fun g hg => Nat.le_trans hB (own_block hrow g hg)))
  · have := h3.size; simp at this; omega
  · rw [h3.block k (by simp; omega) (Ne.symm hne)]
    exact (below_alloc w1 (.cells cs e)).block k hk
end
/-- One cell of the first raw job is turned. -/
theorem jobs_edit {w : World} {lo b n c : Nat} {r : JbR} {j : Jb} {R : List JbR} {l : List Jb} (hr : OwnRows jbF 44 w lo (some ⟨b, 0, none⟩) n c (r :: R)) (hJ : JbsOwn w lo (r :: R) (j :: l)) (i : Nat) (u : Value) (r' : JbR) (j' : Jb) (he : (jbF.enc r).set i u = jbF.enc r') (hi : i < 3) (hj : JbOwn w lo r j → JbOwn w lo r' j') :
    OwnRows jbF 44 (w.setCell ⟨b, i, none⟩ u) lo (some ⟨b, 0, none⟩) n c (r' :: R) ∧ JbsOwn (w.setCell ⟨b, i, none⟩ u) lo (r' :: R) (j' :: l) := by
  have hb : ∀ k, k < w.heap.size → (Value.slice (some ⟨b, 0, none⟩) n c).ownBlock ≠ some k → (w.setCell ⟨b, i, none⟩ u).heap[k]? = w.heap[k]? := fun k _ hk => heap_setCell_other w _ k u (fun e => hk (by simp at e; simp [Value.ownBlock, e]))
  refine ⟨⟨by have := hr.1; simpa using this, ?_⟩, by have := hJ.1; simpa using this, fun k h1 h2 => ?_⟩
  · have := (hr.2.stored i u).1
    rw [List.flatMap_cons, List.set_append_left _ _ (by rw [jbF.len]; exact hi), he] at this
    rw [List.flatMap_cons]
    exact this
  · cases k with
    | zero => exact (hj (hJ.2 0 (by simp) (by simp))).grow (by decide) hr.val hb
    | succ k => exact (hJ.2 (k + 1) (by simpa using h1) (by simpa using h2)).grow (by decide) hr.val hb
theorem OwnRows.blk {α : Type} {F : Flat α} {t : TypeId} {w w' : World} {lo n c : Nat} {A : Option Addr} {l : List α} (h : OwnRows F t w lo A n c l) (hb : ∀ g, lo ≤ g → (Value.slice A n c).ownBlock = some g → g < w.heap.size → w'.heap[g]? = w.heap[g]?) : OwnRows F t w' lo A n c l := by
  obtain ⟨rfl, h⟩ := h
  have hb2 := own_block h
  exact ⟨rfl, RowVal.blk (v := .slice A l.length c) h (fun g hg hlt => hb g (hb2 g hg) hg hlt)⟩
theorem JbOwn.blk {w w' : World} {lo : Nat} {r : JbR} {j : Jb} (h : JbOwn w lo r j) (hb : ∀ g, lo ≤ g → g < w.heap.size → w'.heap[g]? = w.heap[g]?) : JbOwn w' lo r j := by
  simp only [JbOwn] at h ⊢
  exact ⟨h.1, h.2.1, h.2.2.1, h.2.2.2.blk (fun g h1 _ h3 => hb g h1 h3)⟩
theorem row_edit {w : World} {lo b n c : Nat} {r : JbR} {R : List JbR} (hr : OwnRows jbF 44 w lo (some ⟨b, 0, none⟩) n c (r :: R)) (i : Nat) (u : Value) (r' : JbR) (he : (jbF.enc r).set i u = jbF.enc r') (hi : i < 3) :
    OwnRows jbF 44 (w.setCell ⟨b, i, none⟩ u) lo (some ⟨b, 0, none⟩) n c (r' :: R) := by
  refine ⟨by have := hr.1; simpa using this, ?_⟩
  have := (hr.2.stored i u).1
  rw [List.flatMap_cons, List.set_append_left _ _ (by rw [jbF.len]; exact hi), he] at this
  rw [List.flatMap_cons]
  exact this
set_option maxRecDepth 100000 in
set_option maxHeartbeats 4000000 in
theorem l22Jobs_any (w : World) (base g : Nat) (hc : CurAt w base g) : Calls Try.prog 44 #[.pointer (some ⟨g, 0, none⟩)] w (DrawnJobs w base g) := by
  have hg := hc.lt
  have hb0 := below_alloc w (.cells #[] 44)
  have hr0 : RowVal jbF 44 (w.alloc (.cells #[] 44)) w.heap.size (.slice (some ⟨w.heap.size, 0, none⟩) 0 0) [] := empty_row (F := jbF) rfl (Nat.le_refl _)
  have hc0 := hc.keep hb0 hg
  have HO0 : Only g (g + 1) w (w.alloc (.cells #[] 44)) := Only.of_below hb0
  have hz0 : w.heap.size < (w.alloc (.cells #[] 44)).heap.size := by simp
  go_enter Try.func44, Try.ntmps44
  go_wp2_with fail
  generalize w.alloc (.cells #[] 44) = w0 at *
  refine (l1Below_any _ _ _ _ (by omega) hc0).mono ?_
  rintro e w1 ⟨n, rfl, ⟨n0, n1⟩, hc1, HO1⟩
  have hr1 := hr0.only HO1 (by omega)
  have hz1 : w.heap.size < w1.heap.size := by have := HO1.size; omega
  have HOa := HO0.trans HO1
  clear hr0 hc0 HO0 hz0 HO1 hc
  go_wp2_with fail
  go_loopw [3, 4] (fun v t wr => ∃ (k : Int) (l : List Jb) (R : List JbR) (b c : Nat), t = .int .i64 k ∧ 0 ≤ k ∧ k ≤ n ∧ v = .slice (some ⟨b, 0, none⟩) l.length c ∧ (l.length : Int) + k = n ∧ (∀ j ∈ l, okJb j ∧ j.2.2.length ≤ 3) ∧ OwnRows jbF 44 wr w.heap.size (some ⟨b, 0, none⟩) l.length c R ∧ JbsOwn wr w.heap.size R l ∧ CurAt wr base g ∧ w.heap.size < wr.heap.size ∧ Only g (g + 1) w wr ∧ ∃ M, w.heap.size ≤ M ∧ M ≤ wr.heap.size ∧ TailOwn wr M R l) (fun _ t _ => (intOf t).toNat)
  case atStart => exact ⟨n, [], [], _, _, rfl, n0, by omega, rfl, by simp, by simp, ⟨rfl, hr1⟩, JbsOwn.nil, hc1, hz1, HOa, w.heap.size, Nat.le_refl _, by omega, TailOwn.nil⟩
  case round =>
    clear hr1 hc1 hz1 HOa
    obtain ⟨k, l, R, b, c, rfl, k0, k1, rfl, hlk, hok, hr, hJ, hc1, hz, HO, M, hM0, hM1, hT⟩ := hrel
    have hg1 := hc1.lt
    by_cases hpos : 0 < k
    · go_wp2_with fail
      refine (l1Below_any _ _ _ _ (by omega) hc1).mono ?_
      rintro e w2 ⟨rel, rfl, ⟨rel0, rel1⟩, hc2, HO2⟩
      have hr2 := hr.only HO2 (by omega)
      have hJ2 := hJ.only HO2 (by omega)
      have hz2 : w.heap.size < w2.heap.size := by have := HO2.size; omega
      have HOb := HO.trans HO2
      clear hr hJ hc1 hz HO
      go_wp2_with fail
      refine (l1Below_any _ _ _ _ (by omega) hc2).mono ?_
      rintro e w3 ⟨due, rfl, ⟨due0, due1⟩, hc3, HO3⟩
      have hr3 := hr2.only HO3 (by omega)
      have hJ3 := hJ2.only HO3 (by omega)
      have hz3 : w.heap.size < w3.heap.size := by have := HO3.size; omega
      have HOc := HOb.trans HO3
      have hg3 := hc3.lt
      have hT3 := (hT.only HO2 (by omega)).only HO3 (by omega)
      have hM3 : M ≤ w3.heap.size := by have := HO2.size; have := HO3.size; omega
      clear hT hM1
      clear hr2 hJ2 hc2 hz2 HOb HO3 HO2
      go_wp2_with fail
      have hNB := below_alloc w3 (.cells #[.int .i64 rel, .int .i64 due, .slice none 0 0] 44)
      have x0 : (w3.alloc (.cells #[.int .i64 rel, .int .i64 due, .slice none 0 0] 44)).cell? ⟨w3.heap.size, 0, none⟩ = some (.int .i64 rel) := by simp [go_sem]
      have x1 : (w3.alloc (.cells #[.int .i64 rel, .int .i64 due, .slice none 0 0] 44)).cell? ⟨w3.heap.size, 1, none⟩ = some (.int .i64 due) := by simp [go_sem]
      have x2 : (w3.alloc (.cells #[.int .i64 rel, .int .i64 due, .slice none 0 0] 44)).cell? ⟨w3.heap.size, 2, none⟩ = some (.slice none 0 0) := by simp [go_sem]
      have xf : (w3.alloc (.cells #[.int .i64 rel, .int .i64 due, .slice none 0 0] 44)).frozen? ⟨w3.heap.size, 2, none⟩ = false := by simp [go_sem]
      have hz4 : (w3.alloc (.cells #[.int .i64 rel, .int .i64 due, .slice none 0 0] 44)).heap.size = w3.heap.size + 1 := by simp
      have hc4 := hc3.keep hNB hg3
      have HOd : Only g (g + 1) w3 (w3.alloc (.cells #[.int .i64 rel, .int .i64 due, .slice none 0 0] 44)) := Only.of_below hNB
      generalize w3.alloc (.cells #[.int .i64 rel, .int .i64 due, .slice none 0 0] 44) = w4 at *
      generalize hN : w3.heap.size = N at *
      refine (l1Below_any _ _ _ _ (by omega) hc4).mono ?_
      rintro e w5 ⟨m, rfl, ⟨m0, m1⟩, hc5, HO5⟩
      have hs5 := HO5.size
      replace x0 : w5.cell? ⟨N, 0, none⟩ = some (.int .i64 rel) := by rw [World.cell?_of_block (HO5.block N (by omega) (by omega))]; exact x0
      replace x1 : w5.cell? ⟨N, 1, none⟩ = some (.int .i64 due) := by rw [World.cell?_of_block (HO5.block N (by omega) (by omega))]; exact x1
      replace x2 : w5.cell? ⟨N, 2, none⟩ = some (.slice none 0 0) := by rw [World.cell?_of_block (HO5.block N (by omega) (by omega))]; exact x2
      replace xf : w5.frozen? ⟨N, 2, none⟩ = false := by rw [World.frozen?_of_block (HO5.block N (by omega) (by omega))]; exact xf
      have hz5 : N < w5.heap.size := by omega
      have HOe := HOd.trans HO5
      clear hc4 HOd HO5 hs5 hz4 hNB
      go_wp2_with fail
      go_loopw [6] (fun t wr => ∃ (j : Int) (ws : List Wk) (v : Value), t = .int .i64 j ∧ 0 ≤ j ∧ j ≤ m ∧ (ws.length : Int) + j = m ∧ (∀ y ∈ ws, okWk y) ∧ wr.cell? ⟨N, 0, none⟩ = some (.int .i64 rel) ∧ wr.cell? ⟨N, 1, none⟩ = some (.int .i64 due) ∧ wr.cell? ⟨N, 2, none⟩ = some v ∧ wr.frozen? ⟨N, 2, none⟩ = false ∧ RowVal wkF 46 wr (N + 1) v ws ∧ CurAt wr base g ∧ N < wr.heap.size ∧ Only g (g + 1) w3 wr) (fun t _ => (intOf t).toNat)
      case atStart => exact ⟨m, [], _, rfl, m0, by omega, by simp, by simp, x0, x1, x2, xf, RowVal.nil _ _, hc5, hz5, HOe⟩
      case round =>
        clear x0 x1 x2 xf hc5 hz5 HOe
        obtain ⟨j, ws, v, rfl, j0, j1, hwj, hokw, x0, x1, x2, xf, hrv, hc5, hz5, HOe⟩ := hrel
        have hg5 := hc5.lt
        by_cases hjp : 0 < j
        · go_wp2_with fail
          have hpick := l1Pick_any _ 3 3 [⟨#[83, 65, 87]⟩, ⟨#[77, 73, 76, 76]⟩, ⟨#[80, 65, 73, 78, 84]⟩] _ base g (RowsIn.drew (lit_strs (w := wr) (H := wr.heap.size) (t := 9) rfl #[.string ⟨#[83, 65, 87]⟩, .string ⟨#[77, 73, 76, 76]⟩, .string ⟨#[80, 65, 73, 78, 84]⟩] [⟨#[83, 65, 87]⟩, ⟨#[77, 73, 76, 76]⟩, ⟨#[80, 65, 73, 78, 84]⟩] 3 rfl rfl (by simp))) (by omega) (fun a ha => by have := Option.some.inj ha; rw [← this]; show wr.heap.size ≠ g; omega) (hc5.keep ((below_alloc _ _).drew) hg5)
          have xa2 : (wr.alloc (.cells #[.string ⟨#[83, 65, 87]⟩, .string ⟨#[77, 73, 76, 76]⟩, .string ⟨#[80, 65, 73, 78, 84]⟩] 9)).drew.cell? ⟨N, 2, none⟩ = some v := ((below_alloc wr _).drew.cell (p := ⟨N, 2, none⟩) hz5).trans x2
          go_region_law (first
            | (go_simp; go_at_call 66; refine hpick.mono ?_; rintro e wp ⟨s, rfl, hs, hcp, HOp⟩; have HP : Only g (g + 1) wr wp := (Only.of_below ((below_alloc wr _).drew)).trans HOp; have hsp := HP.size; have xp2 : wp.cell? ⟨N, 2, none⟩ = some v := (by rw [World.cell?_of_block (HP.block N hz5 (by omega))]; exact x2))
            | (go_simp; go_at_call 47; refine (l1Below_any _ _ _ _ (by omega) hcp).mono ?_; rintro e wq ⟨y, rfl, ⟨y0, y1⟩, hcq, HOq⟩; have HQ : Only g (g + 1) wr wq := HP.trans HOq; have hsq := HQ.size; have xq2 : wq.cell? ⟨N, 2, none⟩ = some v := (by rw [World.cell?_of_block (HQ.block N hz5 (by omega))]; exact x2); have xqf : wq.frozen? ⟨N, 2, none⟩ = false := (by rw [World.frozen?_of_block (HQ.block N hz5 (by omega))]; exact xf); have hwq : IntKind.i64.wrap (1 + y) = 1 + y := IntWalk.i64_in _ (by omega); have hrq := hrv.only HQ (by omega); have xr2 : (wq.alloc (.cells #[.string s, .int .i64 (1 + y)] 46)).cell? ⟨N, 2, none⟩ = some v := ((below_alloc wq _).cell (p := ⟨N, 2, none⟩) (by show N < wq.heap.size; omega)).trans xq2)
            | (refine step_append_rows workElem wkOne rfl (.tmp 26) (.tmp 34) rfl (wq.alloc (.cells #[.string s, .int .i64 (1 + y)] 46)) (lo := N + 1) (v := v) (l := ws) rfl (hrq.alloc _) (by omega) rfl (lit_row (F := wkF) rfl #[.string s, .int .i64 (1 + y)] (s, 1 + y) rfl) (by simp; omega) ?_; intro v9 w9 hr9 hg9; obtain ⟨b9, c9, rfl⟩ := hr9.some_of (n := ws.length) (by simp); have hB9 : Below (N + 1) wq w9 := ((Below.refl (N + 1) wq).alloc (by omega) _).trans (RowVal.below (hrq.alloc _) hg9 (Nat.le_refl _) (by simp; omega)); have f9 : w9.frozen? ⟨N, 2, none⟩ = false := (hB9.frozen (p := ⟨N, 2, none⟩) (Nat.lt_succ_self N)).trans xqf; have x9 : w9.cell? ⟨N, 2, none⟩ = some v := (hB9.cell (p := ⟨N, 2, none⟩) (Nat.lt_succ_self N)).trans xq2))
          all_goals
            have HN : Below N wq w9 := ((Below.refl N wq).alloc (by omega) _).trans (RowVal.below (hrq.alloc _) hg9 (Nat.le_succ N) (by simp; omega))
            have y0 : w9.cell? ⟨N, 0, none⟩ = some (.int .i64 rel) := (hB9.cell (p := ⟨N, 0, none⟩) (Nat.lt_succ_self N)).trans (by rw [World.cell?_of_block (HQ.block N hz5 (by omega))]; exact x0)
            have y1 : w9.cell? ⟨N, 1, none⟩ = some (.int .i64 due) := (hB9.cell (p := ⟨N, 1, none⟩) (Nat.lt_succ_self N)).trans (by rw [World.cell?_of_block (HQ.block N hz5 (by omega))]; exact x1)
            have hok9 : ∀ z ∈ ws ++ [(s, 1 + y)], okWk z := by
              intro z hz
              rcases List.mem_append.1 hz with hz | hz
              · exact hokw z hz
              · simp only [List.mem_singleton] at hz
                subst hz
                simp only [List.mem_cons, List.not_mem_nil, or_false] at hs
                rcases hs with rfl | rfl | rfl <;> simp [okWk, ByteArray.size]
            have HS : Below N wq (w9.setCell ⟨N, 2, none⟩ (.slice (some ⟨b9, 0, none⟩) (ws.length + 1) c9)) := HN.setCell (Nat.le_refl _) _
            have hsz9 : N < (w9.setCell ⟨N, 2, none⟩ (.slice (some ⟨b9, 0, none⟩) (ws.length + 1) c9)).heap.size := by have := HN.size; simp; omega
            go_wp2_with fail
            go_roundw
            case rel => exact ⟨j - 1, ws ++ [(s, 1 + y)], .slice (some ⟨b9, 0, none⟩) (ws.length + 1) c9, rfl, by omega, by omega, by simp; omega, hok9, by rw [World.cell?_setCell_other _ _ _ _ (by simp)]; exact y0, by rw [World.cell?_setCell_other _ _ _ _ (by simp)]; exact y1, World.cell?_setCell_same _ _ _ x9, by simp [f9], hr9.far (Nat.lt_succ_self N) _, hcq.keep HS hg3, hsz9, only_below (HOe.trans HQ) (by rw [hN]; exact HS)⟩
            case measure => simp [intOf]; omega
        · obtain rfl : j = 0 := by omega
          obtain ⟨A5, c5, rfl, ho5⟩ := hrv.form
          have hj : JbOwn wr w.heap.size (rel, due, (A5, ws.length, c5)) (rel, due, ws) := by
            simp only [JbOwn]
            exact ⟨trivial, trivial, by omega, ho5.lower (by omega)⟩
          have hr5 := hr3.only HOe (by omega)
          have hJ5 := (hJ3.only HOe (by omega)).snoc hj
          have hRl := hJ3.1
          have hr6 := hr5.val
          go_wp2_with (at_builtin; refine wpList_append_blk jbElem rfl _ _ rfl rfl hr6 (by omega) (rel, due, (A5, ws.length, c5)) #[.int .i64 rel, .int .i64 due, .slice A5 ws.length c5] rfl (jbOne (rel, due, (A5, ws.length, c5))) wr.heap.size _ rfl rfl (by omega) ?_; intro v9 w9 hr9 hb9 hs9 hk9; obtain ⟨b9, c9, rfl⟩ := hr9.some_of (n := l.length) (by simp; omega))
          obtain ⟨M2, hM2, hM3b, hT5⟩ := (hT3.only HOe (by omega)).snoc hJ3.1 (M' := N + 1) (r := (rel, due, (A5, ws.length, c5))) (j := (rel, due, ws)) (by simp only [JbOwn]; exact ⟨trivial, trivial, by omega, ho5⟩) (by omega) (by omega) (fun a ha => (own_lt ho5.2 a ha).2)
          have hT9 := hT5.grow hr6 hk9
          have HW := hb9 w.heap.size (Nat.le_refl _) (by omega)
          have hJ9 : JbsOwn w9 w.heap.size (R ++ [(rel, due, (A5, ws.length, c5))]) (l ++ [(rel, due, ws)]) := ⟨hJ5.1, fun q h1 h2 => (hJ5.2 q h1 h2).grow (by decide) hr6 hk9⟩
          have hR9 : OwnRows jbF 44 w9 w.heap.size (some ⟨b9, 0, none⟩) (l ++ [(rel, due, ws)]).length c9 (R ++ [(rel, due, (A5, ws.length, c5))]) := by
            refine ⟨by simp; omega, ?_⟩
            unfold RowVal at hr9
            rw [show (R ++ [(rel, due, (A5, ws.length, c5))]).length = l.length + 1 by simp; omega] at hr9
            rw [List.length_append]
            exact hr9
          go_wp2_with fail
          go_roundw
          case rel => exact ⟨k - 1, l ++ [(rel, due, ws)], R ++ [(rel, due, (A5, ws.length, c5))], b9, c9, rfl, by omega, by omega, by simp, by simp; omega, by
              intro z hz
              rcases List.mem_append.1 hz with hz | hz
              · exact hok z hz
              · simp only [List.mem_singleton] at hz
                subst hz
                exact ⟨hokw, by show ws.length ≤ 3; omega⟩, hR9, hJ9, hc5.keep HW hg, by omega, only_below (HOc.trans HOe) HW, M2, by omega, by omega, hT9⟩
          case measure => simp [intOf]; omega
    · obtain rfl : k = 0 := by omega
      go_wp2_with fail
      refine (l1Once_any _ _ _ _ (by omega) hc1).mono ?_
      rintro e w2 ⟨bb, rfl, hc2, HO2⟩
      have hr2 := hr.only HO2 (by omega)
      have hJ2 := hJ.only HO2 (by omega)
      have hz2 : w.heap.size < w2.heap.size := by have := HO2.size; omega
      have HOb := HO.trans HO2
      have hg2 := hc2.lt
      have hT2 := hT.only HO2 (by omega)
      have hM2 : M ≤ w2.heap.size := by have := HO2.size; omega
      clear hr hJ HO hz hc1 HO2 hT hM1
      cases bb
      · go_wp2_with fail
        go_ret
        exact ⟨l, R, b, c, rfl, by omega, fun j hj => ⟨(hok j hj).1, by have := (hok j hj).2; omega⟩, hr2, hJ2, hc2, HOb⟩
      · by_cases hlp : l.length = 0
        · go_wp2_with fail
          go_ret
          exact ⟨l, R, b, c, by rw [hlp]; rfl, by omega, fun j hj => ⟨(hok j hj).1, by have := (hok j hj).2; omega⟩, hr2, hJ2, hc2, HOb⟩
        · have hlp2 : 0 < l.length := by omega
          go_wp2_with fail
          refine (l1Below_any _ _ _ _ (by omega) hc2).mono ?_
          rintro e w3 ⟨x, rfl, ⟨x0, x1⟩, hc3, HO3⟩
          have hr3 := hr2.only HO3 (by omega)
          have hJ3 := hJ2.only HO3 (by omega)
          have hz3 : w.heap.size < w3.heap.size := by have := HO3.size; omega
          have HOc := HOb.trans HO3
          have hT3 := hT2.only HO3 (by omega)
          have hM3 : M ≤ w3.heap.size := by have := HO3.size; omega
          clear hr2 hJ2 hz2 HOb hc2 HO3 hT2 hM2
          have h3 : (x = 0 ∨ x = 1) ∨ x = 2 := by omega
          rcases h3 with (rfl | rfl) | rfl
          · go_wp2_with fail
            refine (l1Odd_any _ _ _ hc3).mono ?_
            rintro e w4 ⟨od, rfl, _, hc4, HO4⟩
            have hr4 := hr3.only HO4 (by omega)
            have hJ4 := hJ3.only HO4 (by omega)
            cases l with
            | nil => simp at hlp2
            | cons j0 l =>
            cases R with
            | nil => have := hJ4.1; simp at this
            | cons r0 R =>
            obtain ⟨hr5, hJ5⟩ := jobs_edit hr4 hJ4 0 (.int .i64 od) (od, r0.2) (od, j0.2) rfl (by omega) (fun h => by simp only [JbOwn] at h ⊢; exact ⟨trivial, h.2⟩)
            have HS : Below w.heap.size w4 (w4.setCell ⟨b, 0, none⟩ (.int .i64 od)) := (Below.refl w.heap.size w4).setCell (own_lt hr4.2 _ rfl).1 _
            have e0 := hr4.2.cellAt 0 (by show 0 < (j0 :: l).length * 3; simp only [List.length_cons]; omega)
            have f0 := hr4.2.frozenAt 0
            have hn0 : 0 < (j0 :: l).length := by simp
            go_wp2_with fail
            go_ret
            exact ⟨(od, j0.2) :: l, (od, r0.2) :: R, b, c, rfl, by simpa using (by omega : (j0 :: l).length ≤ 4), fun z hz => by
              rcases List.mem_cons.1 hz with rfl | hz
              · have := hok j0 (List.mem_cons_self ..)
                exact ⟨this.1, by have := this.2; show j0.2.2.length ≤ 4; omega⟩
              · have := hok z (List.mem_cons_of_mem _ hz)
                exact ⟨this.1, by have := this.2; omega⟩, hr5, hJ5, hc4.keep HS hg, only_below (HOc.trans HO4) HS⟩
          · go_wp2_with fail
            refine (l1Odd_any _ _ _ hc3).mono ?_
            rintro e w4 ⟨od, rfl, _, hc4, HO4⟩
            have hr4 := hr3.only HO4 (by omega)
            have hJ4 := hJ3.only HO4 (by omega)
            cases l with
            | nil => simp at hlp2
            | cons j0 l =>
            cases R with
            | nil => have := hJ4.1; simp at this
            | cons r0 R =>
            obtain ⟨hr5, hJ5⟩ := jobs_edit hr4 hJ4 1 (.int .i64 od) (r0.1, od, r0.2.2) (j0.1, od, j0.2.2) rfl (by omega) (fun h => by simp only [JbOwn] at h ⊢; exact ⟨h.1, trivial, h.2.2⟩)
            have HS : Below w.heap.size w4 (w4.setCell ⟨b, 1, none⟩ (.int .i64 od)) := (Below.refl w.heap.size w4).setCell (p := ⟨b, 1, none⟩) (own_lt hr4.2 ⟨b, 0, none⟩ rfl).1 _
            have e0 := hr4.2.cellAt 1 (by show 1 < (j0 :: l).length * 3; simp only [List.length_cons]; omega)
            have f0 := hr4.2.frozenAt 1
            have hn0 : 0 < (j0 :: l).length := by simp
            go_wp2_with fail
            go_ret
            exact ⟨(j0.1, od, j0.2.2) :: l, (r0.1, od, r0.2.2) :: R, b, c, rfl, by simpa using (by omega : (j0 :: l).length ≤ 4), fun z hz => by
              rcases List.mem_cons.1 hz with rfl | hz
              · have := hok j0 (List.mem_cons_self ..)
                exact ⟨this.1, by have := this.2; show j0.2.2.length ≤ 4; omega⟩
              · have := hok z (List.mem_cons_of_mem _ hz)
                exact ⟨this.1, by have := this.2; omega⟩, hr5, hJ5, hc4.keep HS hg, only_below (HOc.trans HO4) HS⟩
          · go_wp2_with fail
            cases l with
            | nil => simp at hlp2
            | cons j0 l =>
            cases R with
            | nil => have := hJ3.1; simp at this
            | cons r0 R =>
            rcases r0 with ⟨p, q, A, m, cc⟩
            rcases j0 with ⟨p2, q2, ws⟩
            have hj0 := hJ3.2 0 (by simp) (by simp)
            simp only [JbOwn, List.getElem_cons_zero] at hj0
            obtain ⟨rfl, rfl, hwl, hst⟩ := hj0
            obtain rfl := hst.1
            have hvs := hst.val
            have hne : (Value.slice A ws.length cc).ownBlock ≠ some b := RowVal.apart (by decide) hr3.val hvs b rfl
            have hlb := own_lt hr3.2 ⟨b, 0, none⟩ rfl
            have hbl : w.heap.size ≤ b := hlb.1
            have hbh : b < w3.heap.size := hlb.2
            have e2 : w3.cell? ⟨b, 2, none⟩ = some (.slice A ws.length cc) := by
              rw [hr3.2.cellAt 2 (by show 2 < ((p, q, ws) :: l).length * 3; simp only [List.length_cons]; omega)]; rfl
            have f2 : w3.frozen? ⟨b, 2, none⟩ = false := hr3.2.frozenAt 2
            have hok0 := hok (p, q, ws) (List.mem_cons_self ..)
            have hw3 : ws.length ≤ 3 := hok0.2
            have hn0 : 0 < ((p, q, ws) :: l).length := by simp
            have hpick := l1PickInt_any _ 3 3 [0, 1000, 1001] _ base g ((lit_ints (w := w3) (H := w3.heap.size) rfl #[.int .i64 0, .int .i64 1000, .int .i64 1001] [0, 1000, 1001] 3 rfl rfl (by simp)).keep (Below.refl _ _).drew) (by omega) (fun a ha => by have := Option.some.inj ha; rw [← this]; show w3.heap.size ≠ g; omega) (hc3.keep ((below_alloc _ _).drew) hc3.lt)
            have xa2 : (w3.alloc (.cells #[.int .i64 0, .int .i64 1000, .int .i64 1001] 3)).drew.cell? ⟨b, 2, none⟩ = some (.slice A ws.length cc) := ((below_alloc w3 _).drew.cell (p := ⟨b, 2, none⟩) hbh).trans e2
            generalize hL : ((p, q, ws) :: l).length = L at *
            go_region_law (first
              | (go_simp; go_at_call 46; refine hpick.mono ?_; rintro e wp ⟨y, rfl, _, hcp, HOp⟩; have HP : Only g (g + 1) w3 wp := (Only.of_below ((below_alloc w3 _).drew)).trans HOp; have hsp := HP.size; have xp2 : wp.cell? ⟨b, 2, none⟩ = some (.slice A ws.length cc) := (by rw [World.cell?_of_block (HP.block b hbh (by omega))]; exact e2); have xpf : wp.frozen? ⟨b, 2, none⟩ = false := (by rw [World.frozen?_of_block (HP.block b hbh (by omega))]; exact f2); have hvp := hvs.only HP (by omega); have xr2 : (wp.alloc (.cells #[.string ⟨#[83, 65, 87]⟩, .int .i64 y] 46)).cell? ⟨b, 2, none⟩ = some (.slice A ws.length cc) := ((below_alloc wp _).cell (p := ⟨b, 2, none⟩) (by show b < wp.heap.size; omega)).trans xp2)
              | (refine step_append_rows workElem wkOne rfl (.tmp 54) (.tmp 59) rfl (wp.alloc (.cells #[.string ⟨#[83, 65, 87]⟩, .int .i64 y] 46)) (lo := w.heap.size) (v := .slice A ws.length cc) (l := ws) rfl (hvp.alloc _) (by omega) rfl (lit_row (F := wkF) rfl #[.string ⟨#[83, 65, 87]⟩, .int .i64 y] (⟨#[83, 65, 87]⟩, y) rfl) (by simp; omega) ?_; intro v9 w9 hr9 hg9; obtain ⟨b9, c9, rfl⟩ := hr9.some_of (n := ws.length) (by simp); have hk9 : ∀ k, k < wp.heap.size → (Value.slice A ws.length cc).ownBlock ≠ some k → w9.heap[k]? = wp.heap[k]? := fun k hk hkn => ((hg9.block k (by simp; omega) (Ne.symm hkn)).trans ((below_alloc wp _).block k hk)); have x9 : w9.cell? ⟨b, 2, none⟩ = some (.slice A ws.length cc) := (by rw [World.cell?_of_block (hk9 b (by omega) hne)]; exact xp2); have f9 : w9.frozen? ⟨b, 2, none⟩ = false := (by rw [World.frozen?_of_block (hk9 b (by omega) hne)]; exact xpf)))
            all_goals
              have hB9 : Below w.heap.size wp w9 := ((Below.refl w.heap.size wp).alloc (by omega) _).trans (RowVal.below (hvp.alloc _) hg9 (Nat.le_refl _) (by simp; omega))
              have HS : Below w.heap.size wp (w9.setCell ⟨b, 2, none⟩ (.slice (some ⟨b9, 0, none⟩) (ws.length + 1) c9)) := hB9.setCell (p := ⟨b, 2, none⟩) hbl _
              have hr4 : OwnRows jbF 44 w9 w.heap.size (some ⟨b, 0, none⟩) L c ((p, q, A, ws.length, cc) :: R) := (hr3.only HP (by omega)).blk (fun g1 _ h1 h2 => hk9 g1 h2 (fun h3 => by
                simp only [Value.ownBlock, Option.some.injEq] at h1
                subst h1
                exact hne h3))
              have hr5 := row_edit hr4 2 (.slice (some ⟨b9, 0, none⟩) (ws.length + 1) c9) (p, q, some ⟨b9, 0, none⟩, ws.length + 1, c9) rfl (by omega)
              have hset : ∀ k, k < w9.heap.size → (Value.slice (some ⟨b, 0, none⟩) L c).ownBlock ≠ some k → (w9.setCell ⟨b, 2, none⟩ (.slice (some ⟨b9, 0, none⟩) (ws.length + 1) c9)).heap[k]? = w9.heap[k]? := fun k _ hk => heap_setCell_other w9 _ k _ (fun e => hk (by simp at e; simp [Value.ownBlock, e]))
              have hj9 : JbOwn w9 w.heap.size (p, q, some ⟨b9, 0, none⟩, ws.length + 1, c9) (p, q, ws ++ [(⟨#[83, 65, 87]⟩, y)]) := by
                simp only [JbOwn]
                refine ⟨trivial, trivial, by simp; omega, by simp, ?_⟩
                unfold RowVal at hr9
                rw [List.length_append] at hr9
                exact hr9
              have hJ5 : JbsOwn (w9.setCell ⟨b, 2, none⟩ (.slice (some ⟨b9, 0, none⟩) (ws.length + 1) c9)) w.heap.size ((p, q, some ⟨b9, 0, none⟩, ws.length + 1, c9) :: R) ((p, q, ws ++ [(⟨#[83, 65, 87]⟩, y)]) :: l) := by
                refine ⟨by have := hJ3.1; simpa using this, fun k h1 h2 => ?_⟩
                cases k with
                | zero => exact hj9.grow (by decide) hr4.val hset
                | succ k =>
                  have h5 := (hT3.2 (k + 1) (by omega) (by simpa using h1) (by simpa using h2)).only HP (by omega)
                  have h6 := h5.blk (w' := w9) (fun g1 h1 h2 => hk9 g1 h2 (fun h3 => by
                    cases A with
                    | none => simp [Value.ownBlock] at h3
                    | some a =>
                      simp only [Value.ownBlock, Option.some.injEq] at h3
                      have := hT3.1 _ rfl a rfl
                      omega))
                  exact (h6.grow (by decide) hr4.val hset).lower hM0
              go_wp2_with fail
              go_ret
              exact ⟨(p, q, ws ++ [(⟨#[83, 65, 87]⟩, y)]) :: l, (p, q, some ⟨b9, 0, none⟩, ws.length + 1, c9) :: R, b, c, by rw [← hL]; rfl, by rw [← hL] at hlk; simp only [List.length_cons] at hlk ⊢; omega, fun z hz => by
                rcases List.mem_cons.1 hz with rfl | hz
                · refine ⟨fun u hu => ?_, by simp; omega⟩
                  rcases List.mem_append.1 hu with hu | hu
                  · exact hok0.1 u hu
                  · simp only [List.mem_singleton] at hu
                    subst hu
                    simp [okWk, ByteArray.size]
                · have := hok z (List.mem_cons_of_mem _ hz)
                  exact ⟨this.1, by have := this.2; omega⟩, by rw [← hL] at hr5; exact hr5, hJ5, hcp.keep HS hg, only_below (HOc.trans HP) HS⟩
end Go.Proofs.Ytmkfinahbelpdaa
