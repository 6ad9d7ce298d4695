/- Part 16 of the texts of this claim: Routing: rows in rows, each in blocks of its own; the marks on them. -/
import Derived.Test.YtlnkofnfgemfdaaLo8
import Derived.Test.YtlnkofnfgemfdaaLo1
/- Routing: rows in rows, each in blocks of its own; the marks on them. -/
namespace Go.Proofs.Ytlnkofnfgemfdaa
open Go.RowKit
theorem Only.widen {lo hi lo' hi' : Nat} {w w' : World} (h : Only lo hi w w') (h1 : lo' ≤ lo) (h2 : hi ≤ hi') : Only lo' hi' w w' := ⟨h.os, h.tape, h.output, h.size, fun k hk hn => h.block k hk (by omega)⟩
/-- Inner row k lies in blocks from m k up to m (k + 1). -/
def RoutingSep (w : World) (m : Nat → Nat) (R : List RtR) (l : List Rt) : Prop := R.length = l.length ∧ ∀ k (h1 : k < R.length) (h2 : k < l.length), RtOf (fun A n x => RowsAt spF 136 w (m k) (m (k + 1)) A n n x ∧ x.length ≤ 16777216) R[k] l[k] ∧ R[k].2.2.2 = R[k].2.2.1
structure RoutingAt (w : World) (lo hi : Nat) (A : Option Addr) (n c : Nat) (l : List Rt) (R : List RtR) (mid : Nat) (m : Nat → Nat) : Prop where
  rows : RowsAt rtF 89 w lo mid A n c R
  lom : lo ≤ mid
  m0 : mid ≤ m 0
  up : ∀ i, i < l.length → m i ≤ m (i + 1)
  top : m l.length ≤ hi
  sep : RoutingSep w m R l
theorem RtUp {m : Nat → Nat} {L : Nat} (h : ∀ i, i < L → m i ≤ m (i + 1)) : ∀ b, b ≤ L → ∀ a, a ≤ b → m a ≤ m b := by
  intro b
  induction b with
  | zero => intro _ a ha; obtain rfl : a = 0 := by omega
            exact Nat.le_refl _
  | succ b ih =>
    intro hb a ha
    rcases Nat.lt_or_ge a (b + 1) with h1 | h1
    · exact Nat.le_trans (ih (by omega) a (by omega)) (h b (by omega))
    · obtain rfl : a = b + 1 := by omega
      exact Nat.le_refl _
section
variable {w w' : World} {lo hi mid : Nat} {A : Option Addr} {n c : Nat} {l : List Rt} {R : List RtR} {m : Nat → Nat}
theorem RoutingSep.keep (h : RoutingSep w m R l) (hb : Below w.heap.size w w') : RoutingSep w' m R l := ⟨h.1, fun k h1 h2 => ⟨(h.2 k h1 h2).1.imp (fun _ _ _ h => ⟨h.1.keep hb, h.2⟩), (h.2 k h1 h2).2⟩⟩
theorem RoutingAt.keep (h : RoutingAt w lo hi A n c l R mid m) (hb : Below w.heap.size w w') : RoutingAt w' lo hi A n c l R mid m := ⟨h.rows.keep hb, h.lom, h.m0, h.up, h.top, h.sep.keep hb⟩
theorem RoutingAt.only {a b : Nat} (h : RoutingAt w lo hi A n c l R mid m) (ho : Only a b w w') (hd : hi ≤ a ∨ b ≤ lo) : RoutingAt w' lo hi A n c l R mid m := by
  have hup := RtUp h.up
  have hl := h.sep.1
  have h0 := hup l.length (Nat.le_refl _) 0 (Nat.zero_le _)
  have h1 := h.lom
  have h2 := h.m0
  have h3 := h.top
  refine ⟨h.rows.only ho (by omega), h.lom, h.m0, h.up, h.top, hl, fun k k1 k2 => ⟨(h.sep.2 k k1 k2).1.imp (fun _ _ _ x => ⟨x.1.only ho ?_, x.2⟩), (h.sep.2 k k1 k2).2⟩⟩
  have h4 := hup (k + 1) (by omega) 0 (by omega)
  have h5 := hup k (by omega) 0 (by omega)
  have h6 := hup l.length (Nat.le_refl _) (k + 1) (by omega)
  omega
theorem RoutingAt.ins (h : RoutingAt w lo hi A n c l R mid m) (hn : l.length ≤ 16777216) : RoutingsIn w A n l := by
  refine ⟨R, h.rows.rows (by rw [h.sep.1]; exact hn), h.sep.1, fun k h1 h2 => (h.sep.2 k h1 h2).1.imp (fun _ _ _ x => x.1.rows x.2)⟩
theorem RowsAt.off {α : Type} {F : Flat α} {e : TypeId} {x : List α} (h : RowsAt F e w lo hi A n c x) {p : Addr} (hp : p.block < lo ∨ hi ≤ p.block) (v : Value) : RowsAt F e (w.setCell p v) lo hi A n c x := by
  refine h.only (a := p.block) (b := p.block + 1) ⟨rfl, rfl, rfl, by simp, fun k _ hk => ?_⟩ (by omega)
  exact heap_setCell_other w p k v (by omega)
theorem RoutingAt.off (h : RoutingAt w lo hi A n c l R mid m) {p : Addr} (hp : p.block < lo ∨ hi ≤ p.block) (v : Value) : RoutingAt (w.setCell p v) lo hi A n c l R mid m := by
  refine h.only (a := p.block) (b := p.block + 1) ⟨rfl, rfl, rfl, by simp, fun k _ hk => ?_⟩ (by omega)
  exact heap_setCell_other w p k v (by omega)
end
set_option maxRecDepth 100000 in
set_option maxHeartbeats 4000000 in
theorem toRoutingS_own (A : Option Addr) (n c : Nat) (l : List Rt) (w : World) (hl : RoutingsIn w A n l) :
    Calls Try.prog 32 #[.slice A n c] w fun e w' => ∃ A' R mid m, e = .returned (.slice A' n n) ∧ RoutingAt w' w.heap.size w'.heap.size A' n n l R mid m ∧ Below w.heap.size w w' := by
  obtain ⟨i0, hi0, hz0, hz1, hz2⟩ := info_parts rtInfo
  have hn := hl.len
  obtain rfl := hl.num
  go_enter Try.func32, Try.ntmps32
  go_wp2_with (at_make; refine wpList_make_full _ rfl (.tmp 6) (.tmp 6) _ rfl w.heap.size 89 i0 _ 2 Try.underlying73 hi0 hz0 hz1 .i64 .i64 _ _ l.length rfl rfl rfl rfl (by rw [hz2]; omega) (by unfold maxLen; omega) (Nat.le_refl _) ?_; intro w1 hown hg)
  have hb1 := below_none hg
  generalize hzs : (madeCells (Value.agg #[.string { data := #[] }, .slice none 0 0]).cells (l.length * 2)).toList = zs at hown
  have hzl : zs.length = l.length * 2 := hown.1
  have hlo : w.heap.size < w1.heap.size := (own_lt hown _ rfl).2
  clear hg hzs
  have HZ := Lib.hid hzl; clear hzl
  go_loopw [4] (fun i wr => ∃ (k : Nat) (R : List RtR) (m : Nat → Nat), k ≤ l.length ∧ i = .int .i64 k ∧ R.length = k ∧ wr.ownsRow w.heap.size 89 2 (.slice (some ⟨w.heap.size, 0, none⟩) l.length l.length) l.length (R.flatMap rtF.enc ++ zs.drop (k * 2)) ∧ RoutingSep wr m R (l.take k) ∧ w1.heap.size ≤ m 0 ∧ (∀ i, i < k → m i ≤ m (i + 1)) ∧ m k ≤ wr.heap.size ∧ w1.heap.size ≤ wr.heap.size ∧ Below w.heap.size w wr) (fun i _ => l.length - (intOf i).toNat)
  case atStart => exact ⟨0, [], fun _ => w1.heap.size, by omega, rfl, rfl, by simpa using hown, ⟨by simp, fun k h1 => by simp at h1⟩, Nat.le_refl _, fun i h => by omega, Nat.le_refl _, Nat.le_refl _, hb1⟩
  case round =>
    clear hown hb1
    obtain ⟨k, R, m, hk, rfl, hRk, hown, hO, hm0, hmu, hmk, hsz, hb⟩ := hrel
    by_cases hlt : k < l.length
    · obtain ⟨b, o, B, q, c2, rfl, _, hc0, hc1, hw⟩ := rt_at (hl.keep hb) hlt
      have HRK := Lib.hid hRk
      clear hRk
      have HMU := Lib.hid hmu
      clear hmu
      go_wp2_with fail
      refine (toRouting_any _ _ _ _ l[k].2 _ hw).mono ?_
      rintro e w2 ⟨B', rfl, hB, hb2⟩
      have hwl := hw.len
      have hlen : (R.flatMap rtF.enc).length = k * 2 := by rw [flatMap_len rtF.enc 2 rtF.len, HRK.out]
      have hz := HZ.out
      have hdl : (k + 1) * 2 ≤ zs.length := by rw [hz]; exact Nat.mul_le_mul_right _ (by omega)
      have ho := own_keep hown hb2
      have e0 : zs.drop (k * 2) = zs[k * 2]'(by omega) :: zs[k * 2 + 1]'(by omega) :: zs.drop ((k + 1) * 2) := by
        rw [List.drop_eq_getElem_cons (i := k * 2) (by omega)]; rw [List.drop_eq_getElem_cons (i := k * 2 + 1) (by omega)]; rw [show (k + 1) * 2 = k * 2 + 1 + 1 by omega]
      rw [e0] at ho
      obtain ⟨u0, c0, f0⟩ := own_cell ho (k * 2) (by omega)
      obtain ⟨u1, c1, f1⟩ := own_cell ho (k * 2 + 1) (by omega)
      have s0 := (ho.stored (k * 2) (.string (l[k].1))).1
      rw [set_mid2 _ _ _ _ _ hlen.symm] at s0
      have s1 := (s0.stored (k * 2 + 1) (.slice B' q q)).1
      rw [show R.flatMap rtF.enc ++ .string (l[k].1) :: zs[k * 2 + 1]'(by omega) :: zs.drop ((k + 1) * 2) = (R.flatMap rtF.enc ++ [.string (l[k].1)]) ++ zs[k * 2 + 1]'(by omega) :: zs.drop ((k + 1) * 2) by simp, set_mid2 _ _ _ _ _ (by rw [List.length_append, hlen]; rfl)] at s1
      rw [show (R.flatMap rtF.enc ++ [.string (l[k].1)]) ++ .slice B' q q :: zs.drop ((k + 1) * 2) = R.flatMap rtF.enc ++ .string (l[k].1) :: .slice B' q q :: zs.drop ((k + 1) * 2) by simp] at s1
      rw [show R.flatMap rtF.enc ++ .string (l[k].1) :: .slice B' q q :: zs.drop ((k + 1) * 2) = (R ++ [(l[k].1, B', q, q)]).flatMap rtF.enc ++ zs.drop ((k + 1) * 2) by rw [List.flatMap_append]; simp [rtF]] at s1
      have hb3 : Below w.heap.size w w2 := hb.trans (hb2.mono hb.size)
      have hsz2 : w1.heap.size ≤ w2.heap.size := Nat.le_trans hsz hb2.size
      have HLK : w.heap.size < m k := by
        have := RtUp HMU.out k (Nat.le_refl _) 0 (Nat.zero_le _)
        omega
      have HLJ : ∀ j, j < k → w.heap.size < m j := fun j hj => by
        have := RtUp HMU.out j (by omega) 0 (Nat.zero_le _)
        omega
      have hO2 : RoutingSep ((w2.setCell ⟨w.heap.size, k * 2, none⟩ (.string (l[k].1))).setCell ⟨w.heap.size, k * 2 + 1, none⟩ (.slice B' q q)) (fun i => if i ≤ k then m i else w2.heap.size) (R ++ [(l[k].1, B', q, q)]) (l.take (k + 1)) := by
        have hRl := HRK.out
        refine ⟨by simp [hRl]; omega, fun j h1 h2 => ?_⟩
        simp only [List.length_append, List.length_cons, List.length_nil] at h1
        by_cases hj : j < k
        · have h3 := hO.2 j (by omega) (by simp; omega)
          rw [List.getElem_append_left (by omega)]
          rw [List.getElem_take] at h3 ⊢
          refine ⟨h3.1.imp (fun A' n' l' h => ?_), h3.2⟩
          dsimp only
          rw [if_pos (by omega), if_pos (by omega)]
          exact ⟨((h.1.keep hb2).off (.inl (by have := HLJ j hj; dsimp only; omega)) _).off (.inl (by have := HLJ j hj; dsimp only; omega)) _, h.2⟩
        · obtain rfl : j = R.length := by omega
          rw [List.getElem_append_right (Nat.le_refl _), List.getElem_take]
          simp only [Nat.sub_self, List.getElem_cons_zero]
          subst hRl
          rw [if_pos (Nat.le_refl _), if_neg (by omega)]
          exact ⟨⟨rfl, (((RowsAt.keep (OwnRows.at_ (OwnRows.lower hB hmk)) (Below.refl _ _))).off (.inl (by have := HLK; dsimp only; omega)) _).off (.inl (by have := HLK; dsimp only; omega)) _, hwl⟩, by trivial⟩
      have hRL : (R ++ [(l[k].1, B', q, q)]).length = k + 1 := by rw [List.length_append, HRK.out]; rfl
      have hM0 : w1.heap.size ≤ (fun i => if i ≤ k then m i else w2.heap.size) 0 := by dsimp only; rw [if_pos (by omega)]; exact hm0
      have hMU : Hid (∀ i, i < k + 1 → (fun i => if i ≤ k then m i else w2.heap.size) i ≤ (fun i => if i ≤ k then m i else w2.heap.size) (i + 1)) := fun i hi => by
        dsimp only
        rw [if_pos (by omega)]
        by_cases h : i + 1 ≤ k
        · rw [if_pos h]; exact HMU.out i (by omega)
        · rw [if_neg h]
          obtain rfl : i = k := by omega
          exact Nat.le_trans hmk hb2.size
      have hMK : (fun i => if i ≤ k then m i else w2.heap.size) (k + 1) ≤ w2.heap.size := by dsimp only; rw [if_neg (by omega)]; exact Nat.le_refl _
      have S2 := Lib.hid s1
      have SO := Lib.hid hO2
      have SR := Lib.hid hRL
      have SM := Lib.hid hM0
      have SK := Lib.hid hMK
      have SE := Lib.hid (show ((w2.setCell ⟨w.heap.size, k * 2, none⟩ (.string (l[k].1))).setCell ⟨w.heap.size, k * 2 + 1, none⟩ (.slice B' q q)).heap.size = w2.heap.size by simp)
      clear ho e0 s0 s1 hown hz hlen hb hb2 hO hO2 hRL hdl HLJ HLK hM0 hMK hm0 hmk
      go_wp2
      go_roundw
      case rel => exact ⟨k + 1, _, _, by omega, by go_num, SR.out, S2.out, SO.out, SM.out, hMU.out, Nat.le_trans SK.out (Nat.le_of_eq SE.out.symm), by simp; exact hsz2, ((hb3.setCell (Nat.le_refl _) _).setCell (Nat.le_refl _) _)⟩
      case measure => simp [intOf]; omega
    · obtain rfl : k = l.length := by omega
      go_wp2
      go_ret
      refine ⟨_, R, w1.heap.size, m, rfl, ⟨⟨hRk.symm, ?_, hsz, fun a ha => ?_⟩, Nat.le_of_lt hlo, hm0, hmu, hmk, ?_⟩, hb⟩
      · have h3 : zs.drop (l.length * 2) = [] := List.drop_eq_nil_of_le (by rw [HZ.out]; exact Nat.le_refl _)
        rw [h3, List.append_nil] at hown
        exact hown
      · have := Option.some.inj ha; subst this; exact hlo
      · rw [List.take_length] at hO
        exact hO
set_option maxRecDepth 100000 in
set_option maxHeartbeats 4000000 in
/-- The marks on arguments: what they are is not asked. -/
theorem markRoutingS_any (A : Option Addr) (n c lo hi : Nat) (l : List Rt) (R : List RtR) (mid : Nat) (m : Nat → Nat) (k0 : Int) (w : World) (ha : RoutingAt w lo hi A n c l R mid m) (hk0 : 1 ≤ k0) (hk1 : k0 ≤ 1000000000000000) (hn : l.length ≤ 16777216) :
    Calls Try.prog 38 #[.slice A n c, .int .i64 k0] w fun e w' => ∃ k1 : Int, e = .returned (.int .i64 k1) ∧ k0 ≤ k1 ∧ k1 ≤ k0 + 1000000000 * l.length ∧ Only lo hi w w' := by
  have hRl := ha.sep.1
  obtain rfl : n = R.length := ha.rows.1
  have HLN := Lib.hid (flatMap_len rtF.enc 2 rtF.len R)
  have HUP := Lib.hid (RtUp ha.up)
  have h_0 := ha.m0
  have h_l := ha.lom
  have h_t := ha.top
  have h_u := RtUp ha.up l.length (Nat.le_refl _) 0 (Nat.zero_le _)
  obtain ⟨⟨_, ⟨hown, hhi, hlt⟩⟩, _, _, _, _, hsep⟩ := ha
  have HSEP := Lib.hid hsep
  clear hsep
  have HT := Lib.hid hlt
  clear hlt
  have HC0 : Hid (∀ j (hj : j < R.length), (R.flatMap rtF.enc)[j * 2 + 1]? = some (.slice R[j].2.1 R[j].2.2.1 R[j].2.2.2)) := fun j hj => by
    rw [flatMap_at rtF.enc 2 rtF.len R j 1 hj (by omega)]; rfl
  go_enter Try.func38, Try.ntmps38
  go_wp2
  go_loopw [1, 5] (fun v i wr => ∃ (k : Nat) (xs : List Value) (x : Int), k ≤ R.length ∧ i = .int .i64 k ∧ v = .int .i64 x ∧ k0 ≤ x ∧ x ≤ k0 + 1000000000 * k ∧ wr.ownsRow lo 89 2 (.slice A R.length c) R.length xs ∧ mid ≤ wr.heap.size ∧ Hid (∀ j (hj : j < R.length), k ≤ j → xs[j * 2 + 1]? = some (.slice R[j].2.1 R[j].2.2.1 R[j].2.2.2)) ∧ Hid (∀ j (h1 : j < R.length) (h2 : j < l.length), k ≤ j → RtOf (fun A n x => RowsAt spF 136 wr (m j) (m (j + 1)) A n n x ∧ x.length ≤ 16777216) R[j] l[j] ∧ R[j].2.2.2 = R[j].2.2.1) ∧ Only lo hi w wr) (fun _ i _ => R.length - (intOf i).toNat)
  case atStart => exact ⟨0, _, k0, by omega, rfl, rfl, by omega, by omega, hown, hhi, fun j hj _ => HC0.out j hj, fun j h1 h2 _ => HSEP.out.2 j h1 h2, Only.refl _ _ _⟩
  case round =>
    clear hown HC0 HSEP hhi
    obtain ⟨k, xs, x, hk, rfl, rfl, x0, x1, ho, hmw, HC, HI, HO⟩ := hrel
    by_cases hlt : k < R.length
    · have hA : ∃ g, A = some ⟨g, 0, none⟩ := by
        rcases ho.2 with ⟨hv, h0⟩ | ⟨g, cap, cur, hv, _⟩
        · omega
        · exact ⟨g, by injection hv⟩
      obtain ⟨g, rfl⟩ := hA
      have hgl : lo ≤ g ∧ g < mid := ⟨(own_lt ho _ rfl).1, HT.out _ rfl⟩
      have hmh : mid ≤ hi := by omega
      have hgo : ∀ x, (Value.slice (some ⟨g, 0, none⟩) R.length c).ownBlock = some x → lo ≤ x ∧ x < mid := fun x hx => by injection hx with hx; subst hx; exact hgl
      have HGO := Lib.hid hgo
      clear hgo
      have hkl : k < l.length := by omega
      have hin := HI.out k hlt hkl (Nat.le_refl _)
      have hck := HC.out k hlt (Nat.le_refl _)
      have HD : Only lo mid wr wr := Only.refl _ _ _
      have hxl : xs.length = R.length * 2 := ho.1
      have hkn : k * 2 + 2 ≤ R.length * 2 := by
        have := Nat.mul_le_mul_right 2 (show k + 1 ≤ R.length by omega)
        rw [Nat.succ_mul] at this; exact this
      go_wp2_with fail
      refine (markText_some _ _ (by omega) (by omega)).mono ?_
      rintro e v0 ⟨t0, rfl, hb0⟩
      have hq0 := own_keep ho hb0
      replace HD := HD.trans (Only.of_below hb0)
      clear hb0
      obtain ⟨u0, c0, f0⟩ := own_cell hq0 (k * 2) (by omega)
      have s0 := (hq0.stored (k * 2) (.string t0))
      replace HD := HD.trans (Only.of_grown s0.2 HGO.out)
      have hXC : Hid (∀ j (hj : j < R.length), k ≤ j → (xs.set (k * 2) (.string t0))[j * 2 + 1]? = some (.slice R[j].2.1 R[j].2.2.1 R[j].2.2.2)) := fun j hj hkj => by
        have hjk : k * 2 ≤ j * 2 := Nat.mul_le_mul_right _ hkj
        rw [List.getElem?_set_ne (by omega)]
        exact HC.out j hj hkj
      have hZ := s0.1
      have e_last := hZ.cellAt (k * 2 + 1) (by omega)
      rw [hXC.out k hlt (Nat.le_refl _)] at e_last
      obtain ⟨hin, hcp⟩ := hin
      simp only [RtOf] at hin
      obtain ⟨_, hin, hil⟩ := hin
      rw [hcp] at e_last
      clear hcp
      replace hin := hin.only HD (.inr (by have := HUP.out k (by omega) 0 (by omega); omega))
      have hSZ := HD.size
      have HZ := Lib.hid hZ
      have HD2 := Lib.hid HD
      generalize hXX : (xs.set (k * 2) (.string t0)) = X2 at *
      clear hXX hZ HD hq0
      go_wp2_with fail
      refine (markStepS_any _ _ _ _ _ l[k].2 _ _ hin (by omega) (by omega) hil).mono ?_
      rintro e v9 ⟨rfl, _, hoi⟩
      have hmk1 := HUP.out (k + 1) (by omega) k (by omega)
      have hmk0 := HUP.out k (by omega) 0 (by omega)
      have hmt := HUP.out l.length (Nat.le_refl _) (k + 1) (by omega)
      have hZ9 : v9.ownsRow lo 89 2 (.slice (some ⟨g, 0, none⟩) R.length c) R.length X2 := (own_only (h := (⟨HZ.out, Nat.le_trans hmw hSZ, fun a ha => by have := Option.some.inj ha; subst this; exact hgl.2⟩ : OwnAt _ lo mid 89 2 (some ⟨g, 0, none⟩) R.length c X2)) hoi (.inl (by omega))).1
      have hXD : Hid (∀ j (hj : j < R.length), k + 1 ≤ j → X2[j * 2 + 1]? = some (.slice R[j].2.1 R[j].2.2.1 R[j].2.2.2)) := fun j hj hkj => hXC.out j hj (by omega)
      have hI9 : Hid (∀ j (h1 : j < R.length) (h2 : j < l.length), k + 1 ≤ j → RtOf (fun A n x => RowsAt spF 136 v9 (m j) (m (j + 1)) A n n x ∧ x.length ≤ 16777216) R[j] l[j] ∧ R[j].2.2.2 = R[j].2.2.1) := fun j h1 h2 hkj => ⟨(HI.out j h1 h2 (by omega)).1.imp (fun _ _ _ h => ⟨(h.1.only HD2.out (.inr (by have := HUP.out j (by omega) 0 (by omega); omega))).only hoi (.inr (HUP.out j (by omega) (k + 1) hkj)), h.2⟩), (HI.out j h1 h2 (by omega)).2⟩
      have hO9 : Only lo hi w v9 := (HO.trans (Only.widen HD2.out (Nat.le_refl _) hmh)).trans (Only.widen hoi (by omega) (by omega))
      have hs9 := hoi.size
      have hmw9 : mid ≤ v9.heap.size := by omega
      clear HZ HD2 hoi hin HI HC
      go_wp2_with fail
      go_roundw
      case rel => exact ⟨k + 1, X2, _, by omega, by go_num, rfl, by omega, by omega, hZ9, hmw9, hXD.out, hI9.out, hO9⟩
      case measure => simp [intOf]; omega
    · obtain rfl : k = R.length := by omega
      go_wp2
      go_ret
      exact ⟨x, rfl, x0, by omega, HO⟩
end Go.Proofs.Ytlnkofnfgemfdaa
