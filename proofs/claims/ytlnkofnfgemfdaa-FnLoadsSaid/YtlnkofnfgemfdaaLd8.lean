/- Part 8 of the texts of this claim: Routing: rows in rows; the walks of the laws' own helpers on lists of it. -/
import Derived.Test.YtlnkofnfgemfdaaLd7
import Derived.StillTailTactics
/- Routing: rows in rows; the walks of the laws' own helpers on lists of it. -/
namespace Go.Proofs.Ytlnkofnfgemfdaa
open Go.RowKit
abbrev Rt := ByteArray × List Sp
abbrev RtR := ByteArray × (Option Addr × Nat × Nat)
def rtF : Flat RtR := ⟨fun f => [.string (f.1), .slice f.2.1 f.2.2.1 f.2.2.2], 2, fun _ => rfl⟩
/-- A raw element and what it stands for. -/
def RtOf (P : Option Addr → Nat → List Sp → Prop) (r : RtR) (j : Rt) : Prop := r.1 = j.1 ∧ P r.2.1 r.2.2.1 j.2
theorem RtOf.imp {P Q : Option Addr → Nat → List Sp → Prop} {r : RtR} {j : Rt} (h : RtOf P r j) (hi : ∀ A n l, P A n l → Q A n l) : RtOf Q r j := by
  simp only [RtOf] at h ⊢
  exact ⟨h.1, hi _ _ _ h.2⟩
def RoutingOfs (P : Option Addr → Nat → List Sp → Prop) (R : List RtR) (l : List Rt) : Prop := R.length = l.length ∧ ∀ k (h1 : k < R.length) (h2 : k < l.length), RtOf P R[k] l[k]
theorem RoutingOfs.imp {P Q : Option Addr → Nat → List Sp → Prop} {R : List RtR} {l : List Rt} (h : RoutingOfs P R l) (hi : ∀ A n l, P A n l → Q A n l) : RoutingOfs Q R l := ⟨h.1, fun k h1 h2 => (h.2 k h1 h2).imp hi⟩
theorem RoutingOfs.snoc {P : Option Addr → Nat → List Sp → Prop} {R : List RtR} {l : List Rt} {r : RtR} {j : Rt} (h : RoutingOfs P R l) (hj : RtOf P r j) : RoutingOfs P (R ++ [r]) (l ++ [j]) := by
  refine ⟨by simp [h.1], fun k h1 h2 => ?_⟩
  simp only [List.length_append, List.length_cons, List.length_nil] at h1
  have hl := h.1
  simp only [List.getElem_append]
  by_cases hk : k < R.length
  · rw [dif_pos hk, dif_pos (by omega)]; exact h.2 k hk (by omega)
  · rw [dif_neg hk, dif_neg (by omega)]
    simp only [List.getElem_singleton]; exact hj
def RoutingsIn (w : World) (A : Option Addr) (n : Nat) (l : List Rt) : Prop := ∃ R, RowsIn rtF w A n R ∧ RoutingOfs (StepsIn w) R l
/-- As it came in: a row within is read only where it is not too long. -/
def RoutingPre (w : World) (A : Option Addr) (n : Nat) (l : List Rt) : Prop := ∃ R, RowsIn rtF w A n R ∧ RoutingOfs (fun A n l => n ≤ 9223372036854775807 ∧ (n ≤ 1048576 → StepsIn w A n l)) R l
/-- Of the call's own, all rows in blocks from lo on. -/
def RoutingFrom (w : World) (lo : Nat) (A : Option Addr) (n c : Nat) (l : List Rt) : Prop := ∃ R, OwnRows rtF 89 w lo A n c R ∧ RoutingOfs (fun A n l => OwnRows spF 136 w lo A n n l ∧ l.length ≤ 16777216) R l
section
variable {w w' : World} {A : Option Addr} {n c lo : Nat} {l : List Rt}
theorem RoutingsIn.keep (h : RoutingsIn w A n l) (hb : Below w.heap.size w w') : RoutingsIn w' A n l := by
  obtain ⟨R, h1, h2⟩ := h
  exact ⟨R, h1.keep hb, h2.imp (fun _ _ _ h => h.keep hb)⟩
theorem RoutingsIn.len (h : RoutingsIn w A n l) : l.length ≤ 16777216 := by obtain ⟨R, h1, h2⟩ := h; rw [← h2.1]; exact h1.len
theorem RoutingsIn.num (h : RoutingsIn w A n l) : n = l.length := by obtain ⟨R, h1, h2⟩ := h; rw [← h2.1]; exact h1.1
theorem RoutingPre.keep (h : RoutingPre w A n l) (hb : Below w.heap.size w w') : RoutingPre w' A n l := by
  obtain ⟨R, h1, h2⟩ := h
  exact ⟨R, h1.keep hb, h2.imp (fun _ _ _ h => ⟨h.1, fun hn => (h.2 hn).keep hb⟩)⟩
theorem RoutingPre.len (h : RoutingPre w A n l) : l.length ≤ 16777216 := by obtain ⟨R, h1, h2⟩ := h; rw [← h2.1]; exact h1.len
theorem RoutingFrom.keep (h : RoutingFrom w lo A n c l) (hb : Below w.heap.size w w') : RoutingFrom w' lo A n c l := by
  obtain ⟨R, h1, h2⟩ := h
  exact ⟨R, h1.keep hb, h2.imp (fun _ _ _ h => ⟨h.1.keep hb, h.2⟩)⟩
theorem RoutingFrom.far (h : RoutingFrom w lo A n c l) {p : Addr} (hp : p.block < lo) (x : Value) : RoutingFrom (w.setCell p x) lo A n c l := by
  obtain ⟨R, h1, h2⟩ := h
  exact ⟨R, h1.far hp x, h2.imp (fun _ _ _ h => ⟨h.1.far hp x, h.2⟩)⟩
theorem RoutingFrom.lower {lo' : Nat} (h : RoutingFrom w lo A n c l) (hl : lo' ≤ lo) : RoutingFrom w lo' A n c l := by
  obtain ⟨R, h1, h2⟩ := h
  exact ⟨R, h1.lower hl, h2.imp (fun _ _ _ h => ⟨h.1.lower hl, h.2⟩)⟩
theorem RoutingFrom.rows (h : RoutingFrom w lo A n c l) (hn : l.length ≤ 16777216) : RoutingsIn w A n l := by
  obtain ⟨R, h1, h2⟩ := h
  exact ⟨R, h1.rows (by rw [h2.1]; exact hn), h2.imp (fun _ _ _ h => h.1.rows h.2)⟩
theorem RoutingFrom.at_ (h : RoutingFrom w lo A n c l) : RoutingFrom w lo A n c l := h
theorem rt_at (h : RoutingsIn w A n l) {k : Nat} (hk : k < l.length) :
    ∃ b o B m c, A = some ⟨b, o, none⟩ ∧ b < w.heap.size ∧ w.cell? ⟨b, o + k * 2, none⟩ = some (.string (l[k].1)) ∧ w.cell? ⟨b, o + k * 2 + 1, none⟩ = some (.slice B m c) ∧ StepsIn w B m l[k].2 := by
  obtain ⟨R, h1, h2, h3⟩ := h
  obtain ⟨b, o, e, hlt, hc⟩ := h1.at_ (k := k) (by omega)
  have h4 := h3 k (by omega) hk
  simp only [RtOf] at h4
  refine ⟨b, o, _, _, _, e, hlt, by rw [← h4.1]; exact hc 0 _ rfl, hc 1 _ rfl, h4.2⟩
end
theorem rtInfo : (Try.prog.info? 89).map (fun i => (i.zero, i.size, i.bytes)) = some (some (.agg #[.string { data := #[] }, .slice none 0 0]), 2, 40) := by kernel_rfl

set_option maxRecDepth 100000 in
set_option maxHeartbeats 2000000 in
theorem toRouting_any (x0 : ByteArray) (B : Option Addr) (m c : Nat) (l : List Sp) (w : World) (hl : StepsIn w B m l) :
    Calls Try.prog 95 #[.agg #[.string (x0), .slice B m c]] w fun e w' => ∃ B', e = .returned (.agg #[.string (x0), .slice B' m m]) ∧ OwnRows spF 136 w' w.heap.size B' m m l ∧ Below w.heap.size w w' := by
  have HBX := hl
  have hb0 : Below w.heap.size w (((w.alloc (.cells #[.string (x0), .slice B m c] 130)).alloc (.cells #[.string { data := #[] }, .slice none 0 0] 89)).alloc (.cells #[.string (x0), .slice none 0 0] 89)) := (((Below.refl _ _).alloc (Nat.le_refl _) _).alloc (by simp) _).alloc (by simp; omega) _
  have hz0 : (((w.alloc (.cells #[.string (x0), .slice B m c] 130)).alloc (.cells #[.string { data := #[] }, .slice none 0 0] 89)).alloc (.cells #[.string (x0), .slice none 0 0] 89)).heap.size = w.heap.size + 3 := by simp
  have c10 : (((w.alloc (.cells #[.string (x0), .slice B m c] 130)).alloc (.cells #[.string { data := #[] }, .slice none 0 0] 89)).alloc (.cells #[.string (x0), .slice none 0 0] 89)).cell? ⟨w.heap.size + 1, 0, none⟩ = some (.string { data := #[] }) := by simp [go_sem]
  have c20 : (((w.alloc (.cells #[.string (x0), .slice B m c] 130)).alloc (.cells #[.string { data := #[] }, .slice none 0 0] 89)).alloc (.cells #[.string (x0), .slice none 0 0] 89)).cell? ⟨w.heap.size + 1 + 1, 0, none⟩ = some (.string (x0)) := by simp [go_sem]
  have c11 : (((w.alloc (.cells #[.string (x0), .slice B m c] 130)).alloc (.cells #[.string { data := #[] }, .slice none 0 0] 89)).alloc (.cells #[.string (x0), .slice none 0 0] 89)).cell? ⟨w.heap.size + 1, 1, none⟩ = some (.slice none 0 0) := by simp [go_sem]
  have c21 : (((w.alloc (.cells #[.string (x0), .slice B m c] 130)).alloc (.cells #[.string { data := #[] }, .slice none 0 0] 89)).alloc (.cells #[.string (x0), .slice none 0 0] 89)).cell? ⟨w.heap.size + 1 + 1, 1, none⟩ = some (.slice none 0 0) := by simp [go_sem]
  have f1 : ∀ j, (((w.alloc (.cells #[.string (x0), .slice B m c] 130)).alloc (.cells #[.string { data := #[] }, .slice none 0 0] 89)).alloc (.cells #[.string (x0), .slice none 0 0] 89)).frozen? ⟨w.heap.size + 1, j, none⟩ = false := fun j => by simp [go_sem]
  have f2 : ∀ j, (((w.alloc (.cells #[.string (x0), .slice B m c] 130)).alloc (.cells #[.string { data := #[] }, .slice none 0 0] 89)).alloc (.cells #[.string (x0), .slice none 0 0] 89)).frozen? ⟨w.heap.size + 1 + 1, j, none⟩ = false := fun j => by simp [go_sem]
  go_enter Try.func95, Try.ntmps95
  go_wp2_with fail
  generalize (((w.alloc (.cells #[.string (x0), .slice B m c] 130)).alloc (.cells #[.string { data := #[] }, .slice none 0 0] 89)).alloc (.cells #[.string (x0), .slice none 0 0] 89)) = W at *
  have l1 : w.heap.size + 1 < W.heap.size := by omega
  have l2 : w.heap.size + 1 + 1 < W.heap.size := by omega
  have l0 : w.heap.size ≤ W.heap.size := by omega
  clear hz0
  refine (toStepS_any _ _ _ l _ (HBX.keep hb0)).mono ?_
  rintro e w1 ⟨B', rfl, hB, hs⟩
  replace hb0 := below_on hb0 hs
  replace c10 := (hs.cell (p := ⟨w.heap.size + 1, 0, none⟩) l1).trans c10
  replace c20 := (hs.cell (p := ⟨w.heap.size + 1 + 1, 0, none⟩) l2).trans c20
  replace c11 := (hs.cell (p := ⟨w.heap.size + 1, 1, none⟩) l1).trans c11
  replace c21 := (hs.cell (p := ⟨w.heap.size + 1 + 1, 1, none⟩) l2).trans c21
  replace f1 := fun j => (hs.frozen (p := ⟨w.heap.size + 1, j, none⟩) l1).trans (f1 j)
  replace f2 := fun j => (hs.frozen (p := ⟨w.heap.size + 1 + 1, j, none⟩) l2).trans (f2 j)
  clear hs
  go_wp2_with fail
  refine bodyPost_ret (v := .agg #[.string (x0), .slice B' m m]) (by simp [results, Try.results95, go_sem, c10, c20, c11, c21, f1, f2]) rfl ⟨B', rfl, ?_, ?_⟩
  · exact OwnRows.lower (((hB.far l2 _).far l1 _).far l1 _) l0
  · exact ((hb0.setCell (by simp; omega) _).setCell (by simp) _).setCell (by simp) _
set_option maxRecDepth 100000 in
set_option maxHeartbeats 4000000 in
theorem toRoutingS_any (A : Option Addr) (n c : Nat) (l : List Rt) (w : World) (hl : RoutingsIn w A n l) :
    Calls Try.prog 32 #[.slice A n c] w fun e w' => ∃ A', e = .returned (.slice A' n n) ∧ RoutingFrom w' w.heap.size A' n n l ∧ Below w.heap.size w w' := by
  obtain ⟨i0, hi0, hz0, hz1, hz2⟩ := info_parts rtInfo
  have hn := hl.len
  obtain rfl := hl.num
  go_enter Try.func32, Try.ntmps32
  go_wp2_with (at_make; refine wpList_make_full _ rfl (.tmp 6) (.tmp 6) _ rfl w.heap.size 89 i0 _ 2 Try.underlying73 hi0 hz0 hz1 .i64 .i64 _ _ l.length rfl rfl rfl rfl (by rw [hz2]; omega) (by unfold maxLen; omega) (Nat.le_refl _) ?_; intro w1 hown hg)
  have hb1 := below_none hg
  generalize hzs : (madeCells (Value.agg #[.string { data := #[] }, .slice none 0 0]).cells (l.length * 2)).toList = zs at hown
  have hzl : zs.length = l.length * 2 := hown.1
  have hlo : w.heap.size < w1.heap.size := (own_lt hown _ rfl).2
  clear hg hzs
  have HZ := Lib.hid hzl; clear hzl
  go_loopw [4] (fun i wr => ∃ (k : Nat) (R : List RtR), k ≤ l.length ∧ i = .int .i64 k ∧ R.length = k ∧ wr.ownsRow w.heap.size 89 2 (.slice (some ⟨w.heap.size, 0, none⟩) l.length l.length) l.length (R.flatMap rtF.enc ++ zs.drop (k * 2)) ∧ RoutingOfs (fun A n l => OwnRows spF 136 wr w1.heap.size A n n l ∧ l.length ≤ 16777216) R (l.take k) ∧ w1.heap.size ≤ wr.heap.size ∧ Below w.heap.size w wr) (fun i _ => l.length - (intOf i).toNat)
  case atStart => exact ⟨0, [], by omega, rfl, rfl, by simpa using hown, ⟨by simp, fun k h1 => by simp at h1⟩, Nat.le_refl _, hb1⟩
  case round =>
    clear hown hb1
    obtain ⟨k, R, hk, rfl, hRk, hown, hO, hsz, hb⟩ := hrel
    by_cases hlt : k < l.length
    · obtain ⟨b, o, B, m, c2, rfl, _, hc0, hc1, hw⟩ := rt_at (hl.keep hb) hlt
      have HRK := Lib.hid hRk
      clear hRk
      go_wp2_with fail
      refine (toRouting_any _ _ _ _ l[k].2 _ hw).mono ?_
      rintro e w2 ⟨B', rfl, hB, hb2⟩
      have hwl := hw.len
      have hlen : (R.flatMap rtF.enc).length = k * 2 := by rw [flatMap_len rtF.enc 2 rtF.len, HRK.out]
      have hz := HZ.out
      have hdl : (k + 1) * 2 ≤ zs.length := by rw [hz]; exact Nat.mul_le_mul_right _ (by omega)
      have ho := own_keep hown hb2
      have e0 : zs.drop (k * 2) = zs[k * 2]'(by omega) :: zs[k * 2 + 1]'(by omega) :: zs.drop ((k + 1) * 2) := by
        rw [List.drop_eq_getElem_cons (i := k * 2) (by omega)]; rw [List.drop_eq_getElem_cons (i := k * 2 + 1) (by omega)]; rw [show (k + 1) * 2 = k * 2 + 1 + 1 by omega]
      rw [e0] at ho
      obtain ⟨u0, c0, f0⟩ := own_cell ho (k * 2) (by omega)
      obtain ⟨u1, c1, f1⟩ := own_cell ho (k * 2 + 1) (by omega)
      have s0 := (ho.stored (k * 2) (.string (l[k].1))).1
      rw [set_mid2 _ _ _ _ _ hlen.symm] at s0
      have s1 := (s0.stored (k * 2 + 1) (.slice B' m m)).1
      rw [show R.flatMap rtF.enc ++ .string (l[k].1) :: zs[k * 2 + 1]'(by omega) :: zs.drop ((k + 1) * 2) = (R.flatMap rtF.enc ++ [.string (l[k].1)]) ++ zs[k * 2 + 1]'(by omega) :: zs.drop ((k + 1) * 2) by simp, set_mid2 _ _ _ _ _ (by rw [List.length_append, hlen]; rfl)] at s1
      rw [show (R.flatMap rtF.enc ++ [.string (l[k].1)]) ++ .slice B' m m :: zs.drop ((k + 1) * 2) = R.flatMap rtF.enc ++ .string (l[k].1) :: .slice B' m m :: zs.drop ((k + 1) * 2) by simp] at s1
      rw [show R.flatMap rtF.enc ++ .string (l[k].1) :: .slice B' m m :: zs.drop ((k + 1) * 2) = (R ++ [(l[k].1, B', m, m)]).flatMap rtF.enc ++ zs.drop ((k + 1) * 2) by rw [List.flatMap_append]; simp [rtF]] at s1
      have hb3 : Below w.heap.size w w2 := hb.trans (hb2.mono hb.size)
      have hsz2 : w1.heap.size ≤ w2.heap.size := Nat.le_trans hsz hb2.size
      have hO2 : RoutingOfs (fun A' n' l' => OwnRows spF 136 ((w2.setCell ⟨w.heap.size, k * 2, none⟩ (.string (l[k].1))).setCell ⟨w.heap.size, k * 2 + 1, none⟩ (.slice B' m m)) w1.heap.size A' n' n' l' ∧ l'.length ≤ 16777216) (R ++ [(l[k].1, B', m, m)]) (l.take (k + 1)) := by
        rw [List.take_succ_eq_append_getElem hlt]
        refine RoutingOfs.snoc (hO.imp (fun _ _ _ h => ⟨((h.1.keep hb2).far hlo _).far hlo _, h.2⟩)) ?_
        exact ⟨rfl, ((OwnRows.lower hB hsz).far hlo _).far hlo _, hwl⟩
      have hRL : (R ++ [(l[k].1, B', m, m)]).length = k + 1 := by rw [List.length_append, HRK.out]; rfl
      have S2 := Lib.hid s1
      have SO := Lib.hid hO2
      have SR := Lib.hid hRL
      clear ho e0 s0 s1 hown hz hlen hb hb2 hO hO2 hRL hdl
      go_wp2
      go_roundw
      case rel => exact ⟨k + 1, _, by omega, by go_num, SR.out, S2.out, SO.out, by simp; exact hsz2, ((hb3.setCell (Nat.le_refl _) _).setCell (Nat.le_refl _) _)⟩
      case measure => simp [intOf]; omega
    · obtain rfl : k = l.length := by omega
      go_wp2
      go_ret
      refine ⟨_, rfl, ⟨R, ⟨hRk.symm, ?_⟩, ?_⟩, hb⟩
      · have h3 : zs.drop (l.length * 2) = [] := List.drop_eq_nil_of_le (by rw [HZ.out]; exact Nat.le_refl _)
        rw [h3, List.append_nil] at hown
        exact hown
      · rw [List.take_length] at hO
        exact hO.imp (fun _ _ _ h => ⟨h.1.lower (Nat.le_of_lt hlo), h.2⟩)
theorem eqRouting_yes (x0 : ByteArray) (B B2 : Option Addr) (m c m2 c2 : Nat) (l : List Sp) (w : World) (ha : StepsIn w B m l) (hb : StepsIn w B2 m2 l) :
    Calls Try.prog 102 #[.agg #[.string (x0), .slice B m c], .agg #[.string (x0), .slice B2 m2 c2]] w fun e w' => e = .returned (.bool true) ∧ Below w.heap.size w w' := by
  have hbox := ((Below.refl w.heap.size w).alloc (Nat.le_refl _) (.cells #[.string (x0), .slice B m c] 89)).alloc (by simp) (.cells #[.string (x0), .slice B2 m2 c2] 89)
  go_enter Try.func102, Try.ntmps102
  go_wp2_with (go_at_call 147; refine (eqStepS_yes _ _ _ _ _ _ l _ (ha.keep hbox) (hb.keep hbox)).mono ?_; rintro e w5 ⟨rfl, hs⟩)
  go_ret
  exact ⟨rfl, below_on hbox hs⟩
set_option maxRecDepth 100000 in
set_option maxHeartbeats 2000000 in
theorem eqRoutingS_yes (A B : Option Addr) (n m c d : Nat) (l : List Rt) (w : World) (ha : RoutingsIn w A n l) (hb : RoutingsIn w B m l) :
    Calls Try.prog 36 #[.slice A n c, .slice B m d] w fun e w' => e = .returned (.bool true) ∧ Below w.heap.size w w' := by
  have hn := ha.len
  obtain rfl := ha.num
  obtain rfl := hb.num
  go_enter Try.func36, Try.ntmps36
  go_wp2
  go_loopw [5] (fun i wr => ∃ k : Nat, k ≤ l.length ∧ i = .int .i64 k ∧ Below w.heap.size w wr) (fun i _ => l.length - (intOf i).toNat)
  case atStart => exact ⟨0, by omega, rfl, Below.refl _ _⟩
  case round =>
    obtain ⟨k, hk, rfl, HD⟩ := hrel
    by_cases hlt : k < l.length
    · obtain ⟨b1, o1, B1, m1, c1, rfl, _, hc0, hc1, hw1⟩ := rt_at (ha.keep HD) hlt
      obtain ⟨b2, o2, B2, m2, c2, rfl, _, hd0, hd1, hw2⟩ := rt_at (hb.keep HD) hlt
      replace hw1 := hw1.keep (Below.refl wr.heap.size wr).drew
      replace hw2 := hw2.keep (Below.refl wr.heap.size wr).drew
      go_wp2
      go_still_tail 8, (by kernel_rfl)
      change wpList _ _ _ _ _ wr.drew
      have HE : Below w.heap.size w wr.drew := HD.drew
      generalize wr.drew = w2 at *
      go_wp2_with (go_at_call 102; refine (eqRouting_yes _ _ _ _ _ _ _ _ _ hw1 hw2).mono ?_; rintro e w3 ⟨rfl, hb3⟩)
      go_roundw
      case rel => exact ⟨k + 1, by omega, by go_num, HE.trans (hb3.mono HE.size)⟩
      case measure => simp [intOf]; omega
    · obtain rfl : k = l.length := by omega
      go_wp2
      go_ret
      exact ⟨rfl, HD⟩
def okRt (x : Rt) : Prop := x.1.size ≤ 9223372036854775807 ∧ ∀ y ∈ x.2, okSp y
set_option maxRecDepth 100000 in
theorem szRouting_any (x0 : ByteArray) (B : Option Addr) (m c : Nat) (l : List Sp) (left : Int) (w : World) (h0 : 0 ≤ left) (h1 : left ≤ 1048576) (hs0 : x0.size ≤ 9223372036854775807) (hm : m ≤ 9223372036854775807) (hl : m ≤ 1048576 → StepsIn w B m l) (hok : ∀ y ∈ l, okSp y) :
    Calls Try.prog 89 #[.agg #[.string (x0), .slice B m c], .int .i64 left] w fun e w' => ∃ r : Int, e = .returned (.int .i64 r) ∧ -1 ≤ r ∧ r ≤ 1048576 ∧ (0 ≤ r → m ≤ 1048576) ∧ Below w.heap.size w w' := by
  have hbox := below_alloc w (.cells #[.string (x0), .slice B m c] 130)
  by_cases q0 : left < (x0.size : Int)
  · go_enter Try.func89, Try.ntmps89
    go_wp2_with fail
    go_ret
    exact ⟨-1, rfl, by omega, by omega, fun h => absurd h (by omega), hbox⟩
  by_cases hbig : left - (x0.size : Int) < (m : Int)
  · go_enter Try.func89, Try.ntmps89
    go_wp2_with (go_at_call 140; refine (szStepS_big _ _ _ _ _ hbig (by omega) hm).mono ?_; rintro e w5 ⟨rfl, rfl⟩)
    go_ret
    exact ⟨-1, rfl, by omega, by omega, fun h => absurd h (by omega), hbox⟩
  have hsm : (m : Int) ≤ left - (x0.size : Int) := by omega
  have hms : m ≤ 1048576 := by omega
  clear hbig
  go_enter Try.func89, Try.ntmps89
  go_wp2_with fail
  refine (szStepS_any _ _ _ l _ _ hsm (by omega) ((hl hms).keep hbox) hok).mono ?_
  rintro e w5 ⟨r, rfl, r0, r1, hs⟩
  by_cases hneg : r < 0
  · go_wp2_with fail
    go_ret
    exact ⟨-1, rfl, by omega, by omega, fun h => absurd h (by omega), below_on hbox hs⟩
  · go_wp2_with fail
    go_ret
    exact ⟨r, rfl, by omega, by omega, fun _ => hms, below_on hbox hs⟩
theorem szRoutingS_big (A : Option Addr) (n c : Nat) (left : Int) (w : World) (h : left < (n : Int)) (h0 : 0 ≤ left) (hn : n ≤ 9223372036854775807) :
    Calls Try.prog 29 #[.slice A n c, .int .i64 left] w fun e w' => e = .returned (.int .i64 (-1)) ∧ w = w' := by
  go_enter Try.func29, Try.ntmps29
  go_wp2
  go_ret
  exact ⟨rfl, rfl⟩
set_option maxRecDepth 100000 in
set_option maxHeartbeats 2000000 in
theorem szRoutingS_any (A : Option Addr) (n c : Nat) (l : List Rt) (left : Int) (w w0 : World) (h : (n : Int) ≤ left) (hl : left ≤ 1048576) (ha : RoutingPre w0 A n l) (hbw : Below w0.heap.size w0 w) (hok : ∀ x ∈ l, okRt x) :
    Calls Try.prog 29 #[.slice A n c, .int .i64 left] w fun e w' => ∃ r : Int, e = .returned (.int .i64 r) ∧ -1 ≤ r ∧ r ≤ 1048576 ∧ (0 ≤ r → RoutingsIn w0 A n l) ∧ Below w.heap.size w w' := by
  obtain ⟨R, hR, hO⟩ := ha
  have hn := hR.len
  have hl0 := hO.1
  obtain rfl := hR.1
  have HO := Lib.hid hok
  have HP := Lib.hid hO
  have HL := Lib.hid hl0
  clear hok hO hl0
  go_enter Try.func29, Try.ntmps29
  go_wp2
  go_loopw [1, 5] (fun r i wr => ∃ (k : Nat) (x : Int), k ≤ R.length ∧ i = .int .i64 k ∧ r = .int .i64 x ∧ 0 ≤ x ∧ x ≤ 1048576 ∧ Hid (∀ j (hj : j < R.length), j < k → R[j].2.2.1 ≤ 1048576) ∧ Below w.heap.size w wr) (fun _ i _ => R.length - (intOf i).toNat)
  case atStart => exact ⟨0, _, by omega, rfl, rfl, by omega, by omega, fun j _ h => absurd h (by omega), Below.refl _ _⟩
  case round =>
    obtain ⟨k, x, hk, rfl, rfl, x0, x1, HI, HR⟩ := hrel
    by_cases hlt : k < R.length
    · have hlt2 : k < l.length := by rw [← HL.out]; exact hlt
      obtain ⟨b, o, rfl, _, hc⟩ := ((hR.keep hbw).keep HR).at_ hlt
      have hj := HP.out.2 k hlt hlt2
      simp only [RtOf] at hj
      obtain ⟨je0, hm, hw⟩ := hj
      have hok := HO.out _ (List.getElem_mem hlt2)
      simp only [okRt] at hok
      have hc0 : wr.cell? ⟨b, o + k * 2, none⟩ = some (.string (R[k].1)) := hc 0 _ rfl
      have hc1 : wr.cell? ⟨b, o + k * 2 + 1, none⟩ = some (.slice R[k].2.1 R[k].2.2.1 R[k].2.2.2) := hc 1 _ rfl
      have HW := Lib.hid hw
      have HOK := Lib.hid hok
      clear hc hw hok 
      go_wp2_with fail
      refine (szRouting_any _ _ _ _ l[k].2 _ _ x0 x1 (by first | exact HOK.out.1 | (rw [je0]; exact HOK.out.1)) hm (fun h => ((HW.out h).keep hbw).keep HR) HOK.out.2).mono ?_
      rintro e v ⟨r, rfl, r0, r1, rm, hb⟩
      by_cases hneg : r < 0
      · go_wp2_with fail
        go_ret
        exact ⟨-1, rfl, by omega, by omega, fun h => absurd h (by omega), below_on HR hb⟩
      · have hm2 := rm (by omega)
        have HI2 : Hid (∀ j (hj : j < R.length), j < k + 1 → R[j].2.2.1 ≤ 1048576) := fun j hj h => by
          rcases Nat.lt_or_ge j k with h1 | h1
          · exact HI.out j hj h1
          · obtain rfl : j = k := by omega
            exact hm2
        go_wp2_with fail
        go_roundw
        case rel => exact ⟨k + 1, _, by omega, by go_num, rfl, by omega, by omega, HI2, below_on HR hb⟩
        case measure => simp [intOf]; omega
    · obtain rfl : k = R.length := by omega
      go_wp2
      go_ret
      exact ⟨x, rfl, by omega, by omega, fun _ => ⟨R, hR, HP.out.1, fun j h1 h2 => by
        have h3 := HP.out.2 j h1 h2
        simp only [RtOf] at h3 ⊢
        exact ⟨h3.1, h3.2.2 (HI.out j h1 h1)⟩⟩, HR⟩
end Go.Proofs.Ytlnkofnfgemfdaa
