/- Part 21 of the texts of this claim: How the law on loads draws its inputs; The bytes a law is drawn from. -/
import Derived.Test.YtlnkofnfgemfdaaLd20
import Derived.Test.YtlnkofnfgemfdaaLd17
/- How the law on loads draws its inputs. -/
namespace Go.Proofs.Ytlnkofnfgemfdaa
open Go.RowKit
/-- Rows of steps of the call's own. -/
abbrev StepsOwn (w : World) (lo : Nat) (R : List RtR) (l : List Rt) : Prop := RoutingOfs (fun A n x => ∃ c, OwnRows spF 136 w lo A n c x ∧ x.length ≤ 7) R l
theorem StepsOwn.only {w w' : World} {lo a b : Nat} {R : List RtR} {l : List Rt} (h : StepsOwn w lo R l) (ho : Only a b w w') (hb : b ≤ lo) : StepsOwn w' lo R l := h.imp fun _ _ _ ⟨c, h1, h2⟩ => ⟨c, h1.only ho hb, h2⟩
theorem StepsOwn.keep {w w' : World} {lo : Nat} {R : List RtR} {l : List Rt} (h : StepsOwn w lo R l) (hb : Below w.heap.size w w') : StepsOwn w' lo R l := h.imp fun _ _ _ ⟨c, h1, h2⟩ => ⟨c, h1.keep hb, h2⟩
theorem StepsOwn.grow {w w' : World} {lo lo' : Nat} {v : Value} {Q : List RtR} {R : List RtR} {l : List Rt} (hv : RowVal rtF 89 w lo' v Q) (h : StepsOwn w lo R l) (hb : ∀ k, k < w.heap.size → v.ownBlock ≠ some k → w'.heap[k]? = w.heap[k]?) : StepsOwn w' lo R l := h.imp fun _ _ _ ⟨c, h1, h2⟩ => ⟨c, h1.grow (by decide) hv hb, h2⟩
/-- The ending of a call that draws routings. -/
def DrawnRoutings (w : World) (base g : Nat) (e : Ending) (w' : World) : Prop := ∃ (l : List Rt) (R : List RtR) (v : Value), e = .returned v ∧ l.length ≤ 6 ∧ (∀ x ∈ l, okRt x) ∧ RowVal rtF 89 w' w.heap.size v R ∧ StepsOwn w' w.heap.size R l ∧ CurAt w' base g ∧ Only g (g + 1) w w'
set_option maxRecDepth 100000 in
set_option maxHeartbeats 4000000 in
theorem l12Routings_any (w : World) (base g : Nat) (hc : CurAt w base g) : Calls Try.prog 106 #[.pointer (some ⟨g, 0, none⟩)] w (DrawnRoutings w base g) := by
  have hg := hc.lt
  have hs := below_alloc w (.cells #[] 89)
  have hr0 : RowVal rtF 89 (w.alloc (.cells #[] 89)) w.heap.size (.slice (some ⟨w.heap.size, 0, none⟩) 0 0) [] := empty_row rfl (Nat.le_refl _)
  have hc0 := hc.keep hs hg
  have HO0 : Only g (g + 1) w (w.alloc (.cells #[] 89)) := Only.of_below hs
  have hO0 : StepsOwn (w.alloc (.cells #[] 89)) w.heap.size [] [] := ⟨rfl, fun k h1 => by simp at h1⟩
  go_enter Try.func106, Try.ntmps106
  go_wp2_with fail
  generalize w.alloc (.cells #[] 89) = w0 at *
  clear hs hc
  go_loopw [3, 4] (fun v t wr => ∃ (k : Nat) (l : List Rt) (R : List RtR), t = .int .i64 k ∧ k ≤ 6 ∧ l.length ≤ k ∧ Hid (∀ x ∈ l, okRt x) ∧ RowVal rtF 89 wr w.heap.size v R ∧ StepsOwn wr w.heap.size R l ∧ CurAt wr base g ∧ Only g (g + 1) w wr) (fun _ t _ => 6 - (intOf t).toNat)
  case atStart => exact ⟨0, [], [], rfl, by omega, by simp, Lib.hid (by simp), hr0, hO0, hc0, HO0⟩
  case round =>
    clear hr0 hO0 hc0 HO0
    obtain ⟨k, l, R, rfl, hk, hlk, HOK, hrow, hst, hcur, HO⟩ := hrel
    by_cases hlt : k < 6
    case neg =>
      obtain rfl : k = 6 := by omega
      go_wp2_with fail
      go_ret
      exact ⟨l, R, _, rfl, hlk, HOK.out, hrow, hst, hcur, HO⟩
    have hk5 : (k : Int) < 6 := by omega
    go_wp2_with fail
    refine (l1Once_any _ _ _ _ (by omega) hcur).mono ?_
    rintro e w1 ⟨b, rfl, hc1, HO1⟩
    have hr1 := hrow.only HO1 (by omega)
    have ho1 := hst.only HO1 (by omega)
    have H1 := HO.trans HO1
    have hg1 := hc1.lt
    have hz1 := H1.size
    clear hrow hst hcur HO HO1
    cases b
    case true =>
      go_wp2_with fail
      go_roundw
      case rel => exact ⟨k + 1, l, R, by go_num, by omega, by omega, HOK, hr1, ho1, hc1, H1⟩
      case measure => simp [intOf]; omega
    have hlit : RowsIn strF (w1.alloc (.cells #[.string ⟨#[65]⟩, .string ⟨#[66]⟩, .string ⟨#[67]⟩, .string ⟨#[68]⟩, .string ⟨#[69]⟩, .string ⟨#[70]⟩] 9)) (some ⟨w1.heap.size, 0, none⟩) 6 ([⟨#[65]⟩, ⟨#[66]⟩, ⟨#[67]⟩, ⟨#[68]⟩, ⟨#[69]⟩, ⟨#[70]⟩] : List ByteArray) := lit_strs (t := 9) rfl #[.string ⟨#[65]⟩, .string ⟨#[66]⟩, .string ⟨#[67]⟩, .string ⟨#[68]⟩, .string ⟨#[69]⟩, .string ⟨#[70]⟩] ([⟨#[65]⟩, ⟨#[66]⟩, ⟨#[67]⟩, ⟨#[68]⟩, ⟨#[69]⟩, ⟨#[70]⟩] : List ByteArray) 6 rfl rfl (by simp)
    obtain ⟨s, hsz, x0⟩ : ∃ s : ByteArray, s.size ≤ 9223372036854775807 ∧ (w1.alloc (.cells #[.string ⟨#[65]⟩, .string ⟨#[66]⟩, .string ⟨#[67]⟩, .string ⟨#[68]⟩, .string ⟨#[69]⟩, .string ⟨#[70]⟩] 9)).cell? ⟨w1.heap.size, k, none⟩ = some (.string s) := by
      have hk6 : k < ([⟨#[65]⟩, ⟨#[66]⟩, ⟨#[67]⟩, ⟨#[68]⟩, ⟨#[69]⟩, ⟨#[70]⟩] : List ByteArray).length := by simpa using hlt
      obtain ⟨b, o, e, _, hcell⟩ := hlit.at_ hk6
      injection e with e
      injection e with e1 e2
      subst e1 e2
      refine ⟨([⟨#[65]⟩, ⟨#[66]⟩, ⟨#[67]⟩, ⟨#[68]⟩, ⟨#[69]⟩, ⟨#[70]⟩] : List ByteArray)[k], size_mem (L := ([⟨#[65]⟩, ⟨#[66]⟩, ⟨#[67]⟩, ⟨#[68]⟩, ⟨#[69]⟩, ⟨#[70]⟩] : List ByteArray)) (by decide) (List.getElem_mem _), ?_⟩
      have := hcell 0 _ rfl
      simpa [strF] using this
    clear hlit
    have hs2 := below_alloc w1 (.cells #[.string ⟨#[65]⟩, .string ⟨#[66]⟩, .string ⟨#[67]⟩, .string ⟨#[68]⟩, .string ⟨#[69]⟩, .string ⟨#[70]⟩] 9)
    have hr2 := hr1.keep hs2
    have ho2 := ho1.keep hs2
    have hc2 := hc1.keep hs2 hg1
    have H2 := H1.trans (Only.of_below (lo := g) (hi := g + 1) hs2)
    clear hr1 ho1 hc1 H1 hs2
    go_wp2_with fail
    generalize (w1.alloc (.cells #[.string ⟨#[65]⟩, .string ⟨#[66]⟩, .string ⟨#[67]⟩, .string ⟨#[68]⟩, .string ⟨#[69]⟩, .string ⟨#[70]⟩] 9)) = w2 at *
    generalize w1.heap.size = M at *
    clear x0
    refine (l12Routing_any s _ _ _ hc2).mono ?_
    rintro e w3 ⟨x, A, cc, rfl, hx7, hxo, hox, hc3, HO3⟩
    have hr3 := hr2.only HO3 (by omega)
    have ho3 := ho2.only HO3 (by omega)
    have H3 := H2.trans HO3
    have hz2 := H2.size
    have hox3 := hox.lower (lo' := w.heap.size) hz2
    have hz3 := H3.size
    have hRl := ho3.1
    clear hr2 ho2 H2 HO3 hc2 hox
    have HXO := Lib.hid hxo
    clear hxo
    go_wp2_with (at_builtin; refine wpList_append_blk routElem rfl _ _ rfl rfl hr3 (by omega) (s, (A, x.length, cc)) #[.string s, .slice A x.length cc] rfl (rtOne (s, (A, x.length, cc))) w3.heap.size _ rfl rfl (by omega) ?_; intro v9 w9 hr9 hb9 hs9 hk9)
    have hB := hb9 w.heap.size (Nat.le_refl _) hz3
    have ho9 := (ho3.grow hr3 hk9).snoc (r := (s, (A, x.length, cc))) (j := (s, x)) ⟨rfl, cc, hox3.grow (by decide) hr3 hk9, hx7⟩
    have hok9 : Hid (∀ z ∈ l ++ [(s, x)], okRt z) := fun z hz => by
      rcases List.mem_append.1 hz with hz | hz
      · exact HOK.out z hz
      · rw [List.mem_singleton.1 hz]; exact ⟨hsz, HXO.out⟩
    go_roundw
    case rel => exact ⟨k + 1, l ++ [(s, x)], _, by go_num, by omega, by simp; omega, hok9, hr9, ho9, hc3.keep hB hg, only_below H3 hB⟩
    case measure => simp [intOf]; omega
theorem plOne : ∀ (a : Pl), ∀ u ∈ plF.enc a, u.oneCell' = true := by
  intro a u hu
  simp [plF] at hu
  rcases hu with rfl | rfl | rfl | rfl | rfl <;> rfl
/-- The ending of a call that draws planned orders. -/
def DrawnPlanned (w : World) (base g : Nat) (e : Ending) (w' : World) : Prop := ∃ (l : List Pl) (v : Value), e = .returned v ∧ l.length ≤ 6 ∧ RowVal plF 44 w' w.heap.size v l ∧ CurAt w' base g ∧ Only g (g + 1) w w'
set_option maxRecDepth 100000 in
set_option maxHeartbeats 4000000 in
theorem l21Planned_any (w : World) (base g : Nat) (hc : CurAt w base g) : Calls Try.prog 107 #[.pointer (some ⟨g, 0, none⟩)] w (DrawnPlanned w base g) := by
  have hg := hc.lt
  have hs := below_alloc w (.cells #[] 44)
  have hr0 : RowVal plF 44 (w.alloc (.cells #[] 44)) w.heap.size (.slice (some ⟨w.heap.size, 0, none⟩) 0 0) [] := empty_row rfl (Nat.le_refl _)
  have hc0 := hc.keep hs hg
  have HO0 : Only g (g + 1) w (w.alloc (.cells #[] 44)) := Only.of_below hs
  go_enter Try.func107, Try.ntmps107
  go_wp2_with fail
  generalize w.alloc (.cells #[] 44) = w0 at *
  clear hs hc
  refine (l1Below_any _ _ _ _ (by omega) hc0).mono ?_
  rintro e w1 ⟨n, rfl, ⟨n0, n1⟩, hc1, HO1⟩
  obtain ⟨n, rfl⟩ : ∃ k : Nat, n = (k : Int) := ⟨_, (Int.toNat_of_nonneg n0).symm⟩
  have hr1 := hr0.only HO1 (by omega)
  have H1 := HO0.trans HO1
  clear hr0 hc0 HO0 HO1
  go_wp2_with fail
  go_loopw [3, 4] (fun v t wr => ∃ (k : Nat) (l : List Pl), t = .int .i64 k ∧ k ≤ 5 ∧ l.length + k ≤ 5 ∧ RowVal plF 44 wr w.heap.size v l ∧ CurAt wr base g ∧ Only g (g + 1) w wr) (fun _ t _ => (intOf t).toNat)
  case atStart => exact ⟨n, [], rfl, by omega, by simp; omega, hr1, hc1, H1⟩
  case round =>
    clear hr1 hc1 H1
    obtain ⟨k, l, rfl, hk, hlk, hrow, hcur, HO⟩ := hrel
    by_cases hpos : 0 < (k : Int)
    case pos =>
      go_wp2_with fail
      refine (l1Below_any _ _ _ _ (by omega) hcur).mono ?_
      rintro e w2 ⟨day, rfl, ⟨y0, y1⟩, hc2, HO2⟩
      have hr2 := hrow.only HO2 (by omega)
      have H2 := HO.trans HO2
      have hg2 := hc2.lt
      clear hrow HO HO2 hcur
      go_wp2_with fail
      refine (l1Pick_any _ 4 _ [⟨#[65]⟩, ⟨#[66]⟩, ⟨#[67]⟩, ⟨#[68]⟩] _ base g (lit_strs (t := 9) rfl #[.string ⟨#[65]⟩, .string ⟨#[66]⟩, .string ⟨#[67]⟩, .string ⟨#[68]⟩] [⟨#[65]⟩, ⟨#[66]⟩, ⟨#[67]⟩, ⟨#[68]⟩] 4 rfl rfl (by simp)) (by omega) (fun a ha => by have := Option.some.inj ha; rw [← this]; show w2.heap.size ≠ g; omega) (hc2.keep (below_alloc _ _) hg2)).mono ?_
      rintro e w3 ⟨s, rfl, _, hc3, HO3⟩
      have hr3 := (hr2.alloc (.cells #[.string ⟨#[65]⟩, .string ⟨#[66]⟩, .string ⟨#[67]⟩, .string ⟨#[68]⟩] 9)).only HO3 (by omega)
      have H3 := (H2.trans (Only.of_below (below_alloc w2 (.cells #[.string ⟨#[65]⟩, .string ⟨#[66]⟩, .string ⟨#[67]⟩, .string ⟨#[68]⟩] 9)))).trans HO3
      clear hr2 H2 HO3 hc2
      go_wp2_with fail
      refine (l1Below_any _ _ _ _ (by omega) hc3).mono ?_
      rintro e w4 ⟨q, rfl, ⟨q0, q1⟩, hc4, HO4⟩
      have hr4 := hr3.only HO4 (by omega)
      have H4 := H3.trans HO4
      clear hr3 H3 HO4 hc3
      go_wp2_with fail
      refine (l1Below_any _ _ _ _ (by omega) hc4).mono ?_
      rintro e w5 ⟨u, rfl, ⟨u0, u1⟩, hc5, HO5⟩
      have hr5 := hr4.only HO5 (by omega)
      have H5 := H4.trans HO5
      have hz5 := H5.size
      clear hr4 H4 HO5 hc4
      go_wp2_with (at_builtin; refine wpList_append_one plannedElem rfl _ _ rfl rfl (l := l) hr5 (by omega) (s, 1 + q, day, day + u, false) #[.string s, .int .i64 (1 + q), .int .i64 day, .int .i64 (day + u), .bool false] rfl (plOne (s, 1 + q, day, day + u, false)) w5.heap.size _ rfl rfl hz5 ?_; intro v' w6 hrow6 hbl hgr)
      have hB := hbl w.heap.size (Nat.le_refl _) hz5
      go_roundw
      case rel => exact ⟨k - 1, l ++ [(s, 1 + q, day, day + u, false)], by go_num, by omega, by simp; omega, hrow6, hc5.keep hB hg, only_below H5 hB⟩
      case measure => simp [intOf]; omega
    obtain rfl : k = 0 := by omega
    go_wp2_with fail
    refine (l1Once_any _ _ _ _ (by omega) hcur).mono ?_
    rintro e w2 ⟨b, rfl, hc2, HO2⟩
    have hr2 := hrow.only HO2 (by omega)
    have H2 := HO.trans HO2
    clear hrow HO HO2 hcur
    cases b
    · go_wp2_with fail
      go_ret
      exact ⟨l, _, rfl, by omega, hr2, hc2, H2⟩
    · go_wp2_with fail
      refine (l1Odd_any _ _ _ hc2).mono ?_
      rintro e w3 ⟨q, rfl, _, hc3, HO3⟩
      have hr3 := hr2.only HO3 (by omega)
      have H3 := H2.trans HO3
      clear hr2 H2 HO3 hc2
      go_wp2_with fail
      refine (l4Day_any _ _ _ hc3).mono ?_
      rintro e w4 ⟨day, rfl, _, hc4, HO4⟩
      have hr4 := hr3.only HO4 (by omega)
      have H4 := H3.trans HO4
      have hz4 := H4.size
      clear hr3 H3 HO4 hc3
      go_wp2_with (at_builtin; refine wpList_append_one plannedElem rfl _ _ rfl rfl (l := l) hr4 (by omega) (⟨#[65]⟩, q, day, 0, false) #[.string ⟨#[65]⟩, .int .i64 q, .int .i64 day, .int .i64 0, .bool false] rfl (plOne (⟨#[65]⟩, q, day, 0, false)) w4.heap.size _ rfl rfl hz4 ?_; intro v' w6 hrow6 hbl hgr)
      have hB := hbl w.heap.size (Nat.le_refl _) hz4
      go_ret
      exact ⟨l ++ [(⟨#[65]⟩, q, day, 0, false)], v', rfl, by simp; omega, hrow6, hc4.keep hB hg, only_below H4 hB⟩
/-- The ending of the call that draws the law's inputs. -/
def DrawnLoadsOf (w : World) (e : Ending) (w' : World) : Prop := ∃ (r : List Rt) (l : List Pl) (A B : Option Addr) (n c m d : Nat), e = .returned (.tuple #[.slice A n c, .slice B m d]) ∧ r.length ≤ 6 ∧ (∀ x ∈ r, okRt x) ∧ l.length ≤ 6 ∧ RoutingsIn w' A n r ∧ PlannedsIn w' B m l ∧ Below w.heap.size w w'
set_option maxRecDepth 100000 in
set_option maxHeartbeats 2000000 in
theorem DrawLoadsOf_any (A : Option Addr) (n c : Nat) (w : World) (hb : BytesAt w w.heap.size A n) : Calls Try.prog 42 #[.slice A n c] w (DrawnLoadsOf w) := by
  go_enter Try.func42, Try.ntmps42
  go_wp2_with fail
  refine (l1New_any _ _ _ _ hb).mono ?_
  rintro e w1 ⟨g, rfl, hg, hc1, hb1⟩
  clear hb
  go_wp2_with fail
  refine (l12Routings_any _ _ _ hc1).mono ?_
  rintro e w2 ⟨r, R, v, rfl, hr6, hok, hrow, hst, hc2, HO2⟩
  have HOK := Lib.hid hok
  have hg1 := hc1.lt
  have hz1 := hb1.size
  have hz2 := HO2.size
  clear hok hc1
  go_wp2_with fail
  refine (l21Planned_any _ _ _ hc2).mono ?_
  rintro e w3 ⟨l, v2, rfl, hl6, hrow2, hc3, HO3⟩
  have hr3 := hrow.only HO3 (by omega)
  have hs3 := hst.only HO3 (by omega)
  have hB : Below w.heap.size w w3 := below_only (below_only hb1 HO2 hg hb1.size) HO3 hg (by omega)
  have HRL := Lib.hid hs3.1
  obtain ⟨A2, c2, rfl, ho⟩ := hr3.form
  obtain ⟨B2, d2, rfl, hp⟩ := hrow2.form
  go_wp2_with fail
  go_ret2
  exact ⟨r, l, A2, B2, R.length, c2, l.length, d2, rfl, hr6, HOK.out, hl6, ⟨R, ho.rows (by rw [HRL.out]; omega), hs3.imp (fun _ _ _ ⟨c, h1, h2⟩ => h1.rows (by omega))⟩, hp.rows (by omega), hB⟩
end Go.Proofs.Ytlnkofnfgemfdaa
/- The bytes a law is drawn from. -/
namespace Go.Proofs.Ytlnkofnfgemfdaa
open Go.RowKit
def byteF : Flat Int := ⟨fun x => [.int .u8 x], 1, fun _ => rfl⟩
def okByte (x : Int) : Prop := 0 ≤ x ∧ x ≤ 255
theorem bytesAt_of {w : World} {A : Option Addr} {n : Nat} {l : List Int} (h : RowsIn byteF w A n l) (hok : ∀ x ∈ l, okByte x) : BytesAt w w.heap.size A n := by
  have hn := h.1
  refine ⟨by have := h.len; omega, fun k hk => ?_⟩
  obtain ⟨b, o, e, hlt, hc⟩ := h.at_ (k := k) (by omega)
  have hx := hok _ (List.getElem_mem (show k < l.length by omega))
  refine ⟨b, o, l[k]'(by omega), e, hlt, hx.1, hx.2, ?_⟩
  have := hc 0 (.int .u8 (l[k]'(by omega))) rfl
  rw [show o + k * byteF.sz + 0 = o + k by simp [byteF]] at this
  exact this
theorem big_yes (A : Option Addr) (n c : Nat) (w : World) (h : 1048576 < n) (hn : n ≤ 9223372036854775807) : Calls Try.prog 8 #[.slice A n c] w fun e w' => e = .returned (.bool true) ∧ w = w' := by
  go_enter Try.func8, Try.ntmps8
  go_wp2
  go_ret
  exact ⟨ret_bool (decide_eq_true (by omega)), rfl⟩
theorem big_no (A : Option Addr) (n c : Nat) (w : World) (h : ¬ 1048576 < n) : Calls Try.prog 8 #[.slice A n c] w fun e w' => e = .returned (.bool false) ∧ w = w' := by
  have h2 : (n : Int) ≤ 1048576 := by omega
  go_enter Try.func8, Try.ntmps8
  go_wp2
  go_ret
  exact ⟨ret_bool (decide_eq_false (by omega)), rfl⟩
end Go.Proofs.Ytlnkofnfgemfdaa
