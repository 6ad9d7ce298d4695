/- Part 17 of the texts of this claim: The cursor that draws a law's inputs from bytes: what its functions leave of memory; More on the cursor that draws a law's inputs: how it is made, odd numbers. -/
import Derived.Test.YtlnkofnfgemfdaaLd4
import Derived.Test.YtlnkofnfgemfdaaLd1
import Derived.Laws.BitsLemmas
import Derived.StillTailTactics
/- The cursor that draws a law's inputs from bytes: what its functions leave of memory. -/
namespace Go.Proofs.Ytlnkofnfgemfdaa
open Go.RowKit
theorem i64_and255 (n : Int) : bits .and .i64 n 255 = n % 256 := by
  have h127 : (BitVec.ofInt 64 255).toNat = 2 ^ 8 - 1 := by decide
  have key : (BitVec.ofInt 64 n &&& BitVec.ofInt 64 255).toNat = (n % ((2 ^ 64 : Nat) : Int)).toNat % 2 ^ 8 := by
    rw [BitVec.toNat_and, BitVec.toNat_ofInt, h127, Nat.and_two_pow_sub_one_eq_mod]
  show IntKind.i64.wrap ((BitVec.ofInt 64 n &&& BitVec.ofInt 64 255).toNat : Nat) = n % 256
  rw [key, IntKind.wrap_i64]
  omega
theorem i64_and30 (n : Int) : bits .and .i64 n 1073741823 = n % 1073741824 := by
  have h127 : (BitVec.ofInt 64 1073741823).toNat = 2 ^ 30 - 1 := by decide
  have key : (BitVec.ofInt 64 n &&& BitVec.ofInt 64 1073741823).toNat = (n % ((2 ^ 64 : Nat) : Int)).toNat % 2 ^ 30 := by
    rw [BitVec.toNat_and, BitVec.toNat_ofInt, h127, Nat.and_two_pow_sub_one_eq_mod]
  show IntKind.i64.wrap ((BitVec.ofInt 64 n &&& BitVec.ofInt 64 1073741823).toNat : Nat) = n % 1073741824
  rw [key, IntKind.wrap_i64]
  omega
/-- Bytes that came in: their cells, in blocks below 'base'. -/
def BytesAt (w : World) (base : Nat) (A : Option Addr) (n : Nat) : Prop :=
  n ≤ 16777216 ∧ ∀ k, k < n → ∃ (b o : Nat) (x : Int), A = some ⟨b, o, none⟩ ∧ b < base ∧ 0 ≤ x ∧ x ≤ 255 ∧ w.cell? ⟨b, o + k, none⟩ = some (.int .u8 x)
theorem BytesAt.keep {w w' : World} {base B : Nat} {A : Option Addr} {n : Nat} (h : BytesAt w base A n) (hb : Below B w w') (hB : base ≤ B) : BytesAt w' base A n :=
  ⟨h.1, fun k hk => by
    obtain ⟨b, o, x, e, hlt, h0, h1, hc⟩ := h.2 k hk
    exact ⟨b, o, x, e, hlt, h0, h1, (hb.cell (p := ⟨b, o + k, none⟩) (by show b < B; omega)).trans hc⟩⟩
/-- A cursor in block g, over bytes in blocks below 'base'. -/
def CurAt (w : World) (base g : Nat) : Prop :=
  ∃ (A : Option Addr) (n c i : Nat) (h : Int), i ≤ n ∧ base ≤ g ∧ g < w.heap.size ∧ w.cell? ⟨g, 0, none⟩ = some (.slice A n c) ∧ w.cell? ⟨g, 1, none⟩ = some (.int .i64 i) ∧ w.cell? ⟨g, 2, none⟩ = some (.int .i64 h) ∧
    w.frozen? ⟨g, 1, none⟩ = false ∧ w.frozen? ⟨g, 2, none⟩ = false ∧ BytesAt w base A n
theorem CurAt.keep {w w' : World} {base g B : Nat} (h : CurAt w base g) (hb : Below B w w') (hB : g < B) : CurAt w' base g := by
  obtain ⟨A, n, c, i, hv, h1, h2, h3, c0, c1, c2, f1, f2, hby⟩ := h
  refine ⟨A, n, c, i, hv, h1, h2, Nat.lt_of_lt_of_le h3 hb.size, ?_, ?_, ?_, ?_, ?_, hby.keep hb (by omega)⟩
  · exact (hb.cell (p := ⟨g, 0, none⟩) hB).trans c0
  · exact (hb.cell (p := ⟨g, 1, none⟩) hB).trans c1
  · exact (hb.cell (p := ⟨g, 2, none⟩) hB).trans c2
  · exact (hb.frozen (p := ⟨g, 1, none⟩) hB).trans f1
  · exact (hb.frozen (p := ⟨g, 2, none⟩) hB).trans f2
theorem only_set {w : World} {g o : Nat} {v : Value} : Only g (g + 1) w (w.setCell ⟨g, o, none⟩ v) :=
  ⟨rfl, rfl, rfl, by simp, fun k _ hn => heap_setCell_other w ⟨g, o, none⟩ k v (fun e => hn (by simp at e; omega))⟩
theorem only_drewN {lo hi : Nat} {w w' : World} (h : Only lo hi w w') (n : Nat) : Only lo hi w (w'.drewN n) := ⟨h.os, h.tape, h.output, h.size, h.block⟩
theorem curAt_drewN {w : World} {base g : Nat} (h : CurAt w base g) (n : Nat) : CurAt (w.drewN n) base g := h
theorem curAt_i {w : World} {base g A n c i h} (h1 : i ≤ n) (h2 : base ≤ g) (h3 : g < w.heap.size) (c0 : w.cell? ⟨g, 0, none⟩ = some (.slice A n c)) (c1 : w.cell? ⟨g, 1, none⟩ = some (.int .i64 (i : Nat))) (c2 : w.cell? ⟨g, 2, none⟩ = some (.int .i64 h))
    (f1 : w.frozen? ⟨g, 1, none⟩ = false) (f2 : w.frozen? ⟨g, 2, none⟩ = false) (hb : BytesAt w base A n) : CurAt w base g := ⟨A, n, c, i, h, h1, h2, h3, c0, c1, c2, f1, f2, hb⟩
/-- What a store to a cursor's number keeps. -/
theorem cur_set2 {w : World} {base g : Nat} {A : Option Addr} {n : Nat} {i : Nat} {h v : Int} {c : Nat} (h2 : base ≤ g) (c0 : w.cell? ⟨g, 0, none⟩ = some (.slice A n c)) (c1 : w.cell? ⟨g, 1, none⟩ = some (.int .i64 i)) (c2 : w.cell? ⟨g, 2, none⟩ = some (.int .i64 h))
    (f1 : w.frozen? ⟨g, 1, none⟩ = false) (f2 : w.frozen? ⟨g, 2, none⟩ = false) (hb : BytesAt w base A n) :
    (w.setCell ⟨g, 2, none⟩ (.int .i64 v)).cell? ⟨g, 0, none⟩ = some (.slice A n c) ∧ (w.setCell ⟨g, 2, none⟩ (.int .i64 v)).cell? ⟨g, 1, none⟩ = some (.int .i64 i) ∧ (w.setCell ⟨g, 2, none⟩ (.int .i64 v)).cell? ⟨g, 2, none⟩ = some (.int .i64 v) ∧
    (w.setCell ⟨g, 2, none⟩ (.int .i64 v)).frozen? ⟨g, 1, none⟩ = false ∧ (w.setCell ⟨g, 2, none⟩ (.int .i64 v)).frozen? ⟨g, 2, none⟩ = false ∧ BytesAt (w.setCell ⟨g, 2, none⟩ (.int .i64 v)) base A n := by
  refine ⟨?_, ?_, World.cell?_setCell_same _ _ _ c2, by simp [f1], by simp [f2], hb.1, fun k hk => ?_⟩
  · rw [World.cell?_setCell_other _ _ _ _ (by simp)]; exact c0
  · rw [World.cell?_setCell_other _ _ _ _ (by simp)]; exact c1
  · obtain ⟨b, o, x, e, hlt, h0, h1, hc⟩ := hb.2 k hk
    exact ⟨b, o, x, e, hlt, h0, h1, (cell_far (by omega)).trans hc⟩
theorem cur_set1 {w : World} {base g : Nat} {A : Option Addr} {n : Nat} {i : Nat} {h v : Int} {c : Nat} (h2 : base ≤ g) (c0 : w.cell? ⟨g, 0, none⟩ = some (.slice A n c)) (c1 : w.cell? ⟨g, 1, none⟩ = some (.int .i64 i)) (c2 : w.cell? ⟨g, 2, none⟩ = some (.int .i64 h))
    (f1 : w.frozen? ⟨g, 1, none⟩ = false) (f2 : w.frozen? ⟨g, 2, none⟩ = false) (hb : BytesAt w base A n) :
    (w.setCell ⟨g, 1, none⟩ (.int .i64 v)).cell? ⟨g, 0, none⟩ = some (.slice A n c) ∧ (w.setCell ⟨g, 1, none⟩ (.int .i64 v)).cell? ⟨g, 1, none⟩ = some (.int .i64 v) ∧ (w.setCell ⟨g, 1, none⟩ (.int .i64 v)).cell? ⟨g, 2, none⟩ = some (.int .i64 h) ∧
    (w.setCell ⟨g, 1, none⟩ (.int .i64 v)).frozen? ⟨g, 1, none⟩ = false ∧ (w.setCell ⟨g, 1, none⟩ (.int .i64 v)).frozen? ⟨g, 2, none⟩ = false ∧ BytesAt (w.setCell ⟨g, 1, none⟩ (.int .i64 v)) base A n := by
  refine ⟨?_, World.cell?_setCell_same _ _ _ c1, ?_, by simp [f1], by simp [f2], hb.1, fun k hk => ?_⟩
  · rw [World.cell?_setCell_other _ _ _ _ (by simp)]; exact c0
  · rw [World.cell?_setCell_other _ _ _ _ (by simp)]; exact c2
  · obtain ⟨b, o, x, e, hlt, h0, h1, hc⟩ := hb.2 k hk
    exact ⟨b, o, x, e, hlt, h0, h1, (cell_far (by omega)).trans hc⟩
theorem cur_step1 {w : World} {base g : Nat} {A : Option Addr} {n : Nat} {i : Nat} {h : Int} {c : Nat} (h1 : i < n) (h2 : base ≤ g) (h3 : g < w.heap.size) (c0 : w.cell? ⟨g, 0, none⟩ = some (.slice A n c)) (c1 : w.cell? ⟨g, 1, none⟩ = some (.int .i64 i)) (c2 : w.cell? ⟨g, 2, none⟩ = some (.int .i64 h))
    (f1 : w.frozen? ⟨g, 1, none⟩ = false) (f2 : w.frozen? ⟨g, 2, none⟩ = false) (hb : BytesAt w base A n) : CurAt (w.setCell ⟨g, 1, none⟩ (.int .i64 ((i : Int) + 1))) base g := by
  obtain ⟨d0, d1, d2, e1, e2, hb2⟩ := cur_set1 (v := (i : Int) + 1) h2 c0 c1 c2 f1 f2 hb
  exact ⟨A, n, c, i + 1, h, by omega, h2, by simpa using h3, d0, d1, d2, e1, e2, hb2⟩
/-- The ending of a call that draws a number from a cursor: nothing else has turned. -/
def DrawnInt (P : Int → Prop) (w : World) (base g : Nat) (e : Ending) (w' : World) : Prop := ∃ x : Int, e = .returned (.int .i64 x) ∧ P x ∧ CurAt w' base g ∧ Only g (g + 1) w w'
set_option maxRecDepth 100000 in
set_option maxHeartbeats 4000000 in
theorem l1Byte_any (w : World) (base g : Nat) (hc : CurAt w base g) : Calls Try.prog 132 #[.pointer (some ⟨g, 0, none⟩)] w (DrawnInt (fun x => 0 ≤ x ∧ x ≤ 255) w base g) := by
  obtain ⟨A, n, c, i, h, h1, h2, h3, c0, c1, c2, f1, f2, hby⟩ := hc
  have hnn := hby.1
  go_enter Try.func132, Try.ntmps132
  go_wp2
  obtain ⟨d0, d1, d2, e1, e2, hby2⟩ := cur_set2 (v := wrap64 (wrap64 (h * 6364136223846793005) + 1442695040888963407)) h2 c0 c1 c2 f1 f2 hby
  have HO : Only g (g + 1) w (w.setCell ⟨g, 2, none⟩ (.int .i64 (wrap64 (wrap64 (h * 6364136223846793005) + 1442695040888963407)))) := only_set
  have hsz : g < (w.setCell ⟨g, 2, none⟩ (.int .i64 (wrap64 (wrap64 (h * 6364136223846793005) + 1442695040888963407)))).heap.size := by simpa using h3
  clear c0 c1 c2 f1 f2 hby
  generalize wrap64 (wrap64 (h * 6364136223846793005) + 1442695040888963407) = v at *
  generalize hW : w.setCell ⟨g, 2, none⟩ (.int .i64 v) = W1 at *
  clear hW
  have hand : ∀ n, bits .and .i64 n 255 = n % 256 := i64_and255
  by_cases hlt : i < n
  · have hz1 : decide (i < n) = true := by simpa using hlt
    obtain ⟨b, o, x, rfl, hb, x0, x1, hx⟩ := hby2.2 i hlt
    go_quiet (fail)
    go_wp2
    have y0 : 0 ≤ bits BinOp.xor IntKind.i64 (v / 8589934592) (v / 35184372088832) % 256 ∧ bits BinOp.xor IntKind.i64 (v / 8589934592) (v / 35184372088832) % 256 ≤ 255 := by omega
    generalize bits BinOp.xor IntKind.i64 (v / 8589934592) (v / 35184372088832) % 256 = y at *
    obtain ⟨y0, y1⟩ := y0
    have m3 : IntKind.i64.wrap (y + x) = y + x := IntWalk.i64_in _ (by omega)
    go_quiet (fail)
    go_wp2
    go_quiet (fail)
    clear m3
    go_wp2
    go_ret
    exact ⟨_, rfl, by omega, cur_step1 (w := W1.drewN _) hlt h2 hsz d0 d1 d2 e1 e2 hby2, (only_drewN HO _).trans only_set⟩
  · have hz1 : decide (i < n) = false := by simpa using hlt
    go_quiet (fail)
    go_wp2
    have y0 : 0 ≤ bits BinOp.xor IntKind.i64 (v / 8589934592) (v / 35184372088832) % 256 ∧ bits BinOp.xor IntKind.i64 (v / 8589934592) (v / 35184372088832) % 256 ≤ 255 := by omega
    generalize bits BinOp.xor IntKind.i64 (v / 8589934592) (v / 35184372088832) % 256 = y at *
    go_quiet (fail)
    go_wp2
    go_ret
    exact ⟨y, rfl, y0, curAt_drewN (w := W1.drewN _) (curAt_drewN (curAt_i h1 h2 hsz d0 d1 d2 e1 e2 hby2) _) _, only_drewN (only_drewN HO _) _⟩
set_option maxRecDepth 100000 in
set_option maxHeartbeats 4000000 in
theorem l1Below_any (n : Int) (w : World) (base g : Nat) (hn : 1 ≤ n ∧ n ≤ 1000000000) (hc : CurAt w base g) : Calls Try.prog 75 #[.pointer (some ⟨g, 0, none⟩), .int .i64 n] w (DrawnInt (fun x => 0 ≤ x ∧ x ≤ n - 1) w base g) := by
  obtain ⟨n1, n2⟩ := hn
  by_cases h256 : n ≤ 256
  · go_enter Try.func75, Try.ntmps75
    go_wp2_with fail
    refine (l1Byte_any _ _ _ hc).mono ?_
    rintro e w1 ⟨x, rfl, ⟨x0, x1⟩, hc1, HO⟩
    have hm1 := Int.emod_nonneg x (show n ≠ 0 by omega)
    have hm2 := Int.emod_lt_of_pos x (show 0 < n by omega)
    go_wp2_with fail
    go_ret
    exact ⟨_, rfl, by omega, hc1, HO⟩
  · go_enter Try.func75, Try.ntmps75
    go_wp2_with fail
    refine (l1Byte_any _ _ _ hc).mono ?_
    rintro e w1 ⟨x, rfl, ⟨x0, x1⟩, hc1, HO1⟩
    go_wp2_with fail
    refine (l1Byte_any _ _ _ hc1).mono ?_
    rintro e w2 ⟨y, rfl, ⟨y0, y1⟩, hc2, HO2⟩
    go_wp2_with fail
    refine (l1Byte_any _ _ _ hc2).mono ?_
    rintro e w3 ⟨z, rfl, ⟨z0, z1⟩, hc3, HO3⟩
    go_wp2_with fail
    refine (l1Byte_any _ _ _ hc3).mono ?_
    rintro e w4 ⟨u, rfl, ⟨u0, u1⟩, hc4, HO4⟩
    have hm1 := Int.emod_nonneg (x * 16777216 + y * 65536 + z * 256 + u) (show n ≠ 0 by omega)
    have hm2 := Int.emod_lt_of_pos (x * 16777216 + y * 65536 + z * 256 + u) (show 0 < n by omega)
    go_wp2_with fail
    go_ret
    exact ⟨_, rfl, by omega, hc4, ((HO1.trans HO2).trans HO3).trans HO4⟩
def DrawnBool (w : World) (base g : Nat) (e : Ending) (w' : World) : Prop := ∃ x : Bool, e = .returned (.bool x) ∧ CurAt w' base g ∧ Only g (g + 1) w w'
set_option maxRecDepth 100000 in
theorem l1Once_any (n : Int) (w : World) (base g : Nat) (hn : 1 ≤ n ∧ n ≤ 1000000000) (hc : CurAt w base g) : Calls Try.prog 111 #[.pointer (some ⟨g, 0, none⟩), .int .i64 n] w (DrawnBool w base g) := by
  go_enter Try.func111, Try.ntmps111
  go_wp2_with fail
  refine (l1Below_any _ _ _ _ hn hc).mono ?_
  rintro e w1 ⟨x, rfl, _, hc1, HO⟩
  go_wp2_with fail
  go_ret
  exact ⟨_, rfl, hc1, HO⟩
set_option maxRecDepth 100000 in
theorem l1PickInt_any (A : Option Addr) (n c : Nat) (l : List Int) (w : World) (base g : Nat) (hl : IntsIn w A n l) (hn : 1 ≤ n) (hA : ∀ a, A = some a → a.block ≠ g) (hc : CurAt w base g) : Calls Try.prog 113 #[.pointer (some ⟨g, 0, none⟩), .slice A n c] w (DrawnInt (fun x => x ∈ l) w base g) := by
  have hln := hl.len
  obtain rfl := hl.1
  go_enter Try.func113, Try.ntmps113
  go_wp2_with fail
  refine (l1Below_any _ _ _ _ (by omega) hc).mono ?_
  rintro e w1 ⟨x, rfl, ⟨x0, x1⟩, hc1, HO⟩
  obtain ⟨k, rfl⟩ : ∃ k : Nat, x = (k : Int) := ⟨_, (Int.toNat_of_nonneg x0).symm⟩
  have hk : k < l.length := by omega
  obtain ⟨b, o, rfl, hb, hcell⟩ := hl.at_ hk
  have hne := hA _ rfl
  have hcell1 : w1.cell? ⟨b, o + k, none⟩ = some (.int .i64 l[k]) := by rw [World.cell?_of_block (HO.block b hb (by simp at hne; omega))]; exact hcell
  go_wp2_with fail
  go_ret
  exact ⟨_, rfl, List.getElem_mem hk, hc1, HO⟩
end Go.Proofs.Ytlnkofnfgemfdaa
/- More on the cursor that draws a law's inputs: how it is made, odd numbers. -/
namespace Go.Proofs.Ytlnkofnfgemfdaa
open Go.RowKit
theorem CurAt.lt {w : World} {base g : Nat} (h : CurAt w base g) : g < w.heap.size := by obtain ⟨A, n, c, i, h, h1, h2, h3, _⟩ := h; exact h3
theorem lit_ints {w : World} {H : Nat} (hH : w.heap.size = H) (cs : Array Value) (l : List Int) (n : Nat) (hn : n = l.length) (hcs : cs.toList = ints l) (hl : l.length ≤ 16777216) : IntsIn (w.alloc (.cells cs 3)) (some ⟨H, 0, none⟩) n l := by
  refine ⟨hn, by simp; omega, by omega, fun _ => ⟨H, 0, rfl, by simp; omega, fun j u hu => ?_⟩⟩
  have := news_at hH cs 3 j u (by rw [hcs]; exact hu)
  rwa [Addr.add_lit] at this
theorem RowVal.only {α : Type} {F : Flat α} {t : TypeId} {w w' : World} {lo a b : Nat} {v : Value} {l : List α} (h : RowVal F t w lo v l) (ho : Only a b w w') (hb : b ≤ lo) : RowVal F t w' lo v l := by
  refine ⟨h.1, ?_⟩
  rcases h.2 with h0 | ⟨g, cap, cur, hv, hlo, hg, hr⟩
  · exact .inl h0
  · refine .inr ⟨g, cap, cur, hv, hlo, ?_, hr⟩
    have hlt : g < w.heap.size := by
      rcases Nat.lt_or_ge g w.heap.size with h1 | h1
      · exact h1
      · rw [Array.getElem?_eq_none h1] at hg; cases hg
    rw [ho.block g hlt (by omega)]; exact hg
theorem OwnRows.only {α : Type} {F : Flat α} {t : TypeId} {w w' : World} {lo a b n c : Nat} {A : Option Addr} {l : List α} (h : OwnRows F t w lo A n c l) (ho : Only a b w w') (hb : b ≤ lo) : OwnRows F t w' lo A n c l := by
  obtain ⟨rfl, h⟩ := h
  exact ⟨rfl, RowVal.only (v := .slice A l.length c) h ho hb⟩
theorem only_below {lo hi : Nat} {w w1 w2 : World} (h : Only lo hi w w1) (k : Below w.heap.size w1 w2) : Only lo hi w w2 :=
  ⟨k.os.trans h.os, k.tape.trans h.tape, k.output.trans h.output, Nat.le_trans h.size k.size, fun i hi hn => (k.block i hi).trans (h.block i hi hn)⟩
set_option maxRecDepth 100000 in
set_option maxHeartbeats 4000000 in
theorem l1New_any (A : Option Addr) (n c : Nat) (w : World) (hb : BytesAt w w.heap.size A n) : Calls Try.prog 46 #[.slice A n c] w fun e w' => ∃ g, e = .returned (.pointer (some ⟨g, 0, none⟩)) ∧ w.heap.size ≤ g ∧ CurAt w' w.heap.size g ∧ Below w.heap.size w w' := by
  have hn := hb.1
  have HB := Lib.hid hb.2
  have hand : ∀ n, bits .and .i64 n 1073741823 = n % 1073741824 := i64_and30
  have hb0 := hb
  clear hb
  go_enter Try.func46, Try.ntmps46
  go_wp2
  go_loop [3, 4] (fun h i => ∃ (k : Nat) (x : Int), k ≤ n ∧ i = .int .i64 k ∧ h = .int .i64 x ∧ 0 ≤ x ∧ x ≤ 1100000000) (fun _ i => n - (intOf i).toNat)
  case atStart => exact ⟨0, _, by omega, rfl, rfl, by omega, by omega⟩
  case round =>
    obtain ⟨k, x, hk, rfl, rfl, x0, x1⟩ := hrel
    by_cases hlt : k < n
    · by_cases h4 : (k : Int) < 4000
      · obtain ⟨b, o, y, rfl, hbl, y0, y1, hc⟩ := HB.out k hlt
        go_wp2
        go_round
        case rel => exact ⟨k + 1, _, by omega, by go_num, rfl, by omega, by omega⟩
        case measure => simp [intOf]; omega
      · go_wp2
        go_ret
        exact ⟨_, rfl, Nat.le_refl _, ⟨A, n, c, 0, x, by omega, Nat.le_refl _, by simp, by simp [go_sem], by simp [go_sem], by simp [go_sem], by simp [go_sem], by simp [go_sem], hb0.keep (below_alloc _ _) (Nat.le_refl _)⟩, below_alloc _ _⟩
    · go_wp2
      go_ret
      exact ⟨_, rfl, Nat.le_refl _, ⟨A, n, c, 0, x, by omega, Nat.le_refl _, by simp, by simp [go_sem], by simp [go_sem], by simp [go_sem], by simp [go_sem], by simp [go_sem], hb0.keep (below_alloc _ _) (Nat.le_refl _)⟩, below_alloc _ _⟩
set_option maxRecDepth 100000 in
set_option maxHeartbeats 1000000 in
theorem l1Odd_any (w : World) (base g : Nat) (hc : CurAt w base g) : Calls Try.prog 131 #[.pointer (some ⟨g, 0, none⟩)] w (DrawnInt (fun _ => True) w base g) := by
  have hg : g < w.heap.size := by obtain ⟨A, n, c, i, h, h1, h2, h3, _⟩ := hc; exact h3
  go_enter Try.func131, Try.ntmps131
  go_wp2_with fail
  refine (l1PickInt_any _ 11 _ [0, 1, -1, 2, 1000000, 1000001, -1000001, 1000000000, 1000000001, 9223372036854775807, -9223372036854775808] _ base g (lit_ints rfl _ _ _ rfl rfl (by simp)) (by omega) (fun a ha => by have := Option.some.inj ha; rw [← this]; show w.heap.size ≠ g; omega) (hc.keep (below_alloc _ _) hg)).mono ?_
  rintro e w1 ⟨x, rfl, _, hc1, HO⟩
  go_wp2_with fail
  go_ret
  exact ⟨_, rfl, trivial, hc1, (Only.of_below (below_alloc _ _)).trans HO⟩
end Go.Proofs.Ytlnkofnfgemfdaa
