/- Part 20 of the texts of this claim: The cursor that draws a law's inputs from bytes: what its functions leave of memory; More on the cursor that draws a law's inputs: how it is made, odd numbers; Texts and days that are drawn; Rows of the call's own beside each other; Step: its cells, and the walks of the laws' own helpers on lists of it; Routing: rows in rows; the walks of the laws' own helpers on lists of it; How routings and planned orders are drawn. -/
import Derived.Test.YtfjbliefcafiaaaBa5
import Derived.Test.YtfjbliefcafiaaaBa1
import Derived.Laws.BitsLemmas
import Derived.StillTailTactics
import Derived.Test.YtfjbliefcafiaaaBa3
import Derived.Test.YtfjbliefcafiaaaBa10
/- The cursor that draws a law's inputs from bytes: what its functions leave of memory. -/
namespace Go.Proofs.Ytfjbliefcafiaaa
open Go.RowKit
theorem i64_and255 (n : Int) : bits .and .i64 n 255 = n % 256 := by
  have h127 : (BitVec.ofInt 64 255).toNat = 2 ^ 8 - 1 := by decide
  have key : (BitVec.ofInt 64 n &&& BitVec.ofInt 64 255).toNat = (n % ((2 ^ 64 : Nat) : Int)).toNat % 2 ^ 8 := by
    rw [BitVec.toNat_and, BitVec.toNat_ofInt, h127, Nat.and_two_pow_sub_one_eq_mod]
  show IntKind.i64.wrap ((BitVec.ofInt 64 n &&& BitVec.ofInt 64 255).toNat : Nat) = n % 256
  rw [key, IntKind.wrap_i64]
  omega
theorem i64_and30 (n : Int) : bits .and .i64 n 1073741823 = n % 1073741824 := by
  have h127 : (BitVec.ofInt 64 1073741823).toNat = 2 ^ 30 - 1 := by decide
  have key : (BitVec.ofInt 64 n &&& BitVec.ofInt 64 1073741823).toNat = (n % ((2 ^ 64 : Nat) : Int)).toNat % 2 ^ 30 := by
    rw [BitVec.toNat_and, BitVec.toNat_ofInt, h127, Nat.and_two_pow_sub_one_eq_mod]
  show IntKind.i64.wrap ((BitVec.ofInt 64 n &&& BitVec.ofInt 64 1073741823).toNat : Nat) = n % 1073741824
  rw [key, IntKind.wrap_i64]
  omega
/-- Bytes that came in: their cells, in blocks below 'base'. -/
def BytesAt (w : World) (base : Nat) (A : Option Addr) (n : Nat) : Prop :=
  n ≤ 16777216 ∧ ∀ k, k < n → ∃ (b o : Nat) (x : Int), A = some ⟨b, o, none⟩ ∧ b < base ∧ 0 ≤ x ∧ x ≤ 255 ∧ w.cell? ⟨b, o + k, none⟩ = some (.int .u8 x)
theorem BytesAt.keep {w w' : World} {base B : Nat} {A : Option Addr} {n : Nat} (h : BytesAt w base A n) (hb : Below B w w') (hB : base ≤ B) : BytesAt w' base A n :=
  ⟨h.1, fun k hk => by
    obtain ⟨b, o, x, e, hlt, h0, h1, hc⟩ := h.2 k hk
    exact ⟨b, o, x, e, hlt, h0, h1, (hb.cell (p := ⟨b, o + k, none⟩) (by show b < B; omega)).trans hc⟩⟩
/-- A cursor in block g, over bytes in blocks below 'base'. -/
def CurAt (w : World) (base g : Nat) : Prop :=
  ∃ (A : Option Addr) (n c i : Nat) (h : Int), i ≤ n ∧ base ≤ g ∧ g < w.heap.size ∧ w.cell? ⟨g, 0, none⟩ = some (.slice A n c) ∧ w.cell? ⟨g, 1, none⟩ = some (.int .i64 i) ∧ w.cell? ⟨g, 2, none⟩ = some (.int .i64 h) ∧
    w.frozen? ⟨g, 1, none⟩ = false ∧ w.frozen? ⟨g, 2, none⟩ = false ∧ BytesAt w base A n
theorem CurAt.keep {w w' : World} {base g B : Nat} (h : CurAt w base g) (hb : Below B w w') (hB : g < B) : CurAt w' base g := by
  obtain ⟨A, n, c, i, hv, h1, h2, h3, c0, c1, c2, f1, f2, hby⟩ := h
  refine ⟨A, n, c, i, hv, h1, h2, Nat.lt_of_lt_of_le h3 hb.size, ?_, ?_, ?_, ?_, ?_, hby.keep hb (by omega)⟩
  · exact (hb.cell (p := ⟨g, 0, none⟩) hB).trans c0
  · exact (hb.cell (p := ⟨g, 1, none⟩) hB).trans c1
  · exact (hb.cell (p := ⟨g, 2, none⟩) hB).trans c2
  · exact (hb.frozen (p := ⟨g, 1, none⟩) hB).trans f1
  · exact (hb.frozen (p := ⟨g, 2, none⟩) hB).trans f2
theorem only_set {w : World} {g o : Nat} {v : Value} : Only g (g + 1) w (w.setCell ⟨g, o, none⟩ v) :=
  ⟨rfl, rfl, rfl, by simp, fun k _ hn => heap_setCell_other w ⟨g, o, none⟩ k v (fun e => hn (by simp at e; omega))⟩
theorem only_drewN {lo hi : Nat} {w w' : World} (h : Only lo hi w w') (n : Nat) : Only lo hi w (w'.drewN n) := ⟨h.os, h.tape, h.output, h.size, h.block⟩
theorem curAt_drewN {w : World} {base g : Nat} (h : CurAt w base g) (n : Nat) : CurAt (w.drewN n) base g := h
theorem curAt_i {w : World} {base g A n c i h} (h1 : i ≤ n) (h2 : base ≤ g) (h3 : g < w.heap.size) (c0 : w.cell? ⟨g, 0, none⟩ = some (.slice A n c)) (c1 : w.cell? ⟨g, 1, none⟩ = some (.int .i64 (i : Nat))) (c2 : w.cell? ⟨g, 2, none⟩ = some (.int .i64 h))
    (f1 : w.frozen? ⟨g, 1, none⟩ = false) (f2 : w.frozen? ⟨g, 2, none⟩ = false) (hb : BytesAt w base A n) : CurAt w base g := ⟨A, n, c, i, h, h1, h2, h3, c0, c1, c2, f1, f2, hb⟩
/-- What a store to a cursor's number keeps. -/
theorem cur_set2 {w : World} {base g : Nat} {A : Option Addr} {n : Nat} {i : Nat} {h v : Int} {c : Nat} (h2 : base ≤ g) (c0 : w.cell? ⟨g, 0, none⟩ = some (.slice A n c)) (c1 : w.cell? ⟨g, 1, none⟩ = some (.int .i64 i)) (c2 : w.cell? ⟨g, 2, none⟩ = some (.int .i64 h))
    (f1 : w.frozen? ⟨g, 1, none⟩ = false) (f2 : w.frozen? ⟨g, 2, none⟩ = false) (hb : BytesAt w base A n) :
    (w.setCell ⟨g, 2, none⟩ (.int .i64 v)).cell? ⟨g, 0, none⟩ = some (.slice A n c) ∧ (w.setCell ⟨g, 2, none⟩ (.int .i64 v)).cell? ⟨g, 1, none⟩ = some (.int .i64 i) ∧ (w.setCell ⟨g, 2, none⟩ (.int .i64 v)).cell? ⟨g, 2, none⟩ = some (.int .i64 v) ∧
    (w.setCell ⟨g, 2, none⟩ (.int .i64 v)).frozen? ⟨g, 1, none⟩ = false ∧ (w.setCell ⟨g, 2, none⟩ (.int .i64 v)).frozen? ⟨g, 2, none⟩ = false ∧ BytesAt (w.setCell ⟨g, 2, none⟩ (.int .i64 v)) base A n := by
  refine ⟨?_, ?_, World.cell?_setCell_same _ _ _ c2, by simp [f1], by simp [f2], hb.1, fun k hk => ?_⟩
  · rw [World.cell?_setCell_other _ _ _ _ (by simp)]; exact c0
  · rw [World.cell?_setCell_other _ _ _ _ (by simp)]; exact c1
  · obtain ⟨b, o, x, e, hlt, h0, h1, hc⟩ := hb.2 k hk
    exact ⟨b, o, x, e, hlt, h0, h1, (cell_far (by omega)).trans hc⟩
theorem cur_set1 {w : World} {base g : Nat} {A : Option Addr} {n : Nat} {i : Nat} {h v : Int} {c : Nat} (h2 : base ≤ g) (c0 : w.cell? ⟨g, 0, none⟩ = some (.slice A n c)) (c1 : w.cell? ⟨g, 1, none⟩ = some (.int .i64 i)) (c2 : w.cell? ⟨g, 2, none⟩ = some (.int .i64 h))
    (f1 : w.frozen? ⟨g, 1, none⟩ = false) (f2 : w.frozen? ⟨g, 2, none⟩ = false) (hb : BytesAt w base A n) :
    (w.setCell ⟨g, 1, none⟩ (.int .i64 v)).cell? ⟨g, 0, none⟩ = some (.slice A n c) ∧ (w.setCell ⟨g, 1, none⟩ (.int .i64 v)).cell? ⟨g, 1, none⟩ = some (.int .i64 v) ∧ (w.setCell ⟨g, 1, none⟩ (.int .i64 v)).cell? ⟨g, 2, none⟩ = some (.int .i64 h) ∧
    (w.setCell ⟨g, 1, none⟩ (.int .i64 v)).frozen? ⟨g, 1, none⟩ = false ∧ (w.setCell ⟨g, 1, none⟩ (.int .i64 v)).frozen? ⟨g, 2, none⟩ = false ∧ BytesAt (w.setCell ⟨g, 1, none⟩ (.int .i64 v)) base A n := by
  refine ⟨?_, World.cell?_setCell_same _ _ _ c1, ?_, by simp [f1], by simp [f2], hb.1, fun k hk => ?_⟩
  · rw [World.cell?_setCell_other _ _ _ _ (by simp)]; exact c0
  · rw [World.cell?_setCell_other _ _ _ _ (by simp)]; exact c2
  · obtain ⟨b, o, x, e, hlt, h0, h1, hc⟩ := hb.2 k hk
    exact ⟨b, o, x, e, hlt, h0, h1, (cell_far (by omega)).trans hc⟩
theorem cur_step1 {w : World} {base g : Nat} {A : Option Addr} {n : Nat} {i : Nat} {h : Int} {c : Nat} (h1 : i < n) (h2 : base ≤ g) (h3 : g < w.heap.size) (c0 : w.cell? ⟨g, 0, none⟩ = some (.slice A n c)) (c1 : w.cell? ⟨g, 1, none⟩ = some (.int .i64 i)) (c2 : w.cell? ⟨g, 2, none⟩ = some (.int .i64 h))
    (f1 : w.frozen? ⟨g, 1, none⟩ = false) (f2 : w.frozen? ⟨g, 2, none⟩ = false) (hb : BytesAt w base A n) : CurAt (w.setCell ⟨g, 1, none⟩ (.int .i64 ((i : Int) + 1))) base g := by
  obtain ⟨d0, d1, d2, e1, e2, hb2⟩ := cur_set1 (v := (i : Int) + 1) h2 c0 c1 c2 f1 f2 hb
  exact ⟨A, n, c, i + 1, h, by omega, h2, by simpa using h3, d0, d1, d2, e1, e2, hb2⟩
/-- The ending of a call that draws a number from a cursor: nothing else has turned. -/
def DrawnInt (P : Int → Prop) (w : World) (base g : Nat) (e : Ending) (w' : World) : Prop := ∃ x : Int, e = .returned (.int .i64 x) ∧ P x ∧ CurAt w' base g ∧ Only g (g + 1) w w'
set_option maxRecDepth 100000 in
set_option maxHeartbeats 4000000 in
theorem l1Byte_any (w : World) (base g : Nat) (hc : CurAt w base g) : Calls Try.prog 82 #[.pointer (some ⟨g, 0, none⟩)] w (DrawnInt (fun x => 0 ≤ x ∧ x ≤ 255) w base g) := by
  obtain ⟨A, n, c, i, h, h1, h2, h3, c0, c1, c2, f1, f2, hby⟩ := hc
  have hnn := hby.1
  go_enter Try.func82, Try.ntmps82
  go_wp2
  obtain ⟨d0, d1, d2, e1, e2, hby2⟩ := cur_set2 (v := wrap64 (wrap64 (h * 6364136223846793005) + 1442695040888963407)) h2 c0 c1 c2 f1 f2 hby
  have HO : Only g (g + 1) w (w.setCell ⟨g, 2, none⟩ (.int .i64 (wrap64 (wrap64 (h * 6364136223846793005) + 1442695040888963407)))) := only_set
  have hsz : g < (w.setCell ⟨g, 2, none⟩ (.int .i64 (wrap64 (wrap64 (h * 6364136223846793005) + 1442695040888963407)))).heap.size := by simpa using h3
  clear c0 c1 c2 f1 f2 hby
  generalize wrap64 (wrap64 (h * 6364136223846793005) + 1442695040888963407) = v at *
  generalize hW : w.setCell ⟨g, 2, none⟩ (.int .i64 v) = W1 at *
  clear hW
  have hand : ∀ n, bits .and .i64 n 255 = n % 256 := i64_and255
  by_cases hlt : i < n
  · have hz1 : decide (i < n) = true := by simpa using hlt
    obtain ⟨b, o, x, rfl, hb, x0, x1, hx⟩ := hby2.2 i hlt
    go_quiet (fail)
    go_wp2
    have y0 : 0 ≤ bits BinOp.xor IntKind.i64 (v / 8589934592) (v / 35184372088832) % 256 ∧ bits BinOp.xor IntKind.i64 (v / 8589934592) (v / 35184372088832) % 256 ≤ 255 := by omega
    generalize bits BinOp.xor IntKind.i64 (v / 8589934592) (v / 35184372088832) % 256 = y at *
    obtain ⟨y0, y1⟩ := y0
    have m3 : IntKind.i64.wrap (y + x) = y + x := IntWalk.i64_in _ (by omega)
    go_quiet (fail)
    go_wp2
    go_quiet (fail)
    clear m3
    go_wp2
    go_ret
    exact ⟨_, rfl, by omega, cur_step1 (w := W1.drewN _) hlt h2 hsz d0 d1 d2 e1 e2 hby2, (only_drewN HO _).trans only_set⟩
  · have hz1 : decide (i < n) = false := by simpa using hlt
    go_quiet (fail)
    go_wp2
    have y0 : 0 ≤ bits BinOp.xor IntKind.i64 (v / 8589934592) (v / 35184372088832) % 256 ∧ bits BinOp.xor IntKind.i64 (v / 8589934592) (v / 35184372088832) % 256 ≤ 255 := by omega
    generalize bits BinOp.xor IntKind.i64 (v / 8589934592) (v / 35184372088832) % 256 = y at *
    go_quiet (fail)
    go_wp2
    go_ret
    exact ⟨y, rfl, y0, curAt_drewN (w := W1.drewN _) (curAt_drewN (curAt_i h1 h2 hsz d0 d1 d2 e1 e2 hby2) _) _, only_drewN (only_drewN HO _) _⟩
set_option maxRecDepth 100000 in
set_option maxHeartbeats 4000000 in
theorem l1Below_any (n : Int) (w : World) (base g : Nat) (hn : 1 ≤ n ∧ n ≤ 1000000000) (hc : CurAt w base g) : Calls Try.prog 53 #[.pointer (some ⟨g, 0, none⟩), .int .i64 n] w (DrawnInt (fun x => 0 ≤ x ∧ x ≤ n - 1) w base g) := by
  obtain ⟨n1, n2⟩ := hn
  by_cases h256 : n ≤ 256
  · go_enter Try.func53, Try.ntmps53
    go_wp2_with fail
    refine (l1Byte_any _ _ _ hc).mono ?_
    rintro e w1 ⟨x, rfl, ⟨x0, x1⟩, hc1, HO⟩
    have hm1 := Int.emod_nonneg x (show n ≠ 0 by omega)
    have hm2 := Int.emod_lt_of_pos x (show 0 < n by omega)
    go_wp2_with fail
    go_ret
    exact ⟨_, rfl, by omega, hc1, HO⟩
  · go_enter Try.func53, Try.ntmps53
    go_wp2_with fail
    refine (l1Byte_any _ _ _ hc).mono ?_
    rintro e w1 ⟨x, rfl, ⟨x0, x1⟩, hc1, HO1⟩
    go_wp2_with fail
    refine (l1Byte_any _ _ _ hc1).mono ?_
    rintro e w2 ⟨y, rfl, ⟨y0, y1⟩, hc2, HO2⟩
    go_wp2_with fail
    refine (l1Byte_any _ _ _ hc2).mono ?_
    rintro e w3 ⟨z, rfl, ⟨z0, z1⟩, hc3, HO3⟩
    go_wp2_with fail
    refine (l1Byte_any _ _ _ hc3).mono ?_
    rintro e w4 ⟨u, rfl, ⟨u0, u1⟩, hc4, HO4⟩
    have hm1 := Int.emod_nonneg (x * 16777216 + y * 65536 + z * 256 + u) (show n ≠ 0 by omega)
    have hm2 := Int.emod_lt_of_pos (x * 16777216 + y * 65536 + z * 256 + u) (show 0 < n by omega)
    go_wp2_with fail
    go_ret
    exact ⟨_, rfl, by omega, hc4, ((HO1.trans HO2).trans HO3).trans HO4⟩
def DrawnBool (w : World) (base g : Nat) (e : Ending) (w' : World) : Prop := ∃ x : Bool, e = .returned (.bool x) ∧ CurAt w' base g ∧ Only g (g + 1) w w'
set_option maxRecDepth 100000 in
theorem l1Once_any (n : Int) (w : World) (base g : Nat) (hn : 1 ≤ n ∧ n ≤ 1000000000) (hc : CurAt w base g) : Calls Try.prog 52 #[.pointer (some ⟨g, 0, none⟩), .int .i64 n] w (DrawnBool w base g) := by
  go_enter Try.func52, Try.ntmps52
  go_wp2_with fail
  refine (l1Below_any _ _ _ _ hn hc).mono ?_
  rintro e w1 ⟨x, rfl, _, hc1, HO⟩
  go_wp2_with fail
  go_ret
  exact ⟨_, rfl, hc1, HO⟩
set_option maxRecDepth 100000 in
theorem l1PickInt_any (A : Option Addr) (n c : Nat) (l : List Int) (w : World) (base g : Nat) (hl : IntsIn w A n l) (hn : 1 ≤ n) (hA : ∀ a, A = some a → a.block ≠ g) (hc : CurAt w base g) : Calls Try.prog 55 #[.pointer (some ⟨g, 0, none⟩), .slice A n c] w (DrawnInt (fun x => x ∈ l) w base g) := by
  have hln := hl.len
  obtain rfl := hl.1
  go_enter Try.func55, Try.ntmps55
  go_wp2_with fail
  refine (l1Below_any _ _ _ _ (by omega) hc).mono ?_
  rintro e w1 ⟨x, rfl, ⟨x0, x1⟩, hc1, HO⟩
  obtain ⟨k, rfl⟩ : ∃ k : Nat, x = (k : Int) := ⟨_, (Int.toNat_of_nonneg x0).symm⟩
  have hk : k < l.length := by omega
  obtain ⟨b, o, rfl, hb, hcell⟩ := hl.at_ hk
  have hne := hA _ rfl
  have hcell1 : w1.cell? ⟨b, o + k, none⟩ = some (.int .i64 l[k]) := by rw [World.cell?_of_block (HO.block b hb (by simp at hne; omega))]; exact hcell
  go_wp2_with fail
  go_ret
  exact ⟨_, rfl, List.getElem_mem hk, hc1, HO⟩
end Go.Proofs.Ytfjbliefcafiaaa
/- More on the cursor that draws a law's inputs: how it is made, odd numbers. -/
namespace Go.Proofs.Ytfjbliefcafiaaa
open Go.RowKit
theorem CurAt.lt {w : World} {base g : Nat} (h : CurAt w base g) : g < w.heap.size := by obtain ⟨A, n, c, i, h, h1, h2, h3, _⟩ := h; exact h3
theorem lit_ints {w : World} {H : Nat} (hH : w.heap.size = H) (cs : Array Value) (l : List Int) (n : Nat) (hn : n = l.length) (hcs : cs.toList = ints l) (hl : l.length ≤ 16777216) : IntsIn (w.alloc (.cells cs 3)) (some ⟨H, 0, none⟩) n l := by
  refine ⟨hn, by simp; omega, by omega, fun _ => ⟨H, 0, rfl, by simp; omega, fun j u hu => ?_⟩⟩
  have := news_at hH cs 3 j u (by rw [hcs]; exact hu)
  rwa [Addr.add_lit] at this
theorem RowVal.only {α : Type} {F : Flat α} {t : TypeId} {w w' : World} {lo a b : Nat} {v : Value} {l : List α} (h : RowVal F t w lo v l) (ho : Only a b w w') (hb : b ≤ lo) : RowVal F t w' lo v l := by
  refine ⟨h.1, ?_⟩
  rcases h.2 with h0 | ⟨g, cap, cur, hv, hlo, hg, hr⟩
  · exact .inl h0
  · refine .inr ⟨g, cap, cur, hv, hlo, ?_, hr⟩
    have hlt : g < w.heap.size := by
      rcases Nat.lt_or_ge g w.heap.size with h1 | h1
      · exact h1
      · rw [Array.getElem?_eq_none h1] at hg; cases hg
    rw [ho.block g hlt (by omega)]; exact hg
theorem OwnRows.only {α : Type} {F : Flat α} {t : TypeId} {w w' : World} {lo a b n c : Nat} {A : Option Addr} {l : List α} (h : OwnRows F t w lo A n c l) (ho : Only a b w w') (hb : b ≤ lo) : OwnRows F t w' lo A n c l := by
  obtain ⟨rfl, h⟩ := h
  exact ⟨rfl, RowVal.only (v := .slice A l.length c) h ho hb⟩
theorem only_below {lo hi : Nat} {w w1 w2 : World} (h : Only lo hi w w1) (k : Below w.heap.size w1 w2) : Only lo hi w w2 :=
  ⟨k.os.trans h.os, k.tape.trans h.tape, k.output.trans h.output, Nat.le_trans h.size k.size, fun i hi hn => (k.block i hi).trans (h.block i hi hn)⟩
set_option maxRecDepth 100000 in
set_option maxHeartbeats 4000000 in
theorem l1New_any (A : Option Addr) (n c : Nat) (w : World) (hb : BytesAt w w.heap.size A n) : Calls Try.prog 20 #[.slice A n c] w fun e w' => ∃ g, e = .returned (.pointer (some ⟨g, 0, none⟩)) ∧ w.heap.size ≤ g ∧ CurAt w' w.heap.size g ∧ Below w.heap.size w w' := by
  have hn := hb.1
  have HB := Lib.hid hb.2
  have hand : ∀ n, bits .and .i64 n 1073741823 = n % 1073741824 := i64_and30
  have hb0 := hb
  clear hb
  go_enter Try.func20, Try.ntmps20
  go_wp2
  go_loop [3, 4] (fun h i => ∃ (k : Nat) (x : Int), k ≤ n ∧ i = .int .i64 k ∧ h = .int .i64 x ∧ 0 ≤ x ∧ x ≤ 1100000000) (fun _ i => n - (intOf i).toNat)
  case atStart => exact ⟨0, _, by omega, rfl, rfl, by omega, by omega⟩
  case round =>
    obtain ⟨k, x, hk, rfl, rfl, x0, x1⟩ := hrel
    by_cases hlt : k < n
    · by_cases h4 : (k : Int) < 4000
      · obtain ⟨b, o, y, rfl, hbl, y0, y1, hc⟩ := HB.out k hlt
        go_wp2
        go_round
        case rel => exact ⟨k + 1, _, by omega, by go_num, rfl, by omega, by omega⟩
        case measure => simp [intOf]; omega
      · go_wp2
        go_ret
        exact ⟨_, rfl, Nat.le_refl _, ⟨A, n, c, 0, x, by omega, Nat.le_refl _, by simp, by simp [go_sem], by simp [go_sem], by simp [go_sem], by simp [go_sem], by simp [go_sem], hb0.keep (below_alloc _ _) (Nat.le_refl _)⟩, below_alloc _ _⟩
    · go_wp2
      go_ret
      exact ⟨_, rfl, Nat.le_refl _, ⟨A, n, c, 0, x, by omega, Nat.le_refl _, by simp, by simp [go_sem], by simp [go_sem], by simp [go_sem], by simp [go_sem], by simp [go_sem], hb0.keep (below_alloc _ _) (Nat.le_refl _)⟩, below_alloc _ _⟩
set_option maxRecDepth 100000 in
set_option maxHeartbeats 1000000 in
theorem l1Odd_any (w : World) (base g : Nat) (hc : CurAt w base g) : Calls Try.prog 76 #[.pointer (some ⟨g, 0, none⟩)] w (DrawnInt (fun _ => True) w base g) := by
  have hg : g < w.heap.size := by obtain ⟨A, n, c, i, h, h1, h2, h3, _⟩ := hc; exact h3
  go_enter Try.func76, Try.ntmps76
  go_wp2_with fail
  refine (l1PickInt_any _ 11 _ [0, 1, -1, 2, 1000000, 1000001, -1000001, 1000000000, 1000000001, 9223372036854775807, -9223372036854775808] _ base g (lit_ints rfl _ _ _ rfl rfl (by simp)) (by omega) (fun a ha => by have := Option.some.inj ha; rw [← this]; show w.heap.size ≠ g; omega) (hc.keep (below_alloc _ _) hg)).mono ?_
  rintro e w1 ⟨x, rfl, _, hc1, HO⟩
  go_wp2_with fail
  go_ret
  exact ⟨_, rfl, trivial, hc1, (Only.of_below (below_alloc _ _)).trans HO⟩
end Go.Proofs.Ytfjbliefcafiaaa
/- Texts and days that are drawn. -/
namespace Go.Proofs.Ytfjbliefcafiaaa
open Go.RowKit
def strF : Flat ByteArray := ⟨fun s => [.string s], 1, fun _ => rfl⟩
/-- The ending of a call that draws a text. -/
def DrawnText (P : ByteArray → Prop) (w : World) (base g : Nat) (e : Ending) (w' : World) : Prop := ∃ s : ByteArray, e = .returned (.string s) ∧ P s ∧ CurAt w' base g ∧ Only g (g + 1) w w'
theorem lit_strs {w : World} {H : Nat} {t : TypeId} (hH : w.heap.size = H) (cs : Array Value) (l : List ByteArray) (n : Nat) (hn : n = l.length) (hcs : cs.toList = l.flatMap strF.enc) (hl : l.length ≤ 16777216) : RowsIn strF (w.alloc (.cells cs t)) (some ⟨H, 0, none⟩) n l := by
  refine ⟨hn, by rw [flatMap_len strF.enc 1 strF.len, hn]; rfl, by omega, fun _ => ⟨H, 0, rfl, by simp; omega, fun j u hu => ?_⟩⟩
  have := news_at hH cs t j u (by rw [hcs]; exact hu)
  rwa [Addr.add_lit] at this
set_option maxRecDepth 100000 in
theorem l1Pick_any (A : Option Addr) (n c : Nat) (l : List ByteArray) (w : World) (base g : Nat) (hl : RowsIn strF w A n l) (hn : 1 ≤ n) (hA : ∀ a, A = some a → a.block ≠ g) (hc : CurAt w base g) : Calls Try.prog 54 #[.pointer (some ⟨g, 0, none⟩), .slice A n c] w (DrawnText (fun x => x ∈ l) w base g) := by
  have hln := hl.len
  obtain rfl := hl.1
  go_enter Try.func54, Try.ntmps54
  go_wp2_with fail
  refine (l1Below_any _ _ _ _ (by omega) hc).mono ?_
  rintro e w1 ⟨x, rfl, ⟨x0, x1⟩, hc1, HO⟩
  obtain ⟨k, rfl⟩ : ∃ k : Nat, x = (k : Int) := ⟨_, (Int.toNat_of_nonneg x0).symm⟩
  have hk : k < l.length := by omega
  obtain ⟨b, o, rfl, hb, hcell⟩ := hl.at_ hk
  have hne := hA _ rfl
  have hcell1 : w1.cell? ⟨b, o + k, none⟩ = some (.string l[k]) := by
    rw [World.cell?_of_block (HO.block b hb (by simp at hne; omega))]
    have := hcell 0 _ rfl
    simpa [strF] using this
  go_wp2_with fail
  go_ret
  exact ⟨_, rfl, List.getElem_mem hk, hc1, HO⟩
set_option maxRecDepth 100000 in
set_option maxHeartbeats 1000000 in
theorem l4Day_any (w : World) (base g : Nat) (hc : CurAt w base g) : Calls Try.prog 23 #[.pointer (some ⟨g, 0, none⟩)] w (DrawnInt (fun _ => True) w base g) := by
  go_enter Try.func23, Try.ntmps23
  go_wp2_with fail
  refine (l1Once_any _ _ _ _ (by omega) hc).mono ?_
  rintro e w1 ⟨b, rfl, hc1, HO1⟩
  have hg := hc1.lt
  cases b
  · go_wp2_with fail
    refine (l1Below_any _ _ _ _ (by omega) hc1).mono ?_
    rintro e w2 ⟨x, rfl, _, hc2, HO⟩
    go_wp2_with fail
    go_ret
    exact ⟨_, rfl, trivial, hc2, HO1.trans HO⟩
  · go_wp2_with fail
    refine (l1PickInt_any _ 6 _ [-1, 999, 1000, 998, -9223372036854775808, 9223372036854775807] _ base g (lit_ints rfl _ _ _ rfl rfl (by simp)) (by omega) (fun a ha => by have := Option.some.inj ha; rw [← this]; show w1.heap.size ≠ g; omega) (hc1.keep (below_alloc _ _) hg)).mono ?_
    rintro e w2 ⟨x, rfl, _, hc2, HO⟩
    go_wp2_with fail
    go_ret
    exact ⟨_, rfl, trivial, hc2, (HO1.trans (Only.of_below (below_alloc _ _))).trans HO⟩
end Go.Proofs.Ytfjbliefcafiaaa
/- Rows of the call's own beside each other. -/
namespace Go.Proofs.Ytfjbliefcafiaaa
open Go.RowKit
theorem RowVal.some_of {α : Type} {F : Flat α} {t : TypeId} {w : World} {lo n : Nat} {v : Value} {l : List α} (h : RowVal F t w lo v l) (hn : l.length = n + 1) : ∃ b c, v = .slice (some ⟨b, 0, none⟩) (n + 1) c := by
  obtain ⟨A, c, rfl, ho⟩ := h.form
  obtain ⟨b, rfl⟩ := rowOf_some ho (by omega)
  exact ⟨b, c, by rw [hn]⟩
theorem lit_row {α : Type} {F : Flat α} {t : TypeId} {w : World} {H : Nat} (hH : w.heap.size = H) (cs : Array Value) (x : α) (hcs : cs.toList = F.enc x) : RowsIn F (w.alloc (.cells cs t)) (some ⟨H, 0, none⟩) 1 [x] := by
  refine ⟨rfl, by rw [flatMap_len F.enc F.sz F.len]; rfl, by omega, fun _ => ⟨H, 0, rfl, by simp; omega, fun j u hu => ?_⟩⟩
  have := news_at hH cs t j u (by rw [hcs]; simpa using hu)
  rwa [Addr.add_lit] at this
/-- Rows of two kinds lie in two blocks. -/
theorem RowVal.apart {α β : Type} {F : Flat α} {G : Flat β} {s t : TypeId} {w : World} {lo lo' : Nat} {v v' : Value} {l : List α} {l' : List β} (hst : s ≠ t) (h : RowVal F s w lo v l) (k : RowVal G t w lo' v' l') : ∀ g, v.ownBlock = some g → v'.ownBlock ≠ some g := by
  intro g hg he
  rcases h.2 with ⟨h0, _⟩ | ⟨g1, cap1, cur1, hv1, _, hg1, _⟩
  · subst h0; simp [Value.ownBlock] at hg
  · rcases k.2 with ⟨k0, _⟩ | ⟨g2, cap2, cur2, hv2, _, hg2, _⟩
    · subst k0; simp [Value.ownBlock] at he
    · subst hv1 hv2
      simp only [Value.ownBlock, Option.some.injEq] at hg he
      subst hg
      rw [he] at hg2
      rw [hg1] at hg2
      injection hg2 with e1
      injection e1 with e2 e3
      exact hst e3
theorem RowVal.blk {α : Type} {F : Flat α} {t : TypeId} {w w' : World} {lo : Nat} {v : Value} {l : List α} (h : RowVal F t w lo v l) (hb : ∀ g, v.ownBlock = some g → g < w.heap.size → w'.heap[g]? = w.heap[g]?) : RowVal F t w' lo v l := by
  refine ⟨h.1, ?_⟩
  rcases h.2 with h0 | ⟨g, cap, cur, hv, hlo, hg, hr⟩
  · exact .inl h0
  · refine .inr ⟨g, cap, cur, hv, hlo, ?_, hr⟩
    have hlt : g < w.heap.size := by
      rcases Nat.lt_or_ge g w.heap.size with h1 | h1
      · exact h1
      · rw [Array.getElem?_eq_none h1] at hg; cases hg
    rw [hb g (by subst hv; rfl) hlt]; exact hg
section
variable {α : Type} {F : Flat α} {t e : TypeId}
/-- out = append(out, x), with all other blocks kept. -/
theorem wpList_append_blk (hE : ElemOk F t e) {w1 : World} {ops : Array Oper} {rest : List Oper} {o : Oper} {a : Act} {Q : Exit → Act → World → Prop} (hgd : o.guard = none) (s x : Operand)
    (ho : o.op = .call { callee := .builtin .append, args := #[s, x], argTypes := #[t, t] }) {lo : Nat} {v : Value} {l : List α} (hs : a.eval s = v) (hrow : RowVal F e w1 lo v l) (hlen : l.length ≤ 16777216)
    (y : α) (cs : Array Value) (hcs : cs.toList = F.enc y) (hone : ∀ u ∈ cs.toList, u.oneCell' = true) (H c : Nat) (hH : w1.heap.size = H) (hx : a.eval x = .slice (some ⟨H, 0, none⟩) 1 c) (hlo : lo ≤ w1.heap.size)
    (h : ∀ v' w', RowVal F e w' lo v' (l ++ [y]) → (∀ B, B ≤ lo → B ≤ w1.heap.size → Below B w1 w') → w1.heap.size < w'.heap.size → (∀ k, k < w1.heap.size → v.ownBlock ≠ some k → w'.heap[k]? = w1.heap[k]?) → wpList Try.prog ops Q rest (a.put o.dst v') w') :
    wpList Try.prog ops Q (o :: rest) a (w1.alloc (.cells cs e)) := by
  obtain ⟨i, z, bytes, ht, hi, hz, hsz, hby, hzs, hpos, hbb⟩ := hE
  have hb2 : (l.length + 1) * bytes ≤ 140737488355328 := Nat.le_trans (Nat.mul_le_mul (show l.length + 1 ≤ 16777217 by omega) hbb) (by omega)
  refine wpList_append_own_at _ hgd s x t ho lo e i z F.sz bytes ht hi hz hsz hby hzs hpos v l.length (l.flatMap F.enc) hs (hrow.alloc _) ⟨H, 0, none⟩ 1 c cs.toList hx (by rw [hcs, F.len, Nat.one_mul]) (news_at hH cs e) hone (by unfold maxLen; omega) hb2 (by simp; omega) (fun v' w' h2 h3 _ h5 => h v' w' (RowVal.snoc hcs h2) (fun B hB hB2 => ?_) ?_ (fun k hk hne => ?_))
  · refine ((Below.refl B w1).alloc hB2 _).trans (below_grown h3 (by simp; omega) (fun g hg => Nat.le_trans hB (own_block hrow g hg)))
  · have := h3.size; simp at this; omega
  · rw [h3.block k (by simp; omega) (Ne.symm hne)]
    exact (below_alloc w1 (.cells cs e)).block k hk
end
theorem OwnRows.blk {α : Type} {F : Flat α} {t : TypeId} {w w' : World} {lo n c : Nat} {A : Option Addr} {l : List α} (h : OwnRows F t w lo A n c l) (hb : ∀ g, lo ≤ g → (Value.slice A n c).ownBlock = some g → g < w.heap.size → w'.heap[g]? = w.heap[g]?) : OwnRows F t w' lo A n c l := by
  obtain ⟨rfl, h⟩ := h
  have hb2 := own_block h
  exact ⟨rfl, RowVal.blk (v := .slice A l.length c) h (fun g hg hlt => hb g (hb2 g hg) hg hlt)⟩
theorem OwnRows.grow {α β : Type} {F : Flat α} {G : Flat β} {s t : TypeId} (ht : t ≠ s) {w w' : World} {lo lo' n c : Nat} {A : Option Addr} {v : Value} {l : List α} {x : List β} (hv : RowVal F t w lo' v l) (h : OwnRows G s w lo A n c x) (hb : ∀ k, k < w.heap.size → v.ownBlock ≠ some k → w'.heap[k]? = w.heap[k]?) : OwnRows G s w' lo A n c x :=
  h.blk fun g _ hg hlt => hb g hlt fun he => RowVal.apart ht hv h.val g he (by have := h.1; subst this; exact hg)
theorem RowVal.own_n {α : Type} {F : Flat α} {t : TypeId} {w : World} {lo n c : Nat} {A : Option Addr} {l : List α} (h : RowVal F t w lo (.slice A n c) l) (hn : n = l.length) : OwnRows F t w lo A n c l := by subst hn; exact ⟨rfl, h⟩
/-- All cells from a place on are turned. -/
def setFrom (w : World) (b o : Nat) : List Value → World
  | [] => w
  | v :: t => setFrom (w.setCell ⟨b, o, none⟩ v) b (o + 1) t
def setL (xs : List Value) (o : Nat) : List Value → List Value
  | [] => xs
  | v :: t => setL (xs.set o v) (o + 1) t
theorem stored_all {e : TypeId} {sz lo b n c : Nat} : ∀ (vs : List Value) (o : Nat) (w : World) (xs : List Value), w.ownsRow lo e sz (.slice (some ⟨b, 0, none⟩) n c) n xs → (setFrom w b o vs).ownsRow lo e sz (.slice (some ⟨b, 0, none⟩) n c) n (setL xs o vs)
  | [], _, _, _, h => h
  | v :: t, o, w, xs, h => stored_all t (o + 1) _ _ (h.stored o v).1
theorem setL_mid : ∀ (vs pre mid post : List Value), mid.length = vs.length → setL (pre ++ (mid ++ post)) pre.length vs = pre ++ (vs ++ post)
  | [], pre, mid, post, h => by
    rw [List.length_nil] at h
    rw [List.length_eq_zero_iff.1 h]; rfl
  | v :: t, pre, [], post, h => by simp at h
  | v :: t, pre, m :: mid, post, h => by
    simp only [setL]
    have h1 := setL_mid t (pre ++ [v]) mid post (by simpa using h)
    have h2 : (pre ++ (m :: mid ++ post)).set pre.length v = (pre ++ [v]) ++ (mid ++ post) := by
      rw [List.set_append_right _ _ (Nat.le_refl _), Nat.sub_self]; simp
    rw [h2]
    have h3 : pre.length + 1 = (pre ++ [v]).length := by simp
    rw [h3, h1]; simp
theorem flat_split {α : Type} (F : Flat α) (l : List α) (k : Nat) (hk : k < l.length) : l.flatMap F.enc = (l.take k).flatMap F.enc ++ (F.enc l[k] ++ (l.drop (k + 1)).flatMap F.enc) := by
  have h : l = l.take k ++ l[k] :: l.drop (k + 1) := by rw [List.getElem_cons_drop, List.take_append_drop]
  conv => lhs; rw [h]
  rw [List.flatMap_append, List.flatMap_cons]
/-- An element of a row is replaced, cell by cell. -/
theorem OwnRows.put {α : Type} {F : Flat α} {t : TypeId} {w : World} {lo b n c : Nat} {l : List α} (h : OwnRows F t w lo (some ⟨b, 0, none⟩) n c l) (k : Nat) (hk : k < l.length) (y : α) (o : Nat) (ho : o = k * F.sz) (vs : List Value) (hv : F.enc y = vs) : OwnRows F t (setFrom w b o vs) lo (some ⟨b, 0, none⟩) n c (l.set k y) := by
  refine ⟨by have := h.1; simpa using this, ?_⟩
  have h1 := stored_all vs o w _ h.2
  have hl : (l.take k).length = k := by rw [List.length_take]; omega
  have e : setL (l.flatMap F.enc) o vs = (l.set k y).flatMap F.enc := by
    rw [flat_split F l k hk, flat_split F (l.set k y) k (by simpa using hk)]
    have h2 := setL_mid vs ((l.take k).flatMap F.enc) (F.enc l[k]) ((l.drop (k + 1)).flatMap F.enc) (by rw [← hv, F.len, F.len])
    rw [flatMap_len F.enc F.sz F.len, hl, ← ho] at h2
    rw [h2, List.getElem_set_self, List.take_set_of_le (Nat.le_refl _), List.drop_set_of_lt (by omega), hv]
  rw [e] at h1
  exact h1
theorem flat_set {α : Type} (F : Flat α) (f : Nat) (hf : f < F.sz) (u : Value) (x' : α) : ∀ (l : List α) (k : Nat) (hk : k < l.length) (_ : (F.enc l[k]).set f u = F.enc x'), (l.flatMap F.enc).set (k * F.sz + f) u = (l.set k x').flatMap F.enc
  | [], k, hk, _ => by simp at hk
  | a :: l, 0, _, he => by
    rw [List.flatMap_cons, List.set_append_left _ _ (by rw [F.len]; omega), List.set_cons_zero, List.flatMap_cons]
    simp only [List.getElem_cons_zero] at he
    rw [Nat.zero_mul, Nat.zero_add, he]
  | a :: l, k + 1, hk, he => by
    rw [List.flatMap_cons, List.set_append_right _ _ (by rw [F.len, Nat.succ_mul]; omega), F.len, show (k + 1) * F.sz + f - F.sz = k * F.sz + f by rw [Nat.succ_mul]; omega, List.set_cons_succ, List.flatMap_cons]
    rw [flat_set F f hf u x' l k (by simpa using hk) (by simpa using he)]
/-- One cell of a row is turned. -/
theorem OwnRows.edit {α : Type} {F : Flat α} {t : TypeId} {w : World} {lo b n c : Nat} {l : List α} (h : OwnRows F t w lo (some ⟨b, 0, none⟩) n c l) (k f : Nat) (hk : k < l.length) (hf : f < F.sz) (u : Value) (x' : α) (he : (F.enc l[k]).set f u = F.enc x') :
    OwnRows F t (w.setCell ⟨b, k * F.sz + f, none⟩ u) lo (some ⟨b, 0, none⟩) n c (l.set k x') := by
  refine ⟨by have := h.1; simpa using this, ?_⟩
  have := (h.2.stored (k * F.sz + f) u).1
  rw [flat_set F f hf u x' l k hk he] at this
  exact this
theorem OwnRows.at_cell {α : Type} {F : Flat α} {t : TypeId} {w : World} {lo b n c : Nat} {l : List α} (h : OwnRows F t w lo (some ⟨b, 0, none⟩) n c l) (k f : Nat) (hk : k < l.length) (u : Value) (he : (F.enc l[k])[f]? = some u) : w.cell? ⟨b, k * F.sz + f, none⟩ = some u ∧ w.frozen? ⟨b, k * F.sz + f, none⟩ = false := by
  have hf : f < F.sz := by have := (List.getElem?_eq_some_iff.1 he).1; rwa [F.len] at this
  have hn := h.1
  refine ⟨?_, h.2.frozenAt _⟩
  rw [h.2.cellAt (k * F.sz + f) (by rw [hn]; have : (k + 1) * F.sz ≤ l.length * F.sz := Nat.mul_le_mul_right _ hk; rw [Nat.succ_mul] at this; omega), flatMap_at F.enc F.sz F.len l k f hk hf, he]
theorem own_capD {α : Type} {F : Flat α} {t : TypeId} {w : World} {lo b n c : Nat} {l : List α} (h : OwnRows F t w lo (some ⟨b, 0, none⟩) n c l) : n ≤ c := by
  rcases h.2.2 with ⟨hv, _⟩ | ⟨g2, cap, cur, hv, _, _, hr⟩
  · cases hv
  · have : c = cap := by injection hv
    subst this
    exact hr.1
theorem OwnRows.blt {α : Type} {F : Flat α} {t : TypeId} {w : World} {lo b n c : Nat} {l : List α} (h : OwnRows F t w lo (some ⟨b, 0, none⟩) n c l) (_hn : 0 < n) : b < w.heap.size := by
  rcases h.2.2 with ⟨hv, _⟩ | ⟨g2, cap, cur, hv, _, hg, _⟩
  · cases hv
  · injection hv with e
    injection e with e
    injection e with e
    subst e
    rcases Nat.lt_or_ge b w.heap.size with h1 | h1
    · exact h1
    · rw [Array.getElem?_eq_none h1] at hg; cases hg
/-- A block of the call's own that holds cells, none of them frozen. -/
def CellsAt (w : World) (N : Nat) (cs : List Value) : Prop := N < w.heap.size ∧ (∀ j u, cs[j]? = some u → w.cell? ⟨N, j, none⟩ = some u) ∧ ∀ j, w.frozen? ⟨N, j, none⟩ = false
section
variable {w w' : World} {N : Nat} {cs : List Value}
theorem CellsAt.new (w : World) (cs : Array Value) (t : TypeId) : CellsAt (w.alloc (.cells cs t)) w.heap.size cs.toList := by
  refine ⟨by simp, fun j u hu => ?_, fun j => by simp [go_sem]⟩
  have := news_at (w := w) rfl cs t j u hu
  rwa [Addr.add_lit, Nat.zero_add] at this
theorem CellsAt.blk (h : CellsAt w N cs) (hb : w'.heap[N]? = w.heap[N]?) (hs : w.heap.size ≤ w'.heap.size) : CellsAt w' N cs :=
  ⟨Nat.lt_of_lt_of_le h.1 hs, fun j u hu => (World.cell?_of_block hb).trans (h.2.1 j u hu), fun j => (World.frozen?_of_block hb).trans (h.2.2 j)⟩
theorem CellsAt.only {a b : Nat} (h : CellsAt w N cs) (ho : Only a b w w') (hN : N < a ∨ b ≤ N) : CellsAt w' N cs := h.blk (ho.block N h.1 (by omega)) ho.size
theorem CellsAt.keep {B : Nat} (h : CellsAt w N cs) (hb : Below B w w') (hN : N < B) : CellsAt w' N cs := h.blk (hb.block N hN) hb.size
theorem CellsAt.alloc (h : CellsAt w N cs) (o : Obj) : CellsAt (w.alloc o) N cs := h.keep (below_alloc w o) h.1
theorem CellsAt.drew (h : CellsAt w N cs) : CellsAt w.drew N cs := h
theorem CellsAt.far (h : CellsAt w N cs) {p : Addr} (hp : p.block ≠ N) (v : Value) : CellsAt (w.setCell p v) N cs := h.blk (heap_setCell_other w p N v hp.symm) (by simp)
theorem CellsAt.put (h : CellsAt w N cs) (i : Nat) (v : Value) (hi : i < cs.length) : CellsAt (w.setCell ⟨N, i, none⟩ v) N (cs.set i v) := by
  refine ⟨by simpa using h.1, fun j u hu => ?_, fun j => by simp [h.2.2 j]⟩
  by_cases hj : j = i
  · subst hj
    rw [List.getElem?_set_self hi] at hu
    injection hu with hu
    subst hu
    exact World.cell?_setCell_same _ _ _ (h.2.1 j cs[j] (List.getElem?_eq_getElem hi))
  · rw [List.getElem?_set_ne (Ne.symm hj)] at hu
    rw [World.cell?_setCell_other _ _ _ _ (by simp)]
    exact h.2.1 j u hu
theorem Only.far {g : Nat} {B : Nat} (ho : Only g (g + 1) w w') {p : Addr} (hp : B ≤ p.block) (v : Value) (hB : w.heap.size ≤ B) : Only g (g + 1) w (w'.setCell p v) :=
  only_below ho ((Below.refl w.heap.size w').setCell (by omega) v)
end
end Go.Proofs.Ytfjbliefcafiaaa
/- Step: its cells, and the walks of the laws' own helpers on lists of it. -/
namespace Go.Proofs.Ytfjbliefcafiaaa
end Go.Proofs.Ytfjbliefcafiaaa
/- Routing: rows in rows; the walks of the laws' own helpers on lists of it. -/
namespace Go.Proofs.Ytfjbliefcafiaaa
end Go.Proofs.Ytfjbliefcafiaaa
/- How routings and planned orders are drawn. -/
namespace Go.Proofs.Ytfjbliefcafiaaa
open Go.RowKit
theorem size_mem {L : List ByteArray} (h : L.all (fun s => decide (s.size ≤ 9223372036854775807)) = true) {x : ByteArray} (hx : x ∈ L) : x.size ≤ 9223372036854775807 := of_decide_eq_true (List.all_eq_true.1 h x hx)
set_option maxRecDepth 100000 in
set_option maxHeartbeats 1000000 in
theorem l1Code_any (w : World) (base g : Nat) (hc : CurAt w base g) : Calls Try.prog 22 #[.pointer (some ⟨g, 0, none⟩)] w (DrawnText (fun x => x.size ≤ 9223372036854775807) w base g) := by
  go_enter Try.func22, Try.ntmps22
  go_wp2_with fail
  refine (l1Once_any _ _ _ _ (by omega) hc).mono ?_
  rintro e w1 ⟨b, rfl, hc1, HO1⟩
  have hg := hc1.lt
  cases b
  · go_wp2_with fail
    refine (l1Pick_any _ 6 _ [⟨#[65]⟩, ⟨#[66]⟩, ⟨#[67]⟩, ⟨#[68]⟩, ⟨#[69]⟩, ⟨#[70]⟩] _ base g (lit_strs (t := 9) rfl #[.string ⟨#[65]⟩, .string ⟨#[66]⟩, .string ⟨#[67]⟩, .string ⟨#[68]⟩, .string ⟨#[69]⟩, .string ⟨#[70]⟩] [⟨#[65]⟩, ⟨#[66]⟩, ⟨#[67]⟩, ⟨#[68]⟩, ⟨#[69]⟩, ⟨#[70]⟩] 6 rfl rfl (by simp)) (by omega) (fun a ha => by have := Option.some.inj ha; rw [← this]; show w1.heap.size ≠ g; omega) (hc1.keep (below_alloc _ _) hg)).mono ?_
    rintro e w2 ⟨x, rfl, hx, hc2, HO⟩
    have hx2 := size_mem (by decide) hx
    clear hx
    go_wp2_with fail
    go_ret
    exact ⟨_, rfl, hx2, hc2, (HO1.trans (Only.of_below (below_alloc _ _))).trans HO⟩
  · go_wp2_with fail
    refine (l1Pick_any _ 5 _ [⟨#[]⟩, ⟨#[112]⟩, ⟨#[49, 65]⟩, ⟨#[84, 79, 79, 45, 76, 79, 78, 71, 45]⟩, ⟨#[65, 32, 66]⟩] _ base g (lit_strs (t := 9) rfl #[.string ⟨#[]⟩, .string ⟨#[112]⟩, .string ⟨#[49, 65]⟩, .string ⟨#[84, 79, 79, 45, 76, 79, 78, 71, 45]⟩, .string ⟨#[65, 32, 66]⟩] [⟨#[]⟩, ⟨#[112]⟩, ⟨#[49, 65]⟩, ⟨#[84, 79, 79, 45, 76, 79, 78, 71, 45]⟩, ⟨#[65, 32, 66]⟩] 5 rfl rfl (by simp)) (by omega) (fun a ha => by have := Option.some.inj ha; rw [← this]; show w1.heap.size ≠ g; omega) (hc1.keep (below_alloc _ _) hg)).mono ?_
    rintro e w2 ⟨x, rfl, hx, hc2, HO⟩
    have hx2 := size_mem (by decide) hx
    clear hx
    go_wp2_with fail
    go_ret
    exact ⟨_, rfl, hx2, hc2, (HO1.trans (Only.of_below (below_alloc _ _))).trans HO⟩
end Go.Proofs.Ytfjbliefcafiaaa
