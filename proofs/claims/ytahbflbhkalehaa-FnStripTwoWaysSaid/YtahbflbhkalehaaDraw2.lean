/-
  What the drawing of strips hands back: some list and some text, both short.
-/
import Derived.Test.YtahbflbhkalehaaDraw
namespace Go.Proofs.Ytahbflbhkalehaa
open Go.RowKit

theorem grown_own {w w1 w2 : World} {g : Nat} {A : Option Addr} (h : w.grownBy w1 (some g)) (h' : w1.grownBy w2 (A.map (·.block))) (hA : AllGe A w.heap.size) : w.grownBy w2 (some g) :=
  ⟨h'.1.trans h.1, h'.2.trans h.2, h'.3.trans h.3, Nat.le_trans h.4 h'.4, fun i hi hne => (h'.5 i (Nat.lt_of_lt_of_le hi h.4) (by
    cases A with
    | none => simp
    | some x => have := hA x rfl; simp only [Option.map_some, ne_eq, Option.some.injEq]; omega)).trans (h.5 i hi hne)⟩
theorem grown_set {w w1 : World} {g b k : Nat} {u : Value} (h : w.grownBy w1 (some g)) (hb : w.heap.size ≤ b) : w.grownBy (w1.setCell ⟨b, k, none⟩ u) (some g) :=
  grown_own (A := some ⟨b, 0, none⟩) h (grown_setCell w1 b k u) (fun x e => by cases e; exact hb)
theorem OwnI.asked {w w' : World} {g base : Nat} {a : Option Addr} {n cap : Nat} {xs : List Int} (h : OwnI w base a n cap xs) (hg : w.grownBy w' (some g)) (hb : g < base) : OwnI w' base a n cap xs :=
  Own.kept h hg fun x hx e => by
    have := h.base_le x hx
    injection e with e
    omega
theorem Rd.own {w w' : World} {g p : Nat} {A : Option Addr} (h : Rd w g p) (hg : w.grownBy w' (A.map (·.block))) (hA : AllGe A (g + 1)) : Rd w' g p := by
  obtain ⟨a, n, cap, bs, h0, h1, hf, hbs, hn, hne⟩ := h
  have hlt := World.block_lt_of_cell? _ _ h0
  have hb : w'.heap[g]? = w.heap[g]? := hg.5 g hlt (by
    cases A with
    | none => simp
    | some x => have := hA x rfl; simp only [Option.map_some, ne_eq, Option.some.injEq]; omega)
  refine ⟨a, n, cap, bs, (World.cell?_of_block (a := ⟨g, 0, none⟩) hb).trans h0, (World.cell?_of_block (a := ⟨g, 1, none⟩) hb).trans h1, (World.frozen?_of_block (a := ⟨g, 1, none⟩) hb).trans hf, ⟨?_, hbs.2⟩, hn, hne⟩
  cases A with
  | none =>
    exact cells_kept hbs.1 fun p u hc => by
      have := World.block_lt_of_cell? _ _ hc
      rw [World.cell?_of_block (hg.5 p.block this (by simp))]
      exact hc
  | some x =>
    exact Cells.apart hbs.1 (g := x.block) hg fun h0' y hy => by
      have := hne h0' y hy
      have := hA x rfl
      omega
theorem Rd.set {w : World} {g p b k : Nat} {u : Value} (h : Rd w g p) (hb : g < b) : Rd (w.setCell ⟨b, k, none⟩ u) g p :=
  Rd.own (A := some ⟨b, 0, none⟩) h (grown_setCell w b k u) (fun x e => by cases e; exact hb)

/-- What the drawing of a list and a text hands back. -/
def RListText (w : World) (g p q : Nat) (e : Ending) (w' : World) : Prop := ∃ (a : Option Addr) (n cap : Nat) (xs : List Int) (s : ByteArray), e = .returned (.tuple #[.slice a n cap, .string s]) ∧ OwnI w' w.heap.size a n cap xs ∧ n ≤ 10 ∧ s.size ≤ 20 ∧ (∃ p', p' ≤ p + q ∧ Rd w' g p') ∧ w.grownBy w' (some g)

set_option maxRecDepth 100000 in
set_option maxHeartbeats 1000000 in
theorem spec_l91Strip (g p most : Nat) (w : World) (h : Rd w g p) (hp : p ≤ 1000) (hm1 : 1 ≤ most) (hm2 : most ≤ 8) :
    Calls Try.prog 10 #[.pointer (some ⟨g, 0, none⟩), .int .i64 most] w (RListText w g p 30) := by
  have hgw := h.lt
  have h0 := h.below ((Below.refl _ _).alloc (Nat.le_refl _) (.cells #[] 3))
  have H1 := Lib.hid (spec_pick g p (most : Int) _ h0 (by omega) (by omega) (by omega))
  have HP := Lib.hid (fun (P : Nat) (n : Int) (W : World) (hr : Rd W g P) (q1 : P ≤ 100000) (q2 : 1 ≤ n) (q3 : n ≤ 1000000) => spec_pick g P n W hr q1 q2 q3)
  go_enter Try.func10, Try.ntmps10
  go_wp2_with (go_at_call 20; refine H1.out.mono ?_; clear H1; rintro e w1 ⟨x, rfl, ⟨hx0, hx1⟩, r1, g1⟩; obtain ⟨X, rfl⟩ := Int.eq_ofNat_of_zero_le hx0)
  have o1 := (OwnI.lit0 w (Nat.le_refl _)).asked g1 hgw
  have G1 := grown_trans (grown_alloc w (.cells #[] 3) (some g)) g1
  go_loopw [6, 8] (fun v i wr => ∃ (k : Nat) (A : Option Addr) (c : Nat) (xs : List Int), k ≤ 1 + X ∧ i = .int .i64 k ∧ v = .slice A k c ∧ OwnI wr w.heap.size A k c xs ∧ Rd wr g (p + 1 + k) ∧ w.grownBy wr (some g)) (fun _ i _ => 1 + X - (intOf i).toNat)
  case atStart => exact ⟨0, _, _, _, Nat.zero_le _, rfl, rfl, o1, r1, G1⟩
  case round =>
    obtain ⟨k, A, c, xs, hk, rfl, rfl, HO, hr, hg⟩ := hrel
    have hsz := hg.4
    by_cases hlt : k < 1 + X
    · go_wp2_with (first
        | (go_at_call 20; refine (HP.out (p + 1 + k) 4 wr hr (by omega) (by omega) (by omega)).mono ?_; rintro e w2 ⟨y, rfl, ⟨hy0, hy1⟩, r2, g2⟩; have o2 := HO.asked g2 hgw; have G2 := grown_trans hg g2; have z2 := G2.4)
        | (at_builtin; refine wpList_append_int tyInts rfl (.tmp 20) (.tmp 24) rfl w.heap.size A k c xs rfl (o2.below ((Below.refl _ _).alloc (Nat.le_refl _) _)) w2.heap.size (1 + y) rfl (by simp) (by omega) (by simp; omega) ?_; intro A3 c3 w3 o3 g3 e3))
      have G3 := grown_own (grown_trans G2 (grown_alloc w2 _ (some g))) g3 o2.base_le
      have r3 := (r2.below ((Below.refl _ _).alloc (Nat.le_refl _) _)).own g3 (o2.ge.mono hgw)
      go_roundw
      case rel => exact ⟨k + 1, A3, c3, _, by omega, by go_num, rfl, o3, r3, G3⟩
      case measure => simp [intOf]; omega
    · have hkX : k = 1 + X := by omega
      have hXk : X + 1 ≤ k := by omega
      have HT : Hid (∀ v : Int, v = (X : Int) → Calls Try.prog 21 #[.pointer (some ⟨g, 0, none⟩), .int .i64 v] wr (RText wr g (p + 1 + k) X X)) := fun v hv => by rw [hv]; exact spec_l91Text g (p + 1 + k) X wr hr (by omega)
      have hX9 : X ≤ 8 := by omega
      clear hkX
      go_wp2_with (go_at_call 21; refine (HT.out _ (by omega)).mono ?_; rintro e w2 ⟨s, rfl, hs, ⟨p2, hp2, r2⟩, g2⟩)
      have o2 := HO.asked g2 hgw
      have G2 := grown_trans hg g2
      go_wp2_with fail
      refine (HP.out p2 40 w2 r2 (by omega) (by omega) (by omega)).mono ?_
      rintro e w3 ⟨y, rfl, ⟨hy0, hy1⟩, r3, g3⟩
      have o3 := o2.asked g3 hgw
      have G3 := grown_trans G2 g3
      have z3 := G3.4
      by_cases y0 : y = 0
      · subst y0
        have r3' := r3.below ((Below.refl _ _).alloc (Nat.le_refl _) (.cells #[.int .i64 0, .int .i64 1001, .int .i64 1000] 3))
        have hlit : ∀ Z : Nat, Z < 3 → ∃ v : Int, (w3.alloc (.cells #[.int .i64 0, .int .i64 1001, .int .i64 1000] 3)).cell? ⟨w3.heap.size, Z, none⟩ = some (.int .i64 v) := fun Z hZ => by
          match Z, hZ with
          | 0, _ => exact ⟨0, by simp⟩
          | 1, _ => exact ⟨1001, by simp⟩
          | 2, _ => exact ⟨1000, by simp⟩
        have HLIT := Lib.hid hlit
        clear hlit
        have H4 := Lib.hid (HP.out (p2 + 1) 3 _ r3' (by omega) (by omega) (by omega))
        go_wp2_with fail
        refine H4.out.mono ?_
        rintro e w4 ⟨z, rfl, ⟨hz0, hz1⟩, r4, g4⟩
        obtain ⟨Z, rfl⟩ := Int.eq_ofNat_of_zero_le hz0
        obtain ⟨v, hv⟩ := HLIT.out Z (by omega)
        have hv4 : w4.cell? ⟨w3.heap.size, Z, none⟩ = some (.int .i64 v) := (World.cell?_of_block (a := ⟨w3.heap.size, Z, none⟩) (g4.5 w3.heap.size (World.block_lt_of_cell? _ _ hv) (by intro q; cases q; omega))).trans hv
        clear hv
        have o4 := (o3.below ((Below.refl _ _).alloc (Nat.le_refl _) (.cells #[.int .i64 0, .int .i64 1001, .int .i64 1000] 3))).asked g4 hgw
        have G4 := grown_trans (grown_trans G3 (grown_alloc w3 (.cells #[.int .i64 0, .int .i64 1001, .int .i64 1000] 3) (some g))) g4
        rcases Own.form o4 with ⟨_, q0, _⟩ | ⟨gA, rfl, hgA, _⟩
        · exact absurd q0 (by omega)
        · have hgk := o4.cell (j := 0) (by omega)
          have hfk := o4.frozen 0
          have hkc := o4.ints.le_cap
          have hk0 : 0 < k := by omega
          go_wp2_with fail
          go_ret2
          exact ⟨_, _, _, _, _, rfl, o4.stored 0 v, by omega, by omega, ⟨p2 + 1 + 1, by omega, r4.set (by omega)⟩, grown_set G4 hgA⟩
      · have b0 : (y == 0) = false := by rw [beq_eq_false_iff_ne]; exact y0
        by_cases y1 : y = 1
        · subst y1
          go_wp2_with fail
          go_ret2
          exact ⟨_, _, _, _, _, rfl, o3, by omega, by rw [size_add1]; omega, ⟨p2 + 1, by omega, r3⟩, G3⟩
        · have b1 : (y == 1) = false := by rw [beq_eq_false_iff_ne]; exact y1
          by_cases y2 : y = 2
          · subst y2
            go_wp2_with fail
            go_ret2
            exact ⟨_, _, _, _, _, rfl, OwnI.lit0 w3 z3, by omega, Nat.zero_le _, ⟨p2 + 1, by omega, r3.below ((Below.refl _ _).alloc (Nat.le_refl _) _)⟩, grown_trans G3 (grown_alloc _ _ _)⟩
          · have b2 : (y == 2) = false := by rw [beq_eq_false_iff_ne]; exact y2
            go_wp2_with fail
            go_ret2
            exact ⟨_, _, _, _, _, rfl, o3, by omega, by omega, ⟨p2 + 1, by omega, r3⟩, G3⟩

/-- What the drawing of a list and a text hands back, to the law. -/
def RLT (w : World) (e : Ending) (w' : World) : Prop := ∃ (a : Option Addr) (n cap : Nat) (xs : List Int) (s : ByteArray), e = .returned (.tuple #[.slice a n cap, .string s]) ∧ OwnI w' w.heap.size a n cap xs ∧ n ≤ 10 ∧ s.size ≤ 20 ∧ Below w.heap.size w w'
/-- What the drawing of a list hands back, to the law. -/
def RL (w : World) (e : Ending) (w' : World) : Prop := ∃ (a : Option Addr) (n cap : Nat) (xs : List Int), e = .returned (.slice a n cap) ∧ Ints w' a n cap xs ∧ n ≤ 10 ∧ Below w.heap.size w w'

end Go.Proofs.Ytahbflbhkalehaa
