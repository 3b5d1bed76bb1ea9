/-
  What the reference's reader of codes does: it hands back some number in its range, and turns no block but its own.
-/
import Derived.Test.YtahbflbhkalehaaHelp
import Derived.Test.YtahbflbhkalehaaMem3
import Derived.Test.YtahbflbhkalehaaShell
import Derived.Test.YtahbflbhkalehaaPlainA
import Derived.IntWalk
namespace Go.Proofs.Ytahbflbhkalehaa
open Go.RowKit

theorem i64_xor_nat (a b : Nat) (ha : a < 4611686018427387904) (hb : b < 4611686018427387904) : bits .xor .i64 (a : Int) (b : Int) = ((a ^^^ b : Nat) : Int) ∧ a ^^^ b < 4611686018427387904 := by
  have hx : a ^^^ b < 2 ^ 62 := Nat.xor_lt_two_pow (by omega) (by omega)
  have h1 : (BitVec.ofInt 64 (a : Int)).toNat = a := by
    rw [BitVec.ofInt_natCast, BitVec.toNat_ofNat]; exact Nat.mod_eq_of_lt (by omega)
  have h2 : (BitVec.ofInt 64 (b : Int)).toNat = b := by
    rw [BitVec.ofInt_natCast, BitVec.toNat_ofNat]; exact Nat.mod_eq_of_lt (by omega)
  refine ⟨?_, by omega⟩
  show IntKind.i64.wrap ((BitVec.ofInt 64 (a : Int) ^^^ BitVec.ofInt 64 (b : Int)).toNat : Int) = _
  rw [BitVec.toNat_xor, h1, h2, IntKind.wrap_i64]
  omega
theorem i64_xor (a b : Int) (h1 : 0 ≤ a) (h2 : a < 4611686018427387904) (h3 : 0 ≤ b) (h4 : b < 4611686018427387904) : ∃ z : Nat, bits .xor .i64 a b = (z : Int) ∧ z < 4611686018427387904 := by
  obtain ⟨A, rfl⟩ := Int.eq_ofNat_of_zero_le h1
  obtain ⟨B, rfl⟩ := Int.eq_ofNat_of_zero_le h3
  exact ⟨A ^^^ B, (i64_xor_nat A B (by omega) (by omega)).1, (i64_xor_nat A B (by omega) (by omega)).2⟩

/-- A reader in block g that has been asked p times. -/
def Rd (w : World) (g p : Nat) : Prop := ∃ (a : Option Addr) (n cap : Nat) (bs : List Int), w.cell? ⟨g, 0, none⟩ = some (.slice a n cap) ∧ w.cell? ⟨g, 1, none⟩ = some (.int .i64 p) ∧ w.frozen? ⟨g, 1, none⟩ = false ∧ Bytes w a n cap bs ∧ n ≤ 2000 ∧ (0 < n → ∀ x, a = some x → x.block < g)

theorem grown_drewN {w w' : World} {r : Option Nat} (h : w.grownBy w' r) (m : Nat) : w.grownBy (w'.drewN m) r := ⟨h.1, h.2, h.3, h.4, h.5⟩
theorem grown_below {w w' : World} (hb : Below w.heap.size w w') (r : Option Nat) : w.grownBy w' r := ⟨hb.os, hb.tape, hb.output, hb.size, fun i hi _ => hb.block i hi⟩
theorem grown_trans {w w' w'' : World} {r : Option Nat} (h : w.grownBy w' r) (h' : w'.grownBy w'' r) : w.grownBy w'' r := h.trans h'
theorem below_grown {B : Nat} {w0 w w' : World} {g : Nat} (h : Below B w0 w) (hB : B ≤ w.heap.size) (hg : w.grownBy w' (some g)) (hle : B ≤ g) : Below B w0 w' := h.grown hg hB (by intro k e; cases e; exact hle)

theorem Cells.apart {w w' : World} {size : Nat} {a : Option Addr} {n cap : Nat} {vs : List Value} {g : Nat} (h : Cells w size a n cap vs) (hg : w.grownBy w' (some g)) (hne : 0 < n → ∀ x, a = some x → x.block ≠ g) : Cells w' size a n cap vs :=
  ⟨h.len, h.le, h.max, fun hn => by
    obtain ⟨b, off, e, hc⟩ := h.at_ hn
    refine ⟨b, off, e, fun j u hu => ?_⟩
    have h1 := hc j u hu
    have hlt := World.block_lt_of_cell? _ _ h1
    have hb : w'.heap[b]? = w.heap[b]? := hg.5 b hlt (by have := hne hn _ e; intro q; cases q; exact this rfl)
    rw [World.cell?_of_block (a := ⟨b, off + j, none⟩) hb]
    exact h1⟩
theorem Ints.apart {w w' : World} {a : Option Addr} {n cap : Nat} {xs : List Int} {g : Nat} (h : Ints w a n cap xs) (hg : w.grownBy w' (some g)) (hne : 0 < n → ∀ x, a = some x → x.block ≠ g) : Ints w' a n cap xs := Cells.apart h hg hne
theorem Rd.asked {w : World} {g p : Nat} (h : Rd w g p) : Rd (w.setCell ⟨g, 1, none⟩ (.int .i64 ((p : Int) + 1))) g (p + 1) := by
  obtain ⟨a, n, cap, bs, h0, h1, hf, hb, hn, hne⟩ := h
  refine ⟨a, n, cap, bs, ?_, ?_, by rw [World.frozen?_setCell]; exact hf, ⟨Cells.apart hb.1 (grown_setCell w g 1 _) (fun h0 x hx => Nat.ne_of_lt (hne h0 x hx)), hb.2⟩, hn, hne⟩
  · rw [World.cell?_setCell_other _ _ _ _ (by intro e; injection e with _ e2 _; cases e2)]; exact h0
  · rw [World.cell?_setCell_same' _ _ _ (by rw [h1]; rfl)]
    rw [show ((p + 1 : Nat) : Int) = (p : Int) + 1 by omega]
theorem Rd.drewN {w : World} {g p : Nat} (h : Rd w g p) (m : Nat) : Rd (w.drewN m) g p := by
  obtain ⟨a, n, cap, bs, h0, h1, hf, hb, hn, hne⟩ := h
  exact ⟨a, n, cap, bs, h0, h1, hf, ⟨hb.1.below (below_drewN (Below.refl _ _) m), hb.2⟩, hn, hne⟩
theorem Rd.below {w w' : World} {g p : Nat} (h : Rd w g p) (hb : Below w.heap.size w w') : Rd w' g p := by
  obtain ⟨a, n, cap, bs, h0, h1, hf, hbs, hn, hne⟩ := h
  exact ⟨a, n, cap, bs, cell_below hb h0, cell_below hb h1, by rw [hb.frozen (World.block_lt_of_cell? _ _ h1)]; exact hf, ⟨hbs.1.below hb, hbs.2⟩, hn, hne⟩
theorem Rd.lt {w : World} {g p : Nat} (h : Rd w g p) : g < w.heap.size := by
  obtain ⟨a, n, cap, bs, h0, _⟩ := h
  exact World.block_lt_of_cell? _ _ h0
/-- What pick hands back. -/
def RPick (w : World) (g p : Nat) (n : Int) (e : Ending) (w' : World) : Prop := ∃ x : Int, e = .returned (.int .i64 x) ∧ (0 ≤ x ∧ x < n) ∧ Rd w' g (p + 1) ∧ w.grownBy w' (some g)

theorem bytes_get {bs : List Int} (h : ∀ b ∈ bs, 0 ≤ b ∧ b ≤ 255) (k : Nat) (hk : k < bs.length) : 0 ≤ bs[k]?.getD 0 ∧ bs[k]?.getD 0 ≤ 255 := h _ (mem_getI bs k hk)
theorem Bytes.cells {w : World} {a : Option Addr} {n cap : Nat} {bs : List Int} (h : Bytes w a n cap bs) (hn : 0 < n) :
    ∃ b off, a = some ⟨b, off, none⟩ ∧ ∀ i, i < n → w.cell? ⟨b, off + i, none⟩ = some (.int .u8 (bs[i]?.getD 0)) := by
  obtain ⟨b, off, e, hc⟩ := h.1.at_ hn
  refine ⟨b, off, e, fun i hi => hc i _ ?_⟩
  have hl := h.1.len
  simp at hl
  rw [List.getElem?_map, List.getElem?_eq_getElem (by omega)]
  rfl
theorem Bytes.length {w : World} {a : Option Addr} {n cap : Nat} {bs : List Int} (h : Bytes w a n cap bs) : bs.length = n := by
  have hl := h.1.len
  simpa using hl

set_option maxRecDepth 100000 in
set_option maxHeartbeats 4000000 in
theorem spec_pick (g p : Nat) (n : Int) (w : World) (h : Rd w g p) (hp : p ≤ 100000) (h1 : 1 ≤ n) (h2 : n ≤ 1000000) :
    Calls Try.prog 20 #[.pointer (some ⟨g, 0, none⟩), .int .i64 n] w (RPick w g p n) := by
  have HR := Lib.hid h.asked
  obtain ⟨a, m, cap, bs, c0, c1, hf, hb, hm, hne⟩ := h
  have hb1 := (show Bytes (w.setCell ⟨g, 1, none⟩ (.int .i64 ((p : Int) + 1))) a m cap bs from ⟨Cells.apart hb.1 (grown_setCell w g 1 _) (fun h0 x hx => Nat.ne_of_lt (hne h0 x hx)), hb.2⟩)
  have hle := hb.1.le
  have hmx := hb.1.max
  unfold maxLen at hmx
  have d0 : (w.setCell ⟨g, 1, none⟩ (.int .i64 ((p : Int) + 1))).cell? ⟨g, 0, none⟩ = some (.slice a m cap) := by
    rw [World.cell?_setCell_other _ _ _ _ (by intro e; injection e with _ e2 _; cases e2)]; exact c0
  have d1 : (w.setCell ⟨g, 1, none⟩ (.int .i64 ((p : Int) + 1))).cell? ⟨g, 1, none⟩ = some (.int .i64 ((p : Int) + 1)) := by
    rw [World.cell?_setCell_same' _ _ _ (by rw [c1]; rfl)]
  have HG := Lib.hid (grown_setCell w g 1 (.int .i64 ((p : Int) + 1)))
  have HB := Lib.hid hb.2
  have HL := Lib.hid hb.length
  by_cases h0 : m = 0
  · subst h0
    clear hne hb1 hb
    go_enter Try.func20, Try.ntmps20
    go_wp2
    go_ret
    exact ⟨0, rfl, ⟨Int.le_refl _, by omega⟩, HR.out, HG.out⟩
  · have hm0 : ((m : Int) == 0) = false := by rw [beq_eq_false_iff_ne]; omega
    obtain ⟨b, off, rfl, hc⟩ := hb1.cells (by omega)
    by_cases hk : p < m
    · have ck := hc p hk
      have hbd := bytes_get HB.out p (by rw [HL.out]; exact hk)
      clear hne hb1 hb hc
      go_enter Try.func20, Try.ntmps20
      go_wp2
      go_ret
      exact ⟨_, rfl, ⟨Int.emod_nonneg _ (by omega), Int.emod_lt_of_pos _ (by omega)⟩, HR.out, HG.out⟩
    · have hm1 : 0 < m := by omega
      have ck1 := hc (p % m) (Nat.mod_lt _ hm1)
      have ck2 := hc ((p * 7 + 3) % m) (Nat.mod_lt _ hm1)
      have hbd1 := bytes_get HB.out (p % m) (by rw [HL.out]; exact Nat.mod_lt _ hm1)
      have hbd2 := bytes_get HB.out ((p * 7 + 3) % m) (by rw [HL.out]; exact Nat.mod_lt _ hm1)
      clear hne hb1 hb hc
      generalize bs[p % m]?.getD 0 = X at ck1 hbd1
      generalize bs[(p * 7 + 3) % m]?.getD 0 = Y at ck2 hbd2
      go_enter Try.func20, Try.ntmps20
      go_wp2
      have q1 : ((p : Int)).tmod (m : Int) = ((p % m : Nat) : Int) := by rw [Int.tmod_eq_emod_of_nonneg (by omega)]; simp
      have q2 : ((p : Int) * 7 + 3).tmod (m : Int) = (((p * 7 + 3) % m : Nat) : Int) := by rw [Int.tmod_eq_emod_of_nonneg (by omega)]; simp
      have q3 : ((p : Int)).tdiv (m : Int) = ((p / m : Nat) : Int) := by rw [Int.tdiv_eq_ediv_of_nonneg (by omega)]; simp
      have hd : p / m ≤ 100000 := Nat.le_trans (Nat.div_le_self _ _) hp
      have l1 : p % m < m := Nat.mod_lt _ hm1
      have l2 : (p * 7 + 3) % m < m := Nat.mod_lt _ hm1
      generalize p % m = u1 at q1 ck1 l1
      generalize (p * 7 + 3) % m = u2 at q2 ck2 l2
      generalize p / m = u3 at q3 hd
      have v1 : IntKind.i64.wrap X = X := IntWalk.i64_in _ (by omega)
      have v2 : IntKind.i64.wrap Y = Y := IntWalk.i64_in _ (by omega)
      have v3 : IntKind.i64.wrap (X * 131) = X * 131 := IntWalk.i64_in _ (by omega)
      have v4 : IntKind.i64.wrap (Y * 1117) = Y * 1117 := IntWalk.i64_in _ (by omega)
      have v5 : IntKind.i64.wrap (X * 131 + Y * 1117) = X * 131 + Y * 1117 := IntWalk.i64_in _ (by omega)
      have v6 : IntKind.i64.wrap ((p : Int) * 29) = (p : Int) * 29 := IntWalk.i64_in _ (by omega)
      have v7 : IntKind.i64.wrap (X * 131 + Y * 1117 + (p : Int) * 29) = X * 131 + Y * 1117 + (p : Int) * 29 := IntWalk.i64_in _ (by omega)
      have v8 : IntKind.i64.wrap ((u3 : Int) * 53) = (u3 : Int) * 53 := IntWalk.i64_in _ (by omega)
      have v9 : IntKind.i64.wrap (X * 131 + Y * 1117 + (p : Int) * 29 + (u3 : Int) * 53) = X * 131 + Y * 1117 + (p : Int) * 29 + (u3 : Int) * 53 := IntWalk.i64_in _ (by omega)
      have v10 : IntKind.i64.wrap ((p : Int) * 7) = (p : Int) * 7 := IntWalk.i64_in _ (by omega)
      have v11 : IntKind.i64.wrap ((p : Int) * 7 + 3) = (p : Int) * 7 + 3 := IntWalk.i64_in _ (by omega)
      have v12 : IntKind.i64.wrap (u3 : Int) = (u3 : Int) := IntWalk.i64_in _ (by omega)
      have v13 : IntKind.i64.wrap (u1 : Int) = (u1 : Int) := IntWalk.i64_in _ (by omega)
      have v14 : IntKind.i64.wrap (u2 : Int) = (u2 : Int) := IntWalk.i64_in _ (by omega)
      have i1 : (u1 : Int) < m := by omega
      have i2 : (u2 : Int) < m := by omega
      have mne : ¬ (m : Int) = 0 := by omega
      go_quiet (fail)
      clear v1 v2 v3 v4 v5 v6 v7 v8 v9 v10 v11 v12 v13 v14 q1 q2 q3
      have hZ0 : 0 ≤ X * 131 + Y * 1117 + (p : Int) * 29 + (u3 : Int) * 53 := by omega
      have hZ1 : X * 131 + Y * 1117 + (p : Int) * 29 + (u3 : Int) * 53 ≤ 100000000 := by omega
      generalize X * 131 + Y * 1117 + (p : Int) * 29 + (u3 : Int) * 53 = Z at hZ0 hZ1 ⊢
      obtain ⟨z, hz, hz2⟩ := i64_xor Z (Z / 64) hZ0 (by omega) (by omega) (by omega)
      go_wp2
      go_ret
      exact ⟨_, rfl, ⟨Int.emod_nonneg _ (by omega), Int.emod_lt_of_pos _ (by omega)⟩, HR.out.drewN nq, grown_drewN HG.out nq⟩

/-- A new reader. -/
def ROpen (w : World) (e : Ending) (w' : World) : Prop := e = .returned (.pointer (some ⟨w.heap.size, 0, none⟩)) ∧ Rd w' w.heap.size 0 ∧ Below w.heap.size w w'

theorem Bytes.head {w : World} {a : Option Addr} {n cap : Nat} {bs : List Int} (h : Bytes w a n cap bs) {k : Nat} (hk : k ≤ n) : Bytes w a k cap (bs.take k) := by
  have hl := h.length
  have hc := h.1.le
  refine ⟨⟨by simp; omega, by omega, h.1.max, fun hn => ?_⟩, fun b hb => h.2 b (List.mem_of_mem_take hb)⟩
  obtain ⟨b, off, rfl, hcell⟩ := h.1.at_ (by omega)
  refine ⟨b, off, rfl, fun j u hu => hcell j u ?_⟩
  rw [List.map_take, List.getElem?_take] at hu
  by_cases hj : j < k
  · rwa [if_pos hj] at hu
  · rw [if_neg hj] at hu; cases hu
theorem Bytes.block_lt {w : World} {a : Option Addr} {n cap : Nat} {bs : List Int} (h : Bytes w a n cap bs) (hn : 0 < n) : ∀ x, a = some x → x.block < w.heap.size := by
  intro x hx
  obtain ⟨b, off, rfl, hc⟩ := h.cells hn
  cases hx
  exact World.block_lt_of_cell? _ _ (hc 0 hn)
/-- A block of two cells. -/
theorem rd_new {w : World} {a : Option Addr} {n cap : Nat} {bs : List Int} (h : Bytes w a n cap bs) (hn : n ≤ 2000) : Rd (w.alloc (.cells #[.slice a n cap, .int .i64 0] 48)) w.heap.size 0 := by
  refine ⟨a, n, cap, bs, by simp, by simp, by simp, ⟨h.1.below ((Below.refl _ _).alloc (Nat.le_refl _) _), h.2⟩, hn, fun h0 x hx => h.block_lt h0 x hx⟩

theorem spec_l6Open (a : Option Addr) (n cap : Nat) (bs : List Int) (w : World) (h : Bytes w a n cap bs) :
    Calls Try.prog 11 #[.slice a n cap] w (ROpen w) := by
  have hle := h.1.le
  have hmx := h.1.max
  unfold maxLen at hmx
  by_cases hn : n ≤ 2000
  · go_enter Try.func11, Try.ntmps11
    go_wp2
    go_ret
    exact ⟨rfl, rd_new h hn, (Below.refl _ _).alloc (Nat.le_refl _) _⟩
  · go_enter Try.func11, Try.ntmps11
    go_wp2
    go_ret
    exact ⟨rfl, rd_new (h.head (k := 2000) (by omega)) (Nat.le_refl _), (Below.refl _ _).alloc (Nat.le_refl _) _⟩

/-- What a drawing call hands back whose result is a text of at most k bytes. -/
def RText (w : World) (g p q k : Nat) (e : Ending) (w' : World) : Prop := ∃ s : ByteArray, e = .returned (.string s) ∧ s.size ≤ k ∧ (∃ p', p' ≤ p + q ∧ Rd w' g p') ∧ w.grownBy w' (some g)

/-- A slice of texts of one byte each. -/
def Ones (w : World) (b n : Nat) : Prop := ∀ j, j < n → ∃ c : UInt8, w.cell? ⟨b, j, none⟩ = some (.string ⟨#[c]⟩)

theorem spec_of (g p b n : Nat) (w : World) (h : Rd w g p) (hp : p ≤ 100000) (h1 : 1 ≤ n) (h2 : n ≤ 100) (hb : b ≠ g) (ho : Ones w b n) :
    Calls Try.prog 41 #[.pointer (some ⟨g, 0, none⟩), .slice (some ⟨b, 0, none⟩) n n] w (fun e w' => ∃ c : UInt8, e = .returned (.string ⟨#[c]⟩) ∧ Rd w' g (p + 1) ∧ w.grownBy w' (some g)) := by
  have H1 := Lib.hid (spec_pick g p (n : Int) w h hp (by omega) (by omega))
  have HO := Lib.hid ho
  clear ho
  go_enter Try.func41, Try.ntmps41
  go_wp2_with (go_at_call 20; refine H1.out.mono ?_; rintro e w1 ⟨x, rfl, ⟨hx0, hx1⟩, r1, g1⟩; obtain ⟨X, rfl⟩ := Int.eq_ofNat_of_zero_le hx0; obtain ⟨c, hc⟩ := HO.out X (by omega); have hc1 : w1.cell? ⟨b, X, none⟩ = some (.string ⟨#[c]⟩) := (World.cell?_of_block (a := ⟨b, X, none⟩) (g1.5 b (World.block_lt_of_cell? _ _ hc) (by intro q; cases q; exact hb rfl))).trans hc)
  go_ret
  exact ⟨c, rfl, r1, g1⟩

theorem grown_alloc (w : World) (o : Obj) (r : Option Nat) : w.grownBy (w.alloc o) r := grown_below ((Below.refl _ _).alloc (Nat.le_refl _) o) r
theorem size_add1 (s : ByteArray) (c : UInt8) : (s ++ ⟨#[c]⟩ : ByteArray).size = s.size + 1 := by
  rw [ByteArray.size_append]; rfl

set_option maxHeartbeats 1000000 in
theorem spec_l91Text (g p : Nat) (n : Nat) (w : World) (h : Rd w g p) (hp : p + n ≤ 100000) :
    Calls Try.prog 21 #[.pointer (some ⟨g, 0, none⟩), .int .i64 n] w (RText w g p n n) := by
  go_enter Try.func21, Try.ntmps21
  go_wp2
  go_loopw [5, 6] (fun t i wr => ∃ (k : Nat) (s : ByteArray), k ≤ n ∧ i = .int .i64 k ∧ t = .string s ∧ s.size ≤ k ∧ Rd wr g (p + k) ∧ w.grownBy wr (some g)) (fun _ i _ => n - (intOf i).toNat)
  case atStart => exact ⟨0, _, Nat.zero_le _, rfl, rfl, Nat.le_refl _, h, World.grownBy.refl _ _⟩
  case round =>
    obtain ⟨k, s, hk, rfl, rfl, hs, hr, hg⟩ := hrel
    by_cases hlt : k < n
    · have hr1 := hr.below ((Below.refl _ _).alloc (Nat.le_refl _) (.cells #[.string ⟨#[77]⟩, .string ⟨#[86]⟩] 9))
      have H1 := Lib.hid (spec_of g (p + k) wr.heap.size 2 _ hr1 (by omega) (by omega) (by omega) (Nat.ne_of_gt hr.lt) (fun j hj => by
        match j, hj with
        | 0, _ => exact ⟨77, by simp⟩
        | 1, _ => exact ⟨86, by simp⟩))
      go_wp2_with (go_at_call 41; refine H1.out.mono ?_; rintro e w1 ⟨c, rfl, r1, g1⟩)
      go_roundw
      case rel => exact ⟨k + 1, _, by omega, by go_num, rfl, by rw [size_add1]; omega, r1, grown_trans (grown_trans hg (grown_alloc _ _ _)) g1⟩
      case measure => simp [intOf]; omega
    · go_wp2
      go_ret
      exact ⟨s, rfl, by omega, ⟨p + k, by omega, hr⟩, hg⟩

/-- What a drawing call hands back: some text. -/
def RSome (w : World) (k : Nat) (e : Ending) (w' : World) : Prop := ∃ s : ByteArray, e = .returned (.string s) ∧ s.size ≤ k ∧ Below w.heap.size w w'

end Go.Proofs.Ytahbflbhkalehaa
