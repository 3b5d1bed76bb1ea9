/-
  The ring of linked creases that impl.newCreaseRing makes.
-/
import Derived.Test.YteigbpmfjiofiabCrimps
namespace Go.Proofs.Yteigbpmfjiofiab
open Go.RowKit

/-- A ring of k linked creases in the blocks behind R. -/
structure RingAt (W : World) (R k : Nat) (xs : List Int) (s : ByteArray) : Prop where
  many : W.cell? ⟨R, 1, none⟩ = some (.int .i64 k)
  first : W.cell? ⟨R, 0, none⟩ = some (.pointer (if k = 0 then none else some ⟨R + 1, 0, none⟩))
  ang : ∀ j, j < k → W.cell? ⟨R + 1 + j, 0, none⟩ = some (.int .i64 (xs[j]?.getD 0))
  fol : ∀ j, j < k → W.cell? ⟨R + 1 + j, 1, none⟩ = some (.int .u8 ((bAt s j).toNat : Int))
  prev : ∀ j, j < k → W.cell? ⟨R + 1 + j, 2, none⟩ = some (.pointer (some ⟨R + 1 + (if j = 0 then k - 1 else j - 1), 0, none⟩))
  next : ∀ j, j < k → W.cell? ⟨R + 1 + j, 3, none⟩ = some (.pointer (some ⟨R + 1 + (if j + 1 = k then 0 else j + 1), 0, none⟩))
  frz : ∀ i u, R ≤ i → i < R + 1 + k → W.frozen? ⟨i, u, none⟩ = false
  blk : ∀ j, j < k → ∃ c, W.heap[R + 1 + j]? = some (.cells c 83 (0, 0))

theorem set_blk {W : World} {p : Addr} {v : Value} {b : Nat} {t : TypeId} (h : ∃ c, W.heap[b]? = some (.cells c t (0, 0))) : ∃ c, (W.setCell p v).heap[b]? = some (.cells c t (0, 0)) := by
  obtain ⟨c, hc⟩ := h
  by_cases e : p.block = b
  · subst e
    refine ⟨if p.spot.isSome then c else c.setIfInBounds p.off v, ?_⟩
    unfold World.setCell
    simp [Array.getElem?_modify, hc]
  · refine ⟨c, ?_⟩
    unfold World.setCell
    simp [Array.getElem?_modify, e, hc]

theorem set_other {W : World} {b o b' o' : Nat} {v x : Value} (h : W.cell? ⟨b', o', none⟩ = some x) (hne : b ≠ b' ∨ o ≠ o') : (W.setCell ⟨b, o, none⟩ v).cell? ⟨b', o', none⟩ = some x :=
  (World.cell?_setCell_other W ⟨b, o, none⟩ ⟨b', o', none⟩ v (by intro e; injection e with e1 e2 _; omega)).trans h
theorem set_same {W : World} {b o : Nat} {v x : Value} (h : W.cell? ⟨b, o, none⟩ = some x) : (W.setCell ⟨b, o, none⟩ v).cell? ⟨b, o, none⟩ = some v := by
  rw [World.cell?_setCell_same' _ _ _ (by rw [h]; rfl)]
theorem set_frz {W : World} {p q : Addr} {v : Value} {b : Bool} (h : W.frozen? q = b) : (W.setCell p v).frozen? q = b := by
  rw [World.frozen?_setCell]; exact h

theorem ring_zero {wr Wb : World} {R k : Nat} {xs : List Int} {s : ByteArray} {x : Int} {c : UInt8} (hB : Below wr.heap.size wr Wb) (h : RingAt wr R k xs s) (hk : k = 0) (hG : wr.heap.size = R + 1 + k) (hx : xs[k]?.getD 0 = x) (hc : bAt s k = c)
    (g0 : Wb.cell? ⟨wr.heap.size, 0, none⟩ = some (.int .i64 x)) (g1 : Wb.cell? ⟨wr.heap.size, 1, none⟩ = some (.int .u8 (c.toNat : Int))) (g2 : Wb.cell? ⟨wr.heap.size, 2, none⟩ = some (.pointer (some ⟨wr.heap.size, 0, none⟩))) (g3 : Wb.cell? ⟨wr.heap.size, 3, none⟩ = some (.pointer (some ⟨wr.heap.size, 0, none⟩)))
    (frz : ∀ i u, R ≤ i → i < R + 1 + (k + 1) → Wb.frozen? ⟨i, u, none⟩ = false) (hblk : ∃ c, Wb.heap[wr.heap.size]? = some (.cells c 83 (0, 0))) :
    RingAt ((Wb.setCell ⟨R, 0, none⟩ (.pointer (some ⟨wr.heap.size, 0, none⟩))).setCell ⟨R, 1, none⟩ (.int .i64 ((k : Int) + 1))) R (k + 1) xs s := by
  have hne : R ≠ wr.heap.size := by omega
  have e0 := cell_below hB h.first
  have e1 := cell_below hB h.many
  subst hk
  refine ⟨?_, ?_, fun j hj => ?_, fun j hj => ?_, fun j hj => ?_, fun j hj => ?_, fun i u h1 h2 => set_frz (set_frz (frz i u h1 h2)), fun j hj => set_blk (set_blk (by obtain rfl : j = 0 := (by omega); rw [← hG]; exact hblk))⟩
  · exact set_same (set_other e1 (.inr (by decide)))
  · rw [if_neg (by omega), show R + 1 = wr.heap.size by omega]
    exact set_other (set_same e0) (.inr (by decide))
  · obtain rfl : j = 0 := by omega
    rw [← hG, hx]
    exact set_other (set_other g0 (.inl hne)) (.inl hne)
  · obtain rfl : j = 0 := by omega
    rw [← hG, hc]
    exact set_other (set_other g1 (.inl hne)) (.inl hne)
  · obtain rfl : j = 0 := by omega
    rw [if_pos rfl, show R + 1 + (0 + 1 - 1) = wr.heap.size by omega]
    exact set_other (set_other g2 (.inl hne)) (.inl hne)
  · obtain rfl : j = 0 := by omega
    rw [if_pos rfl, ← hG]
    exact set_other (set_other g3 (.inl hne)) (.inl hne)
theorem ring_more {wr Wb : World} {R k F L : Nat} {xs : List Int} {s : ByteArray} {x : Int} {c : UInt8} (hB : Below wr.heap.size wr Wb) (h : RingAt wr R k xs s) (hk : ¬ k = 0) (hG : wr.heap.size = R + 1 + k) (hF : R + 1 = F) (hL : F + (k - 1) = L) (hx : xs[k]?.getD 0 = x) (hc : bAt s k = c)
    (g0 : Wb.cell? ⟨wr.heap.size, 0, none⟩ = some (.int .i64 x)) (g1 : Wb.cell? ⟨wr.heap.size, 1, none⟩ = some (.int .u8 (c.toNat : Int))) (g2 : Wb.cell? ⟨wr.heap.size, 2, none⟩ = some (.pointer (some ⟨L, 0, none⟩))) (g3 : Wb.cell? ⟨wr.heap.size, 3, none⟩ = some (.pointer (some ⟨F, 0, none⟩)))
    (frz : ∀ i u, R ≤ i → i < R + 1 + (k + 1) → Wb.frozen? ⟨i, u, none⟩ = false) (hblk : ∃ c, Wb.heap[wr.heap.size]? = some (.cells c 83 (0, 0))) :
    RingAt (((Wb.setCell ⟨L, 3, none⟩ (.pointer (some ⟨wr.heap.size, 0, none⟩))).setCell ⟨F, 2, none⟩ (.pointer (some ⟨wr.heap.size, 0, none⟩))).setCell ⟨R, 1, none⟩ (.int .i64 ((k : Int) + 1))) R (k + 1) xs s := by
  have e0 := cell_below hB h.first
  have e1 := cell_below hB h.many
  rw [if_neg hk] at e0
  refine ⟨?_, ?_, fun j hj => ?_, fun j hj => ?_, fun j hj => ?_, fun j hj => ?_, fun i u h1 h2 => set_frz (set_frz (set_frz (frz i u h1 h2))), fun j hj => set_blk (set_blk (set_blk (by
    by_cases hjk : j < k
    · obtain ⟨c, e⟩ := h.blk j hjk
      exact ⟨c, by rw [hB.block (R + 1 + j) (by omega)]; exact e⟩
    · obtain rfl : j = k := (by omega)
      rw [← hG]; exact hblk)))⟩
  · exact set_same (set_other (set_other e1 (.inr (by decide))) (.inr (by decide)))
  · rw [if_neg (by omega)]
    exact set_other (set_other (set_other e0 (.inr (by decide))) (.inr (by decide))) (.inr (by decide))
  · by_cases hjk : j < k
    · exact set_other (set_other (set_other (cell_below hB (h.ang j hjk)) (.inr (by decide))) (.inr (by decide))) (.inr (by decide))
    · obtain rfl : j = k := by omega
      rw [hx, ← hG]
      exact set_other (set_other (set_other g0 (.inr (by decide))) (.inr (by decide))) (.inr (by decide))
  · by_cases hjk : j < k
    · exact set_other (set_other (set_other (cell_below hB (h.fol j hjk)) (.inr (by decide))) (.inr (by decide))) (.inl (by omega))
    · obtain rfl : j = k := by omega
      rw [hc, ← hG]
      exact set_other (set_other (set_other g1 (.inr (by decide))) (.inr (by decide))) (.inl (by omega))
  · by_cases hj0 : j = 0
    · subst hj0
      have := cell_below hB (h.prev 0 (by omega))
      rw [if_pos rfl, show R + 1 + (k + 1 - 1) = wr.heap.size by omega]
      rw [show R + 1 + 0 = F by omega] at this ⊢
      exact set_other (set_same (set_other this (.inr (by decide)))) (.inr (by decide))
    · rw [if_neg hj0]
      by_cases hjk : j < k
      · have := cell_below hB (h.prev j hjk)
        rw [if_neg hj0] at this
        exact set_other (set_other (set_other this (.inr (by decide))) (.inl (by omega))) (.inr (by decide))
      · obtain rfl : j = k := by omega
        rw [← hG, show R + 1 + (j - 1) = L by omega]
        exact set_other (set_other (set_other g2 (.inr (by decide))) (.inl (by omega))) (.inr (by decide))
  · by_cases hjk : j < k
    · have := cell_below hB (h.next j hjk)
      rw [if_neg (by omega)]
      by_cases hj1 : j + 1 = k
      · rw [show R + 1 + (j + 1) = wr.heap.size by omega]
        rw [show R + 1 + j = L by omega] at this ⊢
        exact set_other (set_other (set_same this) (.inr (by decide))) (.inr (by decide))
      · rw [if_neg hj1] at this
        exact set_other (set_other (set_other this (.inl (by omega))) (.inr (by decide))) (.inr (by decide))
    · obtain rfl : j = k := by omega
      rw [if_pos rfl, ← hG, show R + 1 + 0 = F by omega]
      exact set_other (set_other (set_other g3 (.inl (by omega))) (.inr (by decide))) (.inr (by decide))

set_option maxRecDepth 100000 in
set_option maxHeartbeats 1000000 in
theorem impl_newCreaseRing (a : Option Addr) (n cap : Nat) (xs : List Int) (s : ByteArray) (w : World) (h : Ints w a n cap xs) (hn : n ≤ 1048576) (hs : s.size = n) :
    Calls Try.prog 49 #[.slice a n cap, .string s] w fun e w' => e = .returned (.pointer (some ⟨w.heap.size, 0, none⟩)) ∧ RingAt w' w.heap.size n xs s ∧ Below w.heap.size w w' := by
  have HL := Lib.hid h.length
  go_enter Try.func49, Try.ntmps49
  have hle := h.le_cap
  have hmx := h.cap_max
  go_wp2_with fail
  go_loopw [14] (fun i wr => ∃ k : Nat, k ≤ n ∧ i = .int .i64 k ∧ RingAt wr w.heap.size k xs s ∧ wr.heap.size = w.heap.size + 1 + k ∧ Below w.heap.size w wr) (fun i _ => n - (intOf i).toNat)
  case atStart => exact ⟨0, Nat.zero_le _, rfl, ⟨by simp, by simp, fun j hj => absurd hj (Nat.not_lt_zero _), fun j hj => absurd hj (Nat.not_lt_zero _), fun j hj => absurd hj (Nat.not_lt_zero _), fun j hj => absurd hj (Nat.not_lt_zero _), fun i u h1 h2 => by have e : i = w.heap.size := (by omega); subst e; simp, fun j hj => absurd hj (Nat.not_lt_zero _)⟩, by simp, (Below.refl _ _).alloc (Nat.le_refl _) _⟩
  case round =>
    obtain ⟨k, hk, rfl, HR, hsz, hB⟩ := hrel
    by_cases hlt : k < n
    · obtain ⟨bb, off, ea, hc⟩ := (h.below hB).cells (by omega)
      subst ea
      have hck := hc k hlt
      clear hc
      have hks : k < s.size := by omega
      have hksI : (k : Int) < (s.size : Int) := by omega
      have hltI : (k : Int) < (n : Int) := by omega
      have HRh := Lib.hid HR
      have HSZ := Lib.hid hsz
      have HBK := Lib.hid (bAt_get s k hks)
      have BA := fun (p q : Value) => (show Below w.heap.size w (wr.alloc (.cells #[.int .i64 (xs[k]?.getD 0), .int .u8 (s[k].toNat : Int), p, q] 83)) from hB.alloc hB.size _)
      have BB := fun (p q : Value) => (show Below wr.heap.size wr (wr.alloc (.cells #[.int .i64 (xs[k]?.getD 0), .int .u8 (s[k].toNat : Int), p, q] 83)) from (Below.refl _ _).alloc (Nat.le_refl _) _)
      have GF := fun (p q : Value) (i u : Nat) (h1 : w.heap.size ≤ i) (h2 : i < w.heap.size + 1 + (k + 1)) => (show (wr.alloc (.cells #[.int .i64 (xs[k]?.getD 0), .int .u8 (s[k].toNat : Int), p, q] 83)).frozen? ⟨i, u, none⟩ = false by
        rw [Go.RowKit.frozen?_alloc_cells]
        by_cases h3 : i < w.heap.size + 1 + k
        · exact HR.frz i u h1 h3
        · have e : i = wr.heap.size := (by omega)
          subst e
          simp [World.frozen?])
      have z0 := cell_below (BB (.pointer none) (.pointer none)) HR.first
      have BAh := Lib.hid BA
      have BBh := Lib.hid BB
      have GFh := Lib.hid GF
      clear HR hsz BA BB GF HL
      by_cases hk0 : k = 0
      · rw [if_pos hk0] at z0
        have hne : w.heap.size ≠ wr.heap.size := by have := HSZ.out; omega
        have y0 := cell_below (BBh.out (.pointer (some ⟨wr.heap.size, 0, none⟩)) (.pointer (some ⟨wr.heap.size, 0, none⟩))) HRh.out.first
        have y1 := set_other (b := w.heap.size) (o := 0) (v := .pointer (some ⟨wr.heap.size, 0, none⟩)) (cell_below (BBh.out (.pointer (some ⟨wr.heap.size, 0, none⟩)) (.pointer (some ⟨wr.heap.size, 0, none⟩))) HRh.out.many) (.inr (by decide))
        have q0 := GFh.out (.pointer (some ⟨wr.heap.size, 0, none⟩)) (.pointer (some ⟨wr.heap.size, 0, none⟩)) w.heap.size 0 (Nat.le_refl _) (by omega)
        have q1 := GFh.out (.pointer (some ⟨wr.heap.size, 0, none⟩)) (.pointer (some ⟨wr.heap.size, 0, none⟩)) w.heap.size 1 (Nat.le_refl _) (by omega)
        have HK := Lib.hid hk0
        clear hk0
        go_wp2_with fail
        go_roundw
        case rel => exact ⟨k + 1, by omega, by go_num, ring_zero (BBh.out _ _) HRh.out HK.out HSZ.out rfl HBK.out (by simp) (by simp) (by simp) (by simp) (GFh.out _ _) ⟨_, heap_alloc_new wr _⟩, by simp; have := HSZ.out; omega, ((BAh.out _ _).setCell (p := ⟨w.heap.size, 0, none⟩) (Nat.le_refl _) _).setCell (p := ⟨w.heap.size, 1, none⟩) (Nat.le_refl _) _⟩
        case measure => simp [intOf]; omega
      · rw [if_neg hk0] at z0
        have hp : (wr.alloc (.cells #[.int .i64 (xs[k]?.getD 0), .int .u8 (s[k].toNat : Int), .pointer none, .pointer none] 83)).cell? ⟨w.heap.size + 1, 2, none⟩ = some (.pointer (some ⟨w.heap.size + 1 + (k - 1), 0, none⟩)) := by
          have := cell_below (BBh.out (.pointer none) (.pointer none)) (HRh.out.prev 0 (by omega))
          rwa [if_pos rfl] at this
        obtain ⟨F, hF⟩ : ∃ F, w.heap.size + 1 = F := ⟨_, rfl⟩
        obtain ⟨L, hL⟩ : ∃ L, F + (k - 1) = L := ⟨_, rfl⟩
        rw [hF] at hp z0
        rw [hL] at hp
        have y0 : (wr.alloc (.cells #[.int .i64 (xs[k]?.getD 0), .int .u8 (s[k].toNat : Int), .pointer (some ⟨L, 0, none⟩), .pointer (some ⟨F, 0, none⟩)] 83)).cell? ⟨w.heap.size, 0, none⟩ = some (.pointer (some ⟨F, 0, none⟩)) := by
          have := cell_below (BBh.out (.pointer (some ⟨L, 0, none⟩)) (.pointer (some ⟨F, 0, none⟩))) HRh.out.first
          rwa [if_neg hk0, hF] at this
        have y3 : (wr.alloc (.cells #[.int .i64 (xs[k]?.getD 0), .int .u8 (s[k].toNat : Int), .pointer (some ⟨L, 0, none⟩), .pointer (some ⟨F, 0, none⟩)] 83)).cell? ⟨L, 3, none⟩ = some (.pointer (some ⟨F, 0, none⟩)) := by
          have := cell_below (BBh.out (.pointer (some ⟨L, 0, none⟩)) (.pointer (some ⟨F, 0, none⟩))) (HRh.out.next (k - 1) (by omega))
          rwa [if_pos (by omega), hF, hL] at this
        have y2 : (wr.alloc (.cells #[.int .i64 (xs[k]?.getD 0), .int .u8 (s[k].toNat : Int), .pointer (some ⟨L, 0, none⟩), .pointer (some ⟨F, 0, none⟩)] 83)).cell? ⟨F, 2, none⟩ = some (.pointer (some ⟨L, 0, none⟩)) := by
          have := cell_below (BBh.out (.pointer (some ⟨L, 0, none⟩)) (.pointer (some ⟨F, 0, none⟩))) (HRh.out.prev 0 (by omega))
          rwa [if_pos rfl, hF, hL] at this
        have y1 := cell_below (BBh.out (.pointer (some ⟨L, 0, none⟩)) (.pointer (some ⟨F, 0, none⟩))) HRh.out.many
        have v2 := set_other (b := L) (o := 3) (v := .pointer (some ⟨wr.heap.size, 0, none⟩)) y2 (.inr (by decide))
        have v1 := set_other (b := F) (o := 2) (v := .pointer (some ⟨wr.heap.size, 0, none⟩)) (set_other (b := L) (o := 3) (v := .pointer (some ⟨wr.heap.size, 0, none⟩)) y1 (.inr (by decide))) (.inr (by decide))
        have q3 := GFh.out (.pointer (some ⟨L, 0, none⟩)) (.pointer (some ⟨F, 0, none⟩)) L 3 (by omega) (by omega)
        have q2 := GFh.out (.pointer (some ⟨L, 0, none⟩)) (.pointer (some ⟨F, 0, none⟩)) F 2 (by omega) (by omega)
        have q1 := GFh.out (.pointer (some ⟨L, 0, none⟩)) (.pointer (some ⟨F, 0, none⟩)) w.heap.size 1 (Nat.le_refl _) (by omega)
        have n1 : F ≠ wr.heap.size := by have := HSZ.out; omega
        have n2 : L ≠ wr.heap.size := by have := HSZ.out; omega
        have n3 : w.heap.size ≠ wr.heap.size := by have := HSZ.out; omega
        have HFh := Lib.hid hF
        have HLh := Lib.hid hL
        have HK := Lib.hid hk0
        clear hF hL hk0
        go_wp2_with fail
        go_roundw
        case rel => exact ⟨k + 1, by omega, by go_num, ring_more (BBh.out _ _) HRh.out HK.out HSZ.out HFh.out HLh.out rfl HBK.out (by simp) (by simp) (by simp) (by simp) (GFh.out _ _) ⟨_, heap_alloc_new wr _⟩, by simp; have := HSZ.out; omega, (((BAh.out _ _).setCell (p := ⟨L, 3, none⟩) (by have := HFh.out; have := HLh.out; show _ ≤ L; omega) _).setCell (p := ⟨F, 2, none⟩) (by have := HFh.out; show _ ≤ F; omega) _).setCell (p := ⟨w.heap.size, 1, none⟩) (Nat.le_refl _) _⟩
        case measure => simp [intOf]; omega
    · obtain rfl : k = n := by omega
      have HRh := Lib.hid HR
      clear HR
      go_wp2_with fail
      go_ret
      exact ⟨rfl, HRh.out, hB⟩

end Go.Proofs.Yteigbpmfjiofiab
