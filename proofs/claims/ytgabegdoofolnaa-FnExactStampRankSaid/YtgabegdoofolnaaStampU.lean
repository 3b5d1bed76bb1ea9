/-
  What the reference's StampTurn computes, by a walk.
-/
import Derived.Test.YtgabegdoofolnaaStampT
namespace Go.Proofs.Ytgabegdoofolnaa
open Go.RowKit

theorem OwnI.lit0' (w : World) {base g : Nat} (hg : g = w.heap.size) (hb : base ≤ w.heap.size) : OwnI (w.alloc (.cells #[] 3)) base (some ⟨g, 0, none⟩) 0 0 [] := by
  subst hg; exact OwnI.lit0 w hb

set_option maxHeartbeats 1000000 in
theorem spec_StampTurn_yes (a : Option Addr) (n cap : Nat) (xs : List Int) (w : World) (h : Ints w a n cap xs) (hn : n ≤ 1048576) (hv : possB xs = true) :
    Calls Try.prog 19 #[.slice a n cap] w (RIntsB w (turnL xs) true) := by
  have H1 := spec_StampPossible a n cap xs w h hn
  have hl := possB_len hv
  rw [h.length] at hl
  obtain ⟨hl1, hl2⟩ := hl
  rw [hv] at H1
  have H1 := Lib.hid H1
  have H := Lib.hid h.length
  have hle := h.le_cap
  clear hv
  have HT : Hid (turnL xs = xs.drop 1 ++ [xs[0]?.getD 0]) := rfl
  obtain ⟨b, off, rfl, hc⟩ := h.cells (by omega)
  have h0 := hc 0 (by omega)
  rw [Nat.add_zero] at h0
  clear hc
  have HC := Lib.hid h0
  clear h0
  by_cases hcap : cap = 1
  · have hn1 : n = 1 := by omega
    subst hcap hn1
    go_enter Try.func19, Try.ntmps19
    go_wp2_with (first | (go_at_call 39; refine H1.out.mono ?_; rintro e w1 ⟨rfl, b1⟩; have hc1 := cell_below b1 HC.out))
    have hcA := cell_below (b1.alloc b1.size (.cells #[] 3)) HC.out
    have bb1 : Below w.heap.size w (w1.alloc (.cells #[] 3)).drew := (b1.alloc b1.size _).drew
    have bb2 : Below w.heap.size w ((w1.alloc (.cells #[] 3)).alloc (.cells #[.int .i64 (xs[0]?.getD 0)] 3)).drew := ((b1.alloc b1.size _).alloc (by have := b1.size; simp; omega) _).drew
    have bb3 : Below w.heap.size w ((w1.alloc (.cells #[.int .i64 (xs[0]?.getD 0)] 3)).alloc (.cells #[] 3)).drew := ((b1.alloc b1.size _).alloc (by have := b1.size; simp; omega) _).drew
    go_region_law (first | (refine step_append_ints tyInts rfl (.tmp 8) (.tmp 10) rfl w.heap.size (some ⟨w1.heap.size, 0, none⟩) 0 0 [] (by simp [Act.eval]) (OwnI.lit0 w1 b1.size).drew (some ⟨b, off, none⟩) 0 0 [] (by simp [Act.eval]) (Ints.empty _ _ (by unfold maxLen; omega)) (by omega) bb1.size ?_; intro A2 c2 w2 o2 g2 e2; have b2 := Below.appended bb1 bb1.size g2 (fun x e => by cases e; exact b1.size); clear g2 e2; have hc2 := cell_below b2 HC.out; simp only [Nat.zero_add, List.nil_append] at o2 ⊢) | (refine step_append_ints tyInts rfl (.tmp 8) (.tmp 10) rfl w.heap.size (some ⟨w1.heap.size, 0, none⟩) 0 0 [] (by simp [Act.eval]) ((OwnI.lit0 w1 b1.size).below (((Below.refl _ _).alloc (Nat.le_refl _) _).drew)) (some ⟨b, off, none⟩) 0 0 [] (by simp [Act.eval]) (Ints.empty _ _ (by unfold maxLen; omega)) (by omega) bb2.size ?_; intro A2 c2 w2 o2 g2 e2; have b2 := Below.appended bb2 bb2.size g2 (fun x e => by cases e; exact b1.size); have hy : w2.cell? ⟨w1.heap.size + 1, 0, none⟩ = some (.int .i64 (xs[0]?.getD 0)) := (g2.cell_far ⟨w1.heap.size + 1, 0, none⟩ (by simp) (by simp)).trans (by simp); clear g2 e2; have hc2 := cell_below b2 HC.out; simp only [Nat.zero_add, List.nil_append] at o2 ⊢) | (refine step_append_ints tyInts rfl (.tmp 8) (.tmp 10) rfl w.heap.size (some ⟨w1.heap.size + 1, 0, none⟩) 0 0 [] (by simp [Act.eval]) (OwnI.lit0' (w1.alloc (.cells #[.int .i64 (xs[0]?.getD 0)] 3)) (g := w1.heap.size + 1) (by simp) (by have := b1.size; simp; omega)).drew (some ⟨b, off, none⟩) 0 0 [] (by simp [Act.eval]) (Ints.empty _ _ (by unfold maxLen; omega)) (by omega) bb3.size ?_; intro A2 c2 w2 o2 g2 e2; have b2 := Below.appended bb3 bb3.size g2 (fun x e => by cases e; have := b1.size; simp; omega); have hy : w2.cell? ⟨w1.heap.size, 0, none⟩ = some (.int .i64 (xs[0]?.getD 0)) := (g2.cell_far ⟨w1.heap.size, 0, none⟩ (by simp <;> omega) (by simp <;> omega)).trans (by simp); clear g2 e2; have hc2 := cell_below b2 HC.out; simp only [Nat.zero_add, List.nil_append] at o2 ⊢) | (refine step_append_int tyInts rfl (.tmp 11) (.tmp 15) rfl w.heap.size A2 0 c2 [] (by simp [Act.eval]) (o2.below ((Below.refl _ _).alloc (Nat.le_refl _) _)) w2.heap.size (xs[0]?.getD 0) (by simp [Act.eval]) (by simp) (by omega) (by have := b2.size; first | exact this | (simp; omega)) ?_; intro A3 c3 w3 o3 g3 e3; have b3 := Below.appended (b2.alloc b2.size _) (by have := b2.size; first | exact this | (simp; omega)) g3 o2.base_le; clear g3 e3) | (refine step_append_int tyInts rfl (.tmp 11) (.tmp 15) rfl w.heap.size A2 0 c2 [] (by simp [Act.eval]) o2 (w1.heap.size + 1) (xs[0]?.getD 0) (by simp [Act.eval]) hy (by omega) (by have := b2.size; first | exact this | (simp; omega)) ?_; intro A3 c3 w3 o3 g3 e3; have b3 := Below.appended b2 (by have := b2.size; first | exact this | (simp; omega)) g3 o2.base_le; clear g3 e3) | (refine step_append_int tyInts rfl (.tmp 11) (.tmp 15) rfl w.heap.size A2 0 c2 [] (by simp [Act.eval]) o2 w1.heap.size (xs[0]?.getD 0) (by simp [Act.eval]) hy (by omega) (by have := b2.size; first | exact this | (simp; omega)) ?_; intro A3 c3 w3 o3 g3 e3; have b3 := Below.appended b2 (by have := b2.size; first | exact this | (simp; omega)) g3 o2.base_le; clear g3 e3) | (refine step_append_int tyInts rfl (.tmp 11) (.tmp 15) rfl w.heap.size (some ⟨w1.heap.size + 1, 0, none⟩) 0 0 [] (by simp [Act.eval]) (OwnI.lit0' (w1.alloc (.cells #[.int .i64 (xs[0]?.getD 0)] 3)) (g := w1.heap.size + 1) (by simp) (by have := b1.size; simp; omega)).drew w1.heap.size (xs[0]?.getD 0) (by simp [Act.eval]) (by simp) (by omega) bb3.size ?_; intro A3 c3 w3 o3 g3 e3; have b3 := Below.appended bb3 bb3.size g3 (fun x e => by cases e; have := b1.size; simp; omega); clear g3 e3) | (refine step_append_int tyInts rfl (.tmp 11) (.tmp 15) rfl w.heap.size (some ⟨w1.heap.size, 0, none⟩) 0 0 [] (by simp [Act.eval]) ((OwnI.lit0 w1 b1.size).below (((Below.refl _ _).alloc (Nat.le_refl _) _).drew)) (w1.heap.size + 1) (xs[0]?.getD 0) (by simp [Act.eval]) (by simp) (by omega) bb2.size ?_; intro A3 c3 w3 o3 g3 e3; have b3 := Below.appended bb2 bb2.size g3 (fun x e => by cases e; exact b1.size); clear g3 e3))
    all_goals
      go_wp2
      go_ret2
      refine ⟨_, _, _, rfl, ?_, b3⟩
      rw [HT.out]
      rw [List.drop_of_length_le (by rw [H.out]; omega)]
      exact o3
  · have hcl : 1 < cap := by omega
    have hcn : ¬ cap = 1 := hcap
    have h1n : (1 : Int) ≤ n := by omega
    have h1c : 1 ≤ cap := by omega
    have h0n : 0 < n := by omega
    go_enter Try.func19, Try.ntmps19
    go_wp2_with (first | (go_at_call 39; refine H1.out.mono ?_; rintro e w1 ⟨rfl, b1⟩; have hc1 := cell_below b1 HC.out))
    have hcA := cell_below (b1.alloc b1.size (.cells #[] 3)) HC.out
    have bb1 : Below w.heap.size w (w1.alloc (.cells #[] 3)).drew := (b1.alloc b1.size _).drew
    have bb2 : Below w.heap.size w ((w1.alloc (.cells #[] 3)).alloc (.cells #[.int .i64 (xs[0]?.getD 0)] 3)).drew := ((b1.alloc b1.size _).alloc (by have := b1.size; simp; omega) _).drew
    have bb3 : Below w.heap.size w ((w1.alloc (.cells #[.int .i64 (xs[0]?.getD 0)] 3)).alloc (.cells #[] 3)).drew := ((b1.alloc b1.size _).alloc (by have := b1.size; simp; omega) _).drew
    go_region_law (first | (refine step_append_ints tyInts rfl (.tmp 8) (.tmp 10) rfl w.heap.size (some ⟨w1.heap.size, 0, none⟩) 0 0 [] (by simp [Act.eval]) (OwnI.lit0 w1 b1.size).drew (some ⟨b, off + 1, none⟩) (n - 1) (cap - 1) (xs.drop 1) (by simp [Act.eval]) (by have q := (h.below bb1).cut' (k := 1) (by omega) (by omega); rwa [Option.map_some, add_addr] at q) (by omega) bb1.size ?_; intro A2 c2 w2 o2 g2 e2; have b2 := Below.appended bb1 bb1.size g2 (fun x e => by cases e; exact b1.size); clear g2 e2; have hc2 := cell_below b2 HC.out; simp only [Nat.zero_add, List.nil_append] at o2 ⊢) | (refine step_append_ints tyInts rfl (.tmp 8) (.tmp 10) rfl w.heap.size (some ⟨w1.heap.size, 0, none⟩) 0 0 [] (by simp [Act.eval]) ((OwnI.lit0 w1 b1.size).below (((Below.refl _ _).alloc (Nat.le_refl _) _).drew)) (some ⟨b, off + 1, none⟩) (n - 1) (cap - 1) (xs.drop 1) (by simp [Act.eval]) (by have q := (h.below bb2).cut' (k := 1) (by omega) (by omega); rwa [Option.map_some, add_addr] at q) (by omega) bb2.size ?_; intro A2 c2 w2 o2 g2 e2; have b2 := Below.appended bb2 bb2.size g2 (fun x e => by cases e; exact b1.size); have hy : w2.cell? ⟨w1.heap.size + 1, 0, none⟩ = some (.int .i64 (xs[0]?.getD 0)) := (g2.cell_far ⟨w1.heap.size + 1, 0, none⟩ (by simp) (by simp)).trans (by simp); clear g2 e2; have hc2 := cell_below b2 HC.out; simp only [Nat.zero_add, List.nil_append] at o2 ⊢) | (refine step_append_ints tyInts rfl (.tmp 8) (.tmp 10) rfl w.heap.size (some ⟨w1.heap.size + 1, 0, none⟩) 0 0 [] (by simp [Act.eval]) (OwnI.lit0' (w1.alloc (.cells #[.int .i64 (xs[0]?.getD 0)] 3)) (g := w1.heap.size + 1) (by simp) (by have := b1.size; simp; omega)).drew (some ⟨b, off + 1, none⟩) (n - 1) (cap - 1) (xs.drop 1) (by simp [Act.eval]) (by have q := (h.below bb3).cut' (k := 1) (by omega) (by omega); rwa [Option.map_some, add_addr] at q) (by omega) bb3.size ?_; intro A2 c2 w2 o2 g2 e2; have b2 := Below.appended bb3 bb3.size g2 (fun x e => by cases e; have := b1.size; simp; omega); have hy : w2.cell? ⟨w1.heap.size, 0, none⟩ = some (.int .i64 (xs[0]?.getD 0)) := (g2.cell_far ⟨w1.heap.size, 0, none⟩ (by simp <;> omega) (by simp <;> omega)).trans (by simp); clear g2 e2; have hc2 := cell_below b2 HC.out; simp only [Nat.zero_add, List.nil_append] at o2 ⊢) | (refine step_append_int tyInts rfl (.tmp 11) (.tmp 15) rfl w.heap.size A2 (n - 1) c2 (xs.drop 1) (by simp [Act.eval]) (o2.below ((Below.refl _ _).alloc (Nat.le_refl _) _)) w2.heap.size (xs[0]?.getD 0) (by simp [Act.eval]) (by simp) (by omega) (by have := b2.size; first | exact this | (simp; omega)) ?_; intro A3 c3 w3 o3 g3 e3; have b3 := Below.appended (b2.alloc b2.size _) (by have := b2.size; first | exact this | (simp; omega)) g3 o2.base_le; clear g3 e3) | (refine step_append_int tyInts rfl (.tmp 11) (.tmp 15) rfl w.heap.size A2 (n - 1) c2 (xs.drop 1) (by simp [Act.eval]) o2 (w1.heap.size + 1) (xs[0]?.getD 0) (by simp [Act.eval]) hy (by omega) (by have := b2.size; first | exact this | (simp; omega)) ?_; intro A3 c3 w3 o3 g3 e3; have b3 := Below.appended b2 (by have := b2.size; first | exact this | (simp; omega)) g3 o2.base_le; clear g3 e3) | (refine step_append_int tyInts rfl (.tmp 11) (.tmp 15) rfl w.heap.size A2 (n - 1) c2 (xs.drop 1) (by simp [Act.eval]) o2 w1.heap.size (xs[0]?.getD 0) (by simp [Act.eval]) hy (by omega) (by have := b2.size; first | exact this | (simp; omega)) ?_; intro A3 c3 w3 o3 g3 e3; have b3 := Below.appended b2 (by have := b2.size; first | exact this | (simp; omega)) g3 o2.base_le; clear g3 e3))
    all_goals
      go_wp2
      go_ret2
      refine ⟨_, _, _, rfl, ?_, b3⟩
      rw [HT.out]
      rw [Nat.sub_add_cancel hl1] at o3
      exact o3

end Go.Proofs.Ytgabegdoofolnaa
