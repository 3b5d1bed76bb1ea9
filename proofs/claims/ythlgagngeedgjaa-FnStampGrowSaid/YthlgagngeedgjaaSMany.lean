/-
  What the program's StampMany computes, by a walk.
-/
import Derived.Test.YthlgagngeedgjaaStacks
import Derived.Test.YthlgagngeedgjaaAll3
namespace Go.Proofs.Ythlgagngeedgjaa
open Go.RowKit Go.Shelf
attribute [local go_sem] Oper.semAt_some

theorem KB.setCell (W : World) (g k : Nat) (u : Value) : KB (· = g) W (W.setCell ⟨g, k, none⟩ u) :=
  ⟨rfl, rfl, rfl, by simp [World.setCell], fun i _ hm => Below.heap_setCell W ⟨g, k, none⟩ u i hm⟩
theorem KB.putD {M : Nat → Prop} {w W : World} {D : Nat} (h : KB M w W) (hD : w.heap.size ≤ D) (o : Obj) : KB M w (W.putObj D o) :=
  ⟨h.os, h.tape, h.output, by simpa using h.size, fun g hg hm => (World.putObj_heap_other (by omega)).trans (h.block g hg hm)⟩

theorem KB.drew {M : Nat → Prop} {A B : World} (h : KB M A B) : KB M A B.drew := ⟨h.os, h.tape, h.output, h.size, h.block⟩
/-- A box of the call's own. -/
def BoxV (w : World) (g : Nat) (u : Value) : Prop := w.cell? ⟨g, 0, none⟩ = some u ∧ w.frozen? ⟨g, 0, none⟩ = false
theorem BoxV.new (w : World) (u : Value) (t : TypeId) {g : Nat} (hg : g = w.heap.size) : BoxV (w.alloc (.cells #[u] t)) g u := by subst hg; exact ⟨by simp, by simp⟩
theorem BoxV.below {w w' : World} {g : Nat} {u : Value} (h : BoxV w g u) (hb : Below w.heap.size w w') : BoxV w' g u := ⟨cell_below hb h.1, (hb.frozen (World.block_lt_of_cell? _ _ h.1)).trans h.2⟩
theorem BoxV.keep {w w' : World} {g B : Nat} {u : Value} (h : BoxV w g u) (hb : Below B w w') (hg : g < B) : BoxV w' g u := ⟨(hb.cell (p := ⟨g, 0, none⟩) hg).trans h.1, (hb.frozen (p := ⟨g, 0, none⟩) hg).trans h.2⟩
theorem BoxV.set {w : World} {g : Nat} {u : Value} (h : BoxV w g u) (v : Value) : BoxV (w.setCell ⟨g, 0, none⟩ v) g v := ⟨World.cell?_setCell_same' _ _ _ (by rw [h.1]; rfl), by rw [World.frozen?_setCell]; exact h.2⟩
theorem BoxV.other {w : World} {g g' : Nat} {u : Value} (h : BoxV w g u) (v : Value) (hne : g ≠ g') : BoxV (w.setCell ⟨g', 0, none⟩ v) g u := ⟨(World.cell_setCell_ne w ⟨g', 0, none⟩ ⟨g, 0, none⟩ v hne).trans h.1, by rw [World.frozen?_setCell]; exact h.2⟩
theorem BoxV.alloc {w : World} {g : Nat} {u : Value} (h : BoxV w g u) (o : Obj) : BoxV (w.alloc o) g u := h.below ((Below.refl _ _).alloc (Nat.le_refl _) o)
theorem BoxV.drew {w : World} {g : Nat} {u : Value} (h : BoxV w g u) : BoxV w.drew g u := h

set_option maxRecDepth 100000 in
set_option maxHeartbeats 2000000 in
theorem impl_StampMany (x : Int) (w : World) : Calls Try.prog 26 #[.int .i64 x] w (RVal w (.int .i64 (manyI x))) := by
  by_cases h : 1 ≤ x ∧ x ≤ 7
  · obtain ⟨n, rfl⟩ := Int.eq_ofNat_of_zero_le (show 0 ≤ x by omega)
    obtain ⟨N, rfl⟩ : ∃ N, n = N + 1 := ⟨n - 1, by omega⟩
    have hN : N ≤ 6 := by omega
    rw [manyI_yes (by omega) (by omega), ← (stk_perm (n := N + 1) (by omega) (by omega)).length_eq]
    have hst : (stk (N + 1)).length ≤ 823543 := by rw [(stk_perm (n := N + 1) (by omega) (by omega)).length_eq]; exact stacks_small (by omega)
    have H1 := impl_stampsInRange ((N + 1 : Nat) : Int) w
    rw [decide_eq_true h] at H1
    have H1 := Lib.hid H1
    clear h
    obtain ⟨fd⟩ : Nonempty Nat := ⟨3⟩
    refine callsIn_wide.1 (callsIn_of_wp_marks (n := fd) Try.func26 rfl trivial ?_ rfl)
    simp only [Try.ntmps26, List.size_toArray, List.length_cons, List.length_nil, Nat.reduceAdd, Nat.reduceSub, Array.replicate_succ, Array.replicate_zero, List.push_toArray, List.append_toArray, List.nil_append, List.cons_append]
    gi_wp2_with fail
    refine ⟨trivial, (fun h => by cases h), (callsIn_wide.2 H1.out).mono ?_⟩
    rintro e w' ⟨rfl, rfl⟩
    gi_wp2_with fail
    refine ⟨trivial, (fun h => by cases h), (callsIn_wide.2 (impl_stacksOf _ _)).mono ?_⟩
    rintro e w' ⟨rfl, rfl⟩
    gi_wp2_with fail
    have cM : ((w.alloc (.cells #[.int .i64 0] 3)).alloc (.cells #[.int .i64 ((N : Int) + 1)] 3)).cell? ⟨w.heap.size, 0, none⟩ = some (.int .i64 ((0 : Nat) : Int)) := by simp
    have fM : ((w.alloc (.cells #[.int .i64 0] 3)).alloc (.cells #[.int .i64 ((N : Int) + 1)] 3)).frozen? ⟨w.heap.size, 0, none⟩ = false := by simp
    have cN : ((w.alloc (.cells #[.int .i64 0] 3)).alloc (.cells #[.int .i64 ((N : Int) + 1)] 3)).cell? ⟨w.heap.size + 1, 0, none⟩ = some (.int .i64 ((N + 1 : Nat) : Int)) := by simp
    have sz : ((w.alloc (.cells #[.int .i64 0] 3)).alloc (.cells #[.int .i64 ((N : Int) + 1)] 3)).heap.size = w.heap.size + 2 := by simp
    have bA : Below w.heap.size w ((w.alloc (.cells #[.int .i64 0] 3)).alloc (.cells #[.int .i64 ((N : Int) + 1)] 3)) := ((Below.refl _ w).alloc (Nat.le_refl _) _).alloc (by simp) _
    generalize ((w.alloc (.cells #[.int .i64 0] 3)).alloc (.cells #[.int .i64 ((N : Int) + 1)] 3)) = Wa at cM fM cN sz bA ⊢
    refine wp_rangeM (M := (· = w.heap.size)) (gf := 102) (lb := #[.pointer (some ⟨w.heap.size + 1, 0, none⟩)]) rfl (enters_of Try.func102 (by kernel_rfl) rfl) (stk (N + 1))
      (fun g h => by subst h; omega) (fun W1 hb1 => seq_stacks N hN _ (w.heap.size + 1) W1 (fun g h => by subst h; have := hb1.size; omega) (cell_below hb1 cN) (by simp)) rfl
      (fun k W' => W'.cell? ⟨w.heap.size, 0, none⟩ = some (.int .i64 (k : Int)) ∧ W'.frozen? ⟨w.heap.size, 0, none⟩ = false)
      (fun k A B hI hs hb => ⟨(hb.below.cell (p := ⟨w.heap.size, 0, none⟩) (by simp only; omega)).trans hI.1, (hb.below.frozen (p := ⟨w.heap.size, 0, none⟩) (by simp only; omega)).trans hI.2⟩)
      ⟨cM, fM⟩
      (fun v => { tmps := #[.int .i64 ((N : Int) + 1), undef, .int .i64 0, .pointer (some ⟨w.heap.size, 0, none⟩), .int .i64 ((N : Int) + 1), .bool true, .bool false, .int .i64 ((N : Int) + 1), .func (.func 102) #[] #[.pointer (some ⟨w.heap.size + 1, 0, none⟩)], v, undef, undef, undef], defers := [] }) ?assign ?body ?done
    case assign =>
      intro lr v W' K hK m'
      gi_wp2
      first | exact hK | (simp; exact hK)
    case body =>
      intro lr k hk A q c Wb hszb hIk hR m'
      obtain ⟨hc, hf⟩ := hIk
      have hk2 : (k : Int) ≤ 823543 := by omega
      gi_wp2
      exact ⟨KB.setCell Wb w.heap.size 0 _, by rw [World.cell?_setCell_same' _ _ _ (by rw [hc]; rfl)]; rw [show ((k + 1 : Nat) : Int) = (k : Int) + 1 by omega], by rw [World.frozen?_setCell]; exact hf⟩
    case done =>
      intro D Wd hD hId hkb hK
      obtain ⟨hc, hf⟩ := hId
      gi_wp2
      have hz := hkb.size
      refine ⟨by simp, .inl ⟨_, _, rfl, run_takeDeferred hK, ?_⟩⟩
      have hb := bA.trans ((hkb.putD (D := D) (by omega) (.deferred none)).below (base := w.heap.size) (by omega) (fun g h => by subst h; exact Nat.le_refl _))
      exact ⟨_, results_tmp rfl _ _ _, rfl, hb⟩
  · rw [manyI_no h]
    have H1 := impl_stampsInRange x w
    rw [decide_eq_false h] at H1
    have H1 := Lib.hid H1
    clear h
    go_enter Try.func26, Try.ntmps26
    go_wp2_with (first | (go_at_call 60; refine H1.out.mono ?_; rintro e w' ⟨rfl, rfl⟩))
    go_ret
    exact ⟨rfl, Below.refl _ _⟩

end Go.Proofs.Ythlgagngeedgjaa
