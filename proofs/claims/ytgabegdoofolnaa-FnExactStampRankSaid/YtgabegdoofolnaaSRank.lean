/-
  What the program's StampRank computes, by a walk.
-/
import Derived.Test.YtgabegdoofolnaaSLow
import Derived.Test.YtgabegdoofolnaaCompare
namespace Go.Proofs.Ytgabegdoofolnaa
open Go.RowKit Go.Shelf
attribute [local go_sem] Oper.semAt_some

theorem impl_StampRank_no (a : Option Addr) (n cap : Nat) (xs : List Int) (w : World) (h : Ints w a n cap xs) (hv : possB xs = false) :
    Calls Try.prog 32 #[.slice a n cap] w (RVal w (.int .i64 (-1))) := by
  have H1 := impl_StampPossible a n cap xs (w.alloc (.cells #[.slice a n cap] 22)) (h.below ((Below.refl _ _).alloc (Nat.le_refl _) _))
  rw [hv] at H1
  have H1 := Lib.hid H1
  clear hv
  go_enter Try.func32, Try.ntmps32
  go_wp2_with (go_at_call 38; refine H1.out.mono ?_; rintro e w1 ⟨rfl, b1⟩)
  go_ret
  exact ⟨rfl, Below.call ((Below.refl _ _).alloc (Nat.le_refl _) _) (by simp) b1⟩

set_option maxRecDepth 100000 in
set_option maxHeartbeats 2000000 in
theorem impl_StampRank_yes (a : Option Addr) (N cap : Nat) (xs : List Int) (w : World) (h : Ints w a (N + 1) cap xs) (hv : possB xs = true) :
    Calls Try.prog 32 #[.slice a (N + 1 : Nat) cap] w (RVal w (.int .i64 (rankN xs : Int))) := by
  have hl := possB_len hv
  rw [h.length] at hl
  have hN : N ≤ 6 := by omega
  have hst : (stk (N + 1)).length ≤ 823543 := by rw [(stk_perm (n := N + 1) (by omega) (by omega)).length_eq]; exact stacks_small (by omega)
  have hrk : rankN xs = ((stk (N + 1)).filter fun ys => lexB ys xs).length := by
    unfold rankN
    rw [h.length]
    exact ((stk_perm (n := N + 1) (by omega) (by omega)).filter _).length_eq.symm
  rw [hrk]
  have bb : Below w.heap.size w (w.alloc (.cells #[.slice a (N + 1) cap] 22)) := (Below.refl _ _).alloc (Nat.le_refl _) _
  have H1 := impl_StampPossible a (N + 1) cap xs (w.alloc (.cells #[.slice a (N + 1) cap] 22)) (h.below bb)
  rw [hv] at H1
  have H1 := Lib.hid H1
  have BX := BoxV.new w (.slice a (N + 1) cap) 22 rfl
  have hle := h.le_cap
  clear hv hl hrk
  obtain ⟨W0, hW0⟩ : ∃ W0, w.alloc (.cells #[.slice a (N + 1) cap] 22) = W0 := ⟨_, rfl⟩
  have hs0 : W0.heap.size = w.heap.size + 1 := by rw [← hW0]; simp
  rw [hW0] at bb H1 BX
  have cX := BX.1
  obtain ⟨fd⟩ : Nonempty Nat := ⟨3⟩
  refine callsIn_wide.1 (callsIn_of_wp_marks (n := fd) Try.func32 rfl trivial ?_ rfl)
  simp only [Try.ntmps32, List.size_toArray, List.length_cons, List.length_nil, Nat.reduceAdd, Nat.reduceSub, Array.replicate_succ, Array.replicate_zero, List.push_toArray, List.append_toArray, List.nil_append, List.cons_append]
  gi_wp2_with fail
  refine ⟨trivial, (fun h => by cases h), (callsIn_wide.2 H1.out).mono ?_⟩
  rintro e w1 ⟨rfl, b1⟩
  have hz1 := b1.size
  have B1 := Below.call bb (by omega) b1
  have X1 := BX.below b1
  have cX1 := X1.1
  have cX2 := (X1.alloc (.cells #[.int .i64 0] 3)).1
  gi_wp2_with fail
  refine ⟨trivial, (fun h => by cases h), (callsIn_wide.2 (impl_stacksOf _ _)).mono ?_⟩
  rintro e w' ⟨rfl, rfl⟩
  gi_wp2_with fail
  have cM : BoxV ((w1.alloc (.cells #[.int .i64 0] 3)).alloc (.cells #[.int .i64 ((N : Int) + 1)] 3)) w1.heap.size (.int .i64 ((0 : Nat) : Int)) := (BoxV.new w1 (.int .i64 ((0 : Nat) : Int)) 3 rfl).alloc _
  have cN : BoxV ((w1.alloc (.cells #[.int .i64 0] 3)).alloc (.cells #[.int .i64 ((N : Int) + 1)] 3)) (w1.heap.size + 1) (.int .i64 ((N + 1 : Nat) : Int)) := BoxV.new (w1.alloc (.cells #[.int .i64 0] 3)) (.int .i64 ((N + 1 : Nat) : Int)) 3 (by simp)
  have cL : BoxV ((w1.alloc (.cells #[.int .i64 0] 3)).alloc (.cells #[.int .i64 ((N : Int) + 1)] 3)) w.heap.size (.slice a (N + 1) cap) := (X1.alloc _).alloc _
  have sz : ((w1.alloc (.cells #[.int .i64 0] 3)).alloc (.cells #[.int .i64 ((N : Int) + 1)] 3)).heap.size = w1.heap.size + 2 := by simp
  have bA : Below w.heap.size w ((w1.alloc (.cells #[.int .i64 0] 3)).alloc (.cells #[.int .i64 ((N : Int) + 1)] 3)) := (B1.alloc (by omega) _).alloc (by simp; omega) _
  generalize ((w1.alloc (.cells #[.int .i64 0] 3)).alloc (.cells #[.int .i64 ((N : Int) + 1)] 3)) = Wa at cM cN cL sz bA ⊢
  clear cX1 cX2 X1 cX BX
  refine wp_rangeM (M := (· = w1.heap.size)) (gf := 62) (lb := #[.pointer (some ⟨w1.heap.size + 1, 0, none⟩)]) rfl (enters_of Try.func62 (by kernel_rfl) rfl) (stk (N + 1))
    (fun g h => by subst h; omega) (fun W1 hb1 => seq_stacks N hN _ (w1.heap.size + 1) W1 (fun g h => by subst h; have := hb1.size; omega) (cell_below hb1 cN.1) (by simp)) rfl
    (fun k W' => BoxV W' w1.heap.size (.int .i64 ((((stk (N + 1)).take k).filter fun ys => lexB ys xs).length : Int)) ∧ BoxV W' w.heap.size (.slice a (N + 1) cap) ∧ Below w.heap.size w W')
    (fun k A B hI hs hb => ⟨hI.1.keep hb (by omega), hI.2.1.keep hb (by omega), hI.2.2.trans (hb.mono (by omega))⟩)
    ⟨cM, cL, bA⟩ (fun v => { tmps := #[.slice a (N + 1) cap, .pointer (some ⟨w.heap.size, 0, none⟩), .int .i64 0, .pointer (some ⟨w1.heap.size, 0, none⟩), v, .slice a (N + 1) cap, .bool true, .bool false, .slice a (N + 1) cap, .int .i64 ((N : Int) + 1), .func (.func 62) #[] #[.pointer (some ⟨w1.heap.size + 1, 0, none⟩)], v, undef, undef, undef, undef, undef, undef, undef], defers := [] }) ?assign ?body ?done
  case assign =>
    intro lr v W' K hK m'
    gi_wp2
    first | exact hK | (simp; exact hK)
  case body =>
    intro lr k hk A q c Wb hszb hIk hR m'
    obtain ⟨hbm, hbx, hBw⟩ := hIk
    obtain ⟨hcm, hfm⟩ := id hbm
    have hcx := hbx.1
    have hks : (stk (N + 1))[k]?.getD [] ∈ stk (N + 1) := by rw [List.getElem?_eq_getElem hk]; exact List.getElem_mem hk
    have hsl := stk_length (by omega) (by omega) hks
    obtain rfl : N + 1 = q := hsl.symm.trans hR.1.length
    have hlen : (((stk (N + 1)).take k).filter fun ys => lexB ys xs).length ≤ 823543 := by
      refine Nat.le_trans (List.length_filter_le _ _) ?_
      rw [List.length_take]
      omega
    have hlen2 : ((((stk (N + 1)).take k).filter fun ys => lexB ys xs).length : Int) ≤ 823543 := by omega
    have HSY := Lib.hid (fun (he : lexB ((stk (N + 1))[k]?.getD []) xs = true) => congrArg List.length (filterR_yes (fun ys => lexB ys xs) (stk (N + 1)) k [] hk he))
    have HSN := Lib.hid (fun (he : lexB ((stk (N + 1))[k]?.getD []) xs = false) => congrArg List.length (filterR_no (fun ys => lexB ys xs) (stk (N + 1)) k [] hk he))
    have P4 := lib_Compare A a (N + 1) c cap _ xs Wb hR.1 (h.below hBw) (by omega)
    have hneg := cmpL_neg ((stk (N + 1))[k]?.getD []) xs
    clear hR hks hsl
    generalize (stk (N + 1))[k]?.getD [] = s at HSY HSN P4 hneg
    have P4 := Lib.hid P4
    cases he : lexB s xs with
    | true =>
      rw [he] at hneg
      have hlt : cmpL s xs < 0 := hneg.2 rfl
      have HS := Lib.hid (HSY.out he)
      clear he HSY HSN hneg
      gi_wp2_with fail
      refine ⟨trivial, (fun h => by cases h), (CallsIn.inRound lr (callsIn_wide.2 P4.out)).mono ?_⟩
      rintro e w5 ⟨rfl, rfl⟩
      gi_wp2_with fail
      exact ⟨KB.setCell Wb w1.heap.size 0 _, by rw [HS.out, List.length_append]; exact hbm.set _, hbx.other _ (by omega), hBw.setCell (p := ⟨w1.heap.size, 0, none⟩) (by simp only; omega) _⟩
    | false =>
      rw [he] at hneg
      have hlt : ¬ cmpL s xs < 0 := fun q => by have := hneg.1 q; cases this
      have HS := Lib.hid (HSN.out he)
      clear he HSY HSN hneg
      gi_wp2_with fail
      refine ⟨trivial, (fun h => by cases h), (CallsIn.inRound lr (callsIn_wide.2 P4.out)).mono ?_⟩
      rintro e w5 ⟨rfl, rfl⟩
      gi_wp2_with fail
      exact ⟨KB.refl _ Wb, by rw [HS.out]; exact hbm, hbx, hBw⟩
  case done =>
    intro D Wd hD hId hkb hK
    have hc := hId.1.1
    rw [List.take_length] at hc
    gi_wp2
    have hz := hkb.size
    refine ⟨by simp, .inl ⟨_, _, rfl, run_takeDeferred hK, ?_⟩⟩
    exact ⟨_, results_tmp rfl _ _ _, rfl, hId.2.2.trans (below_putObj Wd D _ (by omega) (by omega))⟩

end Go.Proofs.Ytgabegdoofolnaa
