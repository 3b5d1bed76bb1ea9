/-
  What the program's StampLow computes, by a walk.
-/
import Derived.Test.YtgabegdoofolnaaSMany
import Derived.Test.YtgabegdoofolnaaAll4
namespace Go.Proofs.Ytgabegdoofolnaa
open Go.RowKit Go.Shelf
attribute [local go_sem] Oper.semAt_some

set_option maxRecDepth 100000 in
set_option maxHeartbeats 2000000 in
theorem impl_StampLow (x kk : Int) (w : World) : Calls Try.prog 30 #[.int .i64 x, .int .i64 kk] w (RVal w (.int .i64 (lowI x kk))) := by
  by_cases h : 1 ≤ x ∧ x ≤ 7
  · have H1 := impl_stampsInRange x (w.alloc (.cells #[.int .i64 kk] 3))
    rw [decide_eq_true h] at H1
    have H1 := Lib.hid H1
    by_cases h2 : 0 ≤ kk
    · by_cases h3 : kk < x
      · obtain ⟨n, rfl⟩ := Int.eq_ofNat_of_zero_le (show 0 ≤ x by omega)
        obtain ⟨N, rfl⟩ : ∃ N, n = N + 1 := ⟨n - 1, by omega⟩
        have hN : N ≤ 6 := by omega
        have hst : (stk (N + 1)).length ≤ 823543 := by rw [(stk_perm (n := N + 1) (by omega) (by omega)).length_eq]; exact stacks_small (by omega)
        have hlow : lowN (N + 1) kk = ((stk (N + 1)).filter fun xs => decide (xs[0]?.getD 0 = kk)).length := ((stk_perm (n := N + 1) (by omega) (by omega)).filter _).length_eq.symm
        rw [lowI_yes (by omega) (by omega) h2 h3, hlow]
        clear hlow h
        rw [show ((N + 1 : Nat) : Int) = (N : Int) + 1 by omega] at h3
        obtain ⟨fd⟩ : Nonempty Nat := ⟨3⟩
        refine callsIn_wide.1 (callsIn_of_wp_marks (n := fd) Try.func30 rfl trivial ?_ rfl)
        simp only [Try.ntmps30, List.size_toArray, List.length_cons, List.length_nil, Nat.reduceAdd, Nat.reduceSub, Array.replicate_succ, Array.replicate_zero, List.push_toArray, List.append_toArray, List.nil_append, List.cons_append]
        gi_wp2_with fail
        refine ⟨trivial, (fun h => by cases h), (callsIn_wide.2 H1.out).mono ?_⟩
        rintro e w' ⟨rfl, rfl⟩
        gi_wp2_with fail
        refine ⟨trivial, (fun h => by cases h), (callsIn_wide.2 (impl_stacksOf _ _)).mono ?_⟩
        rintro e w' ⟨rfl, rfl⟩
        gi_wp2_with fail
        have cK : BoxV (((w.alloc (.cells #[.int .i64 kk] 3)).alloc (.cells #[.int .i64 0] 3)).alloc (.cells #[.int .i64 ((N : Int) + 1)] 3)) w.heap.size (.int .i64 kk) := ((BoxV.new w _ _ rfl).alloc _).alloc _
        have cM : BoxV (((w.alloc (.cells #[.int .i64 kk] 3)).alloc (.cells #[.int .i64 0] 3)).alloc (.cells #[.int .i64 ((N : Int) + 1)] 3)) (w.heap.size + 1) (.int .i64 ((0 : Nat) : Int)) := (BoxV.new (w.alloc (.cells #[.int .i64 kk] 3)) _ _ (by simp)).alloc _
        have cN : BoxV (((w.alloc (.cells #[.int .i64 kk] 3)).alloc (.cells #[.int .i64 0] 3)).alloc (.cells #[.int .i64 ((N : Int) + 1)] 3)) (w.heap.size + 1 + 1) (.int .i64 ((N + 1 : Nat) : Int)) := BoxV.new ((w.alloc (.cells #[.int .i64 kk] 3)).alloc (.cells #[.int .i64 0] 3)) (.int .i64 ((N + 1 : Nat) : Int)) 3 (by simp)
        have sz : (((w.alloc (.cells #[.int .i64 kk] 3)).alloc (.cells #[.int .i64 0] 3)).alloc (.cells #[.int .i64 ((N : Int) + 1)] 3)).heap.size = w.heap.size + 3 := by simp
        have bA : Below w.heap.size w (((w.alloc (.cells #[.int .i64 kk] 3)).alloc (.cells #[.int .i64 0] 3)).alloc (.cells #[.int .i64 ((N : Int) + 1)] 3)) := (((Below.refl _ w).alloc (Nat.le_refl _) _).alloc (by simp) _).alloc (by simp; omega) _
        generalize (((w.alloc (.cells #[.int .i64 kk] 3)).alloc (.cells #[.int .i64 0] 3)).alloc (.cells #[.int .i64 ((N : Int) + 1)] 3)) = Wa at cK cM cN sz bA ⊢
        refine wp_rangeM (M := (· = w.heap.size + 1)) (gf := 62) (lb := #[.pointer (some ⟨w.heap.size + 1 + 1, 0, none⟩)]) rfl (enters_of Try.func62 (by kernel_rfl) rfl) (stk (N + 1))
          (fun g h => by subst h; omega) (fun W1 hb1 => seq_stacks N hN _ (w.heap.size + 1 + 1) W1 (fun g h => by subst h; have := hb1.size; omega) (cell_below hb1 cN.1) (by simp)) rfl
          (fun k W' => BoxV W' (w.heap.size + 1) (.int .i64 ((((stk (N + 1)).take k).filter fun xs => decide (xs[0]?.getD 0 = kk)).length : Int)) ∧ BoxV W' w.heap.size (.int .i64 kk))
          (fun k A B hI hs hb => ⟨hI.1.keep hb (by omega), hI.2.keep hb (by omega)⟩)
          ⟨cM, cK⟩ (fun v => { tmps := #[.int .i64 ((N : Int) + 1), .int .i64 kk, undef, .pointer (some ⟨w.heap.size, 0, none⟩), .int .i64 0, .pointer (some ⟨w.heap.size + 1, 0, none⟩), v, .int .i64 ((N : Int) + 1), .bool true, .bool false, .bool false, .int .i64 kk, .bool (decide (kk < 0)), .bool (decide (kk < 0)), .bool (decide (kk < 0)), .int .i64 kk, .int .i64 ((N : Int) + 1), .bool (decide ((N : Int) + 1 ≤ kk)), .bool (decide (kk < 0) || decide ((N : Int) + 1 ≤ kk)), .int .i64 ((N : Int) + 1), .func (.func 62) #[] #[.pointer (some ⟨w.heap.size + 1 + 1, 0, none⟩)], v, undef, undef, undef, undef, undef, undef, undef, undef], defers := [] }) ?assign ?body ?done
        case assign =>
          intro lr v W' K hK m'
          gi_wp2
          first | exact hK | (simp; exact hK)
        case body =>
          intro lr k hk A q c Wb hszb hIk hR m'
          obtain ⟨hbm, hbk⟩ := hIk
          obtain ⟨hcm, hfm⟩ := id hbm
          have hck := hbk.1
          have hks : (stk (N + 1))[k]?.getD [] ∈ stk (N + 1) := by rw [List.getElem?_eq_getElem hk]; exact List.getElem_mem hk
          have hsl := stk_length (by omega) (by omega) hks
          obtain rfl : N + 1 = q := hsl.symm.trans hR.1.length
          obtain ⟨b, off, rfl, hcells⟩ := hR.1.cells (by omega)
          have c0 := hcells 0 (by omega)
          rw [Nat.add_zero] at c0
          have hqc := hR.1.le_cap
          have hq1 : (0 : Int) < (N : Int) + 1 := by omega
          have hlen : (((stk (N + 1)).take k).filter fun xs => decide (xs[0]?.getD 0 = kk)).length ≤ 823543 := by
            refine Nat.le_trans (List.length_filter_le _ _) ?_
            rw [List.length_take]
            omega
          have hlen2 : ((((stk (N + 1)).take k).filter fun xs => decide (xs[0]?.getD 0 = kk)).length : Int) ≤ 823543 := by omega
          have HSY := Lib.hid (fun (he : ((stk (N + 1))[k]?.getD [])[0]?.getD 0 = kk) => congrArg List.length (filterR_yes (fun xs : List Int => decide (xs[0]?.getD 0 = kk)) (stk (N + 1)) k [] hk (decide_eq_true he)))
          have HSN := Lib.hid (fun (he : ¬ ((stk (N + 1))[k]?.getD [])[0]?.getD 0 = kk) => congrArg List.length (filterR_no (fun xs : List Int => decide (xs[0]?.getD 0 = kk)) (stk (N + 1)) k [] hk (decide_eq_false he)))
          clear hcells hR hks hsl
          generalize (stk (N + 1))[k]?.getD [] = s at c0 HSY HSN
          generalize hX : s[0]?.getD 0 = X at c0 HSY HSN
          clear hX
          by_cases he : X = kk
          · have he1 : (X == kk) = true := by rw [beq_iff_eq]; exact he
            have HS := Lib.hid (HSY.out he)
            clear he HSY HSN
            gi_wp2_with fail
            gi_region
            all_goals
              gi_wp2_with fail
              exact ⟨(KB.setCell Wb (w.heap.size + 1) 0 _).drew, by rw [HS.out, List.length_append]; exact (hbm.set _).drew, (hbk.other _ (by omega)).drew⟩
          · have he1 : (X == kk) = false := by rw [beq_eq_false_iff_ne]; exact he
            have HS := Lib.hid (HSN.out he)
            clear he HSY HSN
            gi_wp2_with fail
            gi_region
            all_goals
              gi_wp2_with fail
              exact ⟨(KB.refl _ Wb).drew, by rw [HS.out]; exact hbm.drew, hbk.drew⟩
        case done =>
          intro D Wd hD hId hkb hK
          have hc := hId.1.1
          rw [List.take_length] at hc
          gi_wp2
          have hz := hkb.size
          refine ⟨by simp, .inl ⟨_, _, rfl, run_takeDeferred hK, ?_⟩⟩
          have hb := bA.trans ((hkb.putD (D := D) (by omega) (.deferred none)).below (base := w.heap.size) (by omega) (fun g h => by subst h; omega))
          exact ⟨_, results_tmp rfl _ _ _, rfl, hb⟩
      · rw [lowI_no (by omega)]
        clear h
        go_enter Try.func30, Try.ntmps30
        go_wp2_with (first | (go_at_call 49; refine H1.out.mono ?_; rintro e w' ⟨rfl, rfl⟩))
        go_ret
        exact ⟨rfl, (Below.refl _ _).alloc (Nat.le_refl _) _⟩
    · rw [lowI_no (by omega)]
      clear h
      go_enter Try.func30, Try.ntmps30
      go_wp2_with (first | (go_at_call 49; refine H1.out.mono ?_; rintro e w' ⟨rfl, rfl⟩))
      go_ret
      exact ⟨rfl, (Below.refl _ _).alloc (Nat.le_refl _) _⟩
  · rw [lowI_no (by omega)]
    have H1 := impl_stampsInRange x (w.alloc (.cells #[.int .i64 kk] 3))
    rw [decide_eq_false h] at H1
    have H1 := Lib.hid H1
    clear h
    go_enter Try.func30, Try.ntmps30
    go_wp2_with (first | (go_at_call 49; refine H1.out.mono ?_; rintro e w' ⟨rfl, rfl⟩))
    go_ret
    exact ⟨rfl, (Below.refl _ _).alloc (Nat.le_refl _) _⟩

end Go.Proofs.Ytgabegdoofolnaa
