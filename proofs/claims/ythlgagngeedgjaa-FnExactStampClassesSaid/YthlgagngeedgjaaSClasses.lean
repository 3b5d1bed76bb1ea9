/-
  What the reference's and the program's StampClasses compute, by walks.
-/
import Derived.Test.YthlgagngeedgjaaSRank
namespace Go.Proofs.Ythlgagngeedgjaa
open Go.RowKit Go.Shelf
attribute [local go_sem] Oper.semAt_some

/-- A stack is the first one of its class. -/
def clsB (xs : List Int) : Bool := !lexB xs.reverse xs && (!lexB (backL xs) xs && !lexB (backL xs).reverse xs)
def classesN (n : Nat) : Nat := ((stacks n).filter clsB).length
def classesI (x : Int) : Int := if 1 ≤ x ∧ x ≤ 7 then (classesN x.toNat : Int) else -1
theorem classesI_yes {n : Nat} (h1 : 1 ≤ n) (h7 : n ≤ 7) : classesI (n : Int) = (classesN n : Int) := by
  unfold classesI
  rw [if_pos (by omega)]
  rfl
theorem classesI_no {x : Int} (h : ¬ (1 ≤ x ∧ x ≤ 7)) : classesI x = -1 := if_neg h
theorem clsB_1 {xs : List Int} (h : lexB xs.reverse xs = true) : clsB xs = false := by unfold clsB; rw [h]; rfl
theorem clsB_2 {xs : List Int} (h : lexB xs.reverse xs = false) (h2 : lexB (backL xs) xs = true) : clsB xs = false := by unfold clsB; rw [h, h2]; rfl
theorem clsB_3 {xs : List Int} (h : lexB xs.reverse xs = false) (h2 : lexB (backL xs) xs = false) (h3 : lexB (backL xs).reverse xs = true) : clsB xs = false := by unfold clsB; rw [h, h2, h3]; rfl
theorem clsB_4 {xs : List Int} (h : lexB xs.reverse xs = false) (h2 : lexB (backL xs) xs = false) (h3 : lexB (backL xs).reverse xs = false) : clsB xs = true := by unfold clsB; rw [h, h2, h3]; rfl
theorem backL_rev (xs : List Int) : backL xs.reverse = (backL xs).reverse := by simp [backL]

set_option maxRecDepth 100000 in
set_option maxHeartbeats 2000000 in
theorem spec_StampClasses (x : Int) (w : World) : Calls Try.prog 15 #[.int .i64 x] w (RVal w (.int .i64 (classesI x))) := by
  by_cases h : 1 ≤ x ∧ x ≤ 7
  · obtain ⟨n, rfl⟩ := Int.eq_ofNat_of_zero_le (show 0 ≤ x by omega)
    have hm := classesI_yes (n := n) (by omega) (by omega)
    rw [hm]
    have H1 := Lib.hid (spec_l6In_yes (n : Int) 1 7 w h.1 h.2)
    have H3 := Lib.hid (spec_l3All n (by omega) w)
    have HZ := Lib.hid (stacks_small (n := n) (by omega))
    have hn1 : 1 ≤ n := by omega
    have hn7 : n ≤ 7 := by omega
    have HM := Lib.hid (fun xs (hx : xs ∈ stacks n) => (mem_stacks hn1 hn7).1 hx)
    clear hm h
    go_enter Try.func15, Try.ntmps15
    go_wp2_with (first | (go_at_call 55; refine H1.out.mono ?_; clear H1; rintro e w' ⟨rfl, rfl⟩) | (go_at_call 56; refine H3.out.mono ?_; rintro e w1 ⟨a1, N, c1, rfl, r1, b1⟩))
    have HN := Lib.hid r1.length
    have hN : N ≤ 823543 := by rw [← HN.out]; exact HZ.out
    have r1c := r1.le_cap
    go_loopw [3, 5] (fun t i wr => ∃ j : Nat, j ≤ N ∧ i = .int .i64 j ∧ t = .int .i64 ((((stacks n).take j).filter clsB).length : Int) ∧ Below w1.heap.size w1 wr) (fun _ i _ => N - (intOf i).toNat)
    case atStart => exact ⟨0, Nat.zero_le _, rfl, rfl, Below.refl _ _⟩
    case round =>
      obtain ⟨j, hj, rfl, rfl, hB⟩ := hrel
      have hq : (((stacks n).take j).filter clsB).length ≤ 823543 := by
        refine Nat.le_trans (List.length_filter_le _ _) ?_
        rw [List.length_take]
        omega
      by_cases hlt : j < N
      · obtain ⟨g, A1, m1, c2, rfl, hck, hown⟩ := (r1.below hB).row hlt
        have hkl : j < (stacks n).length := by rw [HN.out]; exact hlt
        have hmm := HM.out _ (getR_mem (stacks n) j [] hkl)
        obtain rfl : n = m1 := hmm.1.symm.trans hown.length
        have HP := Lib.hid hmm.2
        have HSY := Lib.hid (fun (he : clsB ((stacks n)[j]?.getD []) = true) => congrArg List.length (filterR_yes clsB (stacks n) j [] hkl he))
        have HSN := Lib.hid (fun (he : clsB ((stacks n)[j]?.getD []) = false) => congrArg List.length (filterR_no clsB (stacks n) j [] hkl he))
        clear hmm hkl
        have hI := hown.ints
        clear hown
        generalize (stacks n)[j]?.getD [] = s at HP HSY HSN hI
        have HI := Lib.hid hI
        have hmc := hI.le_cap
        clear hI
        go_wp2_with fail
        refine (spec_l1Back A1 n c2 s wr HI.out (by omega)).mono ?_
        rintro e w2 ⟨a2, m2, d2, rfl, o2, b2⟩
        have hB2 := Below.call hB hB.size b2
        obtain rfl : n = m2 := by rw [← o2.length, List.length_reverse]; exact HI.out.length.symm
        have P1 := spec_l3Before a2 A1 n d2 c2 _ s w2 o2.ints (HI.out.below b2) (by omega)
        cases e1 : lexB s.reverse s with
        | true =>
          rw [e1] at P1
          have P1 := Lib.hid P1
          have HS := Lib.hid (HSN.out (clsB_1 e1))
          clear e1
          go_wp2_with fail
          refine P1.out.mono ?_
          rintro e w3 ⟨rfl, b3⟩
          have hB3 := Below.call hB2 hB2.size b3
          go_wp2_with fail
          go_roundw
          case rel => exact ⟨j + 1, by omega, by go_num, by rw [HS.out], hB3⟩
          case measure => simp [intOf]; omega
        | false =>
          rw [e1] at P1
          have P1 := Lib.hid P1
          have E1 := Lib.hid e1
          clear e1
          go_wp2_with fail
          refine P1.out.mono ?_
          rintro e w3 ⟨rfl, b3⟩
          have hB3 := Below.call hB2 hB2.size b3
          go_wp2_with fail
          have i3 := (HI.out.below b2).below b3
          refine (spec_l3Back A1 n c2 s w3 i3 (by omega) (possB_range HP.out)).mono ?_
          rintro e w4 ⟨a4, m4, d4, rfl, o4, b4⟩
          have hB4 := Below.call hB3 hB3.size b4
          obtain rfl : n = m4 := by rw [← o4.length, backL_length]; exact HI.out.length.symm
          have P2 := spec_l3Before a4 A1 n d4 c2 _ s w4 o4.ints (i3.below b4) (by omega)
          cases e2 : lexB (backL s) s with
          | true =>
            rw [e2] at P2
            have P2 := Lib.hid P2
            have HS := Lib.hid (HSN.out (clsB_2 E1.out e2))
            clear e2
            go_wp2_with fail
            refine P2.out.mono ?_
            rintro e w5 ⟨rfl, b5⟩
            have hB5 := Below.call hB4 hB4.size b5
            go_wp2_with fail
            go_roundw
            case rel => exact ⟨j + 1, by omega, by go_num, by rw [HS.out], hB5⟩
            case measure => simp [intOf]; omega
          | false =>
            rw [e2] at P2
            have P2 := Lib.hid P2
            have E2 := Lib.hid e2
            clear e2
            go_wp2_with fail
            refine P2.out.mono ?_
            rintro e w5 ⟨rfl, b5⟩
            have hB5 := Below.call hB4 hB4.size b5
            go_wp2_with fail
            have i5 := (i3.below b4).below b5
            refine (spec_l3Back A1 n c2 s w5 i5 (by omega) (possB_range HP.out)).mono ?_
            rintro e w6 ⟨a6, m6, d6, rfl, o6, b6⟩
            have hB6 := Below.call hB5 hB5.size b6
            obtain rfl : n = m6 := by rw [← o6.length, backL_length]; exact HI.out.length.symm
            go_wp2_with fail
            refine (spec_l1Back a6 n d6 (backL s) w6 o6.ints (by omega)).mono ?_
            rintro e w7 ⟨a7, m7, d7, rfl, o7, b7⟩
            have hB7 := Below.call hB6 hB6.size b7
            obtain rfl : n = m7 := by rw [← o7.length, List.length_reverse, backL_length]; exact HI.out.length.symm
            have P3 := spec_l3Before a7 A1 n d7 c2 _ s w7 o7.ints ((i5.below b6).below b7) (by omega)
            cases e3 : lexB (backL s).reverse s with
            | true =>
              rw [e3] at P3
              have P3 := Lib.hid P3
              have HS := Lib.hid (HSN.out (clsB_3 E1.out E2.out e3))
              clear e3
              go_wp2_with fail
              refine P3.out.mono ?_
              rintro e w8 ⟨rfl, b8⟩
              have hB8 := Below.call hB7 hB7.size b8
              go_wp2_with fail
              go_roundw
              case rel => exact ⟨j + 1, by omega, by go_num, by rw [HS.out], hB8⟩
              case measure => simp [intOf]; omega
            | false =>
              rw [e3] at P3
              have P3 := Lib.hid P3
              have HS := Lib.hid (HSY.out (clsB_4 E1.out E2.out e3))
              clear e3
              go_wp2_with fail
              refine P3.out.mono ?_
              rintro e w8 ⟨rfl, b8⟩
              have hB8 := Below.call hB7 hB7.size b8
              go_wp2_with fail
              go_roundw
              case rel => exact ⟨j + 1, by omega, by go_num, by rw [HS.out, List.length_append]; go_num, hB8⟩
              case measure => simp [intOf]; omega
      · have HE : Hid ((((stacks n).take j).filter clsB).length = classesN n) := by
          unfold Hid classesN
          rw [List.take_of_length_le (by rw [HN.out]; omega)]
        go_wp2
        go_ret
        exact ⟨ret_int (by rw [HE.out]), Below.call b1 b1.size hB⟩
  · rw [classesI_no h]
    have H1 := Lib.hid (spec_l6In_no x 1 7 w h)
    clear h
    go_enter Try.func15, Try.ntmps15
    go_wp2_with (first | (go_at_call 55; refine H1.out.mono ?_; rintro e w' ⟨rfl, rfl⟩))
    go_ret
    exact ⟨rfl, Below.refl _ _⟩

set_option maxRecDepth 100000 in
set_option maxHeartbeats 4000000 in
theorem impl_StampClasses (x : Int) (w : World) : Calls Try.prog 16 #[.int .i64 x] w (RVal w (.int .i64 (classesI x))) := by
  by_cases h : 1 ≤ x ∧ x ≤ 7
  · obtain ⟨n, rfl⟩ := Int.eq_ofNat_of_zero_le (show 0 ≤ x by omega)
    obtain ⟨N, rfl⟩ : ∃ N, n = N + 1 := ⟨n - 1, by omega⟩
    have hN : N ≤ 6 := by omega
    have hcl : classesN (N + 1) = ((stk (N + 1)).filter clsB).length := ((stk_perm (n := N + 1) (by omega) (by omega)).filter _).length_eq.symm
    rw [classesI_yes (by omega) (by omega), hcl]
    clear hcl
    have hst : (stk (N + 1)).length ≤ 823543 := by rw [(stk_perm (n := N + 1) (by omega) (by omega)).length_eq]; exact stacks_small (by omega)
    have H1 := impl_stampsInRange ((N + 1 : Nat) : Int) w
    rw [decide_eq_true h] at H1
    have H1 := Lib.hid H1
    clear h
    obtain ⟨fd⟩ : Nonempty Nat := ⟨3⟩
    refine callsIn_wide.1 (callsIn_of_wp_marks (n := fd) Try.func16 rfl trivial ?_ rfl)
    simp only [Try.ntmps16, List.size_toArray, List.length_cons, List.length_nil, Nat.reduceAdd, Nat.reduceSub, Array.replicate_succ, Array.replicate_zero, List.push_toArray, List.append_toArray, List.nil_append, List.cons_append]
    gi_wp2_with fail
    refine ⟨trivial, (fun h => by cases h), (callsIn_wide.2 H1.out).mono ?_⟩
    rintro e w' ⟨rfl, rfl⟩
    gi_wp2_with fail
    refine ⟨trivial, (fun h => by cases h), (callsIn_wide.2 (impl_stacksOf _ _)).mono ?_⟩
    rintro e w' ⟨rfl, rfl⟩
    gi_wp2_with fail
    have cM : BoxV ((w.alloc (.cells #[.int .i64 0] 3)).alloc (.cells #[.int .i64 ((N : Int) + 1)] 3)) w.heap.size (.int .i64 ((0 : Nat) : Int)) := (BoxV.new w _ _ rfl).alloc _
    have cN : BoxV ((w.alloc (.cells #[.int .i64 0] 3)).alloc (.cells #[.int .i64 ((N : Int) + 1)] 3)) (w.heap.size + 1) (.int .i64 ((N + 1 : Nat) : Int)) := BoxV.new (w.alloc (.cells #[.int .i64 0] 3)) (.int .i64 ((N + 1 : Nat) : Int)) 3 (by simp)
    have sz : ((w.alloc (.cells #[.int .i64 0] 3)).alloc (.cells #[.int .i64 ((N : Int) + 1)] 3)).heap.size = w.heap.size + 2 := by simp
    have bA : Below w.heap.size w ((w.alloc (.cells #[.int .i64 0] 3)).alloc (.cells #[.int .i64 ((N : Int) + 1)] 3)) := ((Below.refl _ w).alloc (Nat.le_refl _) _).alloc (by simp) _
    generalize ((w.alloc (.cells #[.int .i64 0] 3)).alloc (.cells #[.int .i64 ((N : Int) + 1)] 3)) = Wa at cM cN sz bA ⊢
    refine wp_rangeM (M := (· = w.heap.size)) (gf := 102) (lb := #[.pointer (some ⟨w.heap.size + 1, 0, none⟩)]) rfl (enters_of Try.func102 (by kernel_rfl) rfl) (stk (N + 1))
      (fun g h => by subst h; omega) (fun W1 hb1 => seq_stacks N hN _ (w.heap.size + 1) W1 (fun g h => by subst h; have := hb1.size; omega) (cell_below hb1 cN.1) (by simp)) rfl
      (fun k W' => BoxV W' w.heap.size (.int .i64 ((((stk (N + 1)).take k).filter clsB).length : Int)) ∧ Below w.heap.size w W')
      (fun k A B hI hs hb => ⟨hI.1.keep hb (by omega), hI.2.trans (hb.mono (by omega))⟩)
      ⟨cM, bA⟩
      (fun v => { tmps := #[.int .i64 ((N : Int) + 1), undef, .int .i64 0, .pointer (some ⟨w.heap.size, 0, none⟩), v, undef, undef, undef, undef, undef, undef, .int .i64 ((N : Int) + 1), .bool true, .bool false, .int .i64 ((N : Int) + 1), .func (.func 102) #[] #[.pointer (some ⟨w.heap.size + 1, 0, none⟩)], v, undef, undef, undef, undef, undef, undef, undef, undef, undef, undef, undef, undef, undef, undef, undef, undef, undef, undef, undef, undef, undef, undef, undef, undef, undef, undef, undef, undef, undef, undef, undef, undef, undef, undef], defers := [] }) ?assign ?body ?done
    case assign =>
      intro lr v W' K hK m'
      gi_wp2
      first | exact hK | (simp; exact hK)
    case body =>
      intro lr k hk A q c Wb hszb hIk hR m'
      obtain ⟨hbm, hBw⟩ := hIk
      have hks : (stk (N + 1))[k]?.getD [] ∈ stk (N + 1) := by rw [List.getElem?_eq_getElem hk]; exact List.getElem_mem hk
      have hsl := stk_length (by omega) (by omega) hks
      have hps := stk_possB (by omega) (by omega) hks
      obtain rfl : N + 1 = q := hsl.symm.trans hR.1.length
      have hlen : (((stk (N + 1)).take k).filter clsB).length ≤ 823543 := by
        refine Nat.le_trans (List.length_filter_le _ _) ?_
        rw [List.length_take]
        omega
      have hlen2 : ((((stk (N + 1)).take k).filter clsB).length : Int) ≤ 823543 := by omega
      have HSY := Lib.hid (fun (he : clsB ((stk (N + 1))[k]?.getD []) = true) => congrArg List.length (filterR_yes clsB (stk (N + 1)) k [] hk he))
      have HSN := Lib.hid (fun (he : clsB ((stk (N + 1))[k]?.getD []) = false) => congrArg List.length (filterR_no clsB (stk (N + 1)) k [] hk he))
      have hI := hR.1
      clear hR hks
      generalize (stk (N + 1))[k]?.getD [] = s at HSY HSN hI hsl hps
      have HI := Lib.hid hI
      have HP := Lib.hid hps
      have HL := Lib.hid hsl
      clear hI hps hsl
      gi_wp2_with fail
      refine ⟨trivial, (fun h => by cases h), (CallsIn.inRound lr (callsIn_wide.2 (impl_StampOver_yes A (N + 1) c s Wb HI.out HP.out))).mono ?_⟩
      rintro e w2 ⟨a2, m2, d2, rfl, o2, b2⟩
      obtain rfl : N + 1 = m2 := by rw [← o2.length, List.length_reverse]; exact HL.out.symm
      have i2 := HI.out.below b2
      gi_wp2_with fail
      refine ⟨trivial, (fun h => by cases h), (CallsIn.inRound lr (callsIn_wide.2 (impl_StampBack_yes A (N + 1) c s w2 i2 HP.out))).mono ?_⟩
      rintro e w3 ⟨a3, m3, d3, rfl, o3, b3⟩
      obtain rfl : N + 1 = m3 := by rw [← o3.length, backL_length]; exact HL.out.symm
      have i3 := i2.below b3
      have o23 := o2.below b3
      gi_wp2_with fail
      refine ⟨trivial, (fun h => by cases h), (CallsIn.inRound lr (callsIn_wide.2 (impl_StampBack_yes a2 (N + 1) d2 s.reverse w3 o23.ints (rev_possB HP.out)))).mono ?_⟩
      rintro e w4 ⟨a4, m4, d4, rfl, o4, b4⟩
      obtain rfl : N + 1 = m4 := by rw [← o4.length, backL_length, List.length_reverse]; exact HL.out.symm
      rw [backL_rev] at o4
      have i4 := i3.below b4
      have o24 := o23.below b4
      have o34 := o3.below b4
      have b23 := Below.call b2 b2.size b3
      have b24 := Below.call b23 b23.size b4
      have hbm4 := hbm.below b24
      obtain ⟨hcm, hfm⟩ := id hbm4
      have hB4 := Below.call hBw hBw.size b24
      have kb4 := KB.of_below (M := (· = w.heap.size)) b24
      have P1 := lib_Compare A a2 (N + 1) c d2 s _ w4 i4 o24.ints (by omega)
      have P2 := lib_Compare A a3 (N + 1) c d3 s _ w4 i4 o34.ints (by omega)
      have P3 := lib_Compare A a4 (N + 1) c d4 s _ w4 i4 o4.ints (by omega)
      have n1 := cmpL_pos s s.reverse
      have n2 := cmpL_pos s (backL s)
      have n3 := cmpL_pos s (backL s).reverse
      have P1 := Lib.hid P1
      have P2 := Lib.hid P2
      have P3 := Lib.hid P3
      clear hbm4
      clear i4 o24 o34 i2 i3 o23 o3 o2 o4
      cases e1 : lexB s.reverse s with
      | true =>
        have q1 : ¬ cmpL s s.reverse ≤ 0 := by have := n1.2 e1; omega
        have HS := Lib.hid (HSN.out (clsB_1 e1))
        clear e1 n1 n2 n3
        gi_wp2_with fail
        refine ⟨trivial, (fun h => by cases h), (CallsIn.inRound lr (callsIn_wide.2 P1.out)).mono ?_⟩
        rintro e w5 ⟨rfl, rfl⟩
        gi_wp2_with fail
        refine ⟨trivial, ?_⟩
        gi_wp2_with fail
        refine ⟨trivial, ?_⟩
        gi_wp2_with fail
        exact ⟨kb4, by rw [HS.out]; exact hbm.below b24, hB4⟩
      | false =>
        have q1 : cmpL s s.reverse ≤ 0 := by
          by_cases q : 0 < cmpL s s.reverse
          · rw [n1.1 q] at e1; cases e1
          · omega
        have E1 := Lib.hid e1
        clear e1 n1
        cases e2 : lexB (backL s) s with
        | true =>
          have q2 : ¬ cmpL s (backL s) ≤ 0 := by have := n2.2 e2; omega
          have HS := Lib.hid (HSN.out (clsB_2 E1.out e2))
          clear e2 n2 n3
          gi_wp2_with fail
          refine ⟨trivial, (fun h => by cases h), (CallsIn.inRound lr (callsIn_wide.2 P1.out)).mono ?_⟩
          rintro e w5 ⟨rfl, rfl⟩
          gi_wp2_with fail
          refine ⟨trivial, (fun h => by cases h), (CallsIn.inRound lr (callsIn_wide.2 P2.out)).mono ?_⟩
          rintro e w5 ⟨rfl, rfl⟩
          gi_wp2_with fail
          refine ⟨trivial, ?_⟩
          gi_wp2_with fail
          exact ⟨kb4, by rw [HS.out]; exact hbm.below b24, hB4⟩
        | false =>
          have q2 : cmpL s (backL s) ≤ 0 := by
            by_cases q : 0 < cmpL s (backL s)
            · rw [n2.1 q] at e2; cases e2
            · omega
          have E2 := Lib.hid e2
          clear e2 n2
          cases e3 : lexB (backL s).reverse s with
          | true =>
            have q3 : ¬ cmpL s (backL s).reverse ≤ 0 := by have := n3.2 e3; omega
            have HS := Lib.hid (HSN.out (clsB_3 E1.out E2.out e3))
            clear e3 n3
            gi_wp2_with fail
            refine ⟨trivial, (fun h => by cases h), (CallsIn.inRound lr (callsIn_wide.2 P1.out)).mono ?_⟩
            rintro e w5 ⟨rfl, rfl⟩
            gi_wp2_with fail
            refine ⟨trivial, (fun h => by cases h), (CallsIn.inRound lr (callsIn_wide.2 P2.out)).mono ?_⟩
            rintro e w5 ⟨rfl, rfl⟩
            gi_wp2_with fail
            refine ⟨trivial, (fun h => by cases h), (CallsIn.inRound lr (callsIn_wide.2 P3.out)).mono ?_⟩
            rintro e w5 ⟨rfl, rfl⟩
            gi_wp2_with fail
            exact ⟨kb4, by rw [HS.out]; exact hbm.below b24, hB4⟩
          | false =>
            have q3 : cmpL s (backL s).reverse ≤ 0 := by
              by_cases q : 0 < cmpL s (backL s).reverse
              · rw [n3.1 q] at e3; cases e3
              · omega
            have HS := Lib.hid (HSY.out (clsB_4 E1.out E2.out e3))
            clear e3 n3
            gi_wp2_with fail
            refine ⟨trivial, (fun h => by cases h), (CallsIn.inRound lr (callsIn_wide.2 P1.out)).mono ?_⟩
            rintro e w5 ⟨rfl, rfl⟩
            gi_wp2_with fail
            refine ⟨trivial, (fun h => by cases h), (CallsIn.inRound lr (callsIn_wide.2 P2.out)).mono ?_⟩
            rintro e w5 ⟨rfl, rfl⟩
            gi_wp2_with fail
            refine ⟨trivial, (fun h => by cases h), (CallsIn.inRound lr (callsIn_wide.2 P3.out)).mono ?_⟩
            rintro e w5 ⟨rfl, rfl⟩
            gi_wp2_with fail
            exact ⟨kb4.trans (KB.setCell w4 w.heap.size 0 _), by rw [HS.out, List.length_append]; exact (hbm.below b24).set _, hB4.setCell (p := ⟨w.heap.size, 0, none⟩) (by simp only; omega) _⟩
    case done =>
      intro D Wd hD hId hkb hK
      have hc := hId.1.1
      rw [List.take_length] at hc
      gi_wp2
      have hz := hkb.size
      refine ⟨by simp, .inl ⟨_, _, rfl, run_takeDeferred hK, ?_⟩⟩
      exact ⟨_, results_tmp rfl _ _ _, rfl, hId.2.trans (below_putObj Wd D _ (by omega) (by omega))⟩
  · rw [classesI_no h]
    have H1 := impl_stampsInRange x w
    rw [decide_eq_false h] at H1
    have H1 := Lib.hid H1
    clear h
    go_enter Try.func16, Try.ntmps16
    go_wp2_with (first | (go_at_call 60; refine H1.out.mono ?_; rintro e w' ⟨rfl, rfl⟩))
    go_ret
    exact ⟨rfl, Below.refl _ _⟩

end Go.Proofs.Ythlgagngeedgjaa
