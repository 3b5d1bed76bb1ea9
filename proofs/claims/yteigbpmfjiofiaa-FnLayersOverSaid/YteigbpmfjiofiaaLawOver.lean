/-
  The walk through the law on StripLayers turned over: it returns true.
-/
import Derived.Test.YteigbpmfjiofiaaLawHelp
import Derived.Deep.RegionHeld3
namespace Go.Proofs.Yteigbpmfjiofiaa
open Go.RowKit

set_option maxRecDepth 100000 in
set_option maxHeartbeats 4000000 in
theorem law_FnLayersOver (w : World) (a : Option Addr) (n cap : Nat) (bs : List Int) (hx : Bytes w a n cap bs) (a' : Option Addr) (n' cap' : Nat) (bs' : List Int) (hx' : Bytes w a' n' cap' bs') :
    Calls Try.prog 12 #[.slice a n cap, .slice a' n' cap'] w (RVal w (.bool true)) := by
  have hle := hx.1.le
  have hmx := hx.1.max
  have hle' := hx'.1.le
  have hmx' := hx'.1.max
  unfold maxLen at hmx hmx'
  by_cases hn : n ≤ 1048576
  · by_cases hn' : n' ≤ 1048576
    · have H1 := Lib.hid (spec_DrawStripLayers a n cap bs w hx)
      go_enter Try.func12, Try.ntmps12
      go_wp2_with fail
      refine H1.out.mono ?_
      rintro e w1 ⟨a1, n1, c1, xs, s, b1, d1, ys, rfl, i1, hn1, hs1, j1, B1⟩
      have hle1 := i1.le_cap
      have hmx1 := i1.cap_max
      have hle2 := j1.le_cap
      have hmx2 := j1.cap_max
      have HL1 := Lib.hid i1.length
      have HL2 := Lib.hid j1.length
      have P1 := fun (W : World) h1 h2 => impl_StripLayers a1 b1 n1 c1 n1 d1 xs ys s W h1 (by unfold maxLen; omega) h2 (by omega)
      have P2 := fun (W : World) h1 h2 => spec_StripLayers a1 b1 n1 c1 n1 d1 xs ys s W h1 (by omega) (by unfold maxLen; omega) h2 (by omega)
      have e0 : layB xs s ys = strLB xs s ys := rfl
      rw [e0] at P1 P2
      clear e0
      cases hv : strLB xs s ys with
      | false =>
        rw [hv] at P1 P2
        have P1 := Lib.hid P1
        have P2 := Lib.hid P2
        clear hv
        go_wp2_with fail
        refine (P1.out w1 i1 j1).mono ?_
        rintro e w2 ⟨rfl, b2⟩
        go_wp2_with fail
        refine (P2.out w2 (i1.below b2) (j1.below b2)).mono ?_
        rintro e w3 ⟨rfl, b3⟩
        go_wp2_with fail
        go_ret
        have B2 := Below.call B1 B1.size b2
        exact ⟨rfl, Below.call B2 B2.size b3⟩
      | true =>
        rw [hv] at P1 P2
        have P1 := Lib.hid P1
        have P2 := Lib.hid P2
        have hst := (strLB_iff.1 hv).1
        obtain ⟨hst1, hst2, hst3⟩ := stripB_len hst
        obtain ⟨hl1, hl6⟩ := lengthsB_len hst1
        rw [i1.length] at hl1 hl6 hst2
        have HV := Lib.hid hv
        obtain ⟨K, hK⟩ : ∃ K : Nat, K = n' % n1 := ⟨_, rfl⟩
        have hKn : K + 1 ≤ n1 := by have := Nat.mod_lt n' (show 0 < n1 by omega); omega
        have HKK : Hid (1 + (n' : Int) % (n1 : Int) = (K : Int) + 1) := by unfold Hid; rw [hK]; omega
        have hmod : 0 ≤ (n' : Int) % (n1 : Int) ∧ (n' : Int) % (n1 : Int) < 10 := by have := Nat.mod_lt n' (show 0 < n1 by omega); omega
        clear hK
        have P3 : Hid (∀ (W : World) (A : Option Addr) (m c : Nat), m ≤ 10 → Ints W a1 n1 c1 xs → Ints W A m c ys.reverse → Calls Try.prog 31 #[.slice a1 n1 c1, .string (swapS s), .slice A m c] W (RVal W (.bool true))) := fun W A m c hm h1 h2 => by
          have := impl_StripLayers a1 A n1 c1 m c xs ys.reverse (swapS s) W h1 (by rw [swapS_size]; unfold maxLen; omega) h2 (by omega)
          rwa [show layB xs (swapS s) ys.reverse = strLB xs (swapS s) ys.reverse from rfl, lay_over hv] at this
        have P4 : Hid (∀ (W : World) (A : Option Addr) (m c k : Nat) (t : ByteArray), k = K + 1 → t = s.extract 0 K → m ≤ 10 → Ints W a1 n1 c1 xs → Ints W A m c (lowL (K + 1) ys) → Calls Try.prog 31 #[.slice a1 k c1, .string t, .slice A m c] W (RVal W (.bool true))) := fun W A m c k t hk ht hm h1 h2 => by
          subst hk ht
          have := impl_StripLayers a1 A (K + 1) c1 m c (xs.take (K + 1)) (lowL (K + 1) ys) (s.extract 0 K) W (h1.head hKn) (by rw [ByteArray.size_extract]; unfold maxLen; omega) h2 (by omega)
          have q := lay_first (k := K + 1) (by omega) (by rw [i1.length]; exact hKn) hv
          rw [Nat.add_sub_cancel] at q
          rwa [show layB (xs.take (K + 1)) (s.extract 0 K) (lowL (K + 1) ys) = strLB (xs.take (K + 1)) (s.extract 0 K) (lowL (K + 1) ys) from rfl, q] at this
        have P5 : Hid (2 ≤ n1 → ∀ (W : World), Ints W a1 n1 c1 xs → Ints W b1 n1 d1 ys → Calls Try.prog 31 #[.slice a1 n1 c1, .string (swapS (s.extract 0 1) ++ s.extract 1 s.size), .slice b1 n1 d1] W (RVal W (.bool false))) := fun h2n W h1 h2 => by
          have z1 : (s.extract 0 1).size = 1 := by rw [ByteArray.size_extract]; omega
          have z2 : (swapS (s.extract 0 1)).size = 1 := by rw [swapS_size, z1]
          have z3 : (swapS (s.extract 0 1) ++ s.extract 1 s.size).size = s.size := by rw [ByteArray.size_append, z2, ByteArray.size_extract]; omega
          have := impl_StripLayers a1 b1 n1 c1 n1 d1 xs ys (swapS (s.extract 0 1) ++ s.extract 1 s.size) W h1 (by rw [z3]; unfold maxLen; omega) h2 (by omega)
          rwa [show layB xs (swapS (s.extract 0 1) ++ s.extract 1 s.size) ys = strLB xs (swapS (s.extract 0 1) ++ s.extract 1 s.size) ys from rfl, lay_flip (by rw [i1.length]; exact h2n) (by
            rw [bAt_get _ 0 (by omega), ByteArray.getElem_append_left (by omega), ← bAt_get _ 0 (by omega), bAt_swap (by omega), bAt_take (by omega) (by omega)]) hv] at this
        have HLL : Hid ((lowL (K + 1) ys).length = K + 1) := lowL_length (rightB_iff.1 (strLB_iff.1 hv).2).2.1 (HL2.out) hKn
        have hn1z : ¬ (n1 : Int) = 0 := by omega
        clear hst hst1 hst3 hv
        go_wp2_with fail
        refine (P1.out w1 i1 j1).mono ?_
        rintro e w2 ⟨rfl, b2⟩
        go_wp2_with fail
        refine (P2.out w2 (i1.below b2) (j1.below b2)).mono ?_
        rintro e w3 ⟨rfl, b3⟩
        have B2 := Below.call B1 B1.size b2
        have B3 := Below.call B2 B2.size b3
        have i3 := (i1.below b2).below b3
        have j3 := (j1.below b2).below b3
        clear i1 j1 P1 P2 b2 b3 B1 B2
        go_wp2_with fail
        rw [HKK.out]
        go_loopw [12, 13] (fun v i wr => ∃ (j q : Nat) (A : Option Addr) (c : Nat), j ≤ n1 ∧ q ≤ j ∧ i = .int .i64 j ∧ v = .slice A q c ∧ OwnI wr w3.heap.size A q c ((ys.take j).filter fun x => decide (x < (K : Int) + 1)) ∧ Below w3.heap.size w3 wr) (fun _ i _ => n1 - (intOf i).toNat)
        case atStart => exact ⟨0, 0, _, _, Nat.zero_le _, Nat.le_refl _, rfl, rfl, OwnI.lit0 w3 (Nat.le_refl _), (Below.refl _ _).alloc (Nat.le_refl _) _⟩
        case round =>
          obtain ⟨j, q, A, c, hj, hq, rfl, rfl, HO, hB⟩ := hrel
          by_cases hlt : j < n1
          · obtain ⟨bb, off, rfl, hc⟩ := (j3.below hB).cells (by omega)
            have hck := hc j hlt
            clear hc
            by_cases hy : ys[j]?.getD 0 < (K : Int) + 1
            · have HS := Lib.hid (filterR_yes (fun x => decide (x < (K : Int) + 1)) ys j 0 (by rw [HL2.out]; exact hlt) (decide_eq_true hy))
              go_wp2_with (at_builtin; (refine wpList_append_int tyInts rfl (.tmp 65) (.tmp 70) rfl w3.heap.size A q c _ rfl (HO.below ((Below.refl _ _).alloc (Nat.le_refl _) _)) wr.heap.size (ys[j]?.getD 0) rfl (by simp) (by omega) (by have := hB.size; simp; omega) ?_); intro A2 c2 w2 o2 g2 e2; have b2 := Below.appended (hB.alloc hB.size _) (by have := hB.size; simp; omega) g2 HO.base_le; clear g2 e2)
              go_roundw
              case rel => exact ⟨j + 1, q + 1, A2, c2, by omega, by omega, by go_num, rfl, by rw [HS.out]; exact o2, b2⟩
              case measure => simp [intOf]; omega
            · have HS := Lib.hid (filterR_no (fun x => decide (x < (K : Int) + 1)) ys j 0 (by rw [HL2.out]; exact hlt) (decide_eq_false hy))
              go_wp2_with fail
              go_roundw
              case rel => exact ⟨j + 1, q, A, c, by omega, by omega, by go_num, rfl, by rw [HS.out]; exact HO, hB⟩
              case measure => simp [intOf]; omega
          · obtain rfl : j = n1 := by omega
            have HO : OwnI wr w3.heap.size A q c (lowL (K + 1) ys) := by
              have := HO
              rw [take_allI ys j (by rw [HL2.out]; exact Nat.le_refl _)] at this
              exact this
            obtain rfl : K + 1 = q := HLL.out.symm.trans HO.length
            have hBr := B3.trans (hB.mono B3.size)
            have i4 := i3.below hB
            have j4 := j3.below hB
            have s1 : (K : Int) + 1 ≤ (c1 : Int) := by omega
            have s2 : (K : Int) ≤ (s.size : Int) := by omega
            have s3 : 0 ≤ (K : Int) + 1 := by omega
            have s5 : ((K : Int) + 1).toNat = K + 1 := by omega
            have hcc := HO.ints.le_cap
            have s6 : IntKind.i64.wrap ((K : Int) + 1 - 1) = (K : Int) := by rw [Int.add_sub_cancel]; exact IntWalk.i64_in _ (by omega)
            have s7 : IntKind.i64.wrap (K : Int) = (K : Int) := IntWalk.i64_in _ (by omega)
            have s8 : 0 ≤ (K : Int) := by omega
            go_wp2_with fail
            have HST2 := Lib.hid hst2
            clear hle hmx hle' hmx' hn hn' hx hx' HL1 HV hlt hj hq B3 j3 i3 hst2 hmod hn1z HLL hle1 hmx1 hle2 hmx2 hB
            go_region_held3 (fun _ => True) (trivial) (first
              | (go_at_call 32; refine (impl_FoldsSwap s _ (by unfold maxLen; omega)).mono ?_; rintro e W1 ⟨rfl, c1'⟩; have Bc1 := hBr.drew.trans (c1'.mono hBr.size); have i5 := i4.drew.below c1'; have j5 := j4.drew.below c1'; have o5 := HO.drew.below c1')
              | (go_at_call 33; refine (laws_reversed b1 j d1 ys W1 j5 (by omega)).mono ?_; rintro e W2 ⟨A2, n2, c2, rfl, o2, c2'⟩; have Bc2 := Below.call Bc1 Bc1.size c2'; have i6 := i5.below c2'; have j6 := j5.below c2'; have o6 := o5.below c2'; have hn2 : n2 ≤ 10 := by rw [← o2.length, List.length_reverse, HL2.out]; exact hn1)
              | (go_at_call_of 31 (Value.string (swapS s)); refine (P3.out W2 A2 n2 c2 hn2 i6 o2.ints).mono ?_; rintro e W3 ⟨rfl, c3'⟩; have Bc3 := Below.call Bc2 Bc2.size c3'; have i7 := i6.below c3'; have j7 := j6.below c3'; have o7 := o6.below c3')
              | (go_at_call 31; refine (P4.out W3 A (K + 1) c _ _ (by first | rfl | omega) (by first | rfl | simp) (by omega) i7 o7.ints).mono ?_; rintro e W4 ⟨rfl, c4'⟩; have Bc4 := Below.call Bc3 Bc3.size c4'; have i8 := i7.below c4'; have j8 := j7.below c4'))
            by_cases hj1 : j = 1
            · have hjI : (j : Int) = 1 := by omega
              have hjb : ((j : Int) == 1) = true := by rw [beq_iff_eq]; omega
              clear hj1
              go_wp2_with fail
              go_quiet (fail)
              go_wp2_with fail
              go_ret
              exact ⟨rfl, below_drewN Bc4 _⟩
            · have hjI : ¬ (j : Int) = 1 := by omega
              have hjb : ((j : Int) == 1) = false := by rw [beq_eq_false_iff_ne]; omega
              have P5' := Lib.hid (P5.out (by omega))
              obtain ⟨u, hu⟩ : ∃ u, swapS (s.extract 0 1) = u := ⟨_, rfl⟩
              obtain ⟨v, hv⟩ : ∃ v, s.extract 1 s.size = v := ⟨_, rfl⟩
              rw [hu, hv] at P5'
              have hus : u.size ≤ 1 := by rw [← hu, swapS_size, ByteArray.size_extract]; omega
              have hvs : v.size ≤ 20 := by rw [← hv, ByteArray.size_extract]; omega
              have hadd : ∀ W : World, (Op.stringOp .add u v).run Try.prog W = .ok (.string (u ++ v)) W := fun W => run_string_add_sum (P := Try.prog) W _ _ (by omega)
              have hs1' : (1 : Int) ≤ (s.size : Int) := by have := HST2.out; omega
              have HU := Lib.hid hu
              have PF : Hid (∀ W : World, Calls Try.prog 32 #[.string (s.extract 0 1)] W (RStr W u)) := fun W => by
                have := impl_FoldsSwap (s.extract 0 1) W (by rw [ByteArray.size_extract]; unfold maxLen; omega)
                rwa [hu] at this
              clear hu HO i4 j4 c1' Bc1 i5 j5 o5 o2 c2' Bc2 i6 j6 o6 c3' Bc3 i7 j7 o7 P3 P4 P5
              go_wp2_with fail
              go_region_held3 (fun _ => True) (trivial) (first
                | (go_at_call 32; refine (PF.out _).mono ?_; rintro e W5 ⟨rfl, c5'⟩; have Bc5 := Bc4.drew.trans (c5'.mono Bc4.size); have i9 := i8.drew.below c5'; have j9 := j8.drew.below c5')
                | (go_at_call 31; refine (P5'.out W5 i9 j9).mono ?_; rintro e W6 ⟨rfl, c6'⟩; have Bc6 := Below.call Bc5 Bc5.size c6'))
              go_wp2_with fail
              go_ret
              exact ⟨rfl, Bc6⟩
    · go_enter Try.func12, Try.ntmps12
      go_wp2_with fail
      go_ret
      exact ⟨rfl, Below.refl _ _⟩
  · go_enter Try.func12, Try.ntmps12
    go_wp2_with fail
    go_ret
    exact ⟨rfl, Below.refl _ _⟩

end Go.Proofs.Yteigbpmfjiofiaa
