/-
  The walk through the law on strips that are folded by steps: it returns true.
-/
import Derived.Test.YteigbpmfjiofiabDraw6
import Derived.Test.YteigbpmfjiofiabLawHelp
import Derived.Test.YteigbpmfjiofiabStepsK
import Derived.Deep.RegionLaw
import Derived.RegionTactic
import Derived.IntWalk
namespace Go.Proofs.Yteigbpmfjiofiab
open Go.RowKit

def fallTo (xs : List Int) (i : Nat) : Bool := decide (∀ j, j < i → 1 ≤ j → xs[j]?.getD 0 ≤ xs[j - 1]?.getD 0)
theorem fallTo_succ (xs : List Int) {i : Nat} (h1 : 1 ≤ i) : fallTo xs (i + 1) = (fallTo xs i && decide (xs[i]?.getD 0 ≤ xs[i - 1]?.getD 0)) := by
  unfold fallTo
  rw [Bool.eq_iff_iff, Bool.and_eq_true, decide_eq_true_eq, decide_eq_true_eq, decide_eq_true_eq]
  constructor
  · exact fun h => ⟨fun j hj => h j (by omega), h i (by omega) h1⟩
  · rintro ⟨h2, h3⟩ j hj
    by_cases e : j = i
    · rw [e]; exact fun _ => h3
    · exact h2 j (by omega)
theorem fall_steps : ∀ (n : Nat) (xs : List Int) (s : ByteArray), xs.length = n → (∀ j, j < n → 1 ≤ j → at0 xs j ≤ at0 xs (j - 1)) → stepsB n xs s = true := by
  intro n
  induction n with
  | zero => intro xs s _ _; rfl
  | succ n ih =>
    intro xs s hl h
    by_cases h0 : n = 0
    · subst h0; rfl
    · refine steps_last (by omega) ?_ ?_
      · have := h n (by omega) (by omega)
        rw [show n + 1 - 1 = n by omega, show n + 1 - 2 = n - 1 by omega]
        exact this
      · rw [show n + 1 - 1 = n by omega]
        refine ih _ _ (by rw [List.length_take]; omega) fun j hj h1 => ?_
        have := h j (by omega) h1
        unfold at0 at *
        rw [List.getElem?_take_of_lt hj, List.getElem?_take_of_lt (by omega)]
        exact this
theorem fall_all {xs : List Int} {s : ByteArray} (hs : stripB xs s = true) (h : fallTo xs xs.length = true) : foldsB xs s = true := by
  unfold foldsB
  rw [hs, fall_steps xs.length xs s rfl (fun j hj h1 => of_decide_eq_true h j hj h1)]
  rfl
theorem bAt_app {s u : ByteArray} {k : Nat} (h : k < s.size) : bAt (s ++ u) k = bAt s k := by
  rw [bAt_get _ k (by rw [ByteArray.size_append]; omega), ByteArray.getElem_append_left h, ← bAt_get]
theorem MV_app {s u : ByteArray} (h1 : s.data.toList.all isMV = true) (h2 : u.data.toList.all isMV = true) : (s ++ u).data.toList.all isMV = true := by
  rw [ByteArray.data_append, Array.toList_append, List.all_append, h1, h2]
  rfl
theorem app_folds {xs : List Int} {s u : ByteArray} {v : Int} (h : foldsB xs s = true) (hn : xs.length < 6) (hv1 : 1 ≤ v) (hv2 : v ≤ xs[xs.length - 1]?.getD 0) (hu : u.size = 1) (hm : u.data.toList.all isMV = true) : foldsB (xs ++ [v]) (s ++ u) = true := by
  unfold foldsB at h
  rw [Bool.and_eq_true] at h
  obtain ⟨h1, h2⟩ := h
  obtain ⟨hl, hs, hmv⟩ := stripB_len h1
  obtain ⟨p1, p2⟩ := lengthsB_len hl
  have hlast := allIn_get (lengthsB_in hl) (xs.length - 1) (by omega)
  have hst : stripB (xs ++ [v]) (s ++ u) = true := stripB_mk ((lengthsB_iff _).2 ⟨by rw [List.length_append]; omega, by rw [List.length_append, List.length_singleton]; omega, allIn_snoc (lengthsB_in hl) hv1 (by omega)⟩) (by rw [ByteArray.size_append, List.length_append, List.length_singleton]; omega) (MV_app hmv hm)
  unfold foldsB
  rw [hst, Bool.true_and, List.length_append, List.length_singleton]
  refine steps_last (by omega) ?_ ?_
  · rw [show xs.length + 1 - 1 = xs.length by omega, show xs.length + 1 - 2 = xs.length - 1 by omega]
    unfold at0
    rw [List.getElem?_append_right (Nat.le_refl _), Nat.sub_self, List.getElem?_append_left (by omega)]
    exact hv2
  · rw [show xs.length + 1 - 1 = xs.length by omega, show xs.length + 1 - 2 = xs.length - 1 by omega, List.take_left]
    have e : (s ++ u).extract 0 (xs.length - 1) = s := by
      refine bAt_ext (by rw [ByteArray.size_extract, ByteArray.size_append]; omega) fun k hk => ?_
      rw [ByteArray.size_extract] at hk
      rw [bAt_take (by omega) (by rw [ByteArray.size_append]; omega), bAt_app (by omega)]
    rw [e]
    exact h2

def mvS (s : ByteArray) : Prop := s.data.toList.all isMV = true
theorem cell_alloc_one (W : World) (v : Value) (t : TypeId) : (W.alloc (.cells #[v] t)).cell? ⟨W.heap.size, 0, none⟩ = some v := by simp
theorem OwnI.fresh {W : World} {g base : Nat} (h : W.heap[g]? = some (.cells #[] 3 (0, 0))) (hb : base ≤ g) : OwnI W base (some ⟨g, 0, none⟩) 0 0 [] :=
  ⟨rfl, .inr ⟨g, 0, #[], rfl, hb, h, Nat.le_refl _, by unfold maxLen; omega, rfl, rfl⟩⟩

set_option maxHeartbeats 400000 in
theorem laws_power (n : Nat) (w : World) (hn : n ≤ 5) :
    Calls Try.prog 18 #[.int .i64 n] w fun e w' => (∃ z : Nat, e = .returned (.int .i64 z) ∧ 1 ≤ z ∧ z ≤ 32) ∧ w = w' := by
  go_enter Try.func18, Try.ntmps18
  go_wp2
  go_loop [3, 4] (fun t i => ∃ (j z : Nat), j ≤ n ∧ i = .int .i64 j ∧ t = .int .i64 z ∧ 1 ≤ z ∧ z ≤ 2 ^ j) (fun _ i => n - (intOf i).toNat)
  case atStart => exact ⟨0, 1, Nat.zero_le _, rfl, rfl, by omega, by omega⟩
  case round =>
    obtain ⟨j, z, hj, rfl, rfl, hz1, hz2⟩ := hrel
    have hp : 2 ^ j ≤ 2 ^ 5 := Nat.pow_le_pow_right (by omega) (by omega)
    have hzz : z ≤ 32 := by omega
    by_cases hlt : j < n
    · have hP : Hid (2 * z ≤ 2 ^ (j + 1)) := by unfold Hid; rw [Nat.pow_succ]; omega
      clear hp hz2
      go_wp2
      go_round
      case rel => exact ⟨j + 1, 2 * z, by omega, by go_num, by go_num, by omega, hP.out⟩
      case measure => simp [intOf]; omega
    · clear hp hz2
      go_wp2
      go_ret
      exact ⟨⟨z, rfl, hz1, hzz⟩, rfl⟩

set_option maxHeartbeats 400000 in
theorem laws_foldsOf (n : Nat) (R : Int) (w : World) (hn : n ≤ 5) (hR0 : 0 ≤ R) (hR1 : R ≤ 1048576) :
    Calls Try.prog 17 #[.int .i64 n, .int .i64 R] w fun e w' => (∃ t : ByteArray, e = .returned (.string t) ∧ t.size = n ∧ mvS t) ∧ w = w' := by
  go_enter Try.func17, Try.ntmps17
  go_wp2
  go_loop [1, 5, 6] (fun r o i => ∃ (j : Nat) (t : ByteArray) (S : Int), j ≤ n ∧ i = .int .i64 j ∧ o = .string t ∧ r = .int .i64 S ∧ t.size = j ∧ mvS t ∧ 0 ≤ S ∧ S ≤ 1048576) (fun _ _ i => n - (intOf i).toNat)
  case atStart => exact ⟨0, _, R, Nat.zero_le _, rfl, rfl, rfl, rfl, rfl, hR0, hR1⟩
  case round =>
    obtain ⟨j, t, S, hj, rfl, rfl, rfl, hts, htm, hS0, hS1⟩ := hrel
    by_cases hlt : j < n
    · have hd0 : 0 ≤ S / 2 := by omega
      have hd1 : S / 2 ≤ 1048576 := by omega
      by_cases h2 : S % 2 = 0
      · have h2b : (S % 2 == 0) = true := by rw [beq_iff_eq]; exact h2
        go_wp2
        go_round
        case rel => exact ⟨j + 1, ⟨#[77]⟩ ++ t, S / 2, by omega, by go_num, rfl, by first | rfl | go_num, by rw [ByteArray.size_append]; show 1 + t.size = j + 1; omega, MV_app (by decide) htm, hd0, hd1⟩
        case measure => simp [intOf]; omega
      · have h2b : (S % 2 == 0) = false := by rw [beq_eq_false_iff_ne]; exact h2
        go_wp2
        go_round
        case rel => exact ⟨j + 1, ⟨#[86]⟩ ++ t, S / 2, by omega, by go_num, rfl, by first | rfl | go_num, by rw [ByteArray.size_append]; show 1 + t.size = j + 1; omega, MV_app (by decide) htm, hd0, hd1⟩
        case measure => simp [intOf]; omega
    · go_wp2
      go_ret
      exact ⟨⟨t, rfl, by omega, htm⟩, rfl⟩

set_option maxRecDepth 100000 in
set_option maxHeartbeats 4000000 in
theorem law_FnStripSteps (w : World) (a : Option Addr) (n cap : Nat) (bs : List Int) (hx : Bytes w a n cap bs) (a' : Option Addr) (n' cap' : Nat) (bs' : List Int) (hx' : Bytes w a' n' cap' bs') :
    Calls Try.prog 4 #[.slice a n cap, .slice a' n' cap'] w (RVal w (.bool true)) := by
  have hle := hx.1.le
  have hmx := hx.1.max
  have hle' := hx'.1.le
  have hmx' := hx'.1.max
  unfold maxLen at hmx hmx'
  by_cases hn : n ≤ 1048576
  · by_cases hn' : n' ≤ 1048576
    · have H1 := Lib.hid (spec_DrawStripFolds a n cap bs w hx)
      go_enter Try.func4, Try.ntmps4
      go_wp2_with fail
      refine H1.out.mono ?_
      rintro e w1 ⟨a1, n1, c1, xs, s, rfl, o1, hn1, hs1, B1⟩
      have i1 := o1.ints
      have hle1 := i1.le_cap
      have hmx1 := i1.cap_max
      have HL1 := Lib.hid i1.length
      have P1 := fun (W : World) h1 => impl_StripFolds a1 n1 c1 xs s W h1 (by unfold maxLen; omega)
      have P2 := fun (W : World) h1 => spec_StripFolds a1 n1 c1 xs s W h1 (by omega) (by unfold maxLen; omega)
      clear o1
      cases hv : foldsB xs s with
      | false =>
        rw [hv] at P1 P2
        have P1 := Lib.hid P1
        have P2 := Lib.hid P2
        clear hv
        go_wp2_with fail
        refine (P1.out w1 i1).mono ?_
        rintro e w2 ⟨rfl, b2⟩
        go_wp2_with fail
        refine (P2.out w2 (i1.below b2)).mono ?_
        rintro e w3 ⟨rfl, b3⟩
        go_wp2_with fail
        go_ret
        have B2 := Below.call B1 B1.size b2
        exact ⟨rfl, Below.call B2 B2.size b3⟩
      | true =>
        rw [hv] at P1 P2
        have P1 := Lib.hid P1
        have P2 := Lib.hid P2
        have hst : stripB xs s = true := by unfold foldsB at hv; rw [Bool.and_eq_true] at hv; exact hv.1
        obtain ⟨hst1, hst2, hst3⟩ := stripB_len hst
        have HIN := Lib.hid (lengthsB_in hst1)
        obtain ⟨hl1, hl6⟩ := lengthsB_len hst1
        rw [i1.length] at hl1 hl6 hst2
        have P3 : Hid (fallTo xs n1 = true → ∀ (W : World) (t : ByteArray), t.size = n1 - 1 → t.data.toList.all isMV = true → Ints W a1 n1 c1 xs → Calls Try.prog 15 #[.slice a1 n1 c1, .string t] W (RVal W (.bool true))) := fun hf W t ht hm h1 => by
          have := impl_StripFolds a1 n1 c1 xs t W h1 (by unfold maxLen; omega)
          rwa [fall_all (stripB_mk hst1 (by rw [i1.length]; omega) hm) (by rw [i1.length]; exact hf)] at this
        have P4 : Hid (n1 < 6 → ∀ (v : Int), 1 ≤ v → v ≤ xs[n1 - 1]?.getD 0 → ∀ (W : World) (A : Option Addr) (c : Nat) (u : ByteArray), u.size = 1 → u.data.toList.all isMV = true → Ints W A (n1 + 1) c (xs ++ [v]) → Calls Try.prog 15 #[.slice A (n1 + 1) c, .string (s ++ u)] W (RVal W (.bool true))) := fun h6 v hv1 hv2 W A c u hu hm h1 => by
          have := impl_StripFolds A (n1 + 1) c (xs ++ [v]) (s ++ u) W h1 (by rw [ByteArray.size_append]; unfold maxLen; omega)
          rwa [app_folds hv (by rw [i1.length]; exact h6) hv1 (by rw [i1.length]; exact hv2) hu hm] at this
        clear hst hst1 hst3 hv
        go_wp2_with fail
        refine (P1.out w1 i1).mono ?_
        rintro e w2 ⟨rfl, b2⟩
        go_wp2_with fail
        refine (P2.out w2 (i1.below b2)).mono ?_
        rintro e w3 ⟨rfl, b3⟩
        have B2 := Below.call B1 B1.size b2
        have B3 := Below.call B2 B2.size b3
        have i3 := (i1.below b2).below b3
        clear i1 P1 P2 b2 b3 B1 B2
        go_wp2_with fail
        go_loopw [10, 11] (fun g i wr => ∃ k : Nat, 1 ≤ k ∧ k ≤ n1 ∧ i = .int .i64 k ∧ g = .bool (fallTo xs k) ∧ Below w3.heap.size w3 wr) (fun _ i _ => n1 - (intOf i).toNat)
        case atStart => exact ⟨1, Nat.le_refl _, hl1, rfl, by have : fallTo xs 1 = true := by { unfold fallTo; rw [decide_eq_true_eq]; intro j h1 h2; omega }; rw [this], Below.refl _ _⟩
        case round =>
          obtain ⟨k, hk1, hk, rfl, rfl, hB⟩ := hrel
          by_cases hlt : k < n1
          · obtain ⟨bb, off, ea, hc⟩ := (i3.below hB).cells (by omega)
            subst ea
            have hck := hc k hlt
            have hck1 := hc (k - 1) (by omega)
            have HG := Lib.hid (fallTo_succ xs hk1)
            clear hc
            generalize xs[k]?.getD 0 = X at hck HG
            generalize xs[k - 1]?.getD 0 = Y at hck1 HG
            have hltI : (k : Int) < (n1 : Int) := by omega
            cases hg : fallTo xs k with
            | false =>
              rw [hg] at HG
              go_wp2_with fail
              go_quiet (fail)
              go_wp2_with fail
              go_roundw
              case rel => exact ⟨k + 1, by omega, by omega, by go_num, by rw [HG.out]; rfl, below_drewN hB _⟩
              case measure => simp [intOf]; omega
            | true =>
              rw [hg] at HG
              have hi0 : 0 ≤ (k : Int) - 1 := by omega
              have hi1 : (k : Int) - 1 < (n1 : Int) := by omega
              have hit : ((k : Int) - 1).toNat = k - 1 := by omega
              have hiw : IntKind.i64.wrap ((k : Int) - 1) = (k : Int) - 1 := IntWalk.i64_in _ (by omega)
              go_wp2_with fail
              go_quiet (fail)
              go_wp2_with fail
              go_roundw
              case rel => exact ⟨k + 1, by omega, by omega, by go_num, by rw [HG.out]; rfl, below_drewN hB _⟩
              case measure => simp [intOf]; omega
          · obtain rfl : k = n1 := by omega
            have hBr := B3.trans (hB.mono B3.size)
            have i4 := i3.below hB
            have hm1 : (k : Int) - 1 = ((k - 1 : Nat) : Int) := by omega
            have PW : Hid (∀ (W : World) (v : Int), v = (k : Int) - 1 → Calls Try.prog 18 #[.int .i64 v] W fun e w' => (∃ z : Nat, e = .returned (.int .i64 z) ∧ 1 ≤ z ∧ z ≤ 32) ∧ W = w') := fun W v e => by
              rw [e, hm1]; exact laws_power (k - 1) W (by omega)
            have PO : Hid (∀ (W : World) (v R : Int), v = (k : Int) - 1 → 0 ≤ R → R ≤ 1048576 → Calls Try.prog 17 #[.int .i64 v, .int .i64 R] W fun e w' => (∃ t : ByteArray, e = .returned (.string t) ∧ t.size = k - 1 ∧ mvS t) ∧ W = w') := fun W v R e h0 h1 => by
              rw [e, hm1]; exact laws_foldsOf (k - 1) R W (by omega) h0 h1
            have PO1 : Hid (∀ (W : World) (R : Int), 0 ≤ R → R ≤ 1048576 → Calls Try.prog 17 #[.int .i64 1, .int .i64 R] W fun e w' => (∃ t : ByteArray, e = .returned (.string t) ∧ t.size = 1 ∧ mvS t) ∧ W = w') := fun W R h0 h1 => laws_foldsOf 1 R W (by omega) h0 h1
            clear hm1
            go_wp2_with fail
            refine (PW.out _ _ (by first | rfl | omega)).mono ?_
            rintro e w5 ⟨⟨z, rfl, hz1, hz2⟩, rfl⟩
            have hz0 : ¬ (z : Int) = 0 := by omega
            have hm0 := Int.emod_nonneg (n' : Int) hz0
            have hm1 := Int.emod_lt_of_pos (n' : Int) (show (0 : Int) < z by omega)
            go_wp2_with fail
            refine (PO.out _ _ _ (by first | rfl | omega) (by first | exact hm0 | (rw [Int.tmod_eq_emod_of_nonneg (by omega)]; exact hm0)) (by first | omega | (rw [Int.tmod_eq_emod_of_nonneg (by omega)]; omega))).mono ?_
            rintro e w5 ⟨⟨t, rfl, ht1, ht2⟩, rfl⟩
            have HT1 := Lib.hid ht1
            have HT2 := ht2
            clear ht1 ht2 hm0 hm1
            have key : ∀ W : World, Ints W a1 k c1 xs → fallTo xs k = true → Calls Try.prog 15 #[.slice a1 k c1, .string t] W (RVal W (.bool true)) := fun W h1 hf => P3.out hf W t HT1.out HT2 h1
            have KEY := Lib.hid key
            clear key
            cases hg : fallTo xs k with
            | false =>
              clear KEY P3 PW PO
              by_cases h6 : k = 6
              · subst h6
                go_wp2_with fail
                go_ret
                exact ⟨rfl, hBr⟩
              · have h6I : ¬ (k : Int) = 6 := by omega
                obtain ⟨K, rfl⟩ : ∃ K, k = K + 1 := ⟨k - 1, by omega⟩
                go_wp2_with fail
                obtain ⟨bb, off, ea, hc⟩ := (i4).cells (by omega)
                subst ea
                have hck := hc K (by omega)
                clear hc
                have hX := allIn_get HIN.out K (by rw [HL1.out]; omega)
                have P4' := P4.out (by omega)
                rw [Nat.add_sub_cancel] at P4'
                generalize hXX : xs[K]?.getD 0 = X at hck hX P4'
                obtain ⟨M, hM⟩ : ∃ M, (n' : Int).tmod X = M := ⟨_, rfl⟩
                have hM0 : 0 ≤ M ∧ M < X := by
                  rw [← hM, Int.tmod_eq_emod_of_nonneg (by omega)]
                  exact ⟨Int.emod_nonneg _ (by omega), Int.emod_lt_of_pos _ (by omega)⟩
                have hMe : (n' : Int) % X = M := by rw [← hM, Int.tmod_eq_emod_of_nonneg (by omega)]
                have P4'' := Lib.hid (P4' (1 + M) (by omega) (by omega))
                have hX0 : ¬ X = 0 := by omega
                have hXb : (X == 0) = false := by rw [beq_eq_false_iff_ne]; omega
                have hw1 : IntKind.i64.wrap M = M := IntWalk.i64_in _ (by omega)
                have hw2 : IntKind.i64.wrap (1 + M) = 1 + M := IntWalk.i64_in _ (by omega)
                have hi0 : 0 ≤ (K : Int) := by omega
                have hi1 : (K : Int) < (K : Int) + 1 := by omega
                have s6 : IntKind.i64.wrap ((K : Int) + 1 - 1) = (K : Int) := by rw [Int.add_sub_cancel]; exact IntWalk.i64_in _ (by omega)
                have s7 : IntKind.i64.wrap (K : Int) = (K : Int) := IntWalk.i64_in _ (by omega)
                clear P4' P4 hXX
                have hbb : bb < wr.heap.size := World.block_lt_of_cell? _ _ hck
                have hA : ((wr.alloc (.cells #[] 3)).drew).heap[wr.heap.size]? = some (.cells #[] 3) := heap_alloc_new wr _
                have hB' : (((wr.alloc (.cells #[] 3)).alloc (.cells #[.int .i64 (1 + M)] 3)).drew).heap[wr.heap.size]? = some (.cells #[] 3) := (heap_alloc_old (wr.alloc (.cells #[] 3)) _ (by simp)).trans (heap_alloc_new wr _)
                have hC : (((wr.alloc (.cells #[.int .i64 (1 + M)] 3)).alloc (.cells #[] 3)).drew).heap[wr.heap.size + 1]? = some (.cells #[] 3) := by
                  have := heap_alloc_new (wr.alloc (.cells #[.int .i64 (1 + M)] 3)) (.cells #[] 3)
                  rwa [show (wr.alloc (.cells #[.int .i64 (1 + M)] 3)).heap.size = wr.heap.size + 1 by simp] at this
                have BA : Below wr.heap.size wr ((wr.alloc (.cells #[] 3)).drew) := ((Below.refl _ _).alloc (Nat.le_refl _) _).drew
                have BB : Below wr.heap.size wr (((wr.alloc (.cells #[] 3)).alloc (.cells #[.int .i64 (1 + M)] 3)).drew) := (((Below.refl _ _).alloc (Nat.le_refl _) _).alloc (by simp) _).drew
                have BC : Below wr.heap.size wr (((wr.alloc (.cells #[.int .i64 (1 + M)] 3)).alloc (.cells #[] 3)).drew) := (((Below.refl _ _).alloc (Nat.le_refl _) _).alloc (by simp) _).drew
                have vB : (((wr.alloc (.cells #[] 3)).alloc (.cells #[.int .i64 (1 + M)] 3)).drew).cell? ⟨wr.heap.size + 1, 0, none⟩ = some (.int .i64 (1 + M)) := by
                  have := cell_alloc_one (wr.alloc (.cells #[] 3)) (.int .i64 (1 + M)) 3
                  rw [show (wr.alloc (.cells #[] 3)).heap.size = wr.heap.size + 1 by simp] at this
                  exact this
                have vC : (((wr.alloc (.cells #[.int .i64 (1 + M)] 3)).alloc (.cells #[] 3)).drew).cell? ⟨wr.heap.size, 0, none⟩ = some (.int .i64 (1 + M)) := cell_below ((Below.refl _ (wr.alloc (.cells #[.int .i64 (1 + M)] 3))).alloc (Nat.le_refl _) _).drew (cell_alloc_one wr _ _)
                go_region_law (first
                  | (refine step_append_ints tyInts rfl (.tmp 81) (.tmp 82) rfl wr.heap.size (some ⟨wr.heap.size, 0, none⟩) 0 0 [] rfl (OwnI.fresh hA (Nat.le_refl _)) (some ⟨bb, off, none⟩) (K + 1) c1 xs rfl (Ints.below i4 BA) (by omega) BA.size ?_; intro A5 c5 w5 o5 g5 e5; have b5 := Below.appended BA BA.size g5 (fun x hx => by cases hx; exact Nat.le_refl _); have hck5 := cell_below b5 hck; have hv5 := True.intro; simp only [Nat.zero_add, List.nil_append] at o5; clear g5 e5)
                  | (refine step_append_ints tyInts rfl (.tmp 81) (.tmp 82) rfl wr.heap.size (some ⟨wr.heap.size, 0, none⟩) 0 0 [] rfl (OwnI.fresh hB' (Nat.le_refl _)) (some ⟨bb, off, none⟩) (K + 1) c1 xs rfl (Ints.below i4 BB) (by omega) BB.size ?_; intro A5 c5 w5 o5 g5 e5; have b5 := Below.appended BB BB.size g5 (fun x hx => by cases hx; exact Nat.le_refl _); have hck5 := cell_below b5 hck; have hv5 := g5.cell vB (by simp); simp only [Nat.zero_add, List.nil_append] at o5; clear g5 e5)
                  | (refine step_append_ints tyInts rfl (.tmp 81) (.tmp 82) rfl wr.heap.size (some ⟨wr.heap.size + 1, 0, none⟩) 0 0 [] rfl (OwnI.fresh hC (Nat.le_succ _)) (some ⟨bb, off, none⟩) (K + 1) c1 xs rfl (Ints.below i4 BC) (by omega) BC.size ?_; intro A5 c5 w5 o5 g5 e5; have b5 := Below.appended BC BC.size g5 (fun x hx => by cases hx; simp); have hck5 := cell_below b5 hck; have hv5 := g5.cell vC (by simp); simp only [Nat.zero_add, List.nil_append] at o5; clear g5 e5)
                  | (refine step_append_int tyInts rfl (.tmp 83) (.tmp 93) rfl wr.heap.size A5 (K + 1) c5 xs rfl (OwnI.below o5 ((Below.refl _ _).alloc (Nat.le_refl _) _)) w5.heap.size (1 + M) rfl (by simp) (by omega) (by have := b5.size; simp; omega) ?_; intro A6 c6 w6 o6 g6 e6; have b6 := Below.appended (b5.alloc b5.size _) (by have := b5.size; simp; omega) g6 o5.base_le; clear g6 e6)
                  | (refine step_append_int tyInts rfl (.tmp 83) (.tmp 93) rfl wr.heap.size A5 (K + 1) c5 xs rfl o5 (wr.heap.size + 1) (1 + M) rfl hv5 (by omega) b5.size ?_; intro A6 c6 w6 o6 g6 e6; have b6 := Below.appended b5 b5.size g6 o5.base_le; clear g6 e6)
                  | (refine step_append_int tyInts rfl (.tmp 83) (.tmp 93) rfl wr.heap.size A5 (K + 1) c5 xs rfl o5 wr.heap.size (1 + M) rfl hv5 (by omega) b5.size ?_; intro A6 c6 w6 o6 g6 e6; have b6 := Below.appended b5 b5.size g6 o5.base_le; clear g6 e6))
                all_goals
                  clear o5 b5 hck5 hv5 hA hB' hC BA BB BC vB vC hck
                  go_wp2_with fail
                  refine (PO1.out _ _ (by first | omega | (rw [Int.tmod_eq_emod_of_nonneg (by omega)]; omega)) (by first | omega | (rw [Int.tmod_eq_emod_of_nonneg (by omega)]; omega))).mono ?_
                  rintro e w7 ⟨⟨u, rfl, hu1, hu2⟩, rfl⟩
                  have hus : u.size ≤ 1 := by omega
                  have HU1 := Lib.hid hu1
                  have HU2 := Lib.hid hu2
                  have P5 := Lib.hid (P4''.out w6 A6 c6 u hu1 hu2 o6.ints)
                  clear hu1 hu2
                  go_wp2_with fail
                  refine P5.out.mono ?_
                  rintro e w8 ⟨rfl, b8⟩
                  go_wp2_with fail
                  go_ret
                  exact ⟨rfl, Below.call (hBr.trans (b6.mono hBr.size)) (hBr.trans (b6.mono hBr.size)).size b8⟩
            | true =>
              have KEY' : Hid (∀ W : World, Ints W a1 k c1 xs → Calls Try.prog 15 #[.slice a1 k c1, .string t] W (RVal W (.bool true))) := fun W h1 => KEY.out W h1 hg
              clear KEY P3 PW PO
              go_wp2_with fail
              refine (KEY'.out _ i4).mono ?_
              rintro e W9 ⟨rfl, b9⟩
              have i9 := i4.below b9
              have B6 := Below.call hBr hBr.size b9
              clear KEY' i4 hB
              by_cases h6 : k = 6
              · subst h6
                go_wp2_with fail
                go_ret
                exact ⟨rfl, B6⟩
              · have h6I : ¬ (k : Int) = 6 := by omega
                obtain ⟨K, rfl⟩ : ∃ K, k = K + 1 := ⟨k - 1, by omega⟩
                go_wp2_with fail
                obtain ⟨bb, off, ea, hc⟩ := (i9).cells (by omega)
                subst ea
                have hck := hc K (by omega)
                clear hc
                have hX := allIn_get HIN.out K (by rw [HL1.out]; omega)
                have P4' := P4.out (by omega)
                rw [Nat.add_sub_cancel] at P4'
                generalize hXX : xs[K]?.getD 0 = X at hck hX P4'
                obtain ⟨M, hM⟩ : ∃ M, (n' : Int).tmod X = M := ⟨_, rfl⟩
                have hM0 : 0 ≤ M ∧ M < X := by
                  rw [← hM, Int.tmod_eq_emod_of_nonneg (by omega)]
                  exact ⟨Int.emod_nonneg _ (by omega), Int.emod_lt_of_pos _ (by omega)⟩
                have hMe : (n' : Int) % X = M := by rw [← hM, Int.tmod_eq_emod_of_nonneg (by omega)]
                have P4'' := Lib.hid (P4' (1 + M) (by omega) (by omega))
                have hX0 : ¬ X = 0 := by omega
                have hXb : (X == 0) = false := by rw [beq_eq_false_iff_ne]; omega
                have hw1 : IntKind.i64.wrap M = M := IntWalk.i64_in _ (by omega)
                have hw2 : IntKind.i64.wrap (1 + M) = 1 + M := IntWalk.i64_in _ (by omega)
                have hi0 : 0 ≤ (K : Int) := by omega
                have hi1 : (K : Int) < (K : Int) + 1 := by omega
                have s6 : IntKind.i64.wrap ((K : Int) + 1 - 1) = (K : Int) := by rw [Int.add_sub_cancel]; exact IntWalk.i64_in _ (by omega)
                have s7 : IntKind.i64.wrap (K : Int) = (K : Int) := IntWalk.i64_in _ (by omega)
                clear P4' P4 hXX
                have hbb : bb < W9.heap.size := World.block_lt_of_cell? _ _ hck
                have hA : ((W9.alloc (.cells #[] 3)).drew).heap[W9.heap.size]? = some (.cells #[] 3) := heap_alloc_new W9 _
                have hB' : (((W9.alloc (.cells #[] 3)).alloc (.cells #[.int .i64 (1 + M)] 3)).drew).heap[W9.heap.size]? = some (.cells #[] 3) := (heap_alloc_old (W9.alloc (.cells #[] 3)) _ (by simp)).trans (heap_alloc_new W9 _)
                have hC : (((W9.alloc (.cells #[.int .i64 (1 + M)] 3)).alloc (.cells #[] 3)).drew).heap[W9.heap.size + 1]? = some (.cells #[] 3) := by
                  have := heap_alloc_new (W9.alloc (.cells #[.int .i64 (1 + M)] 3)) (.cells #[] 3)
                  rwa [show (W9.alloc (.cells #[.int .i64 (1 + M)] 3)).heap.size = W9.heap.size + 1 by simp] at this
                have BA : Below W9.heap.size W9 ((W9.alloc (.cells #[] 3)).drew) := ((Below.refl _ _).alloc (Nat.le_refl _) _).drew
                have BB : Below W9.heap.size W9 (((W9.alloc (.cells #[] 3)).alloc (.cells #[.int .i64 (1 + M)] 3)).drew) := (((Below.refl _ _).alloc (Nat.le_refl _) _).alloc (by simp) _).drew
                have BC : Below W9.heap.size W9 (((W9.alloc (.cells #[.int .i64 (1 + M)] 3)).alloc (.cells #[] 3)).drew) := (((Below.refl _ _).alloc (Nat.le_refl _) _).alloc (by simp) _).drew
                have vB : (((W9.alloc (.cells #[] 3)).alloc (.cells #[.int .i64 (1 + M)] 3)).drew).cell? ⟨W9.heap.size + 1, 0, none⟩ = some (.int .i64 (1 + M)) := by
                  have := cell_alloc_one (W9.alloc (.cells #[] 3)) (.int .i64 (1 + M)) 3
                  rw [show (W9.alloc (.cells #[] 3)).heap.size = W9.heap.size + 1 by simp] at this
                  exact this
                have vC : (((W9.alloc (.cells #[.int .i64 (1 + M)] 3)).alloc (.cells #[] 3)).drew).cell? ⟨W9.heap.size, 0, none⟩ = some (.int .i64 (1 + M)) := cell_below ((Below.refl _ (W9.alloc (.cells #[.int .i64 (1 + M)] 3))).alloc (Nat.le_refl _) _).drew (cell_alloc_one W9 _ _)
                go_region_law (first
                  | (refine step_append_ints tyInts rfl (.tmp 81) (.tmp 82) rfl W9.heap.size (some ⟨W9.heap.size, 0, none⟩) 0 0 [] rfl (OwnI.fresh hA (Nat.le_refl _)) (some ⟨bb, off, none⟩) (K + 1) c1 xs rfl (Ints.below i9 BA) (by omega) BA.size ?_; intro A5 c5 w5 o5 g5 e5; have b5 := Below.appended BA BA.size g5 (fun x hx => by cases hx; exact Nat.le_refl _); have hck5 := cell_below b5 hck; have hv5 := True.intro; simp only [Nat.zero_add, List.nil_append] at o5; clear g5 e5)
                  | (refine step_append_ints tyInts rfl (.tmp 81) (.tmp 82) rfl W9.heap.size (some ⟨W9.heap.size, 0, none⟩) 0 0 [] rfl (OwnI.fresh hB' (Nat.le_refl _)) (some ⟨bb, off, none⟩) (K + 1) c1 xs rfl (Ints.below i9 BB) (by omega) BB.size ?_; intro A5 c5 w5 o5 g5 e5; have b5 := Below.appended BB BB.size g5 (fun x hx => by cases hx; exact Nat.le_refl _); have hck5 := cell_below b5 hck; have hv5 := g5.cell vB (by simp); simp only [Nat.zero_add, List.nil_append] at o5; clear g5 e5)
                  | (refine step_append_ints tyInts rfl (.tmp 81) (.tmp 82) rfl W9.heap.size (some ⟨W9.heap.size + 1, 0, none⟩) 0 0 [] rfl (OwnI.fresh hC (Nat.le_succ _)) (some ⟨bb, off, none⟩) (K + 1) c1 xs rfl (Ints.below i9 BC) (by omega) BC.size ?_; intro A5 c5 w5 o5 g5 e5; have b5 := Below.appended BC BC.size g5 (fun x hx => by cases hx; simp); have hck5 := cell_below b5 hck; have hv5 := g5.cell vC (by simp); simp only [Nat.zero_add, List.nil_append] at o5; clear g5 e5)
                  | (refine step_append_int tyInts rfl (.tmp 83) (.tmp 93) rfl W9.heap.size A5 (K + 1) c5 xs rfl (OwnI.below o5 ((Below.refl _ _).alloc (Nat.le_refl _) _)) w5.heap.size (1 + M) rfl (by simp) (by omega) (by have := b5.size; simp; omega) ?_; intro A6 c6 w6 o6 g6 e6; have b6 := Below.appended (b5.alloc b5.size _) (by have := b5.size; simp; omega) g6 o5.base_le; clear g6 e6)
                  | (refine step_append_int tyInts rfl (.tmp 83) (.tmp 93) rfl W9.heap.size A5 (K + 1) c5 xs rfl o5 (W9.heap.size + 1) (1 + M) rfl hv5 (by omega) b5.size ?_; intro A6 c6 w6 o6 g6 e6; have b6 := Below.appended b5 b5.size g6 o5.base_le; clear g6 e6)
                  | (refine step_append_int tyInts rfl (.tmp 83) (.tmp 93) rfl W9.heap.size A5 (K + 1) c5 xs rfl o5 W9.heap.size (1 + M) rfl hv5 (by omega) b5.size ?_; intro A6 c6 w6 o6 g6 e6; have b6 := Below.appended b5 b5.size g6 o5.base_le; clear g6 e6))
                all_goals
                  clear o5 b5 hck5 hv5 hA hB' hC BA BB BC vB vC hck
                  go_wp2_with fail
                  refine (PO1.out _ _ (by first | omega | (rw [Int.tmod_eq_emod_of_nonneg (by omega)]; omega)) (by first | omega | (rw [Int.tmod_eq_emod_of_nonneg (by omega)]; omega))).mono ?_
                  rintro e w7 ⟨⟨u, rfl, hu1, hu2⟩, rfl⟩
                  have hus : u.size ≤ 1 := by omega
                  have HU1 := Lib.hid hu1
                  have HU2 := Lib.hid hu2
                  have P5 := Lib.hid (P4''.out w6 A6 c6 u hu1 hu2 o6.ints)
                  clear hu1 hu2
                  go_wp2_with fail
                  refine P5.out.mono ?_
                  rintro e w8 ⟨rfl, b8⟩
                  go_wp2_with fail
                  go_ret
                  exact ⟨rfl, Below.call (B6.trans (b6.mono B6.size)) (B6.trans (b6.mono B6.size)).size b8⟩
    · go_enter Try.func4, Try.ntmps4
      go_wp2_with fail
      go_ret
      exact ⟨rfl, Below.refl _ _⟩
  · go_enter Try.func4, Try.ntmps4
    go_wp2_with fail
    go_ret
    exact ⟨rfl, Below.refl _ _⟩

end Go.Proofs.Yteigbpmfjiofiab
