/-
  The walk through the law on rings that begin elsewhere: it returns true.
-/
import Derived.Test.YteigbpmfjiofiaaDrawQ
import Derived.Test.YteigbpmfjiofiaaBalance
import Derived.Test.YteigbpmfjiofiaaHelp2
import Derived.StillTailTactics
import Derived.BigQuiet
import Derived.Deep.RegionLaw
import Derived.IntWalk
namespace Go.Proofs.Yteigbpmfjiofiaa
open Go.RowKit

theorem manR_cnt {xs : List Int} {s : ByteArray} (h : ringB xs s = true) : manR xs s = (cntR xs s : Int) := manR_yes h

/-- A text with its first letters at the end. -/
def turnS (s : ByteArray) (k : Nat) : ByteArray := s.extract k s.size ++ s.extract 0 k
set_option maxHeartbeats 400000 in
theorem laws_turnedText (s : ByteArray) (k : Nat) (w : World) (hs : s.size ≤ 20) (hk : k ≤ s.size) :
    Calls Try.prog 36 #[.string s, .int .i64 k] w (RStr w (turnS s k)) := by
  have hkI : (k : Int) ≤ (s.size : Int) := by omega
  have hk0 : (0 : Int) ≤ (k : Int) := by omega
  have hadd : ∀ W : World, (Op.stringOp .add (s.extract k s.size) (s.extract 0 k)).run Try.prog W = .ok (.string (turnS s k)) W := fun W => run_string_add_sum (P := Try.prog) W _ _ (by rw [ByteArray.size_extract, ByteArray.size_extract]; omega)
  go_enter Try.func36, Try.ntmps36
  go_wp2_with fail
  go_quiet (fail)
  go_wp2_with fail
  go_ret
  exact ⟨rfl, below_drewN (Below.refl _ _) _⟩
/-- The turned ring is the ring itself, or one that begins two parts later. -/
theorem turn_cases {xs : List Int} {s : ByteArray} (h : ringB xs s = true) : (xs.length = 2 ∧ xs.drop 0 ++ xs.take 0 = xs ∧ turnS s 0 = s) ∨ (4 ≤ xs.length ∧ xs.drop 2 ++ xs.take 2 = turn2 xs ∧ turnS s 2 = turn2S s) := by
  obtain ⟨h1, he, h2, _⟩ := ringB_len h
  obtain ⟨p1, p2⟩ := lengthsB_len h1
  by_cases h4 : 4 ≤ xs.length
  · exact .inr ⟨h4, rfl, rfl⟩
  · refine .inl ⟨by omega, by simp, ?_⟩
    refine bAt_ext (by unfold turnS; rw [ByteArray.size_append, ByteArray.size_extract, ByteArray.size_extract]; omega) fun k hk => ?_
    unfold turnS at hk ⊢
    rw [ByteArray.size_append, ByteArray.size_extract, ByteArray.size_extract] at hk
    rw [bAt_get _ k (by rw [ByteArray.size_append, ByteArray.size_extract, ByteArray.size_extract]; omega), ByteArray.getElem_append_left (by rw [ByteArray.size_extract]; omega), ByteArray.getElem_extract, bAt_get s k (by omega)]
    congr 1
    omega
theorem turn_count {xs : List Int} {s : ByteArray} (h : ringB xs s = true) : manR (xs.drop (2 % xs.length) ++ xs.take (2 % xs.length)) (turnS s (2 % xs.length)) = (cntR xs s : Int) := by
  rcases turn_cases h with ⟨h2, e1, e2⟩ | ⟨h4, e1, e2⟩
  · rw [show 2 % xs.length = 0 by rw [h2], e1, e2, manR_cnt h]
  · rw [show 2 % xs.length = 2 from Nat.mod_eq_of_lt (by omega), e1, e2, manR_cnt (ringB_turn h4 h), cntR_turn h4 h]
theorem cntR_pos {xs : List Int} {s : ByteArray} {L : List Int} (h : (rtsR xs s).head? = some L) : ringB xs s = true ∧ L.length = xs.length ∧ 1 ≤ cntR xs s := by
  obtain ⟨h1, h2, h3, h4⟩ := rtsR_mem.1 (List.mem_of_head? h)
  refine ⟨h1, h2, ?_⟩
  unfold cntR
  exact List.length_pos_of_mem (List.mem_filter.2 ⟨mem_perms.2 ⟨h2, h3⟩, h4⟩)
theorem cntR_small {xs : List Int} (s : ByteArray) (h : xs.length ≤ 6) : cntR xs s ≤ 823543 :=
  Nat.le_trans (List.length_filter_le _ _) (allL_small (by omega) (by omega) [])

theorem OwnI.fresh {W : World} {g base : Nat} (h : W.heap[g]? = some (.cells #[] 3 (0, 0))) (hb : base ≤ g) : OwnI W base (some ⟨g, 0, none⟩) 0 0 [] :=
  ⟨rfl, .inr ⟨g, 0, #[], rfl, hb, h, Nat.le_refl _, by unfold maxLen; omega, rfl, rfl⟩⟩

set_option maxRecDepth 100000 in
set_option maxHeartbeats 4000000 in
theorem law_FnRingTurn (w : World) (a : Option Addr) (n cap : Nat) (bs : List Int) (hx : Bytes w a n cap bs) :
    Calls Try.prog 10 #[.slice a n cap] w (RVal w (.bool true)) := by
  have hle := hx.1.le
  have hmx := hx.1.max
  unfold maxLen at hmx
  by_cases hn : n ≤ 1048576
  · have H1 := Lib.hid (spec_DrawRingFirst a n cap bs w hx)
    go_enter Try.func10, Try.ntmps10
    go_wp2_with fail
    refine H1.out.mono ?_
    rintro e w1 ⟨a1, n1, c1, xs, s, rfl, i1, hn1, hs1, B1⟩
    have hle1 := i1.le_cap
    have hmx1 := i1.cap_max
    have HL1 := Lib.hid i1.length
    have P1 := fun (W : World) h1 => impl_RingFirst a1 n1 c1 xs s W h1 (by unfold maxLen; omega)
    have P2 := fun (W : World) h1 => spec_RingFirst a1 n1 c1 xs s W h1 (by omega) (by unfold maxLen; omega)
    cases hv : (rtsR xs s).head? with
    | none =>
      rw [hv] at P1 P2
      simp only [Option.getD_none, Option.isSome_none] at P1 P2
      have P1 := Lib.hid P1
      have P2 := Lib.hid P2
      clear hv
      go_wp2_with fail
      refine (P1.out w1 i1).mono ?_
      rintro e w2 ⟨a2, n2, c2, rfl, o2, b2⟩
      go_wp2_with fail
      refine (P2.out w2 (i1.below b2)).mono ?_
      rintro e w3 ⟨a3, n3, c3, rfl, o3, b3⟩
      go_wp2_with fail
      refine (sameInts_same a2 a3 n2 n3 c2 c3 _ w3 (o2.below b3).ints o3.ints).mono ?_
      rintro e w4 ⟨rfl, b4⟩
      go_wp2_with fail
      refine (sameInts_same a2 a3 n2 n3 c2 c3 _ w4 ((o2.below b3).below b4).ints (o3.below b4).ints).mono ?_
      rintro e w5 ⟨rfl, b5⟩
      go_wp2_with fail
      go_ret
      have B2 := Below.call B1 B1.size b2
      have B3 := Below.call B2 B2.size b3
      have B4 := Below.call B3 B3.size b4
      exact ⟨rfl, Below.call B4 B4.size b5⟩
    | some L =>
      rw [hv] at P1 P2
      simp only [Option.getD_some, Option.isSome_some] at P1 P2
      have P1 := Lib.hid P1
      have P2 := Lib.hid P2
      obtain ⟨hrb, hLl, hc1⟩ := cntR_pos hv
      obtain ⟨q1, qe, q2, q3, _⟩ := ringB_len hrb
      obtain ⟨hl1, hl6⟩ := lengthsB_len q1
      have hcs := cntR_small s hl6
      rw [i1.length] at hl1 hl6 hLl qe q2
      have hn2 : 2 ≤ n1 := by omega
      obtain ⟨K, hK⟩ : ∃ K, 2 % n1 = K := ⟨_, rfl⟩
      have hKn : K ≤ 2 ∧ K < n1 := by rw [← hK]; exact ⟨Nat.mod_le _ _, Nat.mod_lt _ (by omega)⟩
      have P3 : Hid (∀ (W : World), Ints W a1 n1 c1 xs → Calls Try.prog 22 #[.slice a1 n1 c1, .string s] W (RVal W (.int .i64 (cntR xs s : Int)))) := fun W h1 => by
        have := impl_RingMany a1 n1 c1 xs s W h1 (by unfold maxLen; omega)
        rwa [manR_cnt hrb] at this
      have P4 : Hid (∀ (W : World) (A : Option Addr) (m c : Nat), Ints W A m c (xs.drop K ++ xs.take K) → Calls Try.prog 22 #[.slice A m c, .string (turnS s K)] W (RVal W (.int .i64 (cntR xs s : Int)))) := fun W A m c h1 => by
        have := impl_RingMany A m c _ (turnS s K) W h1 (by unfold turnS maxLen; rw [ByteArray.size_append, ByteArray.size_extract, ByteArray.size_extract]; omega)
        have e := turn_count hrb
        rw [i1.length, hK] at e
        rwa [e] at this
      have P5 : Hid (∀ (W : World), Ints W a1 n1 c1 xs → Calls Try.prog 22 #[.slice a1 n1 c1, .string (swapS s)] W (RVal W (.int .i64 (cntR xs s : Int)))) := fun W h1 => by
        have := impl_RingMany a1 n1 c1 xs (swapS s) W h1 (by rw [swapS_size]; unfold maxLen; omega)
        rwa [manR_cnt (ringB_swap hrb), cntR_swap (by rw [i1.length]; exact qe) (by rw [i1.length]; exact q2) q3] at this
      have PF : Hid (∀ W : World, Calls Try.prog 32 #[.string s] W (RStr W (swapS s))) := fun W => impl_FoldsSwap s W (by unfold maxLen; omega)
      have PT : Hid (∀ W : World, Calls Try.prog 36 #[.string s, .int .i64 K] W (RStr W (turnS s K))) := fun W => laws_turnedText s K W hs1 (by omega)
      have HLL := Lib.hid hLl
      generalize cntR xs s = N at hc1 hcs P3 P4 P5
      have hm1 : (2 : Int).tmod (n1 : Int) = (K : Int) := by rw [Int.tmod_eq_emod_of_nonneg (by omega), ← hK]; rfl
      have hm2 : (2 : Int) % (n1 : Int) = (K : Int) := by rw [← hK]; rfl
      have hnz : ¬ (n1 : Int) = 0 := by omega
      have hN1 : (1 : Int) ≤ (N : Int) := by omega
      have HM2 := Lib.hid hm2
      clear hv hrb q1 qe q2 q3 hLl hK hm1 hm2
      go_wp2_with fail
      refine (P1.out w1 i1).mono ?_
      rintro e w2 ⟨a2, n2, c2, rfl, o2, b2⟩
      obtain rfl : n1 = n2 := HLL.out.symm.trans o2.length
      go_wp2_with fail
      refine (P2.out w2 (i1.below b2)).mono ?_
      rintro e w3 ⟨a3, n3, c3, rfl, o3, b3⟩
      go_wp2_with fail
      refine (sameInts_same a2 a3 n1 n3 c2 c3 _ w3 (o2.below b3).ints o3.ints).mono ?_
      rintro e w4 ⟨rfl, b4⟩
      have i4 := ((i1.below b2).below b3).below b4
      have hc2 := o2.ints.le_cap
      have B2 := Below.call B1 B1.size b2
      have B3 := Below.call B2 B2.size b3
      have B4 := Below.call B3 B3.size b4
      have hK1 : (K : Int) ≤ (n1 : Int) := by omega
      have hK2 : ¬ c1 = K := by omega
      have hK4 : K ≤ c1 := by omega
      have hK5 : (K : Int) ≤ (c1 : Int) := by omega
      have hK3 : K ≤ n1 := by omega
      have hc1' : n1 ≤ c1 := hle1
      obtain ⟨bb, off, ea, hcell⟩ := i4.cells (by omega)
      subst ea
      have ip : Ints w4 (some ⟨bb, off + K, none⟩) (n1 - K) (c1 - K) (xs.drop K) := by
        have h1 := i4.cut' (k := K) (by omega) (by omega)
        rwa [Option.map_some, add_addr] at h1
      have ih : Ints w4 (some ⟨bb, off, none⟩) K c1 (xs.take K) := i4.head hK3
      have hA : ((w4.alloc (.cells #[] 3)).drew).heap[w4.heap.size]? = some (.cells #[] 3) := heap_alloc_new w4 _
      have BA : Below w4.heap.size w4 ((w4.alloc (.cells #[] 3)).drew) := ((Below.refl _ _).alloc (Nat.le_refl _) _).drew
      clear i1 o2 o3 b2 b3 b4 B2 B3 P1 P2 hle hmx hn hx H1 hcell
      go_wp2_with fail
      rw [HM2.out]
      go_region_law (first
        | (refine step_append_ints tyInts rfl (.tmp 56) (.tmp 59) rfl w4.heap.size (some ⟨w4.heap.size, 0, none⟩) 0 0 [] rfl (OwnI.fresh hA (Nat.le_refl _)) (some ⟨bb, off + K, none⟩) (n1 - K) (c1 - K) (xs.drop K) rfl (Ints.below ip BA) (by omega) BA.size ?_; intro A5 c5 w5 o5 g5 e5; have b5 := Below.appended BA BA.size g5 (fun x hx => by cases hx; exact Nat.le_refl _); simp only [Nat.zero_add, List.nil_append] at o5; clear g5 e5)
        | (refine step_append_ints tyInts rfl (.tmp 60) (.tmp 63) rfl w4.heap.size A5 (n1 - K) c5 (xs.drop K) (by simp [Act.eval]) o5 (some ⟨bb, off, none⟩) K c1 (xs.take K) (by simp [Act.eval]) (Ints.below ih b5) (by omega) b5.size ?_; intro A6 c6 w6 o6 g6 e6; have b6 := Below.appended b5 b5.size g6 o5.base_le; clear e6))
      rw [show n1 - K + K = n1 by omega] at o6
      have i6 := i4.below b6
      have HTK := Lib.hid o6.ints
      have BE := Below.call B4 B4.size b6
      clear g6
      go_wp2_with fail
      refine (P3.out _ i6).mono ?_
      rintro e w7 ⟨rfl, b7⟩
      go_wp2_with fail
      refine (PT.out _).mono ?_
      rintro e w8 ⟨rfl, b8⟩
      go_wp2_with fail
      refine (P4.out _ _ _ _ ((HTK.out.below b7).below b8)).mono ?_
      rintro e w9 ⟨rfl, b9⟩
      go_wp2_with fail
      refine (PF.out _).mono ?_
      rintro e w10 ⟨rfl, b10⟩
      go_wp2_with fail
      refine (P5.out _ ((((i6.below b7).below b8).below b9).below b10)).mono ?_
      rintro e w11 ⟨rfl, b11⟩
      go_wp2_with fail
      go_ret
      have B7 := Below.call BE BE.size b7
      have B8 := Below.call B7 B7.size b8
      have B9 := Below.call B8 B8.size b9
      have B10 := Below.call B9 B9.size b10
      exact ⟨rfl, Below.call B10 B10.size b11⟩
  · go_enter Try.func10, Try.ntmps10
    go_wp2_with fail
    go_ret
    exact ⟨rfl, Below.refl _ _⟩

end Go.Proofs.Yteigbpmfjiofiaa
