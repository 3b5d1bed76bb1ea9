/-
  The walk through the law on how many layers a ring and its strip have: it returns true.
-/
import Derived.Test.YteigbpmfjiofiaaDrawQ
import Derived.Test.YteigbpmfjiofiaaManyS
import Derived.Deep.RegionHeld3
import Derived.BigQuiet
import Derived.IntWalk
namespace Go.Proofs.Yteigbpmfjiofiaa
open Go.RowKit

theorem rm_cnt {xs : List Int} {s : ByteArray} (h : ringB xs s = true) : manR xs s = (cntR xs s : Int) := manR_yes h
theorem sm_cnt {xs : List Int} {s : ByteArray} (h : stripB xs s = true) : manS xs s = (cntS xs s : Int) := manS_yes h
theorem Ints.lit2w (w : World) (x y : Int) : Ints (w.alloc (.cells #[.int .i64 x, .int .i64 y] 3)) (some ⟨w.heap.size, 0, none⟩) 2 2 [x, y] :=
  Ints.mk' rfl (Nat.le_refl _) (by unfold maxLen; omega) fun i hi => by
    match i, hi with
    | 0, _ => simp
    | 1, _ => simp
theorem two_ring {xs : List Int} {s : ByteArray} (h : ringB xs s = true) : ringB [xs[0]?.getD 0, xs[0]?.getD 0] (s.extract 0 2) = true := by
  obtain ⟨h1, he, h2, h3, _⟩ := ringB_len h
  obtain ⟨p1, p2⟩ := lengthsB_len h1
  have hm : xs[0]?.getD 0 ∈ xs := by rw [List.getElem?_eq_getElem (by omega)]; exact List.getElem_mem _
  have hv := lengthsB_in h1 _ hm
  refine ringB_mk ((lengthsB_iff _).2 ⟨by simp, by simp, fun x hx => ?_⟩) (by simp) (by rw [ByteArray.size_extract]; show _ = 2; omega) (MV_take h3 (by omega)) (by simp [alt])
  have : x = xs[0]?.getD 0 := by
    rcases List.mem_cons.1 hx with e | e
    · exact e
    · rcases List.mem_cons.1 e with e | e
      · exact e
      · cases e
  rw [this]; exact hv
theorem two_count {xs : List Int} {s : ByteArray} (h : ringB xs s = true) : manR [xs[0]?.getD 0, xs[0]?.getD 0] (s.extract 0 2) = if bAt s 0 = bAt s 1 then 1 else 0 := by
  obtain ⟨h1, he, h2, h3, _⟩ := ringB_len h
  obtain ⟨p1, p2⟩ := lengthsB_len h1
  rw [rm_cnt (two_ring h), cnt_two (MV_take h3 (by omega)) (by rw [ByteArray.size_extract]; omega), bAt_take (by omega) (by omega), bAt_take (by omega) (by omega)]
  split <;> rfl
theorem open_strip {xs : List Int} {s : ByteArray} (h : ringB xs s = true) : stripB xs (s.extract 1 s.size) = true ∧ cntR xs s ≤ cntS xs (s.extract 1 s.size) := by
  obtain ⟨h1, he, h2, h3, _⟩ := ringB_len h
  obtain ⟨p1, p2⟩ := lengthsB_len h1
  exact ⟨stripB_mk h1 (by rw [ByteArray.size_extract]; omega) (MV_drop h3), cnt_open he h2⟩
theorem cntR_least {xs : List Int} (s : ByteArray) (h : xs.length ≤ 6) : cntR xs s ≤ 823543 :=
  Nat.le_trans (List.length_filter_le _ _) (allL_small (by omega) (by omega) [])
theorem cntS_least {xs : List Int} (s : ByteArray) (h : xs.length ≤ 6) : cntS xs s ≤ 823543 :=
  Nat.le_trans (List.length_filter_le _ _) (allL_small (by omega) (by omega) [])

set_option maxRecDepth 100000 in
set_option maxHeartbeats 4000000 in
theorem law_FnRingStripMany (w : World) (a : Option Addr) (n cap : Nat) (bs : List Int) (hx : Bytes w a n cap bs) :
    Calls Try.prog 8 #[.slice a n cap] w (RVal w (.bool true)) := by
  have hle := hx.1.le
  have hmx := hx.1.max
  unfold maxLen at hmx
  by_cases hn : n ≤ 1048576
  · have H1 := Lib.hid (spec_DrawRingMany a n cap bs w hx)
    go_enter Try.func8, Try.ntmps8
    go_wp2_with fail
    refine H1.out.mono ?_
    rintro e w1 ⟨a1, n1, c1, xs, s, rfl, i1, hn1, hs1, B1⟩
    have hle1 := i1.le_cap
    have hmx1 := i1.cap_max
    have HL1 := Lib.hid i1.length
    have P1 := fun (W : World) h1 => impl_RingMany a1 n1 c1 xs s W h1 (by unfold maxLen; omega)
    have P2 := fun (W : World) h1 => spec_RingMany a1 n1 c1 xs s W h1 (by omega) (by unfold maxLen; omega)
    cases hv : ringB xs s with
    | false =>
      rw [manR_no hv] at P1 P2
      have P1 := Lib.hid P1
      have P2 := Lib.hid P2
      clear hv
      go_wp2_with fail
      refine (P1.out w1 i1).mono ?_
      rintro e w2 ⟨rfl, b2⟩
      go_wp2_with fail
      refine (P2.out w2 (i1.below b2)).mono ?_
      rintro e w3 ⟨rfl, b3⟩
      go_wp2_with fail
      go_ret
      have B2 := Below.call B1 B1.size b2
      exact ⟨rfl, Below.call B2 B2.size b3⟩
    | true =>
      rw [rm_cnt hv] at P1 P2
      have P1 := Lib.hid P1
      have P2 := Lib.hid P2
      obtain ⟨q1, qe, q2, q3, _⟩ := ringB_len hv
      obtain ⟨hl1, hl6⟩ := lengthsB_len q1
      have hcs := cntR_least s hl6
      obtain ⟨o1, o2⟩ := open_strip hv
      have hcS := cntS_least (s.extract 1 s.size) hl6
      have ht2 := two_count hv
      rw [i1.length] at hl1 hl6 qe q2
      have P3 : Hid (∀ (W : World), Ints W a1 n1 c1 xs → Calls Try.prog 20 #[.slice a1 n1 c1, .string (s.extract 1 s.size)] W (RVal W (.int .i64 (cntS xs (s.extract 1 s.size) : Int)))) := fun W h1 => by
        have := impl_StripMany a1 n1 c1 xs (s.extract 1 s.size) W h1 (by rw [ByteArray.size_extract]; unfold maxLen; omega)
        rwa [sm_cnt o1] at this
      have P4 := fun (W : World) (A : Option Addr) (c : Nat) h1 => impl_RingMany A 2 c [xs[0]?.getD 0, xs[0]?.getD 0] (s.extract 0 2) W h1 (by rw [ByteArray.size_extract]; unfold maxLen; omega)
      have hz0 : 0 < s.size := by omega
      have hz1 : 1 < s.size := by omega
      obtain ⟨T, hT⟩ : ∃ T : Int, (if bAt s 0 = bAt s 1 then 1 else 0) = T := ⟨_, rfl⟩
      rw [ht2, hT] at P4
      have HT : Hid ((T = 1 ∧ ((s[0]'hz0).toNat : Int) = ((s[1]'hz1).toNat : Int)) ∨ (T = 0 ∧ ¬ ((s[0]'hz0).toNat : Int) = ((s[1]'hz1).toNat : Int))) := by
        rw [bAt_get s 0 hz0, bAt_get s 1 hz1] at hT
        by_cases hb : s[0]'hz0 = s[1]'hz1
        · exact .inl ⟨by rw [← hT, if_pos hb], by rw [hb]⟩
        · exact .inr ⟨by rw [← hT, if_neg hb], fun e => hb (UInt8.toNat_inj.1 (by omega))⟩
      have P4 := Lib.hid P4
      clear hT
      have hy1 : (1 : Int) ≤ (s.size : Int) := by omega
      have hy2 : (2 : Int) ≤ (s.size : Int) := by omega
      have hyn : (0 : Int) < (n1 : Int) := by omega
      have hyn1 : 0 < n1 := by omega
      have hy3 : (0 : Int) < (s.size : Int) := by omega
      have hy4 : (1 : Int) < (s.size : Int) := by omega
      generalize cntS xs (s.extract 1 s.size) = M at o2 hcS P3
      generalize cntR xs s = N at o2 hcs P1 P2
      have hNM : (N : Int) ≤ (M : Int) := by omega
      clear hv q1 qe q2 q3 ht2 o1
      go_wp2_with fail
      refine (P1.out w1 i1).mono ?_
      rintro e w2 ⟨rfl, b2⟩
      go_wp2_with fail
      refine (P2.out w2 (i1.below b2)).mono ?_
      rintro e w3 ⟨rfl, b3⟩
      have i3 := (i1.below b2).below b3
      have B2 := Below.call B1 B1.size b2
      have B3 := Below.call B2 B2.size b3
      clear i1 b2 b3 B2 P1 P2 hle hmx hn hx H1
      obtain ⟨bb, off, ea, hcell⟩ := i3.cells (by omega)
      subst ea
      have HC0 := hcell 0 (by omega)
      rw [Nat.add_zero] at HC0
      clear hcell
      have HP := P4.out
      generalize xs[0]?.getD 0 = v at HC0 HP
      have HP := Lib.hid HP
      clear P4
      have b0 : Below w3.heap.size w3 ((w3.alloc (.cells #[.int .i64 v, .int .i64 v] 3)).drew) := ((Below.refl _ _).alloc (Nat.le_refl _) _).drew
      have l0 : Ints ((w3.alloc (.cells #[.int .i64 v, .int .i64 v] 3)).drew) (some ⟨w3.heap.size, 0, none⟩) 2 2 [v, v] := (Ints.lit2w _ v v).drew
      have HC1 := cell_below b0 HC0
      clear HL1 B1 hle1 hmx1 hn1 hs1
      go_wp2_with fail
      go_region_held3 (fun w' => w'.cell? ⟨bb, off, none⟩ = some (.int .i64 v)) (first | exact HC0 | exact HC1 | exact HC2) (first
        | (go_at_call 22; refine (HP.out _ _ _ l0).mono ?_; rintro e w4 ⟨rfl, b4⟩; have HC2 := cell_below b4 HC1))
      all_goals (
        have i4 := (i3.below b0).below b4
        have BE := Below.call B3 B3.size (b0.trans (b4.mono b0.size))
        clear HP P4 b0 l0 HC0 HC1 HC2 hcS hcs
        rcases HT.out with ⟨rfl, hb⟩ | ⟨rfl, hb⟩
        · have hbd : decide (((s[0]'hz0).toNat : Int) = ((s[1]'hz1).toNat : Int)) = true := decide_eq_true hb
          clear HT
          go_wp2_with fail
          go_region_held3 (fun _ => True) (trivial) (first
            | (go_at_call 20; refine (P3.out _ i4.drew).mono ?_; rintro e w5 ⟨rfl, b5⟩))
          all_goals (go_wp2_with fail; go_ret; exact ⟨rfl, Below.call BE.drew BE.drew.size b5⟩)
        · have hbd : decide (((s[0]'hz0).toNat : Int) = ((s[1]'hz1).toNat : Int)) = false := decide_eq_false hb
          have hb2 : ¬ (s[0]'hz0).toNat = (s[1]'hz1).toNat := by omega
          have hb3 : ¬ (s[0]'hz0) = (s[1]'hz1) := fun e => hb2 (by rw [e])
          have hbe : (((s[0]'hz0).toNat : Int) == ((s[1]'hz1).toNat : Int)) = false := by rw [beq_eq_false_iff_ne]; exact hb
          have hbd2 := decide_eq_false hb2
          have hbd3 := decide_eq_false hb3
          clear HT
          go_wp2_with fail
          go_region_held3 (fun _ => True) (trivial) (first
            | (go_at_call 20; refine (P3.out _ i4.drew).mono ?_; rintro e w5 ⟨rfl, b5⟩))
          all_goals (go_wp2_with fail; go_ret; exact ⟨rfl, Below.call BE.drew BE.drew.size b5⟩))
  · go_enter Try.func8, Try.ntmps8
    go_wp2_with fail
    go_ret
    exact ⟨rfl, Below.refl _ _⟩

end Go.Proofs.Yteigbpmfjiofiaa
