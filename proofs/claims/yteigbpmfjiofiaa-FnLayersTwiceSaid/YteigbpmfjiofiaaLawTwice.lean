/-
  The walk through the law on StripLayers at twice the lengths and at a shorter last part: it returns true.
-/
import Derived.Test.YteigbpmfjiofiaaLawHelp
import Derived.IntWalk
namespace Go.Proofs.Yteigbpmfjiofiaa
open Go.RowKit

theorem OwnI.head_some {w : World} {base : Nat} {a : Option Addr} {n cap : Nat} {xs : List Int} (h : OwnI w base a n cap xs) (hn : 1 ≤ n) : ∃ g, a = some ⟨g, 0, none⟩ ∧ base ≤ g := by
  rcases Own.form h with ⟨_, h0, _⟩ | ⟨g, e, hg, _⟩
  · omega
  · exact ⟨g, e, hg⟩
def goodTo (xs : List Int) (j : Nat) : Bool := decide (∀ i, i < j → 2 * xs[i]?.getD 0 ≤ 1000)
theorem goodTo_succ (xs : List Int) (j : Nat) : goodTo xs (j + 1) = (goodTo xs j && decide (2 * xs[j]?.getD 0 ≤ 1000)) := by
  unfold goodTo
  rw [Bool.eq_iff_iff, Bool.and_eq_true, decide_eq_true_eq, decide_eq_true_eq, decide_eq_true_eq]
  constructor
  · exact fun h => ⟨fun i hi => h i (by omega), h j (by omega)⟩
  · rintro ⟨h1, h2⟩ i hi
    by_cases e : i = j
    · rw [e]; exact h2
    · exact h1 i (by omega)
theorem goodTo_all {xs : List Int} (h : goodTo xs xs.length = true) : ∀ x ∈ xs, 2 * x ≤ 1000 := fun x hx => by
  obtain ⟨i, hi, e⟩ := List.getElem_of_mem hx
  have := (of_decide_eq_true h) i hi
  rw [List.getElem?_eq_getElem hi, Option.getD_some, e] at this
  exact this
theorem shortL_set {xs : List Int} {v : Int} (h : 1 ≤ xs.length) : xs.set (xs.length - 1) v = shortL xs v := by
  unfold shortL
  rw [List.set_eq_take_append_cons_drop, if_pos (by omega), List.drop_of_length_le (by omega)]
theorem twoL_take (xs : List Int) (j : Nat) (h : j < xs.length) : twoL (xs.take (j + 1)) = twoL (xs.take j) ++ [2 * xs[j]?.getD 0] := by
  unfold twoL
  rw [take_snocI xs j h, List.map_append]
  rfl

set_option maxRecDepth 100000 in
set_option maxHeartbeats 4000000 in
theorem law_FnLayersTwice (w : World) (a : Option Addr) (n cap : Nat) (bs : List Int) (hx : Bytes w a n cap bs) (a' : Option Addr) (n' cap' : Nat) (bs' : List Int) (hx' : Bytes w a' n' cap' bs') :
    Calls Try.prog 11 #[.slice a n cap, .slice a' n' cap'] w (RVal w (.bool true)) := by
  have hle := hx.1.le
  have hmx := hx.1.max
  have hle' := hx'.1.le
  have hmx' := hx'.1.max
  unfold maxLen at hmx hmx'
  by_cases hn : n ≤ 1048576
  · by_cases hn' : n' ≤ 1048576
    · have H1 := Lib.hid (spec_DrawStripLayers a n cap bs w hx)
      go_enter Try.func11, Try.ntmps11
      go_wp2_with fail
      refine H1.out.mono ?_
      rintro e w1 ⟨a1, n1, c1, xs, s, b1, d1, ys, rfl, i1, hn1, hs1, j1, B1⟩
      have hle1 := i1.le_cap
      have hmx1 := i1.cap_max
      have hle2 := j1.le_cap
      have hmx2 := j1.cap_max
      have HL1 := Lib.hid i1.length
      have P1 := fun (W : World) h1 h2 => impl_StripLayers a1 b1 n1 c1 n1 d1 xs ys s W h1 (by unfold maxLen; omega) h2 (by omega)
      have P2 := fun (W : World) h1 h2 => spec_StripLayers a1 b1 n1 c1 n1 d1 xs ys s W h1 (by omega) (by unfold maxLen; omega) h2 (by omega)
      have e0 : layB xs s ys = strLB xs s ys := rfl
      rw [e0] at P1 P2
      clear e0
      cases hv : strLB xs s ys with
      | false =>
        rw [hv] at P1 P2
        have P1 := Lib.hid P1
        have P2 := Lib.hid P2
        clear hv
        go_wp2_with fail
        refine (P1.out w1 i1 j1).mono ?_
        rintro e w2 ⟨rfl, b2⟩
        go_wp2_with fail
        refine (P2.out w2 (i1.below b2) (j1.below b2)).mono ?_
        rintro e w3 ⟨rfl, b3⟩
        go_wp2_with fail
        go_ret
        have B2 := Below.call B1 B1.size b2
        exact ⟨rfl, Below.call B2 B2.size b3⟩
      | true =>
        rw [hv] at P1 P2
        have P1 := Lib.hid P1
        have P2 := Lib.hid P2
        have hst := (strLB_iff.1 hv).1
        obtain ⟨hst1, hst2, hst3⟩ := stripB_len hst
        have HIN := Lib.hid (lengthsB_in hst1)
        obtain ⟨hl1, hl6⟩ := lengthsB_len hst1
        rw [i1.length] at hl1 hl6 hst2
        have P3 : Hid (goodTo xs n1 = true → ∀ (W : World) (A : Option Addr) (c : Nat), Ints W A n1 c (twoL xs) → Ints W b1 n1 d1 ys → Calls Try.prog 31 #[.slice A n1 c, .string s, .slice b1 n1 d1] W (RVal W (.bool true))) := fun hg W A c h1 h2 => by
          have := impl_StripLayers A b1 n1 c n1 d1 (twoL xs) ys s W h1 (by unfold maxLen; omega) h2 (by omega)
          rwa [show layB (twoL xs) s ys = strLB (twoL xs) s ys from rfl, lay_two (goodTo_all (by rw [i1.length]; exact hg)) hv] at this
        have P4 : Hid (∀ (v : Int), 1 ≤ v → v ≤ xs[n1 - 1]?.getD 0 → ∀ (W : World) (A : Option Addr) (c : Nat), Ints W A n1 c (xs.set (n1 - 1) v) → Ints W b1 n1 d1 ys → Calls Try.prog 31 #[.slice A n1 c, .string s, .slice b1 n1 d1] W (RVal W (.bool true))) := fun v hv1 hv2 W A c h1 h2 => by
          have e : xs.set (n1 - 1) v = shortL xs v := by rw [← i1.length]; exact shortL_set (by rw [i1.length]; exact hl1)
          rw [e] at h1
          have := impl_StripLayers A b1 n1 c n1 d1 (shortL xs v) ys s W h1 (by unfold maxLen; omega) h2 (by omega)
          rwa [show layB (shortL xs v) s ys = strLB (shortL xs v) s ys from rfl, lay_short hv1 (by unfold at0; rw [i1.length]; exact hv2) hv] at this
        clear hst hst1 hst3 hv hst2
        go_wp2_with fail
        refine (P1.out w1 i1 j1).mono ?_
        rintro e w2 ⟨rfl, b2⟩
        go_wp2_with fail
        refine (P2.out w2 (i1.below b2) (j1.below b2)).mono ?_
        rintro e w3 ⟨rfl, b3⟩
        have B2 := Below.call B1 B1.size b2
        have B3 := Below.call B2 B2.size b3
        have i3 := (i1.below b2).below b3
        have j3 := (j1.below b2).below b3
        clear i1 j1 P1 P2 b2 b3 B1 B2
        go_wp2_with fail
        go_loopw [11, 12, 13] (fun v g i wr => ∃ (j : Nat) (A : Option Addr) (c : Nat), j ≤ n1 ∧ i = .int .i64 j ∧ g = .bool (goodTo xs j) ∧ v = .slice A j c ∧ OwnI wr w3.heap.size A j c (twoL (xs.take j)) ∧ Below w3.heap.size w3 wr) (fun _ _ i _ => n1 - (intOf i).toNat)
        case atStart => exact ⟨0, _, _, Nat.zero_le _, rfl, by congr 1, rfl, OwnI.lit0 w3 (Nat.le_refl _), (Below.refl _ _).alloc (Nat.le_refl _) _⟩
        case round =>
          obtain ⟨j, A, c, hj, rfl, rfl, rfl, HO, hB⟩ := hrel
          by_cases hlt : j < n1
          · obtain ⟨bb, off, ea, hc⟩ := i3.cells (by omega)
            subst ea
            have hck := hc j hlt
            have hxk := allIn_get HIN.out j (by rw [HL1.out]; exact hlt)
            have HT := Lib.hid (twoL_take xs j (by rw [HL1.out]; exact hlt))
            have HG := Lib.hid (goodTo_succ xs j)
            clear hc
            generalize xs[j]?.getD 0 = X at hck hxk HT HG
            have HCK := Lib.hid hck
            replace hck := cell_below hB hck
            have hX2 : 2 * X ≤ 2000 := by omega
            have hX1 : 0 ≤ 2 * X := by omega
            cases hg : goodTo xs j with
            | false =>
              rw [hg] at HG
              go_wp2_with (at_builtin; (refine wpList_append_int tyInts rfl (.tmp 55) (.tmp 61) rfl w3.heap.size A j c _ rfl (HO.below ((Below.refl _ _).alloc (Nat.le_refl _) _)) wr.heap.size (2 * X) rfl (by simp) (by omega) (by have := hB.size; simp; omega) ?_); intro A2 c2 w2 o2 g2 e2; have b2 := Below.appended (hB.alloc hB.size _) (by have := hB.size; simp; omega) g2 HO.base_le; clear g2 e2; have hck2 := cell_below b2 HCK.out)
              go_roundw
              case rel => exact ⟨j + 1, A2, c2, by omega, by go_num, by rw [HG.out]; rfl, rfl, by rw [HT.out]; exact o2, b2⟩
              case measure => simp [intOf]; omega
            | true =>
              rw [hg] at HG
              by_cases hle5 : 2 * X ≤ 1000
              · have HGT : Hid (goodTo xs (j + 1) = true) := by unfold Hid; rw [HG.out, decide_eq_true hle5]; rfl
                go_wp2_with (at_builtin; (refine wpList_append_int tyInts rfl (.tmp 55) (.tmp 61) rfl w3.heap.size A j c _ rfl (HO.below ((Below.refl _ _).alloc (Nat.le_refl _) _)) wr.heap.size (2 * X) rfl (by simp) (by omega) (by have := hB.size; simp; omega) ?_); intro A2 c2 w2 o2 g2 e2; have b2 := Below.appended (hB.alloc hB.size _) (by have := hB.size; simp; omega) g2 HO.base_le; clear g2 e2; have hck2 := cell_below b2 HCK.out)
                go_roundw
                case rel => exact ⟨j + 1, A2, c2, by omega, by go_num, by rw [HGT.out], rfl, by rw [HT.out]; exact o2, b2⟩
                case measure => simp [intOf]; omega
              · have HGT : Hid (goodTo xs (j + 1) = false) := by unfold Hid; rw [HG.out, decide_eq_false hle5]; rfl
                have hle6 : 1000 < 2 * X := by omega
                go_wp2_with (at_builtin; (refine wpList_append_int tyInts rfl (.tmp 55) (.tmp 61) rfl w3.heap.size A j c _ rfl (HO.below ((Below.refl _ _).alloc (Nat.le_refl _) _)) wr.heap.size (2 * X) rfl (by simp) (by omega) (by have := hB.size; simp; omega) ?_); intro A2 c2 w2 o2 g2 e2; have b2 := Below.appended (hB.alloc hB.size _) (by have := hB.size; simp; omega) g2 HO.base_le; clear g2 e2; have hck2 := cell_below b2 HCK.out)
                go_roundw
                case rel => exact ⟨j + 1, A2, c2, by omega, by go_num, by rw [HGT.out], rfl, by rw [HT.out]; exact o2, b2⟩
                case measure => simp [intOf]; omega
          · obtain rfl : j = n1 := by omega
            rw [take_allI xs j (by rw [HL1.out]; exact Nat.le_refl _)] at HO
            have hBr := B3.trans (hB.mono B3.size)
            have i4 := i3.below hB
            have j4 := j3.below hB
            obtain ⟨bb, off, ea, hc⟩ := i4.cells (by omega)
            subst ea
            have hck := hc (j - 1) (by omega)
            have hxk := allIn_get HIN.out (j - 1) (by rw [HL1.out]; omega)
            have P4' := P4.out (1 + (n' : Int) % (xs[j - 1]?.getD 0)) (by have := Int.emod_nonneg (n' : Int) (show xs[j - 1]?.getD 0 ≠ 0 by omega); omega) (by have := Int.emod_lt_of_pos (n' : Int) (show 0 < xs[j - 1]?.getD 0 by omega); omega)
            have P4' := Lib.hid P4'
            clear hc P4
            generalize xs[j - 1]?.getD 0 = X at hck hxk P4'
            have hm0 := Int.emod_nonneg (n' : Int) (show X ≠ 0 by omega)
            have hm1 := Int.emod_lt_of_pos (n' : Int) (show 0 < X by omega)
            have hX0 : ¬ X = 0 := by omega
            have hi1 : (j : Int) - 1 < (j : Int) := by omega
            have hi0 : 0 ≤ (j : Int) - 1 := by omega
            have hit : ((j : Int) - 1).toNat = j - 1 := by omega
            cases hg : goodTo xs j with
            | false =>
              clear P3 hg
              go_wp2_with (at_builtin; (refine wpList_append_ints tyInts rfl (.tmp 72) (.tmp 73) rfl wr.heap.size _ 0 0 [] rfl (OwnI.lit0 wr (Nat.le_refl _)) _ j c1 xs rfl (i4.below ((Below.refl _ _).alloc (Nat.le_refl _) _)) (by omega) (by simp) ?_); intro A5 c5 w5 o5 g5 e5; have b5 := Below.appended ((Below.refl wr.heap.size wr).alloc (Nat.le_refl _) _) (by simp) g5 (fun x e => by cases e; exact Nat.le_refl _); clear g5 e5; simp only [Nat.zero_add, List.nil_append] at o5; have hck5 := cell_below b5 hck; obtain ⟨g5, e5, hg5⟩ := o5.head_some hl1; subst e5; have hfr := OwnI.frozen o5 (j - 1); have hcl := OwnI.cell o5 (j := j - 1) (by omega))
              have o6 := o5.stored (j - 1) (1 + (n' : Int) % X)
              have b6 := b5.setCell (p := ⟨g5, j - 1, none⟩) hg5 (.int .i64 (1 + (n' : Int) % X))
              have B6 := hBr.trans (b6.mono hBr.size)
              refine (P4'.out _ _ _ o6.ints (j4.below b6)).mono ?_
              rintro e w7 ⟨rfl, b7⟩
              go_wp2_with fail
              go_ret
              exact ⟨rfl, Below.call B6 B6.size b7⟩
            | true =>
              have P3' := Lib.hid (P3.out hg)
              clear P3 hg
              go_wp2_with (at_builtin; (refine wpList_append_ints tyInts rfl (.tmp 72) (.tmp 73) rfl wr.heap.size _ 0 0 [] rfl (OwnI.lit0 wr (Nat.le_refl _)) _ j c1 xs rfl (i4.below ((Below.refl _ _).alloc (Nat.le_refl _) _)) (by omega) (by simp) ?_); intro A5 c5 w5 o5 g5 e5; have b5 := Below.appended ((Below.refl wr.heap.size wr).alloc (Nat.le_refl _) _) (by simp) g5 (fun x e => by cases e; exact Nat.le_refl _); clear g5 e5; simp only [Nat.zero_add, List.nil_append] at o5; have hck5 := cell_below b5 hck; obtain ⟨g5, e5, hg5⟩ := o5.head_some hl1; subst e5; have hfr := OwnI.frozen o5 (j - 1); have hcl := OwnI.cell o5 (j := j - 1) (by omega))
              have o6 := o5.stored (j - 1) (1 + (n' : Int) % X)
              have b6 := b5.setCell (p := ⟨g5, j - 1, none⟩) hg5 (.int .i64 (1 + (n' : Int) % X))
              have B6 := hBr.trans (b6.mono hBr.size)
              refine (P3'.out _ _ _ (HO.below b6).ints (j4.below b6)).mono ?_
              rintro e w7 ⟨rfl, b7⟩
              have B7 := Below.call B6 B6.size b7
              go_wp2_with fail
              refine (P4'.out _ _ _ (o6.below b7).ints ((j4.below b6).below b7)).mono ?_
              rintro e w8 ⟨rfl, b8⟩
              go_wp2_with fail
              go_ret
              exact ⟨rfl, Below.call B7 B7.size b8⟩
    · go_enter Try.func11, Try.ntmps11
      go_wp2_with fail
      go_ret
      exact ⟨rfl, Below.refl _ _⟩
  · go_enter Try.func11, Try.ntmps11
    go_wp2_with fail
    go_ret
    exact ⟨rfl, Below.refl _ _⟩

end Go.Proofs.Yteigbpmfjiofiaa
