/-
  What l3All, StampMany, StampLow, l3Before, StampRank, StampNth and StampNext of the reference compute, by a walk through each.
-/
import Derived.Test.YthlgagngeedgjaaAll
import Derived.Test.YthlgagngeedgjaaStampU
namespace Go.Proofs.Ythlgagngeedgjaa
open Go.RowKit

theorem takeR_snoc {α : Type} (xs : List α) (k : Nat) (d : α) (h : k < xs.length) : xs.take (k + 1) = xs.take k ++ [xs[k]?.getD d] := by
  rw [List.take_succ_eq_append_getElem h, List.getElem?_eq_getElem h]; rfl
theorem getR_mem {α : Type} (xs : List α) (k : Nat) (d : α) (h : k < xs.length) : xs[k]?.getD d ∈ xs := by
  rw [List.getElem?_eq_getElem h]; exact List.getElem_mem h
theorem filterR_yes {α : Type} (p : α → Bool) (xs : List α) (k : Nat) (d : α) (h : k < xs.length) (hp : p (xs[k]?.getD d) = true) : (xs.take (k + 1)).filter p = (xs.take k).filter p ++ [xs[k]?.getD d] := by
  rw [takeR_snoc xs k d h, List.filter_append, List.filter_cons, if_pos hp]; rfl
theorem filterR_no {α : Type} (p : α → Bool) (xs : List α) (k : Nat) (d : α) (h : k < xs.length) (hp : p (xs[k]?.getD d) = false) : (xs.take (k + 1)).filter p = (xs.take k).filter p := by
  rw [takeR_snoc xs k d h, List.filter_append, List.filter_cons, if_neg (by rw [hp]; simp)]; simp
theorem perms_small {n : Nat} (hn : n ≤ 7) : (perms n).length ≤ 823543 := allL_small hn hn []
theorem stacks_small {n : Nat} (hn : n ≤ 7) : (stacks n).length ≤ 823543 := Nat.le_trans (List.length_filter_le _ _) (perms_small hn)

set_option maxHeartbeats 2000000 in
theorem spec_l3All (n : Nat) (hn : n ≤ 7) (w : World) : Calls Try.prog 56 #[.int .i64 n] w (RRows w w.heap.size (stacks n)) := by
  have H1 := Lib.hid (fun (W : World) (g : Nat) (hb : g ≤ W.heap.size) (ho : OwnI W g (some ⟨g, 0, none⟩) 0 0 []) => spec_l2All n hn n [] (some ⟨g, 0, none⟩) 0 0 g W (by omega) ho hb)
  have HL := Lib.hid (perms_small hn)
  go_enter Try.func56, Try.ntmps56
  go_wp2_with (go_at_call 101; refine (H1.out _ (w.heap.size + 1) (by simp) (OwnI.lit0' (w.alloc (.cells #[] 24)) (by simp) (by simp))).mono ?_; rintro e w1 ⟨a1, N, c1, rfl, r1, b1⟩)
  have B0 : Below w.heap.size w w1 := Below.call (((Below.refl w.heap.size w).alloc (Nat.le_refl _) _).alloc (by simp) _) (by simp; omega) b1
  have hz1 : w.heap.size + 2 ≤ w1.heap.size := by have := b1.size; simp at this; omega
  have HN := Lib.hid r1.length
  have hN : N ≤ 823543 := by have := HL.out; rw [show perms n = allL n n [] from rfl, HN.out] at this; exact this
  have r0 := (RowsI.lit0 w (Nat.le_refl _)).below (((Below.refl _ _).alloc (Nat.le_refl _) (.cells #[] 3)).trans (b1.mono (by simp)))
  go_loopw [3, 5] (fun v i wr => ∃ (k : Nat) (A : Option Addr) (q c : Nat), k ≤ N ∧ i = .int .i64 k ∧ v = .slice A q c ∧ RowsI wr w.heap.size A q c (((perms n).take k).filter fun xs => unB (levelsL xs)) ∧ Below w.heap.size w wr ∧ Keeps (w.heap.size + 1) w1.heap.size w1 wr ∧ (∀ x, A = some x → x.block < w.heap.size + 1 ∨ w1.heap.size ≤ x.block) ∧ w1.heap.size ≤ wr.heap.size) (fun _ i _ => N - (intOf i).toNat)
  case atStart => exact ⟨0, _, _, _, Nat.zero_le _, rfl, rfl, r0, B0, Keeps.refl _ _ _, fun x e => by cases e; left; simp, Nat.le_refl _⟩
  case round =>
    obtain ⟨k, A, q, c, hk, rfl, rfl, HO, hB, hK, hA, hz⟩ := hrel
    have hqc := HO.le_cap
    have hq : q ≤ 823543 := by
      rw [← HO.length]
      refine Nat.le_trans (List.length_filter_le _ _) ?_
      rw [List.length_take]
      omega
    have r1c := r1.le_cap
    by_cases hlt : k < N
    · obtain ⟨g, A1, m1, c2, rfl, hck, hown⟩ := (r1.keep hK).row hlt
      have hkl : k < (perms n).length := by rw [show perms n = allL n n [] from rfl, HN.out]; exact hlt
      have hmem := mem_perms.1 (getR_mem (perms n) k [] hkl)
      have hm1 : m1 = n := hown.length.symm.trans hmem.1
      have H3 := spec_l3Possible A1 m1 c2 _ wr hown.ints (by omega) hmem.2
      have Hc := Lib.hid hck
      cases hu : unB (levelsL ((perms n)[k]?.getD [])) with
      | true =>
        rw [show allL n n [] = perms n from rfl] at H3
        rw [hu] at H3
        have H3 := Lib.hid H3
        have HS := Lib.hid (filterR_yes (fun xs => unB (levelsL xs)) (perms n) k [] hkl hu)
        clear hu hmem hm1 hkl
        go_wp2_with (first
          | (go_at_call 72; refine H3.out.mono ?_; rintro e w2 ⟨rfl, b2⟩; have hc2 := cell_below b2 Hc.out; have B2 := Below.call hB hB.size b2; have z2 := b2.size)
          | (at_builtin; refine wpList_append_row tyLists rfl (.tmp 21) (.tmp 26) rfl w.heap.size A q c _ rfl ((HO.below b2).below ((Below.refl _ _).alloc (Nat.le_refl _) _)) w2.heap.size A1 m1 c2 ((perms n)[k]?.getD []) rfl (by simp) (((hown.mono (by omega)).below b2).below ((Below.refl _ _).alloc (Nat.le_refl _) _)) (by omega) (by simp; omega) ?_; intro A5 c5 w5 r5 g5 e5))
        have b7 := Below.appended (B2.alloc B2.size _) (by simp; omega) g5 HO.base_le
        have k7 := ((hK.below b2 hz).below ((Below.refl w2.heap.size w2).alloc (Nat.le_refl _) (.cells #[.slice A1 m1 c2] 24)) (by omega)).grown g5 (by simp; omega) hA
        have a7 : ∀ x, A5 = some x → x.block < w.heap.size + 1 ∨ w1.heap.size ≤ x.block := by
          intro x hx
          rcases e5 with e5 | e5
          · exact hA x (e5 ▸ hx)
          · rw [e5] at hx; cases hx; right; simp; omega
        have z7 : w1.heap.size ≤ w5.heap.size := by have := g5.4; simp at this; omega
        go_roundw
        case rel => exact ⟨k + 1, A5, q + 1, c5, by omega, by go_num, rfl, by rw [HS.out]; exact r5, b7, k7, a7, z7⟩
        case measure => simp [intOf]; omega
      | false =>
        rw [show allL n n [] = perms n from rfl] at H3
        rw [hu] at H3
        have H3 := Lib.hid H3
        have HS := Lib.hid (filterR_no (fun xs => unB (levelsL xs)) (perms n) k [] hkl hu)
        clear hu hmem hm1 hkl
        go_wp2_with (go_at_call 72; refine H3.out.mono ?_; rintro e w2 ⟨rfl, b2⟩)
        go_roundw
        case rel => exact ⟨k + 1, A, q, c, by omega, by go_num, rfl, by rw [HS.out]; exact HO.below b2, Below.call hB hB.size b2, hK.below b2 hz, hA, Nat.le_trans hz b2.size⟩
        case measure => simp [intOf]; omega
    · have HE : Hid (((perms n).take k).filter (fun xs => unB (levelsL xs)) = stacks n) := by
        unfold Hid stacks
        rw [List.take_of_length_le (by rw [show perms n = allL n n [] from rfl, HN.out]; omega)]
      go_wp2_with fail
      go_ret
      rw [HE.out] at HO
      exact ⟨_, _, _, rfl, HO, hB⟩

/-- What StampMany answers. -/
def manyI (x : Int) : Int := if 1 ≤ x ∧ x ≤ 7 then ((stacks x.toNat).length : Int) else -1
theorem manyI_yes {n : Nat} (h1 : 1 ≤ n) (h7 : n ≤ 7) : manyI (n : Int) = ((stacks n).length : Int) := by
  unfold manyI
  rw [if_pos (by omega)]
  simp
theorem manyI_no {x : Int} (h : ¬ (1 ≤ x ∧ x ≤ 7)) : manyI x = -1 := by unfold manyI; rw [if_neg h]

theorem spec_StampMany (x : Int) (w : World) : Calls Try.prog 105 #[.int .i64 x] w (RVal w (.int .i64 (manyI x))) := by
  by_cases h : 1 ≤ x ∧ x ≤ 7
  · obtain ⟨n, rfl⟩ := Int.eq_ofNat_of_zero_le (show 0 ≤ x by omega)
    have hm := manyI_yes (n := n) (by omega) (by omega)
    rw [hm]
    have H1 := Lib.hid (spec_l6In_yes (n : Int) 1 7 w h.1 h.2)
    have H2 := Lib.hid (spec_l3All n (by omega) w)
    clear hm
    go_enter Try.func105, Try.ntmps105
    go_wp2_with (first | (go_at_call 55; refine H1.out.mono ?_; rintro e w' ⟨rfl, rfl⟩) | (go_at_call 56; refine H2.out.mono ?_; rintro e w1 ⟨a1, N, c1, rfl, r1, b1⟩))
    go_ret
    exact ⟨ret_int (by rw [r1.length]), b1⟩
  · rw [manyI_no h]
    have H1 := Lib.hid (spec_l6In_no x 1 7 w h)
    clear h
    go_enter Try.func105, Try.ntmps105
    go_wp2_with (first | (go_at_call 55; refine H1.out.mono ?_; rintro e w' ⟨rfl, rfl⟩))
    go_ret
    exact ⟨rfl, Below.refl _ _⟩

end Go.Proofs.Ythlgagngeedgjaa
