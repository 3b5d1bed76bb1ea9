/-
  What the reference's l2Rights and l2First compute.
-/
import Derived.Test.YtahbflbhkalehaaAll3
import Derived.Test.YtahbflbhkalehaaFlatT
namespace Go.Proofs.Ytahbflbhkalehaa
open Go.RowKit

set_option maxRecDepth 100000 in
set_option maxHeartbeats 2000000 in
theorem spec_l2Rights (r : Bool) (s : ByteArray) (F : List Fd) (a : Option Addr) (n cap : Nat) (xs : List Int) (w : World) (h : Ints w a n cap xs) (hn : n ≤ 6)
    (hR : ∀ (W : World) (b : Option Addr) (m cb : Nat) (ys : List Int), Ints W a n cap xs → Ints W b m cb ys → m ≤ 1048576 → Calls Try.prog 31 #[.slice a n cap, .string s, .bool r, .slice b m cb] W (RVal W (.bool (rightB xs F ys)))) :
    Calls Try.prog 16 #[.slice a n cap, .string s, .bool r] w (RRows w w.heap.size ((perms n).filter (rightB xs F))) := by
  have hle := h.le_cap
  have hmx := h.cap_max
  have H1 := Lib.hid (fun (W : World) (g : Nat) (hb : g ≤ W.heap.size) (ho : OwnI W g (some ⟨g, 0, none⟩) 0 0 []) => spec_l2All n (by omega) n [] (some ⟨g, 0, none⟩) 0 0 g W (by omega) ho hb)
  have HL := Lib.hid (perms_small (n := n) (by omega))
  have HR := Lib.hid hR
  have HX := Lib.hid h
  clear hR h
  go_enter Try.func16, Try.ntmps16
  go_wp2_with (go_at_call 30; refine (H1.out _ (w.heap.size + 1) (by simp) (OwnI.lit0' (w.alloc (.cells #[] 23)) (by simp) (by simp))).mono ?_; rintro e w1 ⟨a1, N, c1, rfl, r1, b1⟩)
  have B0 : Below w.heap.size w w1 := Below.call (((Below.refl w.heap.size w).alloc (Nat.le_refl _) _).alloc (by simp) _) (by simp; omega) b1
  have hz1 : w.heap.size + 2 ≤ w1.heap.size := by have := b1.size; simp at this; omega
  have HN := Lib.hid r1.length
  have hN : N ≤ 823543 := by have := HL.out; rw [show perms n = allL n n [] from rfl, HN.out] at this; exact this
  have r0 := (RowsI.lit0 w (Nat.le_refl _)).below (((Below.refl _ _).alloc (Nat.le_refl _) (.cells #[] 3)).trans (b1.mono (by simp)))
  go_loopw [7, 9] (fun v i wr => ∃ (k : Nat) (A : Option Addr) (q c : Nat), k ≤ N ∧ i = .int .i64 k ∧ v = .slice A q c ∧ RowsI wr w.heap.size A q c (((perms n).take k).filter (rightB xs F)) ∧ Below w.heap.size w wr ∧ Keeps (w.heap.size + 1) w1.heap.size w1 wr ∧ (∀ x, A = some x → x.block < w.heap.size + 1 ∨ w1.heap.size ≤ x.block) ∧ w1.heap.size ≤ wr.heap.size) (fun _ i _ => N - (intOf i).toNat)
  case atStart => exact ⟨0, _, _, _, Nat.zero_le _, rfl, rfl, r0, B0, Keeps.refl _ _ _, fun x e => by cases e; left; simp, Nat.le_refl _⟩
  case round =>
    obtain ⟨k, A, q, c, hk, rfl, rfl, HO, hB, hK, hA, hz⟩ := hrel
    have hqc := HO.le_cap
    have hq : q ≤ 823543 := by
      rw [← HO.length]
      refine Nat.le_trans (List.length_filter_le _ _) ?_
      rw [List.length_take]
      omega
    have r1c := r1.le_cap
    by_cases hlt : k < N
    · obtain ⟨g, A1, m1, c2, rfl, hck, hown⟩ := (r1.keep hK).row hlt
      have hkl : k < (perms n).length := by rw [show perms n = allL n n [] from rfl, HN.out]; exact hlt
      have hmem := mem_perms.1 (getR_mem (perms n) k [] hkl)
      have hm1 : m1 = n := hown.length.symm.trans hmem.1
      have H3 := HR.out wr A1 m1 c2 _ (HX.out.below hB) hown.ints (by omega)
      have Hc := Lib.hid hck
      cases hu : rightB xs F ((perms n)[k]?.getD []) with
      | true =>
        rw [show allL n n [] = perms n from rfl] at H3
        rw [hu] at H3
        have H3 := Lib.hid H3
        have HS := Lib.hid (filterR_yes (rightB xs F) (perms n) k [] hkl hu)
        clear hu hmem hm1 hkl
        go_wp2_with (first
          | (go_at_call 31; refine H3.out.mono ?_; rintro e w2 ⟨rfl, b2⟩; have hc2 := cell_below b2 Hc.out; have B2 := Below.call hB hB.size b2; have z2 := b2.size)
          | (at_builtin; refine wpList_append_row tyLists rfl (.tmp 29) (.tmp 34) rfl w.heap.size A q c _ rfl ((HO.below b2).below ((Below.refl _ _).alloc (Nat.le_refl _) _)) w2.heap.size A1 m1 c2 ((perms n)[k]?.getD []) rfl (by simp) (((hown.mono (by omega)).below b2).below ((Below.refl _ _).alloc (Nat.le_refl _) _)) (by omega) (by simp; omega) ?_; intro A5 c5 w5 r5 g5 e5))
        have b7 := Below.appended (B2.alloc B2.size _) (by simp; omega) g5 HO.base_le
        have k7 := ((hK.below b2 hz).below ((Below.refl w2.heap.size w2).alloc (Nat.le_refl _) (.cells #[.slice A1 m1 c2] 23)) (by omega)).grown g5 (by simp; omega) hA
        have a7 : ∀ x, A5 = some x → x.block < w.heap.size + 1 ∨ w1.heap.size ≤ x.block := by
          intro x hx
          rcases e5 with e5 | e5
          · exact hA x (e5 ▸ hx)
          · rw [e5] at hx; cases hx; right; simp; omega
        have z7 : w1.heap.size ≤ w5.heap.size := by have := g5.4; simp at this; omega
        go_roundw
        case rel => exact ⟨k + 1, A5, q + 1, c5, by omega, by go_num, rfl, by rw [HS.out]; exact r5, b7, k7, a7, z7⟩
        case measure => simp [intOf]; omega
      | false =>
        rw [show allL n n [] = perms n from rfl] at H3
        rw [hu] at H3
        have H3 := Lib.hid H3
        have HS := Lib.hid (filterR_no (rightB xs F) (perms n) k [] hkl hu)
        clear hu hmem hm1 hkl
        go_wp2_with (go_at_call 31; refine H3.out.mono ?_; rintro e w2 ⟨rfl, b2⟩)
        go_roundw
        case rel => exact ⟨k + 1, A, q, c, by omega, by go_num, rfl, by rw [HS.out]; exact HO.below b2, Below.call hB hB.size b2, hK.below b2 hz, hA, Nat.le_trans hz b2.size⟩
        case measure => simp [intOf]; omega
    · have HE : Hid (((perms n).take k).filter (rightB xs F) = (perms n).filter (rightB xs F)) := by
        unfold Hid
        rw [List.take_of_length_le (by rw [show perms n = allL n n [] from rfl, HN.out]; omega)]
      go_wp2_with fail
      go_ret
      rw [HE.out] at HO
      exact ⟨_, _, _, rfl, HO, hB⟩

end Go.Proofs.Ytahbflbhkalehaa
