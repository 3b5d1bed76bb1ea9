/-
  What the program's crimped computes, by a walk.
-/
import Derived.Test.YtahbflbhkalehaaStepsI
namespace Go.Proofs.Ytahbflbhkalehaa
open Go.RowKit

theorem ret_strip {A : Option Addr} {m m' c : Nat} {s : ByteArray} (h : m = m') : Ending.returned (.agg #[.slice A m c, .string s]) = .returned (.agg #[.slice A m' c, .string s]) := by rw [h]

set_option maxRecDepth 100000 in
set_option maxHeartbeats 4000000 in
theorem impl_crimped (a : Option Addr) (n cap K : Nat) (xs : List Int) (s : ByteArray) (w : World) (h : Ints w a n cap xs) (hK1 : 1 ≤ K) (hK : K + 1 < n) (hn6 : n ≤ 6) (hs : s.size + 1 = n) (hok : lensOk xs) :
    Calls Try.prog 36 #[.agg #[.slice a n cap, .string s], .int .i64 K] w (RStrip w (n - 2) (crimpX xs K) (crimpS s K)) := by
  have hle := h.le_cap
  have hmx := h.cap_max
  obtain ⟨b, off, rfl, _⟩ := h.cells (by omega)
  have bb : Below w.heap.size w ((w.alloc (.cells #[.slice (some ⟨b, off, none⟩) n cap, .string s] 42)).alloc (.cells #[.slice none 0 0, .string ⟨#[]⟩] 42)) := ((Below.refl _ _).alloc (Nat.le_refl _) _).alloc (by simp) _
  have q0 : ((w.alloc (.cells #[.slice (some ⟨b, off, none⟩) n cap, .string s] 42)).alloc (.cells #[.slice none 0 0, .string ⟨#[]⟩] 42)).cell? ⟨w.heap.size, 0, none⟩ = some (.slice (some ⟨b, off, none⟩) n cap) := by simp
  have q1 : ((w.alloc (.cells #[.slice (some ⟨b, off, none⟩) n cap, .string s] 42)).alloc (.cells #[.slice none 0 0, .string ⟨#[]⟩] 42)).cell? ⟨w.heap.size, 1, none⟩ = some (.string s) := by simp
  have r0 : ((w.alloc (.cells #[.slice (some ⟨b, off, none⟩) n cap, .string s] 42)).alloc (.cells #[.slice none 0 0, .string ⟨#[]⟩] 42)).cell? ⟨w.heap.size + 1, 0, none⟩ = some (.slice none 0 0) := by simp
  have r1 : ((w.alloc (.cells #[.slice (some ⟨b, off, none⟩) n cap, .string s] 42)).alloc (.cells #[.slice none 0 0, .string ⟨#[]⟩] 42)).cell? ⟨w.heap.size + 1, 1, none⟩ = some (.string ⟨#[]⟩) := by simp
  have f0 : ((w.alloc (.cells #[.slice (some ⟨b, off, none⟩) n cap, .string s] 42)).alloc (.cells #[.slice none 0 0, .string ⟨#[]⟩] 42)).frozen? ⟨w.heap.size + 1, 0, none⟩ = false := by simp
  have f1 : ((w.alloc (.cells #[.slice (some ⟨b, off, none⟩) n cap, .string s] 42)).alloc (.cells #[.slice none 0 0, .string ⟨#[]⟩] 42)).frozen? ⟨w.heap.size + 1, 1, none⟩ = false := by simp
  have hs1 : ((w.alloc (.cells #[.slice (some ⟨b, off, none⟩) n cap, .string s] 42)).alloc (.cells #[.slice none 0 0, .string ⟨#[]⟩] 42)).heap.size = w.heap.size + 2 := by simp
  obtain ⟨W1, hW1⟩ : ∃ W1, (w.alloc (.cells #[.slice (some ⟨b, off, none⟩) n cap, .string s] 42)).alloc (.cells #[.slice none 0 0, .string ⟨#[]⟩] 42) = W1 := ⟨_, rfl⟩
  rw [hW1] at bb q0 q1 r0 r1 f0 f1 hs1
  have h2 : (2 : Int) ≤ (n : Int) := by omega
  have HI := Lib.hid (h.below bb)
  have HL := Lib.hid h.length
  have HOK := Lib.hid hok
  have HQ1 := Lib.hid q1
  have HR0 := Lib.hid r0
  have HR1 := Lib.hid r1
  have HF0 := Lib.hid f0
  have HF1 := Lib.hid f1
  have HS1 := Lib.hid hs1
  have hz1 : w.heap.size + 2 ≤ W1.heap.size := by omega
  have hsK : K < s.size := by omega
  have hb1 : (K : Int) - 1 ≤ (cap : Int) := by omega
  have hb2 : K - 1 ≤ cap := by omega
  have hi1 : (1 : Int) ≤ (K : Int) := by omega
  have g0 := lensOk_get hok (k := K - 1) (by rw [HL.out]; omega)
  have g1 := lensOk_get hok (k := K) (by rw [HL.out]; omega)
  have g2 := lensOk_get hok (k := K + 1) (by rw [HL.out]; omega)
  unfold at0 at g0 g1 g2
  clear h hok q1 r0 r1 f0 f1 hs1
  go_enter Try.func36, Try.ntmps36
  go_upto_region 4 with (first
    | (at_make; refine wpList_make_cap tyInts rfl _ _ rfl W1.heap.size _ (n - 2) rfl rfl (by omega) (by omega) (Nat.le_refl _) ?_; intro w1 o1 gm; have b1 : Below W1.heap.size W1 w1 := (Below.refl _ _).grown gm (Nat.le_refl _) (by simp); clear gm)
    | (at_builtin; refine wpList_append_ints tyInts rfl (.tmp 13) (.tmp 17) rfl W1.heap.size _ _ _ _ rfl o1 (some ⟨b, off, none⟩) (K - 1) cap (xs.take (K - 1)) rfl ((HI.out.below b1).head (k := K - 1) (by omega)) (by omega) b1.size ?_; intro A2 c2 w2 o2 gp e2; have b2 := Below.appended b1 b1.size gp o1.base_le; simp only [Nat.zero_add, List.nil_append] at o2; clear gp e2))
  go_cut [6] (fun v wx => ∃ (A : Option Addr) (c : Nat), v = .slice A K c ∧ OwnI wx W1.heap.size A K c (xs.take (K - 1) ++ [xs[K - 1]?.getD 0 + xs[K + 1]?.getD 0 - xs[K]?.getD 0]) ∧ Below W1.heap.size W1 wx)
  case first =>
    obtain ⟨b', off', e', hc'⟩ := (HI.out.below b2).cells (by omega)
    cases e'
    have k0 := hc' (K - 1) (by omega)
    have k1 := hc' K (by omega)
    have k2 := hc' (K + 1) (by omega)
    clear hc' HI HL HOK HQ1 HR0 HR1 HF0 HF1 HS1 b1 o1 q0
    have hw1 : IntKind.i64.wrap ((K : Int) - 1) = (K : Int) - 1 := IntWalk.i64_in _ (by omega)
    have hw2 : IntKind.i64.wrap ((K : Int) + 1) = (K : Int) + 1 := IntWalk.i64_in _ (by omega)
    have hw3 : IntKind.i64.wrap (xs[K - 1]?.getD 0 + xs[K + 1]?.getD 0) = xs[K - 1]?.getD 0 + xs[K + 1]?.getD 0 := IntWalk.i64_in _ (by omega)
    have hw4 : IntKind.i64.wrap (xs[K - 1]?.getD 0 + xs[K + 1]?.getD 0 - xs[K]?.getD 0) = xs[K - 1]?.getD 0 + xs[K + 1]?.getD 0 - xs[K]?.getD 0 := IntWalk.i64_in _ (by omega)
    have hi0 : (0 : Int) ≤ (K : Int) + 1 := by omega
    have hi2 : (K : Int) - 1 < (n : Int) := by omega
    have hi3 : (K : Int) < (n : Int) := by omega
    have hi4 : (K : Int) + 1 < (n : Int) := by omega
    have ht1 : ((K : Int) - 1).toNat = K - 1 := by omega
    have ht2 : ((K : Int) + 1).toNat = K + 1 := by omega
    have hq1 : K - 1 ≤ 4000000 := by omega
    have hq2 : W1.heap.size ≤ w2.heap.size + 1 := by have := b2.size; omega
    go_region_law (refine step_append_int tyInts rfl (.tmp 19) (.tmp 36) rfl W1.heap.size A2 (K - 1) c2 (xs.take (K - 1)) (by simp [Act.eval]) (o2.below (((Below.refl _ _).alloc (Nat.le_refl _) _).drew)) w2.heap.size (xs[K - 1]?.getD 0 + xs[K + 1]?.getD 0 - xs[K]?.getD 0) (by simp [Act.eval]) (by simp) hq1 (by simpa using hq2) ?_; intro A3 c3 w3 o3 gb e3; have b3 := Below.appended ((b2.alloc b2.size _).drew) (by simpa using hq2) gb o2.base_le; rw [show K - 1 + 1 = K by omega] at o3; clear gb e3)
    all_goals
      clear hw1 hw2 hw3 hw4
      go_wp2_with fail
      go_meet
      case rel => exact ⟨A3, c3, rfl, o3, b3⟩
  case rest =>
    clear o1 b1 o2 b2
    obtain ⟨A2, c2, rfl, o2, b2⟩ := hcut
    by_cases hcK : cap = K + 2
    · have hnK : n = K + 2 := by omega
      subst hcK hnK
      have hx1 : (K : Int) - 1 < (K : Int) + 2 := by omega
      have hx2 : (K : Int) < (K : Int) + 2 := by omega
      have hK2 : (K : Int) + 2 ≤ ((K + 2) : Int) := by omega
      have hK3 : K + 2 ≤ (K + 2) := by omega
      go_wp2_with (at_builtin; refine wpList_append_ints tyInts rfl (.tmp 38) (.tmp 42) rfl W1.heap.size A2 K c2 _ rfl o2 _ _ _ [] rfl (Ints.none' _ _ (by omega) (by unfold maxLen; omega)) (by omega) b2.size ?_; intro A3 c3 w3 o3p gc e3; have b3 := Below.appended b2 b2.size gc o2.base_le; clear gc e3; have q1' := cell_below b3 HQ1.out; have r0' := cell_below b3 HR0.out; have r1' := cell_below b3 HR1.out; have f0' := (b3.frozen (p := ⟨w.heap.size + 1, 0, none⟩) (by simp only; omega)).trans HF0.out; have f1' := (b3.frozen (p := ⟨w.heap.size + 1, 1, none⟩) (by simp only; omega)).trans HF1.out)
      have o3 : OwnI w3 W1.heap.size A3 K c3 (crimpX xs K) := by unfold crimpX at0; rw [List.drop_of_length_le (by rw [HL.out]; omega)]; rw [Nat.sub_self, Nat.add_zero] at o3p; exact o3p
      clear o3p
      have hw1 : IntKind.i64.wrap ((K : Int) - 1) = (K : Int) - 1 := IntWalk.i64_in _ (by omega)
      have hw2 : IntKind.i64.wrap ((K : Int) + 1) = (K : Int) + 1 := IntWalk.i64_in _ (by omega)
      have hi0 : (0 : Int) ≤ (K : Int) + 1 := by omega
      have hu1 : (K : Int) - 1 ≤ (s.size : Int) := by omega
      have hu2 : (K : Int) + 1 ≤ (s.size : Int) := by omega
      have hu3 : K - 1 ≤ s.size := by omega
      have hu4 : K + 1 ≤ s.size := by omega
      have he1 : (s.extract 0 (K - 1)).size ≤ 10 := by rw [size_ext s (by omega)]; omega
      have he2 : (s.extract (K + 1) s.size).size ≤ 10 := by rw [size_ext s (Nat.le_refl _)]; omega
      have he3 : (s.extract 0 (K - 1)).size + (s.extract (K + 1) s.size).size ≤ 9223372036854775807 := by omega
      have hadd : ∀ W : World, (Op.stringOp .add (s.extract 0 (K - 1)) (s.extract (K + 1) s.size)).run Try.prog W = .ok (.string (crimpS s K)) W := fun W => run_string_add_sum (P := Try.prog) W _ _ he3
      clear he1 he2 he3
      go_still_tail 13, (by kernel_rfl)
      clear hw1 hw2 hadd
      change wpList _ _ _ _ _ w3.drew
      have b3d := b3.drew
      have o3d := o3.drew
      have HF3 : Hid (∀ W : World, Ints W A3 (K) c3 (crimpX xs K) → Ints W A3 ((K + 2) - 2) c3 (crimpX xs K)) := fun W hW => by rwa [show K = (K + 2) - 2 by omega] at hW
      have hs3 := b3.size
      go_wp2
      have hne : ∀ x, A3 = some x → x.block ≠ w.heap.size + 1 := fun x hx => by have := o3.base_le x hx; omega
      have oF := ((o3.put_other (g := w.heap.size + 1) (k := 0) (.slice A3 (K) c3) hne).put_other (g := w.heap.size + 1) (k := 1) (.string (crimpS s K)) hne).drew
      have v0 : ((w3.setCell ⟨w.heap.size + 1, 0, none⟩ (.slice A3 (K) c3)).setCell ⟨w.heap.size + 1, 1, none⟩ (.string (crimpS s K))).drew.cell? ⟨w.heap.size + 1, 0, none⟩ = some (.slice A3 (K) c3) :=
        (World.cell?_setCell_other _ _ _ _ (by intro e; injection e with _ e2 _; cases e2)).trans (World.cell?_setCell_same' _ _ _ (by rw [r0']; rfl))
      have v1 : ((w3.setCell ⟨w.heap.size + 1, 0, none⟩ (.slice A3 (K) c3)).setCell ⟨w.heap.size + 1, 1, none⟩ (.string (crimpS s K))).drew.cell? ⟨w.heap.size + 1, 1, none⟩ = some (.string (crimpS s K)) :=
        World.cell?_setCell_same' _ _ _ (by rw [World.cell?_setCell_other _ _ _ _ (by intro e; injection e with _ e2 _; cases e2), r1']; rfl)
      have BF : Below w.heap.size w ((w3.setCell ⟨w.heap.size + 1, 0, none⟩ (.slice A3 (K) c3)).setCell ⟨w.heap.size + 1, 1, none⟩ (.string (crimpS s K))).drew := (((Below.call bb bb.size b3).setCell (p := ⟨w.heap.size + 1, 0, none⟩) (by simp only; omega) _).setCell (p := ⟨w.heap.size + 1, 1, none⟩) (by simp only; omega) _).drew
      generalize ((w3.setCell ⟨w.heap.size + 1, 0, none⟩ (.slice A3 (K) c3)).setCell ⟨w.heap.size + 1, 1, none⟩ (.string (crimpS s K))).drew = wf at oF v0 v1 BF ⊢
      exact bodyPost_ret (v := .agg #[.slice A3 (K) c3, .string (crimpS s K)]) (by simp [results, Try.results36, go_sem, v0, v1]) rfl ⟨A3, c3, ret_strip (by omega), HF3.out _ oF.ints, BF⟩
    · skip
      have hK2 : (K : Int) + 2 ≤ (n : Int) := by omega
      have hK3 : K + 2 ≤ n := by omega
      go_wp2_with (at_builtin; refine wpList_append_ints tyInts rfl (.tmp 38) (.tmp 42) rfl W1.heap.size A2 K c2 _ rfl o2 (some ⟨b, off + (K + 2), none⟩) (n - (K + 2)) (cap - (K + 2)) (xs.drop (K + 2)) rfl (by have q := (HI.out.below b2).cut' (k := K + 2) (by omega) (by omega); rwa [Option.map_some, add_addr] at q) (by omega) b2.size ?_; intro A3 c3 w3 o3p gc e3; have b3 := Below.appended b2 b2.size gc o2.base_le; clear gc e3; have q1' := cell_below b3 HQ1.out; have r0' := cell_below b3 HR0.out; have r1' := cell_below b3 HR1.out; have f0' := (b3.frozen (p := ⟨w.heap.size + 1, 0, none⟩) (by simp only; omega)).trans HF0.out; have f1' := (b3.frozen (p := ⟨w.heap.size + 1, 1, none⟩) (by simp only; omega)).trans HF1.out)
      have o3 : OwnI w3 W1.heap.size A3 (K + (n - (K + 2))) c3 (crimpX xs K) := o3p
      clear o3p
      have hw1 : IntKind.i64.wrap ((K : Int) - 1) = (K : Int) - 1 := IntWalk.i64_in _ (by omega)
      have hw2 : IntKind.i64.wrap ((K : Int) + 1) = (K : Int) + 1 := IntWalk.i64_in _ (by omega)
      have hi0 : (0 : Int) ≤ (K : Int) + 1 := by omega
      have hu1 : (K : Int) - 1 ≤ (s.size : Int) := by omega
      have hu2 : (K : Int) + 1 ≤ (s.size : Int) := by omega
      have hu3 : K - 1 ≤ s.size := by omega
      have hu4 : K + 1 ≤ s.size := by omega
      have he1 : (s.extract 0 (K - 1)).size ≤ 10 := by rw [size_ext s (by omega)]; omega
      have he2 : (s.extract (K + 1) s.size).size ≤ 10 := by rw [size_ext s (Nat.le_refl _)]; omega
      have he3 : (s.extract 0 (K - 1)).size + (s.extract (K + 1) s.size).size ≤ 9223372036854775807 := by omega
      have hadd : ∀ W : World, (Op.stringOp .add (s.extract 0 (K - 1)) (s.extract (K + 1) s.size)).run Try.prog W = .ok (.string (crimpS s K)) W := fun W => run_string_add_sum (P := Try.prog) W _ _ he3
      clear he1 he2 he3
      go_still_tail 13, (by kernel_rfl)
      clear hw1 hw2 hadd
      change wpList _ _ _ _ _ w3.drew
      have b3d := b3.drew
      have o3d := o3.drew
      have HF3 : Hid (∀ W : World, Ints W A3 (K + (n - (K + 2))) c3 (crimpX xs K) → Ints W A3 (n - 2) c3 (crimpX xs K)) := fun W hW => by rwa [show K + (n - (K + 2)) = n - 2 by omega] at hW
      have hs3 := b3.size
      go_wp2
      have hne : ∀ x, A3 = some x → x.block ≠ w.heap.size + 1 := fun x hx => by have := o3.base_le x hx; omega
      have oF := ((o3.put_other (g := w.heap.size + 1) (k := 0) (.slice A3 (K + (n - (K + 2))) c3) hne).put_other (g := w.heap.size + 1) (k := 1) (.string (crimpS s K)) hne).drew
      have v0 : ((w3.setCell ⟨w.heap.size + 1, 0, none⟩ (.slice A3 (K + (n - (K + 2))) c3)).setCell ⟨w.heap.size + 1, 1, none⟩ (.string (crimpS s K))).drew.cell? ⟨w.heap.size + 1, 0, none⟩ = some (.slice A3 (K + (n - (K + 2))) c3) :=
        (World.cell?_setCell_other _ _ _ _ (by intro e; injection e with _ e2 _; cases e2)).trans (World.cell?_setCell_same' _ _ _ (by rw [r0']; rfl))
      have v1 : ((w3.setCell ⟨w.heap.size + 1, 0, none⟩ (.slice A3 (K + (n - (K + 2))) c3)).setCell ⟨w.heap.size + 1, 1, none⟩ (.string (crimpS s K))).drew.cell? ⟨w.heap.size + 1, 1, none⟩ = some (.string (crimpS s K)) :=
        World.cell?_setCell_same' _ _ _ (by rw [World.cell?_setCell_other _ _ _ _ (by intro e; injection e with _ e2 _; cases e2), r1']; rfl)
      have BF : Below w.heap.size w ((w3.setCell ⟨w.heap.size + 1, 0, none⟩ (.slice A3 (K + (n - (K + 2))) c3)).setCell ⟨w.heap.size + 1, 1, none⟩ (.string (crimpS s K))).drew := (((Below.call bb bb.size b3).setCell (p := ⟨w.heap.size + 1, 0, none⟩) (by simp only; omega) _).setCell (p := ⟨w.heap.size + 1, 1, none⟩) (by simp only; omega) _).drew
      generalize ((w3.setCell ⟨w.heap.size + 1, 0, none⟩ (.slice A3 (K + (n - (K + 2))) c3)).setCell ⟨w.heap.size + 1, 1, none⟩ (.string (crimpS s K))).drew = wf at oF v0 v1 BF ⊢
      exact bodyPost_ret (v := .agg #[.slice A3 (K + (n - (K + 2))) c3, .string (crimpS s K)]) (by simp [results, Try.results36, go_sem, v0, v1]) rfl ⟨A3, c3, ret_strip (by omega), HF3.out _ oF.ints, BF⟩

end Go.Proofs.Ytahbflbhkalehaa
