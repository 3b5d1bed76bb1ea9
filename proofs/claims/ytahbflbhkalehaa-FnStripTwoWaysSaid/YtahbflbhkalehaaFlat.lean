/-
  What the program computes of parts laid flat: inside, crossed, right.
-/
import Derived.Test.YtahbflbhkalehaaMemF
import Derived.Test.YtahbflbhkalehaaStamp
import Derived.Deep.LoopGhost
import Derived.Deep.DeepCutAuto
namespace Go.Proofs.Ytahbflbhkalehaa
open Go.RowKit

set_option maxHeartbeats 1000000 in
theorem impl_inside (g n : Nat) (xs : List Int) (F : List Fd) (pl : Int) (s : Nat) (w : World) (h : FlatAt w g n xs F) (hl : xs.length = n) (hn : n ≤ 6) (hs : s < n) :
    Calls Try.prog 39 #[.pointer (some ⟨g, 0, none⟩), .int .i64 pl, .int .i64 s] w (RVal w (.bool (betw pl (alt (xs.take s)) (alt (xs.take (s + 1)))))) := by
  obtain ⟨A, c, hp, hi⟩ := h.places
  obtain ⟨b, off, rfl, hc⟩ := hi.cells (by omega)
  have c1 := hc s (by omega)
  have c2 := hc (s + 1) (by omega)
  rw [placesL_get xs s (by omega)] at c1
  rw [placesL_get xs (s + 1) (by omega)] at c2
  have hle := hi.le_cap
  have hmx := hi.cap_max
  clear hc hi h
  go_enter Try.func39, Try.ntmps39
  go_wp2
  have i1 : (s : Int) < (n : Int) + 1 := by omega
  have i2 : (s : Int) + 1 < (n : Int) + 1 := by omega
  have i3 : 0 ≤ (s : Int) + 1 := by omega
  have t1 : ((s : Int) + 1).toNat = s + 1 := by omega
  have w1 : IntKind.i64.wrap ((s : Int) + 1) = (s : Int) + 1 := IntWalk.i64_in _ (by omega)
  go_quiet ((go_at_call 38; exact quietA (fun W => impl_isBetween _ _ _ W)))
  go_wp2
  go_ret
  exact ⟨rfl, below_drewN (Below.refl _ _) _⟩

theorem crossF_pl {L : List Int} {f g : Fd} (h : ¬ f.pl = g.pl) : crossF L f g = false := by unfold crossF; rw [decide_eq_false h]; rfl
theorem crossF_par {L : List Int} {f g : Fd} (h : ¬ f.ah % 2 = g.ah % 2) : crossF L f g = false := by unfold crossF; rw [decide_eq_false h, Bool.and_false]; rfl
theorem crossF_yes {L : List Int} {f g : Fd} (h : f.pl = g.pl) (h2 : f.ah % 2 = g.ah % 2) : crossF L f g = crossB (at0 L f.ah) (at0 L f.be) (at0 L g.ah) (at0 L g.be) := by
  unfold crossF; rw [decide_eq_true h, decide_eq_true h2]; rfl

set_option maxHeartbeats 2000000 in
theorem impl_crossed (f g : Fd) (a : Option Addr) (n cap : Nat) (L : List Int) (w : World) (h : Ints w a n cap L) (hn : n ≤ 1048576) (h1 : f.ah < n) (h2 : f.be < n) (h3 : g.ah < n) (h4 : g.be < n) (hp : f.be % 2 = g.be % 2 ↔ f.ah % 2 = g.ah % 2) :
    Calls Try.prog 40 #[.agg #[.int .i64 f.ah, .int .i64 f.be, .int .i64 f.pl, .bool f.hi], .agg #[.int .i64 g.ah, .int .i64 g.be, .int .i64 g.pl, .bool g.hi], .slice a n cap] w (RVal w (.bool (crossF L f g))) := by
  have hle := h.le_cap
  have hmx := h.cap_max
  have bb : Below w.heap.size w ((w.alloc (.cells #[.int .i64 f.ah, .int .i64 f.be, .int .i64 f.pl, .bool f.hi] 63)).alloc (.cells #[.int .i64 g.ah, .int .i64 g.be, .int .i64 g.pl, .bool g.hi] 63)) := ((Below.refl _ _).alloc (Nat.le_refl _) _).alloc (by simp) _
  by_cases hpl : f.pl = g.pl
  · by_cases hpar : f.be % 2 = g.be % 2
    · have HC := Lib.hid (crossF_yes (L := L) hpl (hp.1 hpar))
      have hplb : (f.pl != g.pl) = false := by rw [hpl]; simp
      have hparb : ((f.be : Int) % 2 != (g.be : Int) % 2) = false := by rw [show (f.be : Int) % 2 = (g.be : Int) % 2 by omega]; simp
      obtain ⟨b, off, rfl, hc⟩ := (h.below bb).cells (by omega)
      have c1 := hc f.ah h1
      have c2 := hc f.be h2
      have c3 := hc g.ah h3
      have c4 := hc g.be h4
      have hfa : (f.ah : Int) < (n : Int) := by omega
      have hfb : (f.be : Int) < (n : Int) := by omega
      have hga : (g.ah : Int) < (n : Int) := by omega
      have hgb : (g.be : Int) < (n : Int) := by omega
      clear hc hpl hpar hp
      obtain ⟨fa, fb, fp, fh⟩ := f
      obtain ⟨ga, gb, gp, gh⟩ := g
      simp only at *
      go_enter Try.func40, Try.ntmps40
      go_wp2
      go_quiet (fail)
      go_wp2
      go_quiet ((go_at_call 38; exact quietB (fun W => impl_isBetween _ _ _ W)))
      go_wp2
      go_ret
      exact ⟨ret_bool (by rw [HC.out]; unfold crossB at0; rfl), below_drewN (below_drewN bb _) _⟩
    · have HC := Lib.hid (crossF_par (L := L) (f := f) (g := g) fun e => hpar (hp.2 e))
      have hplb : (f.pl != g.pl) = false := by rw [hpl]; simp
      have hparb : ((f.be : Int) % 2 != (g.be : Int) % 2) = true := by rw [bne_iff_ne]; omega
      clear hpl hpar hp
      obtain ⟨fa, fb, fp, fh⟩ := f
      obtain ⟨ga, gb, gp, gh⟩ := g
      simp only at *
      go_enter Try.func40, Try.ntmps40
      go_wp2
      go_ret
      exact ⟨ret_bool HC.out.symm, bb⟩
  · have HC := Lib.hid (crossF_pl (L := L) hpl)
    have hplb : (f.pl != g.pl) = true := by rw [bne_iff_ne]; exact hpl
    clear hpl hp
    obtain ⟨fa, fb, fp, fh⟩ := f
    obtain ⟨ga, gb, gp, gh⟩ := g
    simp only at *
    go_enter Try.func40, Try.ntmps40
    go_wp2
    go_ret
    exact ⟨ret_bool HC.out.symm, bb⟩

/-- The parity of the parts behind tells that of the parts ahead. -/
def parF (n : Nat) (F : List Fd) : Prop := ∀ k, k < F.length → (fdAt F k).ah < n ∧ (fdAt F k).be < n ∧ (fdAt F k).be % 2 = ((fdAt F k).ah + 1) % 2

set_option maxRecDepth 100000 in
set_option maxHeartbeats 4000000 in
theorem impl_right (g n : Nat) (xs : List Int) (F : List Fd) (a : Option Addr) (m cap : Nat) (ys : List Int) (w : World) (h : FlatAt w g n xs F) (hl : xs.length = n) (hn : n ≤ 6) (hF : parF n F) (hap : apartF n F) (hFl : F.length ≤ 6)
    (hi : Ints w a m cap ys) (hm : m ≤ 1048576) :
    Calls Try.prog 19 #[.pointer (some ⟨g, 0, none⟩), .slice a m cap] w (RVal w (.bool (rightB xs F ys))) := by
  have hmany := h.many
  by_cases hmn : m = n
  · subst hmn
    have P1 := impl_levelsOf a m cap ys w hi hm
    cases hp : permB ys with
    | false =>
      have HE := Lib.hid (rightB_np (xs := xs) (F := F) hp)
      rw [hp] at P1
      have P1 := Lib.hid P1
      clear hp
      go_enter Try.func19, Try.ntmps19
      go_wp2_with (go_at_call 37; refine P1.out.mono ?_; rintro e w1 ⟨a1, n1, c1, rfl, o1, b1⟩)
      go_ret
      exact ⟨ret_bool HE.out.symm, b1⟩
    | true =>
      rw [hp, levOr_yes hp] at P1
      have P1 := Lib.hid P1
      have HP := Lib.hid hp
      have HYL := Lib.hid hi.length
      have HRB := Lib.hid (rightB_yes (F := F) (hi.length.trans hl.symm) hp)
      have HLL := Lib.hid ((levelsL_length ys).trans hi.length)
      have HXL := Lib.hid hl
      have HF := Lib.hid hF
      have HAP := Lib.hid hap
      have HFA := Lib.hid h
      clear hp hF hap hl h
      go_enter Try.func19, Try.ntmps19
      go_wp2_with (go_at_call 37; refine P1.out.mono ?_; rintro e w1 ⟨a1, n1, c1, rfl, o1, b1⟩; obtain rfl : m = n1 := HLL.out.symm.trans o1.length; obtain ⟨B, d, hB, hFo⟩ := (HFA.out.below b1).folds; have hdc := hFo.le; have hdm := hFo.max; unfold maxLen at hdm)
      go_loopg [31] F.length (fun q s31 wr => ∃ k : Nat, k ≤ F.length ∧ q = F.length - k ∧ s31 = .int .i64 k ∧ rtTo xs F (levelsL ys) k ∧ Below w1.heap.size w1 wr)
      case atStart => exact ⟨0, Nat.zero_le _, rfl, rfl, rtTo_zero _ _ _, Below.refl _ _⟩
      case round =>
        obtain ⟨k, hk, hq, rfl, hrt, hBr⟩ := hrel
        have HRT := Lib.hid hrt
        have HQ := Lib.hid hq
        clear hrt hq
        obtain ⟨wo, rfl⟩ : ∃ wo : World, wo = wr := ⟨_, rfl⟩
        by_cases hlt : k < F.length
        · obtain ⟨bF, oF, rfl, hFc⟩ := (show FoldsI wo B F.length d F from Cells.below hFo hBr).cells (by omega)
          obtain ⟨e0, e1, e2, e3⟩ := hFc k hlt
          have hltI : (k : Int) < (F.length : Int) := by omega
          have hpar := HF.out k hlt
          have HPAR := Lib.hid hpar.2.2
          obtain ⟨hah, hbe, _⟩ := hpar
          clear hFc
          generalize hf : fdAt F k = f at e0 e1 e2 e3 hah hbe HPAR
          have HFK := Lib.hid hf
          clear hf
          have bz : Below wo.heap.size wo (wo.alloc (.cells #[.int .i64 f.ah, .int .i64 f.be, .int .i64 f.pl, .bool f.hi] 63)) := (Below.refl _ _).alloc (Nat.le_refl _) _
          have Bz := Below.call hBr hBr.size bz
          obtain ⟨bL, oL, e', hlc⟩ := (o1.ints.below Bz).cells (by omega)
          subst e'
          have l1 : (wo.alloc (.cells #[.int .i64 f.ah, .int .i64 f.be, .int .i64 f.pl, .bool f.hi] 63)).cell? ⟨bL, oL + f.ah, none⟩ = some (.int .i64 (at0 (levelsL ys) f.ah)) := hlc f.ah hah
          have l2 : (wo.alloc (.cells #[.int .i64 f.ah, .int .i64 f.be, .int .i64 f.pl, .bool f.hi] 63)).cell? ⟨bL, oL + f.be, none⟩ = some (.int .i64 (at0 (levelsL ys) f.be)) := hlc f.be hbe
          clear hlc
          have hahI : (f.ah : Int) < (m : Int) := by omega
          have hbeI : (f.be : Int) < (m : Int) := by omega
          go_wp2_with fail
          go_quiet (fail)
          have q0 : (wo.alloc (.cells #[.int .i64 f.ah, .int .i64 f.be, .int .i64 f.pl, .bool f.hi] 63)).cell? ⟨wo.heap.size, 0, none⟩ = some (.int .i64 f.ah) := by simp
          have q1 : (wo.alloc (.cells #[.int .i64 f.ah, .int .i64 f.be, .int .i64 f.pl, .bool f.hi] 63)).cell? ⟨wo.heap.size, 1, none⟩ = some (.int .i64 f.be) := by simp
          have q2 : (wo.alloc (.cells #[.int .i64 f.ah, .int .i64 f.be, .int .i64 f.pl, .bool f.hi] 63)).cell? ⟨wo.heap.size, 2, none⟩ = some (.int .i64 f.pl) := by simp
          have q3 : (wo.alloc (.cells #[.int .i64 f.ah, .int .i64 f.be, .int .i64 f.pl, .bool f.hi] 63)).cell? ⟨wo.heap.size, 3, none⟩ = some (.bool f.hi) := by simp
          have Bz2 := below_drewN Bz nq
          have q0 := cell_below (below_drewN (Below.refl _ _) nq) q0
          have q1 := cell_below (below_drewN (Below.refl _ _) nq) q1
          have q2 := cell_below (below_drewN (Below.refl _ _) nq) q2
          have q3 := cell_below (below_drewN (Below.refl _ _) nq) q3
          generalize (wo.alloc (.cells #[.int .i64 f.ah, .int .i64 f.be, .int .i64 f.pl, .bool f.hi] 63)).drewN nq = wz at Bz2 q0 q1 q2 q3 ⊢
          clear l1 l2 Bz bz e0 e1 e2 e3
          by_cases hdir : decide (at0 (levelsL ys) f.ah < at0 (levelsL ys) f.be) = f.hi
          · have hdb : (!(decide (at0 (levelsL ys) f.ah < at0 (levelsL ys) f.be) == f.hi)) = false := by rw [hdir]; simp
            have HDIR := Lib.hid hdir
            clear hdir
            go_wp2_with fail
            go_loopg [54] m (fun q s54 wr => ∃ j : Nat, j ≤ m ∧ q = m - j ∧ s54 = .int .i64 j ∧ inTo xs (levelsL ys) f j ∧ Below wz.heap.size wz wr)
            case atStart => exact ⟨0, Nat.zero_le _, rfl, rfl, inTo_zero _ _ _, Below.refl _ _⟩
            case round =>
              obtain ⟨j, hj, hq2, rfl, hin, hB2⟩ := hrel
              have HIN := Lib.hid hin
              have HQ2 := Lib.hid hq2
              clear hin hq2
              have B12 := Below.call Bz2 Bz2.size hB2
              have p0 := cell_below hB2 q0
              have p1 := cell_below hB2 q1
              have p2 := cell_below hB2 q2
              have p3 := cell_below hB2 q3
              by_cases hltj : j < m
              · obtain ⟨bL', oL', e', hlc⟩ := (o1.ints.below B12).cells (by omega)
                cases e'
                have lj : wr.cell? ⟨bL, oL + j, none⟩ = some (.int .i64 (at0 (levelsL ys) j)) := hlc j hltj
                clear hlc
                have hltjI : (j : Int) < (m : Int) := by omega
                cases hb1 : betw (at0 (levelsL ys) j) (at0 (levelsL ys) f.ah) (at0 (levelsL ys) f.be) with
                | false =>
                  have P3 := impl_isBetween (at0 (levelsL ys) j) (at0 (levelsL ys) f.ah) (at0 (levelsL ys) f.be) wr
                  rw [hb1] at P3
                  have HS := Lib.hid (inTo_succ HIN.out (by rw [hb1]; rfl))
                  have P3 := Lib.hid P3
                  clear hb1
                  go_wp2_with fail
                  refine P3.out.mono ?_
                  rintro e w' ⟨rfl, rfl⟩
                  go_wp2_with fail
                  go_roundg (m - (j + 1))
                  case measure => have := HQ2.out; omega
                  case rel => exact ⟨j + 1, by omega, rfl, by go_num, HS.out, hB2⟩
                | true =>
                  have P3 := impl_isBetween (at0 (levelsL ys) j) (at0 (levelsL ys) f.ah) (at0 (levelsL ys) f.be) wr
                  rw [hb1] at P3
                  have P3 := Lib.hid P3
                  have HB1 := Lib.hid hb1
                  clear hb1
                  have P4 := impl_inside g m xs F f.pl j wr (HFA.out.below (Below.call b1 b1.size B12)) HXL.out hn hltj
                  cases hb2 : betw f.pl (alt (xs.take j)) (alt (xs.take (j + 1))) with
                  | false =>
                    rw [hb2] at P4
                    have P4 := Lib.hid P4
                    have HS := Lib.hid (inTo_succ HIN.out (by rw [hb2, Bool.and_false]))
                    clear hb2
                    go_wp2_with fail
                    refine P3.out.mono ?_
                    rintro e w' ⟨rfl, rfl⟩
                    go_wp2_with fail
                    refine P4.out.mono ?_
                    rintro e w5 ⟨rfl, b5⟩
                    go_wp2_with fail
                    go_roundg (m - (j + 1))
                    case measure => have := HQ2.out; omega
                    case rel => exact ⟨j + 1, by omega, rfl, by go_num, HS.out, Below.call hB2 hB2.size b5⟩
                  | true =>
                    rw [hb2] at P4
                    have P4 := Lib.hid P4
                    have HE := Lib.hid (HRB.out.trans (rightL_bad hlt (by rw [HFK.out]; exact okF_in (by rw [HXL.out]; exact hltj) HB1.out hb2)))
                    clear hb2
                    go_wp2_with fail
                    refine P3.out.mono ?_
                    rintro e w' ⟨rfl, rfl⟩
                    go_wp2_with fail
                    refine P4.out.mono ?_
                    rintro e w5 ⟨rfl, b5⟩
                    go_wp2_with fail
                    go_ret
                    have B3' := Below.call b1 b1.size B12
                    exact ⟨ret_bool HE.out.symm, Below.call B3' B3'.size b5⟩
              · obtain ⟨wi, rfl⟩ : ∃ wi : World, wi = wr := ⟨_, rfl⟩
                have hltjI : ¬ (j : Int) < (m : Int) := by omega
                have HOK := Lib.hid (okF_all HIN.out (by rw [HXL.out]; omega) HDIR.out)
                have Bw := Below.call b1 b1.size B12
                have HFW := Lib.hid (HFA.out.below Bw)
                have HSYM := Lib.hid (fun (mm : Nat) (h1 : mm < F.length) (h2 : k ≠ mm) => crossF_symm (ys := ys) HAP.out HP.out HYL.out hlt h1 h2)
                have HCOK := Lib.hid (fun (c : Nat) (hc : F.length ≤ c) (hr : rtIn F (levelsL ys) k c) => rtTo_succ HRT.out (by rw [HFK.out]; exact HOK.out) (fun j h1 h2 => hr j (by omega) h2))
                obtain ⟨B', d', hB', hFo'⟩ := HFW.out.folds
                have hdc' := hFo'.le
                have hdm' := hFo'.max
                unfold maxLen at hdm'
                have hk1I : (k : Int) + 1 ≤ (F.length : Int) := by omega
                have hk1n : k + 1 ≤ F.length := by omega
                have HFO := Lib.hid hFo'
                clear hFo'
                by_cases hk1 : k + 1 < F.length
                · obtain ⟨bG, oG, rfl, _⟩ := FoldsI.cells HFO.out (by omega)
                  have hdk : ¬ d' = k + 1 := by omega
                  go_wp2_with fail
                  go_loopg [79] F.length (fun q s79 wz2 => ∃ j : Nat, k + 1 + j ≤ F.length ∧ q = F.length - j ∧ s79 = .int .i64 j ∧ rtIn F (levelsL ys) k (k + 1 + j) ∧ Below wi.heap.size wi wz2)
                  case atStart => exact ⟨0, by omega, rfl, rfl, rtIn_start _ _ _, Below.refl _ _⟩
                  case round =>
                    obtain ⟨j, hj3, hq3, rfl, hri, hB3⟩ := hrel
                    have HRI := Lib.hid hri
                    have HQ3 := Lib.hid hq3
                    clear hri hq3
                    by_cases hltj : k + 1 + j < F.length
                    · obtain ⟨bG', oG', e', hGc⟩ := (show FoldsI wr (some ⟨bG, oG, none⟩) F.length d' F from Cells.below HFO.out hB3).cells (by omega)
                      cases e'
                      obtain ⟨e0, e1, e2, e3⟩ := hGc (k + 1 + j) hltj
                      rw [show oG + (k + 1 + j) * 4 = oG + (k + 1) * 4 + j * 4 by omega] at e0 e1 e2 e3
                      have hpar := HF.out (k + 1 + j) hltj
                      have hpk := HPAR.out
                      have HSYMJ := HSYM.out (k + 1 + j) hltj (by omega)
                      have HXJ := Lib.hid (fun (q : crossF (levelsL ys) (fdAt F k) (fdAt F (k + 1 + j)) = true) => rightL_cross (xs := xs) (F := F) (L := levelsL ys) (k := k) (m := k + 1 + j) (by omega) hltj q)
                      have HSTEP := Lib.hid (fun (q : crossF (levelsL ys) (fdAt F k) (fdAt F (k + 1 + j)) = false) => rtIn_step HRI.out q)
                      rw [HFK.out] at HSYMJ
                      have HFK2 := HFK.out
                      rw [HFK2] at HXJ HSTEP
                      clear hGc
                      generalize fdAt F (k + 1 + j) = h at e0 e1 e2 e3 hpar HSYMJ HXJ HSTEP
                      clear HFK2
                      obtain ⟨h3a, h4a, hpm⟩ := hpar
                      have hpp : f.be % 2 = h.be % 2 ↔ f.ah % 2 = h.ah % 2 := by omega
                      have hpp' : h.be % 2 = f.be % 2 ↔ h.ah % 2 = f.ah % 2 := by omega
                      have bz3 : Below wr.heap.size wr (wr.alloc (.cells #[.int .i64 h.ah, .int .i64 h.be, .int .i64 h.pl, .bool h.hi] 63)) := (Below.refl _ _).alloc (Nat.le_refl _) _
                      have B3z := Below.call hB3 hB3.size bz3
                      have r0 := cell_below B3z p0
                      have r1 := cell_below B3z p1
                      have r2 := cell_below B3z p2
                      have r3 := cell_below B3z p3
                      have BLz := Below.call B12 B12.size B3z
                      have iL := o1.ints.below BLz
                      have hltjI : (j : Int) < ((F.length - (k + 1) : Nat) : Int) := by omega
                      have hltjn : j < F.length - (k + 1) := by omega
                      have hm6 : m ≤ 1048576 := by omega
                      cases hcr : crossF (levelsL ys) f h with
                      | true =>
                        have HE := Lib.hid (HRB.out.trans (HXJ.out hcr))
                        have P5 := impl_crossed f h (some ⟨bL, oL, none⟩) m c1 (levelsL ys) _ iL hm6 hah hbe h3a h4a hpp
                        rw [hcr] at P5
                        have P5 := Lib.hid P5
                        clear hcr HSYMJ HSTEP HXJ
                        go_wp2_with fail
                        refine P5.out.mono ?_
                        rintro e w5 ⟨rfl, b5⟩
                        go_wp2_with fail
                        go_ret
                        have B6 := Below.call b1 b1.size BLz
                        exact ⟨ret_bool HE.out.symm, Below.call B6 B6.size b5⟩
                      | false =>
                        have HS2 := Lib.hid (HSTEP.out hcr)
                        have P5 := impl_crossed f h (some ⟨bL, oL, none⟩) m c1 (levelsL ys) _ iL hm6 hah hbe h3a h4a hpp
                        rw [hcr] at P5
                        have HSY := Lib.hid (HSYMJ.symm.trans hcr)
                        have P5 := Lib.hid P5
                        have t0 : (wr.alloc (.cells #[.int .i64 h.ah, .int .i64 h.be, .int .i64 h.pl, .bool h.hi] 63)).cell? ⟨wr.heap.size, 0, none⟩ = some (.int .i64 h.ah) := by simp
                        have t1 : (wr.alloc (.cells #[.int .i64 h.ah, .int .i64 h.be, .int .i64 h.pl, .bool h.hi] 63)).cell? ⟨wr.heap.size, 1, none⟩ = some (.int .i64 h.be) := by simp
                        have t2 : (wr.alloc (.cells #[.int .i64 h.ah, .int .i64 h.be, .int .i64 h.pl, .bool h.hi] 63)).cell? ⟨wr.heap.size, 2, none⟩ = some (.int .i64 h.pl) := by simp
                        have t3 : (wr.alloc (.cells #[.int .i64 h.ah, .int .i64 h.be, .int .i64 h.pl, .bool h.hi] 63)).cell? ⟨wr.heap.size, 3, none⟩ = some (.bool h.hi) := by simp
                        have T0 := Lib.hid t0
                        have T1 := Lib.hid t1
                        have T2 := Lib.hid t2
                        have T3 := Lib.hid t3
                        clear hcr HSYMJ HSTEP HXJ t0 t1 t2 t3
                        go_wp2_with fail
                        refine P5.out.mono ?_
                        rintro e w5 ⟨rfl, b5⟩
                        have s0 := cell_below b5 r0
                        have s1 := cell_below b5 r1
                        have s2 := cell_below b5 r2
                        have s3 := cell_below b5 r3
                        have t0 := cell_below b5 T0.out
                        have t1 := cell_below b5 T1.out
                        have t2 := cell_below b5 T2.out
                        have t3 := cell_below b5 T3.out
                        have P6 := impl_crossed h f (some ⟨bL, oL, none⟩) m c1 (levelsL ys) w5 (iL.below b5) hm6 h3a h4a hah hbe hpp'
                        rw [HSY.out] at P6
                        have P6 := Lib.hid P6
                        have B5z := Below.call B3z B3z.size b5
                        go_wp2_with fail
                        refine P6.out.mono ?_
                        rintro e w6 ⟨rfl, b6⟩
                        have B6z := Below.call B5z B5z.size b6
                        go_wp2_with fail
                        go_roundg (F.length - (j + 1))
                        case measure => have := HQ3.out; omega
                        case rel => exact ⟨j + 1, by omega, rfl, by go_num, by rw [show k + 1 + (j + 1) = k + 1 + j + 1 by omega]; exact HS2.out, B6z⟩
                    · have hltjI : ¬ (j : Int) < ((F.length - (k + 1) : Nat) : Int) := by omega
                      have hltjn : ¬ j < F.length - (k + 1) := by omega
                      have HSS := Lib.hid (HCOK.out (k + 1 + j) (by omega) HRI.out)
                      have Bx := Below.call B12 B12.size hB3
                      go_wp2_with fail
                      go_roundg (F.length - (k + 1))
                      case measure => have := HQ.out; omega
                      case rel => exact ⟨k + 1, by omega, rfl, by go_num, HSS.out, Bx⟩
                · by_cases hdk : d' = k + 1
                  · subst hdk
                    go_wp2_with fail
                    go_loopg [79] F.length (fun q s79 wz2 => ∃ j : Nat, k + 1 + j ≤ F.length ∧ q = F.length - j ∧ s79 = .int .i64 j ∧ rtIn F (levelsL ys) k (k + 1 + j) ∧ Below wi.heap.size wi wz2)
                    case atStart => exact ⟨0, by omega, rfl, rfl, rtIn_start _ _ _, Below.refl _ _⟩
                    case round =>
                      obtain ⟨j, hj3, hq3, rfl, hri, hB3⟩ := hrel
                      have HRI := Lib.hid hri
                      have HQ3 := Lib.hid hq3
                      clear hri hq3
                      have hltjI : ¬ (j : Int) < ((F.length - (k + 1) : Nat) : Int) := by omega
                      have hltjn : ¬ j < F.length - (k + 1) := by omega
                      have HSS := Lib.hid (HCOK.out (k + 1 + j) (by omega) HRI.out)
                      have Bx := Below.call B12 B12.size hB3
                      go_wp2_with fail
                      go_roundg (F.length - (k + 1))
                      case measure => have := HQ.out; omega
                      case rel => exact ⟨k + 1, by omega, rfl, by go_num, HSS.out, Bx⟩
                  · skip
                    go_wp2_with fail
                    go_loopg [79] F.length (fun q s79 wz2 => ∃ j : Nat, k + 1 + j ≤ F.length ∧ q = F.length - j ∧ s79 = .int .i64 j ∧ rtIn F (levelsL ys) k (k + 1 + j) ∧ Below wi.heap.size wi wz2)
                    case atStart => exact ⟨0, by omega, rfl, rfl, rtIn_start _ _ _, Below.refl _ _⟩
                    case round =>
                      obtain ⟨j, hj3, hq3, rfl, hri, hB3⟩ := hrel
                      have HRI := Lib.hid hri
                      have HQ3 := Lib.hid hq3
                      clear hri hq3
                      have hltjI : ¬ (j : Int) < ((F.length - (k + 1) : Nat) : Int) := by omega
                      have hltjn : ¬ j < F.length - (k + 1) := by omega
                      have HSS := Lib.hid (HCOK.out (k + 1 + j) (by omega) HRI.out)
                      have Bx := Below.call B12 B12.size hB3
                      go_wp2_with fail
                      go_roundg (F.length - (k + 1))
                      case measure => have := HQ.out; omega
                      case rel => exact ⟨k + 1, by omega, rfl, by go_num, HSS.out, Bx⟩
          · have hdb : (!(decide (at0 (levelsL ys) f.ah < at0 (levelsL ys) f.be) == f.hi)) = true := by rw [beq_eq_false_iff_ne.2 hdir]; rfl
            have HE := Lib.hid (HRB.out.trans (rightL_bad hlt (by rw [HFK.out]; exact okF_dir hdir)))
            clear hdir
            go_wp2_with fail
            go_ret
            exact ⟨ret_bool HE.out.symm, Below.call b1 b1.size Bz2⟩
        · have HE := Lib.hid (HRB.out.trans (rtTo_all HRT.out (by omega)))
          have hltI : ¬ (k : Int) < (F.length : Int) := by omega
          go_wp2_with fail
          go_ret
          exact ⟨ret_bool HE.out.symm, Below.call b1 b1.size hBr⟩
  · have HE := Lib.hid (rightB_len (xs := xs) (F := F) (ys := ys) (by rw [hi.length, hl]; exact hmn))
    have P1 := Lib.hid (impl_levelsOf_other a m cap (n : Int) w (by omega))
    clear hmn
    go_enter Try.func19, Try.ntmps19
    go_wp2_with (go_at_call 37; refine P1.out.mono ?_; rintro e w1 ⟨a1, n1, c1, rfl, o1, b1⟩)
    go_ret
    exact ⟨ret_bool HE.out.symm, b1⟩

end Go.Proofs.Ytahbflbhkalehaa
