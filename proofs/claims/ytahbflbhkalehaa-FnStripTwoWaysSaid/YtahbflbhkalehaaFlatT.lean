/-
  What the reference's l2Right computes, by a walk.
-/
import Derived.Test.YtahbflbhkalehaaFlat
import Derived.Test.YtahbflbhkalehaaFlatA
import Derived.Test.YtahbflbhkalehaaFlatC
import Derived.Test.YtahbflbhkalehaaFlatS
namespace Go.Proofs.Ytahbflbhkalehaa
open Go.RowKit

theorem FoldsS.cells {w : World} {a : Option Addr} {n cap : Nat} {F : List Fd} {bs : Nat → UInt8} (h : Cells w 4 a n cap (rows (rowS F bs) n)) (hn : 0 < n) :
    ∃ b off, a = some ⟨b, off, none⟩ ∧ ∀ k, k < n → w.cell? ⟨b, off + k * 4, none⟩ = some (.int .i64 (fdAt F k).ah) ∧ w.cell? ⟨b, off + k * 4 + 1, none⟩ = some (.int .i64 (fdAt F k).be) ∧ w.cell? ⟨b, off + k * 4 + 2, none⟩ = some (.int .i64 (fdAt F k).pl) ∧ w.cell? ⟨b, off + k * 4 + 3, none⟩ = some (.int .u8 ((bs k).toNat : Int)) := by
  obtain ⟨b, off, e, hc⟩ := Cells.row h (fun k => fS_length _ _) hn
  exact ⟨b, off, e, fun k hk => ⟨hc k 0 _ hk (by omega) rfl, hc k 1 _ hk (by omega) rfl, hc k 2 _ hk (by omega) rfl, hc k 3 _ hk (by omega) rfl⟩⟩

theorem hiB_eq (c : UInt8) (ah : Nat) : hiB c ah = (((c.toNat : Int) == 86) == ((ah : Int) % 2 == 0)) := by
  unfold hiB
  congr 1
  · rw [Bool.eq_iff_iff, beq_iff_eq, beq_iff_eq]
    exact ⟨fun e => by rw [e]; rfl, fun e => UInt8.toNat_inj.1 (by have : c.toNat = 86 := by omega
                                                                   rw [this]; rfl)⟩
  · rw [Bool.eq_iff_iff, beq_iff_eq, decide_eq_true_eq]; omega

theorem rightL_step_sp {xs : List Int} {F : List Fd} {L : List Int} {k j : Nat} (hk : k < F.length) (hj : j < xs.length) (h1 : betw (at0 L j) (at0 L (fdAt F k).ah) (at0 L (fdAt F k).be) = true) (h2 : betw (fdAt F k).pl (alt (xs.take j)) (alt (xs.take (j + 1))) = true) : rightL xs F L = false :=
  rightL_bad hk (okF_in hj h1 h2)

set_option maxRecDepth 100000 in
set_option maxHeartbeats 8000000 in
theorem spec_l2Right (r : Bool) (s : ByteArray) (F : List Fd) (bs : Nat → UInt8) (a b : Option Addr) (n cap m cb : Nat) (xs ys : List Int) (w : World) (h : Ints w a n cap xs) (hn1 : 1 ≤ n) (hn : n ≤ 6) (hin : allIn 1 1000 xs) (hF : parF n F) (hap : apartF n F) (hFl : F.length ≤ 6)
    (hhi : ∀ k, k < F.length → (fdAt F k).hi = hiB (bs k) (fdAt F k).ah) (hAF : ∀ w', Ints w' a n cap xs → Calls Try.prog 48 #[.slice a n cap, .string s, .bool r] w' (RFolds w' F.length F bs))
    (hi : Ints w b m cb ys) (hm : m ≤ 1048576) :
    Calls Try.prog 31 #[.slice a n cap, .string s, .bool r, .slice b m cb] w (RVal w (.bool (rightB xs F ys))) := by
  have hle := h.le_cap
  have hmx := h.cap_max
  have hl := h.length
  have P1 := spec_l2Levels b m n cb ys w hi hm (by omega)
  by_cases hmn : m = n
  · subst hmn
    cases hp : permB ys with
    | false =>
      have HE := Lib.hid (rightB_np (xs := xs) (F := F) hp)
      have e0 : levS m ys = [] := levS_not (by have := hp; unfold permB at this; rw [hi.length] at this; exact this)
      rw [e0] at P1
      have P1 := Lib.hid P1
      clear hp e0 hAF
      go_enter Try.func31, Try.ntmps31
      go_wp2_with (go_at_call 46; refine P1.out.mono ?_; rintro e w1 ⟨a1, n1, c1, rfl, o1, b1⟩; obtain rfl : 0 = n1 := o1.length)
      go_ret
      exact ⟨ret_bool HE.out.symm, b1⟩
    | true =>
      have e0 := levS_perm hp
      rw [hi.length] at e0
      rw [e0] at P1
      have P1 := Lib.hid P1
      have HP := Lib.hid hp
      have HYL := Lib.hid hi.length
      have HRB := Lib.hid (rightB_yes (F := F) (hi.length.trans hl.symm) hp)
      have HLL := Lib.hid ((levelsL_length ys).trans hi.length)
      have HPL := Lib.hid (placesL_length xs)
      have HXL := Lib.hid hl
      have HF := Lib.hid hF
      have HAP := Lib.hid hap
      have HHI := Lib.hid hhi
      have HAF := Lib.hid hAF
      have HIX := Lib.hid h
      have HIN0 := Lib.hid hin
      have hm0 : ¬ m = 0 := by omega
      have hm0I : ¬ (m : Int) = 0 := by omega
      clear hp hF hap hl hhi hAF e0 h hin hi
      go_enter Try.func31, Try.ntmps31
      go_wp2_with (go_at_call 46; refine P1.out.mono ?_; rintro e w1 ⟨a1, n1, c1, rfl, o1, b1⟩; obtain rfl : m = n1 := HLL.out.symm.trans o1.length)
      refine (spec_l2Places a m cap xs w1 (HIX.out.below b1) hn HIN0.out).mono ?_
      rintro e w2 ⟨a2, n2, c2, rfl, o2, b2⟩
      obtain rfl : n2 = m + 1 := by rw [← o2.length, HPL.out, HXL.out]
      go_wp2_with fail
      refine (HAF.out w2 ((HIX.out.below b1).below b2)).mono ?_
      rintro e w3 ⟨a3, c3, rfl, o3, b3⟩
      have hdc := (Own.toCells o3).le
      have hdm := (Own.toCells o3).max
      unfold maxLen at hdm
      have B3 := Below.call b2 b2.size b3
      have B3w := Below.call b1 b1.size B3
      have o1' := o1.below B3
      have o2' := o2.below b3
      have HO1 := Lib.hid o1'
      have HO2 := Lib.hid o2'
      have HO3 := Lib.hid (Own.toCells o3)
      clear o1 o2 o3 o1' o2'
      go_wp2_with fail
      go_loopg [12] F.length (fun q s12 wr => ∃ k : Nat, k ≤ F.length ∧ q = F.length - k ∧ s12 = .int .i64 k ∧ rsTo xs F (levelsL ys) k ∧ Below w3.heap.size w3 wr)
      case atStart => exact ⟨0, Nat.zero_le _, rfl, rfl, rsTo_zero _ _ _, Below.refl _ _⟩
      case round =>
        obtain ⟨k, hk, hq, rfl, hrt, hBr⟩ := hrel
        have HRT := Lib.hid hrt
        have HQ := Lib.hid hq
        clear hrt hq
        obtain ⟨wo, rfl⟩ : ∃ wo : World, wo = wr := ⟨_, rfl⟩
        by_cases hlt : k < F.length
        · obtain ⟨bF, oF, rfl, hFc⟩ := FoldsS.cells (Cells.below HO3.out hBr) (by omega)
          obtain ⟨e0, e1, e2, e3⟩ := hFc k hlt
          have hltI : (k : Int) < (F.length : Int) := by omega
          have hpar := HF.out k hlt
          have HPAR := Lib.hid hpar.2.2
          obtain ⟨hah, hbe, _⟩ := hpar
          have HHK := HHI.out k hlt
          clear hFc
          generalize hc : bs k = c at e3 HHK
          clear hc
          rw [hiB_eq] at HHK
          generalize hf : fdAt F k = f at e0 e1 e2 hah hbe HPAR HHK
          have HFK := Lib.hid hf
          clear hf
          have bz : Below wo.heap.size wo (wo.alloc (.cells #[.int .i64 f.ah, .int .i64 f.be, .int .i64 f.pl, .int .u8 (c.toNat : Int)] 76)) := (Below.refl _ _).alloc (Nat.le_refl _) _
          have Bz := Below.call hBr hBr.size bz
          obtain ⟨bL, oL, e', hlc⟩ := (HO1.out.ints.below Bz).cells (by omega)
          subst e'
          have l1 : (wo.alloc (.cells #[.int .i64 f.ah, .int .i64 f.be, .int .i64 f.pl, .int .u8 (c.toNat : Int)] 76)).cell? ⟨bL, oL + f.ah, none⟩ = some (.int .i64 (at0 (levelsL ys) f.ah)) := hlc f.ah hah
          have l2 : (wo.alloc (.cells #[.int .i64 f.ah, .int .i64 f.be, .int .i64 f.pl, .int .u8 (c.toNat : Int)] 76)).cell? ⟨bL, oL + f.be, none⟩ = some (.int .i64 (at0 (levelsL ys) f.be)) := hlc f.be hbe
          clear hlc
          have HNE : Hid (at0 (levelsL ys) f.ah ≠ at0 (levelsL ys) f.be) := fun e => by
            rw [at0_levels (by rw [HYL.out]; exact hah), at0_levels (by rw [HYL.out]; exact hbe)] at e
            have e5 := lvl_inj HP.out (by rw [HYL.out]; exact hah) (by rw [HYL.out]; exact hbe) e
            have := HPAR.out
            omega
          have hahI : (f.ah : Int) < (m : Int) := by omega
          have hbeI : (f.be : Int) < (m : Int) := by omega
          have hwr : IntKind.i64.wrap ((f.ah : Int) % 2) = (f.ah : Int) % 2 := IntWalk.i64_in _ (by omega)
          obtain ⟨bv, hbv⟩ : ∃ bv, ((c.toNat : Int) == 86) = bv := ⟨_, rfl⟩
          obtain ⟨bp, hbp⟩ : ∃ bp, ((f.ah : Int) % 2 == 0) = bp := ⟨_, rfl⟩
          obtain ⟨bl, hbl⟩ : ∃ bl, decide (at0 (levelsL ys) f.ah < at0 (levelsL ys) f.be) = bl := ⟨_, rfl⟩
          rw [hbv, hbp] at HHK
          have HHK := Lib.hid HHK
          have HBL := Lib.hid hbl
          go_wp2_with fail
          go_quiet (fail)
          have q0 : (wo.alloc (.cells #[.int .i64 f.ah, .int .i64 f.be, .int .i64 f.pl, .int .u8 (c.toNat : Int)] 76)).cell? ⟨wo.heap.size, 0, none⟩ = some (.int .i64 f.ah) := by simp
          have q1 : (wo.alloc (.cells #[.int .i64 f.ah, .int .i64 f.be, .int .i64 f.pl, .int .u8 (c.toNat : Int)] 76)).cell? ⟨wo.heap.size, 1, none⟩ = some (.int .i64 f.be) := by simp
          have q2 : (wo.alloc (.cells #[.int .i64 f.ah, .int .i64 f.be, .int .i64 f.pl, .int .u8 (c.toNat : Int)] 76)).cell? ⟨wo.heap.size, 2, none⟩ = some (.int .i64 f.pl) := by simp
          have q3 : (wo.alloc (.cells #[.int .i64 f.ah, .int .i64 f.be, .int .i64 f.pl, .int .u8 (c.toNat : Int)] 76)).cell? ⟨wo.heap.size, 3, none⟩ = some (.int .u8 (c.toNat : Int)) := by simp
          have Bz2 := below_drewN Bz nq
          have q0 := cell_below (below_drewN (Below.refl _ _) nq) q0
          have q1 := cell_below (below_drewN (Below.refl _ _) nq) q1
          have q2 := cell_below (below_drewN (Below.refl _ _) nq) q2
          have q3 := cell_below (below_drewN (Below.refl _ _) nq) q3
          generalize (wo.alloc (.cells #[.int .i64 f.ah, .int .i64 f.be, .int .i64 f.pl, .int .u8 (c.toNat : Int)] 76)).drewN nq = wz at Bz2 q0 q1 q2 q3 ⊢
          clear l1 l2 Bz bz e0 e1 e2 e3 hbl hbv hbp
          by_cases hdir : bl = f.hi
          · have hdb : (bl != (bv == bp)) = false := by rw [hdir, HHK.out]; simp
            have hdb2 : (!(bl == (bv == bp))) = false := by rw [hdir, HHK.out]; simp
            have HDIR := Lib.hid (HBL.out.trans hdir)
            clear hdir
            first | rw [hdb] | rw [hdb2] | (set_option pp.maxSteps 100000 in set_option pp.deepTerms true in trace_state)
            go_wp2_with fail
            clear hdb hdb2
            go_loopg [14] m (fun q s14 wr => ∃ j : Nat, j ≤ m ∧ q = m - j ∧ s14 = .int .i64 j ∧ inTo xs (levelsL ys) f j ∧ Below wz.heap.size wz wr)
            case atStart => exact ⟨0, Nat.zero_le _, rfl, rfl, inTo_zero _ _ _, Below.refl _ _⟩
            case round =>
              obtain ⟨j, hj, hq2, rfl, hin, hB2⟩ := hrel
              have HIN := Lib.hid hin
              have HQ2 := Lib.hid hq2
              clear hin hq2
              have B12 := Below.call Bz2 Bz2.size hB2
              have p0 := cell_below hB2 q0
              have p1 := cell_below hB2 q1
              have p2 := cell_below hB2 q2
              have p3 := cell_below hB2 q3
              by_cases hltj : j < m
              · obtain ⟨bL', oL', e', hlc⟩ := (HO1.out.ints.below B12).cells (by omega)
                cases e'
                have lj : wr.cell? ⟨bL, oL + j, none⟩ = some (.int .i64 (at0 (levelsL ys) j)) := hlc j hltj
                have l1 : wr.cell? ⟨bL, oL + f.ah, none⟩ = some (.int .i64 (at0 (levelsL ys) f.ah)) := hlc f.ah hah
                have l2 : wr.cell? ⟨bL, oL + f.be, none⟩ = some (.int .i64 (at0 (levelsL ys) f.be)) := hlc f.be hbe
                clear hlc
                have hltjI : (j : Int) < (m : Int) := by omega
                by_cases ho : at0 (levelsL ys) f.ah < at0 (levelsL ys) f.be
                · have ho2 : ¬ at0 (levelsL ys) f.be < at0 (levelsL ys) f.ah := by omega
                  by_cases qq : at0 (levelsL ys) f.ah < at0 (levelsL ys) j
                  · have dd : decide (at0 (levelsL ys) f.ah < at0 (levelsL ys) j) = true := decide_eq_true qq
                    by_cases rr : at0 (levelsL ys) j < at0 (levelsL ys) f.be
                    · have ee : decide (at0 (levelsL ys) j < at0 (levelsL ys) f.be) = true := decide_eq_true rr
                      have HB1 : Hid (betw (at0 (levelsL ys) j) (at0 (levelsL ys) f.ah) (at0 (levelsL ys) f.be) = true) := by unfold Hid; rw [betw_lt _ ho, dd, ee]; rfl
                      go_wp2_with fail
                      go_quiet (fail)
                      have Bd := below_drewN hB2 nq
                      have p2d := cell_below (below_drewN (Below.refl wr.heap.size wr) nq) p2
                      generalize wr.drewN nq = wd at Bd p2d ⊢
                      have Bd3 := Below.call Bz2 Bz2.size Bd
                      have P4 := spec_l2Covers a2 m c2 j (placesL xs) f.pl wd (HO2.out.ints.below Bd3) hn hltj
                      rw [show at0 (placesL xs) j = alt (xs.take j) from placesL_get xs j (by rw [HXL.out]; omega), show at0 (placesL xs) (j + 1) = alt (xs.take (j + 1)) from placesL_get xs (j + 1) (by rw [HXL.out]; omega)] at P4
                      cases hb2 : betw f.pl (alt (xs.take j)) (alt (xs.take (j + 1))) with
                      | false =>
                        rw [hb2] at P4
                        have P4 := Lib.hid P4
                        have HS := Lib.hid (inTo_succ HIN.out (by rw [hb2, Bool.and_false]))
                        clear hb2
                        go_wp2_with fail
                        refine P4.out.mono ?_
                        rintro e w5 ⟨rfl, b5⟩
                        go_wp2_with fail
                        go_roundg (m - (j + 1))
                        case measure => have := HQ2.out; omega
                        case rel => exact ⟨j + 1, by omega, rfl, by go_num, HS.out, Below.call Bd Bd.size b5⟩
                      | true =>
                        rw [hb2] at P4
                        have P4 := Lib.hid P4
                        have HE := Lib.hid (HRB.out.trans (rightL_bad hlt (by rw [HFK.out]; exact okF_in (by rw [HXL.out]; exact hltj) HB1.out hb2)))
                        clear hb2
                        go_wp2_with fail
                        refine P4.out.mono ?_
                        rintro e w5 ⟨rfl, b5⟩
                        go_wp2_with fail
                        go_ret
                        have B5 := Below.call B3w B3w.size Bd3
                        exact ⟨ret_bool HE.out.symm, Below.call B5 B5.size b5⟩
                    · have ee : decide (at0 (levelsL ys) j < at0 (levelsL ys) f.be) = false := decide_eq_false rr
                      have HS := Lib.hid (inTo_succ HIN.out (by rw [betw_lt _ ho, dd, ee]; rfl))
                      go_wp2_with fail
                      go_quiet (fail)
                      go_wp2_with fail
                      go_roundg (m - (j + 1))
                      case measure => have := HQ2.out; omega
                      case rel => exact ⟨j + 1, by omega, rfl, by go_num, HS.out, below_drewN hB2 _⟩
                  · have dd : decide (at0 (levelsL ys) f.ah < at0 (levelsL ys) j) = false := decide_eq_false qq
                    have HS := Lib.hid (inTo_succ HIN.out (by rw [betw_lt _ ho, dd]; rfl))
                    go_wp2_with fail
                    go_quiet (fail)
                    go_wp2_with fail
                    go_roundg (m - (j + 1))
                    case measure => have := HQ2.out; omega
                    case rel => exact ⟨j + 1, by omega, rfl, by go_num, HS.out, below_drewN hB2 _⟩
                · have ho2 : at0 (levelsL ys) f.be < at0 (levelsL ys) f.ah := by have := HNE.out; omega
                  by_cases qq : at0 (levelsL ys) f.be < at0 (levelsL ys) j
                  · have dd : decide (at0 (levelsL ys) f.be < at0 (levelsL ys) j) = true := decide_eq_true qq
                    by_cases rr : at0 (levelsL ys) j < at0 (levelsL ys) f.ah
                    · have ee : decide (at0 (levelsL ys) j < at0 (levelsL ys) f.ah) = true := decide_eq_true rr
                      have HB1 : Hid (betw (at0 (levelsL ys) j) (at0 (levelsL ys) f.ah) (at0 (levelsL ys) f.be) = true) := by unfold Hid; rw [betw_gt _ ho2, dd, ee]; rfl
                      go_wp2_with fail
                      go_quiet (fail)
                      have Bd := below_drewN hB2 nq
                      have p2d := cell_below (below_drewN (Below.refl wr.heap.size wr) nq) p2
                      generalize wr.drewN nq = wd at Bd p2d ⊢
                      have Bd3 := Below.call Bz2 Bz2.size Bd
                      have P4 := spec_l2Covers a2 m c2 j (placesL xs) f.pl wd (HO2.out.ints.below Bd3) hn hltj
                      rw [show at0 (placesL xs) j = alt (xs.take j) from placesL_get xs j (by rw [HXL.out]; omega), show at0 (placesL xs) (j + 1) = alt (xs.take (j + 1)) from placesL_get xs (j + 1) (by rw [HXL.out]; omega)] at P4
                      cases hb2 : betw f.pl (alt (xs.take j)) (alt (xs.take (j + 1))) with
                      | false =>
                        rw [hb2] at P4
                        have P4 := Lib.hid P4
                        have HS := Lib.hid (inTo_succ HIN.out (by rw [hb2, Bool.and_false]))
                        clear hb2
                        go_wp2_with fail
                        refine P4.out.mono ?_
                        rintro e w5 ⟨rfl, b5⟩
                        go_wp2_with fail
                        go_roundg (m - (j + 1))
                        case measure => have := HQ2.out; omega
                        case rel => exact ⟨j + 1, by omega, rfl, by go_num, HS.out, Below.call Bd Bd.size b5⟩
                      | true =>
                        rw [hb2] at P4
                        have P4 := Lib.hid P4
                        have HE := Lib.hid (HRB.out.trans (rightL_bad hlt (by rw [HFK.out]; exact okF_in (by rw [HXL.out]; exact hltj) HB1.out hb2)))
                        clear hb2
                        go_wp2_with fail
                        refine P4.out.mono ?_
                        rintro e w5 ⟨rfl, b5⟩
                        go_wp2_with fail
                        go_ret
                        have B5 := Below.call B3w B3w.size Bd3
                        exact ⟨ret_bool HE.out.symm, Below.call B5 B5.size b5⟩
                    · have ee : decide (at0 (levelsL ys) j < at0 (levelsL ys) f.ah) = false := decide_eq_false rr
                      have HS := Lib.hid (inTo_succ HIN.out (by rw [betw_gt _ ho2, dd, ee]; rfl))
                      go_wp2_with fail
                      go_quiet (fail)
                      go_wp2_with fail
                      go_roundg (m - (j + 1))
                      case measure => have := HQ2.out; omega
                      case rel => exact ⟨j + 1, by omega, rfl, by go_num, HS.out, below_drewN hB2 _⟩
                  · have dd : decide (at0 (levelsL ys) f.be < at0 (levelsL ys) j) = false := decide_eq_false qq
                    have HS := Lib.hid (inTo_succ HIN.out (by rw [betw_gt _ ho2, dd]; rfl))
                    go_wp2_with fail
                    go_quiet (fail)
                    go_wp2_with fail
                    go_roundg (m - (j + 1))
                    case measure => have := HQ2.out; omega
                    case rel => exact ⟨j + 1, by omega, rfl, by go_num, HS.out, below_drewN hB2 _⟩
              · obtain ⟨wi, rfl⟩ : ∃ wi : World, wi = wr := ⟨_, rfl⟩
                have hltjI : ¬ (j : Int) < (m : Int) := by omega
                have HOK := Lib.hid (okF_all HIN.out (by rw [HXL.out]; omega) HDIR.out)
                go_wp2_with fail
                go_loopg [16] k (fun q s16 wr => ∃ i : Nat, i ≤ k ∧ q = k - i ∧ s16 = .int .i64 i ∧ rsIn F (levelsL ys) k i ∧ Below wi.heap.size wi wr)
                case atStart => exact ⟨0, Nat.zero_le _, rfl, rfl, rsIn_zero _ _ _, Below.refl _ _⟩
                case round =>
                  obtain ⟨i, hi3, hq3, rfl, hri, hB3⟩ := hrel
                  have HRI := Lib.hid hri
                  have HQ3 := Lib.hid hq3
                  clear hri hq3
                  have B13 := Below.call B12 B12.size hB3
                  by_cases hlti : i < k
                  · have hltiI : (i : Int) < (k : Int) := by omega
                    have hltiF : (i : Int) < (F.length : Int) := by omega
                    have hltiN : i < F.length := by omega
                    obtain ⟨bF', oF', e', hGc⟩ := FoldsS.cells (Cells.below HO3.out B13) (by omega)
                    cases e'
                    obtain ⟨e0, e1, e2, e3⟩ := hGc i (by omega)
                    clear hGc
                    generalize bs i = d at e3
                    obtain ⟨hga, hgb, _⟩ := HF.out i (by omega)
                    have HAPI := Lib.hid (HAP.out k i hlt (by omega) (by omega))
                    have HX := Lib.hid (fun (q : crossF (levelsL ys) (fdAt F k) (fdAt F i) = true) => rightL_cross' (xs := xs) HAP.out HP.out HYL.out hlti hlt q)
                    have HSTEP := Lib.hid (fun (q : crossF (levelsL ys) (fdAt F k) (fdAt F i) = false) => rsIn_step HRI.out q)
                    rw [HFK.out] at HAPI HX HSTEP
                    generalize fdAt F i = g at e0 e1 e2 hga hgb HAPI HX HSTEP
                    have r0 := cell_below hB3 p0
                    have r1 := cell_below hB3 p1
                    have r2 := cell_below hB3 p2
                    have r3 := cell_below hB3 p3
                    have hw1 : IntKind.i64.wrap ((g.ah : Int) % 2) = (g.ah : Int) % 2 := IntWalk.i64_in _ (by omega)
                    have hw2 : IntKind.i64.wrap ((f.ah : Int) % 2) = (f.ah : Int) % 2 := IntWalk.i64_in _ (by omega)
                    by_cases hpl : g.pl = f.pl
                    · have hplb : (g.pl == f.pl) = true := by rw [beq_iff_eq]; exact hpl
                      by_cases hpr : g.ah % 2 = f.ah % 2
                      · have hprb : ((g.ah : Int) % 2 == (f.ah : Int) % 2) = true := by rw [beq_iff_eq]; omega
                        have HCF := Lib.hid (crossF_yes (L := levelsL ys) hpl.symm hpr.symm)
                        have iL := HO1.out.ints.below B13.drew
                        have hmt1 : (g.ah : Int).tmod 2 = (g.ah : Int) % 2 := Int.tmod_eq_emod_of_nonneg (by omega)
                        have hmt2 : (f.ah : Int).tmod 2 = (f.ah : Int) % 2 := Int.tmod_eq_emod_of_nonneg (by omega)
                        have hwt1 : IntKind.i64.wrap ((g.ah : Int).tmod 2) = (g.ah : Int).tmod 2 := by rw [hmt1]; exact hw1
                        have hwt2 : IntKind.i64.wrap ((f.ah : Int).tmod 2) = (f.ah : Int).tmod 2 := by rw [hmt2]; exact hw2
                        have hprt : ((g.ah : Int).tmod 2 == (f.ah : Int).tmod 2) = true := by rw [hmt1, hmt2]; exact hprb
                        clear hmt1 hmt2
                        have P5 := spec_l2Apart f g c d (some ⟨bL, oL, none⟩) m c1 (levelsL ys) wr.drew iL (by omega) hah hbe hga hgb HNE.out
                        clear hpl hpr
                        cases hcr : crossB (at0 (levelsL ys) f.ah) (at0 (levelsL ys) f.be) (at0 (levelsL ys) g.ah) (at0 (levelsL ys) g.be) with
                        | true =>
                          rw [hcr, Bool.not_true] at P5
                          have P5 := Lib.hid P5
                          have HE := Lib.hid (HRB.out.trans (HX.out (HCF.out.trans hcr)))
                          clear hcr iL
                          go_wp2_with fail
                          go_still_tail 27, (by kernel_rfl)
                          change wpList _ _ _ _ _ wr.drew
                          go_wp2_with fail
                          refine P5.out.mono ?_
                          rintro e w5 ⟨rfl, b5⟩
                          go_wp2_with fail
                          go_ret
                          have B5 := Below.call B3w B3w.size B13.drew
                          exact ⟨ret_bool HE.out.symm, Below.call B5 B5.size b5⟩
                        | false =>
                          rw [hcr, Bool.not_false] at P5
                          have P5 := Lib.hid P5
                          have HS := Lib.hid (HSTEP.out (HCF.out.trans hcr))
                          clear hcr iL
                          go_wp2_with fail
                          go_still_tail 27, (by kernel_rfl)
                          change wpList _ _ _ _ _ wr.drew
                          go_wp2_with fail
                          refine P5.out.mono ?_
                          rintro e w5 ⟨rfl, b5⟩
                          go_wp2_with fail
                          go_roundg (k - (i + 1))
                          case measure => have := HQ3.out; omega
                          case rel => exact ⟨i + 1, by omega, rfl, by go_num, HS.out, Below.call hB3.drew hB3.drew.size b5⟩
                      · have hprb : ((g.ah : Int) % 2 == (f.ah : Int) % 2) = false := by rw [beq_eq_false_iff_ne]; omega
                        have HS := Lib.hid (HSTEP.out (crossF_par fun e => hpr e.symm))
                        clear hpl hpr
                        go_wp2_with fail
                        go_quiet (fail)
                        go_wp2_with fail
                        go_roundg (k - (i + 1))
                        case measure => have := HQ3.out; omega
                        case rel => exact ⟨i + 1, by omega, rfl, by go_num, HS.out, below_drewN hB3 _⟩
                    · have hplb : (g.pl == f.pl) = false := by rw [beq_eq_false_iff_ne]; exact hpl
                      have HS := Lib.hid (HSTEP.out (crossF_pl fun e => hpl e.symm))
                      clear hpl
                      go_wp2_with fail
                      go_quiet (fail)
                      go_wp2_with fail
                      go_roundg (k - (i + 1))
                      case measure => have := HQ3.out; omega
                      case rel => exact ⟨i + 1, by omega, rfl, by go_num, HS.out, below_drewN hB3 _⟩
                  · have hltiI : ¬ (i : Int) < (k : Int) := by omega
                    have HSS := Lib.hid (rsTo_succ HRT.out (by rw [HFK.out]; exact HOK.out) (fun x hx => HRI.out x (by omega)))
                    go_wp2_with fail
                    go_roundg (F.length - (k + 1))
                    case measure => have := HQ.out; omega
                    case rel => exact ⟨k + 1, by omega, rfl, by go_num, HSS.out, B13⟩
          · have hdb : (bl != (bv == bp)) = true := by rw [HHK.out] at hdir; rw [bne_iff_ne]; exact hdir
            have hdb2 : (!(bl == (bv == bp))) = true := by rw [HHK.out] at hdir; rw [beq_eq_false_iff_ne.2 hdir]; rfl
            have HE := Lib.hid (HRB.out.trans (rightL_bad hlt (by rw [HFK.out]; exact okF_dir (by rw [HBL.out]; exact hdir))))
            clear hdir
            first | rw [hdb] | rw [hdb2] | skip
            go_wp2_with fail
            go_ret
            exact ⟨ret_bool HE.out.symm, Below.call B3w B3w.size Bz2⟩
        · have HE := Lib.hid (HRB.out.trans (rsTo_all HAP.out HP.out HYL.out HRT.out (by omega)))
          have hltI : ¬ (k : Int) < (F.length : Int) := by omega
          go_wp2_with fail
          go_ret
          exact ⟨ret_bool HE.out.symm, Below.call B3w B3w.size hBr⟩
  · have HE := Lib.hid (rightB_len (xs := xs) (F := F) (ys := ys) (by rw [hi.length, hl]; exact hmn))
    have P1 := Lib.hid P1
    have hmnI : ((m : Int) != (n : Int)) = true := by rw [bne_iff_ne]; omega
    have hmnN : (m != n) = true := by rw [bne_iff_ne]; exact hmn
    clear hmn hAF
    go_enter Try.func31, Try.ntmps31
    go_wp2_with (go_at_call 46; refine P1.out.mono ?_; rintro e w1 ⟨a1, n1, c1, rfl, o1, b1⟩)
    go_ret
    exact ⟨ret_bool HE.out.symm, b1⟩

end Go.Proofs.Ytahbflbhkalehaa
