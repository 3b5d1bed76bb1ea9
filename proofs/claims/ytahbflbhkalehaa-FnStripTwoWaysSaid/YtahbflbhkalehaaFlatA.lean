/-
  What the reference's l2Apart computes, by a walk.
-/
import Derived.Test.YtahbflbhkalehaaMemF
import Derived.Test.YtahbflbhkalehaaStampS
namespace Go.Proofs.Ytahbflbhkalehaa
open Go.RowKit

theorem crossB_lt {P Q : Int} (A B : Int) (h : P < Q) : crossB P Q A B = ((decide (P < A) && decide (A < Q)) != (decide (P < B) && decide (B < Q))) := by unfold crossB; rw [betw_lt A h, betw_lt B h]
theorem crossB_gt {P Q : Int} (A B : Int) (h : Q < P) : crossB P Q A B = ((decide (Q < A) && decide (A < P)) != (decide (Q < B) && decide (B < P))) := by unfold crossB; rw [betw_gt A h, betw_gt B h]

set_option maxHeartbeats 4000000 in
theorem spec_l2Apart (f g : Fd) (cf cg : UInt8) (a : Option Addr) (n cap : Nat) (L : List Int) (w : World) (h : Ints w a n cap L) (hn : n ≤ 1048576) (h1 : f.ah < n) (h2 : f.be < n) (h3 : g.ah < n) (h4 : g.be < n) (hne : at0 L f.ah ≠ at0 L f.be) :
    Calls Try.prog 50 #[.slice a n cap, .agg #[.int .i64 f.ah, .int .i64 f.be, .int .i64 f.pl, .int .u8 (cf.toNat : Int)], .agg #[.int .i64 g.ah, .int .i64 g.be, .int .i64 g.pl, .int .u8 (cg.toNat : Int)]] w (RVal w (.bool (!crossB (at0 L f.ah) (at0 L f.be) (at0 L g.ah) (at0 L g.be)))) := by
  have hle := h.le_cap
  have hmx := h.cap_max
  have bb : Below w.heap.size w ((w.alloc (.cells #[.int .i64 f.ah, .int .i64 f.be, .int .i64 f.pl, .int .u8 (cf.toNat : Int)] 76)).alloc (.cells #[.int .i64 g.ah, .int .i64 g.be, .int .i64 g.pl, .int .u8 (cg.toNat : Int)] 76)) := ((Below.refl _ _).alloc (Nat.le_refl _) _).alloc (by simp) _
  obtain ⟨b, off, rfl, hc⟩ := (h.below bb).cells (by omega)
  have c1 := hc f.ah h1
  have c2 := hc f.be h2
  have c3 := hc g.ah h3
  have c4 := hc g.be h4
  rw [show L[f.ah]?.getD 0 = at0 L f.ah from rfl] at c1
  rw [show L[f.be]?.getD 0 = at0 L f.be from rfl] at c2
  rw [show L[g.ah]?.getD 0 = at0 L g.ah from rfl] at c3
  rw [show L[g.be]?.getD 0 = at0 L g.be from rfl] at c4
  have hfa : (f.ah : Int) < (n : Int) := by omega
  have hfb : (f.be : Int) < (n : Int) := by omega
  have hga : (g.ah : Int) < (n : Int) := by omega
  have hgb : (g.be : Int) < (n : Int) := by omega
  clear hc h
  generalize at0 L f.ah = P at c1 hne ⊢
  generalize at0 L f.be = Q at c2 hne ⊢
  generalize at0 L g.ah = X at c3 ⊢
  generalize at0 L g.be = Y at c4 ⊢
  obtain ⟨fa, fb, fp, fh⟩ := f
  obtain ⟨ga, gb, gp, gh⟩ := g
  simp only at *
  by_cases ho : P < Q
  · have ho2 : ¬ Q < P := by omega
    have HC := Lib.hid (crossB_lt X Y ho)
    by_cases qx : P < X
    · have dx : decide (P < X) = true := decide_eq_true qx
      by_cases rx : X < Q
      · have ex : decide (X < Q) = true := decide_eq_true rx
        by_cases qy : P < Y
        · have dy : decide (P < Y) = true := decide_eq_true qy
          by_cases ry : Y < Q
          · have ey : decide (Y < Q) = true := decide_eq_true ry
            have HE : Hid ((!crossB P Q X Y) = true) := by unfold Hid; rw [HC.out, dx, ex, dy, ey]; rfl
            go_enter Try.func50, Try.ntmps50
            go_wp2
            go_quiet (fail)
            go_wp2
            go_quiet (fail)
            go_wp2
            go_ret
            exact ⟨ret_bool HE.out.symm, below_drewN bb _⟩
          · have ey : decide (Y < Q) = false := decide_eq_false ry
            have HE : Hid ((!crossB P Q X Y) = false) := by unfold Hid; rw [HC.out, dx, ex, dy, ey]; rfl
            go_enter Try.func50, Try.ntmps50
            go_wp2
            go_quiet (fail)
            go_wp2
            go_quiet (fail)
            go_wp2
            go_ret
            exact ⟨ret_bool HE.out.symm, below_drewN bb _⟩
        · have dy : decide (P < Y) = false := decide_eq_false qy
          have HE : Hid ((!crossB P Q X Y) = false) := by unfold Hid; rw [HC.out, dx, ex, dy]; rfl
          go_enter Try.func50, Try.ntmps50
          go_wp2
          go_quiet (fail)
          go_wp2
          go_quiet (fail)
          go_wp2
          go_ret
          exact ⟨ret_bool HE.out.symm, below_drewN bb _⟩
      · have ex : decide (X < Q) = false := decide_eq_false rx
        by_cases qy : P < Y
        · have dy : decide (P < Y) = true := decide_eq_true qy
          by_cases ry : Y < Q
          · have ey : decide (Y < Q) = true := decide_eq_true ry
            have HE : Hid ((!crossB P Q X Y) = false) := by unfold Hid; rw [HC.out, dx, ex, dy, ey]; rfl
            go_enter Try.func50, Try.ntmps50
            go_wp2
            go_quiet (fail)
            go_wp2
            go_quiet (fail)
            go_wp2
            go_ret
            exact ⟨ret_bool HE.out.symm, below_drewN bb _⟩
          · have ey : decide (Y < Q) = false := decide_eq_false ry
            have HE : Hid ((!crossB P Q X Y) = true) := by unfold Hid; rw [HC.out, dx, ex, dy, ey]; rfl
            go_enter Try.func50, Try.ntmps50
            go_wp2
            go_quiet (fail)
            go_wp2
            go_quiet (fail)
            go_wp2
            go_ret
            exact ⟨ret_bool HE.out.symm, below_drewN bb _⟩
        · have dy : decide (P < Y) = false := decide_eq_false qy
          have HE : Hid ((!crossB P Q X Y) = true) := by unfold Hid; rw [HC.out, dx, ex, dy]; rfl
          go_enter Try.func50, Try.ntmps50
          go_wp2
          go_quiet (fail)
          go_wp2
          go_quiet (fail)
          go_wp2
          go_ret
          exact ⟨ret_bool HE.out.symm, below_drewN bb _⟩
    · have dx : decide (P < X) = false := decide_eq_false qx
      by_cases qy : P < Y
      · have dy : decide (P < Y) = true := decide_eq_true qy
        by_cases ry : Y < Q
        · have ey : decide (Y < Q) = true := decide_eq_true ry
          have HE : Hid ((!crossB P Q X Y) = false) := by unfold Hid; rw [HC.out, dx, dy, ey]; rfl
          go_enter Try.func50, Try.ntmps50
          go_wp2
          go_quiet (fail)
          go_wp2
          go_quiet (fail)
          go_wp2
          go_ret
          exact ⟨ret_bool HE.out.symm, below_drewN bb _⟩
        · have ey : decide (Y < Q) = false := decide_eq_false ry
          have HE : Hid ((!crossB P Q X Y) = true) := by unfold Hid; rw [HC.out, dx, dy, ey]; rfl
          go_enter Try.func50, Try.ntmps50
          go_wp2
          go_quiet (fail)
          go_wp2
          go_quiet (fail)
          go_wp2
          go_ret
          exact ⟨ret_bool HE.out.symm, below_drewN bb _⟩
      · have dy : decide (P < Y) = false := decide_eq_false qy
        have HE : Hid ((!crossB P Q X Y) = true) := by unfold Hid; rw [HC.out, dx, dy]; rfl
        go_enter Try.func50, Try.ntmps50
        go_wp2
        go_quiet (fail)
        go_wp2
        go_quiet (fail)
        go_wp2
        go_ret
        exact ⟨ret_bool HE.out.symm, below_drewN bb _⟩
  · have ho2 : Q < P := by omega
    have HC := Lib.hid (crossB_gt X Y ho2)
    by_cases qx : Q < X
    · have dx : decide (Q < X) = true := decide_eq_true qx
      by_cases rx : X < P
      · have ex : decide (X < P) = true := decide_eq_true rx
        by_cases qy : Q < Y
        · have dy : decide (Q < Y) = true := decide_eq_true qy
          by_cases ry : Y < P
          · have ey : decide (Y < P) = true := decide_eq_true ry
            have HE : Hid ((!crossB P Q X Y) = true) := by unfold Hid; rw [HC.out, dx, ex, dy, ey]; rfl
            go_enter Try.func50, Try.ntmps50
            go_wp2
            go_quiet (fail)
            go_wp2
            go_quiet (fail)
            go_wp2
            go_ret
            exact ⟨ret_bool HE.out.symm, below_drewN bb _⟩
          · have ey : decide (Y < P) = false := decide_eq_false ry
            have HE : Hid ((!crossB P Q X Y) = false) := by unfold Hid; rw [HC.out, dx, ex, dy, ey]; rfl
            go_enter Try.func50, Try.ntmps50
            go_wp2
            go_quiet (fail)
            go_wp2
            go_quiet (fail)
            go_wp2
            go_ret
            exact ⟨ret_bool HE.out.symm, below_drewN bb _⟩
        · have dy : decide (Q < Y) = false := decide_eq_false qy
          have HE : Hid ((!crossB P Q X Y) = false) := by unfold Hid; rw [HC.out, dx, ex, dy]; rfl
          go_enter Try.func50, Try.ntmps50
          go_wp2
          go_quiet (fail)
          go_wp2
          go_quiet (fail)
          go_wp2
          go_ret
          exact ⟨ret_bool HE.out.symm, below_drewN bb _⟩
      · have ex : decide (X < P) = false := decide_eq_false rx
        by_cases qy : Q < Y
        · have dy : decide (Q < Y) = true := decide_eq_true qy
          by_cases ry : Y < P
          · have ey : decide (Y < P) = true := decide_eq_true ry
            have HE : Hid ((!crossB P Q X Y) = false) := by unfold Hid; rw [HC.out, dx, ex, dy, ey]; rfl
            go_enter Try.func50, Try.ntmps50
            go_wp2
            go_quiet (fail)
            go_wp2
            go_quiet (fail)
            go_wp2
            go_ret
            exact ⟨ret_bool HE.out.symm, below_drewN bb _⟩
          · have ey : decide (Y < P) = false := decide_eq_false ry
            have HE : Hid ((!crossB P Q X Y) = true) := by unfold Hid; rw [HC.out, dx, ex, dy, ey]; rfl
            go_enter Try.func50, Try.ntmps50
            go_wp2
            go_quiet (fail)
            go_wp2
            go_quiet (fail)
            go_wp2
            go_ret
            exact ⟨ret_bool HE.out.symm, below_drewN bb _⟩
        · have dy : decide (Q < Y) = false := decide_eq_false qy
          have HE : Hid ((!crossB P Q X Y) = true) := by unfold Hid; rw [HC.out, dx, ex, dy]; rfl
          go_enter Try.func50, Try.ntmps50
          go_wp2
          go_quiet (fail)
          go_wp2
          go_quiet (fail)
          go_wp2
          go_ret
          exact ⟨ret_bool HE.out.symm, below_drewN bb _⟩
    · have dx : decide (Q < X) = false := decide_eq_false qx
      by_cases qy : Q < Y
      · have dy : decide (Q < Y) = true := decide_eq_true qy
        by_cases ry : Y < P
        · have ey : decide (Y < P) = true := decide_eq_true ry
          have HE : Hid ((!crossB P Q X Y) = false) := by unfold Hid; rw [HC.out, dx, dy, ey]; rfl
          go_enter Try.func50, Try.ntmps50
          go_wp2
          go_quiet (fail)
          go_wp2
          go_quiet (fail)
          go_wp2
          go_ret
          exact ⟨ret_bool HE.out.symm, below_drewN bb _⟩
        · have ey : decide (Y < P) = false := decide_eq_false ry
          have HE : Hid ((!crossB P Q X Y) = true) := by unfold Hid; rw [HC.out, dx, dy, ey]; rfl
          go_enter Try.func50, Try.ntmps50
          go_wp2
          go_quiet (fail)
          go_wp2
          go_quiet (fail)
          go_wp2
          go_ret
          exact ⟨ret_bool HE.out.symm, below_drewN bb _⟩
      · have dy : decide (Q < Y) = false := decide_eq_false qy
        have HE : Hid ((!crossB P Q X Y) = true) := by unfold Hid; rw [HC.out, dx, dy]; rfl
        go_enter Try.func50, Try.ntmps50
        go_wp2
        go_quiet (fail)
        go_wp2
        go_quiet (fail)
        go_wp2
        go_ret
        exact ⟨ret_bool HE.out.symm, below_drewN bb _⟩

end Go.Proofs.Ytahbflbhkalehaa
