/-
  Plain facts on levels and places: a strip with right layers has a step; a crimp of a shortest part keeps right layers. No program in sight.
-/
import Derived.Test.YtahbflbhkalehaaPlain
namespace Go.Proofs.Ytahbflbhkalehaa
open Go.RowKit

/-- A number lies strictly between two others. -/
def btwI (x a b : Int) : Prop := (a < x ∧ x < b) ∨ (b < x ∧ x < a)
/-- Levels are right for places. -/
structure Rgt (n : Nat) (p L : Nat → Int) : Prop where
  inj : ∀ i j, i < n → j < n → L i = L j → i = j
  cov : ∀ k s, k + 1 < n → s < n → btwI (L s) (L k) (L (k + 1)) → btwI (p (k + 1)) (p s) (p (s + 1)) → False
  crs : ∀ k m, k + 1 < n → m + 1 < n → p (k + 1) = p (m + 1) → (p k < p (k + 1) ↔ p m < p (m + 1)) → (btwI (L m) (L k) (L (k + 1)) ↔ btwI (L (m + 1)) (L k) (L (k + 1)))
/-- Places go to and fro. -/
structure Zig (n : Nat) (p : Nat → Int) : Prop where
  ne : ∀ i, i < n → p i ≠ p (i + 1)
  zig : ∀ i, i + 1 < n → (p i < p (i + 1) ↔ p (i + 2) < p (i + 1))
/-- Part i is no longer than part j. -/
def lenLe (p : Nat → Int) (i j : Nat) : Prop := (p (i + 1) - p i ≤ p (j + 1) - p j ∨ p (i + 1) - p i ≤ p j - p (j + 1)) ∧ (p i - p (i + 1) ≤ p (j + 1) - p j ∨ p i - p (i + 1) ≤ p j - p (j + 1))
theorem lenLe_total (p : Nat → Int) (i j : Nat) : lenLe p i j ∨ lenLe p j i := by unfold lenLe; omega
theorem lenLe_trans {p : Nat → Int} {i j k : Nat} (h1 : lenLe p i j) (h2 : lenLe p j k) : lenLe p i k := by unfold lenLe at *; omega
theorem lenLe_refl (p : Nat → Int) (i : Nat) : lenLe p i i := by unfold lenLe; omega
/-- The first of the shortest parts. -/
theorem least_part (p : Nat → Int) : ∀ n, 1 ≤ n → ∃ i, i < n ∧ (∀ j, j < n → lenLe p i j) ∧ ∀ j, j < i → ¬ lenLe p j i := by
  intro n
  induction n with
  | zero => intro h; omega
  | succ n ih =>
    intro _
    by_cases hn : n = 0
    · subst hn
      exact ⟨0, by omega, fun j hj => by obtain rfl : j = 0 := by omega
                                         exact lenLe_refl p 0, fun j hj => by omega⟩
    · obtain ⟨i, hi, h1, h2⟩ := ih (by omega)
      by_cases hl : lenLe p i n
      · refine ⟨i, by omega, fun j hj => ?_, h2⟩
        by_cases e : j = n
        · rw [e]; exact hl
        · exact h1 j (by omega)
      · have hl' : lenLe p n i := (lenLe_total p i n).resolve_left hl
        refine ⟨n, by omega, fun j hj => ?_, fun j hj hc => hl (lenLe_trans (h1 j hj) hc)⟩
        by_cases e : j = n
        · rw [e]; exact lenLe_refl p n
        · exact lenLe_trans hl' (h1 j (by omega))

/-- A strip with right layers has a step: an end that is no longer than its neighbour, or a shortest part between two others with levels that go up or down. -/
theorem step_there {n : Nat} {p L : Nat → Int} (hn : 2 ≤ n) (Z : Zig n p) (R : Rgt n p L) :
    lenLe p 0 1 ∨ lenLe p (n - 1) (n - 2) ∨ ∃ c, c + 2 < n ∧ (∀ j, j < n → lenLe p (c + 1) j) ∧ (L c < L (c + 1) ↔ L (c + 1) < L (c + 2)) := by
  obtain ⟨i, hi, h1, h2⟩ := least_part p n (by omega)
  by_cases i0 : i = 0
  · subst i0; exact .inl (h1 1 (by omega))
  by_cases hc : ∃ c, c + 2 < n ∧ (∀ j, j < n → lenLe p (c + 1) j) ∧ (L c < L (c + 1) ↔ L (c + 1) < L (c + 2))
  · exact .inr (.inr hc)
  have hno : ∀ m, 1 ≤ m → m + 1 < n → lenLe p m i → ¬ (L (m - 1) < L m ↔ L m < L (m + 1)) := fun m hm hm1 hl hx => by
    apply hc
    refine ⟨m - 1, by omega, fun j hj => ?_, ?_⟩
    · rw [show m - 1 + 1 = m by omega]; exact lenLe_trans hl (h1 j hj)
    · rw [show m - 1 + 1 = m by omega, show m - 1 + 2 = m + 1 by omega]; exact hx
  have hne : ∀ a b, a < n → b < n → a ≠ b → L a ≠ L b := fun a b ha hb hab e => hab (R.inj a b ha hb e)
  have key : ∀ d, i + d < n → lenLe p (i + d) i ∧ (i + d + 1 < n → btwI (L (i + d + 1)) (L (i + d - 1)) (L (i + d))) := by
    intro d
    induction d with
    | zero =>
      intro _
      refine ⟨lenLe_refl p i, fun hd => ?_⟩
      simp only [Nat.add_zero]
      have e1 := hno i (by omega) hd (lenLe_refl p i)
      have e2 := R.cov i (i - 1) hd (by omega)
      have e3 := h2 (i - 1) (by omega)
      have z := Z.zig (i - 1) (by omega)
      have z0 := Z.ne (i - 1) (by omega)
      have z1 := Z.ne i (by omega)
      rw [show i - 1 + 1 = i by omega, show i - 1 + 2 = i + 1 by omega] at *
      have n1 := hne (i - 1) i (by omega) (by omega) (by omega)
      have n2 := hne i (i + 1) (by omega) (by omega) (by omega)
      have n3 := hne (i - 1) (i + 1) (by omega) (by omega) (by omega)
      unfold btwI lenLe at *
      rw [show i - 1 + 1 = i by omega] at e3
      have e4 : (p (i - 1) < p (i + 1) ∧ p (i + 1) < p i) ∨ (p i < p (i + 1) ∧ p (i + 1) < p (i - 1)) := by omega
      have e5 : ¬ (L i < L (i - 1) ∧ L (i - 1) < L (i + 1) ∨ L (i + 1) < L (i - 1) ∧ L (i - 1) < L i) := fun q => e2 q e4
      omega
    | succ d ih =>
      intro hd
      obtain ⟨q1, q2⟩ := ih (by omega)
      have q2 := q2 (by omega)
      obtain ⟨m, hm⟩ : ∃ m, m = i + d := ⟨_, rfl⟩
      rw [← hm] at q1 q2
      rw [show i + (d + 1) = m + 1 by omega] at *
      have hm1 : 1 ≤ m := by omega
      obtain ⟨t, rfl⟩ : ∃ t, m = t + 1 := ⟨m - 1, by omega⟩
      simp only [Nat.add_sub_cancel, Nat.add_assoc, Nat.reduceAdd] at q1 q2 hm hm1 hd ⊢
      have z := Z.zig t (by omega)
      have zz := Z.zig (t + 1) (by omega)
      have z0 := Z.ne t (by omega)
      have z1 := Z.ne (t + 1) (by omega)
      have z2 := Z.ne (t + 2) (by omega)
      have e1 := h1 (t + 2) (by omega)
      have e0 := h1 (t + 1) (by omega)
      have g1 : lenLe p (t + 2) i := by
        have c1 := R.cov t (t + 2) (by omega) (by omega) q2
        have c2 : ¬ btwI (p (t + 1)) (p (t + 2)) (p (t + 3)) := c1
        clear c1 h1 h2 hno hne ih hc
        unfold btwI lenLe at *
        simp only [Nat.add_assoc, Nat.reduceAdd] at *
        omega
      refine ⟨g1, fun hd2 => ?_⟩
      rw [show t + 2 - 1 = t + 1 by omega]
      have e2 := hno (t + 2) (by omega) hd2 g1
      rw [show t + 2 - 1 = t + 1 by omega] at e2
      have z3 := Z.zig (t + 2) (by omega)
      have z4 := Z.ne (t + 3) (by omega)
      have hp : p (t + 1) = p (t + 3) := by
        clear h1 h2 hno hne ih hc e2 q2
        unfold lenLe at *
        simp only [Nat.add_assoc, Nat.reduceAdd] at *
        omega
      have c1 := (R.crs t (t + 2) (by omega) (by omega) hp (by simp only [Nat.add_assoc, Nat.reduceAdd] at *; omega)).1 q2
      have n1 := hne t (t + 1) (by omega) (by omega) (by omega)
      have n2 := hne (t + 1) (t + 2) (by omega) (by omega) (by omega)
      have n3 := hne (t + 2) (t + 3) (by omega) (by omega) (by omega)
      clear h1 h2 hno hne ih hc
      unfold btwI at *
      simp only [Nat.add_assoc, Nat.reduceAdd] at *
      omega
  have hend := (key (n - 1 - i) (by omega)).1
  rw [show i + (n - 1 - i) = n - 1 by omega] at hend
  exact .inr (.inl (lenLe_trans hend (h1 (n - 2) (by omega))))
/-- A part's level x, its ends lo and hi, and its new level y, when the three parts with the levels C, K, D and the places a, b, d, e become one part of level 0. -/
def Gd (W C K D a b d e x lo hi y : Int) : Prop :=
  (-W < x ∧ x < W ∧ lo + (b - d) ≤ hi) ∧
  ((x < C ∧ y = x - 4 * W) ∨ (x = C ∧ lo = a ∧ hi = b ∧ y = 0) ∨ (C < x ∧ x < K ∧ b ≤ lo ∧ y = x - 2 * W) ∨ (C < x ∧ x < K ∧ hi ≤ b ∧ y = x + 2 * W) ∨
   (K < x ∧ x < D ∧ d ≤ lo ∧ y = x - 2 * W) ∨ (K < x ∧ x < D ∧ hi ≤ d ∧ y = x + 2 * W) ∨ (x = D ∧ lo = d ∧ hi = e ∧ y = 0) ∨ (D < x ∧ y = x + 4 * W))
/-- The three parts' numbers. -/
def Md (W C K D a b d e : Int) : Prop := -W < C ∧ C < K ∧ K < D ∧ D < W ∧ a ≤ d ∧ d < b ∧ b ≤ e
/-- The two parts of a fold at the place q, to the right or to the left of it. -/
def Ff (C K D a b d e q x lo hi x' lo' hi' : Int) : Prop :=
  ((lo = q ∧ lo' = q ∧ x ≠ D ∧ x' ≠ D ∧ (q = d → (K < x ∧ x < D ↔ K < x' ∧ x' < D))) ∨ (hi = q ∧ hi' = q ∧ x ≠ C ∧ x' ≠ C ∧ (q = b → (C < x ∧ x < K ↔ C < x' ∧ x' < K)))) ∧
  (a < q → q < b → ¬ btwI C x x') ∧ (d < q → q < b → ¬ btwI K x x') ∧ (d < q → q < e → ¬ btwI D x x') ∧ x ≠ x'

theorem gd_inj {W C K D a b d e x lo hi y x' lo' hi' y' : Int} (hm : Md W C K D a b d e) (h : Gd W C K D a b d e x lo hi y) (h' : Gd W C K D a b d e x' lo' hi' y') (hx : x ≠ D) (hx' : x' ≠ D) (hy : y = y') : x = x' := by
  unfold Md Gd at *
  obtain ⟨g, h⟩ := h
  rcases h with h | h | h | h | h | h | h | h <;> omega
/-- Two parts on one side of a place keep their order, but for parts from d or to b in two different of the three heaps. -/
theorem gd_right {W C K D a b d e x lo hi y x' lo' hi' y' : Int} (hm : Md W C K D a b d e) (h : Gd W C K D a b d e x lo hi y) (h' : Gd W C K D a b d e x' lo' hi' y') (hq : lo = lo') (hx : x ≠ D) (hx' : x' ≠ D) (hne : x ≠ x')
    (hs : lo = d → (K < x ∧ x < D ↔ K < x' ∧ x' < D)) : x < x' ↔ y < y' := by
  unfold Md Gd at *
  obtain ⟨g, h⟩ := h
  rcases h with h | h | h | h | h | h | h | h <;> omega
theorem gd_left {W C K D a b d e x lo hi y x' lo' hi' y' : Int} (hm : Md W C K D a b d e) (h : Gd W C K D a b d e x lo hi y) (h' : Gd W C K D a b d e x' lo' hi' y') (hq : hi = hi') (hx : x ≠ C) (hx' : x' ≠ C) (hne : x ≠ x')
    (hs : hi = b → (C < x ∧ x < K ↔ C < x' ∧ x' < K)) : x < x' ↔ y < y' := by
  unfold Md Gd at *
  obtain ⟨g, h⟩ := h
  rcases h with h | h | h | h | h | h | h | h <;> omega
theorem gd_mixR {W C K D a b d e x lo hi y : Int} (hm : Md W C K D a b d e) (h : Gd W C K D a b d e x lo hi y) (hq : lo = d) : (K < x ∧ x < D → -3 * W < y ∧ y < -W) ∧ (¬ (K < x ∧ x < D) → y ≤ -3 * W ∨ -W ≤ y) := by
  unfold Md Gd at *
  obtain ⟨g, h⟩ := h
  rcases h with h | h | h | h | h | h | h | h <;> omega
theorem gd_mixL {W C K D a b d e x lo hi y : Int} (hm : Md W C K D a b d e) (h : Gd W C K D a b d e x lo hi y) (hq : hi = b) : (C < x ∧ x < K → W < y ∧ y < 3 * W) ∧ (¬ (C < x ∧ x < K) → y ≤ W ∨ 3 * W ≤ y) := by
  unfold Md Gd at *
  obtain ⟨g, h⟩ := h
  rcases h with h | h | h | h | h | h | h | h <;> omega
theorem ff_dir {W C K D a b d e q x lo hi y x' lo' hi' y' : Int} (hm : Md W C K D a b d e) (h : Gd W C K D a b d e x lo hi y) (h' : Gd W C K D a b d e x' lo' hi' y') (hf : Ff C K D a b d e q x lo hi x' lo' hi') : x < x' ↔ y < y' := by
  obtain ⟨hf, _, _, _, hne⟩ := hf
  rcases hf with ⟨q1, q2, q3, q4, q5⟩ | ⟨q1, q2, q3, q4, q5⟩
  · exact gd_right hm h h' (by omega) q3 q4 hne (fun e => q5 (by omega))
  · exact gd_left hm h h' (by omega) q3 q4 hne (fun e => q5 (by omega))
theorem btw_ord {x a b x' a' b' : Int} (h1 : x < a ↔ x' < a') (h2 : a < x ↔ a' < x') (h3 : x < b ↔ x' < b') (h4 : b < x ↔ b' < x') : btwI x' a' b' ↔ btwI x a b := by
  unfold btwI; omega
set_option maxHeartbeats 4000000 in
theorem ff_crs {W C K D a b d e q x lo hi y x' lo' hi' y' u lu hu v u' lu' hu' v' : Int} (hm : Md W C K D a b d e)
    (h1 : Gd W C K D a b d e x lo hi y) (h2 : Gd W C K D a b d e x' lo' hi' y') (hf : Ff C K D a b d e q x lo hi x' lo' hi')
    (h3 : Gd W C K D a b d e u lu hu v) (h4 : Gd W C K D a b d e u' lu' hu' v') (hg : Ff C K D a b d e q u lu hu u' lu' hu')
    (hs : (lo = q ∧ lu = q) ∨ (hi = q ∧ hu = q)) (n1 : x ≠ u) (n2 : x ≠ u') (n3 : x' ≠ u) (n4 : x' ≠ u') (hx : btwI u x x' ↔ btwI u' x x') : btwI v y y' ↔ btwI v' y y' := by
  obtain ⟨f0, f1, f2, f3, f4⟩ := hf
  obtain ⟨g0, g1, g2, g3, g4⟩ := hg
  clear f1 f2 f3 g1 g2 g3
  have w1 : lo < hi := by have := h1.1; unfold Md at hm; omega
  have w2 : lo' < hi' := by have := h2.1; unfold Md at hm; omega
  have w3 : lu < hu := by have := h3.1; unfold Md at hm; omega
  have w4 : lu' < hu' := by have := h4.1; unfold Md at hm; omega
  rcases f0 with ⟨q1, q2, q3, q4, q5⟩ | ⟨q1, q2, q3, q4, q5⟩
  · rcases g0 with ⟨r1, r2, r3, r4, r5⟩ | ⟨r1, r2, r3, r4, r5⟩
    · by_cases hY : q = d → (K < x ∧ x < D ↔ K < u ∧ u < D)
      · have a13 := gd_right hm h1 h3 (q1.trans r1.symm) q3 r3 n1 (fun e => have z := q1.symm.trans e; hY z)
        have b13 := gd_right hm h3 h1 (r1.trans q1.symm) r3 q3 n1.symm (fun e => have z := r1.symm.trans e; (hY z).symm)
        have a14 := gd_right hm h1 h4 (q1.trans r2.symm) q3 r4 n2 (fun e => have z := q1.symm.trans e; (hY z).trans (r5 z))
        have b14 := gd_right hm h4 h1 (r2.trans q1.symm) r4 q3 n2.symm (fun e => have z := r2.symm.trans e; ((hY z).trans (r5 z)).symm)
        have a23 := gd_right hm h2 h3 (q2.trans r1.symm) q4 r3 n3 (fun e => have z := q2.symm.trans e; (q5 z).symm.trans (hY z))
        have b23 := gd_right hm h3 h2 (r1.trans q2.symm) r3 q4 n3.symm (fun e => have z := r1.symm.trans e; ((q5 z).symm.trans (hY z)).symm)
        have a24 := gd_right hm h2 h4 (q2.trans r2.symm) q4 r4 n4 (fun e => have z := q2.symm.trans e; (q5 z).symm.trans ((hY z).trans (r5 z)))
        have b24 := gd_right hm h4 h2 (r2.trans q2.symm) r4 q4 n4.symm (fun e => have z := r2.symm.trans e; ((q5 z).symm.trans ((hY z).trans (r5 z))).symm)
        rw [btw_ord b13 a13 b23 a23, btw_ord b14 a14 b24 a24]
        exact hx
      · have hq : q = d := Classical.byContradiction fun c => hY fun e => absurd e c
        have m1 := gd_mixR hm h1 (q1.trans hq)
        have m2 := gd_mixR hm h2 (q2.trans hq)
        have m3 := gd_mixR hm h3 (r1.trans hq)
        have m4 := gd_mixR hm h4 (r2.trans hq)
        have q5 := q5 hq
        have r5 := r5 hq
        have hY : ¬ (K < x ∧ x < D ↔ K < u ∧ u < D) := fun e => hY fun _ => e
        unfold btwI
        by_cases c1 : K < x ∧ x < D
        · have c3 : ¬ (K < u ∧ u < D) := fun c => hY ⟨fun _ => c, fun _ => c1⟩
          have k1 := m1.1 c1; have k2 := m2.1 (q5.1 c1); have k3 := m3.2 c3; have k4 := m4.2 fun c => c3 (r5.2 c)
          clear h1 h2 h3 h4 hx hs q1 q2 q3 q4 q5 r1 r2 r3 r4 r5 hY c1 c3 m1 m2 m3 m4 f4 g4 n1 n2 n3 n4 hm hq w1 w2 w3 w4
          omega
        · have c3 : K < u ∧ u < D := Classical.byContradiction fun c => hY ⟨fun z => absurd z c1, fun z => absurd z c⟩
          have k1 := m1.2 c1; have k2 := m2.2 fun c => c1 (q5.2 c); have k3 := m3.1 c3; have k4 := m4.1 (r5.1 c3)
          clear h1 h2 h3 h4 hx hs q1 q2 q3 q4 q5 r1 r2 r3 r4 r5 hY c1 c3 m1 m2 m3 m4 f4 g4 n1 n2 n3 n4 hm hq w1 w2 w3 w4
          omega
    · clear q5 r5 hx; omega
  · rcases g0 with ⟨r1, r2, r3, r4, r5⟩ | ⟨r1, r2, r3, r4, r5⟩
    · clear q5 r5 hx; omega
    · by_cases hY : q = b → (C < x ∧ x < K ↔ C < u ∧ u < K)
      · have a13 := gd_left hm h1 h3 (q1.trans r1.symm) q3 r3 n1 (fun e => have z := q1.symm.trans e; hY z)
        have b13 := gd_left hm h3 h1 (r1.trans q1.symm) r3 q3 n1.symm (fun e => have z := r1.symm.trans e; (hY z).symm)
        have a14 := gd_left hm h1 h4 (q1.trans r2.symm) q3 r4 n2 (fun e => have z := q1.symm.trans e; (hY z).trans (r5 z))
        have b14 := gd_left hm h4 h1 (r2.trans q1.symm) r4 q3 n2.symm (fun e => have z := r2.symm.trans e; ((hY z).trans (r5 z)).symm)
        have a23 := gd_left hm h2 h3 (q2.trans r1.symm) q4 r3 n3 (fun e => have z := q2.symm.trans e; (q5 z).symm.trans (hY z))
        have b23 := gd_left hm h3 h2 (r1.trans q2.symm) r3 q4 n3.symm (fun e => have z := r1.symm.trans e; ((q5 z).symm.trans (hY z)).symm)
        have a24 := gd_left hm h2 h4 (q2.trans r2.symm) q4 r4 n4 (fun e => have z := q2.symm.trans e; (q5 z).symm.trans ((hY z).trans (r5 z)))
        have b24 := gd_left hm h4 h2 (r2.trans q2.symm) r4 q4 n4.symm (fun e => have z := r2.symm.trans e; ((q5 z).symm.trans ((hY z).trans (r5 z))).symm)
        rw [btw_ord b13 a13 b23 a23, btw_ord b14 a14 b24 a24]
        exact hx
      · have hq : q = b := Classical.byContradiction fun c => hY fun e => absurd e c
        have m1 := gd_mixL hm h1 (q1.trans hq)
        have m2 := gd_mixL hm h2 (q2.trans hq)
        have m3 := gd_mixL hm h3 (r1.trans hq)
        have m4 := gd_mixL hm h4 (r2.trans hq)
        have q5 := q5 hq
        have r5 := r5 hq
        have hY : ¬ (C < x ∧ x < K ↔ C < u ∧ u < K) := fun e => hY fun _ => e
        unfold btwI
        by_cases c1 : C < x ∧ x < K
        · have c3 : ¬ (C < u ∧ u < K) := fun c => hY ⟨fun _ => c, fun _ => c1⟩
          have k1 := m1.1 c1; have k2 := m2.1 (q5.1 c1); have k3 := m3.2 c3; have k4 := m4.2 fun c => c3 (r5.2 c)
          clear h1 h2 h3 h4 hx hs q1 q2 q3 q4 q5 r1 r2 r3 r4 r5 hY c1 c3 m1 m2 m3 m4 f4 g4 n1 n2 n3 n4 hm hq w1 w2 w3 w4
          omega
        · have c3 : C < u ∧ u < K := Classical.byContradiction fun c => hY ⟨fun z => absurd z c1, fun z => absurd z c⟩
          have k1 := m1.2 c1; have k2 := m2.2 fun c => c1 (q5.2 c); have k3 := m3.1 c3; have k4 := m4.1 (r5.1 c3)
          clear h1 h2 h3 h4 hx hs q1 q2 q3 q4 q5 r1 r2 r3 r4 r5 hY c1 c3 m1 m2 m3 m4 f4 g4 n1 n2 n3 n4 hm hq w1 w2 w3 w4
          omega
set_option maxHeartbeats 4000000 in
theorem ff_covM {W C K D a b d e q x lo hi y x' lo' hi' y' : Int} (hm : Md W C K D a b d e) (h : Gd W C K D a b d e x lo hi y) (h' : Gd W C K D a b d e x' lo' hi' y') (hf : Ff C K D a b d e q x lo hi x' lo' hi') (h1 : a < q) (h2 : q < e) : ¬ btwI 0 y y' := by
  obtain ⟨f0, f1, f2, f3, f4⟩ := hf
  unfold Md Gd btwI at *
  obtain ⟨g, h⟩ := h
  obtain ⟨g', h'⟩ := h'
  rcases f0 with ⟨q1, q2, q3, q4, q5⟩ | ⟨q1, q2, q3, q4, q5⟩
  · rcases h with h | h | h | h | h | h | h | h <;> rcases h' with h' | h' | h' | h' | h' | h' | h' | h' <;> first | (clear f1 f2 f3 q5; omega) | omega
  · rcases h with h | h | h | h | h | h | h | h <;> rcases h' with h' | h' | h' | h' | h' | h' | h' | h' <;> first | (clear f1 f2 f3 q5; omega) | omega
set_option maxHeartbeats 4000000 in
/-- A part that covers an end of another. -/
theorem gd_cov {W C K D a b d e q x lo hi y z lz hz v : Int} (hm : Md W C K D a b d e) (h : Gd W C K D a b d e x lo hi y) (h' : Gd W C K D a b d e z lz hz v) (h1 : lz < q) (h2 : q < hz) (nC : z ≠ C) (nD : z ≠ D)
    (hs : (q = lo ∧ x ≠ D) ∨ (q = hi ∧ x ≠ C)) : ((x < z ↔ y < v) ∧ (z < x ↔ v < y)) ∨ (K < z ∧ z < D ∧ v < -W ∧ C < x ∧ x < K ∧ W < y ∧ d < q ∧ q ≤ b ∧ q = hi) ∨ (C < z ∧ z < K ∧ W < v ∧ K < x ∧ x < D ∧ y < -W ∧ d ≤ q ∧ q < b ∧ q = lo) := by
  unfold Md Gd at *
  obtain ⟨g, h⟩ := h
  obtain ⟨g', h'⟩ := h'
  rcases h with h | h | h | h | h | h | h | h <;> rcases h' with h' | h' | h' | h' | h' | h' | h' | h' <;> omega
theorem ff_X {C K D a b d e q x lo hi x' lo' hi' : Int} (hf : Ff C K D a b d e q x lo hi x' lo' hi') (hCK : C < K) (hq : q = hi) (hl : lo < hi) (ha : a ≤ d) (h1 : d < q) (h2 : q ≤ b) (hK : x' ≠ K) (hx : C < x ∧ x < K) : C < x' ∧ x' < K ∧ hi' = q := by
  unfold Ff btwI at hf; omega
theorem ff_Y {C K D a b d e q x lo hi x' lo' hi' : Int} (hf : Ff C K D a b d e q x lo hi x' lo' hi') (hCK : K < D) (hq : q = lo) (hl : lo < hi) (ha : b ≤ e) (h1 : d ≤ q) (h2 : q < b) (hK : x' ≠ K) (hx : K < x ∧ x < D) : K < x' ∧ x' < D ∧ lo' = q := by
  unfold Ff btwI at hf; omega
theorem gd_X {W C K D a b d e x lo hi y : Int} (hm : Md W C K D a b d e) (h : Gd W C K D a b d e x lo hi y) (hx : C < x ∧ x < K) (h1 : hi ≤ b) : W < y := by
  unfold Md Gd at *
  obtain ⟨g, h⟩ := h
  rcases h with h | h | h | h | h | h | h | h <;> omega
theorem gd_Y {W C K D a b d e x lo hi y : Int} (hm : Md W C K D a b d e) (h : Gd W C K D a b d e x lo hi y) (hx : K < x ∧ x < D) (h1 : d ≤ lo) : y < -W := by
  unfold Md Gd at *
  obtain ⟨g, h⟩ := h
  rcases h with h | h | h | h | h | h | h | h <;> omega
theorem gd_K {W C K D a b d e x lo hi y : Int} (hm : Md W C K D a b d e) (h : Gd W C K D a b d e x lo hi y) : x ≠ K := by
  unfold Md Gd at *
  obtain ⟨g, h⟩ := h
  rcases h with h | h | h | h | h | h | h | h <;> omega
theorem ff_symm {C K D a b d e q x lo hi x' lo' hi' : Int} (hf : Ff C K D a b d e q x lo hi x' lo' hi') : Ff C K D a b d e q x' lo' hi' x lo hi := by
  unfold Ff at *
  obtain ⟨f0, f1, f2, f3, f4⟩ := hf
  refine ⟨?_, fun a b c => f1 a b ?_, fun a b c => f2 a b ?_, fun a b c => f3 a b ?_, f4.symm⟩
  · rcases f0 with ⟨q1, q2, q3, q4, q5⟩ | ⟨q1, q2, q3, q4, q5⟩
    · exact .inl ⟨q2, q1, q4, q3, fun e => (q5 e).symm⟩
    · exact .inr ⟨q2, q1, q4, q3, fun e => (q5 e).symm⟩
  all_goals (unfold btwI at *; omega)
theorem ff_side {C K D a b d e q x lo hi x' lo' hi' : Int} (hf : Ff C K D a b d e q x lo hi x' lo' hi') : (q = lo ∧ x ≠ D) ∨ (q = hi ∧ x ≠ C) := by
  rcases hf.1 with ⟨q1, q2, q3, q4, q5⟩ | ⟨q1, q2, q3, q4, q5⟩
  · exact .inl ⟨q1.symm, q3⟩
  · exact .inr ⟨q1.symm, q3⟩
theorem ff_cov {W C K D a b d e q x lo hi y x' lo' hi' y' z lz hz v : Int} (hm : Md W C K D a b d e) (h : Gd W C K D a b d e x lo hi y) (h' : Gd W C K D a b d e x' lo' hi' y') (hf : Ff C K D a b d e q x lo hi x' lo' hi')
    (hk : Gd W C K D a b d e z lz hz v) (h1 : lz < q) (h2 : q < hz) (nC : z ≠ C) (nD : z ≠ D) (hb : ¬ btwI z x x') : ¬ btwI v y y' := by
  have w1 : lo < hi := by have := h.1; unfold Md at hm; omega
  have w2 : lo' < hi' := by have := h'.1; unfold Md at hm; omega
  have one := gd_cov hm h hk h1 h2 nC nD (ff_side hf)
  have two := gd_cov hm h' hk h1 h2 nC nD (ff_side (ff_symm hf))
  obtain ⟨m1, m2, m3, m4, m5, m6, m7⟩ := id hm
  rcases one with one | ⟨_, _, o1, o2, o3, o4, o5, o6, o7⟩ | ⟨_, _, o1, o2, o3, o4, o5, o6, o7⟩
  · rcases two with two | ⟨_, _, o1, o2, o3, o4, o5, o6, o7⟩ | ⟨_, _, o1, o2, o3, o4, o5, o6, o7⟩
    · rw [btw_ord one.2 one.1 two.2 two.1]; exact hb
    · obtain ⟨p1, p2, p3⟩ := ff_X (ff_symm hf) m2 o7 w2 m5 o5 o6 (gd_K hm h) ⟨o2, o3⟩
      have := gd_X hm h ⟨p1, p2⟩ (by omega)
      unfold btwI; omega
    · obtain ⟨p1, p2, p3⟩ := ff_Y (ff_symm hf) m3 o7 w2 m7 o5 o6 (gd_K hm h) ⟨o2, o3⟩
      have := gd_Y hm h ⟨p1, p2⟩ (by omega)
      unfold btwI; omega
  · obtain ⟨p1, p2, p3⟩ := ff_X hf m2 o7 w1 m5 o5 o6 (gd_K hm h') ⟨o2, o3⟩
    have := gd_X hm h' ⟨p1, p2⟩ (by omega)
    unfold btwI; omega
  · obtain ⟨p1, p2, p3⟩ := ff_Y hf m3 o7 w1 m7 o5 o6 (gd_K hm h') ⟨o2, o3⟩
    have := gd_Y hm h' ⟨p1, p2⟩ (by omega)
    unfold btwI; omega
theorem levels_bound (L : Nat → Int) : ∀ n, ∃ W : Int, 0 < W ∧ ∀ i, i < n → -W < L i ∧ L i < W := by
  intro n
  induction n with
  | zero => exact ⟨1, by omega, fun i hi => by omega⟩
  | succ n ih =>
    obtain ⟨W, h0, h⟩ := ih
    by_cases hp : 0 ≤ L n
    · refine ⟨W + L n + 1, by omega, fun i hi => ?_⟩
      by_cases e : i = n
      · subst e; omega
      · have := h i (by omega); omega
    · refine ⟨W - L n + 1, by omega, fun i hi => ?_⟩
      by_cases e : i = n
      · subst e; omega
      · have := h i (by omega); omega
/-- The places when the parts c, c + 1, c + 2 become one; the number that a fold had. -/
def cutP (c : Nat) (p : Nat → Int) (i : Nat) : Int := if i ≤ c then p i else p (i + 2)
def skipF (c m : Nat) : Nat := if m < c then m else m + 2
def loP (p : Nat → Int) (i : Nat) : Int := if p i < p (i + 1) then p i else p (i + 1)
def hiP (p : Nat → Int) (i : Nat) : Int := if p i < p (i + 1) then p (i + 1) else p i
theorem lohi (p : Nat → Int) (i : Nat) : (loP p i = p i ∧ hiP p i = p (i + 1) ∧ p i < p (i + 1)) ∨ (loP p i = p (i + 1) ∧ hiP p i = p i ∧ p (i + 1) ≤ p i) := by
  unfold loP hiP
  by_cases h : p i < p (i + 1)
  · rw [if_pos h, if_pos h]; omega
  · rw [if_neg h, if_neg h]; omega
/-- The new level of a part. -/
def newL (W C K D b d : Int) (p L : Nat → Int) (i : Nat) : Int :=
  if L i < C then L i - 4 * W else if D < L i then L i + 4 * W else if L i = C ∨ L i = D then 0 else if (L i < K ∧ b ≤ loP p i) ∨ (K < L i ∧ d ≤ loP p i) then L i - 2 * W else L i + 2 * W

set_option maxHeartbeats 4000000 in
/-- The middle of three parts with rising levels is a shortest part: the three may become one. -/
theorem crimp_fwd0 {n c : Nat} {p L : Nat → Int} (Z : Zig n p) (R : Rgt n p L) (hc : c + 2 < n) (hl : ∀ j, j < n → lenLe p (c + 1) j) (up : p c < p (c + 1)) (l1 : L c < L (c + 1)) (l2 : L (c + 1) < L (c + 2)) :
    ∃ L', Rgt (n - 2) (cutP c p) L' ∧ ∀ m, m + 1 < n - 2 → (L' m < L' (m + 1) ↔ L (skipF c m) < L (skipF c m + 1)) := by
  obtain ⟨W, hW0, hW⟩ := levels_bound L n
  obtain ⟨C, hC⟩ : ∃ C, C = L c := ⟨_, rfl⟩
  obtain ⟨K, hK⟩ : ∃ K, K = L (c + 1) := ⟨_, rfl⟩
  obtain ⟨D, hD⟩ : ∃ D, D = L (c + 2) := ⟨_, rfl⟩
  obtain ⟨a, ha⟩ : ∃ a, a = p c := ⟨_, rfl⟩
  obtain ⟨b, hb⟩ : ∃ b, b = p (c + 1) := ⟨_, rfl⟩
  obtain ⟨d, hd⟩ : ∃ d, d = p (c + 2) := ⟨_, rfl⟩
  obtain ⟨e, he⟩ : ∃ e, e = p (c + 3) := ⟨_, rfl⟩
  have z0 := Z.zig c (by omega)
  have z1 := Z.zig (c + 1) (by omega)
  have y1 := Z.ne (c + 1) (by omega)
  have y2 := Z.ne (c + 2) (by omega)
  simp only [Nat.add_assoc, Nat.reduceAdd] at z0 z1 y1 y2
  have hM : Md W C K D a b d e := by
    have k0 := hl c (by omega)
    have k2 := hl (c + 2) hc
    have w0 := hW c (by omega)
    have w2 := hW (c + 2) hc
    unfold lenLe at k0 k2
    simp only [Nat.add_assoc, Nat.reduceAdd] at k0 k2
    unfold Md
    omega
  obtain ⟨m1, m2, m3, m4, m5, m6, m7⟩ := id hM
  have hne : ∀ i j, i < n → j < n → i ≠ j → L i ≠ L j := fun i j hi hj hij e => hij (R.inj i j hi hj e)
  have gd : ∀ i, i < n → i ≠ c + 1 → Gd W C K D a b d e (L i) (loP p i) (hiP p i) (newL W C K D b d p L i) := fun i hi hic => by
    have w := hW i hi
    have hk := hl i hi
    have c0 := R.cov c i (by omega) hi
    have c1 := R.cov (c + 1) i (by omega) hi
    simp only [Nat.add_assoc, Nat.reduceAdd] at c0 c1
    rw [← hC, ← hK, ← hb] at c0
    rw [← hK, ← hD, ← hd] at c1
    have e1 := hne i (c + 1) hi (by omega) hic
    rw [← hK] at e1
    have eC : L i = C → i = c := fun e => R.inj i c hi (by omega) (by omega)
    have eD : L i = D → i = c + 2 := fun e => R.inj i (c + 2) hi (by omega) (by omega)
    have lh := lohi p i
    have ne := Z.ne i hi
    unfold lenLe at hk
    simp only [Nat.add_assoc, Nat.reduceAdd] at hk
    rw [← hb, ← hd] at hk
    unfold Gd
    refine ⟨⟨w.1, w.2, by omega⟩, ?_⟩
    unfold newL
    by_cases q1 : L i < C
    · rw [if_pos q1]; exact .inl ⟨q1, rfl⟩
    rw [if_neg q1]
    by_cases q2 : D < L i
    · rw [if_pos q2]; exact .inr (.inr (.inr (.inr (.inr (.inr (.inr ⟨q2, rfl⟩))))))
    rw [if_neg q2]
    by_cases q3 : L i = C
    · rw [if_pos (.inl q3)]
      obtain rfl := eC q3
      refine .inr (.inl ⟨q3, ?_, ?_, rfl⟩) <;> omega
    by_cases q4 : L i = D
    · rw [if_pos (.inr q4)]
      obtain rfl := eD q4
      simp only [Nat.add_assoc, Nat.reduceAdd] at lh
      refine .inr (.inr (.inr (.inr (.inr (.inr (.inl ⟨q4, ?_, ?_, rfl⟩)))))) <;> omega
    rw [if_neg (by omega)]
    by_cases q5 : L i < K
    · have c0 := c0 (.inl ⟨by omega, q5⟩)
      by_cases q6 : b ≤ loP p i
      · rw [if_pos (.inl ⟨q5, q6⟩)]; exact .inr (.inr (.inl ⟨by omega, q5, q6, rfl⟩))
      · rw [if_neg (by omega)]
        refine .inr (.inr (.inr (.inl ⟨by omega, q5, ?_, rfl⟩)))
        have c0' : ¬ btwI b (p i) (p (i + 1)) := c0
        unfold btwI at c0'
        omega
    · have c1 := c1 (.inl ⟨by omega, by omega⟩)
      by_cases q6 : d ≤ loP p i
      · rw [if_pos (.inr ⟨by omega, q6⟩)]; exact .inr (.inr (.inr (.inr (.inl ⟨by omega, by omega, q6, rfl⟩))))
      · rw [if_neg (by omega)]
        refine .inr (.inr (.inr (.inr (.inr (.inl ⟨by omega, by omega, ?_, rfl⟩)))))
        have c1' : ¬ btwI d (p i) (p (i + 1)) := c1
        unfold btwI at c1'
        omega
  have ff : ∀ m, m + 1 < n → m ≠ c → m ≠ c + 1 → Ff C K D a b d e (p (m + 1)) (L m) (loP p m) (hiP p m) (L (m + 1)) (loP p (m + 1)) (hiP p (m + 1)) := fun m hm n0 n1 => by
    have v0 := R.cov m c hm (by omega)
    have v1 := R.cov m (c + 1) hm (by omega)
    have v2 := R.cov m (c + 2) hm (by omega)
    have x0 := R.crs c m (by omega) hm
    have x1 := R.crs (c + 1) m (by omega) hm
    have zm := Z.zig m hm
    have ym := Z.ne m (by omega)
    have ym1 := Z.ne (m + 1) hm
    have lh := lohi p m
    have lh1 := lohi p (m + 1)
    have hnn := hne m (m + 1) (by omega) hm (by omega)
    have g1 : L m ≠ C := fun e => n0 (R.inj m c (by omega) (by omega) (by omega))
    have g2 : L m = D → m = c + 2 := fun e => R.inj m (c + 2) (by omega) (by omega) (by omega)
    have g3 : L (m + 1) = C → m + 1 = c := fun e => R.inj (m + 1) c hm (by omega) (by omega)
    have g4 : L (m + 1) ≠ D := fun e => n1 (by have := R.inj (m + 1) (c + 2) hm (by omega) (by omega); omega)
    simp only [Nat.add_assoc, Nat.reduceAdd] at *
    rw [← hC, ← ha, ← hb] at v0
    rw [← hK, ← hb, ← hd] at v1
    rw [← hD, ← hd, ← he] at v2
    rw [← hC, ← hK, ← ha, ← hb] at x0
    rw [← hK, ← hD, ← hb, ← hd] at x1
    refine ⟨?_, fun q1 q2 q => v0 q (.inl ⟨q1, q2⟩), fun q1 q2 q => v1 q (.inr ⟨q1, q2⟩), fun q1 q2 q => v2 q (.inl ⟨q1, q2⟩), hnn⟩
    by_cases hs : p m < p (m + 1)
    · right
      refine ⟨by omega, by omega, g1, ?_, fun q => ?_⟩
      · intro q
        have := g3 q
        rw [this, ← ha] at zm hs
        rw [show m + 2 = c + 1 by omega, ← hb] at zm
        clear v0 v1 v2 x0 x1
        omega
      · have := x0 q.symm ⟨fun _ => hs, fun _ => by omega⟩
        unfold btwI at this
        omega
    · left
      refine ⟨by omega, by omega, ?_, g4, fun q => ?_⟩
      · intro q
        have := g2 q
        rw [this] at hs
        simp only [Nat.add_assoc, Nat.reduceAdd] at hs
        rw [← hd, ← he] at hs
        clear v0 v1 v2 x0 x1
        omega
      · have := x1 q.symm ⟨fun h => by omega, fun h => by omega⟩
        unfold btwI at this
        omega
  have hN0 : newL W C K D b d p L c = 0 := by
    unfold newL
    rw [if_neg (by omega), if_neg (by omega), if_pos (.inl hC.symm)]
  have hN2 : newL W C K D b d p L (c + 2) = 0 := by
    unfold newL
    rw [if_neg (by omega), if_neg (by omega), if_pos (.inr hD.symm)]
  generalize newL W C K D b d p L = N at gd hN0 hN2
  obtain ⟨L', hL'⟩ : ∃ L' : Nat → Int, ∀ i, L' i = if i ≤ c then N i else N (i + 2) := ⟨_, fun _ => rfl⟩
  have hF : ∀ m, m + 1 < n - 2 → (L' m = N (skipF c m) ∧ L' (m + 1) = N (skipF c m + 1)) ∧ cutP c p (m + 1) = p (skipF c m + 1) ∧ (cutP c p m < cutP c p (m + 1) ↔ p (skipF c m) < p (skipF c m + 1)) ∧ skipF c m + 1 < n ∧ skipF c m ≠ c ∧ skipF c m ≠ c + 1 := fun m hm => by
    unfold skipF cutP
    rw [hL', hL']
    by_cases q1 : m < c
    · rw [if_pos q1, if_pos (by omega), if_pos (by omega), if_pos (by omega), if_pos (by omega)]
      exact ⟨⟨rfl, rfl⟩, rfl, Iff.rfl, by omega, by omega, by omega⟩
    · rw [if_neg q1, if_neg (show ¬ m + 1 ≤ c by omega), if_neg (show ¬ m + 1 ≤ c by omega)]
      by_cases q2 : m = c
      · subst q2
        rw [if_pos (Nat.le_refl _), if_pos (Nat.le_refl _), hN0, hN2]
        simp only [Nat.add_assoc, Nat.reduceAdd]
        rw [← ha, ← he, ← hd]
        exact ⟨⟨trivial, trivial⟩, trivial, by omega, by omega, by omega, by omega⟩
      · rw [if_neg (by omega), if_neg (by omega)]
        simp only [Nat.add_assoc, Nat.reduceAdd]
        exact ⟨⟨trivial, trivial⟩, trivial, trivial, by omega, by omega, by omega⟩
  refine ⟨L', ⟨fun i j hi hj hij => ?_, fun k s hk hs b1 b2 => ?_, fun k m hk hm hp hdir => ?_⟩, fun m hm => ?_⟩
  · rw [hL', hL'] at hij
    by_cases qi : i ≤ c <;> by_cases qj : j ≤ c
    · rw [if_pos qi, if_pos qj] at hij
      exact R.inj i j (by omega) (by omega) (gd_inj hM (gd i (by omega) (by omega)) (gd j (by omega) (by omega)) (by rw [hD]; exact hne _ _ (by omega) hc (by omega)) (by rw [hD]; exact hne _ _ (by omega) hc (by omega)) hij)
    · rw [if_pos qi, if_neg qj] at hij
      have := R.inj i (j + 2) (by omega) (by omega) (gd_inj hM (gd i (by omega) (by omega)) (gd (j + 2) (by omega) (by omega)) (by rw [hD]; exact hne _ _ (by omega) hc (by omega)) (by rw [hD]; exact hne _ _ (by omega) hc (by omega)) hij)
      omega
    · rw [if_neg qi, if_pos qj] at hij
      have := R.inj (i + 2) j (by omega) (by omega) (gd_inj hM (gd (i + 2) (by omega) (by omega)) (gd j (by omega) (by omega)) (by rw [hD]; exact hne _ _ (by omega) hc (by omega)) (by rw [hD]; exact hne _ _ (by omega) hc (by omega)) hij)
      omega
    · rw [if_neg qi, if_neg qj] at hij
      have := R.inj (i + 2) (j + 2) (by omega) (by omega) (gd_inj hM (gd (i + 2) (by omega) (by omega)) (gd (j + 2) (by omega) (by omega)) (by rw [hD]; exact hne _ _ (by omega) hc (by omega)) (by rw [hD]; exact hne _ _ (by omega) hc (by omega)) hij)
      omega
  · obtain ⟨⟨f1, f2⟩, f3, f4, f5, f6, f7⟩ := hF k hk
    rw [f1, f2] at b1
    rw [f3] at b2
    have G1 := gd (skipF c k) (by omega) f7
    have G2 := gd (skipF c k + 1) f5 (by omega)
    have F := ff (skipF c k) f5 f6 f7
    by_cases q1 : s = c
    · subst q1
      rw [hL', if_pos (Nat.le_refl _), hN0] at b1
      unfold cutP at b2
      rw [if_pos (Nat.le_refl _), if_neg (by omega), show s + 1 + 2 = s + 3 by omega, ← ha, ← he] at b2
      have b2' : a < p (skipF s k + 1) ∧ p (skipF s k + 1) < e := by unfold btwI at b2; omega
      exact ff_covM hM G1 G2 F b2'.1 b2'.2 b1
    · obtain ⟨t, ht, t1, t2, t3, t4, t5, t6⟩ : ∃ t, t < n ∧ L' s = N t ∧ cutP c p s = p t ∧ cutP c p (s + 1) = p (t + 1) ∧ t ≠ c ∧ t ≠ c + 1 ∧ t ≠ c + 2 := by
        unfold cutP
        by_cases q2 : s < c
        · exact ⟨s, by omega, by rw [hL', if_pos (by omega)], by rw [if_pos (by omega)], by rw [if_pos (by omega)], by omega, by omega, by omega⟩
        · exact ⟨s + 2, by omega, by rw [hL', if_neg (by omega)], by rw [if_neg (by omega)], by rw [if_neg (by omega), show s + 1 + 2 = s + 2 + 1 by omega], by omega, by omega, by omega⟩
      rw [t1] at b1
      rw [t2, t3] at b2
      have G3 := gd t ht t5
      have lh := lohi p t
      have b2' : loP p t < p (skipF c k + 1) ∧ p (skipF c k + 1) < hiP p t := by unfold btwI at b2; omega
      exact ff_cov hM G1 G2 F G3 b2'.1 b2'.2 (by rw [hC]; exact hne _ _ ht (by omega) t4) (by rw [hD]; exact hne _ _ ht hc t6) (fun h => R.cov (skipF c k) t f5 ht h b2) b1
  · obtain ⟨⟨f1, f2⟩, f3, f4, f5, f6, f7⟩ := hF k hk
    obtain ⟨⟨g1, g2⟩, g3, g4, g5, g6, g7⟩ := hF m hm
    rw [f1, f2, g1, g2]
    rw [f3, g3] at hp
    rw [f4, g4] at hdir
    by_cases hkm : skipF c k = skipF c m
    · rw [hkm]; unfold btwI; omega
    · have zk := Z.zig _ f5
      have zm := Z.zig _ g5
      have yk := Z.ne (skipF c k) (by omega)
      have yk1 := Z.ne (skipF c k + 1) (by omega)
      have ym := Z.ne (skipF c m) (by omega)
      have ym1 := Z.ne (skipF c m + 1) (by omega)
      have F := ff (skipF c k) f5 f6 f7
      have F' := ff (skipF c m) g5 g6 g7
      have lh := lohi p (skipF c k)
      have lh' := lohi p (skipF c m)
      generalize skipF c k = s at *
      generalize skipF c m = t at *
      have d1 : s + 1 ≠ t := fun e => by subst e; simp only [Nat.add_assoc, Nat.reduceAdd] at *; omega
      have d2 : t + 1 ≠ s := fun e => by subst e; simp only [Nat.add_assoc, Nat.reduceAdd] at *; omega
      rw [← hp] at F'
      exact ff_crs hM (gd s (by omega) f7) (gd (s + 1) f5 (by omega)) F (gd t (by omega) g7) (gd (t + 1) g5 (by omega)) F' (by omega) (hne _ _ (by omega) (by omega) hkm) (hne _ _ (by omega) g5 (by omega)) (hne _ _ f5 (by omega) d1) (hne _ _ f5 g5 (by omega)) (R.crs s t f5 g5 hp hdir)
  · obtain ⟨⟨f1, f2⟩, f3, f4, f5, f6, f7⟩ := hF m hm
    rw [f1, f2]
    exact (ff_dir hM (gd _ (by omega) f7) (gd _ f5 (by omega)) (ff _ f5 f6 f7)).symm

end Go.Proofs.Ytahbflbhkalehaa
