/-
  Plain facts on levels and places: an end beside its neighbour, a part that stands for three, and so each step keeps what has right layers, to and fro. No program in sight.
-/
import Derived.Test.YtahbflbhkalehaaPlainX
namespace Go.Proofs.Ytahbflbhkalehaa
open Go.RowKit

theorem Rgt.neg {n : Nat} {p L : Nat → Int} (R : Rgt n p L) : Rgt n p (fun i => - L i) := by
  refine ⟨fun i j hi hj h => R.inj i j hi hj (by omega), fun k s hk hs h => R.cov k s hk hs (by unfold btwI at *; omega), fun k m hk hm hp hd => ?_⟩
  have := R.crs k m hk hm hp hd
  unfold btwI at *
  omega
theorem Zig.mirror {n : Nat} {p : Nat → Int} (Z : Zig n p) (c : Int) : Zig n (fun i => c - p i) := by
  refine ⟨fun i hi h => Z.ne i hi (by omega), fun i hi => ?_⟩
  have h1 := Z.zig i hi
  have h2 := Z.ne i (by omega)
  have h3 := Z.ne (i + 1) hi
  simp only [Nat.add_assoc, Nat.reduceAdd] at *
  omega
theorem Rgt.mirror {n : Nat} {p L : Nat → Int} (Z : Zig n p) (R : Rgt n p L) (c : Int) : Rgt n (fun i => c - p i) L := by
  refine ⟨R.inj, fun k s hk hs h h2 => R.cov k s hk hs h (by unfold btwI at *; omega), fun k m hk hm hp hd => ?_⟩
  have h2 := Z.ne k (by omega)
  have h3 := Z.ne m (by omega)
  exact R.crs k m hk hm (by omega) (by omega)
theorem Zig.rev {n : Nat} {p : Nat → Int} (Z : Zig n p) : Zig n (fun i => p (n - i)) := by
  refine ⟨fun i hi h => ?_, fun i hi => ?_⟩
  · have := Z.ne (n - (i + 1)) (by omega)
    rw [show n - (i + 1) + 1 = n - i by omega] at this
    exact this h.symm
  · have h1 := Z.zig (n - (i + 2)) (by omega)
    have h2 := Z.ne (n - (i + 2)) (by omega)
    have h3 := Z.ne (n - (i + 1)) (by omega)
    rw [show n - (i + 2) + 1 = n - (i + 1) by omega] at *
    rw [show n - (i + 2) + 2 = n - i by omega] at *
    rw [show n - (i + 1) + 1 = n - i by omega] at *
    show p (n - i) < p (n - (i + 1)) ↔ p (n - (i + 2)) < p (n - (i + 1))
    omega
theorem Rgt.rev {n : Nat} {p L : Nat → Int} (Z : Zig n p) (R : Rgt n p L) : Rgt n (fun i => p (n - i)) (fun i => L (n - 1 - i)) := by
  refine ⟨fun i j hi hj h => ?_, fun k s hk hs h h2 => ?_, fun k m hk hm hp hd => ?_⟩
  · have := R.inj (n - 1 - i) (n - 1 - j) (by omega) (by omega) h
    omega
  · have := R.cov (n - 2 - k) (n - 1 - s) (by omega) (by omega)
    rw [show n - 2 - k + 1 = n - 1 - k by omega, show n - 1 - s + 1 = n - s by omega] at this
    rw [show n - 1 - (k + 1) = n - 2 - k by omega] at h
    rw [show n - (k + 1) = n - 1 - k by omega, show n - (s + 1) = n - 1 - s by omega] at h2
    refine this ?_ ?_
    · unfold btwI at *; omega
    · unfold btwI at *; omega
  · have := R.crs (n - 2 - k) (n - 2 - m) (by omega) (by omega)
    have e1 := Z.zig (n - 2 - k) (by omega)
    have e2 := Z.zig (n - 2 - m) (by omega)
    have e3 := Z.ne (n - 1 - k) (by omega)
    have e4 := Z.ne (n - 1 - m) (by omega)
    rw [show n - 2 - k + 1 = n - 1 - k by omega, show n - 2 - m + 1 = n - 1 - m by omega] at this
    rw [show n - 2 - k + 1 = n - 1 - k by omega, show n - 2 - k + 2 = n - k by omega] at e1
    rw [show n - 2 - m + 1 = n - 1 - m by omega, show n - 2 - m + 2 = n - m by omega] at e2
    rw [show n - 1 - k + 1 = n - k by omega] at e3
    rw [show n - 1 - m + 1 = n - m by omega] at e4
    rw [show n - (k + 1) = n - 1 - k by omega, show n - (m + 1) = n - 1 - m by omega] at hp hd
    have := this hp (by omega)
    show btwI (L (n - 1 - m)) (L (n - 1 - k)) (L (n - 1 - (k + 1))) ↔ btwI (L (n - 1 - (m + 1))) (L (n - 1 - k)) (L (n - 1 - (k + 1)))
    rw [show n - 1 - (k + 1) = n - 2 - k by omega, show n - 1 - (m + 1) = n - 2 - m by omega]
    unfold btwI at *
    omega
theorem lenLe_mirror {p : Nat → Int} {i j : Nat} (h : lenLe p i j) (c : Int) : lenLe (fun i => c - p i) i j := by
  unfold lenLe at *; dsimp only; omega

/-- An end that is no longer than its neighbour lies right beside it. -/
theorem end_bwd {n : Nat} {p L' : Nat → Int} (hn : 1 ≤ n) (Z : Zig (n + 1) p) (hl : lenLe p 0 1) (R : Rgt n (fun i => p (i + 1)) L') (b : Bool) :
    ∃ L, Rgt (n + 1) p L ∧ (L 0 < L 1 ↔ b = true) ∧ ∀ m, m + 1 < n → (L (m + 1) < L (m + 2) ↔ L' m < L' (m + 1)) := by
  obtain ⟨v, hv, hv2⟩ : ∃ v : Int, (v = 1 ∨ v = -1) ∧ (v = -1 ↔ b = true) := by
    cases b
    · exact ⟨1, .inl rfl, by decide⟩
    · exact ⟨-1, .inr rfl, by decide⟩
  obtain ⟨N, h0, hN⟩ : ∃ N : Nat → Int, N 0 = 2 * L' 0 + v ∧ ∀ i, N (i + 1) = 2 * L' i :=
    ⟨fun i => match i with | 0 => 2 * L' 0 + v | i + 1 => 2 * L' i, rfl, fun _ => rfl⟩
  have h1 := hN 0
  rw [Nat.zero_add] at h1
  have hne : ∀ i j, i < n → j < n → i ≠ j → L' i ≠ L' j := fun i j hi hj hij e => hij (R.inj i j hi hj e)
  refine ⟨N, ⟨fun i j hi hj hij => ?_, fun k s hk hs c1 c2 => ?_, fun k m hk hm hp hd => ?_⟩, by rw [h0, h1, ← hv2]; omega, fun m hm => by rw [hN, show m + 2 = m + 1 + 1 by omega, hN]; omega⟩
  · match i, j with
    | 0, 0 => rfl
    | 0, j + 1 => rw [h0, hN] at hij; omega
    | i + 1, 0 => rw [h0, hN] at hij; omega
    | i + 1, j + 1 => rw [hN, hN] at hij; rw [R.inj i j (by omega) (by omega) (by omega)]
  · match k with
    | 0 =>
      rw [h0, Nat.zero_add, h1] at c1
      unfold btwI at c1
      match s with
      | 0 => rw [h0] at c1; omega
      | s + 1 => rw [hN] at c1; omega
    | k + 1 =>
      rw [hN, show k + 1 + 1 = (k + 1) + 1 from rfl, hN] at c1
      match s with
      | 0 =>
        rw [h0] at c1
        rw [Nat.zero_add] at c2
        have z0 := Z.zig 0 (by omega)
        have y0 := Z.ne 0 (by omega)
        have y1 := Z.ne 1 (by omega)
        have cc := R.cov k 0 (by omega) (by omega)
        have d1 : k ≠ 0 → L' k ≠ L' 0 := fun h => hne k 0 (by omega) (by omega) h
        have d2 := hne (k + 1) 0 (by omega) (by omega) (by omega)
        simp only [Nat.reduceAdd, Nat.zero_add] at *
        unfold lenLe btwI at *
        simp only [Nat.reduceAdd, Nat.zero_add] at *
        by_cases hk0 : k = 0
        · subst hk0
          simp only [Nat.reduceAdd, Nat.zero_add] at *
          clear cc
          omega
        · have d1 := d1 hk0
          exact cc (by omega) (by omega)
      | s + 1 =>
        rw [hN] at c1
        refine R.cov k s (by omega) (by omega) ?_ c2
        unfold btwI at *; omega
  · match k with
    | 0 =>
      rw [h0, Nat.zero_add, h1]
      unfold btwI
      match m with
      | 0 => rw [h0, Nat.zero_add, h1]; omega
      | m + 1 => rw [hN, hN]; omega
    | k + 1 =>
      rw [hN, hN]
      match m with
      | 0 =>
        rw [h0, Nat.zero_add, h1]
        have z0 := Z.zig 0 (by omega)
        have y0 := Z.ne 0 (by omega)
        have y1 := Z.ne 1 (by omega)
        have hk0 : k ≠ 0 := fun e => by
          subst e
          simp only [Nat.reduceAdd, Nat.zero_add] at *
          omega
        have d1 := hne k 0 (by omega) (by omega) hk0
        have d2 := hne (k + 1) 0 (by omega) (by omega) (by omega)
        unfold btwI
        omega
      | m + 1 =>
        rw [hN, hN]
        have := R.crs k m (by omega) (by omega) hp hd
        unfold btwI at *
        omega

theorem Zig.cut {n c : Nat} {p : Nat → Int} (Z : Zig n p) (hc : c + 2 < n) (h1 : lenLe p (c + 1) c) (h2 : lenLe p (c + 1) (c + 2)) : Zig (n - 2) (cutP c p) := by
  have z0 := Z.zig c (by omega)
  have z1 := Z.zig (c + 1) (by omega)
  have y0 := Z.ne c (by omega)
  have y1 := Z.ne (c + 1) (by omega)
  have y2 := Z.ne (c + 2) (by omega)
  unfold lenLe at h1 h2
  simp only [Nat.add_assoc, Nat.reduceAdd] at *
  refine ⟨fun i hi => ?_, fun i hi => ?_⟩
  · unfold cutP
    by_cases q1 : i < c
    · rw [if_pos (by omega), if_pos (by omega)]; exact Z.ne i (by omega)
    · rw [if_neg (show ¬ i + 1 ≤ c by omega)]
      by_cases q2 : i = c
      · subst q2; rw [if_pos (by omega)]; simp only [Nat.add_assoc, Nat.reduceAdd]; omega
      · rw [if_neg (by omega)]; exact Z.ne (i + 2) (by omega)
  · unfold cutP
    by_cases q1 : i + 1 < c
    · rw [if_pos (by omega), if_pos (by omega), if_pos (by omega)]; exact Z.zig i (by omega)
    · rw [if_neg (show ¬ i + 2 ≤ c by omega)]
      by_cases q2 : i + 1 = c
      · subst q2
        rw [if_pos (by omega), if_pos (by omega)]
        have := Z.zig i (by omega)
        have y := Z.ne i (by omega)
        simp only [Nat.add_assoc, Nat.reduceAdd] at *
        omega
      · rw [if_neg (show ¬ i + 1 ≤ c by omega)]
        by_cases q3 : i = c
        · subst q3
          rw [if_pos (by omega)]
          have := Z.zig (i + 2) (by omega)
          have y := Z.ne (i + 3) (by omega)
          simp only [Nat.add_assoc, Nat.reduceAdd] at *
          omega
        · rw [if_neg (by omega)]; exact Z.zig (i + 2) (by omega)
/-- The part that a part becomes; the number that a fold gets. -/
def glueP (c i : Nat) : Nat := if i ≤ c then i else if i ≤ c + 2 then c else i - 2
def backF (c m : Nat) : Nat := if m < c then m else m - 2

set_option maxHeartbeats 4000000 in
/-- A part that stands for three: the three lie side by side. -/
theorem crimp_bwd0 {n c : Nat} {p L' : Nat → Int} (Z : Zig n p) (hc : c + 2 < n) (k1 : lenLe p (c + 1) c) (k2 : lenLe p (c + 1) (c + 2)) (up : p c < p (c + 1)) (R : Rgt (n - 2) (cutP c p) L') :
    ∃ L, Rgt n p L ∧ L c < L (c + 1) ∧ L (c + 1) < L (c + 2) ∧ ∀ m, m + 1 < n → m ≠ c → m ≠ c + 1 → (L m < L (m + 1) ↔ L' (backF c m) < L' (backF c m + 1)) := by
  have zz0 := Z.zig c (by omega)
  have zz1 := Z.zig (c + 1) (by omega)
  have yy0 := Z.ne c (by omega)
  have yy1 := Z.ne (c + 1) (by omega)
  have yy2 := Z.ne (c + 2) (by omega)
  unfold lenLe at k1 k2
  simp only [Nat.add_assoc, Nat.reduceAdd] at *
  obtain ⟨a, ha⟩ : ∃ a, a = p c := ⟨_, rfl⟩
  obtain ⟨b, hb⟩ : ∃ b, b = p (c + 1) := ⟨_, rfl⟩
  obtain ⟨d, hd⟩ : ∃ d, d = p (c + 2) := ⟨_, rfl⟩
  obtain ⟨e, he⟩ : ∃ e, e = p (c + 3) := ⟨_, rfl⟩
  have hM : a ≤ d ∧ d < b ∧ b ≤ e := by omega
  clear k1 k2 zz0 zz1 yy0 yy1 yy2
  obtain ⟨m1, m2, m3⟩ := hM
  have hne : ∀ i j, i < n - 2 → j < n - 2 → i ≠ j → L' i ≠ L' j := fun i j hi hj hij e => hij (R.inj i j hi hj e)
  obtain ⟨N, hN⟩ : ∃ N : Nat → Int, ∀ i, N i = 3 * L' (glueP c i) + (if i = c then -1 else if i = c + 2 then 1 else 0) := ⟨_, fun _ => rfl⟩
  have hNb : ∀ i, 3 * L' (glueP c i) - 1 ≤ N i ∧ N i ≤ 3 * L' (glueP c i) + 1 := fun i => by
    rw [hN]; by_cases q1 : i = c
    · rw [if_pos q1]; omega
    · rw [if_neg q1]; by_cases q2 : i = c + 2
      · rw [if_pos q2]; omega
      · rw [if_neg q2]; omega
  have g0 : glueP c c = c := if_pos (Nat.le_refl _)
  have g1 : glueP c (c + 1) = c := by unfold glueP; rw [if_neg (by omega), if_pos (by omega)]
  have g2 : glueP c (c + 2) = c := by unfold glueP; rw [if_neg (by omega), if_pos (by omega)]
  have N0 : N c = 3 * L' c - 1 := by rw [hN, g0, if_pos rfl]; rfl
  have N1 : N (c + 1) = 3 * L' c := by rw [hN, g1, if_neg (by omega), if_neg (by omega)]; omega
  have N2 : N (c + 2) = 3 * L' c + 1 := by rw [hN, g2, if_neg (by omega), if_pos rfl]
  have hNo : ∀ i, i ≠ c → i ≠ c + 2 → N i = 3 * L' (glueP c i) := fun i h1 h2 => by rw [hN, if_neg h1, if_neg h2]; omega
  have hgl : ∀ i, i < n → glueP c i < n - 2 := fun i hi => by
    unfold glueP
    by_cases q1 : i ≤ c
    · rw [if_pos q1]; omega
    · rw [if_neg q1]; by_cases q2 : i ≤ c + 2
      · rw [if_pos q2]; omega
      · rw [if_neg q2]; omega
  have hgc : ∀ i, glueP c i = c → i = c ∨ i = c + 1 ∨ i = c + 2 := fun i hi => by
    unfold glueP at hi
    by_cases q1 : i ≤ c
    · rw [if_pos q1] at hi; omega
    · rw [if_neg q1] at hi; by_cases q2 : i ≤ c + 2
      · omega
      · rw [if_neg q2] at hi; omega
  have hgg : ∀ i j, glueP c i = glueP c j → i = j ∨ glueP c i = c := fun i j h => by
    unfold glueP at *
    by_cases q1 : i ≤ c
    · rw [if_pos q1] at *
      by_cases q2 : j ≤ c
      · rw [if_pos q2] at h; exact .inl h
      · rw [if_neg q2] at h
        by_cases q3 : j ≤ c + 2
        · rw [if_pos q3] at h; exact .inr h
        · rw [if_neg q3] at h; omega
    · rw [if_neg q1] at *
      by_cases q4 : i ≤ c + 2
      · rw [if_pos q4]; exact .inr rfl
      · rw [if_neg q4] at *
        by_cases q2 : j ≤ c
        · rw [if_pos q2] at h; omega
        · rw [if_neg q2] at h
          by_cases q3 : j ≤ c + 2
          · rw [if_pos q3] at h; exact .inr h
          · rw [if_neg q3] at h; omega
  have cmp : ∀ i j, i < n → j < n → glueP c i ≠ glueP c j → (N i < N j ↔ L' (glueP c i) < L' (glueP c j)) := fun i j hi hj h => by
    have h1 := hne _ _ (hgl i hi) (hgl j hj) h
    have h2 := hNb i
    have h3 := hNb j
    omega
  have hF : ∀ m, m + 1 < n → m ≠ c → m ≠ c + 1 → glueP c m = backF c m ∧ glueP c (m + 1) = backF c m + 1 ∧ cutP c p (backF c m + 1) = p (m + 1) ∧ (cutP c p (backF c m) < cutP c p (backF c m + 1) ↔ p m < p (m + 1)) ∧ backF c m + 1 < n - 2 := fun m hm n0 n1 => by
    unfold glueP backF cutP
    by_cases q : m < c
    · rw [if_pos (by omega), if_pos q, if_pos (by omega), if_pos (by omega), if_pos (by omega)]
      exact ⟨rfl, rfl, rfl, Iff.rfl, by omega⟩
    · rw [if_neg (show ¬ m ≤ c by omega), if_neg q, if_neg (show ¬ m + 1 ≤ c by omega), if_neg (show ¬ m + 1 ≤ c + 2 by omega), if_neg (show ¬ m - 2 + 1 ≤ c by omega), show m - 2 + 1 + 2 = m + 1 by omega]
      refine ⟨?_, by omega, rfl, ?_, by omega⟩
      · by_cases q2 : m ≤ c + 2
        · rw [if_pos q2]; omega
        · rw [if_neg q2]
      · by_cases q2 : m - 2 ≤ c
        · rw [if_pos q2, show m - 2 = c by omega]
          obtain rfl : m = c + 2 := by omega
          simp only [Nat.add_assoc, Nat.reduceAdd]
          rw [← ha, ← he, ← hd]; omega
        · rw [if_neg q2, show m - 2 + 2 = m by omega]
  have hS : ∀ s q, s < n → btwI q (p s) (p (s + 1)) → btwI q (cutP c p (glueP c s)) (cutP c p (glueP c s + 1)) := fun s q hs h => by
    by_cases q1 : s < c
    · have hg : glueP c s = s := if_pos (by omega)
      rw [hg]
      unfold cutP
      rw [if_pos (by omega), if_pos (by omega)]; exact h
    · by_cases q2 : s ≤ c + 2
      · have hg : glueP c s = c := by
          rcases (show s = c ∨ s = c + 1 ∨ s = c + 2 by omega) with rfl | rfl | rfl
          · exact g0
          · exact g1
          · exact g2
        rw [hg]
        unfold cutP
        rw [if_pos (Nat.le_refl _), if_neg (by omega), show c + 1 + 2 = c + 3 by omega, ← ha, ← he]
        rcases (show s = c ∨ s = c + 1 ∨ s = c + 2 by omega) with rfl | rfl | rfl
        · rw [← ha, ← hb] at h; unfold btwI at *; omega
        · rw [show c + 1 + 1 = c + 2 by omega, ← hb, ← hd] at h; unfold btwI at *; omega
        · rw [show c + 2 + 1 = c + 3 by omega, ← hd, ← he] at h; unfold btwI at *; omega
      · have hg : glueP c s = s - 2 := by unfold glueP; rw [if_neg (by omega), if_neg (by omega)]
        rw [hg]
        unfold cutP
        rw [if_neg (by omega), if_neg (by omega), show s - 2 + 2 = s by omega, show s - 2 + 1 + 2 = s + 1 by omega]; exact h
  refine ⟨N, ⟨fun i j hi hj hij => ?_, fun m s hm hs b1 b2 => ?_, fun k m hk hm hp hdir => ?_⟩, by omega, by omega, fun m hm n0 n1 => ?_⟩
  · have e : glueP c i = glueP c j := Classical.byContradiction fun h => by
      have h1 := cmp i j hi hj h
      have h2 := cmp j i hj hi (Ne.symm h)
      have h3 := hne _ _ (hgl i hi) (hgl j hj) h
      omega
    rcases hgg i j e with h | h
    · exact h
    · have h' : glueP c j = c := by rw [← e]; exact h
      rcases hgc i h with rfl | rfl | rfl <;> rcases hgc j h' with rfl | rfl | rfl <;> first | rfl | omega
  · by_cases n0 : m = c
    · subst n0
      have := hNb s
      by_cases q : glueP m s = m
      · rcases hgc s q with rfl | rfl | rfl <;> unfold btwI at b1 <;> omega
      · have h1 := hne _ _ (hgl s hs) (by omega) q
        unfold btwI at b1; omega
    by_cases n1 : m = c + 1
    · subst n1
      have := hNb s
      rw [show c + 1 + 1 = c + 2 by omega] at b1
      by_cases q : glueP c s = c
      · rcases hgc s q with rfl | rfl | rfl <;> unfold btwI at b1 <;> omega
      · have h1 := hne _ _ (hgl s hs) (by omega) q
        unfold btwI at b1; omega
    obtain ⟨f1, f2, f3, f4, f5⟩ := hF m hm n0 n1
    by_cases e1 : glueP c s = glueP c m
    · rcases hgg s m e1 with h | h
      · subst h; unfold btwI at b1; omega
      · have h' := hgc m (by rw [← e1]; exact h)
        obtain rfl : m = c + 2 := by omega
        rw [show c + 2 + 1 = c + 3 by omega, ← he] at b2
        rcases hgc s h with rfl | rfl | rfl
        · rw [← ha, ← hb] at b2; unfold btwI at b2; omega
        · rw [show c + 1 + 1 = c + 2 by omega, ← hb, ← hd] at b2; unfold btwI at b2; omega
        · rw [show c + 2 + 1 = c + 3 by omega, ← hd, ← he] at b2; unfold btwI at b2; omega
    by_cases e2 : glueP c s = glueP c (m + 1)
    · rcases hgg s (m + 1) e2 with h | h
      · subst h; unfold btwI at b1; omega
      · have h' := hgc (m + 1) (by rw [← e2]; exact h)
        have hmc : m + 1 = c := by omega
        rw [hmc, ← ha] at b2
        rcases hgc s h with rfl | rfl | rfl
        · rw [← ha, ← hb] at b2; unfold btwI at b2; omega
        · rw [show c + 1 + 1 = c + 2 by omega, ← hb, ← hd] at b2; unfold btwI at b2; omega
        · rw [show c + 2 + 1 = c + 3 by omega, ← hd, ← he] at b2; unfold btwI at b2; omega
    have c1 := cmp s m hs (by omega) e1
    have c2 := cmp m s (by omega) hs (Ne.symm e1)
    have c3 := cmp s (m + 1) hs hm e2
    have c4 := cmp (m + 1) s hm hs (Ne.symm e2)
    rw [f1] at c1 c2
    rw [f2] at c3 c4
    exact R.cov (backF c m) (glueP c s) f5 (hgl s hs) ((btw_ord c1.symm c2.symm c3.symm c4.symm).1 b1) (by rw [f3]; exact hS s _ hs b2)
  · by_cases n0 : k = c
    · subst n0
      have h1 := hNb m
      have h2 := hNb (m + 1)
      have e1 := hgc m
      have e2 := hgc (m + 1)
      have x1 : glueP k m ≠ k → L' (glueP k m) ≠ L' k := fun h => hne _ _ (hgl m (by omega)) (by omega) h
      have x2 : glueP k (m + 1) ≠ k → L' (glueP k (m + 1)) ≠ L' k := fun h => hne _ _ (hgl (m + 1) hm) (by omega) h
      have y1 : ¬ btwI (N m) (N k) (N (k + 1)) := by
        by_cases q : glueP k m = k
        · rcases e1 q with rfl | rfl | rfl <;> unfold btwI <;> omega
        · have := x1 q; unfold btwI; omega
      have y2 : ¬ btwI (N (m + 1)) (N k) (N (k + 1)) := by
        by_cases q : glueP k (m + 1) = k
        · rcases e2 q with h | h | h <;> rw [h] <;> unfold btwI <;> omega
        · have := x2 q; unfold btwI; omega
      exact ⟨fun h => absurd h y1, fun h => absurd h y2⟩
    by_cases n1 : k = c + 1
    · subst n1
      have h1 := hNb m
      have h2 := hNb (m + 1)
      have e1 := hgc m
      have e2 := hgc (m + 1)
      have x1 : glueP c m ≠ c → L' (glueP c m) ≠ L' c := fun h => hne _ _ (hgl m (by omega)) (by omega) h
      have x2 : glueP c (m + 1) ≠ c → L' (glueP c (m + 1)) ≠ L' c := fun h => hne _ _ (hgl (m + 1) hm) (by omega) h
      rw [show c + 1 + 1 = c + 2 by omega]
      have y1 : ¬ btwI (N m) (N (c + 1)) (N (c + 2)) := by
        by_cases q : glueP c m = c
        · rcases e1 q with rfl | rfl | rfl <;> unfold btwI <;> omega
        · have := x1 q; unfold btwI; omega
      have y2 : ¬ btwI (N (m + 1)) (N (c + 1)) (N (c + 2)) := by
        by_cases q : glueP c (m + 1) = c
        · rcases e2 q with h | h | h <;> rw [h] <;> unfold btwI <;> omega
        · have := x2 q; unfold btwI; omega
      exact ⟨fun h => absurd h y1, fun h => absurd h y2⟩
    obtain ⟨f1, f2, f3, f4, f5⟩ := hF k hk n0 n1
    have zk := Z.zig k hk
    have yk := Z.ne k (by omega)
    have yk1 := Z.ne (k + 1) hk
    by_cases q0 : m = c
    · subst q0
      have a1 : glueP m (k + 1) ≠ m := fun h => by
        have := hgc (k + 1) h
        have e : k + 1 = m := by omega
        rw [e, show k + 2 = m + 1 by omega] at zk
        rw [e] at hdir
        omega
      have x2 := hne _ _ (hgl (k + 1) hk) (by omega) a1
      have h2 := hNo (k + 1) (fun h => a1 (by rw [h]; exact g0)) (fun h => a1 (by rw [h]; exact g2))
      by_cases q : glueP m k = m
      · have := hgc k q
        obtain rfl : k = m + 2 := by omega
        rw [h2, N2, N1, N0]
        unfold btwI; omega
      · have x1 := hne _ _ (hgl k (by omega)) (by omega) q
        have h1 := hNo k (fun h => q (by rw [h]; exact g0)) (fun h => q (by rw [h]; exact g2))
        rw [h1, h2, N1, N0]
        unfold btwI; omega
    by_cases q1 : m = c + 1
    · subst q1
      rw [show c + 1 + 1 = c + 2 by omega] at *
      have a1 : glueP c k ≠ c := fun h => by
        have := hgc k h
        obtain rfl : k = c + 2 := by omega
        rw [show c + 2 + 1 = c + 3 by omega] at *
        omega
      have x2 := hne _ _ (hgl k (by omega)) (by omega) a1
      have h2 := hNo k (fun h => a1 (by rw [h]; exact g0)) (fun h => a1 (by rw [h]; exact g2))
      by_cases q : glueP c (k + 1) = c
      · have := hgc (k + 1) q
        have e : k + 1 = c := by omega
        rw [h2, e, N2, N1, N0]
        unfold btwI; omega
      · have x1 := hne _ _ (hgl (k + 1) hk) (by omega) q
        have h1 := hNo (k + 1) (fun h => q (by rw [h]; exact g0)) (fun h => q (by rw [h]; exact g2))
        rw [h1, h2, N1, N2]
        unfold btwI; omega
    obtain ⟨j1, j2, j3, j4, j5⟩ := hF m hm q0 q1
    by_cases hkm : k = m
    · subst hkm; unfold btwI; omega
    have zm := Z.zig m hm
    have ym := Z.ne m (by omega)
    have ym1 := Z.ne (m + 1) hm
    have hr := R.crs (backF c k) (backF c m) f5 j5 (by rw [f3, j3]; exact hp) (by rw [f4, j4]; exact hdir)
    have far : ∀ k m, k + 1 < n → m + 1 < n → k ≠ c → k ≠ c + 1 → m ≠ c → m ≠ c + 1 → (p k < p (k + 1) ↔ p m < p (m + 1)) → backF c k + 1 ≠ backF c m := fun k m hk hm n0 n1 q0 q1 hdir h => by
      have zk := Z.zig k hk
      have yk := Z.ne k (by omega)
      have yk1 := Z.ne (k + 1) hk
      unfold backF at h
      by_cases w1 : k < c
      · rw [if_pos w1] at h
        by_cases w2 : m < c
        · rw [if_pos w2] at h
          subst h
          rw [show k + 1 + 1 = k + 2 by omega] at *
          omega
        · rw [if_neg w2] at h
          have e1 : k + 1 = c := by omega
          have e2 : m = c + 2 := by omega
          rw [e1, show k + 2 = c + 1 by omega] at zk
          rw [e1, e2, show c + 2 + 1 = c + 3 by omega] at hdir
          omega
      · rw [if_neg w1] at h
        by_cases w2 : m < c
        · rw [if_pos w2] at h; omega
        · rw [if_neg w2] at h
          obtain rfl : m = k + 1 := by omega
          rw [show k + 1 + 1 = k + 2 by omega] at *
          omega
    have hb1 := far k m hk hm n0 n1 q0 q1 hdir
    have hb2 := far m k hm hk q0 q1 n0 n1 hdir.symm
    have hb3 : backF c k ≠ backF c m := fun h => by unfold backF at h; split at h <;> split at h <;> omega
    rw [← f1, ← j1] at hb3
    rw [← f2, ← j1] at hb1
    rw [← j2, ← f1] at hb2
    have hb4 : glueP c (k + 1) ≠ glueP c (m + 1) := by rw [f2, j2]; rw [f1, j1] at hb3; omega
    have w1 := cmp m k (by omega) (by omega) (Ne.symm hb3)
    have w2 := cmp k m (by omega) (by omega) hb3
    have w3 := cmp m (k + 1) (by omega) hk (Ne.symm hb1)
    have w4 := cmp (k + 1) m hk (by omega) hb1
    have w5 := cmp (m + 1) k hm (by omega) hb2
    have w6 := cmp k (m + 1) (by omega) hm (Ne.symm hb2)
    have w7 := cmp (m + 1) (k + 1) hm hk (Ne.symm hb4)
    have w8 := cmp (k + 1) (m + 1) hk hm hb4
    rw [f1, j1] at w1 w2
    rw [f2, j1] at w3 w4
    rw [f1, j2] at w5 w6
    rw [f2, j2] at w7 w8
    exact (btw_ord w1.symm w2.symm w3.symm w4.symm).trans (hr.trans (btw_ord w5.symm w6.symm w7.symm w8.symm).symm)
  · obtain ⟨f1, f2, f3, f4, f5⟩ := hF m hm n0 n1
    have := cmp m (m + 1) (by omega) hm (by rw [f1, f2]; omega)
    rw [this, f1, f2]
/-- There are right layers: levels that are right, with the folds' directions. -/
def Has (n : Nat) (p : Nat → Int) (u : Nat → Bool) : Prop := ∃ L, Rgt n p L ∧ ∀ k, k + 1 < n → (L k < L (k + 1) ↔ u k = true)
theorem Rgt.congr {n : Nat} {p p' L : Nat → Int} (h : ∀ i, i ≤ n → p i = p' i) (R : Rgt n p L) : Rgt n p' L := by
  refine ⟨R.inj, fun k s hk hs h1 h2 => R.cov k s hk hs h1 (by rw [h _ (by omega), h _ (by omega), h _ (by omega)]; exact h2), fun k m hk hm hp hd => R.crs k m hk hm (by rw [h _ (by omega), h _ (by omega)]; exact hp) (by rw [h _ (by omega), h _ (by omega), h m (by omega), h (m + 1) (by omega)]; exact hd)⟩
theorem Has.congr {n : Nat} {p p' : Nat → Int} {u u' : Nat → Bool} (h : ∀ i, i ≤ n → p i = p' i) (h2 : ∀ k, k + 1 < n → u k = u' k) (H : Has n p u) : Has n p' u' := by
  obtain ⟨L, R, D⟩ := H
  exact ⟨L, R.congr h, fun k hk => by rw [D k hk, h2 k hk]⟩
theorem Has.neg {n : Nat} {p : Nat → Int} {u : Nat → Bool} (H : Has n p u) : Has n p (fun k => !u k) := by
  obtain ⟨L, R, D⟩ := H
  refine ⟨_, R.neg, fun k hk => ?_⟩
  have h1 := D k hk
  have h2 : L k ≠ L (k + 1) := fun e => by have := R.inj k (k + 1) (by omega) hk e; omega
  show - L k < - L (k + 1) ↔ (!u k) = true
  cases hu : u k with
  | false => rw [hu] at h1; have : ¬ L k < L (k + 1) := fun h => by have := h1.1 h; cases this
             exact ⟨fun _ => rfl, fun _ => by omega⟩
  | true => rw [hu] at h1; have := h1.2 rfl
            exact ⟨fun h => by omega, fun h => by cases h⟩
theorem Has.mirror {n : Nat} {p : Nat → Int} {u : Nat → Bool} (Z : Zig n p) (H : Has n p u) (c : Int) : Has n (fun i => c - p i) u := by
  obtain ⟨L, R, D⟩ := H
  exact ⟨L, R.mirror Z c, D⟩
theorem Has.rev {n : Nat} {p : Nat → Int} {u : Nat → Bool} (Z : Zig n p) (H : Has n p u) : Has n (fun i => p (n - i)) (fun k => !u (n - 2 - k)) := by
  obtain ⟨L, R, D⟩ := H.neg
  have R' := R.neg.rev Z
  refine ⟨_, R', fun k hk => ?_⟩
  have h1 := D (n - 2 - k) (by omega)
  rw [show n - 2 - k + 1 = n - 1 - k by omega] at h1
  show - L (n - 1 - k) < - L (n - 1 - (k + 1)) ↔ (!u (n - 2 - k)) = true
  rw [show n - 1 - (k + 1) = n - 2 - k by omega, ← h1]
  omega
theorem Has.first {n : Nat} {p : Nat → Int} {u : Nat → Bool} (H : Has (n + 1) p u) : Has n (fun i => p (i + 1)) (fun k => u (k + 1)) := by
  obtain ⟨L, R, D⟩ := H
  refine ⟨fun i => L (i + 1), ⟨fun i j hi hj h => by have := R.inj (i + 1) (j + 1) (by omega) (by omega) h; omega, fun k s hk hs h1 h2 => R.cov (k + 1) (s + 1) (by omega) (by omega) h1 h2, fun k m hk hm hp hd => R.crs (k + 1) (m + 1) (by omega) (by omega) hp hd⟩, fun k hk => D (k + 1) (by omega)⟩
theorem Has.last {n : Nat} {p : Nat → Int} {u : Nat → Bool} (H : Has (n + 1) p u) : Has n p u := by
  obtain ⟨L, R, D⟩ := H
  exact ⟨L, ⟨fun i j hi hj h => R.inj i j (by omega) (by omega) h, fun k s hk hs h1 h2 => R.cov k s (by omega) (by omega) h1 h2, fun k m hk hm hp hd => R.crs k m (by omega) (by omega) hp hd⟩, fun k hk => D k (by omega)⟩
theorem Has.first_bwd {n : Nat} {p : Nat → Int} {u : Nat → Bool} (hn : 1 ≤ n) (Z : Zig (n + 1) p) (hl : lenLe p 0 1) (H : Has n (fun i => p (i + 1)) (fun k => u (k + 1))) : Has (n + 1) p u := by
  obtain ⟨L', R, D⟩ := H
  obtain ⟨L, R2, e0, e1⟩ := end_bwd hn Z hl R (u 0)
  refine ⟨L, R2, fun k hk => ?_⟩
  match k with
  | 0 => exact e0
  | k + 1 => exact (e1 k (by omega)).trans (D k (by omega))
theorem Zig.last {n : Nat} {p : Nat → Int} (Z : Zig (n + 1) p) : Zig n p := ⟨fun i hi => Z.ne i (by omega), fun i hi => Z.zig i (by omega)⟩
theorem Zig.first {n : Nat} {p : Nat → Int} (Z : Zig (n + 1) p) : Zig n (fun i => p (i + 1)) := ⟨fun i hi => Z.ne (i + 1) (by omega), fun i hi => Z.zig (i + 1) (by omega)⟩
theorem lenLe_rev {n : Nat} {p : Nat → Int} (hn : 1 ≤ n) (h : lenLe p n (n - 1)) : lenLe (fun i => p (n + 1 - i)) 0 1 := by
  unfold lenLe at *
  dsimp only
  rw [show n - 1 + 1 = n by omega] at h
  rw [show n + 1 - (0 + 1) = n by omega, show n + 1 - 0 = n + 1 by omega, show n + 1 - (1 + 1) = n - 1 by omega]
  omega
theorem Has.last_bwd {n : Nat} {p : Nat → Int} {u : Nat → Bool} (hn : 1 ≤ n) (Z : Zig (n + 1) p) (hl : lenLe p n (n - 1)) (H : Has n p u) : Has (n + 1) p u := by
  have h1 := H.rev Z.last
  have h2 : Has n (fun i => (fun i => p (n + 1 - i)) (i + 1)) (fun k => (fun k => !u (n - 1 - k)) (k + 1)) :=
    h1.congr (fun i hi => by show p (n - i) = p (n + 1 - (i + 1)); rw [show n + 1 - (i + 1) = n - i by omega]) (fun k hk => by show (!u (n - 2 - k)) = !u (n - 1 - (k + 1)); rw [show n - 1 - (k + 1) = n - 2 - k by omega])
  have h3 := (Has.first_bwd (p := fun i => p (n + 1 - i)) (u := fun k => !u (n - 1 - k)) hn Z.rev (lenLe_rev hn hl) h2).rev Z.rev
  exact h3.congr (fun i hi => by show p (n + 1 - (n + 1 - i)) = p i; rw [show n + 1 - (n + 1 - i) = i by omega]) (fun k hk => by show (!!u (n - 1 - (n + 1 - 2 - k))) = u k; rw [show n - 1 - (n + 1 - 2 - k) = k by omega, Bool.not_not])

theorem cutP_mirror (c : Nat) (p : Nat → Int) (v : Int) : cutP c (fun i => v - p i) = fun i => v - cutP c p i := by
  funext i; unfold cutP; by_cases h : i ≤ c
  · rw [if_pos h, if_pos h]
  · rw [if_neg h, if_neg h]
/-- A claim on places and letters holds if it does for rising places and letters. -/
theorem Has.crimp {n c : Nat} {p : Nat → Int} {u : Nat → Bool} (Z : Zig n p) (hc : c + 2 < n) (hl : ∀ j, j < n → lenLe p (c + 1) j) (hu : u c = u (c + 1)) (H : Has n p u) : Has (n - 2) (cutP c p) (fun m => u (skipF c m)) := by
  have main : ∀ (p : Nat → Int) (u : Nat → Bool), Zig n p → (∀ j, j < n → lenLe p (c + 1) j) → p c < p (c + 1) → u c = true → u (c + 1) = true → Has n p u → Has (n - 2) (cutP c p) (fun m => u (skipF c m)) := fun p u Z hl up u1 u2 H => by
    obtain ⟨L, R, D⟩ := H
    obtain ⟨L', R', D'⟩ := crimp_fwd0 Z R hc hl up ((D c (by omega)).2 u1) ((D (c + 1) (by omega)).2 u2)
    refine ⟨L', R', fun m hm => (D' m hm).trans (D _ ?_)⟩
    unfold skipF; split <;> omega
  have main2 : ∀ (p : Nat → Int) (u : Nat → Bool), Zig n p → (∀ j, j < n → lenLe p (c + 1) j) → p c < p (c + 1) → u c = u (c + 1) → Has n p u → Has (n - 2) (cutP c p) (fun m => u (skipF c m)) := fun p u Z hl up hu H => by
    cases h : u c with
    | true => exact main p u Z hl up h (by rw [← hu, h]) H
    | false =>
      have := (main p (fun k => !u k) Z hl up (by show (!u c) = true; rw [h]; rfl) (by show (!u (c + 1)) = true; rw [← hu, h]; rfl) H.neg).neg
      exact this.congr (fun _ _ => rfl) (fun k _ => Bool.not_not _)
  by_cases up : p c < p (c + 1)
  · exact main2 p u Z hl up hu H
  · have ne := Z.ne c (by omega)
    have := main2 (fun i => 0 - p i) u (Z.mirror 0) (fun j hj => lenLe_mirror (hl j hj) 0) (by show 0 - p c < 0 - p (c + 1); omega) hu (H.mirror Z 0)
    rw [cutP_mirror] at this
    have hz := (Z.cut hc (hl c (by omega)) (hl (c + 2) hc)).mirror 0
    exact (this.mirror hz 0).congr (fun i _ => by show 0 - (0 - cutP c p i) = _; omega) (fun _ _ => rfl)
theorem skip_back {c m : Nat} (n0 : m ≠ c) (n1 : m ≠ c + 1) : skipF c (backF c m) = m := by
  unfold skipF backF
  by_cases h : m < c
  · rw [if_pos h, if_pos h]
  · rw [if_neg h, if_neg (by omega)]; omega
theorem Has.crimp_bwd {n c : Nat} {p : Nat → Int} {u : Nat → Bool} (Z : Zig n p) (hc : c + 2 < n) (k1 : lenLe p (c + 1) c) (k2 : lenLe p (c + 1) (c + 2)) (hu : u c = u (c + 1)) (H : Has (n - 2) (cutP c p) (fun m => u (skipF c m))) : Has n p u := by
  have main : ∀ (p : Nat → Int) (u : Nat → Bool), Zig n p → lenLe p (c + 1) c → lenLe p (c + 1) (c + 2) → p c < p (c + 1) → u c = true → u (c + 1) = true → Has (n - 2) (cutP c p) (fun m => u (skipF c m)) → Has n p u := fun p u Z k1 k2 up u1 u2 H => by
    obtain ⟨L', R', D'⟩ := H
    obtain ⟨L, R, l1, l2, D⟩ := crimp_bwd0 Z hc k1 k2 up R'
    refine ⟨L, R, fun m hm => ?_⟩
    by_cases n0 : m = c
    · rw [n0]; exact ⟨fun _ => u1, fun _ => l1⟩
    by_cases n1 : m = c + 1
    · rw [n1]; exact ⟨fun _ => u2, fun _ => l2⟩
    refine (D m hm n0 n1).trans ((D' (backF c m) ?_).trans ?_)
    · unfold backF; split <;> omega
    · show u (skipF c (backF c m)) = true ↔ _
      rw [skip_back n0 n1]
  have main2 : ∀ (p : Nat → Int) (u : Nat → Bool), Zig n p → lenLe p (c + 1) c → lenLe p (c + 1) (c + 2) → p c < p (c + 1) → u c = u (c + 1) → Has (n - 2) (cutP c p) (fun m => u (skipF c m)) → Has n p u := fun p u Z k1 k2 up hu H => by
    cases h : u c with
    | true => exact main p u Z k1 k2 up h (by rw [← hu, h]) H
    | false =>
      have := (main p (fun k => !u k) Z k1 k2 up (by show (!u c) = true; rw [h]; rfl) (by show (!u (c + 1)) = true; rw [← hu, h]; rfl) H.neg).neg
      exact this.congr (fun _ _ => rfl) (fun k _ => Bool.not_not _)
  by_cases up : p c < p (c + 1)
  · exact main2 p u Z k1 k2 up hu H
  · have ne := Z.ne c (by omega)
    have hz := Z.cut hc k1 k2
    have := main2 (fun i => 0 - p i) u (Z.mirror 0) (lenLe_mirror k1 0) (lenLe_mirror k2 0) (by show 0 - p c < 0 - p (c + 1); omega) hu (by rw [cutP_mirror]; exact H.mirror hz 0)
    exact (this.mirror (Z.mirror 0) 0).congr (fun i _ => by show 0 - (0 - p i) = _; omega) (fun _ _ => rfl)
/-- What has layers has a step that has. -/
theorem Has.step {n : Nat} {p : Nat → Int} {u : Nat → Bool} (hn : 2 ≤ n) (Z : Zig n p) (H : Has n p u) :
    lenLe p 0 1 ∨ lenLe p (n - 1) (n - 2) ∨ ∃ c, c + 2 < n ∧ (∀ j, j < n → lenLe p (c + 1) j) ∧ u c = u (c + 1) := by
  obtain ⟨L, R, D⟩ := H
  rcases step_there hn Z R with h | h | ⟨c, hc, h1, h2⟩
  · exact .inl h
  · exact .inr (.inl h)
  · refine .inr (.inr ⟨c, hc, h1, ?_⟩)
    have a := D c (by omega)
    have b := D (c + 1) (by omega)
    rw [Bool.eq_iff_iff, ← a, ← b]; exact h2

end Go.Proofs.Ytahbflbhkalehaa
