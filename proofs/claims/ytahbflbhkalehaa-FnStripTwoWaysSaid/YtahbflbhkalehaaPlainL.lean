/-
  Plain facts on right layers of strips and rings: what the program's and the reference's tests answer. No program in sight.
-/
import Derived.Test.YtahbflbhkalehaaPlainS
import Derived.Test.YtahbflbhkalehaaPlainQ
namespace Go.Proofs.Ytahbflbhkalehaa
open Go.RowKit

/-- A fold laid flat: the part ahead, the part behind, the place, and whether the part behind lies higher. -/
structure Fd where
  ah : Nat
  be : Nat
  pl : Int
  hi : Bool
deriving Inhabited

/-- The byte of a text at a place. -/
def bAt (s : ByteArray) (k : Nat) : UInt8 := s.data.toList[k]?.getD 0
theorem bAt_get (s : ByteArray) (k : Nat) (h : k < s.size) : bAt s k = s[k] := by
  unfold bAt
  rw [List.getElem?_eq_getElem (by simpa using h)]
  rfl
/-- Whether the part behind a fold lies higher. -/
def hiB (c : UInt8) (ah : Nat) : Bool := (c == 86) == decide (ah % 2 = 0)
def stripFd (xs : List Int) (s : ByteArray) (k : Nat) : Fd := ⟨k, k + 1, alt (xs.take (k + 1)), hiB (bAt s k) k⟩
def ringFd (xs : List Int) (s : ByteArray) (k : Nat) : Fd := ⟨(k + xs.length - 1) % xs.length, k, alt (xs.take k), hiB (bAt s k) ((k + xs.length - 1) % xs.length)⟩
def stripFs (xs : List Int) (s : ByteArray) : List Fd := (List.range (xs.length - 1)).map (stripFd xs s)
def ringFs (xs : List Int) (s : ByteArray) : List Fd := (List.range xs.length).map (ringFd xs s)

/-- Number k of a list. -/
def at0 (L : List Int) (k : Nat) : Int := L[k]?.getD 0
def okF (xs L : List Int) (f : Fd) : Bool :=
  (decide (at0 L f.ah < at0 L f.be) == f.hi) && decide (∀ s < xs.length, (betw (at0 L s) (at0 L f.ah) (at0 L f.be) && betw f.pl (alt (xs.take s)) (alt (xs.take (s + 1)))) = false)
def crossF (L : List Int) (f g : Fd) : Bool :=
  decide (f.pl = g.pl) && decide (f.ah % 2 = g.ah % 2) && crossB (at0 L f.ah) (at0 L f.be) (at0 L g.ah) (at0 L g.be)
/-- Number k of a list of folds. -/
def fdAt (F : List Fd) (k : Nat) : Fd := F[k]?.getD default
def rightL (xs : List Int) (F : List Fd) (L : List Int) : Bool :=
  decide (∀ k < F.length, okF xs L (fdAt F k) = true ∧ ∀ m < F.length, k < m → crossF L (fdAt F k) (fdAt F m) = false)
/-- What flatParts.right and l2Right answer. -/
def rightB (xs : List Int) (F : List Fd) (ys : List Int) : Bool := decide (ys.length = xs.length) && permB ys && rightL xs F (levelsL ys)

theorem rightL_iff {xs : List Int} {F : List Fd} {L : List Int} : rightL xs F L = true ↔ ∀ k, k < F.length → okF xs L (fdAt F k) = true ∧ ∀ m, m < F.length → k < m → crossF L (fdAt F k) (fdAt F m) = false := by
  unfold rightL; exact decide_eq_true_iff
theorem rightB_iff {xs : List Int} {F : List Fd} {ys : List Int} : rightB xs F ys = true ↔ ys.length = xs.length ∧ permB ys = true ∧ rightL xs F (levelsL ys) = true := by
  unfold rightB
  simp only [Bool.and_eq_true, decide_eq_true_eq, and_assoc]
theorem rightB_len {xs : List Int} {F : List Fd} {ys : List Int} (h : ¬ ys.length = xs.length) : rightB xs F ys = false := by
  unfold rightB; rw [decide_eq_false h]; rfl
theorem rightB_np {xs : List Int} {F : List Fd} {ys : List Int} (h : permB ys = false) : rightB xs F ys = false := by
  unfold rightB; rw [h, Bool.and_false]; rfl
theorem rightB_yes {xs : List Int} {F : List Fd} {ys : List Int} (h : ys.length = xs.length) (hp : permB ys = true) : rightB xs F ys = rightL xs F (levelsL ys) := by
  unfold rightB; rw [decide_eq_true h, hp]; rfl
theorem rightL_bad {xs : List Int} {F : List Fd} {L : List Int} {k : Nat} (hk : k < F.length) (h : okF xs L (fdAt F k) = false) : rightL xs F L = false := by
  cases hr : rightL xs F L with
  | false => rfl
  | true => rw [((rightL_iff.1 hr) k hk).1] at h; cases h
theorem rightL_cross {xs : List Int} {F : List Fd} {L : List Int} {k m : Nat} (hk : k < m) (hm : m < F.length) (h : crossF L (fdAt F k) (fdAt F m) = true) : rightL xs F L = false := by
  cases hr : rightL xs F L with
  | false => rfl
  | true => rw [((rightL_iff.1 hr) k (by omega)).2 m hm hk] at h; cases h
theorem okF_dir {xs L : List Int} {f : Fd} (h : ¬ decide (at0 L f.ah < at0 L f.be) = f.hi) : okF xs L f = false := by
  unfold okF
  rw [beq_eq_false_iff_ne.2 h]
  rfl
theorem okF_in {xs L : List Int} {f : Fd} {s : Nat} (hs : s < xs.length) (h1 : betw (at0 L s) (at0 L f.ah) (at0 L f.be) = true) (h2 : betw f.pl (alt (xs.take s)) (alt (xs.take (s + 1))) = true) : okF xs L f = false := by
  unfold okF
  rw [Bool.and_eq_false_iff]
  right
  exact decide_eq_false fun q => by have := q s hs; rw [h1, h2] at this; cases this
/-- No part below a number is in the way of a fold. -/
def inTo (xs L : List Int) (f : Fd) (j : Nat) : Prop := ∀ s, s < j → (betw (at0 L s) (at0 L f.ah) (at0 L f.be) && betw f.pl (alt (xs.take s)) (alt (xs.take (s + 1)))) = false
theorem inTo_zero (xs L : List Int) (f : Fd) : inTo xs L f 0 := fun _ h => absurd h (by omega)
theorem inTo_succ {xs L : List Int} {f : Fd} {j : Nat} (h : inTo xs L f j) (h1 : (betw (at0 L j) (at0 L f.ah) (at0 L f.be) && betw f.pl (alt (xs.take j)) (alt (xs.take (j + 1)))) = false) : inTo xs L f (j + 1) := fun s hs => by
  by_cases e : s = j
  · rw [e]; exact h1
  · exact h s (by omega)
theorem okF_all {xs L : List Int} {f : Fd} {j : Nat} (h : inTo xs L f j) (hj : xs.length ≤ j) (hd : decide (at0 L f.ah < at0 L f.be) = f.hi) : okF xs L f = true := by
  unfold okF
  rw [beq_iff_eq.2 hd, decide_eq_true (fun s hs => h s (by omega))]
  rfl
/-- The first folds are right, each with all behind it (the program's order). -/
def rtTo (xs : List Int) (F : List Fd) (L : List Int) (k : Nat) : Prop := ∀ j, j < k → okF xs L (fdAt F j) = true ∧ ∀ m, m < F.length → j < m → crossF L (fdAt F j) (fdAt F m) = false
def rtIn (F : List Fd) (L : List Int) (k m : Nat) : Prop := ∀ j, j < m → k < j → crossF L (fdAt F k) (fdAt F j) = false
theorem rtTo_zero (xs : List Int) (F : List Fd) (L : List Int) : rtTo xs F L 0 := fun _ h => absurd h (by omega)
theorem rtIn_start (F : List Fd) (L : List Int) (k : Nat) : rtIn F L k (k + 1) := fun _ h1 h2 => absurd h1 (by omega)
theorem rtIn_step {F : List Fd} {L : List Int} {k m : Nat} (h : rtIn F L k m) (h1 : crossF L (fdAt F k) (fdAt F m) = false) : rtIn F L k (m + 1) := fun j hj hk => by
  by_cases e : j = m
  · rw [e]; exact h1
  · exact h j (by omega) hk
theorem rtTo_succ {xs : List Int} {F : List Fd} {L : List Int} {k : Nat} (h : rtTo xs F L k) (h1 : okF xs L (fdAt F k) = true) (h2 : rtIn F L k F.length) : rtTo xs F L (k + 1) := fun j hj => by
  by_cases e : j = k
  · rw [e]; exact ⟨h1, fun m hm hk => h2 m hm hk⟩
  · exact h j (by omega)
theorem rtTo_all {xs : List Int} {F : List Fd} {L : List Int} {k : Nat} (h : rtTo xs F L k) (hk : F.length ≤ k) : rightL xs F L = true :=
  rightL_iff.2 fun j hj => h j (by omega)

/-- The four parts of two folds of one side are different parts. -/
def apartF (n : Nat) (F : List Fd) : Prop := ∀ k m, k < F.length → m < F.length → k ≠ m → (fdAt F k).ah % 2 = (fdAt F m).ah % 2 →
  ((fdAt F k).ah < n ∧ (fdAt F k).be < n ∧ (fdAt F m).ah < n ∧ (fdAt F m).be < n) ∧ (fdAt F k).ah ≠ (fdAt F k).be ∧ (fdAt F m).ah ≠ (fdAt F m).be ∧ (fdAt F k).ah ≠ (fdAt F m).ah ∧ (fdAt F k).ah ≠ (fdAt F m).be ∧ (fdAt F k).be ≠ (fdAt F m).ah ∧ (fdAt F k).be ≠ (fdAt F m).be
theorem at0_levels {ys : List Int} {i : Nat} (h : i < ys.length) : at0 (levelsL ys) i = lvl ys i := levelsL_get ys i h
theorem crossF_symm {n : Nat} {F : List Fd} {ys : List Int} (hF : apartF n F) (hp : permB ys = true) (hl : ys.length = n) {k m : Nat} (hk : k < F.length) (hm : m < F.length) (hkm : k ≠ m) :
    crossF (levelsL ys) (fdAt F k) (fdAt F m) = crossF (levelsL ys) (fdAt F m) (fdAt F k) := by
  unfold crossF
  by_cases h2 : (fdAt F k).ah % 2 = (fdAt F m).ah % 2
  · obtain ⟨⟨q1, q2, q3, q4⟩, d1, d2, d3, d4, d5, d6⟩ := hF k m hk hm hkm h2
    subst hl
    rw [at0_levels q1, at0_levels q2, at0_levels q3, at0_levels q4]
    have inj : ∀ i j : Nat, i < ys.length → j < ys.length → i ≠ j → lvl ys i ≠ lvl ys j := fun i j hi hj hne e => hne (lvl_inj hp hi hj e)
    rw [crossB_symm (inj _ _ q1 q2 d1) (inj _ _ q1 q3 d3) (inj _ _ q1 q4 d4) (inj _ _ q2 q3 d5) (inj _ _ q2 q4 d6) (inj _ _ q3 q4 d2)]
    congr 1
    rw [decide_eq_true h2, decide_eq_true h2.symm, Bool.and_true, Bool.and_true, decide_eq_decide]
    exact ⟨Eq.symm, Eq.symm⟩
  · have h2' : ¬ (fdAt F m).ah % 2 = (fdAt F k).ah % 2 := fun e => h2 e.symm
    simp [h2, h2']
/-- The first folds are right, each with all ahead of it (the reference's order). -/
def rsTo (xs : List Int) (F : List Fd) (L : List Int) (k : Nat) : Prop := ∀ j, j < k → okF xs L (fdAt F j) = true ∧ ∀ m, m < j → crossF L (fdAt F j) (fdAt F m) = false
def rsIn (F : List Fd) (L : List Int) (k m : Nat) : Prop := ∀ j, j < m → crossF L (fdAt F k) (fdAt F j) = false
theorem rsTo_zero (xs : List Int) (F : List Fd) (L : List Int) : rsTo xs F L 0 := fun _ h => absurd h (by omega)
theorem rsIn_zero (F : List Fd) (L : List Int) (k : Nat) : rsIn F L k 0 := fun _ h => absurd h (by omega)
theorem rsIn_step {F : List Fd} {L : List Int} {k m : Nat} (h : rsIn F L k m) (h1 : crossF L (fdAt F k) (fdAt F m) = false) : rsIn F L k (m + 1) := fun j hj => by
  by_cases e : j = m
  · rw [e]; exact h1
  · exact h j (by omega)
theorem rsTo_succ {xs : List Int} {F : List Fd} {L : List Int} {k : Nat} (h : rsTo xs F L k) (h1 : okF xs L (fdAt F k) = true) (h2 : rsIn F L k k) : rsTo xs F L (k + 1) := fun j hj => by
  by_cases e : j = k
  · rw [e]; exact ⟨h1, fun m hm => h2 m hm⟩
  · exact h j (by omega)
theorem rsTo_all {n : Nat} {xs : List Int} {F : List Fd} {ys : List Int} (hF : apartF n F) (hp : permB ys = true) (hl : ys.length = n) {k : Nat} (h : rsTo xs F (levelsL ys) k) (hk : F.length ≤ k) : rightL xs F (levelsL ys) = true :=
  rightL_iff.2 fun j hj => ⟨(h j (by omega)).1, fun m hm hjm => by rw [crossF_symm hF hp hl hj hm (by omega)]; exact (h m (by omega)).2 j hjm⟩
theorem rightL_cross' {n : Nat} {xs : List Int} {F : List Fd} {ys : List Int} (hF : apartF n F) (hp : permB ys = true) (hl : ys.length = n) {k m : Nat} (hk : m < k) (hm : k < F.length) (h : crossF (levelsL ys) (fdAt F k) (fdAt F m) = true) : rightL xs F (levelsL ys) = false :=
  rightL_cross hk hm (by rw [crossF_symm hF hp hl (by omega) hm (by omega)]; exact h)

theorem stripFs_length (xs : List Int) (s : ByteArray) : (stripFs xs s).length = xs.length - 1 := by simp [stripFs]
theorem ringFs_length (xs : List Int) (s : ByteArray) : (ringFs xs s).length = xs.length := by simp [ringFs]
theorem stripFs_at {xs : List Int} {s : ByteArray} {k : Nat} (h : k < xs.length - 1) : fdAt (stripFs xs s) k = stripFd xs s k := by
  unfold fdAt stripFs
  rw [List.getElem?_map, List.getElem?_range h]
  rfl
theorem ringFs_at {xs : List Int} {s : ByteArray} {k : Nat} (h : k < xs.length) : fdAt (ringFs xs s) k = ringFd xs s k := by
  unfold fdAt ringFs
  rw [List.getElem?_map, List.getElem?_range h]
  rfl
theorem stripFs_apart (xs : List Int) (s : ByteArray) : apartF xs.length (stripFs xs s) := fun k m hk hm hne h2 => by
  rw [stripFs_length] at hk hm
  rw [stripFs_at hk, stripFs_at hm] at *
  simp only [stripFd] at *
  omega
theorem ring_ahead {n k : Nat} (hk : k < n) : (k + n - 1) % n = if k = 0 then n - 1 else k - 1 := by
  by_cases h : k = 0
  · rw [if_pos h, h, Nat.zero_add, Nat.mod_eq_of_lt (by omega)]
  · rw [if_neg h, show k + n - 1 = (k - 1) + n by omega, Nat.add_mod_right, Nat.mod_eq_of_lt (by omega)]
theorem ringFs_apart {xs : List Int} (s : ByteArray) (he : xs.length % 2 = 0) : apartF xs.length (ringFs xs s) := fun k m hk hm hne h2 => by
  rw [ringFs_length] at hk hm
  rw [ringFs_at hk, ringFs_at hm] at *
  simp only [ringFd] at *
  rw [ring_ahead hk, ring_ahead hm] at *
  by_cases k0 : k = 0 <;> by_cases m0 : m = 0 <;> simp only [k0, m0, if_true, if_false] at h2 ⊢ <;> omega

end Go.Proofs.Ytahbflbhkalehaa
