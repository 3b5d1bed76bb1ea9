/-
  Plain facts on stacks: lists that hold each number once, levels, pairs that cross. No program in sight.
-/
import Derived.Test.YtahbflbhkalehaaPlainA
namespace Go.Proofs.Ytahbflbhkalehaa
open Go.RowKit

theorem perm_of_sub : ∀ (ys xs : List Int), ys.Nodup → (∀ y ∈ ys, y ∈ xs) → xs.length ≤ ys.length → ys.Perm xs := by
  intro ys
  induction ys with
  | nil =>
    intro xs _ _ hl
    have : xs = [] := List.eq_nil_of_length_eq_zero (by simpa using hl)
    subst this
    exact List.Perm.refl _
  | cons y r ih =>
    intro xs hn hs hl
    have hy := hs y (by simp)
    have hn' := List.nodup_cons.1 hn
    have h1 : r.Perm (xs.erase y) := by
      refine ih _ hn'.2 (fun z hz => ?_) ?_
      · have hne : z ≠ y := by rintro rfl; exact hn'.1 hz
        exact (List.mem_erase_of_ne hne).2 (hs z (by simp [hz]))
      · rw [List.length_erase_of_mem hy]
        simp at hl
        omega
    exact (List.Perm.cons y h1).trans (List.perm_cons_erase hy).symm

/-- The numbers from 0 to n - 1. -/
def upI (n : Nat) : List Int := (List.range n).map Int.ofNat
theorem upI_length (n : Nat) : (upI n).length = n := by simp [upI]
theorem mem_upI {n : Nat} {x : Int} : x ∈ upI n ↔ 0 ≤ x ∧ x < n := by
  unfold upI
  rw [List.mem_map]
  constructor
  · rintro ⟨k, hk, rfl⟩
    have := List.mem_range.1 hk
    exact ⟨Int.natCast_nonneg k, Int.ofNat_lt.2 this⟩
  · rintro ⟨h0, h1⟩
    exact ⟨x.toNat, List.mem_range.2 (by omega), by simp; omega⟩
theorem nodup_upI (n : Nat) : (upI n).Nodup := by
  unfold upI
  refine List.Pairwise.map _ ?_ (List.nodup_range (n := n))
  intro a b h e
  exact h (Int.ofNat.inj e)

/-- Each of the numbers from 0 to n - 1 is in the list. -/
def permN (n : Nat) (xs : List Int) : Bool := decide (∀ i, i < n → ((i : Nat) : Int) ∈ xs)
def permB (xs : List Int) : Bool := permN xs.length xs
theorem permN_iff (n : Nat) (xs : List Int) : permN n xs = true ↔ ∀ i : Nat, i < n → (i : Int) ∈ xs := by unfold permN; exact decide_eq_true_iff
theorem permN_false {n : Nat} {xs : List Int} (h : ¬ ∀ i : Nat, i < n → (i : Int) ∈ xs) : permN n xs = false := by unfold permN; exact decide_eq_false h
theorem permB_perm {xs : List Int} (h : permB xs = true) : (upI xs.length).Perm xs := by
  refine perm_of_sub _ _ (nodup_upI _) (fun y hy => ?_) (by rw [upI_length]; exact Nat.le_refl _)
  have h1 := mem_upI.1 hy
  have h2 := (permN_iff _ _).1 h y.toNat (by omega)
  rwa [Int.toNat_of_nonneg h1.1] at h2
theorem permB_of_perm {xs : List Int} {n : Nat} (h : (upI n).Perm xs) : permB xs = true := by
  have hl : n = xs.length := by rw [← h.length_eq, upI_length]
  subst hl
  exact (permN_iff _ _).2 fun i hi => h.subset (mem_upI.2 ⟨by omega, by omega⟩)
theorem permB_nodup {xs : List Int} (h : permB xs = true) : xs.Nodup := (permB_perm h).nodup_iff.1 (nodup_upI _)
theorem permB_range {xs : List Int} (h : permB xs = true) : ∀ x ∈ xs, 0 ≤ x ∧ x < xs.length := fun _ hx => mem_upI.1 ((permB_perm h).symm.subset hx)
theorem permB_of_nodup {xs : List Int} (hn : xs.Nodup) (hr : ∀ x ∈ xs, 0 ≤ x ∧ x < xs.length) : permB xs = true :=
  permB_of_perm (n := xs.length) (perm_of_sub xs (upI xs.length) hn (fun x hx => mem_upI.2 (hr x hx)) (by rw [upI_length]; exact Nat.le_refl _)).symm

theorem getD_mem {xs : List Int} {k : Nat} (h : k < xs.length) : xs[k]?.getD 0 ∈ xs := mem_getI xs k h
theorem get_take {xs : List Int} {j k : Nat} (h : j < k) (hk : k ≤ xs.length) : xs[j]?.getD 0 ∈ xs.take k := by
  have : (xs.take k)[j]?.getD 0 = xs[j]?.getD 0 := by rw [List.getElem?_take, if_pos h]
  rw [← this]
  exact getD_mem (by rw [List.length_take]; omega)
/-- A number that stands twice. -/
theorem permB_twice {xs : List Int} {k : Nat} (hk : k < xs.length) (h : xs[k]?.getD 0 ∈ xs.take k) : permB xs = false := by
  cases hp : permB xs with
  | false => rfl
  | true =>
    exfalso
    have hn := permB_nodup hp
    rw [← List.take_append_drop k xs] at hn
    have h1 := (List.nodup_append.1 hn).2.2 _ h
    refine h1 (xs[k]?.getD 0) ?_ rfl
    rw [List.getElem?_eq_getElem hk, List.drop_eq_getElem_cons hk]
    exact List.mem_cons_self
theorem permB_out {xs : List Int} {k : Nat} (hk : k < xs.length) (h : ¬ (0 ≤ xs[k]?.getD 0 ∧ xs[k]?.getD 0 < xs.length)) : permB xs = false := by
  cases hp : permB xs with
  | false => rfl
  | true => exact absurd (permB_range hp _ (getD_mem hk)) h

/-- The first k numbers are good. -/
def okTo (xs : List Int) (k : Nat) : Prop := ∀ j, j < k → (0 ≤ xs[j]?.getD 0 ∧ xs[j]?.getD 0 < xs.length) ∧ xs[j]?.getD 0 ∉ xs.take j
theorem okTo_zero (xs : List Int) : okTo xs 0 := fun j h => absurd h (Nat.not_lt_zero j)
theorem okTo_succ {xs : List Int} {k : Nat} (h : okTo xs k) (h1 : 0 ≤ xs[k]?.getD 0 ∧ xs[k]?.getD 0 < xs.length) (h2 : xs[k]?.getD 0 ∉ xs.take k) : okTo xs (k + 1) := fun j hj => by
  by_cases e : j = k
  · subst e; exact ⟨h1, h2⟩
  · exact h j (by omega)
theorem nodup_of_ok {xs : List Int} : ∀ (k : Nat), k ≤ xs.length → okTo xs k → (xs.take k).Nodup := by
  intro k
  induction k with
  | zero => intro _ _; simp
  | succ k ih =>
    intro hk h
    rw [take_snocI xs k (by omega)]
    refine List.nodup_append.2 ⟨ih (by omega) fun j hj => h j (by omega), by simp, ?_⟩
    intro x hx y hy e
    rw [List.mem_singleton.1 hy] at e
    subst e
    exact (h k (by omega)).2 hx
theorem permB_ok {xs : List Int} (h : okTo xs xs.length) : permB xs = true := by
  have h1 := nodup_of_ok xs.length (Nat.le_refl _) h
  rw [List.take_length] at h1
  refine permB_of_nodup h1 fun x hx => ?_
  obtain ⟨j, hj, e⟩ := List.mem_iff_getElem.1 hx
  have := (h j hj).1
  rwa [List.getElem?_eq_getElem hj, Option.getD_some, e] at this

/-- The level of a number. -/
def lvl (xs : List Int) (i : Nat) : Int := (xs.idxOf (i : Int) : Int)
def levelsL (xs : List Int) : List Int := (List.range xs.length).map (lvl xs)
theorem levelsL_length (xs : List Int) : (levelsL xs).length = xs.length := by simp [levelsL]
theorem levelsL_get (xs : List Int) (i : Nat) (h : i < xs.length) : (levelsL xs)[i]?.getD 0 = lvl xs i := by
  unfold levelsL
  rw [List.getElem?_map, List.getElem?_range h]
  rfl
/-- What levelsOf has laid when k numbers have come. -/
def lvTo (xs : List Int) (n k : Nat) : List Int := (List.range n).map fun i : Nat => if (i : Int) ∈ xs.take k then lvl xs i else -1
theorem lvTo_length (xs : List Int) (n k : Nat) : (lvTo xs n k).length = n := by simp [lvTo]
theorem lvTo_get (xs : List Int) (n k x : Nat) (h : x < n) : (lvTo xs n k)[x]?.getD 0 = if (x : Int) ∈ xs.take k then lvl xs x else -1 := by
  unfold lvTo
  rw [List.getElem?_map, List.getElem?_range h]
  rfl
theorem lvTo_zero (xs : List Int) (n : Nat) : lvTo xs n 0 = List.replicate n (-1) := by
  unfold lvTo
  simp [List.map_const']
theorem idxOf_take {xs : List Int} {k : Nat} (hk : k < xs.length) (h : xs[k]?.getD 0 ∉ xs.take k) : xs.idxOf (xs[k]?.getD 0) = k := by
  have e : xs = xs.take k ++ xs.drop k := (List.take_append_drop k xs).symm
  have hd : xs.drop k = xs[k]?.getD 0 :: xs.drop (k + 1) := by rw [List.drop_eq_getElem_cons hk, List.getElem?_eq_getElem hk]; rfl
  generalize xs[k]?.getD 0 = y at h hd ⊢
  rw [e, List.idxOf_append, if_neg h, hd, List.idxOf_cons_self, List.length_take]
  omega
theorem lvTo_set {xs : List Int} {n k x : Nat} (hk : k < xs.length) (hx : xs[k]?.getD 0 = (x : Int)) (hn : x < n) (h : (x : Int) ∉ xs.take k) : (lvTo xs n k).set x (k : Int) = lvTo xs n (k + 1) := by
  have h2 := idxOf_take hk (by rw [hx]; exact h)
  rw [hx] at h2
  apply List.ext_getElem?
  intro j
  rw [List.getElem?_set, lvTo_length]
  unfold lvTo
  simp only [List.getElem?_map]
  by_cases hj : x = j
  · subst hj
    rw [if_pos rfl, if_pos hn, List.getElem?_range hn, Option.map_some, take_snocI xs k hk, hx, if_pos (by simp)]
    unfold lvl
    rw [h2]
  · rw [if_neg hj]
    by_cases hjn : j < n
    · rw [List.getElem?_range hjn, Option.map_some, Option.map_some, take_snocI xs k hk, hx]
      congr 1
      have : ((j : Int) ∈ xs.take k ++ [(x : Int)]) ↔ (j : Int) ∈ xs.take k := by
        rw [List.mem_append, List.mem_singleton]
        constructor
        · rintro (h | h)
          · exact h
          · omega
        · exact Or.inl
      simp only [this]
    · rw [List.getElem?_eq_none (by simpa using hjn)]
      rfl
theorem lvTo_all {xs : List Int} {k : Nat} (hk : k = xs.length) (h : okTo xs k) : lvTo xs xs.length k = levelsL xs := by
  subst hk
  have hp := (permN_iff _ _).1 (permB_ok h)
  unfold lvTo levelsL
  apply List.map_congr_left
  intro i hi
  rw [List.take_length, if_pos (hp i (List.mem_range.1 hi))]

/-- The last place of a number among the first k, or -1. -/
def lastTo (xs : List Int) (v : Int) : Nat → Int
  | 0 => -1
  | k + 1 => if xs[k]?.getD 0 = v then (k : Int) else lastTo xs v k
theorem lastTo_bd (xs : List Int) (v : Int) (k : Nat) : -1 ≤ lastTo xs v k ∧ lastTo xs v k < k := by
  induction k with
  | zero => exact ⟨Int.le_refl _, by unfold lastTo; omega⟩
  | succ k ih =>
    unfold lastTo
    split <;> omega
theorem lastTo_mem {xs : List Int} {v : Int} {k : Nat} (hk : k ≤ xs.length) : 0 ≤ lastTo xs v k ↔ v ∈ xs.take k := by
  induction k with
  | zero => simp [lastTo]
  | succ k ih =>
    unfold lastTo
    rw [take_snocI xs k (by omega), List.mem_append, List.mem_singleton]
    split
    · rename_i h
      exact ⟨fun _ => .inr h.symm, fun _ => by omega⟩
    · rename_i h
      rw [ih (by omega)]
      exact ⟨.inl, fun q => q.elim id fun e => absurd e.symm h⟩
theorem lastTo_idx {xs : List Int} {v : Int} (hn : xs.Nodup) (hv : v ∈ xs) : lastTo xs v xs.length = (xs.idxOf v : Int) := by
  have hi : xs.idxOf v < xs.length := List.idxOf_lt_length_of_mem hv
  have hg : xs[xs.idxOf v]?.getD 0 = v := by rw [List.getElem?_eq_getElem hi, Option.getD_some, List.getElem_idxOf]
  have key : ∀ k, k ≤ xs.length → xs.idxOf v < k → lastTo xs v k = (xs.idxOf v : Int) := by
    intro k
    induction k with
    | zero => intro _ h; omega
    | succ k ih =>
      intro hk h
      unfold lastTo
      by_cases e : xs.idxOf v = k
      · rw [if_pos (by rw [← e]; exact hg), e]
      · rw [if_neg ?_]
        · exact ih (by omega) (by omega)
        · intro q
          have hkl : k < xs.length := by omega
          have h1 : xs[k] = xs[xs.idxOf v] := by
            rw [List.getElem?_eq_getElem hkl, Option.getD_some] at q
            rw [q, List.getElem_idxOf]
          have := (List.getElem_inj hn).1 h1
          omega
  exact key xs.length (Nat.le_refl _) hi
/-- What l2Levels answers. -/
def levS (n : Nat) (xs : List Int) : List Int := if permN n xs = true then (List.range n).map fun i : Nat => lastTo xs i xs.length else []
theorem levS_perm {xs : List Int} (h : permB xs = true) : levS xs.length xs = levelsL xs := by
  unfold levS
  rw [if_pos (show permN xs.length xs = true from h)]
  apply List.map_congr_left
  intro i hi
  exact lastTo_idx (permB_nodup h) ((permN_iff _ _).1 h i (List.mem_range.1 hi))
theorem levS_not {n : Nat} {xs : List Int} (h : permN n xs = false) : levS n xs = [] := by unfold levS; rw [h]; rfl

theorem lvl_lt {xs : List Int} (h : permB xs = true) {i : Nat} (hi : i < xs.length) : 0 ≤ lvl xs i ∧ lvl xs i < xs.length := by
  have := List.idxOf_lt_length_of_mem ((permN_iff _ _).1 h i hi)
  unfold lvl
  omega
theorem lvl_inj {xs : List Int} (h : permB xs = true) {i j : Nat} (hi : i < xs.length) (hj : j < xs.length) (e : lvl xs i = lvl xs j) : i = j := by
  have h1 := (permN_iff _ _).1 h i hi
  have h2 := (permN_iff _ _).1 h j hj
  have h3 : xs.idxOf (i : Int) = xs.idxOf (j : Int) := by unfold lvl at e; omega
  have h4 : xs[xs.idxOf (i : Int)]'(List.idxOf_lt_length_of_mem h1) = (i : Int) := List.getElem_idxOf _
  have h5 : xs[xs.idxOf (j : Int)]'(List.idxOf_lt_length_of_mem h2) = (j : Int) := List.getElem_idxOf _
  have h6 : (i : Int) = (j : Int) := by rw [← h4, ← h5]; simp only [h3]
  omega

/-- A level lies between two others. -/
def betw (l a b : Int) : Bool := decide (min a b < l ∧ l < max a b)
/-- One of c and d lies between a and b, and the other one not. -/
def crossB (a b c d : Int) : Bool := betw c a b != betw d a b
theorem crossB_symm {a b c d : Int} (_h1 : a ≠ b) (h2 : a ≠ c) (h3 : a ≠ d) (h4 : b ≠ c) (h5 : b ≠ d) (_h6 : c ≠ d) : crossB a b c d = crossB c d a b := by
  unfold crossB betw
  rw [Bool.eq_iff_iff]
  simp only [bne_iff_ne, ne_eq, decide_eq_decide]
  omega
/-- No two pairs of one side cross (the program's words). -/
def unB (L : List Int) : Bool := decide (∀ k, k < L.length → ∀ m, m < L.length → k < m → m + 1 < L.length → k % 2 = m % 2 → crossB (L[k]?.getD 0) (L[k + 1]?.getD 0) (L[m]?.getD 0) (L[m + 1]?.getD 0) = false)
theorem unB_iff (L : List Int) : unB L = true ↔ ∀ k m : Nat, k < m → m + 1 < L.length → k % 2 = m % 2 → crossB (L[k]?.getD 0) (L[k + 1]?.getD 0) (L[m]?.getD 0) (L[m + 1]?.getD 0) = false := by
  unfold unB
  rw [decide_eq_true_iff]
  exact ⟨fun h k m h1 h2 h3 => h k (by omega) m (by omega) h1 h2 h3, fun h k _ m _ h1 h2 h3 => h k m h1 h2 h3⟩
theorem unB_false {L : List Int} {k m : Nat} (h1 : k < m) (h2 : m + 1 < L.length) (h3 : k % 2 = m % 2) (h : crossB (L[k]?.getD 0) (L[k + 1]?.getD 0) (L[m]?.getD 0) (L[m + 1]?.getD 0) = true) : unB L = false := by
  cases hu : unB L with
  | false => rfl
  | true => rw [(unB_iff L).1 hu k m h1 h2 h3] at h; cases h
theorem cross_levels {xs : List Int} (h : permB xs = true) {k m : Nat} (h1 : k < m) (h2 : m + 1 < xs.length) (h3 : k % 2 = m % 2) :
    crossB ((levelsL xs)[m]?.getD 0) ((levelsL xs)[m + 1]?.getD 0) ((levelsL xs)[k]?.getD 0) ((levelsL xs)[k + 1]?.getD 0) = crossB ((levelsL xs)[k]?.getD 0) ((levelsL xs)[k + 1]?.getD 0) ((levelsL xs)[m]?.getD 0) ((levelsL xs)[m + 1]?.getD 0) := by
  rw [levelsL_get xs m (by omega), levelsL_get xs (m + 1) (by omega), levelsL_get xs k (by omega), levelsL_get xs (k + 1) (by omega)]
  have inj : ∀ i j : Nat, i < xs.length → j < xs.length → i ≠ j → lvl xs i ≠ lvl xs j := fun i j hi hj hne e => hne (lvl_inj h hi hj e)
  exact crossB_symm (inj _ _ (by omega) (by omega) (by omega)) (inj _ _ (by omega) (by omega) (by omega)) (inj _ _ (by omega) (by omega) (by omega)) (inj _ _ (by omega) (by omega) (by omega)) (inj _ _ (by omega) (by omega) (by omega)) (inj _ _ (by omega) (by omega) (by omega))

/-- What StampPossible answers. -/
def possB (xs : List Int) : Bool := decide (1 ≤ xs.length ∧ xs.length ≤ 7) && permB xs && unB (levelsL xs)
theorem possB_iff (xs : List Int) : possB xs = true ↔ (1 ≤ xs.length ∧ xs.length ≤ 7) ∧ permB xs = true ∧ unB (levelsL xs) = true := by
  unfold possB
  simp only [Bool.and_eq_true, decide_eq_true_eq]
  exact ⟨fun h => ⟨h.1.1, h.1.2, h.2⟩, fun h => ⟨⟨h.1, h.2.1⟩, h.2.2⟩⟩

end Go.Proofs.Ytahbflbhkalehaa
