/-
  Plain facts on possible stacks: turned, turned over, numbered from the other end; how often a stamp is the lowest one. No program in sight.
-/
import Derived.Test.YtahbflbhkalehaaPlainQ
namespace Go.Proofs.Ytahbflbhkalehaa
open Go.RowKit

/-- The stack numbered from the other end. -/
def backL (xs : List Int) : List Int := xs.map fun x => (xs.length : Int) - 1 - x
theorem backL_length (xs : List Int) : (backL xs).length = xs.length := by simp [backL]
theorem backL_get (xs : List Int) (k : Nat) (h : k < xs.length) : (backL xs)[k]?.getD 0 = (xs.length : Int) - 1 - xs[k]?.getD 0 := by
  unfold backL
  rw [List.getElem?_map, List.getElem?_eq_getElem h]
  rfl
/-- The stack with its lowest stamp on top. -/
def turnL (xs : List Int) : List Int := xs.drop 1 ++ [xs[0]?.getD 0]
theorem turnL_length (xs : List Int) (h : 1 ≤ xs.length) : (turnL xs).length = xs.length := by simp [turnL]; omega
theorem turnL_cons (x : Int) (r : List Int) : turnL (x :: r) = r ++ [x] := rfl
theorem possB_len {xs : List Int} (h : possB xs = true) : 1 ≤ xs.length ∧ xs.length ≤ 7 := ((possB_iff xs).1 h).1
theorem possB_perm {xs : List Int} (h : possB xs = true) : permB xs = true := ((possB_iff xs).1 h).2.1
theorem possB_range {xs : List Int} (h : possB xs = true) (k : Nat) (hk : k < xs.length) : 0 ≤ xs[k]?.getD 0 ∧ xs[k]?.getD 0 < xs.length := permB_range ((possB_iff xs).1 h).2.1 _ (getD_mem hk)

theorem permB_congr {xs ys : List Int} (h : xs.Perm ys) : permB ys = permB xs := by
  rw [Bool.eq_iff_iff]
  constructor
  · intro hy; exact permB_of_perm ((permB_perm hy).trans h.symm)
  · intro hx; exact permB_of_perm ((permB_perm hx).trans h)

theorem turnL_perm {xs : List Int} (h : 1 ≤ xs.length) : xs.Perm (turnL xs) := by
  cases xs with
  | nil => simp at h
  | cons x r => rw [turnL_cons]; exact (List.perm_append_singleton x r).symm
theorem turnL_permB {xs : List Int} (h : permB xs = true) (hl : 1 ≤ xs.length) : permB (turnL xs) = true := by rw [permB_congr (turnL_perm hl)]; exact h
/-- Where a stamp lies in the turned stack. -/
theorem turnL_lvl {xs : List Int} (h : permB xs = true) {i : Nat} (hi : i < xs.length) :
    ((i : Int) ≠ xs[0]?.getD 0 ∧ lvl (turnL xs) i = lvl xs i - 1 ∧ 1 ≤ lvl xs i ∧ lvl xs i < xs.length) ∨ ((i : Int) = xs[0]?.getD 0 ∧ lvl xs i = 0 ∧ lvl (turnL xs) i = (xs.length : Int) - 1) := by
  cases xs with
  | nil => simp at hi
  | cons x r =>
    have hm := permB_mem h hi
    have hn := List.nodup_cons.1 (permB_nodup h)
    rw [turnL_cons]
    simp only [List.getElem?_cons_zero, Option.getD_some]
    unfold lvl
    by_cases e : x = (i : Int)
    · subst e
      right
      refine ⟨rfl, by rw [List.idxOf_cons_self]; rfl, ?_⟩
      rw [List.idxOf_append, if_neg hn.1, List.idxOf_cons_self, List.length_cons]
      omega
    · left
      have hr : (i : Int) ∈ r := by
        rcases List.mem_cons.1 hm with q | q
        · exact absurd q.symm e
        · exact q
      have hlt := List.idxOf_lt_length_of_mem hr
      refine ⟨fun q => e q.symm, ?_, ?_, ?_⟩
      · rw [List.idxOf_append, if_pos hr, idxOf_ne _ e]; omega
      · rw [idxOf_ne _ e]; omega
      · rw [idxOf_ne _ e, List.length_cons]; omega
theorem crossB_false_iff {a b c d : Int} : crossB a b c d = false ↔ ((min a b < c ∧ c < max a b) ↔ (min a b < d ∧ d < max a b)) := by
  unfold crossB betw
  rw [bne_eq_false_iff_eq, decide_eq_decide]
theorem crossB_turn {N a b c d a' b' c' d' : Int} (ha : (a' = a - 1 ∧ 1 ≤ a ∧ a < N) ∨ (a = 0 ∧ a' = N - 1)) (hb : (b' = b - 1 ∧ 1 ≤ b ∧ b < N) ∨ (b = 0 ∧ b' = N - 1)) (hc : (c' = c - 1 ∧ 1 ≤ c ∧ c < N) ∨ (c = 0 ∧ c' = N - 1)) (hd : (d' = d - 1 ∧ 1 ≤ d ∧ d < N) ∨ (d = 0 ∧ d' = N - 1))
    (_h1 : a ≠ b) (_h2 : a ≠ c) (_h3 : a ≠ d) (_h4 : b ≠ c) (_h5 : b ≠ d) (_h6 : c ≠ d) (h : crossB a b c d = false) : crossB a' b' c' d' = false := by
  rw [crossB_false_iff] at h ⊢
  rcases ha with ha | ha <;> rcases hb with hb | hb <;> rcases hc with hc | hc <;> rcases hd with hd | hd <;> omega
theorem turnL_possB {xs : List Int} (h : possB xs = true) : possB (turnL xs) = true := by
  obtain ⟨hr, hp, hu⟩ := (possB_iff xs).1 h
  have hl := turnL_length xs hr.1
  refine (possB_iff _).2 ⟨by rw [hl]; exact hr, turnL_permB hp hr.1, ?_⟩
  rw [unL_iff] at hu ⊢
  intro k m h1 h2 h3
  rw [hl] at h2
  have q : ∀ i : Nat, i < xs.length → (lvl (turnL xs) i = lvl xs i - 1 ∧ 1 ≤ lvl xs i ∧ lvl xs i < xs.length) ∨ (lvl xs i = 0 ∧ lvl (turnL xs) i = (xs.length : Int) - 1) := fun i hi => (turnL_lvl hp hi).imp (·.2) (·.2)
  have inj : ∀ i j : Nat, i < xs.length → j < xs.length → i ≠ j → lvl xs i ≠ lvl xs j := fun i j hi hj hne e => hne (lvl_inj hp hi hj e)
  exact crossB_turn (q k (by omega)) (q (k + 1) (by omega)) (q m (by omega)) (q (m + 1) (by omega)) (inj _ _ (by omega) (by omega) (by omega)) (inj _ _ (by omega) (by omega) (by omega)) (inj _ _ (by omega) (by omega) (by omega)) (inj _ _ (by omega) (by omega) (by omega)) (inj _ _ (by omega) (by omega) (by omega)) (inj _ _ (by omega) (by omega) (by omega)) (hu k m h1 h2 h3)

theorem idxOf_map_inj {f : Int → Int} (hf : ∀ x y, f x = f y → x = y) (x : Int) : ∀ l : List Int, (l.map f).idxOf (f x) = l.idxOf x := by
  intro l
  induction l with
  | nil => rfl
  | cons a r ih =>
    by_cases e : a = x
    · subst e; rw [List.map_cons, List.idxOf_cons_self, List.idxOf_cons_self]
    · rw [List.map_cons, idxOf_ne _ e, idxOf_ne _ (fun q => e (hf _ _ q)), ih]
theorem backL_lvl (xs : List Int) {i : Nat} (hi : i < xs.length) : lvl (backL xs) i = lvl xs (xs.length - 1 - i) := by
  unfold lvl backL
  have e : (i : Int) = (fun x => (xs.length : Int) - 1 - x) ((xs.length - 1 - i : Nat) : Int) := by simp only; omega
  rw [e, idxOf_map_inj (fun x y h => by omega)]
theorem backL_permB {xs : List Int} (h : permB xs = true) : permB (backL xs) = true := by
  refine permB_of_nodup (nodup_map_on (permB_nodup h) fun x _ y _ e => by omega) fun x hx => ?_
  rw [backL_length]
  obtain ⟨y, hy, rfl⟩ := List.mem_map.1 hx
  have := permB_range h y hy
  omega
theorem backL_possB {xs : List Int} (h : possB xs = true) : possB (backL xs) = true := by
  obtain ⟨hr, hp, hu⟩ := (possB_iff xs).1 h
  have hl := backL_length xs
  refine (possB_iff _).2 ⟨by rw [hl]; exact hr, backL_permB hp, ?_⟩
  rw [unL_iff] at hu ⊢
  intro k m h1 h2 h3
  rw [hl] at h2
  rw [backL_lvl xs (by omega), backL_lvl xs (by omega), backL_lvl xs (by omega), backL_lvl xs (by omega)]
  have hx := hu (xs.length - 1 - (m + 1)) (xs.length - 1 - (k + 1)) (by omega) (by omega) (by omega)
  rw [show xs.length - 1 - (m + 1) + 1 = xs.length - 1 - m by omega, show xs.length - 1 - (k + 1) + 1 = xs.length - 1 - k by omega] at hx
  have inj : ∀ i j : Nat, i < xs.length → j < xs.length → i ≠ j → lvl xs i ≠ lvl xs j := fun i j hi hj hne e => hne (lvl_inj hp hi hj e)
  have i1 := inj (xs.length - 1 - (m + 1)) (xs.length - 1 - m) (by omega) (by omega) (by omega)
  have i2 := inj (xs.length - 1 - (k + 1)) (xs.length - 1 - k) (by omega) (by omega) (by omega)
  have i3 := inj (xs.length - 1 - (m + 1)) (xs.length - 1 - (k + 1)) (by omega) (by omega) (by omega)
  have i4 := inj (xs.length - 1 - (m + 1)) (xs.length - 1 - k) (by omega) (by omega) (by omega)
  have i5 := inj (xs.length - 1 - m) (xs.length - 1 - (k + 1)) (by omega) (by omega) (by omega)
  have i6 := inj (xs.length - 1 - m) (xs.length - 1 - k) (by omega) (by omega) (by omega)
  rw [crossB_false_iff] at hx ⊢
  omega
theorem backL_backL {xs : List Int} : backL (backL xs) = xs := by
  unfold backL
  rw [List.map_map, List.length_map]
  conv => rhs; rw [← List.map_id xs]
  apply List.map_congr_left
  intro x _
  simp only [Function.comp_apply, id]
  omega

theorem rev_lvl {xs : List Int} (h : permB xs = true) {i : Nat} (hi : i < xs.length) : lvl xs.reverse i = (xs.length : Int) - 1 - lvl xs i := by
  have h1 := get_of_lvl h hi
  have h2 := List.idxOf_lt_length_of_mem (permB_mem h hi)
  have h3 : xs.reverse[xs.length - 1 - xs.idxOf (i : Int)]? = some (i : Int) := by
    rw [List.getElem?_reverse (by omega), show xs.length - 1 - (xs.length - 1 - xs.idxOf (i : Int)) = xs.idxOf (i : Int) by omega, h1]
  unfold lvl
  rw [idxOf_of_get ((List.reverse_perm xs).nodup_iff.2 (permB_nodup h)) h3]
  omega
theorem rev_permB (xs : List Int) : permB xs.reverse = permB xs := permB_congr (List.reverse_perm xs).symm
theorem rev_possB {xs : List Int} (h : possB xs = true) : possB xs.reverse = true := by
  obtain ⟨hr, hp, hu⟩ := (possB_iff xs).1 h
  refine (possB_iff _).2 ⟨by rw [List.length_reverse]; exact hr, by rw [rev_permB]; exact hp, ?_⟩
  rw [unL_iff] at hu ⊢
  intro k m h1 h2 h3
  rw [List.length_reverse] at h2
  rw [rev_lvl hp (by omega), rev_lvl hp (by omega), rev_lvl hp (by omega), rev_lvl hp (by omega)]
  have hx := hu k m h1 h2 h3
  rw [crossB_false_iff] at hx ⊢
  omega

theorem turn_cut {xs : List Int} {j : Nat} (h : j < xs.length) : turnL (xs.drop j ++ xs.take j) = xs.drop (j + 1) ++ xs.take (j + 1) := by
  rw [List.drop_eq_getElem_cons h, List.cons_append, turnL_cons, List.append_assoc, ← List.take_succ_eq_append_getElem h]
theorem cut_possB {xs : List Int} (h : possB xs = true) : ∀ j, j ≤ xs.length → possB (xs.drop j ++ xs.take j) = true := by
  intro j
  induction j with
  | zero => intro _; simpa using h
  | succ j ih => intro hj; rw [← turn_cut (by omega)]; exact turnL_possB (ih (by omega))
/-- The stack turned until a stamp is the lowest one. -/
def turnTo (k : Int) (xs : List Int) : List Int := xs.drop (xs.idxOf k) ++ xs.take (xs.idxOf k)
theorem turnTo_head {k : Int} {xs : List Int} (h : k ∈ xs) : (turnTo k xs)[0]?.getD 0 = k := by
  have h1 := List.idxOf_lt_length_of_mem h
  unfold turnTo
  rw [List.getElem?_append_left (by rw [List.length_drop]; omega), List.getElem?_drop, Nat.add_zero, List.getElem?_eq_getElem h1, List.getElem_idxOf]
  rfl
theorem turnTo_length (k : Int) (xs : List Int) : (turnTo k xs).length = xs.length := by
  unfold turnTo
  rw [List.length_append, List.length_drop, List.length_take]
  omega
theorem turnTo_back {k k' : Int} {xs : List Int} (hn : xs.Nodup) (hk : xs[0]? = some k) (hk' : k' ∈ xs) : turnTo k (turnTo k' xs) = xs := by
  have h1 := List.idxOf_lt_length_of_mem hk'
  have hperm : (turnTo k' xs).Perm xs := by
    unfold turnTo
    refine List.perm_append_comm.trans ?_
    rw [List.take_append_drop]
  have hn2 : (turnTo k' xs).Nodup := hperm.nodup_iff.2 hn
  by_cases e : xs.idxOf k' = 0
  · have e1 : turnTo k' xs = xs := by unfold turnTo; rw [e]; simp
    rw [e1]
    unfold turnTo
    rw [idxOf_of_get hn hk]
    simp
  · have hg : (turnTo k' xs)[xs.length - xs.idxOf k']? = some k := by
      unfold turnTo
      rw [List.getElem?_append_right (by rw [List.length_drop]; omega), List.length_drop, Nat.sub_self, List.getElem?_take, if_pos (by omega)]
      exact hk
    have hi := idxOf_of_get hn2 hg
    show (turnTo k' xs).drop ((turnTo k' xs).idxOf k) ++ (turnTo k' xs).take ((turnTo k' xs).idxOf k) = xs
    rw [hi]
    unfold turnTo
    have hdl : (xs.drop (xs.idxOf k')).length = xs.length - xs.idxOf k' := by rw [List.length_drop]
    rw [List.drop_append_of_le_length (by omega), List.drop_of_length_le (l := xs.drop (xs.idxOf k')) (by omega), List.nil_append, List.take_append_of_le_length (by omega), List.take_of_length_le (l := xs.drop (xs.idxOf k')) (by omega), List.take_append_drop]

/-- How often a stamp is the lowest one. -/
def lowN (n : Nat) (k : Int) : Nat := ((stacks n).filter fun xs => decide (xs[0]?.getD 0 = k)).length
theorem lowN_le {n : Nat} (h1 : 1 ≤ n) (h7 : n ≤ 7) {k k' : Int} (hk' : 0 ≤ k' ∧ k' < n) : lowN n k ≤ lowN n k' := by
  unfold lowN
  have hmem : ∀ x ∈ stacks n, k' ∈ x := fun x hx => by
    obtain ⟨hl, hp⟩ := (mem_stacks h1 h7).1 hx
    have := permB_mem (possB_perm hp) (i := k'.toNat) (by omega)
    rwa [Int.toNat_of_nonneg hk'.1] at this
  refine count_le (stacks_nodup n) (turnTo k') (fun x hx _ => ⟨?_, decide_eq_true (turnTo_head (hmem x hx))⟩) ?_
  · obtain ⟨hl, hp⟩ := (mem_stacks h1 h7).1 hx
    exact (mem_stacks h1 h7).2 ⟨by rw [turnTo_length, hl], cut_possB hp _ (Nat.le_of_lt (List.idxOf_lt_length_of_mem (hmem x hx)))⟩
  · intro x hx y hy px py e
    have hd : ∀ z ∈ stacks n, decide (z[0]?.getD 0 = k) = true → z[0]? = some k ∧ z.Nodup := fun z hz pz => by
      obtain ⟨hl, hp⟩ := (mem_stacks h1 h7).1 hz
      rw [decide_eq_true_eq] at pz
      refine ⟨?_, permB_nodup (possB_perm hp)⟩
      rw [List.getElem?_eq_getElem (by omega)] at pz ⊢
      rw [← pz]
      rfl
    obtain ⟨a1, a2⟩ := hd x hx px
    obtain ⟨b1, b2⟩ := hd y hy py
    rw [← turnTo_back a2 a1 (hmem x hx), ← turnTo_back b2 b1 (hmem y hy), e]
theorem filter_split {α : Type} (h : α → Int) (n : Nat) : ∀ l : List α, (l.filter fun x => decide (h x < ((n + 1 : Nat) : Int))).length = (l.filter fun x => decide (h x < (n : Int))).length + (l.filter fun x => decide (h x = (n : Int))).length := by
  intro l
  induction l with
  | nil => rfl
  | cons x r ih =>
    simp only [List.filter_cons]
    by_cases h1 : h x < (n : Int)
    · rw [if_pos (decide_eq_true (by omega)), if_pos (decide_eq_true h1), if_neg (by rw [decide_eq_true_eq]; omega)]
      simp only [List.length_cons]
      omega
    · by_cases h2 : h x = (n : Int)
      · rw [if_pos (decide_eq_true (by omega)), if_neg (by rw [decide_eq_true_eq]; omega), if_pos (decide_eq_true h2)]
        simp only [List.length_cons]
        omega
      · rw [if_neg (by rw [decide_eq_true_eq]; omega), if_neg (by rw [decide_eq_true_eq]; omega), if_neg (by rw [decide_eq_true_eq]; omega)]
        exact ih
theorem filter_parts {α : Type} (h : α → Int) (l : List α) (h0 : ∀ x ∈ l, 0 ≤ h x) (c : Nat) : ∀ n : Nat, (∀ k : Nat, k < n → (l.filter fun x => decide (h x = (k : Int))).length = c) → (l.filter fun x => decide (h x < (n : Int))).length = c * n := by
  intro n
  induction n with
  | zero =>
    intro _
    rw [Nat.mul_zero, List.length_eq_zero_iff, List.filter_eq_nil_iff]
    intro x hx
    have := h0 x hx
    rw [decide_eq_true_eq]
    omega
  | succ n ih =>
    intro hc
    rw [filter_split, ih fun k hk => hc k (by omega), hc n (by omega), Nat.mul_succ]
theorem lowN_many {n : Nat} (h1 : 1 ≤ n) (h7 : n ≤ 7) {k : Int} (hk : 0 ≤ k ∧ k < n) : lowN n k * n = (stacks n).length ∧ 1 ≤ lowN n k := by
  have hc : ∀ j : Nat, j < n → lowN n (j : Int) = lowN n k := fun j hj => Nat.le_antisymm (lowN_le h1 h7 hk) (lowN_le h1 h7 (by omega))
  have h2 := filter_parts (fun xs : List Int => xs[0]?.getD 0) (stacks n) (fun x hx => by
    obtain ⟨hl, hp⟩ := (mem_stacks h1 h7).1 hx
    exact (possB_range hp 0 (by omega)).1) (lowN n k) n hc
  have h3 : (stacks n).filter (fun x => decide (x[0]?.getD 0 < (n : Int))) = stacks n := List.filter_eq_self.2 fun x hx => by
    obtain ⟨hl, hp⟩ := (mem_stacks h1 h7).1 hx
    have := (possB_range hp 0 (by omega)).2
    exact decide_eq_true (by omega)
  rw [h3] at h2
  refine ⟨h2.symm, ?_⟩
  have h4 : upI n ∈ stacks n := (mem_stacks h1 h7).2 ⟨upI_length n, upI_possB h1 h7⟩
  have h5 := List.length_pos_of_mem h4
  rcases Nat.eq_zero_or_pos (lowN n k) with e | e
  · rw [h2, e, Nat.zero_mul] at h5; omega
  · exact e

end Go.Proofs.Ytahbflbhkalehaa
