/-
  Plain facts on the lists that hold each number once, in order, and on counting them. No program in sight.
-/
import Derived.Test.YtahbflbhkalehaaPlainP
namespace Go.Proofs.Ytahbflbhkalehaa
open Go.RowKit

/-- A list comes ahead of another one, compared number by number. -/
def lexB : List Int → List Int → Bool
  | x :: a, y :: b => if x = y then lexB a b else decide (x < y)
  | _, _ => false
theorem lexB_nil (b : List Int) : lexB [] b = false := by cases b <;> rfl
theorem lexB_append (b x y : List Int) : lexB (b ++ x) (b ++ y) = lexB x y := by
  induction b with
  | nil => rfl
  | cons c r ih => simp only [List.cons_append, lexB, if_pos, ih]
theorem lexB_head {i j : Int} (h : i < j) (x y : List Int) : lexB (i :: x) (j :: y) = true := by
  simp only [lexB]
  rw [if_neg (by omega), decide_eq_true h]
theorem lexB_irrefl (x : List Int) : lexB x x = false := by
  induction x with
  | nil => rfl
  | cons c r ih => simp only [lexB, if_pos, ih]
theorem lexB_trans : ∀ {x y z : List Int}, lexB x y = true → lexB y z = true → lexB x z = true := by
  intro x
  induction x with
  | nil => intro y z h; rw [lexB_nil] at h; cases h
  | cons a r ih =>
    intro y z h1 h2
    cases y with
    | nil => simp [lexB] at h1
    | cons b s =>
      cases z with
      | nil => simp [lexB] at h2
      | cons c t =>
        simp only [lexB] at h1 h2 ⊢
        by_cases e1 : a = b
        · rw [if_pos e1] at h1
          by_cases e2 : b = c
          · rw [if_pos e2] at h2; rw [if_pos (e1.trans e2)]; exact ih h1 h2
          · rw [if_neg e2, decide_eq_true_eq] at h2; rw [if_neg (by omega), decide_eq_true_eq]; omega
        · rw [if_neg e1, decide_eq_true_eq] at h1
          by_cases e2 : b = c
          · rw [if_pos e2] at h2; rw [if_neg (by omega), decide_eq_true_eq]; omega
          · rw [if_neg e2, decide_eq_true_eq] at h2; rw [if_neg (by omega), decide_eq_true_eq]; omega
theorem lexB_total : ∀ {x y : List Int}, x.length = y.length → lexB x y = false → lexB y x = false → x = y := by
  intro x
  induction x with
  | nil => intro y h _ _; exact (List.eq_nil_of_length_eq_zero h.symm).symm
  | cons a r ih =>
    intro y h h1 h2
    cases y with
    | nil => simp at h
    | cons b s =>
      simp only [lexB] at h1 h2
      by_cases e : a = b
      · rw [if_pos e] at h1; rw [if_pos e.symm] at h2
        rw [e, ih (by simpa using h) h1 h2]
      · rw [if_neg e, decide_eq_false_iff_not] at h1
        rw [if_neg (fun q => e q.symm), decide_eq_false_iff_not] at h2
        omega

/-- All lists that begin with b, f numbers below n more, no number twice; in order. -/
def allL (n : Nat) : Nat → List Int → List (List Int)
  | 0, b => [b]
  | f + 1, b => (upI n).flatMap fun i => if i ∈ b then [] else allL n f (b ++ [i])

theorem mem_allL {n : Nat} : ∀ {f : Nat} {b xs : List Int}, xs ∈ allL n f b ↔ ∃ r, xs = b ++ r ∧ r.length = f ∧ r.Nodup ∧ ∀ x ∈ r, (0 ≤ x ∧ x < n) ∧ x ∉ b := by
  intro f
  induction f with
  | zero =>
    intro b xs
    simp only [allL, List.mem_singleton]
    constructor
    · rintro rfl; exact ⟨[], by simp, rfl, List.nodup_nil, fun x hx => by cases hx⟩
    · rintro ⟨r, rfl, hl, _⟩; rw [List.eq_nil_of_length_eq_zero hl, List.append_nil]
  | succ f ih =>
    intro b xs
    simp only [allL, List.mem_flatMap]
    constructor
    · rintro ⟨i, hi, hx⟩
      by_cases hb : i ∈ b
      · rw [if_pos hb] at hx; cases hx
      · rw [if_neg hb] at hx
        obtain ⟨r, rfl, hl, hn, ha⟩ := ih.1 hx
        refine ⟨i :: r, by simp, by simp [hl], List.nodup_cons.2 ⟨fun h => (ha i h).2 (by simp), hn⟩, fun x hx => ?_⟩
        rcases List.mem_cons.1 hx with rfl | hx
        · exact ⟨mem_upI.1 hi, hb⟩
        · exact ⟨(ha x hx).1, fun h => (ha x hx).2 (by simp [h])⟩
    · rintro ⟨r, rfl, hl, hn, ha⟩
      cases r with
      | nil => simp at hl
      | cons i r =>
        refine ⟨i, mem_upI.2 (ha i (by simp)).1, ?_⟩
        rw [if_neg (ha i (by simp)).2]
        have hn' := List.nodup_cons.1 hn
        refine ih.2 ⟨r, by simp, by simpa using hl, hn'.2, fun x hx => ⟨(ha x (by simp [hx])).1, fun h => ?_⟩⟩
        rcases List.mem_append.1 h with h | h
        · exact (ha x (by simp [hx])).2 h
        · rw [List.mem_singleton] at h; subst h; exact hn'.1 hx

theorem upI_sorted (n : Nat) : (upI n).Pairwise (· < ·) := by
  unfold upI
  refine List.Pairwise.map _ ?_ (List.pairwise_lt_range (n := n))
  intro a b h
  exact Int.ofNat_lt.2 h

theorem allL_sorted {n : Nat} : ∀ (f : Nat) (b : List Int), (allL n f b).Pairwise fun x y => lexB x y = true := by
  intro f
  induction f with
  | zero => intro b; exact List.pairwise_singleton _ _
  | succ f ih =>
    intro b
    simp only [allL]
    rw [List.pairwise_flatMap]
    constructor
    · intro i _
      by_cases hb : i ∈ b
      · rw [if_pos hb]; exact List.Pairwise.nil
      · rw [if_neg hb]; exact ih _
    · refine (upI_sorted n).imp ?_
      intro i j hij x hx y hy
      by_cases hb : i ∈ b
      · rw [if_pos hb] at hx; cases hx
      · by_cases hc : j ∈ b
        · rw [if_pos hc] at hy; cases hy
        · rw [if_neg hb] at hx
          rw [if_neg hc] at hy
          obtain ⟨r, rfl, _⟩ := mem_allL.1 hx
          obtain ⟨s, rfl, _⟩ := mem_allL.1 hy
          rw [List.append_assoc, List.append_assoc, lexB_append]
          exact lexB_head hij _ _

theorem allL_nodup (n f : Nat) (b : List Int) : (allL n f b).Nodup :=
  (allL_sorted f b).imp fun {x y} h e => by subst e; rw [lexB_irrefl] at h; cases h

/-- Each list that holds each of the numbers below n once. -/
def perms (n : Nat) : List (List Int) := allL n n []
theorem mem_perms {n : Nat} {xs : List Int} : xs ∈ perms n ↔ xs.length = n ∧ permB xs = true := by
  unfold perms
  rw [mem_allL]
  constructor
  · rintro ⟨r, rfl, hl, hn, ha⟩
    exact ⟨hl, permB_of_nodup hn fun x hx => by rw [hl]; exact (ha x hx).1⟩
  · rintro ⟨hl, hp⟩
    exact ⟨xs, by simp, hl, permB_nodup hp, fun x hx => ⟨by have := permB_range hp x hx; rwa [hl] at this, by simp⟩⟩
theorem perms_nodup (n : Nat) : (perms n).Nodup := allL_nodup n n []
theorem perms_sorted (n : Nat) : (perms n).Pairwise fun x y => lexB x y = true := allL_sorted n []

theorem length_le_of_sub {α : Type} [DecidableEq α] : ∀ (ys xs : List α), ys.Nodup → (∀ y ∈ ys, y ∈ xs) → ys.length ≤ xs.length := by
  intro ys
  induction ys with
  | nil => intro xs _ _; simp
  | cons y r ih =>
    intro xs hn hs
    have hy := hs y (by simp)
    have hn' := List.nodup_cons.1 hn
    have h1 : r.length ≤ (xs.erase y).length := by
      refine ih _ hn'.2 fun z hz => ?_
      have hne : z ≠ y := by rintro rfl; exact hn'.1 hz
      exact (List.mem_erase_of_ne hne).2 (hs z (by simp [hz]))
    rw [List.length_erase_of_mem hy] at h1
    have := List.length_pos_of_mem hy
    simp only [List.length_cons]
    omega
theorem nodup_map_on {α β : Type} {f : α → β} : ∀ {l : List α}, l.Nodup → (∀ x ∈ l, ∀ y ∈ l, f x = f y → x = y) → (l.map f).Nodup := by
  intro l
  induction l with
  | nil => intro _ _; exact List.nodup_nil
  | cons a r ih =>
    intro hn hi
    have hn' := List.nodup_cons.1 hn
    rw [List.map_cons, List.nodup_cons]
    refine ⟨fun h => ?_, ih hn'.2 fun x hx y hy => hi x (by simp [hx]) y (by simp [hy])⟩
    obtain ⟨b, hb, e⟩ := List.mem_map.1 h
    exact hn'.1 (hi b (by simp [hb]) a (by simp) e ▸ hb)
/-- No more of one kind than of the other. -/
theorem count_le {α β : Type} [DecidableEq β] {L : List α} {M : List β} {P : α → Bool} {Q : β → Bool} (hL : L.Nodup) (f : α → β)
    (hf : ∀ x ∈ L, P x = true → f x ∈ M ∧ Q (f x) = true) (hi : ∀ x ∈ L, ∀ y ∈ L, P x = true → P y = true → f x = f y → x = y) : (L.filter P).length ≤ (M.filter Q).length := by
  have h1 : ((L.filter P).map f).Nodup := nodup_map_on (List.Nodup.sublist List.filter_sublist hL) fun x hx y hy => by
    rw [List.mem_filter] at hx hy
    exact hi x hx.1 y hy.1 hx.2 hy.2
  have h2 := length_le_of_sub _ (M.filter Q) h1 fun y hy => by
    obtain ⟨x, hx, rfl⟩ := List.mem_map.1 hy
    rw [List.mem_filter] at hx ⊢
    exact hf x hx.1 hx.2
  rwa [List.length_map] at h2
theorem perm_of_mem {α : Type} [DecidableEq α] : ∀ {xs ys : List α}, xs.Nodup → ys.Nodup → (∀ x, x ∈ xs ↔ x ∈ ys) → xs.Perm ys := by
  intro xs
  induction xs with
  | nil =>
    intro ys _ _ h
    have : ys = [] := by
      cases ys with
      | nil => rfl
      | cons y r => exact absurd ((h y).2 (by simp)) (by simp)
    subst this
    exact List.Perm.refl _
  | cons a r ih =>
    intro ys hx hy h
    have hn := List.nodup_cons.1 hx
    have ha := (h a).1 (by simp)
    refine (List.Perm.cons a (ih hn.2 (hy.erase a) fun x => ?_)).trans (List.perm_cons_erase ha).symm
    rw [hy.mem_erase_iff]
    constructor
    · intro hxr; exact ⟨fun e => hn.1 (e ▸ hxr), (h x).1 (by simp [hxr])⟩
    · rintro ⟨hne, hxy⟩
      rcases List.mem_cons.1 ((h x).2 hxy) with e | e
      · exact absurd e hne
      · exact e

end Go.Proofs.Ytahbflbhkalehaa
