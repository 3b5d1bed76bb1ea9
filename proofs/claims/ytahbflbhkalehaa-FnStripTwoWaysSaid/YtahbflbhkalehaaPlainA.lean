/-
  Plain facts on lists of angles: no program in sight.
-/
import Derived.Test.YtahbflbhkalehaaPlain
namespace Go.Proofs.Ytahbflbhkalehaa
open Go.RowKit

theorem take_snocI (xs : List Int) (k : Nat) (h : k < xs.length) : xs.take (k + 1) = xs.take k ++ [xs[k]?.getD 0] := by
  rw [List.take_succ_eq_append_getElem h, List.getElem?_eq_getElem h]; rfl
theorem take_allI (xs : List Int) (k : Nat) (h : xs.length ≤ k) : xs.take k = xs := List.take_of_length_le h
theorem mem_getI (xs : List Int) (k : Nat) (h : k < xs.length) : xs[k]?.getD 0 ∈ xs := by
  rw [List.getElem?_eq_getElem h]; exact List.getElem_mem h

/-- All numbers lie from lo to hi. -/
def allIn (lo hi : Int) (xs : List Int) : Prop := ∀ x ∈ xs, lo ≤ x ∧ x ≤ hi
instance (lo hi : Int) (xs : List Int) : Decidable (allIn lo hi xs) := by unfold allIn; infer_instance
theorem allIn_nil (lo hi : Int) : allIn lo hi [] := by intro x hx; cases hx
theorem allIn_snoc {lo hi : Int} {xs : List Int} {x : Int} (h : allIn lo hi xs) (h1 : lo ≤ x) (h2 : x ≤ hi) : allIn lo hi (xs ++ [x]) := by
  intro y hy
  rcases List.mem_append.1 hy with hy | hy
  · exact h y hy
  · rw [List.mem_singleton.1 hy]; exact ⟨h1, h2⟩
theorem allIn_take {lo hi : Int} {xs : List Int} (h : allIn lo hi xs) (k : Nat) : allIn lo hi (xs.take k) := fun x hx => h x (List.mem_of_mem_take hx)
theorem allIn_get {lo hi : Int} {xs : List Int} (h : allIn lo hi xs) (k : Nat) (hk : k < xs.length) : lo ≤ xs[k]?.getD 0 ∧ xs[k]?.getD 0 ≤ hi := h _ (mem_getI xs k hk)
theorem sum_bd {hi : Int} (_hh : 0 ≤ hi) : ∀ {xs : List Int}, allIn 1 hi xs → 0 ≤ xs.sum ∧ xs.sum ≤ hi * xs.length := by
  intro xs
  induction xs with
  | nil => intro _; simp
  | cons x r ih =>
    intro h
    have h1 := h x (by simp)
    have h2 := ih fun y hy => h y (by simp [hy])
    simp only [List.sum_cons, List.length_cons, Int.natCast_add, Int.natCast_one, Int.mul_add, Int.mul_one]
    omega
theorem sum_take_bd {xs : List Int} (h : allIn 1 360 xs) (k : Nat) : 0 ≤ (xs.take k).sum ∧ (xs.take k).sum ≤ 360 * k := by
  have h1 := sum_bd (by omega) (allIn_take h k)
  have h2 : (xs.take k).length ≤ k := List.length_take_le _ _
  omega
theorem sum_snocI (xs : List Int) (x : Int) : (xs ++ [x]).sum = xs.sum + x := by simp

/-- What AnglesValid answers. -/
def anglesB (xs : List Int) : Bool := decide (2 ≤ xs.length ∧ xs.length ≤ 10 ∧ xs.length % 2 = 0 ∧ allIn 1 360 xs ∧ xs.sum = 360)
theorem anglesB_iff (xs : List Int) : anglesB xs = true ↔ (2 ≤ xs.length ∧ xs.length ≤ 10 ∧ xs.length % 2 = 0 ∧ allIn 1 360 xs ∧ xs.sum = 360) := by
  unfold anglesB; exact decide_eq_true_iff
theorem anglesB_false {xs : List Int} (h : ¬ (2 ≤ xs.length ∧ xs.length ≤ 10 ∧ xs.length % 2 = 0 ∧ allIn 1 360 xs ∧ xs.sum = 360)) : anglesB xs = false := by
  unfold anglesB; exact decide_eq_false h
theorem not_allIn {lo hi : Int} {xs : List Int} (k : Nat) (hk : k < xs.length) (h : ¬ (lo ≤ xs[k]?.getD 0 ∧ xs[k]?.getD 0 ≤ hi)) : ¬ allIn lo hi xs := fun ha => h (allIn_get ha k hk)

/-- The sum with alternating signs. -/
def alt : List Int → Int
  | [] => 0
  | x :: r => x - alt r
theorem alt_snoc (xs : List Int) (x : Int) : alt (xs ++ [x]) = alt xs + (if xs.length % 2 = 0 then x else -x) := by
  induction xs with
  | nil => simp [alt]
  | cons y r ih =>
    simp only [List.cons_append, alt, ih, List.length_cons]
    by_cases h : r.length % 2 = 0
    · rw [if_pos h, if_neg (by omega)]; omega
    · rw [if_neg h, if_pos (by omega)]; omega
theorem alt_take (xs : List Int) (k : Nat) (h : k < xs.length) : alt (xs.take (k + 1)) = alt (xs.take k) + (if k % 2 = 0 then xs[k]?.getD 0 else -(xs[k]?.getD 0)) := by
  rw [take_snocI xs k h, alt_snoc, List.length_take, Nat.min_eq_left (by omega)]
theorem alt_bd {hi : Int} (_hh : 0 ≤ hi) : ∀ {xs : List Int}, allIn 1 hi xs → -(hi * xs.length) ≤ alt xs ∧ alt xs ≤ hi * xs.length := by
  intro xs
  induction xs with
  | nil => intro _; simp [alt]
  | cons x r ih =>
    intro h
    have h1 := h x (by simp)
    have h2 := ih fun y hy => h y (by simp [hy])
    simp only [alt, List.length_cons, Int.natCast_add, Int.natCast_one, Int.mul_add, Int.mul_one]
    omega
theorem alt_take_bd {xs : List Int} (h : allIn 1 1000 xs) (k : Nat) : -(1000 * (k : Int)) ≤ alt (xs.take k) ∧ alt (xs.take k) ≤ 1000 * k := by
  have h1 := alt_bd (by omega) (allIn_take h k)
  have h2 : (xs.take k).length ≤ k := List.length_take_le _ _
  omega

end Go.Proofs.Ytahbflbhkalehaa
