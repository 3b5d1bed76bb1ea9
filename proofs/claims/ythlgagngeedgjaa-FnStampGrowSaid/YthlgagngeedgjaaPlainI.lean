/-
  Plain facts on the order in which the program makes the stacks. No program in sight.
-/
import Derived.Test.YthlgagngeedgjaaPlainQ
namespace Go.Proofs.Ythlgagngeedgjaa
open Go.RowKit

/-- The possible stacks that come of putting the next stamp into s. -/
def insAll (n : Nat) (s : List Int) : List (List Int) := ((List.range n).map (insL s)).filter possB
theorem insAll_yes {n : Nat} {s : List Int} (h : possB (insL s n) = true) : insAll (n + 1) s = insAll n s ++ [insL s n] := by
  unfold insAll
  rw [List.range_succ, List.map_append, List.filter_append, List.map_singleton, List.filter_cons, if_pos h]
  rfl
theorem insAll_no {n : Nat} {s : List Int} (h : possB (insL s n) = false) : insAll (n + 1) s = insAll n s := by
  unfold insAll
  rw [List.range_succ, List.map_append, List.filter_append, List.map_singleton, List.filter_cons, if_neg (by rw [h]; simp)]
  simp
/-- How many stacks have come when k smaller ones are done. -/
def cntTo (n k : Nat) : Nat := (((stk (n + 1)).take k).flatMap (insAll (n + 2))).length
theorem cntTo_zero (n : Nat) : cntTo n 0 = 0 := rfl
theorem cntTo_succ {n k : Nat} (h : k < (stk (n + 1)).length) : cntTo n (k + 1) = cntTo n k + (insAll (n + 2) ((stk (n + 1))[k]?.getD [])).length := by
  unfold cntTo
  rw [List.take_succ_eq_append_getElem h, List.flatMap_append, List.length_append, List.getElem?_eq_getElem h]
  simp
theorem stk_succ (n : Nat) : stk (n + 2) = (stk (n + 1)).flatMap (insAll (n + 2)) := rfl
theorem cntTo_all (n : Nat) : cntTo n (stk (n + 1)).length = (stk (n + 2)).length := by unfold cntTo; rw [List.take_length, stk_succ]
theorem insAll_prefix (s : List Int) : ∀ {t n : Nat}, t ≤ n → ∃ r, insAll n s = insAll t s ++ r := by
  intro t n
  induction n with
  | zero =>
    intro h
    obtain rfl : t = 0 := by omega
    exact ⟨[], by simp⟩
  | succ n ih =>
    intro h
    by_cases e : t = n + 1
    · subst e; exact ⟨[], by simp⟩
    · obtain ⟨r, hr⟩ := ih (by omega)
      cases hp : possB (insL s n) with
      | true => exact ⟨r ++ [insL s n], by rw [insAll_yes hp, hr, List.append_assoc]⟩
      | false => exact ⟨r, by rw [insAll_no hp, hr]⟩
theorem stk_at {n k t : Nat} (hk : k < (stk (n + 1)).length) (ht : t < n + 2) (hp : possB (insL ((stk (n + 1))[k]?.getD []) t) = true) :
    (stk (n + 2))[cntTo n k + (insAll t ((stk (n + 1))[k]?.getD [])).length]? = some (insL ((stk (n + 1))[k]?.getD []) t) := by
  have e : stk (n + 1) = (stk (n + 1)).take k ++ (stk (n + 1))[k]?.getD [] :: (stk (n + 1)).drop (k + 1) := by
    rw [List.getElem?_eq_getElem hk, Option.getD_some, ← List.drop_eq_getElem_cons hk, List.take_append_drop]
  obtain ⟨r, hr⟩ := insAll_prefix ((stk (n + 1))[k]?.getD []) (t := t + 1) (n := n + 2) (by omega)
  rw [insAll_yes hp] at hr
  have h2 : stk (n + 2) = ((stk (n + 1)).take k).flatMap (insAll (n + 2)) ++ (insAll (n + 2) ((stk (n + 1))[k]?.getD []) ++ ((stk (n + 1)).drop (k + 1)).flatMap (insAll (n + 2))) := by
    rw [stk_succ]
    conv => lhs; rw [e]
    rw [List.flatMap_append, List.flatMap_cons]
  rw [h2, hr]
  unfold cntTo
  rw [List.getElem?_append_right (by omega), Nat.add_sub_cancel_left]
  rw [List.append_assoc, List.append_assoc, List.getElem?_append_right (Nat.le_refl _), Nat.sub_self]
  rfl

end Go.Proofs.Ythlgagngeedgjaa
