/-
  Plain facts on a further stamp that lies next to the last one. No program in sight.
-/
import Derived.Test.YthlgagngeedgjaaPlainR
namespace Go.Proofs.Ythlgagngeedgjaa
open Go.RowKit

/-- Where the last stamp lies. -/
def lastAt (xs : List Int) : Nat := xs.idxOf ((xs.length : Int) - 1)
theorem lastAt_cast {xs : List Int} (h1 : 1 ≤ xs.length) : (xs.length : Int) - 1 = ((xs.length - 1 : Nat) : Int) := by omega
theorem lastAt_get {xs : List Int} (h : permB xs = true) (h1 : 1 ≤ xs.length) : xs[lastAt xs]? = some ((xs.length : Int) - 1) := by
  unfold lastAt
  rw [lastAt_cast h1]
  exact get_of_lvl h (by omega)
theorem lastAt_lt {xs : List Int} (h : permB xs = true) (h1 : 1 ≤ xs.length) : lastAt xs < xs.length := (List.getElem?_eq_some_iff.1 (lastAt_get h h1)).1

theorem grow_possB {xs : List Int} (h : possB xs = true) (hl : xs.length ≤ 6) {k : Nat} (hk : k = lastAt xs ∨ k = lastAt xs + 1) : possB (insL xs k) = true := by
  have h1 := (possB_len h).1
  have hp := possB_perm h
  have hyp := insL_permB hp k
  have hyl := insL_length xs k
  have hlt := lastAt_lt hp h1
  have hget := lastAt_get hp h1
  rw [possB_iff]
  refine ⟨by omega, hyp, ?_⟩
  rw [unL_iff]
  intro i m hi hm hpar
  have hx := (unL_iff xs).1 ((possB_iff xs).1 h).2.2
  have ord : ∀ {a b : Nat}, a < xs.length → b < xs.length → (lvl (insL xs k) a < lvl (insL xs k) b ↔ lvl xs a < lvl xs b) := fun ha hb => (lvl_lt_sub (insL_sub xs k) hyp hp ha hb).symm
  by_cases hmn : m + 1 < xs.length
  · rw [← hx i m hi hmn hpar]
    exact crossB_ord (ord (by omega) (by omega)) (ord (by omega) (by omega)) (ord (by omega) (by omega)) (ord (by omega) (by omega)) (ord (by omega) (by omega)) (ord (by omega) (by omega)) (ord (by omega) (by omega)) (ord (by omega) (by omega))
  · have hm1 : m = xs.length - 1 := by omega
    have e1 : lvl (insL xs k) (m + 1) = (k : Int) := by
      unfold lvl
      rw [idxOf_of_get (permB_nodup hyp) (k := k) (by rw [insL_get (by omega)]; congr 1; omega)]
    have e2 : lvl (insL xs k) m = if k = lastAt xs then (lastAt xs : Int) + 1 else (lastAt xs : Int) := by
      unfold lvl
      have hmc : ((m : Nat) : Int) = (xs.length : Int) - 1 := by omega
      rw [hmc]
      by_cases hkl : k = lastAt xs
      · rw [if_pos hkl, idxOf_of_get (permB_nodup hyp) (k := lastAt xs + 1) ?_]
        · omega
        · unfold insL
          rw [List.getElem?_append_right (by rw [List.length_take]; omega), List.length_take, hkl, show lastAt xs + 1 - min (lastAt xs) xs.length = 0 + 1 by omega, List.getElem?_cons_succ, List.getElem?_drop, Nat.add_zero]
          exact hget
      · rw [if_neg hkl, idxOf_of_get (permB_nodup hyp) (k := lastAt xs) ?_]
        unfold insL
        rw [List.getElem?_append_left (by rw [List.length_take]; omega), List.getElem?_take, if_pos (by omega)]
        exact hget
    have inj : ∀ a b : Nat, a < xs.length + 1 → b < xs.length + 1 → a ≠ b → lvl (insL xs k) a ≠ lvl (insL xs k) b := fun a b ha hb hne e => hne (lvl_inj hyp (by rw [hyl]; exact ha) (by rw [hyl]; exact hb) e)
    have n1 := inj i m (by omega) (by omega) (by omega)
    have n2 := inj i (m + 1) (by omega) (by omega) (by omega)
    have n3 := inj (i + 1) m (by omega) (by omega) (by omega)
    have n4 := inj (i + 1) (m + 1) (by omega) (by omega) (by omega)
    have e3 : lvl (insL xs k) m = (k : Int) + 1 ∨ lvl (insL xs k) m = (k : Int) - 1 := by rw [e2]; split <;> omega
    clear e2
    rw [crossB_false_iff]
    generalize lvl (insL xs k) i = x at *
    generalize lvl (insL xs k) (i + 1) = y at *
    generalize lvl (insL xs k) m = z at *
    generalize lvl (insL xs k) (m + 1) = u at *
    omega

theorem grow_many {n : Nat} (h1 : 1 ≤ n) (h6 : n ≤ 6) : 2 * (stacks n).length ≤ (stacks (n + 1)).length := by
  have hmem : ∀ xs, xs ∈ stacks n → xs.length = n ∧ possB xs = true := fun xs hx => (mem_stacks h1 (by omega)).1 hx
  have hin : ∀ (f : List Int → Nat), (∀ xs, f xs = lastAt xs ∨ f xs = lastAt xs + 1) → ∀ xs ∈ stacks n, insL xs (f xs) ∈ stacks (n + 1) := fun f hf xs hx => by
    obtain ⟨hl, hp⟩ := hmem xs hx
    exact (mem_stacks (by omega) (by omega)).2 ⟨by rw [insL_length, hl], grow_possB hp (by omega) (hf xs)⟩
  have hback : ∀ xs ∈ stacks n, ∀ k, lessL (insL xs k) = xs := fun xs hx k => insL_less (possB_perm (hmem xs hx).2) k
  have hnd : ∀ (f : List Int → Nat), ((stacks n).map fun xs => insL xs (f xs)).Nodup := fun f =>
    nodup_map_on (stacks_nodup n) fun x hx y hy e => by rw [← hback x hx (f x), e, hback y hy]
  have hall : ((stacks n).map (fun xs => insL xs (lastAt xs)) ++ (stacks n).map (fun xs => insL xs (lastAt xs + 1))).Nodup := by
    rw [List.nodup_append]
    refine ⟨hnd _, hnd _, fun a ha b hb e => ?_⟩
    obtain ⟨x, hx, rfl⟩ := List.mem_map.1 ha
    obtain ⟨y, hy, rfl⟩ := List.mem_map.1 hb
    have hxy : x = y := by rw [← hback x hx (lastAt x), e, hback y hy]
    subst hxy
    obtain ⟨hl, hp⟩ := hmem x hx
    have := lastAt_lt (possB_perm hp) (by omega)
    have := insL_inj (possB_perm hp) (by omega) (by omega) e
    omega
  have := length_le_of_sub _ (stacks (n + 1)) hall fun y hy => by
    rcases List.mem_append.1 hy with h | h
    · obtain ⟨x, hx, rfl⟩ := List.mem_map.1 h
      exact hin lastAt (fun _ => .inl rfl) x hx
    · obtain ⟨x, hx, rfl⟩ := List.mem_map.1 h
      exact hin (fun x => lastAt x + 1) (fun _ => .inr rfl) x hx
  rw [List.length_append, List.length_map, List.length_map] at this
  omega

/-- What the law's loop lays: the further stamp behind or ahead of the last one. -/
def growTo (n : Int) (p : List Int) (xs : List Int) (k : Nat) : List Int := (xs.take k).flatMap fun x => if x = n then p else [x]
theorem growTo_zero (n : Int) (p xs : List Int) : growTo n p xs 0 = [] := rfl
theorem growTo_yes {n : Int} {p xs : List Int} {k : Nat} (h : k < xs.length) (he : xs[k]?.getD 0 = n) : growTo n p xs (k + 1) = growTo n p xs k ++ p := by
  unfold growTo
  rw [take_snocI xs k h, List.flatMap_append, List.flatMap_cons, List.flatMap_nil, if_pos he, List.append_nil]
theorem growTo_no {n : Int} {p xs : List Int} {k : Nat} (h : k < xs.length) (he : ¬ xs[k]?.getD 0 = n) : growTo n p xs (k + 1) = growTo n p xs k ++ [xs[k]?.getD 0] := by
  unfold growTo
  rw [take_snocI xs k h, List.flatMap_append, List.flatMap_cons, List.flatMap_nil, if_neg he, List.append_nil]
theorem flat_same {n : Int} {p : List Int} : ∀ xs : List Int, n ∉ xs → (xs.flatMap fun x => if x = n then p else [x]) = xs := by
  intro xs
  induction xs with
  | nil => intro _; rfl
  | cons x r ih =>
    intro h
    rw [List.flatMap_cons, if_neg (fun e => h (by simp [e])), ih (fun q => h (by simp [q]))]
    rfl
theorem growTo_all {xs : List Int} (h : permB xs = true) (h1 : 1 ≤ xs.length) (p : List Int) : growTo ((xs.length : Int) - 1) p xs xs.length = xs.take (lastAt xs) ++ p ++ xs.drop (lastAt xs + 1) := by
  have hlt := lastAt_lt h h1
  have hg := lastAt_get h h1
  have hnd := permB_nodup h
  have hsplit : xs = xs.take (lastAt xs) ++ ((xs.length : Int) - 1) :: xs.drop (lastAt xs + 1) := by
    have e := List.take_append_drop (lastAt xs) xs
    rw [List.drop_eq_getElem_cons hlt] at e
    rw [List.getElem?_eq_getElem hlt] at hg
    injection hg with hg
    rw [hg] at e
    exact e.symm
  unfold growTo
  rw [List.take_length]
  generalize hn : (xs.length : Int) - 1 = n at *
  generalize hA : xs.take (lastAt xs) = A at *
  generalize hB : xs.drop (lastAt xs + 1) = B at *
  rw [hsplit] at hnd ⊢
  rw [List.nodup_append, List.nodup_cons] at hnd
  obtain ⟨_, ⟨hB1, _⟩, hd⟩ := hnd
  rw [List.flatMap_append, List.flatMap_cons, if_pos rfl, flat_same A (fun q => hd n q n (by simp) rfl), flat_same B hB1, List.append_assoc]
theorem grow_above {xs : List Int} (h : permB xs = true) (h1 : 1 ≤ xs.length) : growTo ((xs.length : Int) - 1) [(xs.length : Int) - 1, (xs.length : Int)] xs xs.length = insL xs (lastAt xs + 1) := by
  rw [growTo_all h h1]
  unfold insL
  have hlt := lastAt_lt h h1
  have hg := lastAt_get h h1
  rw [take_snocI xs (lastAt xs) hlt, hg]
  simp
theorem grow_below {xs : List Int} (h : permB xs = true) (h1 : 1 ≤ xs.length) : growTo ((xs.length : Int) - 1) [(xs.length : Int), (xs.length : Int) - 1] xs xs.length = insL xs (lastAt xs) := by
  rw [growTo_all h h1]
  unfold insL
  have hlt := lastAt_lt h h1
  have hg := lastAt_get h h1
  rw [List.drop_eq_getElem_cons hlt]
  rw [List.getElem?_eq_getElem hlt] at hg
  injection hg with hg
  rw [hg]
  simp

end Go.Proofs.Ythlgagngeedgjaa
