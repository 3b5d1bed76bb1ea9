/-
  Plain facts on the next stack: the least one of those that come behind. No program in sight.
-/
import Derived.Test.YthlgagngeedgjaaPlainQ
namespace Go.Proofs.Ythlgagngeedgjaa
open Go.RowKit

/-- One step of the search for the least list behind xs. -/
def nextStep (xs : List Int) (acc : Option (List Int)) (s : List Int) : Option (List Int) :=
  if lexB xs s = true ∧ (∀ t, acc = some t → lexB s t = true) then some s else acc
def nextF (xs : List Int) (L : List (List Int)) : Option (List Int) := L.foldl (nextStep xs) none
theorem nextF_snoc (xs : List Int) (L : List (List Int)) (s : List Int) : nextF xs (L ++ [s]) = nextStep xs (nextF xs L) s := by simp [nextF]
theorem snoc_ind {α : Type} {P : List α → Prop} (h0 : P []) (h1 : ∀ L s, P L → P (L ++ [s])) : ∀ L, P L := by
  intro L
  rw [← L.reverse_reverse]
  induction L.reverse with
  | nil => exact h0
  | cons a r ih => rw [List.reverse_cons]; exact h1 _ _ ih
theorem nextF_spec (xs : List Int) (n : Nat) : ∀ L : List (List Int), (∀ s ∈ L, s.length = n) →
    (nextF xs L = none → ∀ s ∈ L, lexB xs s = false) ∧ (∀ m, nextF xs L = some m → m ∈ L ∧ lexB xs m = true ∧ ∀ s ∈ L, lexB xs s = true → s = m ∨ lexB m s = true) := by
  refine snoc_ind ?_ ?_
  · intro _; exact ⟨fun _ s hs => (by cases hs), fun m hm => (by cases hm)⟩
  · intro L s ih hl
    have ih := ih fun t ht => hl t (by simp [ht])
    have hsl := hl s (by simp)
    rw [nextF_snoc]
    unfold nextStep
    by_cases hc : lexB xs s = true ∧ (∀ t, nextF xs L = some t → lexB s t = true)
    · rw [if_pos hc]
      refine ⟨fun q => (by cases q), fun m hm => ?_⟩
      cases hm
      refine ⟨by simp, hc.1, fun t ht hx => ?_⟩
      rcases List.mem_append.1 ht with ht | ht
      · cases hn : nextF xs L with
        | none => rw [ih.1 hn t ht] at hx; cases hx
        | some m =>
          rcases (ih.2 m hn).2.2 t ht hx with e | e
          · right; rw [e]; exact hc.2 m hn
          · right; exact lexB_trans (hc.2 m hn) e
      · left; simpa using ht
    · rw [if_neg hc]
      refine ⟨fun hn t ht => ?_, fun m hm => ?_⟩
      · rcases List.mem_append.1 ht with ht | ht
        · exact ih.1 hn t ht
        · rw [List.mem_singleton] at ht
          subst ht
          cases hx : lexB xs t with
          | false => rfl
          | true => exact absurd ⟨hx, fun u hu => by rw [hn] at hu; cases hu⟩ hc
      · obtain ⟨h1, h2, h3⟩ := ih.2 m hm
        refine ⟨by simp [h1], h2, fun t ht hx => ?_⟩
        rcases List.mem_append.1 ht with ht | ht
        · exact h3 t ht hx
        · rw [List.mem_singleton] at ht
          subst ht
          cases hts : lexB t m with
          | true => exact absurd ⟨hx, fun u hu => by rw [hm] at hu; cases hu; exact hts⟩ hc
          | false =>
            cases hmt : lexB m t with
            | true => exact .inr rfl
            | false => exact .inl (lexB_total (by rw [hsl, hl m (by simp [h1])]) hts hmt)

theorem nextF_stacks {n : Nat} (h1 : 1 ≤ n) (h7 : n ≤ 7) {xs : List Int} (hl : xs.length = n) (hp : possB xs = true) :
    nextF xs (stk n) = (stacks n)[((stacks n).filter fun ys => lexB ys xs).length + 1]? := by
  have hmem : xs ∈ stacks n := (mem_stacks h1 h7).2 ⟨hl, hp⟩
  obtain ⟨A, B, hAB⟩ := List.append_of_mem hmem
  have hs := stacks_sorted n
  rw [hAB, List.pairwise_append, List.pairwise_cons] at hs
  obtain ⟨_, ⟨hB, hBB⟩, hAx⟩ := hs
  have hfil : (stacks n).filter (fun ys => lexB ys xs) = A := by
    rw [hAB, List.filter_append, List.filter_cons, if_neg (by rw [lexB_irrefl]; simp)]
    rw [List.filter_eq_self.2 fun a ha => hAx a ha xs (by simp), List.filter_eq_nil_iff.2 fun b hb q => by
      have := lexB_trans (hB b hb) q
      rw [lexB_irrefl] at this
      cases this]
    simp
  rw [hfil, hAB]
  have hget : (A ++ xs :: B)[A.length + 1]? = B.head? := by
    rw [List.getElem?_append_right (by omega), show A.length + 1 - A.length = 0 + 1 by omega, List.getElem?_cons_succ]
    cases B <;> rfl
  rw [hget]
  obtain ⟨q1, q2⟩ := nextF_spec xs n (stk n) fun s hs => stk_length h1 h7 hs
  have hin : ∀ s, s ∈ stk n ↔ s ∈ A ++ xs :: B := fun s => by rw [← hAB, stk_mem h1 h7, mem_stacks h1 h7]
  have hgt : ∀ s, s ∈ A ++ xs :: B → lexB xs s = true → s ∈ B := fun s hs hx => by
    rcases List.mem_append.1 hs with h | h
    · have := lexB_trans (hAx s h xs (by simp)) hx
      rw [lexB_irrefl] at this
      cases this
    · rcases List.mem_cons.1 h with h | h
      · rw [h, lexB_irrefl] at hx; cases hx
      · exact h
  cases hB0 : B with
  | nil =>
    cases hn : nextF xs (stk n) with
    | none => rfl
    | some m =>
      obtain ⟨m1, m2, _⟩ := q2 m hn
      have := hgt m ((hin m).1 m1) m2
      rw [hB0] at this
      cases this
  | cons b B' =>
    have hb : b ∈ B := by rw [hB0]; simp
    have hbs : b ∈ stk n := (hin b).2 (by simp [hb])
    cases hn : nextF xs (stk n) with
    | none => have := q1 hn b hbs; rw [hB b hb] at this; cases this
    | some m =>
      obtain ⟨m1, m2, m3⟩ := q2 m hn
      have hmB := hgt m ((hin m).1 m1) m2
      rcases m3 b hbs (hB b hb) with e | e
      · rw [e]; rfl
      · rw [hB0] at hmB hBB
        rcases List.mem_cons.1 hmB with h | h
        · rw [h]; rfl
        · have := lexB_trans e ((List.pairwise_cons.1 hBB).1 m h)
          rw [lexB_irrefl] at this
          cases this

end Go.Proofs.Ythlgagngeedgjaa
