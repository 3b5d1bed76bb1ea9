/-
  Plain law: a strip can be folded by steps if and only if there are right layers of it. No program in sight.
-/
import Derived.Test.YtahbflbhkalehaaPlainT
import Derived.Test.YtahbflbhkalehaaPlainZ
namespace Go.Proofs.Ytahbflbhkalehaa
open Go.RowKit

/-- The places and the folds' directions of a strip. -/
def pOf (xs : List Int) (i : Nat) : Int := alt (xs.take i)
def uOf (s : ByteArray) (k : Nat) : Bool := hiB (bAt s k) k
def mvS (s : ByteArray) : Prop := ∀ k, k < s.size → bAt s k = 86 ∨ bAt s k = 77
theorem bytes_take {s : ByteArray} {i k : Nat} (hi : i < k) (hk : k ≤ s.size) : bAt (s.extract 0 k) i = bAt s i := by
  rw [bAt_get s i (by omega), bAt_get _ i (by rw [ByteArray.size_extract]; omega), ByteArray.getElem_extract]
  congr 1
  omega
theorem bytes_drop {s : ByteArray} {c k : Nat} (hk : c + k < s.size) : bAt (s.extract c s.size) k = bAt s (c + k) := by
  rw [bAt_get s (c + k) hk, bAt_get _ k (by rw [ByteArray.size_extract]; omega), ByteArray.getElem_extract]
theorem bytes_left {s u : ByteArray} {k : Nat} (h : k < s.size) : bAt (s ++ u) k = bAt s k := by
  rw [bAt_get s k h, bAt_get _ k (by rw [ByteArray.size_append]; omega), ByteArray.getElem_append_left h]
theorem bytes_right {s u : ByteArray} {k : Nat} (h : k < u.size) : bAt (s ++ u) (s.size + k) = bAt u k := by
  rw [bAt_get u k h, bAt_get _ _ (by rw [ByteArray.size_append]; omega), ByteArray.getElem_append_right (by omega)]
  congr 1
  omega
theorem at0_pos {xs : List Int} (h : ∀ x ∈ xs, 1 ≤ x) {k : Nat} (hk : k < xs.length) : 1 ≤ at0 xs k := h _ (mem_getI xs k hk)
theorem pOf_succ {xs : List Int} {i : Nat} (h : i < xs.length) : pOf xs (i + 1) = pOf xs i + (if i % 2 = 0 then at0 xs i else - at0 xs i) := alt_take xs i h
theorem pOf_up {xs : List Int} (h : ∀ x ∈ xs, 1 ≤ x) {i : Nat} (hi : i < xs.length) : (i % 2 = 0 ∧ pOf xs (i + 1) = pOf xs i + at0 xs i ∧ 1 ≤ at0 xs i) ∨ (i % 2 = 1 ∧ pOf xs (i + 1) = pOf xs i - at0 xs i ∧ 1 ≤ at0 xs i) := by
  have h1 := pOf_succ hi
  have h2 := at0_pos h hi
  by_cases h3 : i % 2 = 0
  · rw [if_pos h3] at h1; exact .inl ⟨h3, h1, h2⟩
  · rw [if_neg h3] at h1; exact .inr ⟨by omega, by omega, h2⟩
theorem pOf_zig {xs : List Int} (h : ∀ x ∈ xs, 1 ≤ x) : Zig xs.length (pOf xs) := by
  refine ⟨fun i hi => ?_, fun i hi => ?_⟩
  · rcases pOf_up h hi with ⟨_, h1, h2⟩ | ⟨_, h1, h2⟩ <;> omega
  · have h1 := pOf_up h (show i < xs.length by omega)
    have h2 := pOf_up h hi
    rw [show i + 1 + 1 = i + 2 by omega] at h2
    omega
theorem pOf_len {xs : List Int} (h : ∀ x ∈ xs, 1 ≤ x) {i j : Nat} (hi : i < xs.length) (hj : j < xs.length) : lenLe (pOf xs) i j ↔ at0 xs i ≤ at0 xs j := by
  have h1 := pOf_up h hi
  have h2 := pOf_up h hj
  unfold lenLe
  omega

/-! The three steps, on lists and texts. -/
theorem hiB_next (c : UInt8) (k : Nat) : hiB c (k + 1) = !hiB c k := by
  unfold hiB
  by_cases h : k % 2 = 0
  · rw [decide_eq_true h, decide_eq_false (by omega)]; cases c == 86 <;> rfl
  · rw [decide_eq_false h, decide_eq_true (by omega)]; cases c == 86 <;> rfl
theorem hiB_two (c : UInt8) (k : Nat) : hiB c (k + 2) = hiB c k := by rw [hiB_next, hiB_next, Bool.not_not]
theorem has_drop {n : Nat} {xs : List Int} {s : ByteArray} (hl : xs.length = n + 1) (hs : s.size = n) (h : ∀ x ∈ xs, 1 ≤ x) :
    Has n (pOf (xs.drop 1)) (uOf (s.extract 1 s.size)) ↔ Has n (fun i => pOf xs (i + 1)) (fun k => uOf s (k + 1)) := by
  have hu : ∀ k, k + 1 < n → (!uOf (s.extract 1 s.size) k) = uOf s (k + 1) := fun k hk => by
    unfold uOf
    rw [bytes_drop (by omega), hiB_next, Nat.add_comm 1 k]
  match xs, hl, h with
  | x :: r, hl, h =>
    have hr : r.length = n := by simpa using hl
    have Z := pOf_zig h
    rw [hl] at Z
    have Zr : Zig n (pOf r) := by have := pOf_zig (xs := r) fun y hy => h y (by simp [hy]); rwa [hr] at this
    constructor
    · intro H
      exact (H.mirror Zr x).neg.congr (fun i _ => rfl) hu
    · intro H
      exact (H.mirror Z.first x).neg.congr (fun i _ => by show x - (x - pOf r i) = pOf r i; omega) (fun k hk => by rw [← hu k hk, Bool.not_not])
theorem has_take {n : Nat} {xs : List Int} {s : ByteArray} (hs : s.size = n) (hn : 1 ≤ n) : Has n (pOf (xs.take n)) (uOf (s.extract 0 (n - 1))) ↔ Has n (pOf xs) (uOf s) := by
  have h1 : ∀ i, i ≤ n → pOf (xs.take n) i = pOf xs i := fun i hi => by unfold pOf; rw [List.take_take, Nat.min_eq_left hi]
  have h2 : ∀ k, k + 1 < n → uOf (s.extract 0 (n - 1)) k = uOf s k := fun k hk => by unfold uOf; rw [bytes_take (by omega) (by omega)]
  exact ⟨fun H => H.congr h1 h2, fun H => H.congr (fun i hi => (h1 i hi).symm) (fun k hk => (h2 k hk).symm)⟩
theorem at0_left {a b : List Int} {j : Nat} (h : j < a.length) : at0 (a ++ b) j = at0 a j := by unfold at0; rw [List.getElem?_append_left h]
theorem at0_right {a b : List Int} {j : Nat} (h : a.length ≤ j) : at0 (a ++ b) j = at0 b (j - a.length) := by unfold at0; rw [List.getElem?_append_right h]
theorem at0_take {a : List Int} {j c : Nat} (h : j < c) : at0 (a.take c) j = at0 a j := by unfold at0; rw [List.getElem?_take, if_pos h]
theorem at0_drop {a : List Int} {j c : Nat} : at0 (a.drop c) j = at0 a (c + j) := by unfold at0; rw [List.getElem?_drop]
theorem crimp_at {xs : List Int} {c : Nat} (hc : c + 2 < xs.length) (j : Nat) : at0 (crimpX xs (c + 1)) j = if j < c then at0 xs j else if j = c then at0 xs c + at0 xs (c + 2) - at0 xs (c + 1) else at0 xs (j + 2) := by
  unfold crimpX
  rw [show c + 1 - 1 = c by omega, show c + 1 + 1 = c + 2 by omega, show c + 1 + 2 = c + 3 by omega]
  have hl : (xs.take c).length = c := by rw [List.length_take]; omega
  by_cases h1 : j < c
  · rw [if_pos h1, at0_left (by simp only [List.length_append]; omega), at0_left (by omega), at0_take h1]
  rw [if_neg h1]
  by_cases h2 : j = c
  · rw [if_pos h2, at0_left (by simp only [List.length_append, List.length_cons, List.length_nil]; omega), at0_right (by omega), hl, h2, Nat.sub_self]; rfl
  · rw [if_neg h2, at0_right (by simp only [List.length_append, List.length_cons, List.length_nil]; omega), at0_drop]
    congr 1
    simp only [List.length_append, List.length_cons, List.length_nil, hl]
    omega
theorem pOf_crimp {xs : List Int} {c : Nat} (hc : c + 2 < xs.length) : ∀ i, i ≤ xs.length - 2 → pOf (crimpX xs (c + 1)) i = cutP c (pOf xs) i := by
  have hlen : (crimpX xs (c + 1)).length = xs.length - 2 := crimpX_length (by omega) (by omega)
  intro i
  induction i with
  | zero => intro _; unfold cutP; rw [if_pos (by omega)]; unfold pOf; rw [List.take_zero, List.take_zero]
  | succ i ih =>
    intro hi
    have hat := crimp_at hc i
    rw [pOf_succ (by omega), ih (by omega)]
    unfold cutP
    by_cases h1 : i < c
    · rw [if_pos h1] at hat
      rw [hat, if_pos (show i ≤ c by omega), if_pos (show i + 1 ≤ c by omega), pOf_succ (show i < xs.length by omega)]
    rw [if_neg h1] at hat
    by_cases h2 : i = c
    · rw [if_pos h2] at hat
      subst h2
      rw [hat, if_pos (Nat.le_refl i), if_neg (show ¬ i + 1 ≤ i by omega), show i + 1 + 2 = i + 2 + 1 by omega, pOf_succ (show i + 2 < xs.length by omega), pOf_succ (show i + 1 < xs.length by omega), pOf_succ (show i < xs.length by omega)]
      by_cases h3 : i % 2 = 0
      · rw [if_pos h3, if_pos h3, if_neg (show ¬ (i + 1) % 2 = 0 by omega), if_pos (show (i + 2) % 2 = 0 by omega)]; omega
      · rw [if_neg h3, if_neg h3, if_pos (show (i + 1) % 2 = 0 by omega), if_neg (show ¬ (i + 2) % 2 = 0 by omega)]; omega
    · rw [if_neg h2] at hat
      rw [hat, if_neg (show ¬ i ≤ c by omega), if_neg (show ¬ i + 1 ≤ c by omega), show i + 1 + 2 = i + 2 + 1 by omega, pOf_succ (show i + 2 < xs.length by omega)]
      by_cases h3 : i % 2 = 0
      · rw [if_pos h3, if_pos (show (i + 2) % 2 = 0 by omega)]
      · rw [if_neg h3, if_neg (show ¬ (i + 2) % 2 = 0 by omega)]
theorem crimp_byte {s : ByteArray} {c k : Nat} (hc : c + 1 < s.size) (hk : k < s.size - 2) : bAt (crimpS s (c + 1)) k = bAt s (skipF c k) := by
  unfold crimpS skipF
  rw [show c + 1 - 1 = c by omega, show c + 1 + 1 = c + 2 by omega]
  have hl : (s.extract 0 c).size = c := by rw [ByteArray.size_extract]; omega
  by_cases h : k < c
  · rw [if_pos h, bytes_left (by omega), bytes_take h (by omega)]
  · rw [if_neg h]
    have e := bytes_right (s := s.extract 0 c) (u := s.extract (c + 2) s.size) (k := k - c) (by rw [ByteArray.size_extract]; omega)
    rw [hl, show c + (k - c) = k by omega, bytes_drop (by omega)] at e
    rw [e]
    congr 1
    omega
theorem crimp_fold {s : ByteArray} {c k : Nat} (hc : c + 1 < s.size) (hk : k < s.size - 2) : uOf (crimpS s (c + 1)) k = uOf s (skipF c k) := by
  unfold uOf
  rw [crimp_byte hc hk]
  unfold skipF
  by_cases h : k < c
  · rw [if_pos h]
  · rw [if_neg h, hiB_two]
theorem crimp_has {n : Nat} {xs : List Int} {s : ByteArray} {c : Nat} (hl : xs.length = n) (hs : s.size + 1 = n) (hc : c + 2 < n) :
    Has (n - 2) (pOf (crimpX xs (c + 1))) (uOf (crimpS s (c + 1))) ↔ Has (n - 2) (cutP c (pOf xs)) (fun m => uOf s (skipF c m)) := by
  subst hl
  have h1 := pOf_crimp hc
  have h2 : ∀ k, k + 1 < xs.length - 2 → uOf (crimpS s (c + 1)) k = uOf s (skipF c k) := fun k hk => crimp_fold (by omega) (by omega)
  exact ⟨fun H => H.congr h1 h2, fun H => H.congr (fun i hi => (h1 i hi).symm) (fun k hk => (h2 k hk).symm)⟩
theorem fold_eq {s : ByteArray} (h : mvS s) {c : Nat} (hc : c + 1 < s.size) : uOf s c = uOf s (c + 1) ↔ bAt s c ≠ bAt s (c + 1) := by
  unfold uOf
  rw [hiB_next]
  unfold hiB
  rcases h c (by omega) with e1 | e1 <;> rcases h (c + 1) hc with e2 | e2 <;> rw [e1, e2] <;> by_cases h3 : c % 2 = 0 <;> simp [h3]
theorem mv_drop {s : ByteArray} (h : mvS s) : mvS (s.extract 1 s.size) := fun k hk => by
  rw [ByteArray.size_extract] at hk
  rw [bytes_drop (by omega)]; exact h _ (by omega)
theorem mv_take {s : ByteArray} (h : mvS s) {m : Nat} (h1 : m ≤ s.size) : mvS (s.extract 0 m) := fun k hk => by
  rw [ByteArray.size_extract] at hk
  rw [bytes_take (by omega) h1]; exact h _ (by omega)
theorem mv_crimp {s : ByteArray} (h : mvS s) {c : Nat} (h1 : c + 1 < s.size) : mvS (crimpS s (c + 1)) := fun k hk => by
  rw [crimpS_size (by omega) h1] at hk
  rw [crimp_byte h1 hk]
  apply h
  unfold skipF
  split <;> omega
theorem pos_crimp {xs : List Int} {s : ByteArray} {c : Nat} (h : ∀ x ∈ xs, 1 ≤ x) (hc : c + 2 < xs.length) (hb : crimpB xs s (c + 1) = true) : ∀ x ∈ crimpX xs (c + 1), 1 ≤ x := by
  intro x hx
  obtain ⟨j, hj, e⟩ := List.mem_iff_getElem.1 hx
  have e2 : at0 (crimpX xs (c + 1)) j = x := by unfold at0; rw [List.getElem?_eq_getElem hj, e]; rfl
  rw [crimpX_length (by omega) (by omega)] at hj
  rw [crimp_at hc] at e2
  unfold crimpB at hb
  simp only [Bool.and_eq_true, decide_eq_true_eq] at hb
  rw [show c + 1 - 1 = c by omega, show c + 1 + 1 = c + 2 by omega] at hb
  by_cases h1 : j < c
  · rw [if_pos h1] at e2; rw [← e2]; exact at0_pos h (by omega)
  rw [if_neg h1] at e2
  by_cases h2 : j = c
  · rw [if_pos h2] at e2
    have a0 := at0_pos h (show c < xs.length by omega)
    have a2 := at0_pos h hc
    omega
  · rw [if_neg h2] at e2; rw [← e2]; exact at0_pos h (by omega)

/-- A strip can be folded by steps if and only if it has right levels. -/
theorem steps_has : ∀ n, ∀ (xs : List Int) (s : ByteArray), 1 ≤ n → xs.length = n → s.size + 1 = n → (∀ x ∈ xs, 1 ≤ x) → mvS s → (stepsB n xs s = true ↔ Has n (pOf xs) (uOf s)) := by
  intro n
  induction n using Nat.strongRecOn with
  | _ n ih =>
    intro xs s hn hl hs h hmv
    by_cases h1 : n = 1
    · subst h1
      refine ⟨fun _ => ⟨fun _ => 0, ⟨fun i j hi hj _ => by omega, fun k s hk => by omega, fun k m hk => by omega⟩, fun k hk => by omega⟩, fun _ => rfl⟩
    have Z := pOf_zig h
    rw [hl] at Z
    have first : stepsB (n - 1) (xs.drop 1) (s.extract 1 s.size) = true ↔ Has (n - 1) (fun i => pOf xs (i + 1)) (fun k => uOf s (k + 1)) :=
      (ih (n - 1) (by omega) _ _ (by omega) (by rw [List.length_drop]; omega) (by rw [ByteArray.size_extract]; omega) (fun x hx => h x (List.mem_of_mem_drop hx)) (mv_drop hmv)).trans (has_drop (by omega) (by omega) h)
    have last : stepsB (n - 1) (xs.take (n - 1)) (s.extract 0 (n - 2)) = true ↔ Has (n - 1) (pOf xs) (uOf s) := by
      have e := ih (n - 1) (by omega) (xs.take (n - 1)) (s.extract 0 (n - 2)) (by omega) (by rw [List.length_take]; omega) (by rw [ByteArray.size_extract]; omega) (fun x hx => h x (List.mem_of_mem_take hx)) (mv_take hmv (by omega))
      have e2 := has_take (n := n - 1) (xs := xs) (s := s) (by omega) (by omega)
      rw [show n - 1 - 1 = n - 2 by omega] at e2
      exact e.trans e2
    have crimp : ∀ c, c + 2 < n → crimpB xs s (c + 1) = true → (stepsB (n - 2) (crimpX xs (c + 1)) (crimpS s (c + 1)) = true ↔ Has (n - 2) (cutP c (pOf xs)) (fun m => uOf s (skipF c m))) := fun c hc hb =>
      (ih (n - 2) (by omega) _ _ (by omega) (by rw [crimpX_length (by omega) (by omega)]; omega) (by rw [crimpS_size (by omega) (by omega)]; omega) (pos_crimp h (by omega) hb) (mv_crimp hmv (by omega))).trans (crimp_has hl hs hc)
    have Z' : Zig (n - 1 + 1) (pOf xs) := by rw [show n - 1 + 1 = n by omega]; exact Z
    constructor
    · intro hst
      have hbwd : (at0 xs 0 ≤ at0 xs 1 ∧ stepsB (n - 1) (xs.drop 1) (s.extract 1 s.size) = true) ∨ (at0 xs (n - 1) ≤ at0 xs (n - 2) ∧ stepsB (n - 1) (xs.take (n - 1)) (s.extract 0 (n - 2)) = true) ∨ ∃ c, c + 2 < n ∧ crimpB xs s (c + 1) = true ∧ stepsB (n - 2) (crimpX xs (c + 1)) (crimpS s (c + 1)) = true := by
        apply Classical.byContradiction
        intro hno
        have := steps_none (n := n) (xs := xs) (s := s) (k := n - 1) (by omega) (fun q => hno (.inl q)) (fun q => hno (.inr (.inl q))) (fun j hj1 hj => by
          rw [Bool.eq_false_iff]
          intro q
          rw [Bool.and_eq_true] at q
          refine hno (.inr (.inr ⟨j - 1, by omega, ?_⟩))
          rw [show j - 1 + 1 = j by omega]; exact q) (by omega)
        rw [this] at hst
        cases hst
      rcases hbwd with ⟨q1, q2⟩ | ⟨q1, q2⟩ | ⟨c, hc, q1, q2⟩
      · have := Has.first_bwd (n := n - 1) (by omega) Z' ((pOf_len h (by omega) (by omega)).2 q1) (first.1 q2)
        rwa [show n - 1 + 1 = n by omega] at this
      · have := Has.last_bwd (n := n - 1) (by omega) Z' (by rw [show n - 1 - 1 = n - 2 by omega]; exact (pOf_len h (by omega) (by omega)).2 q1) (last.1 q2)
        rwa [show n - 1 + 1 = n by omega] at this
      · have hb := q1
        unfold crimpB at hb
        simp only [Bool.and_eq_true, decide_eq_true_eq, bne_iff_ne] at hb
        rw [show c + 1 - 1 = c by omega, show c + 1 + 1 = c + 2 by omega] at hb
        exact Has.crimp_bwd Z hc ((pOf_len h (by omega) (by omega)).2 hb.2.1) ((pOf_len h (by omega) (by omega)).2 hb.2.2) ((fold_eq hmv (by omega)).2 hb.1) ((crimp c hc q1).1 q2)
    · intro H
      rcases H.step (by omega) Z with q | q | ⟨c, hc, q1, q2⟩
      · refine steps_first (by omega) ((pOf_len h (by omega) (by omega)).1 q) (first.2 ?_)
        rw [show n = n - 1 + 1 by omega] at H
        exact H.first
      · refine steps_last (by omega) ((pOf_len h (by omega) (by omega)).1 q) (last.2 ?_)
        rw [show n = n - 1 + 1 by omega] at H
        exact H.last
      · have hb : crimpB xs s (c + 1) = true := by
          unfold crimpB
          simp only [Bool.and_eq_true, decide_eq_true_eq, bne_iff_ne]
          rw [show c + 1 - 1 = c by omega, show c + 1 + 1 = c + 2 by omega]
          exact ⟨(fold_eq hmv (by omega)).1 q2, (pOf_len h (by omega) (by omega)).1 (q1 c (by omega)), (pOf_len h (by omega) (by omega)).1 (q1 (c + 2) hc)⟩
        exact steps_crimp (by omega) (by omega) hb ((crimp c hc hb).2 (H.crimp Z hc q1 q2))

/-! Levels and lists. -/
theorem betw_iff (l a b : Int) : betw l a b = true ↔ btwI l a b := by
  unfold betw btwI; rw [decide_eq_true_iff]; omega
theorem btwI_bool {l a b l' a' b' : Int} : (btwI l a b ↔ btwI l' a' b') ↔ betw l a b = betw l' a' b' := by
  rw [Bool.eq_iff_iff, betw_iff, betw_iff]
theorem right_iff {xs ys : List Int} {s : ByteArray} (h : ∀ x ∈ xs, 1 ≤ x) (hl : ys.length = xs.length) (hp : permB ys = true) :
    rightL xs (stripFs xs s) (levelsL ys) = true ↔ Rgt xs.length (pOf xs) (lvl ys) ∧ ∀ k, k + 1 < xs.length → (lvl ys k < lvl ys (k + 1) ↔ uOf s k = true) := by
  have lv : ∀ i, i < xs.length → at0 (levelsL ys) i = lvl ys i := fun i hi => at0_levels (by omega)
  have dr : ∀ k m, k + 1 < xs.length → m + 1 < xs.length → ((pOf xs k < pOf xs (k + 1) ↔ pOf xs m < pOf xs (m + 1)) ↔ k % 2 = m % 2) := fun k m hk hm => by
    have h1 := pOf_up h (show k < xs.length by omega)
    have h2 := pOf_up h (show m < xs.length by omega)
    omega
  have ok : ∀ k, k + 1 < xs.length → (okF xs (levelsL ys) (stripFd xs s k) = true ↔ (lvl ys k < lvl ys (k + 1) ↔ uOf s k = true) ∧ ∀ t, t < xs.length → ¬ (btwI (lvl ys t) (lvl ys k) (lvl ys (k + 1)) ∧ btwI (pOf xs (k + 1)) (pOf xs t) (pOf xs (t + 1)))) := fun k hk => by
    unfold okF
    rw [Bool.and_eq_true, beq_iff_eq, decide_eq_true_eq]
    show (decide (at0 (levelsL ys) k < at0 (levelsL ys) (k + 1)) = uOf s k ∧ ∀ t, t < xs.length → (betw (at0 (levelsL ys) t) (at0 (levelsL ys) k) (at0 (levelsL ys) (k + 1)) && betw (pOf xs (k + 1)) (pOf xs t) (pOf xs (t + 1))) = false) ↔ _
    rw [lv k (by omega), lv (k + 1) hk, Bool.eq_iff_iff, decide_eq_true_iff]
    refine and_congr Iff.rfl (forall_congr' fun t => ⟨fun q ht => ?_, fun q ht => ?_⟩)
    · have := q ht
      rw [lv t ht] at this
      intro ⟨a, b⟩
      rw [← betw_iff] at a b
      rw [a, b] at this
      cases this
    · rw [lv t ht, Bool.eq_false_iff]
      intro c
      rw [Bool.and_eq_true, betw_iff, betw_iff] at c
      exact q ht c
  have cr : ∀ k m, k + 1 < xs.length → m + 1 < xs.length → (crossF (levelsL ys) (stripFd xs s k) (stripFd xs s m) = false ↔ (pOf xs (k + 1) = pOf xs (m + 1) → (pOf xs k < pOf xs (k + 1) ↔ pOf xs m < pOf xs (m + 1)) → (btwI (lvl ys m) (lvl ys k) (lvl ys (k + 1)) ↔ btwI (lvl ys (m + 1)) (lvl ys k) (lvl ys (k + 1))))) := fun k m hk hm => by
    rw [dr k m hk hm, btwI_bool]
    unfold crossF
    show (decide (pOf xs (k + 1) = pOf xs (m + 1)) && decide (k % 2 = m % 2) && crossB (at0 (levelsL ys) k) (at0 (levelsL ys) (k + 1)) (at0 (levelsL ys) m) (at0 (levelsL ys) (m + 1))) = false ↔ _
    rw [lv k (by omega), lv (k + 1) hk, lv m (by omega), lv (m + 1) hm]
    unfold crossB
    by_cases q1 : pOf xs (k + 1) = pOf xs (m + 1)
    · by_cases q2 : k % 2 = m % 2
      · rw [decide_eq_true q1, decide_eq_true q2, Bool.true_and, Bool.true_and, bne_eq_false_iff_eq]
        exact ⟨fun e _ _ => e, fun e => e q1 q2⟩
      · rw [decide_eq_false q2, Bool.and_false, Bool.false_and]
        exact ⟨fun _ _ e => absurd e q2, fun _ => rfl⟩
    · rw [decide_eq_false q1, Bool.false_and, Bool.false_and]
      exact ⟨fun _ e => absurd e q1, fun _ => rfl⟩
  have hF := stripFs_length xs s
  rw [rightL_iff]
  constructor
  · intro q
    have ok' : ∀ k, k + 1 < xs.length → _ := fun k hk => (ok k hk).1 (by rw [← stripFs_at (s := s) (show k < xs.length - 1 by omega)]; exact (q k (by omega)).1)
    refine ⟨⟨fun i j hi hj e => lvl_inj hp (by omega) (by omega) e, fun k t hk ht a b => (ok' k hk).2 t ht ⟨a, b⟩, fun k m hk hm => ?_⟩, fun k hk => (ok' k hk).1⟩
    by_cases e : k = m
    · subst e
      intro _ _
      unfold btwI; omega
    · refine (cr k m hk hm).1 ?_
      rw [← stripFs_at (s := s) (show k < xs.length - 1 by omega), ← stripFs_at (s := s) (show m < xs.length - 1 by omega)]
      rcases Nat.lt_or_gt_of_ne e with e1 | e1
      · exact (q k (by omega)).2 m (by omega) e1
      · rw [crossF_symm (stripFs_apart xs s) hp hl (by omega) (by omega) e]
        exact (q m (by omega)).2 k (by omega) e1
  · intro ⟨R, D⟩ k hk
    rw [hF] at hk
    refine ⟨?_, fun m hm hkm => ?_⟩
    · rw [stripFs_at hk]
      exact (ok k (by omega)).2 ⟨D k (by omega), fun t ht c => R.cov k t (by omega) ht c.1 c.2⟩
    · rw [hF] at hm
      rw [stripFs_at hk, stripFs_at hm]
      exact (cr k m (by omega) (by omega)).2 (R.crs k m (by omega) (by omega))
theorem Rgt.order {n : Nat} {p L L' : Nat → Int} (h : ∀ i j, i < n → j < n → (L' i < L' j ↔ L i < L j)) (R : Rgt n p L) : Rgt n p L' := by
  have hb : ∀ i j k, i < n → j < n → k < n → (btwI (L' i) (L' j) (L' k) ↔ btwI (L i) (L j) (L k)) := fun i j k hi hj hk => by
    have h1 := h i j hi hj
    have h2 := h j i hj hi
    have h3 := h i k hi hk
    have h4 := h k i hk hi
    unfold btwI; omega
  refine ⟨fun i j hi hj e => R.inj i j hi hj ?_, fun k s hk hs a b => R.cov k s hk hs ((hb s k (k + 1) hs (by omega) hk).1 a) b, fun k m hk hm hp hd => ?_⟩
  · have h1 := h i j hi hj
    have h2 := h j i hj hi
    omega
  · rw [hb m k (k + 1) (by omega) (by omega) hk, hb (m + 1) k (k + 1) hm (by omega) hk]
    exact R.crs k m hk hm hp hd
/-- Levels in order are those of a list. -/
theorem list_of_levels (n : Nat) (L : Nat → Int) (hi : ∀ i j, i < n → j < n → L i = L j → i = j) : ∃ ys : List Int, ys.length = n ∧ permB ys = true ∧ ∀ i j, i < n → j < n → (lvl ys i < lvl ys j ↔ L i < L j) := by
  obtain ⟨Q, hQ⟩ : ∃ Q, Q = (List.range n).mergeSort (fun i j => decide (L i ≤ L j)) := ⟨_, rfl⟩
  have hP : Q.Perm (List.range n) := by rw [hQ]; exact List.mergeSort_perm _ _
  have hS : Q.Pairwise fun i j => L i ≤ L j := by
    have := List.pairwise_mergeSort (le := fun i j => decide (L i ≤ L j)) (fun a b c h1 h2 => by simp only [decide_eq_true_eq] at *; omega) (fun a b => by simp only [Bool.or_eq_true, decide_eq_true_eq]; omega) (List.range n)
    rw [← hQ] at this
    exact this.imp fun h => by simpa using h
  have hl : (Q.map Int.ofNat).length = n := by rw [List.length_map, hP.length_eq, List.length_range]
  have hp : permB (Q.map Int.ofNat) = true := permB_of_perm (n := n) (hP.symm.map Int.ofNat)
  have at_ : ∀ i, i < n → ∃ a, a < Q.length ∧ Q[a]? = some i ∧ lvl (Q.map Int.ofNat) i = (a : Int) := fun i hi => by
    have e := get_of_lvl hp (by rw [hl]; exact hi)
    rw [List.getElem?_map] at e
    cases hq : Q[(Q.map Int.ofNat).idxOf (i : Int)]? with
    | none => rw [hq] at e; cases e
    | some j =>
      rw [hq] at e
      have ej : j = i := Int.ofNat.inj (Option.some.inj e)
      exact ⟨_, (List.getElem?_eq_some_iff.1 hq).1, by rw [hq, ej], rfl⟩
  have one : ∀ i j, i < n → j < n → lvl (Q.map Int.ofNat) i < lvl (Q.map Int.ofNat) j → L i < L j := fun i j hi' hj' h => by
    obtain ⟨a, ha, qa, ea⟩ := at_ i hi'
    obtain ⟨b, hb, qb, eb⟩ := at_ j hj'
    rw [ea, eb] at h
    have := List.pairwise_iff_getElem.1 hS a b ha hb (by omega)
    rw [(List.getElem?_eq_some_iff.1 qa).2, (List.getElem?_eq_some_iff.1 qb).2] at this
    have ne : L i ≠ L j := fun e => by
      have := hi i j hi' hj' e
      subst this
      rw [ea] at eb
      omega
    omega
  refine ⟨_, hl, hp, fun i j hi' hj' => ⟨one i j hi' hj', fun h => ?_⟩⟩
  by_cases e : i = j
  · subst e; omega
  · have h1 := one j i hj' hi'
    have h2 : lvl (Q.map Int.ofNat) i ≠ lvl (Q.map Int.ofNat) j := fun q => e (lvl_inj hp (by omega) (by omega) q)
    omega
/-- A strip can be folded by steps if and only if there are right layers of it. -/
theorem folds_iff {xs : List Int} {s : ByteArray} (h : stripB xs s = true) : foldsB xs s = true ↔ ∃ ys, rightB xs (stripFs xs s) ys = true := by
  obtain ⟨h1, h2, h3⟩ := stripB_len h
  have hpos : ∀ x ∈ xs, 1 ≤ x := (lengths_ok h1).1
  have hmv : mvS s := fun k hk => by
    have := List.all_eq_true.1 h3 (bAt s k) (by rw [bAt_get s k hk]; exact List.getElem_mem (by simpa using hk))
    unfold isMV at this
    rw [Bool.or_eq_true, beq_iff_eq, beq_iff_eq] at this
    exact this.symm
  have hn := (lengthsB_len h1).1
  unfold foldsB
  rw [h, Bool.true_and, steps_has xs.length xs s hn rfl h2 hpos hmv]
  constructor
  · intro ⟨L, R, D⟩
    obtain ⟨ys, hl, hp, ho⟩ := list_of_levels xs.length L R.inj
    refine ⟨ys, rightB_iff.2 ⟨hl, hp, (right_iff hpos hl hp).2 ⟨R.order ho, fun k hk => (ho k (k + 1) (by omega) hk).trans (D k hk)⟩⟩⟩
  · intro ⟨ys, hy⟩
    obtain ⟨hl, hp, hr⟩ := rightB_iff.1 hy
    exact ⟨lvl ys, (right_iff hpos hl hp).1 hr⟩

end Go.Proofs.Ytahbflbhkalehaa
