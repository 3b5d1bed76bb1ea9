/-
  Plain facts on possible stacks: without the last stamp, with one more, turned, turned over, numbered from the other end; all of them, by insertion. No program in sight.
-/
import Derived.Test.YtahbflbhkalehaaPlainC
namespace Go.Proofs.Ytahbflbhkalehaa
open Go.RowKit

theorem idxOf_ne (l : List Int) {a x : Int} (h : a ≠ x) : (a :: l).idxOf x = l.idxOf x + 1 := by
  rw [List.idxOf_cons, beq_eq_false_iff_ne.2 h]
  rfl
theorem idxOf_sublist {ys xs : List Int} (h : ys.Sublist xs) : xs.Nodup → ∀ {i j : Int}, i ∈ ys → j ∈ ys → (ys.idxOf i < ys.idxOf j ↔ xs.idxOf i < xs.idxOf j) := by
  induction h with
  | slnil => intro _ i j hi; cases hi
  | @cons l₁ l₂ a hs ih =>
    intro hn i j hi hj
    have hn' := List.nodup_cons.1 hn
    have h1 : a ≠ i := by rintro rfl; exact hn'.1 (hs.subset hi)
    have h2 : a ≠ j := by rintro rfl; exact hn'.1 (hs.subset hj)
    rw [idxOf_ne _ h1, idxOf_ne _ h2, ih hn'.2 hi hj]
    omega
  | @cons_cons l₁ l₂ a hs ih =>
    intro hn i j hi hj
    have hn' := List.nodup_cons.1 hn
    by_cases h1 : a = i
    · subst h1
      rw [List.idxOf_cons_self, List.idxOf_cons_self]
      by_cases h2 : a = j
      · subst h2; rw [List.idxOf_cons_self, List.idxOf_cons_self]
      · rw [idxOf_ne _ h2, idxOf_ne _ h2]; omega
    · by_cases h2 : a = j
      · subst h2; rw [List.idxOf_cons_self, List.idxOf_cons_self]; omega
      · rw [idxOf_ne _ h1, idxOf_ne _ h2, idxOf_ne _ h1, idxOf_ne _ h2]
        have := ih hn'.2 (by simpa [Ne.symm h1] using hi) (by simpa [Ne.symm h2] using hj)
        omega
theorem crossB_ord {a b c d a' b' c' d' : Int} (h1 : a < c ↔ a' < c') (h2 : c < a ↔ c' < a') (h3 : b < c ↔ b' < c') (h4 : c < b ↔ c' < b') (h5 : a < d ↔ a' < d') (h6 : d < a ↔ d' < a') (h7 : b < d ↔ b' < d') (h8 : d < b ↔ d' < b') : crossB a b c d = crossB a' b' c' d' := by
  have e1 : betw c a b = betw c' a' b' := by unfold betw; rw [decide_eq_decide]; omega
  have e2 : betw d a b = betw d' a' b' := by unfold betw; rw [decide_eq_decide]; omega
  unfold crossB
  rw [e1, e2]
theorem unL_iff (xs : List Int) : unB (levelsL xs) = true ↔ ∀ k m : Nat, k < m → m + 1 < xs.length → k % 2 = m % 2 → crossB (lvl xs k) (lvl xs (k + 1)) (lvl xs m) (lvl xs (m + 1)) = false := by
  rw [unB_iff, levelsL_length]
  constructor <;> intro h k m h1 h2 h3 <;> have := h k m h1 h2 h3
  · rwa [levelsL_get xs m (by omega), levelsL_get xs (m + 1) (by omega), levelsL_get xs k (by omega), levelsL_get xs (k + 1) (by omega)] at this
  · rwa [levelsL_get xs m (by omega), levelsL_get xs (m + 1) (by omega), levelsL_get xs k (by omega), levelsL_get xs (k + 1) (by omega)]
theorem permB_mem {xs : List Int} (h : permB xs = true) {i : Nat} (hi : i < xs.length) : (i : Int) ∈ xs := (permN_iff _ _).1 h i hi
theorem lvl_lt_sub {ys xs : List Int} (hs : ys.Sublist xs) (hx : permB xs = true) (hy : permB ys = true) {i j : Nat} (hi : i < ys.length) (hj : j < ys.length) : (lvl ys i < lvl ys j ↔ lvl xs i < lvl xs j) := by
  unfold lvl
  have := idxOf_sublist hs (permB_nodup hx) (permB_mem hy hi) (permB_mem hy hj)
  omega
/-- Stamps that are taken away leave a possible stack. -/
theorem unL_sub {ys xs : List Int} (hs : ys.Sublist xs) (hx : permB xs = true) (hy : permB ys = true) (h : unB (levelsL xs) = true) : unB (levelsL ys) = true := by
  rw [unL_iff] at h ⊢
  intro k m h1 h2 h3
  have hl := hs.length_le
  rw [← h k m h1 (by omega) h3]
  have q : ∀ {i j : Nat}, i < ys.length → j < ys.length → (lvl ys i < lvl ys j ↔ lvl xs i < lvl xs j) := fun hi hj => lvl_lt_sub hs hx hy hi hj
  exact crossB_ord (q (by omega) (by omega)) (q (by omega) (by omega)) (q (by omega) (by omega)) (q (by omega) (by omega)) (q (by omega) (by omega)) (q (by omega) (by omega)) (q (by omega) (by omega)) (q (by omega) (by omega))

/-- The stack without its last stamp. -/
def lessL (xs : List Int) : List Int := xs.filter fun x => decide (x < (xs.length : Int) - 1)
theorem upI_succ (n : Nat) : upI (n + 1) = upI n ++ [(n : Int)] := by unfold upI; rw [List.range_succ, List.map_append]; rfl
theorem upI_filter (n : Nat) : (upI (n + 1)).filter (fun x => decide (x < (n : Int))) = upI n := by
  rw [upI_succ, List.filter_append]
  have h1 : (upI n).filter (fun x => decide (x < (n : Int))) = upI n := List.filter_eq_self.2 fun x hx => decide_eq_true (mem_upI.1 hx).2
  rw [h1]
  simp
theorem lessL_perm {xs : List Int} {n : Nat} (h : permB xs = true) (hl : xs.length = n + 1) : (upI n).Perm (lessL xs) := by
  have h1 := (permB_perm h).filter fun x => decide (x < (n : Int))
  rw [hl, upI_filter] at h1
  unfold lessL
  rw [hl]
  have e : (((n + 1 : Nat) : Int) - 1) = (n : Int) := by omega
  rw [e]
  exact h1
theorem lessL_length {xs : List Int} {n : Nat} (h : permB xs = true) (hl : xs.length = n + 1) : (lessL xs).length = n := by rw [← (lessL_perm h hl).length_eq, upI_length]
theorem lessL_permB {xs : List Int} {n : Nat} (h : permB xs = true) (hl : xs.length = n + 1) : permB (lessL xs) = true := permB_of_perm (lessL_perm h hl)
theorem lessL_possB {xs : List Int} {n : Nat} (h : possB xs = true) (hl : xs.length = n + 1) (hn : 1 ≤ n) : possB (lessL xs) = true := by
  obtain ⟨hr, hp, hu⟩ := (possB_iff xs).1 h
  have h1 := lessL_length hp hl
  exact (possB_iff _).2 ⟨by omega, lessL_permB hp hl, unL_sub List.filter_sublist hp (lessL_permB hp hl) hu⟩

theorem idxOf_of_get {xs : List Int} (hn : xs.Nodup) {k : Nat} {x : Int} (h : xs[k]? = some x) : xs.idxOf x = k := by
  obtain ⟨hk, e⟩ := List.getElem?_eq_some_iff.1 h
  have hm : x ∈ xs := e ▸ List.getElem_mem hk
  have hi := List.idxOf_lt_length_of_mem hm
  have h1 : xs[xs.idxOf x] = xs[k] := by rw [List.getElem_idxOf, e]
  exact (List.getElem_inj hn).1 h1
theorem get_of_lvl {xs : List Int} (h : permB xs = true) {i : Nat} (hi : i < xs.length) : xs[xs.idxOf (i : Int)]? = some (i : Int) := by
  have h1 := List.idxOf_lt_length_of_mem (permB_mem h hi)
  rw [List.getElem?_eq_getElem h1, List.getElem_idxOf]

theorem upI_get {n k : Nat} (h : k < n) : (upI n)[k]? = some (k : Int) := by
  unfold upI
  rw [List.getElem?_map, List.getElem?_range h]
  rfl
theorem upI_permB (n : Nat) : permB (upI n) = true := permB_of_perm (n := n) (List.Perm.refl _)
theorem upI_lvl {n k : Nat} (h : k < n) : lvl (upI n) k = (k : Int) := by
  unfold lvl
  rw [idxOf_of_get (nodup_upI n) (upI_get h)]
theorem upI_possB {n : Nat} (h1 : 1 ≤ n) (h7 : n ≤ 7) : possB (upI n) = true := by
  refine (possB_iff _).2 ⟨by rw [upI_length]; omega, upI_permB n, (unL_iff _).2 fun k m q1 q2 q3 => ?_⟩
  rw [upI_length] at q2
  rw [upI_lvl (by omega), upI_lvl (by omega), upI_lvl (by omega), upI_lvl (by omega)]
  unfold crossB betw
  rw [decide_eq_false (by omega), decide_eq_false (by omega)]
  rfl

/-- A stamp put into a stack at a place. -/
def insL (s : List Int) (at_ : Nat) : List Int := s.take at_ ++ (s.length : Int) :: s.drop at_
theorem insL_length (s : List Int) (k : Nat) : (insL s k).length = s.length + 1 := by
  unfold insL
  simp only [List.length_append, List.length_cons, List.length_take, List.length_drop]
  omega
theorem insL_sub (s : List Int) (k : Nat) : s.Sublist (insL s k) := by
  unfold insL
  have h1 : (s.take k ++ s.drop k).Sublist (s.take k ++ (s.length : Int) :: s.drop k) := List.Sublist.append_left (List.sublist_cons_self _ _) _
  rwa [List.take_append_drop] at h1
theorem insL_perm (s : List Int) (k : Nat) : ((s.length : Int) :: s).Perm (insL s k) := by
  unfold insL
  have h1 : ((s.length : Int) :: (s.take k ++ s.drop k)).Perm (s.take k ++ (s.length : Int) :: s.drop k) := List.perm_middle.symm
  rwa [List.take_append_drop] at h1
theorem insL_permB {s : List Int} (h : permB s = true) (k : Nat) : permB (insL s k) = true := by
  refine permB_of_perm (n := s.length + 1) ?_
  rw [upI_succ]
  refine (List.perm_append_comm.trans ?_).trans (insL_perm s k)
  exact List.Perm.cons _ (permB_perm h)
theorem insL_get {s : List Int} {k : Nat} (hk : k ≤ s.length) : (insL s k)[k]? = some (s.length : Int) := by
  unfold insL
  rw [List.getElem?_append_right (by rw [List.length_take]; omega), List.length_take, Nat.min_eq_left hk, Nat.sub_self]
  rfl
theorem insL_less {s : List Int} (h : permB s = true) (k : Nat) : lessL (insL s k) = s := by
  unfold lessL
  rw [insL_length]
  have e : (((s.length + 1 : Nat) : Int) - 1) = (s.length : Int) := by omega
  rw [e]
  have hr := permB_range h
  unfold insL
  rw [List.filter_append, List.filter_cons, if_neg (by simp)]
  rw [List.filter_eq_self.2 fun x hx => decide_eq_true (hr x (List.mem_of_mem_take hx)).2, List.filter_eq_self.2 fun x hx => decide_eq_true (hr x (List.mem_of_mem_drop hx)).2, List.take_append_drop]
theorem insL_of {xs : List Int} {n : Nat} (h : permB xs = true) (hl : xs.length = n + 1) : ∃ k, k ≤ n ∧ xs = insL (lessL xs) k := by
  have hm := permB_mem h (i := n) (by omega)
  have hk := List.idxOf_lt_length_of_mem hm
  refine ⟨xs.idxOf (n : Int), by omega, ?_⟩
  have hg : xs[xs.idxOf (n : Int)] = (n : Int) := List.getElem_idxOf _
  generalize xs.idxOf (n : Int) = k at hk hg ⊢
  have hd : xs = xs.take k ++ (n : Int) :: xs.drop (k + 1) := by rw [← hg, ← List.drop_eq_getElem_cons hk, List.take_append_drop]
  have hn := permB_nodup h
  have hlt : ∀ x ∈ xs, x ≠ (n : Int) → decide (x < (n : Int)) = true := fun x hx hne => decide_eq_true (by have := permB_range h x hx; omega)
  have hn2 : (xs.take k ++ (n : Int) :: xs.drop (k + 1)).Nodup := hd ▸ hn
  have hA := List.nodup_append.1 hn2
  have hB := List.nodup_cons.1 hA.2.1
  have hless : lessL xs = xs.take k ++ xs.drop (k + 1) := by
    unfold lessL
    rw [hl]
    have e : (((n + 1 : Nat) : Int) - 1) = (n : Int) := by omega
    rw [e]
    have h2 : xs.filter (fun x => decide (x < (n : Int))) = (xs.take k ++ (n : Int) :: xs.drop (k + 1)).filter fun x => decide (x < (n : Int)) := by rw [← hd]
    rw [h2, List.filter_append, List.filter_cons, if_neg (by simp)]
    rw [List.filter_eq_self.2 fun x hx => hlt x (List.mem_of_mem_take hx) (fun q => hA.2.2 x hx (n : Int) (by simp) q), List.filter_eq_self.2 fun x hx => hlt x (List.mem_of_mem_drop hx) (fun q => hB.1 (q ▸ hx))]
  have hll := lessL_length h hl
  unfold insL
  rw [hll, hless]
  have ht : (xs.take k ++ xs.drop (k + 1)).take k = xs.take k := by
    rw [List.take_append_of_le_length (by rw [List.length_take]; omega), List.take_take, Nat.min_self]
  have hdr : (xs.take k ++ xs.drop (k + 1)).drop k = xs.drop (k + 1) := by
    have hk2 : (xs.take k).length = k := by rw [List.length_take]; omega
    rw [List.drop_append_of_le_length (by omega), List.drop_of_length_le (by omega), List.nil_append]
  rw [ht, hdr]
  exact hd

/-- The possible stacks of n stamps, in the order in which the program makes them. -/
def stk : Nat → List (List Int)
  | 0 => [[0]]
  | 1 => [[0]]
  | n + 2 => (stk (n + 1)).flatMap fun s => ((List.range (n + 2)).map (insL s)).filter possB
theorem possB_one : possB [0] = true := by decide
theorem stk_mem {n : Nat} (h1 : 1 ≤ n) : ∀ {xs : List Int}, n ≤ 7 → (xs ∈ stk n ↔ xs.length = n ∧ possB xs = true) := by
  induction n with
  | zero => omega
  | succ n ih =>
    intro xs h7
    cases n with
    | zero =>
      simp only [stk, List.mem_singleton]
      constructor
      · rintro rfl; exact ⟨rfl, possB_one⟩
      · rintro ⟨hl, hp⟩
        match xs, hl with
        | [x], _ =>
          have := permB_range ((possB_iff _).1 hp).2.1 x (by simp)
          simp at this
          congr 1
          omega
    | succ n =>
      simp only [stk, List.mem_flatMap, List.mem_filter, List.mem_map, List.mem_range]
      constructor
      · rintro ⟨s, hs, ⟨k, hk, rfl⟩, hp⟩
        exact ⟨by rw [insL_length, ((ih (by omega) (by omega)).1 hs).1], hp⟩
      · rintro ⟨hl, hp⟩
        have hpb := ((possB_iff _).1 hp).2.1
        obtain ⟨k, hk, e⟩ := insL_of hpb hl
        exact ⟨lessL xs, (ih (by omega) (by omega)).2 ⟨lessL_length hpb hl, lessL_possB hp hl (by omega)⟩, ⟨k, by omega, e.symm⟩, hp⟩
theorem stk_length {n : Nat} (h1 : 1 ≤ n) (h7 : n ≤ 7) {xs : List Int} (h : xs ∈ stk n) : xs.length = n := ((stk_mem h1 h7).1 h).1
theorem stk_possB {n : Nat} (h1 : 1 ≤ n) (h7 : n ≤ 7) {xs : List Int} (h : xs ∈ stk n) : possB xs = true := ((stk_mem h1 h7).1 h).2
theorem insL_inj {s : List Int} (h : permB s = true) {i j : Nat} (hi : i ≤ s.length) (hj : j ≤ s.length) (e : insL s i = insL s j) : i = j := by
  have hn := permB_nodup (insL_permB h i)
  have h1 := idxOf_of_get hn (insL_get hi)
  have h2 := idxOf_of_get hn (by rw [e]; exact insL_get hj)
  omega
theorem stk_nodup {n : Nat} (h1 : 1 ≤ n) (h7 : n ≤ 7) : (stk n).Nodup := by
  induction n with
  | zero => omega
  | succ n ih =>
    cases n with
    | zero => simp [stk]
    | succ n =>
      have ih := ih (by omega) (by omega)
      simp only [stk]
      unfold List.Nodup
      rw [List.pairwise_flatMap]
      constructor
      · intro s hs
        have hl := stk_length (by omega) (by omega) hs
        have hpb := ((possB_iff _).1 (stk_possB (by omega) (by omega) hs)).2.1
        refine List.Nodup.sublist List.filter_sublist (nodup_map_on List.nodup_range fun i hi j hj e => ?_)
        exact insL_inj hpb (by have := List.mem_range.1 hi; omega) (by have := List.mem_range.1 hj; omega) e
      · refine List.Pairwise.imp_of_mem ?_ ih
        intro s t hs ht hne x hx y hy e
        subst e
        rw [List.mem_filter, List.mem_map] at hx hy
        obtain ⟨⟨i, _, e1⟩, _⟩ := hx
        obtain ⟨⟨j, _, e2⟩, _⟩ := hy
        have q1 := insL_less ((possB_iff _).1 (stk_possB (by omega) (by omega) hs)).2.1 i
        have q2 := insL_less ((possB_iff _).1 (stk_possB (by omega) (by omega) ht)).2.1 j
        rw [e1] at q1
        rw [e2] at q2
        exact hne (q1.symm.trans q2)
/-- All possible stacks, in order. -/
def stacks (n : Nat) : List (List Int) := (perms n).filter fun xs => unB (levelsL xs)
theorem mem_stacks {n : Nat} (h1 : 1 ≤ n) (h7 : n ≤ 7) {xs : List Int} : xs ∈ stacks n ↔ xs.length = n ∧ possB xs = true := by
  unfold stacks
  rw [List.mem_filter, mem_perms, possB_iff]
  constructor
  · rintro ⟨⟨hl, hp⟩, hu⟩; exact ⟨hl, by omega, hp, hu⟩
  · rintro ⟨hl, _, hp, hu⟩; exact ⟨⟨hl, hp⟩, hu⟩
theorem stacks_nodup (n : Nat) : (stacks n).Nodup := List.Nodup.sublist List.filter_sublist (perms_nodup n)
theorem stacks_sorted (n : Nat) : (stacks n).Pairwise fun x y => lexB x y = true := List.Pairwise.sublist List.filter_sublist (perms_sorted n)
theorem stk_perm {n : Nat} (h1 : 1 ≤ n) (h7 : n ≤ 7) : (stk n).Perm (stacks n) :=
  perm_of_mem (stk_nodup h1 h7) (stacks_nodup n) fun xs => by rw [stk_mem h1 h7, mem_stacks h1 h7]

end Go.Proofs.Ytahbflbhkalehaa
