/-
  Plain facts on right layers: a strip's first parts, other lengths, the other end, a ring that begins elsewhere, a strip that is folded to and fro. No program in sight.
-/
import Derived.Test.YteigbpmfjiofiaaPlainB
namespace Go.Proofs.Yteigbpmfjiofiaa
open Go.RowKit

/-! The first parts of a strip. -/
theorem upI_below {n : Nat} : ∀ {k : Nat}, k ≤ n → (upI k).Perm ((upI n).filter fun x => decide (x < (k : Int))) := fun {k} hk =>
  perm_of_mem (nodup_upI k) (List.Nodup.sublist List.filter_sublist (nodup_upI n)) fun x => by
    rw [mem_upI, List.mem_filter, mem_upI, decide_eq_true_eq]
    omega
def lowL (k : Nat) (ys : List Int) : List Int := ys.filter fun x => decide (x < (k : Int))
theorem lowL_perm {ys : List Int} {n k : Nat} (hp : permB ys = true) (hl : ys.length = n) (hk : k ≤ n) : (upI k).Perm (lowL k ys) := by
  have h := permB_perm hp
  rw [hl] at h
  exact (upI_below hk).trans (h.filter _)
theorem lowL_length {ys : List Int} {n k : Nat} (hp : permB ys = true) (hl : ys.length = n) (hk : k ≤ n) : (lowL k ys).length = k := by rw [← (lowL_perm hp hl hk).length_eq, upI_length]
theorem bAt_take {s : ByteArray} {i k : Nat} (hi : i < k) (hk : k ≤ s.size) : bAt (s.extract 0 k) i = bAt s i := by
  rw [bAt_get s i (by omega), bAt_get _ i (by rw [ByteArray.size_extract]; omega), ByteArray.getElem_extract]
  congr 1
  omega
theorem alt_first {xs : List Int} {k j : Nat} (h : j ≤ k) : alt ((xs.take k).take j) = alt (xs.take j) := by rw [List.take_take, Nat.min_eq_left h]
theorem first_parts {xs : List Int} {s : ByteArray} {ys : List Int} {k : Nat} (h1 : 1 ≤ k) (hk : k ≤ xs.length) (hs : s.size + 1 = xs.length) (h : rightB xs (stripFs xs s) ys = true) : rightB (xs.take k) (stripFs (xs.take k) (s.extract 0 (k - 1))) (lowL k ys) = true := by
  obtain ⟨hl, hp, _⟩ := rightB_iff.1 h
  have hlk : (xs.take k).length = k := by rw [List.length_take]; omega
  have hpk := permB_of_perm (lowL_perm hp hl hk)
  have hll := lowL_length hp hl hk
  refine rightB_carry (rev := false) (swp := false) (s := id) (t := id) h (stripFs_apart xs s) (parP_strip xs s) (hll.trans hlk.symm) hpk ?_
  have hF : ∀ j, j < (stripFs (xs.take k) (s.extract 0 (k - 1))).length → j + 1 < k := fun j hj => by rw [stripFs_length, hlk] at hj; omega
  have e : ∀ j, j + 1 < k → fdAt (stripFs (xs.take k) (s.extract 0 (k - 1))) j = fdAt (stripFs xs s) j := fun j hj => by
    rw [stripFs_at (by omega), stripFs_at (by omega)]
    unfold stripFd
    rw [alt_first (by omega), bAt_take (by omega) (by omega)]
  constructor
  · exact fun i hi => by rw [hlk] at hi; exact Nat.lt_of_lt_of_le hi hk
  · exact fun j hj => by rw [stripFs_length]; have := hF j hj; show j < _; omega
  · exact fun j m _ _ h => h
  · intro i j hi hj
    rw [hlk] at hi hj
    unfold sameO; rw [if_neg (by decide)]
    rw [lev_at hll hi, lev_at hll hj, id, id, lev_at hl (by omega), lev_at hl (by omega)]
    exact lvl_lt_sub (List.filter_sublist) hp hpk (by rw [← hll] at hi; exact hi) (by rw [← hll] at hj; exact hj)
  · intro j hj
    have hj' := hF j hj
    have e2 : fdAt (stripFs xs s) j = stripFd xs s j := stripFs_at (by omega)
    rw [e j hj', show fdAt (stripFs xs s) (id j) = stripFd xs s j from e2, e2]
    exact ⟨⟨show j < _ by omega, show j + 1 < _ by omega⟩, rfl, rfl⟩
  · intro j hj
    rw [e j (hF j hj)]
    simp
  · intro j i hj hi hb
    rw [hlk] at hi
    rw [e j (hF j hj), alt_first (by omega), alt_first (by omega)] at hb
    exact hb
  · intro j m hj hm hb
    rw [e j (hF j hj), e m (hF m hm)] at hb
    exact hb
  · intro j m hj hm hb
    rw [e j (hF j hj), e m (hF m hm)] at hb
    exact hb

/-! Other lengths, with the same parts and folds. -/
theorem carry_places {xs xs' : List Int} {s : ByteArray} {ys : List Int} (hl : xs'.length = xs.length) (h : rightB xs (stripFs xs s) ys = true)
    (hcov : ∀ k j, k + 1 < xs.length → j < xs.length → betw (alt (xs'.take (k + 1))) (alt (xs'.take j)) (alt (xs'.take (j + 1))) = true → betw (alt (xs.take (k + 1))) (alt (xs.take j)) (alt (xs.take (j + 1))) = true)
    (hpl : ∀ k m, k + 1 < xs.length → m + 1 < xs.length → alt (xs'.take (k + 1)) = alt (xs'.take (m + 1)) → alt (xs.take (k + 1)) = alt (xs.take (m + 1))) : rightB xs' (stripFs xs' s) ys = true := by
  obtain ⟨hly, hp, _⟩ := rightB_iff.1 h
  refine rightB_carry (rev := false) (swp := false) (s := id) (t := id) h (stripFs_apart xs s) (parP_strip xs s) (hly.trans hl.symm) hp ?_
  have hF : ∀ j, j < (stripFs xs' s).length → j + 1 < xs.length := fun j hj => by rw [stripFs_length] at hj; omega
  have e : ∀ j, j + 1 < xs.length → fdAt (stripFs xs' s) j = { stripFd xs s j with pl := alt (xs'.take (j + 1)) } := fun j hj => by
    rw [stripFs_at (by omega)]
    rfl
  have e' : ∀ j, j + 1 < xs.length → fdAt (stripFs xs s) j = stripFd xs s j := fun j hj => stripFs_at (by omega)
  constructor
  · exact fun i hi => by rw [hl] at hi; exact hi
  · exact fun j hj => by rw [stripFs_length]; have := hF j hj; show j < _; omega
  · exact fun j m _ _ h => h
  · intro i j hi hj; unfold sameO; rw [if_neg (by decide)]; rfl
  · intro j hj
    have hj' := hF j hj
    rw [e j hj', show fdAt (stripFs xs s) (id j) = stripFd xs s j from e' j hj']
    exact ⟨⟨show j < _ by omega, show j + 1 < _ by omega⟩, rfl, rfl⟩
  · intro j hj
    rw [e j (hF j hj), show fdAt (stripFs xs s) (id j) = stripFd xs s j from e' j (hF j hj)]
    simp
  · intro j i hj hi hb
    rw [hl] at hi
    rw [e j (hF j hj)] at hb
    rw [show fdAt (stripFs xs s) (id j) = stripFd xs s j from e' j (hF j hj)]
    exact hcov j i (hF j hj) hi hb
  · intro j m hj hm hb
    rw [e j (hF j hj), e m (hF m hm)] at hb
    rw [show fdAt (stripFs xs s) (id j) = stripFd xs s j from e' j (hF j hj), show fdAt (stripFs xs s) (id m) = stripFd xs s m from e' m (hF m hm)]
    exact hpl j m (hF j hj) (hF m hm) hb
  · intro j m hj hm hb
    rw [e j (hF j hj), e m (hF m hm)] at hb
    rw [show fdAt (stripFs xs s) (id j) = stripFd xs s j from e' j (hF j hj), show fdAt (stripFs xs s) (id m) = stripFd xs s m from e' m (hF m hm)]
    exact hb
def twoL (xs : List Int) : List Int := xs.map fun x => 2 * x
theorem alt_two (xs : List Int) : alt (twoL xs) = 2 * alt xs := by
  induction xs with
  | nil => rfl
  | cons x r ih => unfold twoL at *; simp only [List.map_cons, alt, ih]; omega
theorem alt_two_take (xs : List Int) (j : Nat) : alt ((twoL xs).take j) = 2 * alt (xs.take j) := by
  rw [← alt_two]; unfold twoL; rw [List.map_take]
theorem twice_right {xs : List Int} {s : ByteArray} {ys : List Int} (h : rightB xs (stripFs xs s) ys = true) : rightB (twoL xs) (stripFs (twoL xs) s) ys = true := by
  refine carry_places (by simp [twoL]) h (fun k j _ _ hb => ?_) (fun k m _ _ hb => ?_)
  · rw [alt_two_take, alt_two_take, alt_two_take] at hb
    unfold betw at *
    rw [decide_eq_true_eq] at *
    omega
  · rw [alt_two_take, alt_two_take] at hb
    omega
def shortL (xs : List Int) (v : Int) : List Int := xs.take (xs.length - 1) ++ [v]
theorem short_right {xs : List Int} {s : ByteArray} {ys : List Int} {v : Int} (hn : 1 ≤ xs.length) (hv : 1 ≤ v) (hv2 : v ≤ at0 xs (xs.length - 1)) (h : rightB xs (stripFs xs s) ys = true) : rightB (shortL xs v) (stripFs (shortL xs v) s) ys = true := by
  have ht : ∀ j, j < xs.length → (shortL xs v).take j = xs.take j := fun j hj => by
    unfold shortL
    rw [List.take_append_of_le_length (by rw [List.length_take]; omega), List.take_take, Nat.min_eq_left (by omega)]
  refine carry_places (by simp [shortL]; omega) h (fun k j hk hj hb => ?_) (fun k m hk hm hb => ?_)
  · rw [ht (k + 1) hk, ht j hj] at hb
    by_cases hj2 : j + 1 < xs.length
    · rw [ht (j + 1) hj2] at hb; exact hb
    · obtain rfl : j = xs.length - 1 := by omega
      rw [alt_take xs (xs.length - 1) hj]
      have e : alt ((shortL xs v).take (xs.length - 1 + 1)) = alt (xs.take (xs.length - 1)) + (if (xs.length - 1) % 2 = 0 then v else -v) := by
        unfold shortL
        rw [List.take_of_length_le (by simp), alt_snoc, List.length_take, Nat.min_eq_left (by omega)]
      rw [e] at hb
      unfold at0 at hv2
      unfold betw at *
      rw [decide_eq_true_eq] at *
      by_cases hp : (xs.length - 1) % 2 = 0
      · rw [if_pos hp] at hb ⊢; omega
      · rw [if_neg hp] at hb ⊢; omega
  · rw [ht (k + 1) hk, ht (m + 1) hm] at hb
    exact hb

/-! The other end. -/
theorem rev_get {xs : List Int} {j : Nat} (hj : j < xs.length) : xs.reverse[j]?.getD 0 = xs[xs.length - 1 - j]?.getD 0 := by
  rw [List.getElem?_reverse hj]
theorem alt_rev {xs : List Int} : ∀ j, j ≤ xs.length → alt (xs.reverse.take j) = (if xs.length % 2 = 1 then alt xs - alt (xs.take (xs.length - j)) else alt (xs.take (xs.length - j)) - alt xs) := by
  intro j
  induction j with
  | zero => intro _; rw [List.take_zero, Nat.sub_zero, List.take_length]; split <;> (show (0 : Int) = _; omega)
  | succ j ih =>
    intro hj
    have ih' := ih (by omega)
    have e := alt_take xs (xs.length - (j + 1)) (by omega)
    rw [show xs.length - (j + 1) + 1 = xs.length - j by omega] at e
    rw [alt_take _ j (by rw [List.length_reverse]; omega), ih', e, rev_get (by omega), show xs.length - 1 - j = xs.length - (j + 1) by omega]
    by_cases hn : xs.length % 2 = 1
    · rw [if_pos hn, if_pos hn]
      by_cases h2 : j % 2 = 0
      · rw [if_pos h2, if_pos (by omega)]; omega
      · rw [if_neg h2, if_neg (by omega)]; omega
    · rw [if_neg hn, if_neg hn]
      by_cases h2 : j % 2 = 0
      · rw [if_pos h2, if_neg (by omega)]; omega
      · rw [if_neg h2, if_pos (by omega)]; omega
theorem bAt_rev {s : ByteArray} {k : Nat} (hk : k < s.size) : bAt (revS s) k = bAt s (s.size - 1 - k) := by
  unfold bAt revS
  rw [Array.toList_reverse, List.getElem?_reverse (by simpa using hk)]
  rfl
/-- The layers of a strip, told from the other end. -/
def otherL (ys : List Int) : List Int := if ys.length % 2 = 1 then backL ys else (backL ys).reverse
theorem otherL_length (ys : List Int) : (otherL ys).length = ys.length := by unfold otherL; split <;> simp [backL_length]
theorem otherL_permB {ys : List Int} (h : permB ys = true) : permB (otherL ys) = true := by
  unfold otherL
  split
  · exact backL_permB h
  · rw [rev_permB]; exact backL_permB h
theorem otherL_inj {xs ys : List Int} (hl : xs.length = ys.length) (h : otherL xs = otherL ys) : xs = ys := by
  unfold otherL at h
  rw [hl] at h
  split at h
  · rw [← backL_backL (xs := xs), h, backL_backL]
  · have h := List.reverse_inj.1 h
    rw [← backL_backL (xs := xs), h, backL_backL]
theorem otherL_ord {ys : List Int} {n i j : Nat} (hp : permB ys = true) (hl : ys.length = n) (hi : i < n) (hj : j < n) :
    sameO (decide (n % 2 = 0)) (at0 (levelsL ys) (n - 1 - i)) (at0 (levelsL ys) (n - 1 - j)) (at0 (levelsL (otherL ys)) i) (at0 (levelsL (otherL ys)) j) := by
  have hl' := (otherL_length ys).trans hl
  rw [lev_at hl (by omega), lev_at hl (by omega), lev_at hl' hi, lev_at hl' hj]
  have bl := backL_length ys
  unfold otherL sameO
  by_cases hn : n % 2 = 1
  · rw [hl, if_pos hn, if_neg (by rw [decide_eq_true_eq]; omega), backL_lvl ys (by omega), backL_lvl ys (by omega), hl]
  · rw [hl, if_neg hn, if_pos (by rw [decide_eq_true_eq]; omega), rev_lvl (backL_permB hp) (by omega), rev_lvl (backL_permB hp) (by omega), backL_lvl ys (by omega), backL_lvl ys (by omega), hl]
    omega
theorem other_end {xs : List Int} {s : ByteArray} {ys : List Int} (hs : s.size + 1 = xs.length) (h : rightB xs (stripFs xs s) ys = true) : rightB xs.reverse (stripFs xs.reverse (revS s)) (otherL ys) = true := by
  obtain ⟨hly, hp, _⟩ := rightB_iff.1 h
  obtain ⟨n, hn⟩ : ∃ n, xs.length = n := ⟨_, rfl⟩
  have hlr : xs.reverse.length = n := by rw [List.length_reverse, hn]
  refine rightB_carry (rev := decide (n % 2 = 0)) (swp := true) (s := fun i => n - 1 - i) (t := fun k => n - 2 - k) h (stripFs_apart xs s) (parP_strip xs s) (by rw [otherL_length, hly, hn, hlr]) (otherL_permB hp) ?_
  have hF : ∀ j, j < (stripFs xs.reverse (revS s)).length → j + 1 < n := fun j hj => by rw [stripFs_length, hlr] at hj; omega
  have ha := fun j (hj : j ≤ n) => alt_rev (xs := xs) j (by omega)
  rw [hn] at ha
  have e : ∀ j, j + 1 < n → fdAt (stripFs xs.reverse (revS s)) j = ⟨j, j + 1, alt (xs.reverse.take (j + 1)), hiB (bAt s (n - 2 - j)) j⟩ := fun j hj => by
    rw [stripFs_at (by omega)]
    unfold stripFd
    rw [bAt_rev (by omega), show s.size - 1 - j = n - 2 - j by omega]
  have e' : ∀ j, j + 1 < n → fdAt (stripFs xs s) (n - 2 - j) = ⟨n - 2 - j, n - 1 - j, alt (xs.take (n - 1 - j)), hiB (bAt s (n - 2 - j)) (n - 2 - j)⟩ := fun j hj => by
    rw [stripFs_at (by omega)]
    unfold stripFd
    rw [show n - 2 - j + 1 = n - 1 - j by omega]
  constructor
  · intro i hi; rw [hlr] at hi; show n - 1 - i < _; omega
  · intro j hj; rw [stripFs_length]; have := hF j hj; show n - 2 - j < _; omega
  · intro j m hj hm hne; have := hF j hj; have := hF m hm; show n - 2 - j ≠ n - 2 - m; omega
  · intro i j hi hj; rw [hlr] at hi hj; exact otherL_ord hp (hly.trans hn) hi hj
  · intro j hj
    have hj' := hF j hj
    rw [e j hj', hlr]
    show (j < n ∧ j + 1 < n) ∧ _
    rw [if_pos rfl]
    have e2 := e' j hj'
    rw [e2]
    exact ⟨⟨by omega, hj'⟩, rfl, show n - 1 - (j + 1) = n - 2 - j by omega⟩
  · intro j hj
    have hj' := hF j hj
    have e2 := e' j hj'
    rw [e j hj']
    show _ = ((fdAt (stripFs xs s) (n - 2 - j)).hi != _)
    rw [e2]
    show hiB (bAt s (n - 2 - j)) j = (hiB (bAt s (n - 2 - j)) (n - 2 - j) != _)
    unfold hiB
    by_cases hn2 : n % 2 = 0
    · rw [decide_eq_true hn2, show decide ((n - 2 - j) % 2 = 0) = decide (j % 2 = 0) by rw [decide_eq_decide]; omega]; simp
    · rw [decide_eq_false hn2]
      by_cases hj2 : j % 2 = 0
      · rw [decide_eq_true hj2, show decide ((n - 2 - j) % 2 = 0) = false from decide_eq_false (by omega)]; cases (bAt s (n - 2 - j) == 86) <;> rfl
      · rw [decide_eq_false hj2, show decide ((n - 2 - j) % 2 = 0) = true from decide_eq_true (by omega)]; cases (bAt s (n - 2 - j) == 86) <;> rfl
  · intro j i hj hi hb
    rw [hlr] at hi
    have hj' := hF j hj
    have e2 := e' j hj'
    rw [e j hj'] at hb
    show betw (fdAt (stripFs xs s) (n - 2 - j)).pl (alt (xs.take (n - 1 - i))) (alt (xs.take (n - 1 - i + 1))) = true
    rw [e2]
    simp only at hb ⊢
    rw [ha (j + 1) (by omega), ha i (by omega), ha (i + 1) (by omega), show n - (j + 1) = n - 1 - j by omega, show n - (i + 1) = n - 1 - i by omega] at hb
    rw [show n - 1 - i + 1 = n - i by omega]
    unfold betw at *
    rw [decide_eq_true_eq] at *
    split at hb <;> omega
  · intro j m hj hm hb
    have hj' := hF j hj
    have hm' := hF m hm
    have e2 := e' j hj'
    have e3 := e' m hm'
    rw [e j hj', e m hm'] at hb
    show (fdAt (stripFs xs s) (n - 2 - j)).pl = (fdAt (stripFs xs s) (n - 2 - m)).pl
    rw [e2, e3]
    simp only at hb ⊢
    rw [ha (j + 1) (by omega), ha (m + 1) (by omega), show n - (j + 1) = n - 1 - j by omega, show n - (m + 1) = n - 1 - m by omega] at hb
    split at hb <;> omega
  · intro j m hj hm hb
    have hj' := hF j hj
    have hm' := hF m hm
    have e2 := e' j hj'
    have e3 := e' m hm'
    rw [e j hj', e m hm'] at hb
    show (fdAt (stripFs xs s) (n - 2 - j)).ah % 2 = (fdAt (stripFs xs s) (n - 2 - m)).ah % 2
    rw [e2, e3]
    simp only at hb ⊢
    omega

/-! Folded to and fro. -/
theorem zigzag_right {xs : List Int} {s : ByteArray} (_hs : s.size + 1 = xs.length) (hz : ∀ k, k < s.size → bAt s k = if k % 2 = 0 then 86 else 77) : rightB xs (stripFs xs s) (upI xs.length) = true := by
  refine rightB_iff.2 ⟨upI_length _, upI_permB _, rightL_iff.2 fun k hk => ?_⟩
  have hl : ∀ i, i < xs.length → at0 (levelsL (upI xs.length)) i = (i : Int) := fun i hi => by rw [lev_at (upI_length _) hi, upI_lvl hi]
  rw [stripFs_length] at hk
  rw [stripFs_at hk]
  refine ⟨okF_all (j := xs.length) (fun i hi => ?_) (Nat.le_refl _) ?_, fun m hm hkm => ?_⟩
  · unfold stripFd
    simp only
    rw [hl i hi, hl k (by omega), hl (k + 1) (by omega), Bool.and_eq_false_iff]
    left
    unfold betw
    rw [decide_eq_false_iff_not]
    omega
  · unfold stripFd
    simp only
    rw [hl k (by omega), hl (k + 1) (by omega), decide_eq_true (by omega), hz k (by omega)]
    unfold hiB
    by_cases h2 : k % 2 = 0
    · rw [if_pos h2, decide_eq_true h2]; rfl
    · rw [if_neg h2, decide_eq_false h2]; rfl
  · rw [stripFs_length] at hm
    rw [stripFs_at hm]
    unfold crossF stripFd
    simp only
    rw [hl k (by omega), hl (k + 1) (by omega), hl m (by omega), hl (m + 1) (by omega)]
    rw [Bool.and_eq_false_iff]
    right
    unfold crossB betw
    rw [decide_eq_false (by omega), decide_eq_false (by omega)]
    rfl

end Go.Proofs.Yteigbpmfjiofiaa
