/-
  Plain facts on right layers: when right layers of one strip or ring give right layers of another; a strip's first parts, other lengths, the other end, a ring that begins elsewhere, a strip that is folded to and fro; counts. No program in sight.
-/
import Derived.Test.YteigbpmfjiofiaaPlainL
import Derived.Test.YteigbpmfjiofiaaPlainR
import Derived.Test.YteigbpmfjiofiaaPlainF
namespace Go.Proofs.Yteigbpmfjiofiaa
open Go.RowKit

/-- The parts of the folds are parts, and the two of a fold differ in parity. -/
def parP (n : Nat) (F : List Fd) : Prop := ∀ k, k < F.length → (fdAt F k).ah < n ∧ (fdAt F k).be < n ∧ (fdAt F k).be % 2 = ((fdAt F k).ah + 1) % 2

/-- A place's order, in the same or the opposite direction. -/
def sameO (rev : Bool) (a b a' b' : Int) : Prop := a' < b' ↔ (if rev = true then b < a else a < b)

theorem betw_comm (l a b : Int) : betw l a b = betw l b a := by
  unfold betw; rw [decide_eq_decide]; omega
theorem betw_ord {rev : Bool} {l a b l' a' b' : Int} (h1 : sameO rev l a l' a') (h2 : sameO rev a l a' l') (h3 : sameO rev l b l' b') (h4 : sameO rev b l b' l') : betw l' a' b' = betw l a b := by
  unfold betw sameO at *
  rw [decide_eq_decide]
  cases rev <;> simp only [if_true, Bool.false_eq_true, if_false] at h1 h2 h3 h4 <;> omega
theorem crossB_swp (a b c d : Int) : crossB b a d c = crossB a b c d := by
  unfold crossB
  rw [betw_comm d b a, betw_comm c b a]
  cases betw d a b <;> cases betw c a b <;> rfl
theorem crossB_flip (a b c d : Int) : crossB b a c d = crossB a b c d := by
  unfold crossB
  rw [betw_comm d b a, betw_comm c b a]

/-- What carries right layers over: the parts (s) and the folds (t) of the new one among those of the old one. -/
structure Carry (xs : List Int) (F : List Fd) (L : List Int) (xs' : List Int) (F' : List Fd) (L' : List Int) (rev swp : Bool) (s t : Nat → Nat) : Prop where
  part : ∀ i, i < xs'.length → s i < xs.length
  fold : ∀ k, k < F'.length → t k < F.length
  inj : ∀ k m, k < F'.length → m < F'.length → k ≠ m → t k ≠ t m
  lev : ∀ i j, i < xs'.length → j < xs'.length → sameO rev (at0 L (s i)) (at0 L (s j)) (at0 L' i) (at0 L' j)
  ends : ∀ k, k < F'.length → ((fdAt F' k).ah < xs'.length ∧ (fdAt F' k).be < xs'.length) ∧ (if swp = true then s (fdAt F' k).ah = (fdAt F (t k)).be ∧ s (fdAt F' k).be = (fdAt F (t k)).ah else s (fdAt F' k).ah = (fdAt F (t k)).ah ∧ s (fdAt F' k).be = (fdAt F (t k)).be)
  hi : ∀ k, k < F'.length → (fdAt F' k).hi = ((fdAt F (t k)).hi != (rev != swp))
  cov : ∀ k j, k < F'.length → j < xs'.length → betw (fdAt F' k).pl (alt (xs'.take j)) (alt (xs'.take (j + 1))) = true → betw (fdAt F (t k)).pl (alt (xs.take (s j))) (alt (xs.take (s j + 1))) = true
  pl : ∀ k m, k < F'.length → m < F'.length → (fdAt F' k).pl = (fdAt F' m).pl → (fdAt F (t k)).pl = (fdAt F (t m)).pl
  par : ∀ k m, k < F'.length → m < F'.length → (fdAt F' k).ah % 2 = (fdAt F' m).ah % 2 → (fdAt F (t k)).ah % 2 = (fdAt F (t m)).ah % 2

theorem Carry.between {xs : List Int} {F : List Fd} {L xs' : List Int} {F' : List Fd} {L' : List Int} {rev swp : Bool} {s t : Nat → Nat} (c : Carry xs F L xs' F' L' rev swp s t) {i k : Nat} (hi : i < xs'.length) (hk : k < F'.length) :
    betw (at0 L' i) (at0 L' (fdAt F' k).ah) (at0 L' (fdAt F' k).be) = betw (at0 L (s i)) (at0 L (fdAt F (t k)).ah) (at0 L (fdAt F (t k)).be) := by
  obtain ⟨⟨ha, hb⟩, he⟩ := c.ends k hk
  rw [betw_ord (c.lev _ _ hi ha) (c.lev _ _ ha hi) (c.lev _ _ hi hb) (c.lev _ _ hb hi)]
  cases swp with
  | true => rw [if_pos rfl] at he; rw [he.1, he.2, betw_comm]
  | false => rw [if_neg (by decide)] at he; rw [he.1, he.2]

theorem Carry.okF {xs : List Int} {F : List Fd} {L xs' : List Int} {F' : List Fd} {L' : List Int} {rev swp : Bool} {s t : Nat → Nat} (c : Carry xs F L xs' F' L' rev swp s t) {k : Nat} (hk : k < F'.length)
    (hne : at0 L (fdAt F (t k)).ah ≠ at0 L (fdAt F (t k)).be) (h : okF xs L (fdAt F (t k)) = true) : okF xs' L' (fdAt F' k) = true := by
  unfold Go.Proofs.Yteigbpmfjiofiaa.okF at h
  rw [Bool.and_eq_true, beq_iff_eq, decide_eq_true_eq] at h
  obtain ⟨h1, h2⟩ := h
  refine okF_all (j := xs'.length) (fun i hi => ?_) (Nat.le_refl _) ?_
  · rw [Bool.and_eq_false_iff]
    by_cases hb : betw (fdAt F' k).pl (alt (xs'.take i)) (alt (xs'.take (i + 1))) = true
    · left
      have := h2 (s i) (c.part i hi)
      rw [c.cov k i hk hi hb, Bool.and_true] at this
      rw [c.between hi hk]; exact this
    · right; exact Bool.eq_false_iff.2 hb
  · obtain ⟨⟨ha, hb⟩, he⟩ := c.ends k hk
    have hl := c.lev _ _ ha hb
    rw [c.hi k hk, ← h1]
    unfold sameO at hl
    rw [Bool.eq_iff_iff, decide_eq_true_eq, hl]
    cases rev <;> cases swp <;> simp only [if_true, Bool.false_eq_true, if_false] at he ⊢ <;> rw [he.1, he.2] <;> simp <;> omega

theorem Carry.right {xs : List Int} {F : List Fd} {L xs' : List Int} {F' : List Fd} {L' : List Int} {rev swp : Bool} {s t : Nat → Nat} (c : Carry xs F L xs' F' L' rev swp s t)
    (hne : ∀ k, k < F.length → at0 L (fdAt F k).ah ≠ at0 L (fdAt F k).be) (hok : ∀ k, k < F.length → Go.Proofs.Yteigbpmfjiofiaa.okF xs L (fdAt F k) = true)
    (hcr : ∀ k m, k < F.length → m < F.length → k ≠ m → crossF L (fdAt F k) (fdAt F m) = false) : rightL xs' F' L' = true := by
  refine rightL_iff.2 fun k hk => ⟨c.okF hk (hne _ (c.fold k hk)) (hok _ (c.fold k hk)), fun m hm hkm => ?_⟩
  by_cases hp : (fdAt F' k).pl = (fdAt F' m).pl
  · by_cases h2 : (fdAt F' k).ah % 2 = (fdAt F' m).ah % 2
    · have hc := hcr (t k) (t m) (c.fold k hk) (c.fold m hm) (c.inj k m hk hm (by omega))
      have e : crossF L' (fdAt F' k) (fdAt F' m) = crossF L (fdAt F (t k)) (fdAt F (t m)) := by
        unfold crossF
        rw [decide_eq_true hp, decide_eq_true h2, decide_eq_true (c.pl k m hk hm hp), decide_eq_true (c.par k m hk hm h2)]
        obtain ⟨⟨ma, mb⟩, he⟩ := c.ends m hm
        have b1 := c.between ma hk
        have b2 := c.between mb hk
        unfold crossB
        rw [b1, b2]
        cases swp with
        | true =>
          rw [if_pos rfl] at he; rw [he.1, he.2]
          cases betw (at0 L (fdAt F (t m)).be) (at0 L (fdAt F (t k)).ah) (at0 L (fdAt F (t k)).be) <;> cases betw (at0 L (fdAt F (t m)).ah) (at0 L (fdAt F (t k)).ah) (at0 L (fdAt F (t k)).be) <;> rfl
        | false => rw [if_neg (by decide)] at he; rw [he.1, he.2]
      rw [e]; exact hc
    · unfold crossF; rw [decide_eq_false h2]; simp
  · unfold crossF; rw [decide_eq_false hp]; simp

theorem rightB_parts {xs : List Int} {F : List Fd} {ys : List Int} (h : rightB xs F ys = true) (hap : apartF xs.length F) (hpar : parP xs.length F) :
    (∀ k, k < F.length → at0 (levelsL ys) (fdAt F k).ah ≠ at0 (levelsL ys) (fdAt F k).be) ∧ (∀ k, k < F.length → okF xs (levelsL ys) (fdAt F k) = true) ∧ (∀ k m, k < F.length → m < F.length → k ≠ m → crossF (levelsL ys) (fdAt F k) (fdAt F m) = false) := by
  obtain ⟨hl, hp, hr⟩ := rightB_iff.1 h
  have hr' := rightL_iff.1 hr
  refine ⟨fun k hk e => ?_, fun k hk => (hr' k hk).1, fun k m hk hm hkm => ?_⟩
  · obtain ⟨h1, h2, h3⟩ := hpar k hk
    rw [at0_levels (by omega), at0_levels (by omega)] at e
    have := lvl_inj hp (by omega) (by omega) e
    omega
  · rcases Nat.lt_or_gt_of_ne hkm with h1 | h1
    · exact (hr' k hk).2 m hm h1
    · rw [crossF_symm hap hp hl hk hm hkm]; exact (hr' m hm).2 k hk h1
theorem rightB_carry {xs : List Int} {F : List Fd} {ys xs' : List Int} {F' : List Fd} {ys' : List Int} {rev swp : Bool} {s t : Nat → Nat} (h : rightB xs F ys = true) (hap : apartF xs.length F) (hpar : parP xs.length F)
    (hl : ys'.length = xs'.length) (hp : permB ys' = true) (c : Carry xs F (levelsL ys) xs' F' (levelsL ys') rev swp s t) : rightB xs' F' ys' = true := by
  obtain ⟨h1, h2, h3⟩ := rightB_parts h hap hpar
  exact rightB_iff.2 ⟨hl, hp, c.right h1 h2 h3⟩

/-- Levels, by the place in the list. -/
theorem lev_at {ys : List Int} {n i : Nat} (hl : ys.length = n) (hi : i < n) : at0 (levelsL ys) i = lvl ys i := at0_levels (by omega)

theorem parP_strip (xs : List Int) (s : ByteArray) : parP xs.length (stripFs xs s) := fun k hk => by
  rw [stripFs_length] at hk
  rw [stripFs_at hk]
  exact ⟨show k < xs.length by omega, show k + 1 < xs.length by omega, rfl⟩
theorem parP_ring {xs : List Int} (s : ByteArray) (he : xs.length % 2 = 0) : parP xs.length (ringFs xs s) := fun k hk => by
  rw [ringFs_length] at hk
  rw [ringFs_at hk]
  unfold ringFd
  simp only
  rw [ring_ahead hk]
  by_cases k0 : k = 0 <;> simp only [k0, if_true, if_false] <;> omega

/-! Turned over: the layers in the opposite order, the folds exchanged. -/
theorem bAt_swap {s : ByteArray} {k : Nat} (hk : k < s.size) : bAt (swapS s) k = swp (bAt s k) := by
  unfold bAt swapS
  simp only [List.getElem?_map]
  rw [List.getElem?_eq_getElem (by simpa using hk)]
  rfl
theorem isMV_at {s : ByteArray} (h : s.data.toList.all isMV = true) {k : Nat} (hk : k < s.size) : bAt s k = 77 ∨ bAt s k = 86 := by
  have h' := List.all_eq_true.1 h (bAt s k) (by
    unfold bAt
    rw [List.getElem?_eq_getElem (by simpa using hk)]
    exact List.getElem_mem _)
  unfold isMV at h'
  simpa using h'
theorem hiB_swap {s : ByteArray} (h : s.data.toList.all isMV = true) {k : Nat} (hk : k < s.size) (a : Nat) : hiB (bAt (swapS s) k) a = !(hiB (bAt s k) a) := by
  rw [bAt_swap hk]
  unfold hiB
  rcases isMV_at h hk with e | e <;> rw [e] <;> cases decide (a % 2 = 0) <;> rfl
theorem sameO_rev {ys : List Int} {n i j : Nat} (hp : permB ys = true) (hl : ys.length = n) (hi : i < n) (hj : j < n) : sameO true (at0 (levelsL ys) i) (at0 (levelsL ys) j) (at0 (levelsL ys.reverse) i) (at0 (levelsL ys.reverse) j) := by
  have hl' : ys.reverse.length = n := by simpa using hl
  rw [lev_at hl hi, lev_at hl hj, lev_at hl' hi, lev_at hl' hj, rev_lvl hp (by omega), rev_lvl hp (by omega)]
  unfold sameO
  rw [if_pos rfl]
  omega
theorem swapS_size (s : ByteArray) : (swapS s).size = s.size := by
  rw [← swapTo_all s s.size (Nat.le_refl _)]; exact swapTo_size s s.size (Nat.le_refl _)
theorem over_strip {xs : List Int} {s : ByteArray} {ys : List Int} (hs : s.size + 1 = xs.length) (hv : s.data.toList.all isMV = true) (h : rightB xs (stripFs xs s) ys = true) : rightB xs (stripFs xs (swapS s)) ys.reverse = true := by
  obtain ⟨hl, hp, _⟩ := rightB_iff.1 h
  refine rightB_carry (rev := true) (swp := false) (s := id) (t := id) h (stripFs_apart xs s) (parP_strip xs s) (by simpa using hl) (by rw [rev_permB]; exact hp) ?_
  have hF : ∀ k, k < (stripFs xs (swapS s)).length → k < xs.length - 1 := fun k hk => by rwa [stripFs_length] at hk
  have e : ∀ k, k < xs.length - 1 → fdAt (stripFs xs (swapS s)) k = { stripFd xs s k with hi := !(stripFd xs s k).hi } := fun k hk => by
    rw [stripFs_at hk]
    unfold stripFd
    rw [hiB_swap hv (by omega)]
  constructor
  · exact fun i hi => hi
  · exact fun k hk => by rw [stripFs_length]; exact hF k hk
  · exact fun k m _ _ h => h
  · exact fun i j hi hj => sameO_rev hp hl hi hj
  · intro k hk
    have hk' := hF k hk
    rw [e k hk', show fdAt (stripFs xs s) (id k) = stripFd xs s k from stripFs_at hk']
    exact ⟨⟨show k < xs.length by omega, show k + 1 < xs.length by omega⟩, rfl, rfl⟩
  · intro k hk
    have hk' := hF k hk
    rw [e k hk', show fdAt (stripFs xs s) (id k) = stripFd xs s k from stripFs_at hk']
    simp
  · intro k j hk hj hb
    have hk' := hF k hk
    rw [e k hk'] at hb
    rw [show fdAt (stripFs xs s) (id k) = stripFd xs s k from stripFs_at hk']
    exact hb
  · intro k m hk hm hb
    have hk' := hF k hk
    have hm' := hF m hm
    rw [e k hk', e m hm'] at hb
    rw [show fdAt (stripFs xs s) (id k) = stripFd xs s k from stripFs_at hk', show fdAt (stripFs xs s) (id m) = stripFd xs s m from stripFs_at hm']
    exact hb
  · intro k m hk hm hb
    have hk' := hF k hk
    have hm' := hF m hm
    rw [e k hk', e m hm'] at hb
    rw [show fdAt (stripFs xs s) (id k) = stripFd xs s k from stripFs_at hk', show fdAt (stripFs xs s) (id m) = stripFd xs s m from stripFs_at hm']
    exact hb
theorem over_ring {xs : List Int} {s : ByteArray} {ys : List Int} (he : xs.length % 2 = 0) (hs : s.size = xs.length) (hv : s.data.toList.all isMV = true) (h : rightB xs (ringFs xs s) ys = true) : rightB xs (ringFs xs (swapS s)) ys.reverse = true := by
  obtain ⟨hl, hp, _⟩ := rightB_iff.1 h
  refine rightB_carry (rev := true) (swp := false) (s := id) (t := id) h (ringFs_apart s he) (parP_ring s he) (by simpa using hl) (by rw [rev_permB]; exact hp) ?_
  have hF : ∀ k, k < (ringFs xs (swapS s)).length → k < xs.length := fun k hk => by rwa [ringFs_length] at hk
  have e : ∀ k, k < xs.length → fdAt (ringFs xs (swapS s)) k = { ringFd xs s k with hi := !(ringFd xs s k).hi } := fun k hk => by
    rw [ringFs_at hk]
    unfold ringFd
    rw [hiB_swap hv (by omega)]
  constructor
  · exact fun i hi => hi
  · exact fun k hk => by rw [ringFs_length]; exact hF k hk
  · exact fun k m _ _ h => h
  · exact fun i j hi hj => sameO_rev hp hl hi hj
  · intro k hk
    have hk' := hF k hk
    have := parP_ring s he k (by rw [ringFs_length]; exact hk')
    rw [ringFs_at hk'] at this
    rw [e k hk', show fdAt (ringFs xs s) (id k) = ringFd xs s k from ringFs_at hk']
    exact ⟨⟨this.1, this.2.1⟩, rfl, rfl⟩
  · intro k hk
    have hk' := hF k hk
    rw [e k hk', show fdAt (ringFs xs s) (id k) = ringFd xs s k from ringFs_at hk']
    simp
  · intro k j hk hj hb
    have hk' := hF k hk
    rw [e k hk'] at hb
    rw [show fdAt (ringFs xs s) (id k) = ringFd xs s k from ringFs_at hk']
    exact hb
  · intro k m hk hm hb
    have hk' := hF k hk
    have hm' := hF m hm
    rw [e k hk', e m hm'] at hb
    rw [show fdAt (ringFs xs s) (id k) = ringFd xs s k from ringFs_at hk', show fdAt (ringFs xs s) (id m) = ringFd xs s m from ringFs_at hm']
    exact hb
  · intro k m hk hm hb
    have hk' := hF k hk
    have hm' := hF m hm
    rw [e k hk', e m hm'] at hb
    rw [show fdAt (ringFs xs s) (id k) = ringFd xs s k from ringFs_at hk', show fdAt (ringFs xs s) (id m) = ringFd xs s m from ringFs_at hm']
    exact hb

/-! A ring that is cut open is a strip. -/
theorem bAt_drop {s : ByteArray} {k : Nat} (hk : k + 1 < s.size) : bAt (s.extract 1 s.size) k = bAt s (k + 1) := by
  rw [bAt_get s (k + 1) hk, bAt_get _ k (by rw [ByteArray.size_extract]; omega), ByteArray.getElem_extract]
  congr 1
  omega
theorem ring_open {xs : List Int} {s : ByteArray} {ys : List Int} (he : xs.length % 2 = 0) (hs : s.size = xs.length) (h : rightB xs (ringFs xs s) ys = true) : rightB xs (stripFs xs (s.extract 1 s.size)) ys = true := by
  obtain ⟨hl, hp, _⟩ := rightB_iff.1 h
  refine rightB_carry (rev := false) (swp := false) (s := id) (t := (· + 1)) h (ringFs_apart s he) (parP_ring s he) hl hp ?_
  have hF : ∀ k, k < (stripFs xs (s.extract 1 s.size)).length → k + 1 < xs.length := fun k hk => by rw [stripFs_length] at hk; omega
  have e : ∀ k, k + 1 < xs.length → fdAt (stripFs xs (s.extract 1 s.size)) k = fdAt (ringFs xs s) (k + 1) := fun k hk => by
    rw [stripFs_at (by omega), ringFs_at hk]
    unfold stripFd ringFd
    rw [ring_ahead hk, if_neg (by omega), bAt_drop (by omega)]
    rfl
  constructor
  · exact fun i hi => hi
  · exact fun k hk => by rw [ringFs_length]; exact hF k hk
  · exact fun k m _ _ h => by omega
  · intro i j hi hj; unfold sameO; rw [if_neg (by decide)]; rfl
  · intro k hk
    have hk' := hF k hk
    have := parP_ring s he (k + 1) (by rw [ringFs_length]; exact hk')
    rw [e k hk']
    exact ⟨⟨this.1, this.2.1⟩, rfl, rfl⟩
  · intro k hk
    rw [e k (hF k hk)]
    simp
  · intro k j hk hj hb
    rw [e k (hF k hk)] at hb
    exact hb
  · intro k m hk hm hb
    rw [e k (hF k hk), e m (hF m hm)] at hb
    exact hb
  · intro k m hk hm hb
    rw [e k (hF k hk), e m (hF m hm)] at hb
    exact hb


/-! The first parts of a strip. -/
theorem upI_below {n : Nat} : ∀ {k : Nat}, k ≤ n → (upI k).Perm ((upI n).filter fun x => decide (x < (k : Int))) := fun {k} hk =>
  perm_of_mem (nodup_upI k) (List.Nodup.sublist List.filter_sublist (nodup_upI n)) fun x => by
    rw [mem_upI, List.mem_filter, mem_upI, decide_eq_true_eq]
    omega
def lowL (k : Nat) (ys : List Int) : List Int := ys.filter fun x => decide (x < (k : Int))
theorem lowL_perm {ys : List Int} {n k : Nat} (hp : permB ys = true) (hl : ys.length = n) (hk : k ≤ n) : (upI k).Perm (lowL k ys) := by
  have h := permB_perm hp
  rw [hl] at h
  exact (upI_below hk).trans (h.filter _)
theorem lowL_length {ys : List Int} {n k : Nat} (hp : permB ys = true) (hl : ys.length = n) (hk : k ≤ n) : (lowL k ys).length = k := by rw [← (lowL_perm hp hl hk).length_eq, upI_length]
theorem bAt_take {s : ByteArray} {i k : Nat} (hi : i < k) (hk : k ≤ s.size) : bAt (s.extract 0 k) i = bAt s i := by
  rw [bAt_get s i (by omega), bAt_get _ i (by rw [ByteArray.size_extract]; omega), ByteArray.getElem_extract]
  congr 1
  omega
theorem alt_first {xs : List Int} {k j : Nat} (h : j ≤ k) : alt ((xs.take k).take j) = alt (xs.take j) := by rw [List.take_take, Nat.min_eq_left h]
theorem first_parts {xs : List Int} {s : ByteArray} {ys : List Int} {k : Nat} (h1 : 1 ≤ k) (hk : k ≤ xs.length) (hs : s.size + 1 = xs.length) (h : rightB xs (stripFs xs s) ys = true) : rightB (xs.take k) (stripFs (xs.take k) (s.extract 0 (k - 1))) (lowL k ys) = true := by
  obtain ⟨hl, hp, _⟩ := rightB_iff.1 h
  have hlk : (xs.take k).length = k := by rw [List.length_take]; omega
  have hpk := permB_of_perm (lowL_perm hp hl hk)
  have hll := lowL_length hp hl hk
  refine rightB_carry (rev := false) (swp := false) (s := id) (t := id) h (stripFs_apart xs s) (parP_strip xs s) (hll.trans hlk.symm) hpk ?_
  have hF : ∀ j, j < (stripFs (xs.take k) (s.extract 0 (k - 1))).length → j + 1 < k := fun j hj => by rw [stripFs_length, hlk] at hj; omega
  have e : ∀ j, j + 1 < k → fdAt (stripFs (xs.take k) (s.extract 0 (k - 1))) j = fdAt (stripFs xs s) j := fun j hj => by
    rw [stripFs_at (by omega), stripFs_at (by omega)]
    unfold stripFd
    rw [alt_first (by omega), bAt_take (by omega) (by omega)]
  constructor
  · exact fun i hi => by rw [hlk] at hi; exact Nat.lt_of_lt_of_le hi hk
  · exact fun j hj => by rw [stripFs_length]; have := hF j hj; show j < _; omega
  · exact fun j m _ _ h => h
  · intro i j hi hj
    rw [hlk] at hi hj
    unfold sameO; rw [if_neg (by decide)]
    rw [lev_at hll hi, lev_at hll hj, id, id, lev_at hl (by omega), lev_at hl (by omega)]
    exact lvl_lt_sub (List.filter_sublist) hp hpk (by rw [← hll] at hi; exact hi) (by rw [← hll] at hj; exact hj)
  · intro j hj
    have hj' := hF j hj
    have e2 : fdAt (stripFs xs s) j = stripFd xs s j := stripFs_at (by omega)
    rw [e j hj', show fdAt (stripFs xs s) (id j) = stripFd xs s j from e2, e2]
    exact ⟨⟨show j < _ by omega, show j + 1 < _ by omega⟩, rfl, rfl⟩
  · intro j hj
    rw [e j (hF j hj)]
    simp
  · intro j i hj hi hb
    rw [hlk] at hi
    rw [e j (hF j hj), alt_first (by omega), alt_first (by omega)] at hb
    exact hb
  · intro j m hj hm hb
    rw [e j (hF j hj), e m (hF m hm)] at hb
    exact hb
  · intro j m hj hm hb
    rw [e j (hF j hj), e m (hF m hm)] at hb
    exact hb

/-! Other lengths, with the same parts and folds. -/
theorem carry_places {xs xs' : List Int} {s : ByteArray} {ys : List Int} (hl : xs'.length = xs.length) (h : rightB xs (stripFs xs s) ys = true)
    (hcov : ∀ k j, k + 1 < xs.length → j < xs.length → betw (alt (xs'.take (k + 1))) (alt (xs'.take j)) (alt (xs'.take (j + 1))) = true → betw (alt (xs.take (k + 1))) (alt (xs.take j)) (alt (xs.take (j + 1))) = true)
    (hpl : ∀ k m, k + 1 < xs.length → m + 1 < xs.length → alt (xs'.take (k + 1)) = alt (xs'.take (m + 1)) → alt (xs.take (k + 1)) = alt (xs.take (m + 1))) : rightB xs' (stripFs xs' s) ys = true := by
  obtain ⟨hly, hp, _⟩ := rightB_iff.1 h
  refine rightB_carry (rev := false) (swp := false) (s := id) (t := id) h (stripFs_apart xs s) (parP_strip xs s) (hly.trans hl.symm) hp ?_
  have hF : ∀ j, j < (stripFs xs' s).length → j + 1 < xs.length := fun j hj => by rw [stripFs_length] at hj; omega
  have e : ∀ j, j + 1 < xs.length → fdAt (stripFs xs' s) j = { stripFd xs s j with pl := alt (xs'.take (j + 1)) } := fun j hj => by
    rw [stripFs_at (by omega)]
    rfl
  have e' : ∀ j, j + 1 < xs.length → fdAt (stripFs xs s) j = stripFd xs s j := fun j hj => stripFs_at (by omega)
  constructor
  · exact fun i hi => by rw [hl] at hi; exact hi
  · exact fun j hj => by rw [stripFs_length]; have := hF j hj; show j < _; omega
  · exact fun j m _ _ h => h
  · intro i j hi hj; unfold sameO; rw [if_neg (by decide)]; rfl
  · intro j hj
    have hj' := hF j hj
    rw [e j hj', show fdAt (stripFs xs s) (id j) = stripFd xs s j from e' j hj']
    exact ⟨⟨show j < _ by omega, show j + 1 < _ by omega⟩, rfl, rfl⟩
  · intro j hj
    rw [e j (hF j hj), show fdAt (stripFs xs s) (id j) = stripFd xs s j from e' j (hF j hj)]
    simp
  · intro j i hj hi hb
    rw [hl] at hi
    rw [e j (hF j hj)] at hb
    rw [show fdAt (stripFs xs s) (id j) = stripFd xs s j from e' j (hF j hj)]
    exact hcov j i (hF j hj) hi hb
  · intro j m hj hm hb
    rw [e j (hF j hj), e m (hF m hm)] at hb
    rw [show fdAt (stripFs xs s) (id j) = stripFd xs s j from e' j (hF j hj), show fdAt (stripFs xs s) (id m) = stripFd xs s m from e' m (hF m hm)]
    exact hpl j m (hF j hj) (hF m hm) hb
  · intro j m hj hm hb
    rw [e j (hF j hj), e m (hF m hm)] at hb
    rw [show fdAt (stripFs xs s) (id j) = stripFd xs s j from e' j (hF j hj), show fdAt (stripFs xs s) (id m) = stripFd xs s m from e' m (hF m hm)]
    exact hb
def twoL (xs : List Int) : List Int := xs.map fun x => 2 * x
theorem alt_two (xs : List Int) : alt (twoL xs) = 2 * alt xs := by
  induction xs with
  | nil => rfl
  | cons x r ih => unfold twoL at *; simp only [List.map_cons, alt, ih]; omega
theorem alt_two_take (xs : List Int) (j : Nat) : alt ((twoL xs).take j) = 2 * alt (xs.take j) := by
  rw [← alt_two]; unfold twoL; rw [List.map_take]
theorem twice_right {xs : List Int} {s : ByteArray} {ys : List Int} (h : rightB xs (stripFs xs s) ys = true) : rightB (twoL xs) (stripFs (twoL xs) s) ys = true := by
  refine carry_places (by simp [twoL]) h (fun k j _ _ hb => ?_) (fun k m _ _ hb => ?_)
  · rw [alt_two_take, alt_two_take, alt_two_take] at hb
    unfold betw at *
    rw [decide_eq_true_eq] at *
    omega
  · rw [alt_two_take, alt_two_take] at hb
    omega
def shortL (xs : List Int) (v : Int) : List Int := xs.take (xs.length - 1) ++ [v]
theorem short_right {xs : List Int} {s : ByteArray} {ys : List Int} {v : Int} (hn : 1 ≤ xs.length) (hv : 1 ≤ v) (hv2 : v ≤ at0 xs (xs.length - 1)) (h : rightB xs (stripFs xs s) ys = true) : rightB (shortL xs v) (stripFs (shortL xs v) s) ys = true := by
  have ht : ∀ j, j < xs.length → (shortL xs v).take j = xs.take j := fun j hj => by
    unfold shortL
    rw [List.take_append_of_le_length (by rw [List.length_take]; omega), List.take_take, Nat.min_eq_left (by omega)]
  refine carry_places (by simp [shortL]; omega) h (fun k j hk hj hb => ?_) (fun k m hk hm hb => ?_)
  · rw [ht (k + 1) hk, ht j hj] at hb
    by_cases hj2 : j + 1 < xs.length
    · rw [ht (j + 1) hj2] at hb; exact hb
    · obtain rfl : j = xs.length - 1 := by omega
      rw [alt_take xs (xs.length - 1) hj]
      have e : alt ((shortL xs v).take (xs.length - 1 + 1)) = alt (xs.take (xs.length - 1)) + (if (xs.length - 1) % 2 = 0 then v else -v) := by
        unfold shortL
        rw [List.take_of_length_le (by simp), alt_snoc, List.length_take, Nat.min_eq_left (by omega)]
      rw [e] at hb
      unfold at0 at hv2
      unfold betw at *
      rw [decide_eq_true_eq] at *
      by_cases hp : (xs.length - 1) % 2 = 0
      · rw [if_pos hp] at hb ⊢; omega
      · rw [if_neg hp] at hb ⊢; omega
  · rw [ht (k + 1) hk, ht (m + 1) hm] at hb
    exact hb

/-! The other end. -/
theorem rev_get {xs : List Int} {j : Nat} (hj : j < xs.length) : xs.reverse[j]?.getD 0 = xs[xs.length - 1 - j]?.getD 0 := by
  rw [List.getElem?_reverse hj]
theorem alt_revP {xs : List Int} : ∀ j, j ≤ xs.length → alt (xs.reverse.take j) = (if xs.length % 2 = 1 then alt xs - alt (xs.take (xs.length - j)) else alt (xs.take (xs.length - j)) - alt xs) := by
  intro j
  induction j with
  | zero => intro _; rw [List.take_zero, Nat.sub_zero, List.take_length]; split <;> (show (0 : Int) = _; omega)
  | succ j ih =>
    intro hj
    have ih' := ih (by omega)
    have e := alt_take xs (xs.length - (j + 1)) (by omega)
    rw [show xs.length - (j + 1) + 1 = xs.length - j by omega] at e
    rw [alt_take _ j (by rw [List.length_reverse]; omega), ih', e, rev_get (by omega), show xs.length - 1 - j = xs.length - (j + 1) by omega]
    by_cases hn : xs.length % 2 = 1
    · rw [if_pos hn, if_pos hn]
      by_cases h2 : j % 2 = 0
      · rw [if_pos h2, if_pos (by omega)]; omega
      · rw [if_neg h2, if_neg (by omega)]; omega
    · rw [if_neg hn, if_neg hn]
      by_cases h2 : j % 2 = 0
      · rw [if_pos h2, if_neg (by omega)]; omega
      · rw [if_neg h2, if_pos (by omega)]; omega
theorem bAt_rev {s : ByteArray} {k : Nat} (hk : k < s.size) : bAt (revS s) k = bAt s (s.size - 1 - k) := by
  unfold bAt revS
  rw [Array.toList_reverse, List.getElem?_reverse (by simpa using hk)]
  rfl
/-- The layers of a strip, told from the other end. -/
def otherL (ys : List Int) : List Int := if ys.length % 2 = 1 then backL ys else (backL ys).reverse
theorem otherL_length (ys : List Int) : (otherL ys).length = ys.length := by unfold otherL; split <;> simp [backL_length]
theorem otherL_permB {ys : List Int} (h : permB ys = true) : permB (otherL ys) = true := by
  unfold otherL
  split
  · exact backL_permB h
  · rw [rev_permB]; exact backL_permB h
theorem otherL_inj {xs ys : List Int} (hl : xs.length = ys.length) (h : otherL xs = otherL ys) : xs = ys := by
  unfold otherL at h
  rw [hl] at h
  split at h
  · rw [← backL_backL (xs := xs), h, backL_backL]
  · have h := List.reverse_inj.1 h
    rw [← backL_backL (xs := xs), h, backL_backL]
theorem otherL_ord {ys : List Int} {n i j : Nat} (hp : permB ys = true) (hl : ys.length = n) (hi : i < n) (hj : j < n) :
    sameO (decide (n % 2 = 0)) (at0 (levelsL ys) (n - 1 - i)) (at0 (levelsL ys) (n - 1 - j)) (at0 (levelsL (otherL ys)) i) (at0 (levelsL (otherL ys)) j) := by
  have hl' := (otherL_length ys).trans hl
  rw [lev_at hl (by omega), lev_at hl (by omega), lev_at hl' hi, lev_at hl' hj]
  have bl := backL_length ys
  unfold otherL sameO
  by_cases hn : n % 2 = 1
  · rw [hl, if_pos hn, if_neg (by rw [decide_eq_true_eq]; omega), backL_lvl ys (by omega), backL_lvl ys (by omega), hl]
  · rw [hl, if_neg hn, if_pos (by rw [decide_eq_true_eq]; omega), rev_lvl (backL_permB hp) (by omega), rev_lvl (backL_permB hp) (by omega), backL_lvl ys (by omega), backL_lvl ys (by omega), hl]
    omega
theorem other_end {xs : List Int} {s : ByteArray} {ys : List Int} (hs : s.size + 1 = xs.length) (h : rightB xs (stripFs xs s) ys = true) : rightB xs.reverse (stripFs xs.reverse (revS s)) (otherL ys) = true := by
  obtain ⟨hly, hp, _⟩ := rightB_iff.1 h
  obtain ⟨n, hn⟩ : ∃ n, xs.length = n := ⟨_, rfl⟩
  have hlr : xs.reverse.length = n := by rw [List.length_reverse, hn]
  refine rightB_carry (rev := decide (n % 2 = 0)) (swp := true) (s := fun i => n - 1 - i) (t := fun k => n - 2 - k) h (stripFs_apart xs s) (parP_strip xs s) (by rw [otherL_length, hly, hn, hlr]) (otherL_permB hp) ?_
  have hF : ∀ j, j < (stripFs xs.reverse (revS s)).length → j + 1 < n := fun j hj => by rw [stripFs_length, hlr] at hj; omega
  have ha := fun j (hj : j ≤ n) => alt_revP (xs := xs) j (by omega)
  rw [hn] at ha
  have e : ∀ j, j + 1 < n → fdAt (stripFs xs.reverse (revS s)) j = ⟨j, j + 1, alt (xs.reverse.take (j + 1)), hiB (bAt s (n - 2 - j)) j⟩ := fun j hj => by
    rw [stripFs_at (by omega)]
    unfold stripFd
    rw [bAt_rev (by omega), show s.size - 1 - j = n - 2 - j by omega]
  have e' : ∀ j, j + 1 < n → fdAt (stripFs xs s) (n - 2 - j) = ⟨n - 2 - j, n - 1 - j, alt (xs.take (n - 1 - j)), hiB (bAt s (n - 2 - j)) (n - 2 - j)⟩ := fun j hj => by
    rw [stripFs_at (by omega)]
    unfold stripFd
    rw [show n - 2 - j + 1 = n - 1 - j by omega]
  constructor
  · intro i hi; rw [hlr] at hi; show n - 1 - i < _; omega
  · intro j hj; rw [stripFs_length]; have := hF j hj; show n - 2 - j < _; omega
  · intro j m hj hm hne; have := hF j hj; have := hF m hm; show n - 2 - j ≠ n - 2 - m; omega
  · intro i j hi hj; rw [hlr] at hi hj; exact otherL_ord hp (hly.trans hn) hi hj
  · intro j hj
    have hj' := hF j hj
    rw [e j hj', hlr]
    show (j < n ∧ j + 1 < n) ∧ _
    rw [if_pos rfl]
    have e2 := e' j hj'
    rw [e2]
    exact ⟨⟨by omega, hj'⟩, rfl, show n - 1 - (j + 1) = n - 2 - j by omega⟩
  · intro j hj
    have hj' := hF j hj
    have e2 := e' j hj'
    rw [e j hj']
    show _ = ((fdAt (stripFs xs s) (n - 2 - j)).hi != _)
    rw [e2]
    show hiB (bAt s (n - 2 - j)) j = (hiB (bAt s (n - 2 - j)) (n - 2 - j) != _)
    unfold hiB
    by_cases hn2 : n % 2 = 0
    · rw [decide_eq_true hn2, show decide ((n - 2 - j) % 2 = 0) = decide (j % 2 = 0) by rw [decide_eq_decide]; omega]; simp
    · rw [decide_eq_false hn2]
      by_cases hj2 : j % 2 = 0
      · rw [decide_eq_true hj2, show decide ((n - 2 - j) % 2 = 0) = false from decide_eq_false (by omega)]; cases (bAt s (n - 2 - j) == 86) <;> rfl
      · rw [decide_eq_false hj2, show decide ((n - 2 - j) % 2 = 0) = true from decide_eq_true (by omega)]; cases (bAt s (n - 2 - j) == 86) <;> rfl
  · intro j i hj hi hb
    rw [hlr] at hi
    have hj' := hF j hj
    have e2 := e' j hj'
    rw [e j hj'] at hb
    show betw (fdAt (stripFs xs s) (n - 2 - j)).pl (alt (xs.take (n - 1 - i))) (alt (xs.take (n - 1 - i + 1))) = true
    rw [e2]
    simp only at hb ⊢
    rw [ha (j + 1) (by omega), ha i (by omega), ha (i + 1) (by omega), show n - (j + 1) = n - 1 - j by omega, show n - (i + 1) = n - 1 - i by omega] at hb
    rw [show n - 1 - i + 1 = n - i by omega]
    unfold betw at *
    rw [decide_eq_true_eq] at *
    split at hb <;> omega
  · intro j m hj hm hb
    have hj' := hF j hj
    have hm' := hF m hm
    have e2 := e' j hj'
    have e3 := e' m hm'
    rw [e j hj', e m hm'] at hb
    show (fdAt (stripFs xs s) (n - 2 - j)).pl = (fdAt (stripFs xs s) (n - 2 - m)).pl
    rw [e2, e3]
    simp only at hb ⊢
    rw [ha (j + 1) (by omega), ha (m + 1) (by omega), show n - (j + 1) = n - 1 - j by omega, show n - (m + 1) = n - 1 - m by omega] at hb
    split at hb <;> omega
  · intro j m hj hm hb
    have hj' := hF j hj
    have hm' := hF m hm
    have e2 := e' j hj'
    have e3 := e' m hm'
    rw [e j hj', e m hm'] at hb
    show (fdAt (stripFs xs s) (n - 2 - j)).ah % 2 = (fdAt (stripFs xs s) (n - 2 - m)).ah % 2
    rw [e2, e3]
    simp only at hb ⊢
    omega

/-! Folded to and fro. -/
theorem zigzag_right {xs : List Int} {s : ByteArray} (_hs : s.size + 1 = xs.length) (hz : ∀ k, k < s.size → bAt s k = if k % 2 = 0 then 86 else 77) : rightB xs (stripFs xs s) (upI xs.length) = true := by
  refine rightB_iff.2 ⟨upI_length _, upI_permB _, rightL_iff.2 fun k hk => ?_⟩
  have hl : ∀ i, i < xs.length → at0 (levelsL (upI xs.length)) i = (i : Int) := fun i hi => by rw [lev_at (upI_length _) hi, upI_lvl hi]
  rw [stripFs_length] at hk
  rw [stripFs_at hk]
  refine ⟨okF_all (j := xs.length) (fun i hi => ?_) (Nat.le_refl _) ?_, fun m hm hkm => ?_⟩
  · unfold stripFd
    simp only
    rw [hl i hi, hl k (by omega), hl (k + 1) (by omega), Bool.and_eq_false_iff]
    left
    unfold betw
    rw [decide_eq_false_iff_not]
    omega
  · unfold stripFd
    simp only
    rw [hl k (by omega), hl (k + 1) (by omega), decide_eq_true (by omega), hz k (by omega)]
    unfold hiB
    by_cases h2 : k % 2 = 0
    · rw [if_pos h2, decide_eq_true h2]; rfl
    · rw [if_neg h2, decide_eq_false h2]; rfl
  · rw [stripFs_length] at hm
    rw [stripFs_at hm]
    unfold crossF stripFd
    simp only
    rw [hl k (by omega), hl (k + 1) (by omega), hl m (by omega), hl (m + 1) (by omega)]
    rw [Bool.and_eq_false_iff]
    right
    unfold crossB betw
    rw [decide_eq_false (by omega), decide_eq_false (by omega)]
    rfl


/-- Right layers of a strip; of a ring. -/
def strLB (xs : List Int) (s : ByteArray) (ys : List Int) : Bool := stripB xs s && rightB xs (stripFs xs s) ys
def rngLB (xs : List Int) (s : ByteArray) (ys : List Int) : Bool := ringB xs s && rightB xs (ringFs xs s) ys
theorem strLB_iff {xs : List Int} {s : ByteArray} {ys : List Int} : strLB xs s ys = true ↔ stripB xs s = true ∧ rightB xs (stripFs xs s) ys = true := by unfold strLB; rw [Bool.and_eq_true]
theorem rngLB_iff {xs : List Int} {s : ByteArray} {ys : List Int} : rngLB xs s ys = true ↔ ringB xs s = true ∧ rightB xs (ringFs xs s) ys = true := by unfold rngLB; rw [Bool.and_eq_true]
theorem stripB_mk {xs : List Int} {s : ByteArray} (h1 : lengthsB xs = true) (h2 : s.size + 1 = xs.length) (h3 : s.data.toList.all isMV = true) : stripB xs s = true := by
  unfold stripB foldsValidB; rw [h1, h3, decide_eq_true (by omega)]; rfl
theorem ringB_mk {xs : List Int} {s : ByteArray} (h1 : lengthsB xs = true) (he : xs.length % 2 = 0) (h2 : s.size = xs.length) (h3 : s.data.toList.all isMV = true) (h4 : alt xs = 0) : ringB xs s = true := by
  unfold ringB foldsValidB; rw [h1, h3, decide_eq_true he, decide_eq_true (by omega), h4]; rfl
theorem allMV_iff {s : ByteArray} : s.data.toList.all isMV = true ↔ ∀ k, k < s.size → bAt s k = 77 ∨ bAt s k = 86 := by
  constructor
  · exact fun h k hk => isMV_at h hk
  · intro h
    rw [List.all_eq_true]
    intro c hc
    obtain ⟨k, hk, e⟩ := List.getElem_of_mem hc
    have := h k (by simpa using hk)
    unfold bAt at this
    rw [List.getElem?_eq_getElem hk, Option.getD_some, e] at this
    unfold isMV
    rcases this with e | e <;> rw [e] <;> rfl
theorem swp2 (c : UInt8) : swp (swp c) = c := by
  unfold swp
  by_cases h1 : c = 77
  · rw [if_pos h1, if_neg (by decide), if_pos rfl, h1]
  · rw [if_neg h1]
    by_cases h2 : c = 86
    · rw [if_pos h2, if_pos rfl, h2]
    · rw [if_neg h2, if_neg h1, if_neg h2]
theorem swapS2 (s : ByteArray) : swapS (swapS s) = s := by
  apply ByteArray.ext
  apply Array.toList_inj.1
  simp only [swapS, List.map_map]
  rw [show (swp ∘ swp) = id from funext swp2, List.map_id]
theorem revS2 (s : ByteArray) : revS (revS s) = s := by
  apply ByteArray.ext
  simp [revS]
theorem swap_MV {s : ByteArray} (h : s.data.toList.all isMV = true) : (swapS s).data.toList.all isMV = true := by
  rw [allMV_iff] at *
  intro k hk
  rw [swapS_size] at hk
  rw [bAt_swap hk]
  rcases h k hk with e | e <;> rw [e]
  · right; rfl
  · left; rfl
theorem stripB_swap {xs : List Int} {s : ByteArray} (h : stripB xs s = true) : stripB xs (swapS s) = true := by
  obtain ⟨h1, h2, h3⟩ := stripB_len h
  exact stripB_mk h1 (by rw [swapS_size]; exact h2) (swap_MV h3)
theorem ringB_swap {xs : List Int} {s : ByteArray} (h : ringB xs s = true) : ringB xs (swapS s) = true := by
  obtain ⟨h1, he, h2, h3, h4⟩ := ringB_len h
  exact ringB_mk h1 he (by rw [swapS_size]; exact h2) (swap_MV h3) h4
theorem lay_over {xs : List Int} {s : ByteArray} {ys : List Int} (h : strLB xs s ys = true) : strLB xs (swapS s) ys.reverse = true := by
  obtain ⟨h1, h2⟩ := strLB_iff.1 h
  obtain ⟨_, hs, hv⟩ := stripB_len h1
  exact strLB_iff.2 ⟨stripB_swap h1, over_strip hs hv h2⟩
theorem layR_over {xs : List Int} {s : ByteArray} {ys : List Int} (h : rngLB xs s ys = true) : rngLB xs (swapS s) ys.reverse = true := by
  obtain ⟨h1, h2⟩ := rngLB_iff.1 h
  obtain ⟨_, he, hs, hv, _⟩ := ringB_len h1
  exact rngLB_iff.2 ⟨ringB_swap h1, over_ring he hs hv h2⟩
theorem lengthsB_take {xs : List Int} (h : lengthsB xs = true) {k : Nat} (h1 : 1 ≤ k) (hk : k ≤ xs.length) : lengthsB (xs.take k) = true := by
  obtain ⟨_, h6⟩ := lengthsB_len h
  exact (lengthsB_iff _).2 ⟨by rw [List.length_take]; omega, by rw [List.length_take]; omega, allIn_take (lengthsB_in h) k⟩
theorem MV_take {s : ByteArray} (h : s.data.toList.all isMV = true) {k : Nat} (hk : k ≤ s.size) : (s.extract 0 k).data.toList.all isMV = true := by
  rw [allMV_iff] at *
  intro j hj
  rw [ByteArray.size_extract] at hj
  rw [bAt_take (by omega) hk]
  exact h j (by omega)
theorem MV_drop {s : ByteArray} (h : s.data.toList.all isMV = true) : (s.extract 1 s.size).data.toList.all isMV = true := by
  rw [allMV_iff] at *
  intro j hj
  rw [ByteArray.size_extract] at hj
  rw [bAt_drop (by omega)]
  exact h (j + 1) (by omega)
theorem lay_first {xs : List Int} {s : ByteArray} {ys : List Int} {k : Nat} (h1 : 1 ≤ k) (hk : k ≤ xs.length) (h : strLB xs s ys = true) : strLB (xs.take k) (s.extract 0 (k - 1)) (lowL k ys) = true := by
  obtain ⟨q1, q2⟩ := strLB_iff.1 h
  obtain ⟨hv1, hs, hv⟩ := stripB_len q1
  refine strLB_iff.2 ⟨stripB_mk (lengthsB_take hv1 h1 hk) ?_ (MV_take hv (by omega)), first_parts h1 hk hs q2⟩
  rw [ByteArray.size_extract, List.length_take]
  omega
theorem lay_two {xs : List Int} {s : ByteArray} {ys : List Int} (hx : ∀ x ∈ xs, 2 * x ≤ 1000) (h : strLB xs s ys = true) : strLB (twoL xs) s ys = true := by
  obtain ⟨q1, q2⟩ := strLB_iff.1 h
  obtain ⟨hv1, hs, hv⟩ := stripB_len q1
  have hl : (twoL xs).length = xs.length := by simp [twoL]
  obtain ⟨p1, p2⟩ := lengthsB_len hv1
  refine strLB_iff.2 ⟨stripB_mk ((lengthsB_iff _).2 ⟨by omega, by omega, fun y hy => ?_⟩) (by omega) hv, twice_right q2⟩
  unfold twoL at hy
  obtain ⟨x, hxm, rfl⟩ := List.mem_map.1 hy
  have := lengthsB_in hv1 x hxm
  have := hx x hxm
  omega
theorem lay_short {xs : List Int} {s : ByteArray} {ys : List Int} {v : Int} (hv1 : 1 ≤ v) (hv2 : v ≤ at0 xs (xs.length - 1)) (h : strLB xs s ys = true) : strLB (shortL xs v) s ys = true := by
  obtain ⟨q1, q2⟩ := strLB_iff.1 h
  obtain ⟨hl1, hs, hv⟩ := stripB_len q1
  obtain ⟨p1, p2⟩ := lengthsB_len hl1
  have hl : (shortL xs v).length = xs.length := by unfold shortL; rw [List.length_append, List.length_take, List.length_singleton]; omega
  refine strLB_iff.2 ⟨stripB_mk ((lengthsB_iff _).2 ⟨by omega, by omega, ?_⟩) (by omega) hv, short_right p1 hv1 hv2 q2⟩
  have := allIn_get (lengthsB_in hl1) (xs.length - 1) (by omega)
  unfold at0 at hv2
  exact allIn_snoc (allIn_take (lengthsB_in hl1) _) hv1 (by omega)
theorem lay_open {xs : List Int} {s : ByteArray} {ys : List Int} (h : rngLB xs s ys = true) : strLB xs (s.extract 1 s.size) ys = true := by
  obtain ⟨q1, q2⟩ := rngLB_iff.1 h
  obtain ⟨hl1, he, hs, hv, _⟩ := ringB_len q1
  obtain ⟨p1, p2⟩ := lengthsB_len hl1
  exact strLB_iff.2 ⟨stripB_mk hl1 (by rw [ByteArray.size_extract]; omega) (MV_drop hv), ring_open he hs q2⟩
/-- With the first fold exchanged, the same layers are not right. -/
theorem lay_flip {xs : List Int} {s t : ByteArray} {ys : List Int} (hn : 2 ≤ xs.length) (ht : bAt t 0 = swp (bAt s 0)) (h : strLB xs s ys = true) : strLB xs t ys = false := by
  rw [Bool.eq_false_iff]
  intro h'
  obtain ⟨q1, q2⟩ := strLB_iff.1 h
  obtain ⟨q3, q4⟩ := strLB_iff.1 h'
  obtain ⟨hl1, hs, hv⟩ := stripB_len q1
  obtain ⟨_, _, r2⟩ := rightB_iff.1 q2
  obtain ⟨_, _, r4⟩ := rightB_iff.1 q4
  have a2 := ((rightL_iff.1 r2) 0 (by rw [stripFs_length]; omega)).1
  have a4 := ((rightL_iff.1 r4) 0 (by rw [stripFs_length]; omega)).1
  rw [stripFs_at (by omega)] at a2 a4
  unfold okF at a2 a4
  rw [Bool.and_eq_true, beq_iff_eq] at a2 a4
  have e := a2.1.symm.trans a4.1
  unfold stripFd at e
  simp only at e
  rw [ht] at e
  unfold hiB at e
  rcases isMV_at hv (show 0 < s.size by omega) with c | c <;> rw [c] at e <;> revert e <;> decide

/-! Counts. -/
def cntS (xs : List Int) (s : ByteArray) : Nat := ((perms xs.length).filter (rightB xs (stripFs xs s))).length
def cntR (xs : List Int) (s : ByteArray) : Nat := ((perms xs.length).filter (rightB xs (ringFs xs s))).length
theorem cntS_swap_le {xs : List Int} {s : ByteArray} (hs : s.size + 1 = xs.length) (hv : s.data.toList.all isMV = true) : cntS xs s ≤ cntS xs (swapS s) := by
  unfold cntS
  exact count_le (perms_nodup _) List.reverse (fun x hx hp => ⟨mem_perms.2 ⟨by rw [List.length_reverse]; exact (mem_perms.1 hx).1, by rw [rev_permB]; exact (mem_perms.1 hx).2⟩, over_strip hs hv hp⟩) (fun x _ y _ _ _ e => List.reverse_inj.1 e)
theorem cntS_swap {xs : List Int} {s : ByteArray} (hs : s.size + 1 = xs.length) (hv : s.data.toList.all isMV = true) : cntS xs (swapS s) = cntS xs s := by
  refine Nat.le_antisymm ?_ (cntS_swap_le hs hv)
  have := cntS_swap_le (xs := xs) (s := swapS s) (by rw [swapS_size]; exact hs) (swap_MV hv)
  rwa [swapS2] at this
theorem cntR_swap_le {xs : List Int} {s : ByteArray} (he : xs.length % 2 = 0) (hs : s.size = xs.length) (hv : s.data.toList.all isMV = true) : cntR xs s ≤ cntR xs (swapS s) := by
  unfold cntR
  exact count_le (perms_nodup _) List.reverse (fun x hx hp => ⟨mem_perms.2 ⟨by rw [List.length_reverse]; exact (mem_perms.1 hx).1, by rw [rev_permB]; exact (mem_perms.1 hx).2⟩, over_ring he hs hv hp⟩) (fun x _ y _ _ _ e => List.reverse_inj.1 e)
theorem cntR_swap {xs : List Int} {s : ByteArray} (he : xs.length % 2 = 0) (hs : s.size = xs.length) (hv : s.data.toList.all isMV = true) : cntR xs (swapS s) = cntR xs s := by
  refine Nat.le_antisymm ?_ (cntR_swap_le he hs hv)
  have := cntR_swap_le (xs := xs) (s := swapS s) he (by rw [swapS_size]; exact hs) (swap_MV hv)
  rwa [swapS2] at this
theorem cntS_back_le {xs : List Int} {s : ByteArray} (hs : s.size + 1 = xs.length) : cntS xs s ≤ cntS xs.reverse (revS s) := by
  unfold cntS
  rw [List.length_reverse]
  exact count_le (perms_nodup _) otherL (fun x hx hp => ⟨mem_perms.2 ⟨by rw [otherL_length]; exact (mem_perms.1 hx).1, otherL_permB (mem_perms.1 hx).2⟩, other_end hs hp⟩) (fun x hx y hy _ _ e => otherL_inj ((mem_perms.1 hx).1.trans (mem_perms.1 hy).1.symm) e)
theorem cntS_back {xs : List Int} {s : ByteArray} (hs : s.size + 1 = xs.length) : cntS xs.reverse (revS s) = cntS xs s := by
  refine Nat.le_antisymm ?_ (cntS_back_le hs)
  have := cntS_back_le (xs := xs.reverse) (s := revS s) (by rw [revS_size, List.length_reverse]; exact hs)
  rwa [List.reverse_reverse, revS2] at this
theorem cnt_open {xs : List Int} {s : ByteArray} (he : xs.length % 2 = 0) (hs : s.size = xs.length) : cntR xs s ≤ cntS xs (s.extract 1 s.size) := by
  unfold cntR cntS
  exact count_le (perms_nodup _) id (fun x hx hp => ⟨hx, ring_open he hs hp⟩) (fun x _ y _ _ _ e => e)
theorem revMV {s : ByteArray} (h : s.data.toList.all isMV = true) : (revS s).data.toList.all isMV = true := by
  rw [allMV_iff] at *
  intro k hk
  rw [revS_size] at hk
  rw [bAt_rev hk]
  exact h _ (by omega)
theorem stripB_back {xs : List Int} {s : ByteArray} (h : stripB xs s = true) : stripB xs.reverse (revS s) = true := by
  obtain ⟨h1, h2, h3⟩ := stripB_len h
  obtain ⟨p1, p2⟩ := lengthsB_len h1
  exact stripB_mk ((lengthsB_iff _).2 ⟨by rw [List.length_reverse]; omega, by rw [List.length_reverse]; omega, fun x hx => lengthsB_in h1 x (List.mem_reverse.1 hx)⟩) (by rw [revS_size, List.length_reverse]; exact h2) (revMV h3)

/-! The ring of two parts of one length. -/
theorem cnt_two {l : Int} {s : ByteArray} (hv : s.data.toList.all isMV = true) (hs : s.size = 2) : cntR [l, l] s = if bAt s 0 = bAt s 1 then 1 else 0 := by
  have hp : perms 2 = [[0, 1], [1, 0]] := by decide
  have e0 : levelsL [0, 1] = [0, 1] := by decide
  have e1 : levelsL [1, 0] = [1, 0] := by decide
  have p0 : permB [0, 1] = true := by decide
  have p1 : permB [1, 0] = true := by decide
  have f : ringFs [l, l] s = [⟨1, 0, 0, hiB (bAt s 0) 1⟩, ⟨0, 1, l, hiB (bAt s 1) 0⟩] := by
    unfold ringFs ringFd
    simp [List.range_succ, alt]
  have key : ∀ ys : List Int, ys.length = 2 → permB ys = true → ∀ L, levelsL ys = L → (L = [0, 1] ∨ L = [1, 0]) → rightB [l, l] (ringFs [l, l] s) ys = ((decide (at0 L 1 < at0 L 0) == hiB (bAt s 0) 1) && (decide (at0 L 0 < at0 L 1) == hiB (bAt s 1) 0)) := by
    intro ys h2 hq L hL hc
    rw [rightB_yes h2 hq, hL, f, Bool.eq_iff_iff, rightL_iff, Bool.and_eq_true]
    have nob : ∀ i, i < 2 → ∀ a b : Nat, a < 2 → b < 2 → betw (at0 L i) (at0 L a) (at0 L b) = false := by
      intro i hi a b ha hb
      unfold betw
      rw [decide_eq_false_iff_not]
      have h01 : ∀ j, j < 2 → at0 L j = 0 ∨ at0 L j = 1 := fun j hj => by
        rcases hc with e | e <;> subst e <;> (match j, hj with | 0, _ => simp [at0] | 1, _ => simp [at0])
      rcases h01 i hi with e | e <;> rcases h01 a ha with e' | e' <;> rcases h01 b hb with e'' | e'' <;> rw [e, e', e''] <;> omega
    constructor
    · intro h
      have a0 := (h 0 (by simp)).1
      have a1 := (h 1 (by simp)).1
      unfold okF at a0 a1
      rw [Bool.and_eq_true] at a0 a1
      exact ⟨a0.1, a1.1⟩
    · rintro ⟨h1, h2⟩ k hk
      refine ⟨okF_all (j := 2) (fun i hi => ?_) (by simp) ?_, fun m hm hkm => ?_⟩
      · rw [Bool.and_eq_false_iff]
        left
        match k, hk with
        | 0, _ => exact nob i hi 1 0 (by omega) (by omega)
        | 1, _ => exact nob i hi 0 1 (by omega) (by omega)
      · match k, hk with
        | 0, _ => exact beq_iff_eq.1 h1
        | 1, _ => exact beq_iff_eq.1 h2
      · have hm2 : m < 2 := hm
        obtain rfl : k = 0 := by omega
        obtain rfl : m = 1 := by omega
        unfold crossF
        rw [Bool.and_eq_false_iff]
        right
        show (betw (at0 L 0) (at0 L 1) (at0 L 0) != betw (at0 L 1) (at0 L 1) (at0 L 0)) = false
        rw [nob 0 (by omega) 1 0 (by omega) (by omega), nob 1 (by omega) 1 0 (by omega) (by omega)]
        rfl
  unfold cntR
  rw [show ([l, l] : List Int).length = 2 from rfl, hp]
  have k0 := key [0, 1] rfl p0 _ e0 (.inl rfl)
  have k1 := key [1, 0] rfl p1 _ e1 (.inr rfl)
  have c0 := isMV_at hv (show 0 < s.size by omega)
  have c1 := isMV_at hv (show 1 < s.size by omega)
  simp only [List.filter_cons, List.filter_nil, k0, k1]
  rcases c0 with c0 | c0 <;> rcases c1 with c1 | c1 <;> rw [c0, c1] <;> decide

/-! A ring of at least four parts that begins two parts later. -/
def turn2 (xs : List Int) : List Int := xs.drop 2 ++ xs.take 2
def turn2S (s : ByteArray) : ByteArray := s.extract 2 s.size ++ s.extract 0 2
theorem turn2_length (xs : List Int) : (turn2 xs).length = xs.length := by unfold turn2; rw [List.length_append, List.length_drop, List.length_take]; omega
theorem turn2S_size {s : ByteArray} (h : 2 ≤ s.size) : (turn2S s).size = s.size := by unfold turn2S; rw [ByteArray.size_append, ByteArray.size_extract, ByteArray.size_extract]; omega
theorem turn2_get {xs : List Int} {j : Nat} (hj : j < xs.length) (h2 : 2 ≤ xs.length) : (turn2 xs)[j]?.getD 0 = xs[(j + 2) % xs.length]?.getD 0 := by
  unfold turn2
  by_cases h : j + 2 < xs.length
  · rw [List.getElem?_append_left (by rw [List.length_drop]; omega), List.getElem?_drop, Nat.mod_eq_of_lt h, Nat.add_comm]
  · rw [List.getElem?_append_right (by rw [List.length_drop]; omega), List.length_drop, List.getElem?_take_of_lt (by omega)]
    congr 2
    rw [show j + 2 = (j + 2 - xs.length) + xs.length by omega, Nat.add_mod_right, Nat.mod_eq_of_lt (by omega)]
    omega
theorem turn2S_get {s : ByteArray} {j : Nat} (hj : j < s.size) (h2 : 2 ≤ s.size) : bAt (turn2S s) j = bAt s ((j + 2) % s.size) := by
  have hm : (j + 2) % s.size < s.size := Nat.mod_lt _ (by omega)
  rw [bAt_get s _ hm, bAt_get _ j (by rw [turn2S_size h2]; exact hj)]
  unfold turn2S
  by_cases h : j + 2 < s.size
  · rw [ByteArray.getElem_append_left (by rw [ByteArray.size_extract]; omega), ByteArray.getElem_extract]
    congr 1
    rw [Nat.mod_eq_of_lt h]; omega
  · rw [ByteArray.getElem_append_right (by rw [ByteArray.size_extract]; omega), ByteArray.getElem_extract]
    congr 1
    rw [ByteArray.size_extract, show j + 2 = (j + 2 - s.size) + s.size by omega, Nat.add_mod_right, Nat.mod_eq_of_lt (by omega)]
    omega
/-- The place of part j of the turned ring. -/
theorem alt_turn2 {xs : List Int} (h4 : 4 ≤ xs.length) (he : xs.length % 2 = 0) (h0 : alt xs = 0) : ∀ j, j ≤ xs.length → alt ((turn2 xs).take j) = alt (xs.take (if j + 2 ≤ xs.length then j + 2 else j + 2 - xs.length)) - alt (xs.take 2) := by
  intro j
  induction j with
  | zero => intro _; rw [if_pos (by omega), List.take_zero]; show (0 : Int) = _; rw [Nat.zero_add]; omega
  | succ j ih =>
    intro hj
    rw [alt_take _ j (by rw [turn2_length]; omega), ih (by omega), turn2_get (by omega) (by omega)]
    by_cases h : j + 1 + 2 ≤ xs.length
    · rw [if_pos (by omega), if_pos h, show j + 1 + 2 = j + 2 + 1 by omega, alt_take xs (j + 2) (by omega), show (j + 2) % xs.length = j + 2 from Nat.mod_eq_of_lt (by omega)]
      by_cases h2 : j % 2 = 0
      · rw [if_pos h2, if_pos (by omega)]; omega
      · rw [if_neg h2, if_neg (by omega)]; omega
    · rw [if_neg h, show j + 1 + 2 - xs.length = (j + 2 - xs.length) + 1 by omega, alt_take xs (j + 2 - xs.length) (by omega)]
      have em : (j + 2) % xs.length = j + 2 - xs.length := by rw [show j + 2 = (j + 2 - xs.length) + xs.length by omega, Nat.add_mod_right, Nat.mod_eq_of_lt (by omega)]; omega
      rw [em]
      have e0 : alt (xs.take (if j + 2 ≤ xs.length then j + 2 else j + 2 - xs.length)) = alt (xs.take (j + 2 - xs.length)) := by
        by_cases h3 : j + 2 ≤ xs.length
        · rw [if_pos h3, show j + 2 = xs.length by omega, Nat.sub_self, List.take_length, h0]; rfl
        · rw [if_neg h3]
      rw [e0]
      by_cases h2 : j % 2 = 0
      · rw [if_pos h2, if_pos (by omega)]; omega
      · rw [if_neg h2, if_neg (by omega)]; omega
theorem alt_turn2' {xs : List Int} (h4 : 4 ≤ xs.length) (he : xs.length % 2 = 0) (h0 : alt xs = 0) {j : Nat} (hj : j < xs.length) : alt ((turn2 xs).take j) = alt (xs.take ((j + 2) % xs.length)) - alt (xs.take 2) ∧ alt ((turn2 xs).take (j + 1)) = alt (xs.take ((j + 2) % xs.length + 1)) - alt (xs.take 2) := by
  rw [alt_turn2 h4 he h0 j (by omega), alt_turn2 h4 he h0 (j + 1) (by omega)]
  by_cases h : j + 2 < xs.length
  · rw [if_pos (by omega), if_pos (by omega), Nat.mod_eq_of_lt h]
    exact ⟨rfl, rfl⟩
  · have em : (j + 2) % xs.length = j + 2 - xs.length := by rw [show j + 2 = (j + 2 - xs.length) + xs.length by omega, Nat.add_mod_right, Nat.mod_eq_of_lt (by omega)]; omega
    rw [em, if_neg (show ¬ j + 1 + 2 ≤ xs.length by omega), show j + 1 + 2 - xs.length = j + 2 - xs.length + 1 by omega]
    refine ⟨?_, rfl⟩
    by_cases h3 : j + 2 ≤ xs.length
    · rw [if_pos h3, show j + 2 = xs.length by omega, Nat.sub_self, List.take_length, h0]; rfl
    · rw [if_neg h3]
/-- The number that a part of the old ring has in the turned one. -/
def t2 (n : Nat) (x : Int) : Int := if x < 2 then x + n - 2 else x - 2
def turn2L (ys : List Int) : List Int := ys.map (t2 ys.length)
theorem t2_back {n i : Nat} (hi : i < n) (h2 : 2 ≤ n) : t2 n (((i + 2) % n : Nat) : Int) = i := by
  unfold t2
  by_cases h : i + 2 < n
  · rw [Nat.mod_eq_of_lt h, if_neg (by omega)]; omega
  · rw [show i + 2 = (i + 2 - n) + n by omega, Nat.add_mod_right, Nat.mod_eq_of_lt (by omega), if_pos (by omega)]; omega
theorem t2_inj {n : Nat} {x y : Int} (hx : 0 ≤ x ∧ x < n) (hy : 0 ≤ y ∧ y < n) (h : t2 n x = t2 n y) : x = y := by
  unfold t2 at h
  split at h <;> split at h <;> omega
theorem turn2L_length (ys : List Int) : (turn2L ys).length = ys.length := by simp [turn2L]
theorem idxOf_map_on {f : Int → Int} (x : Int) : ∀ l : List Int, (∀ y ∈ l, f y = f x → y = x) → (l.map f).idxOf (f x) = l.idxOf x := by
  intro l
  induction l with
  | nil => intro _; rfl
  | cons y r ih =>
    intro h
    rw [List.map_cons]
    by_cases e : y = x
    · subst e; rw [List.idxOf_cons_self, List.idxOf_cons_self]
    · rw [idxOf_ne _ (fun q => e (h y (by simp) q)), idxOf_ne _ e, ih (fun z hz => h z (by simp [hz]))]
theorem turn2L_lvl {ys : List Int} (hp : permB ys = true) (h2 : 2 ≤ ys.length) {i : Nat} (hi : i < ys.length) : lvl (turn2L ys) i = lvl ys ((i + 2) % ys.length) := by
  unfold lvl turn2L
  have hm : (i + 2) % ys.length < ys.length := Nat.mod_lt _ (by omega)
  rw [← t2_back hi h2]
  rw [idxOf_map_on _ _ (fun y hy e => t2_inj (permB_range hp y hy) (by omega) e)]
theorem turn2L_permB {ys : List Int} (hp : permB ys = true) (h2 : 2 ≤ ys.length) : permB (turn2L ys) = true := by
  unfold permB
  rw [permN_iff, turn2L_length]
  intro i hi
  have hm : (i + 2) % ys.length < ys.length := Nat.mod_lt _ (by omega)
  rw [← t2_back hi h2]
  exact List.mem_map.2 ⟨_, permB_mem hp hm, rfl⟩
theorem turn2L_inj {xs ys : List Int} (hp : permB xs = true) (hq : permB ys = true) (hl : xs.length = ys.length) (h : turn2L xs = turn2L ys) : xs = ys := by
  unfold turn2L at h
  rw [hl] at h
  apply List.ext_getElem hl
  intro i h1 h2
  have e : (xs.map (t2 ys.length))[i]'(by simpa using h1) = (ys.map (t2 ys.length))[i]'(by simpa using h2) := by
    simp only [h]
  rw [List.getElem_map, List.getElem_map] at e
  have r1 := permB_range hp _ (List.getElem_mem h1)
  have r2 := permB_range hq _ (List.getElem_mem h2)
  rw [hl] at r1
  exact t2_inj r1 r2 e
theorem mod2_even {n k : Nat} (hn : n % 2 = 0) (_h0 : 0 < n) : k % n % 2 = k % 2 := Nat.mod_mod_of_dvd k (Nat.dvd_of_mod_eq_zero hn)
theorem ring_turn {xs : List Int} {s : ByteArray} {ys : List Int} (h4 : 4 ≤ xs.length) (he : xs.length % 2 = 0) (h0 : alt xs = 0) (hs : s.size = xs.length) (h : rightB xs (ringFs xs s) ys = true) : rightB (turn2 xs) (ringFs (turn2 xs) (turn2S s)) (turn2L ys) = true := by
  obtain ⟨hly, hp, _⟩ := rightB_iff.1 h
  obtain ⟨n, hn⟩ : ∃ n, xs.length = n := ⟨_, rfl⟩
  have hlt : (turn2 xs).length = n := by rw [turn2_length, hn]
  have hm : ∀ i, (i + 2) % n < n := fun i => Nat.mod_lt _ (by omega)
  have ra : ∀ k, k < n → (k + n - 1) % n = if k = 0 then n - 1 else k - 1 := fun k hk => ring_ahead hk
  have me : ∀ i, i < n → (i + 2) % n = if i + 2 < n then i + 2 else i + 2 - n := fun i hi => by
    by_cases h : i + 2 < n
    · rw [if_pos h, Nat.mod_eq_of_lt h]
    · rw [if_neg h, show i + 2 = (i + 2 - n) + n by omega, Nat.add_mod_right, Nat.mod_eq_of_lt (by omega)]
      omega
  have sah : ∀ k, k < n → ((k + n - 1) % n + 2) % n = ((k + 2) % n + n - 1) % n := fun k hk => by
    have q1 := ra k hk
    have q2 := ra _ (hm k)
    have q3 := me k hk
    have q4 := me ((k + n - 1) % n) (Nat.mod_lt _ (by omega))
    rw [q4, q2, q1, q3]
    repeat' split
    all_goals omega
  refine rightB_carry (rev := false) (swp := false) (s := fun i => (i + 2) % n) (t := fun k => (k + 2) % n) h (ringFs_apart s he) (parP_ring s he) (by rw [turn2L_length, hly, hn, hlt]) (turn2L_permB hp (by omega)) ?_
  have hF : ∀ j, j < (ringFs (turn2 xs) (turn2S s)).length → j < n := fun j hj => by rw [ringFs_length, hlt] at hj; exact hj
  have ha := fun j (hj : j < n) => alt_turn2' h4 he h0 (j := j) (by omega)
  rw [hn] at ha
  have e : ∀ j, j < n → fdAt (ringFs (turn2 xs) (turn2S s)) j = ⟨(j + n - 1) % n, j, alt (xs.take ((j + 2) % n)) - alt (xs.take 2), hiB (bAt s ((j + 2) % n)) ((j + n - 1) % n)⟩ := fun j hj => by
    rw [ringFs_at (by omega)]
    unfold ringFd
    rw [hlt, (ha j hj).1, turn2S_get (by omega) (by omega), hs, hn]
  have e' : ∀ j, j < n → fdAt (ringFs xs s) ((j + 2) % n) = ⟨((j + 2) % n + n - 1) % n, (j + 2) % n, alt (xs.take ((j + 2) % n)), hiB (bAt s ((j + 2) % n)) (((j + 2) % n + n - 1) % n)⟩ := fun j hj => by
    rw [ringFs_at (by rw [hn]; exact hm j)]
    unfold ringFd
    rw [hn]
  have ne : n % 2 = 0 := by omega
  have par : ∀ k, k < n → ((k + 2) % n + n - 1) % n % 2 = (k + n - 1) % n % 2 := fun k hk => by
    rw [← sah k hk, mod2_even ne (by omega), mod2_even ne (by omega)]
    have := mod2_even (n := n) (k := k + n - 1) ne (by omega)
    omega
  constructor
  · intro i hi; rw [hn]; exact hm i
  · intro j hj; rw [ringFs_length, hn]; exact hm j
  · intro j m hj hm' hne
    have hj' := hF j hj
    have hm'' := hF m hm'
    show (j + 2) % n ≠ (m + 2) % n
    rw [me j hj', me m hm'']
    split <;> split <;> omega
  · intro i j hi hj
    rw [hlt] at hi hj
    have hl' := (turn2L_length ys).trans (hly.trans hn)
    unfold sameO
    rw [if_neg (by decide), lev_at (hly.trans hn) (hm i), lev_at (hly.trans hn) (hm j), lev_at hl' hi, lev_at hl' hj, turn2L_lvl hp (by omega) (by omega), turn2L_lvl hp (by omega) (by omega), hly, hn]
  · intro j hj
    have hj' := hF j hj
    have e2 := e' j hj'
    rw [e j hj', hlt, if_neg (by decide)]
    show _ ∧ ((j + n - 1) % n + 2) % n = (fdAt (ringFs xs s) ((j + 2) % n)).ah ∧ (j + 2) % n = (fdAt (ringFs xs s) ((j + 2) % n)).be
    rw [e2]
    exact ⟨⟨Nat.mod_lt _ (by omega), hj'⟩, sah j hj', rfl⟩
  · intro j hj
    have hj' := hF j hj
    have e2 := e' j hj'
    rw [e j hj']
    show _ = ((fdAt (ringFs xs s) ((j + 2) % n)).hi != _)
    rw [e2]
    show hiB _ _ = (hiB _ _ != _)
    unfold hiB
    rw [par j hj']
    simp
  · intro j i hj hi hb
    rw [hlt] at hi
    have hj' := hF j hj
    have e2 := e' j hj'
    rw [e j hj'] at hb
    show betw (fdAt (ringFs xs s) ((j + 2) % n)).pl (alt (xs.take ((i + 2) % n))) (alt (xs.take ((i + 2) % n + 1))) = true
    rw [e2]
    simp only at hb ⊢
    rw [(ha i hi).1, (ha i hi).2] at hb
    unfold betw at *
    rw [decide_eq_true_eq] at *
    omega
  · intro j m hj hm' hb
    have hj' := hF j hj
    have hm'' := hF m hm'
    have e2 := e' j hj'
    have e3 := e' m hm''
    rw [e j hj', e m hm''] at hb
    show (fdAt (ringFs xs s) ((j + 2) % n)).pl = (fdAt (ringFs xs s) ((m + 2) % n)).pl
    rw [e2, e3]
    simp only at hb ⊢
    omega
  · intro j m hj hm' hb
    have hj' := hF j hj
    have hm'' := hF m hm'
    have e2 := e' j hj'
    have e3 := e' m hm''
    rw [e j hj', e m hm''] at hb
    show (fdAt (ringFs xs s) ((j + 2) % n)).ah % 2 = (fdAt (ringFs xs s) ((m + 2) % n)).ah % 2
    rw [e2, e3]
    simp only at hb ⊢
    rw [par j hj', par m hm'']
    exact hb
theorem ringB_turn {xs : List Int} {s : ByteArray} (h4 : 4 ≤ xs.length) (h : ringB xs s = true) : ringB (turn2 xs) (turn2S s) = true := by
  obtain ⟨h1, he, h2, h3, h0⟩ := ringB_len h
  have hl := turn2_length xs
  obtain ⟨p1, p2⟩ := lengthsB_len h1
  refine ringB_mk ((lengthsB_iff _).2 ⟨by omega, by omega, fun x hx => lengthsB_in h1 x ?_⟩) (by omega) (by rw [turn2S_size (by omega)]; omega) ?_ ?_
  · unfold turn2 at hx
    rcases List.mem_append.1 hx with hx | hx
    · exact List.mem_of_mem_drop hx
    · exact List.mem_of_mem_take hx
  · rw [allMV_iff] at *
    intro k hk
    rw [turn2S_size (by omega)] at hk
    rw [turn2S_get hk (by omega)]
    exact h3 _ (Nat.mod_lt _ (by omega))
  · have := (alt_turn2' h4 he h0 (j := xs.length - 1) (by omega)).2
    rw [show xs.length - 1 + 1 = (turn2 xs).length by omega, List.take_length, show xs.length - 1 + 2 = 1 + xs.length by omega, Nat.add_mod_right, Nat.mod_eq_of_lt (by omega)] at this
    exact this.trans (Int.sub_self (alt (xs.take 2)))
theorem cntR_turn_le {xs : List Int} {s : ByteArray} (h4 : 4 ≤ xs.length) (h : ringB xs s = true) : cntR xs s ≤ cntR (turn2 xs) (turn2S s) := by
  obtain ⟨h1, he, h2, h3, h0⟩ := ringB_len h
  unfold cntR
  rw [turn2_length]
  exact count_le (perms_nodup _) turn2L (fun x hx hp => ⟨mem_perms.2 ⟨by rw [turn2L_length]; exact (mem_perms.1 hx).1, turn2L_permB (mem_perms.1 hx).2 (by rw [(mem_perms.1 hx).1]; omega)⟩, ring_turn h4 he h0 h2 hp⟩)
    (fun x hx y hy _ _ e => turn2L_inj (mem_perms.1 hx).2 (mem_perms.1 hy).2 ((mem_perms.1 hx).1.trans (mem_perms.1 hy).1.symm) e)
/-- Turned often enough, a ring is itself again. -/
theorem turn2_iter {xs : List Int} (h : xs.length = 4 ∨ xs.length = 6) : (xs.length = 4 → turn2 (turn2 xs) = xs) ∧ (xs.length = 6 → turn2 (turn2 (turn2 xs)) = xs) := by
  constructor
  · intro h
    match xs, h with
    | [a, b, c, d], _ => rfl
  · intro h
    match xs, h with
    | [a, b, c, d, e, f], _ => rfl
theorem bAt_ext {s t : ByteArray} (hs : s.size = t.size) (h : ∀ k, k < s.size → bAt s k = bAt t k) : s = t := by
  apply ByteArray.ext
  apply Array.ext hs
  intro i h1 h2
  have := h i h1
  rw [bAt_get s i h1, bAt_get t i h2] at this
  exact this
theorem turn2S_iter {s : ByteArray} (h : s.size = 4 ∨ s.size = 6) : (s.size = 4 → turn2S (turn2S s) = s) ∧ (s.size = 6 → turn2S (turn2S (turn2S s)) = s) := by
  have z1 : (turn2S s).size = s.size := turn2S_size (by omega)
  have z2 : (turn2S (turn2S s)).size = s.size := by rw [turn2S_size (by omega), z1]
  have z3 : (turn2S (turn2S (turn2S s))).size = s.size := by rw [turn2S_size (by omega), z2]
  constructor
  · intro h4
    refine bAt_ext z2 fun k hk => ?_
    rw [z2] at hk
    have e : ((k + 2) % s.size + 2) % s.size = k := by rw [h4] at hk ⊢; omega
    rw [turn2S_get (by omega) (by omega), z1, turn2S_get (Nat.mod_lt _ (by omega)) (by omega), e]
  · intro h6
    refine bAt_ext z3 fun k hk => ?_
    rw [z3] at hk
    have e : (((k + 2) % s.size + 2) % s.size + 2) % s.size = k := by rw [h6] at hk ⊢; omega
    rw [turn2S_get (by omega) (by omega), z2, turn2S_get (by rw [z1]; exact Nat.mod_lt _ (by omega)) (by omega), z1, turn2S_get (Nat.mod_lt _ (by omega)) (by omega), e]
theorem cntR_turn {xs : List Int} {s : ByteArray} (h4 : 4 ≤ xs.length) (h : ringB xs s = true) : cntR (turn2 xs) (turn2S s) = cntR xs s := by
  obtain ⟨h1, he, h2, h3, h0⟩ := ringB_len h
  obtain ⟨p1, p2⟩ := lengthsB_len h1
  have hc : xs.length = 4 ∨ xs.length = 6 := by omega
  have z1 : (turn2 xs).length = xs.length := turn2_length xs
  have r1 := ringB_turn h4 h
  have a1 := cntR_turn_le h4 h
  have a2 := cntR_turn_le (by omega) r1
  have i1 := turn2_iter hc
  have i2 := turn2S_iter (s := s) (by omega)
  rcases hc with hc | hc
  · rw [i1.1 hc, i2.1 (by omega)] at a2
    omega
  · have r2 := ringB_turn (by omega) r1
    have a3 := cntR_turn_le (by rw [turn2_length, z1]; omega) r2
    rw [i1.2 hc, i2.2 (by omega)] at a3
    omega

end Go.Proofs.Yteigbpmfjiofiaa
