/-
  Plain facts on right layers: when right layers of one strip or ring give right layers of another. No program in sight.
-/
import Derived.Test.YteigbpmfjiofiaaPlainL
import Derived.Test.YteigbpmfjiofiaaPlainR
import Derived.Test.YteigbpmfjiofiaaPlainF
namespace Go.Proofs.Yteigbpmfjiofiaa
open Go.RowKit

/-- The parts of the folds are parts, and the two of a fold differ in parity. -/
def parP (n : Nat) (F : List Fd) : Prop := ∀ k, k < F.length → (fdAt F k).ah < n ∧ (fdAt F k).be < n ∧ (fdAt F k).be % 2 = ((fdAt F k).ah + 1) % 2

/-- A place's order, in the same or the opposite direction. -/
def sameO (rev : Bool) (a b a' b' : Int) : Prop := a' < b' ↔ (if rev = true then b < a else a < b)

theorem betw_comm (l a b : Int) : betw l a b = betw l b a := by
  unfold betw; rw [decide_eq_decide]; omega
theorem betw_ord {rev : Bool} {l a b l' a' b' : Int} (h1 : sameO rev l a l' a') (h2 : sameO rev a l a' l') (h3 : sameO rev l b l' b') (h4 : sameO rev b l b' l') : betw l' a' b' = betw l a b := by
  unfold betw sameO at *
  rw [decide_eq_decide]
  cases rev <;> simp only [if_true, Bool.false_eq_true, if_false] at h1 h2 h3 h4 <;> omega
theorem crossB_swp (a b c d : Int) : crossB b a d c = crossB a b c d := by
  unfold crossB
  rw [betw_comm d b a, betw_comm c b a]
  cases betw d a b <;> cases betw c a b <;> rfl
theorem crossB_flip (a b c d : Int) : crossB b a c d = crossB a b c d := by
  unfold crossB
  rw [betw_comm d b a, betw_comm c b a]

/-- What carries right layers over: the parts (s) and the folds (t) of the new one among those of the old one. -/
structure Carry (xs : List Int) (F : List Fd) (L : List Int) (xs' : List Int) (F' : List Fd) (L' : List Int) (rev swp : Bool) (s t : Nat → Nat) : Prop where
  part : ∀ i, i < xs'.length → s i < xs.length
  fold : ∀ k, k < F'.length → t k < F.length
  inj : ∀ k m, k < F'.length → m < F'.length → k ≠ m → t k ≠ t m
  lev : ∀ i j, i < xs'.length → j < xs'.length → sameO rev (at0 L (s i)) (at0 L (s j)) (at0 L' i) (at0 L' j)
  ends : ∀ k, k < F'.length → ((fdAt F' k).ah < xs'.length ∧ (fdAt F' k).be < xs'.length) ∧ (if swp = true then s (fdAt F' k).ah = (fdAt F (t k)).be ∧ s (fdAt F' k).be = (fdAt F (t k)).ah else s (fdAt F' k).ah = (fdAt F (t k)).ah ∧ s (fdAt F' k).be = (fdAt F (t k)).be)
  hi : ∀ k, k < F'.length → (fdAt F' k).hi = ((fdAt F (t k)).hi != (rev != swp))
  cov : ∀ k j, k < F'.length → j < xs'.length → betw (fdAt F' k).pl (alt (xs'.take j)) (alt (xs'.take (j + 1))) = true → betw (fdAt F (t k)).pl (alt (xs.take (s j))) (alt (xs.take (s j + 1))) = true
  pl : ∀ k m, k < F'.length → m < F'.length → (fdAt F' k).pl = (fdAt F' m).pl → (fdAt F (t k)).pl = (fdAt F (t m)).pl
  par : ∀ k m, k < F'.length → m < F'.length → (fdAt F' k).ah % 2 = (fdAt F' m).ah % 2 → (fdAt F (t k)).ah % 2 = (fdAt F (t m)).ah % 2

theorem Carry.between {xs : List Int} {F : List Fd} {L xs' : List Int} {F' : List Fd} {L' : List Int} {rev swp : Bool} {s t : Nat → Nat} (c : Carry xs F L xs' F' L' rev swp s t) {i k : Nat} (hi : i < xs'.length) (hk : k < F'.length) :
    betw (at0 L' i) (at0 L' (fdAt F' k).ah) (at0 L' (fdAt F' k).be) = betw (at0 L (s i)) (at0 L (fdAt F (t k)).ah) (at0 L (fdAt F (t k)).be) := by
  obtain ⟨⟨ha, hb⟩, he⟩ := c.ends k hk
  rw [betw_ord (c.lev _ _ hi ha) (c.lev _ _ ha hi) (c.lev _ _ hi hb) (c.lev _ _ hb hi)]
  cases swp with
  | true => rw [if_pos rfl] at he; rw [he.1, he.2, betw_comm]
  | false => rw [if_neg (by decide)] at he; rw [he.1, he.2]

theorem Carry.okF {xs : List Int} {F : List Fd} {L xs' : List Int} {F' : List Fd} {L' : List Int} {rev swp : Bool} {s t : Nat → Nat} (c : Carry xs F L xs' F' L' rev swp s t) {k : Nat} (hk : k < F'.length)
    (hne : at0 L (fdAt F (t k)).ah ≠ at0 L (fdAt F (t k)).be) (h : okF xs L (fdAt F (t k)) = true) : okF xs' L' (fdAt F' k) = true := by
  unfold Go.Proofs.Yteigbpmfjiofiaa.okF at h
  rw [Bool.and_eq_true, beq_iff_eq, decide_eq_true_eq] at h
  obtain ⟨h1, h2⟩ := h
  refine okF_all (j := xs'.length) (fun i hi => ?_) (Nat.le_refl _) ?_
  · rw [Bool.and_eq_false_iff]
    by_cases hb : betw (fdAt F' k).pl (alt (xs'.take i)) (alt (xs'.take (i + 1))) = true
    · left
      have := h2 (s i) (c.part i hi)
      rw [c.cov k i hk hi hb, Bool.and_true] at this
      rw [c.between hi hk]; exact this
    · right; exact Bool.eq_false_iff.2 hb
  · obtain ⟨⟨ha, hb⟩, he⟩ := c.ends k hk
    have hl := c.lev _ _ ha hb
    rw [c.hi k hk, ← h1]
    unfold sameO at hl
    rw [Bool.eq_iff_iff, decide_eq_true_eq, hl]
    cases rev <;> cases swp <;> simp only [if_true, Bool.false_eq_true, if_false] at he ⊢ <;> rw [he.1, he.2] <;> simp <;> omega

theorem Carry.right {xs : List Int} {F : List Fd} {L xs' : List Int} {F' : List Fd} {L' : List Int} {rev swp : Bool} {s t : Nat → Nat} (c : Carry xs F L xs' F' L' rev swp s t)
    (hne : ∀ k, k < F.length → at0 L (fdAt F k).ah ≠ at0 L (fdAt F k).be) (hok : ∀ k, k < F.length → Go.Proofs.Yteigbpmfjiofiaa.okF xs L (fdAt F k) = true)
    (hcr : ∀ k m, k < F.length → m < F.length → k ≠ m → crossF L (fdAt F k) (fdAt F m) = false) : rightL xs' F' L' = true := by
  refine rightL_iff.2 fun k hk => ⟨c.okF hk (hne _ (c.fold k hk)) (hok _ (c.fold k hk)), fun m hm hkm => ?_⟩
  by_cases hp : (fdAt F' k).pl = (fdAt F' m).pl
  · by_cases h2 : (fdAt F' k).ah % 2 = (fdAt F' m).ah % 2
    · have hc := hcr (t k) (t m) (c.fold k hk) (c.fold m hm) (c.inj k m hk hm (by omega))
      have e : crossF L' (fdAt F' k) (fdAt F' m) = crossF L (fdAt F (t k)) (fdAt F (t m)) := by
        unfold crossF
        rw [decide_eq_true hp, decide_eq_true h2, decide_eq_true (c.pl k m hk hm hp), decide_eq_true (c.par k m hk hm h2)]
        obtain ⟨⟨ma, mb⟩, he⟩ := c.ends m hm
        have b1 := c.between ma hk
        have b2 := c.between mb hk
        unfold crossB
        rw [b1, b2]
        cases swp with
        | true =>
          rw [if_pos rfl] at he; rw [he.1, he.2]
          cases betw (at0 L (fdAt F (t m)).be) (at0 L (fdAt F (t k)).ah) (at0 L (fdAt F (t k)).be) <;> cases betw (at0 L (fdAt F (t m)).ah) (at0 L (fdAt F (t k)).ah) (at0 L (fdAt F (t k)).be) <;> rfl
        | false => rw [if_neg (by decide)] at he; rw [he.1, he.2]
      rw [e]; exact hc
    · unfold crossF; rw [decide_eq_false h2]; simp
  · unfold crossF; rw [decide_eq_false hp]; simp

theorem rightB_parts {xs : List Int} {F : List Fd} {ys : List Int} (h : rightB xs F ys = true) (hap : apartF xs.length F) (hpar : parP xs.length F) :
    (∀ k, k < F.length → at0 (levelsL ys) (fdAt F k).ah ≠ at0 (levelsL ys) (fdAt F k).be) ∧ (∀ k, k < F.length → okF xs (levelsL ys) (fdAt F k) = true) ∧ (∀ k m, k < F.length → m < F.length → k ≠ m → crossF (levelsL ys) (fdAt F k) (fdAt F m) = false) := by
  obtain ⟨hl, hp, hr⟩ := rightB_iff.1 h
  have hr' := rightL_iff.1 hr
  refine ⟨fun k hk e => ?_, fun k hk => (hr' k hk).1, fun k m hk hm hkm => ?_⟩
  · obtain ⟨h1, h2, h3⟩ := hpar k hk
    rw [at0_levels (by omega), at0_levels (by omega)] at e
    have := lvl_inj hp (by omega) (by omega) e
    omega
  · rcases Nat.lt_or_gt_of_ne hkm with h1 | h1
    · exact (hr' k hk).2 m hm h1
    · rw [crossF_symm hap hp hl hk hm hkm]; exact (hr' m hm).2 k hk h1
theorem rightB_carry {xs : List Int} {F : List Fd} {ys xs' : List Int} {F' : List Fd} {ys' : List Int} {rev swp : Bool} {s t : Nat → Nat} (h : rightB xs F ys = true) (hap : apartF xs.length F) (hpar : parP xs.length F)
    (hl : ys'.length = xs'.length) (hp : permB ys' = true) (c : Carry xs F (levelsL ys) xs' F' (levelsL ys') rev swp s t) : rightB xs' F' ys' = true := by
  obtain ⟨h1, h2, h3⟩ := rightB_parts h hap hpar
  exact rightB_iff.2 ⟨hl, hp, c.right h1 h2 h3⟩

/-- Levels, by the place in the list. -/
theorem lev_at {ys : List Int} {n i : Nat} (hl : ys.length = n) (hi : i < n) : at0 (levelsL ys) i = lvl ys i := at0_levels (by omega)

theorem parP_strip (xs : List Int) (s : ByteArray) : parP xs.length (stripFs xs s) := fun k hk => by
  rw [stripFs_length] at hk
  rw [stripFs_at hk]
  exact ⟨show k < xs.length by omega, show k + 1 < xs.length by omega, rfl⟩
theorem parP_ring {xs : List Int} (s : ByteArray) (he : xs.length % 2 = 0) : parP xs.length (ringFs xs s) := fun k hk => by
  rw [ringFs_length] at hk
  rw [ringFs_at hk]
  unfold ringFd
  simp only
  rw [ring_ahead hk]
  by_cases k0 : k = 0 <;> simp only [k0, if_true, if_false] <;> omega

/-! Turned over: the layers in the opposite order, the folds exchanged. -/
theorem bAt_swap {s : ByteArray} {k : Nat} (hk : k < s.size) : bAt (swapS s) k = swp (bAt s k) := by
  unfold bAt swapS
  simp only [List.getElem?_map]
  rw [List.getElem?_eq_getElem (by simpa using hk)]
  rfl
theorem isMV_at {s : ByteArray} (h : s.data.toList.all isMV = true) {k : Nat} (hk : k < s.size) : bAt s k = 77 ∨ bAt s k = 86 := by
  have h' := List.all_eq_true.1 h (bAt s k) (by
    unfold bAt
    rw [List.getElem?_eq_getElem (by simpa using hk)]
    exact List.getElem_mem _)
  unfold isMV at h'
  simpa using h'
theorem hiB_swap {s : ByteArray} (h : s.data.toList.all isMV = true) {k : Nat} (hk : k < s.size) (a : Nat) : hiB (bAt (swapS s) k) a = !(hiB (bAt s k) a) := by
  rw [bAt_swap hk]
  unfold hiB
  rcases isMV_at h hk with e | e <;> rw [e] <;> cases decide (a % 2 = 0) <;> rfl
theorem sameO_rev {ys : List Int} {n i j : Nat} (hp : permB ys = true) (hl : ys.length = n) (hi : i < n) (hj : j < n) : sameO true (at0 (levelsL ys) i) (at0 (levelsL ys) j) (at0 (levelsL ys.reverse) i) (at0 (levelsL ys.reverse) j) := by
  have hl' : ys.reverse.length = n := by simpa using hl
  rw [lev_at hl hi, lev_at hl hj, lev_at hl' hi, lev_at hl' hj, rev_lvl hp (by omega), rev_lvl hp (by omega)]
  unfold sameO
  rw [if_pos rfl]
  omega
theorem swapS_size (s : ByteArray) : (swapS s).size = s.size := by
  rw [← swapTo_all s s.size (Nat.le_refl _)]; exact swapTo_size s s.size (Nat.le_refl _)
theorem over_strip {xs : List Int} {s : ByteArray} {ys : List Int} (hs : s.size + 1 = xs.length) (hv : s.data.toList.all isMV = true) (h : rightB xs (stripFs xs s) ys = true) : rightB xs (stripFs xs (swapS s)) ys.reverse = true := by
  obtain ⟨hl, hp, _⟩ := rightB_iff.1 h
  refine rightB_carry (rev := true) (swp := false) (s := id) (t := id) h (stripFs_apart xs s) (parP_strip xs s) (by simpa using hl) (by rw [rev_permB]; exact hp) ?_
  have hF : ∀ k, k < (stripFs xs (swapS s)).length → k < xs.length - 1 := fun k hk => by rwa [stripFs_length] at hk
  have e : ∀ k, k < xs.length - 1 → fdAt (stripFs xs (swapS s)) k = { stripFd xs s k with hi := !(stripFd xs s k).hi } := fun k hk => by
    rw [stripFs_at hk]
    unfold stripFd
    rw [hiB_swap hv (by omega)]
  constructor
  · exact fun i hi => hi
  · exact fun k hk => by rw [stripFs_length]; exact hF k hk
  · exact fun k m _ _ h => h
  · exact fun i j hi hj => sameO_rev hp hl hi hj
  · intro k hk
    have hk' := hF k hk
    rw [e k hk', show fdAt (stripFs xs s) (id k) = stripFd xs s k from stripFs_at hk']
    exact ⟨⟨show k < xs.length by omega, show k + 1 < xs.length by omega⟩, rfl, rfl⟩
  · intro k hk
    have hk' := hF k hk
    rw [e k hk', show fdAt (stripFs xs s) (id k) = stripFd xs s k from stripFs_at hk']
    simp
  · intro k j hk hj hb
    have hk' := hF k hk
    rw [e k hk'] at hb
    rw [show fdAt (stripFs xs s) (id k) = stripFd xs s k from stripFs_at hk']
    exact hb
  · intro k m hk hm hb
    have hk' := hF k hk
    have hm' := hF m hm
    rw [e k hk', e m hm'] at hb
    rw [show fdAt (stripFs xs s) (id k) = stripFd xs s k from stripFs_at hk', show fdAt (stripFs xs s) (id m) = stripFd xs s m from stripFs_at hm']
    exact hb
  · intro k m hk hm hb
    have hk' := hF k hk
    have hm' := hF m hm
    rw [e k hk', e m hm'] at hb
    rw [show fdAt (stripFs xs s) (id k) = stripFd xs s k from stripFs_at hk', show fdAt (stripFs xs s) (id m) = stripFd xs s m from stripFs_at hm']
    exact hb
theorem over_ring {xs : List Int} {s : ByteArray} {ys : List Int} (he : xs.length % 2 = 0) (hs : s.size = xs.length) (hv : s.data.toList.all isMV = true) (h : rightB xs (ringFs xs s) ys = true) : rightB xs (ringFs xs (swapS s)) ys.reverse = true := by
  obtain ⟨hl, hp, _⟩ := rightB_iff.1 h
  refine rightB_carry (rev := true) (swp := false) (s := id) (t := id) h (ringFs_apart s he) (parP_ring s he) (by simpa using hl) (by rw [rev_permB]; exact hp) ?_
  have hF : ∀ k, k < (ringFs xs (swapS s)).length → k < xs.length := fun k hk => by rwa [ringFs_length] at hk
  have e : ∀ k, k < xs.length → fdAt (ringFs xs (swapS s)) k = { ringFd xs s k with hi := !(ringFd xs s k).hi } := fun k hk => by
    rw [ringFs_at hk]
    unfold ringFd
    rw [hiB_swap hv (by omega)]
  constructor
  · exact fun i hi => hi
  · exact fun k hk => by rw [ringFs_length]; exact hF k hk
  · exact fun k m _ _ h => h
  · exact fun i j hi hj => sameO_rev hp hl hi hj
  · intro k hk
    have hk' := hF k hk
    have := parP_ring s he k (by rw [ringFs_length]; exact hk')
    rw [ringFs_at hk'] at this
    rw [e k hk', show fdAt (ringFs xs s) (id k) = ringFd xs s k from ringFs_at hk']
    exact ⟨⟨this.1, this.2.1⟩, rfl, rfl⟩
  · intro k hk
    have hk' := hF k hk
    rw [e k hk', show fdAt (ringFs xs s) (id k) = ringFd xs s k from ringFs_at hk']
    simp
  · intro k j hk hj hb
    have hk' := hF k hk
    rw [e k hk'] at hb
    rw [show fdAt (ringFs xs s) (id k) = ringFd xs s k from ringFs_at hk']
    exact hb
  · intro k m hk hm hb
    have hk' := hF k hk
    have hm' := hF m hm
    rw [e k hk', e m hm'] at hb
    rw [show fdAt (ringFs xs s) (id k) = ringFd xs s k from ringFs_at hk', show fdAt (ringFs xs s) (id m) = ringFd xs s m from ringFs_at hm']
    exact hb
  · intro k m hk hm hb
    have hk' := hF k hk
    have hm' := hF m hm
    rw [e k hk', e m hm'] at hb
    rw [show fdAt (ringFs xs s) (id k) = ringFd xs s k from ringFs_at hk', show fdAt (ringFs xs s) (id m) = ringFd xs s m from ringFs_at hm']
    exact hb

/-! A ring that is cut open is a strip. -/
theorem bAt_drop {s : ByteArray} {k : Nat} (hk : k + 1 < s.size) : bAt (s.extract 1 s.size) k = bAt s (k + 1) := by
  rw [bAt_get s (k + 1) hk, bAt_get _ k (by rw [ByteArray.size_extract]; omega), ByteArray.getElem_extract]
  congr 1
  omega
theorem ring_open {xs : List Int} {s : ByteArray} {ys : List Int} (he : xs.length % 2 = 0) (hs : s.size = xs.length) (h : rightB xs (ringFs xs s) ys = true) : rightB xs (stripFs xs (s.extract 1 s.size)) ys = true := by
  obtain ⟨hl, hp, _⟩ := rightB_iff.1 h
  refine rightB_carry (rev := false) (swp := false) (s := id) (t := (· + 1)) h (ringFs_apart s he) (parP_ring s he) hl hp ?_
  have hF : ∀ k, k < (stripFs xs (s.extract 1 s.size)).length → k + 1 < xs.length := fun k hk => by rw [stripFs_length] at hk; omega
  have e : ∀ k, k + 1 < xs.length → fdAt (stripFs xs (s.extract 1 s.size)) k = fdAt (ringFs xs s) (k + 1) := fun k hk => by
    rw [stripFs_at (by omega), ringFs_at hk]
    unfold stripFd ringFd
    rw [ring_ahead hk, if_neg (by omega), bAt_drop (by omega)]
    rfl
  constructor
  · exact fun i hi => hi
  · exact fun k hk => by rw [ringFs_length]; exact hF k hk
  · exact fun k m _ _ h => by omega
  · intro i j hi hj; unfold sameO; rw [if_neg (by decide)]; rfl
  · intro k hk
    have hk' := hF k hk
    have := parP_ring s he (k + 1) (by rw [ringFs_length]; exact hk')
    rw [e k hk']
    exact ⟨⟨this.1, this.2.1⟩, rfl, rfl⟩
  · intro k hk
    rw [e k (hF k hk)]
    simp
  · intro k j hk hj hb
    rw [e k (hF k hk)] at hb
    exact hb
  · intro k m hk hm hb
    rw [e k (hF k hk), e m (hF m hm)] at hb
    exact hb
  · intro k m hk hm hb
    rw [e k (hF k hk), e m (hF m hm)] at hb
    exact hb

end Go.Proofs.Yteigbpmfjiofiaa
