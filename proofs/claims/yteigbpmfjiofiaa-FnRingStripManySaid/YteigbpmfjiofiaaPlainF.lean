/-
  Plain facts on texts of folds: balance, exchange. No program in sight.
-/
import Derived.Test.YteigbpmfjiofiaaPlain
namespace Go.Proofs.Yteigbpmfjiofiaa
open Go.RowKit

/-- One letter's part of the balance. -/
def bal1 (c : UInt8) : Int := if c = 77 then 1 else if c = 86 then -1 else 0
/-- What FoldsBalance answers. -/
def bal : List UInt8 → Int
  | [] => 0
  | c :: r => bal1 c + bal r
theorem bal_snoc (l : List UInt8) (c : UInt8) : bal (l ++ [c]) = bal l + bal1 c := by
  induction l with
  | nil => simp [bal]
  | cons d r ih => simp only [List.cons_append, bal, ih]; omega
theorem bal1_bd (c : UInt8) : -1 ≤ bal1 c ∧ bal1 c ≤ 1 := by unfold bal1; split <;> (try split) <;> omega
theorem bal_bd (l : List UInt8) : -(l.length : Int) ≤ bal l ∧ bal l ≤ l.length := by
  induction l with
  | nil => simp [bal]
  | cons c r ih => have := bal1_bd c; simp only [bal, List.length_cons]; omega
theorem bal_take_bd (l : List UInt8) (k : Nat) : -(k : Int) ≤ bal (l.take k) ∧ bal (l.take k) ≤ k := by
  have h1 := bal_bd (l.take k)
  have h2 : (l.take k).length ≤ k := List.length_take_le _ _
  omega
theorem bal_take (s : ByteArray) (k : Nat) (h : k < s.size) : bal (s.data.toList.take (k + 1)) = bal (s.data.toList.take k) + bal1 s[k] := by
  rw [take_snoc s k h, bal_snoc]
theorem byte_eq {c : UInt8} {d : Nat} (hd : d < 256) (h : c.toNat = d) : c = UInt8.ofNat d := by
  apply UInt8.toNat_inj.1
  rw [h, UInt8.toNat_ofNat_of_lt' (by simpa using hd)]
theorem bal1_M {c : UInt8} (h : (c.toNat : Int) = 77) : bal1 c = 1 := by
  have : c = 77 := byte_eq (d := 77) (by omega) (by omega)
  unfold bal1; rw [if_pos this]
theorem bal1_V {c : UInt8} (h : (c.toNat : Int) = 86) : bal1 c = -1 := by
  have : c = 86 := byte_eq (d := 86) (by omega) (by omega)
  unfold bal1; rw [if_neg (by rw [this]; decide), if_pos this]
theorem bal1_O {c : UInt8} (h : ¬ (c.toNat : Int) = 77) (h' : ¬ (c.toNat : Int) = 86) : bal1 c = 0 := by
  unfold bal1; rw [if_neg (by rintro rfl; exact h rfl), if_neg (by rintro rfl; exact h' rfl)]

/-- M and V exchanged. -/
def swp (c : UInt8) : UInt8 := if c = 77 then 86 else if c = 86 then 77 else c
theorem swp_M {c : UInt8} (h : (c.toNat : Int) = 77) : swp c = 86 := by
  have : c = 77 := byte_eq (d := 77) (by omega) (by omega)
  unfold swp; rw [if_pos this]
theorem swp_V {c : UInt8} (h : (c.toNat : Int) = 86) : swp c = 77 := by
  have : c = 86 := byte_eq (d := 86) (by omega) (by omega)
  unfold swp; rw [if_neg (by rw [this]; decide), if_pos this]
theorem swp_O {c : UInt8} (h : ¬ (c.toNat : Int) = 77) (h' : ¬ (c.toNat : Int) = 86) : swp c = c := by
  unfold swp; rw [if_neg (by rintro rfl; exact h rfl), if_neg (by rintro rfl; exact h' rfl)]
/-- What FoldsSwap answers. -/
def swapS (s : ByteArray) : ByteArray := ⟨(s.data.toList.map swp).toArray⟩

/-- The first k letters exchanged. -/
def swapTo (s : ByteArray) (k : Nat) : ByteArray := ⟨((s.data.toList.take k).map swp).toArray⟩
theorem swapTo_zero (s : ByteArray) : swapTo s 0 = ⟨#[]⟩ := by simp [swapTo]
theorem swapTo_succ (s : ByteArray) (k : Nat) (h : k < s.size) : swapTo s (k + 1) = swapTo s k ++ ⟨#[swp s[k]]⟩ := by
  unfold swapTo
  rw [take_snoc s k h]
  apply ByteArray.ext
  rw [ByteArray.data_append]
  simp
theorem swapTo_all (s : ByteArray) (k : Nat) (h : s.size ≤ k) : swapTo s k = swapS s := by unfold swapTo swapS; rw [take_all s k h]
theorem swapTo_size (s : ByteArray) (k : Nat) (h : k ≤ s.size) : (swapTo s k).size = k := by
  have h1 : (swapTo s k).size = ((s.data.toList.take k).map swp).length := rfl
  have h2 : s.data.toList.length = s.size := Array.length_toList
  rw [h1, List.length_map, List.length_take, h2]
  omega

/-- The bytes as numbers, the first k exchanged. -/
def mixTo (s : ByteArray) (k : Nat) : List Int := ((s.data.toList.take k).map fun c => ((swp c).toNat : Int)) ++ ((s.data.toList.drop k).map fun c => (c.toNat : Int))
theorem mixTo_zero (s : ByteArray) : mixTo s 0 = s.data.toList.map fun c => (c.toNat : Int) := by simp [mixTo]
theorem size_list (s : ByteArray) : s.data.toList.length = s.size := Array.length_toList
theorem byte_get (s : ByteArray) (k : Nat) (h : k < s.size) : s.data.toList[k]? = some s[k] := by
  rw [List.getElem?_eq_getElem (by rw [size_list]; exact h)]; rfl
theorem mixTo_get (s : ByteArray) (k : Nat) (h : k < s.size) : (mixTo s k)[k]?.getD 0 = (s[k].toNat : Int) := by
  have h1 := size_list s
  unfold mixTo
  rw [List.getElem?_append_right (by simp [h1]; omega)]
  simp only [List.length_map, List.length_take, h1]
  rw [Nat.min_eq_left (by omega), Nat.sub_self, List.getElem?_map, List.getElem?_drop, Nat.add_zero, byte_get s k h]
  rfl
theorem mixTo_set (s : ByteArray) (k : Nat) (h : k < s.size) : (mixTo s k).set k ((swp s[k]).toNat : Int) = mixTo s (k + 1) := by
  have h1 := size_list s
  have h2 := byte_get s k h
  apply List.ext_getElem?
  intro j
  rw [List.getElem?_set]
  simp only [mixTo, List.getElem?_append, List.length_append, List.length_map, List.length_take, List.length_drop, h1, List.getElem?_map, List.getElem?_take, List.getElem?_drop]
  by_cases hj : k = j
  · subst hj
    rw [if_pos rfl, if_pos (by omega), if_pos (by omega), if_pos (by omega), h2]
    rfl
  · rw [if_neg hj]
    by_cases h3 : j < k
    · rw [if_pos (by omega), if_pos (by omega), if_pos (by omega), if_pos (by omega)]
    · rw [if_neg (by omega), if_neg (by omega)]
      congr 2
      omega
theorem mixTo_same (s : ByteArray) (k : Nat) (h : k < s.size) (he : swp s[k] = s[k]) : mixTo s k = mixTo s (k + 1) := by
  rw [← mixTo_set s k h, he, ← mixTo_get s k h]
  apply List.ext_getElem?
  intro j
  rw [List.getElem?_set]
  by_cases hj : k = j
  · subst hj
    rw [if_pos rfl]
    have hl : k < (mixTo s k).length := by simp [mixTo]; omega
    rw [if_pos hl, List.getElem?_eq_getElem hl]
    rfl
  · rw [if_neg hj]
theorem mixTo_all (s : ByteArray) (k : Nat) (h : s.size ≤ k) : (⟨((mixTo s k).map fun n => UInt8.ofNat n.toNat).toArray⟩ : ByteArray) = swapS s := by
  have h1 := size_list s
  unfold mixTo swapS
  rw [List.take_of_length_le (by omega), List.drop_of_length_le (by omega)]
  simp

end Go.Proofs.Yteigbpmfjiofiaa
