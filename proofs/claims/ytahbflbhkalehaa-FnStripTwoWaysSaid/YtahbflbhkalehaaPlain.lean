/-
  Plain facts on lists of bytes and of integers: no program in sight.
-/
import Derived.WalkKit
namespace Go.Proofs.Ytahbflbhkalehaa
open Go.RowKit

/-- M or V. -/
def isMV (c : UInt8) : Bool := c == 77 || c == 86
/-- What FoldsValid answers. -/
def foldsValidB (s : ByteArray) (n : Int) : Bool := decide ((s.size : Int) = n) && s.data.toList.all isMV

theorem take_snoc (s : ByteArray) (k : Nat) (h : k < s.size) : s.data.toList.take (k + 1) = s.data.toList.take k ++ [s[k]] := by
  rw [List.take_succ_eq_append_getElem (by simpa using h)]; rfl

theorem take_all (s : ByteArray) (k : Nat) (h : s.size ≤ k) : s.data.toList.take k = s.data.toList :=
  List.take_of_length_le (by simpa using h)

theorem isMV_true {c : UInt8} (h : c.toNat = 77 ∨ c.toNat = 86) : isMV c = true := by
  unfold isMV
  rcases h with h | h
  · have : c = 77 := UInt8.toNat_inj.1 (by simpa using h)
    simp [this]
  · have : c = 86 := UInt8.toNat_inj.1 (by simpa using h)
    simp [this]

theorem isMV_false {c : UInt8} (h : ¬ c.toNat = 77) (h' : ¬ c.toNat = 86) : isMV c = false := by
  unfold isMV
  rw [Bool.or_eq_false_iff]
  constructor
  · rw [beq_eq_false_iff_ne]; rintro rfl; exact h rfl
  · rw [beq_eq_false_iff_ne]; rintro rfl; exact h' rfl

theorem isMV_no {c : UInt8} (h : ((c.toNat : Int) != 77) = true ∧ ((c.toNat : Int) != 86) = true) : isMV c = false := by
  obtain ⟨h1, h2⟩ := h
  rw [bne_iff_ne] at h1 h2
  exact isMV_false (by omega) (by omega)

theorem isMV_yes {c : UInt8} (h : ((c.toNat : Int) != 77) = false ∨ ((c.toNat : Int) != 86) = false) : isMV c = true := by
  apply isMV_true
  rcases h with h | h <;> (rw [bne_eq_false_iff_eq] at h; omega)

theorem beq_dec (a b : Int) : (a == b) = decide (a = b) := rfl

theorem all_snoc (s : ByteArray) (k : Nat) (h : k < s.size) (h0 : (s.data.toList.take k).all isMV = true) (h1 : isMV s[k] = true) :
    (s.data.toList.take (k + 1)).all isMV = true := by
  rw [take_snoc s k h, List.all_append, h0]
  simp [h1]

theorem all_not (s : ByteArray) (k : Nat) (h : k < s.size) (h1 : isMV s[k] = false) : s.data.toList.all isMV = false := by
  rw [List.all_eq_false]
  exact ⟨s[k], Array.mem_toList_iff.2 (Array.getElem_mem (xs := s.data) h), by simp [h1]⟩

theorem ret_bool {a b : Bool} (h : a = b) : Ending.returned (.bool a) = .returned (.bool b) := by rw [h]
theorem ret_int {k : IntKind} {a b : Int} (h : a = b) : Ending.returned (.int k a) = .returned (.int k b) := by rw [h]
theorem ret_str {a b : ByteArray} (h : a = b) : Ending.returned (.string a) = .returned (.string b) := by rw [h]
theorem extract_one (s : ByteArray) (k : Nat) (h : k < s.size) : s.extract k (k + 1) = ⟨#[s[k]]⟩ := by
  apply ByteArray.ext
  rw [ByteArray.data_extract]
  apply Array.ext
  · simp only [Array.size_extract, List.size_toArray, List.length_cons, List.length_nil]
    have : s.size = s.data.size := rfl
    omega
  · intro i h1 h2
    have : i = 0 := by simp at h2; omega
    subst this
    simp
    rfl

end Go.Proofs.Ytahbflbhkalehaa
