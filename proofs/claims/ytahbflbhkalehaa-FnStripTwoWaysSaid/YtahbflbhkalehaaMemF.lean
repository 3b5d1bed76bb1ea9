/-
  Words for memory: folds laid flat, four cells each, and the parts laid flat. No program in sight.
-/
import Derived.Test.YtahbflbhkalehaaMem3
import Derived.Test.YtahbflbhkalehaaPlainL
namespace Go.Proofs.Ytahbflbhkalehaa
open Go.RowKit

/-- The cells of a fold, the program's way and the reference's way. -/
def fI (f : Fd) : List Value := [.int .i64 f.ah, .int .i64 f.be, .int .i64 f.pl, .bool f.hi]
def fS (f : Fd) (c : UInt8) : List Value := [.int .i64 f.ah, .int .i64 f.be, .int .i64 f.pl, .int .u8 (c.toNat : Int)]
/-- Rows of cells, one after the other. -/
def rows (row : Nat → List Value) (m : Nat) : List Value := (List.range m).flatMap row
theorem rows_zero (row : Nat → List Value) : rows row 0 = [] := rfl
theorem rows_succ (row : Nat → List Value) (m : Nat) : rows row (m + 1) = rows row m ++ row m := by
  unfold rows
  rw [List.range_succ, List.flatMap_append]
  simp
theorem rows_length {row : Nat → List Value} (h : ∀ k, (row k).length = 4) (m : Nat) : (rows row m).length = m * 4 := by
  induction m with
  | zero => rfl
  | succ m ih => rw [rows_succ, List.length_append, ih, h]; omega
theorem rows_get {row : Nat → List Value} (h : ∀ k, (row k).length = 4) {m k j : Nat} (hk : k < m) (hj : j < 4) : (rows row m)[k * 4 + j]? = (row k)[j]? := by
  induction m with
  | zero => omega
  | succ m ih =>
    rw [rows_succ]
    have hl := rows_length h m
    by_cases e : k = m
    · subst e
      rw [List.getElem?_append_right (by omega), hl]
      congr 1
      omega
    · rw [List.getElem?_append_left (by omega)]
      exact ih (by omega)
theorem fI_length (f : Fd) : (fI f).length = 4 := rfl
theorem fS_length (f : Fd) (c : UInt8) : (fS f c).length = 4 := rfl
def rowI (F : List Fd) (k : Nat) : List Value := fI (fdAt F k)
def rowS (F : List Fd) (bs : Nat → UInt8) (k : Nat) : List Value := fS (fdAt F k) (bs k)
theorem oneCell_rowI (F : List Fd) (m : Nat) : ∀ u ∈ rows (rowI F) m, u.oneCell' = true := fun u hu => by
  unfold rows at hu
  obtain ⟨k, _, hk⟩ := List.mem_flatMap.1 hu
  simp only [rowI, fI, List.mem_cons, List.not_mem_nil, or_false] at hk
  rcases hk with rfl | rfl | rfl | rfl <;> rfl

/-- The slice value reads as folds, the program's way. -/
def FoldsI (w : World) (a : Option Addr) (n cap : Nat) (F : List Fd) : Prop := Cells w 4 a n cap (rows (rowI F) n)
theorem Cells.row {w : World} {a : Option Addr} {n cap : Nat} {row : Nat → List Value} (h : Cells w 4 a n cap (rows row n)) (hr : ∀ k, (row k).length = 4) (hn : 0 < n) :
    ∃ b off, a = some ⟨b, off, none⟩ ∧ ∀ k j u, k < n → j < 4 → (row k)[j]? = some u → w.cell? ⟨b, off + (k * 4 + j), none⟩ = some u := by
  obtain ⟨b, off, e, hc⟩ := h.at_ hn
  exact ⟨b, off, e, fun k j u hk hj hu => hc (k * 4 + j) u (by rw [rows_get hr hk hj]; exact hu)⟩
theorem FoldsI.cells {w : World} {a : Option Addr} {n cap : Nat} {F : List Fd} (h : FoldsI w a n cap F) (hn : 0 < n) :
    ∃ b off, a = some ⟨b, off, none⟩ ∧ ∀ k, k < n → w.cell? ⟨b, off + k * 4, none⟩ = some (.int .i64 (fdAt F k).ah) ∧ w.cell? ⟨b, off + k * 4 + 1, none⟩ = some (.int .i64 (fdAt F k).be) ∧ w.cell? ⟨b, off + k * 4 + 2, none⟩ = some (.int .i64 (fdAt F k).pl) ∧ w.cell? ⟨b, off + k * 4 + 3, none⟩ = some (.bool (fdAt F k).hi) := by
  obtain ⟨b, off, e, hc⟩ := Cells.row h (fun k => fI_length _) hn
  exact ⟨b, off, e, fun k hk => ⟨hc k 0 _ hk (by omega) rfl, hc k 1 _ hk (by omega) rfl, hc k 2 _ hk (by omega) rfl, hc k 3 _ hk (by omega) rfl⟩⟩

/-- The parts laid flat, as the program reads them. -/
structure FlatAt (w : World) (g n : Nat) (xs : List Int) (F : List Fd) : Prop where
  many : w.cell? ⟨g, 0, none⟩ = some (.int .i64 n)
  places : ∃ A c, w.cell? ⟨g, 1, none⟩ = some (.slice A (n + 1) c) ∧ Ints w A (n + 1) c (placesL xs)
  folds : ∃ B c, w.cell? ⟨g, 2, none⟩ = some (.slice B F.length c) ∧ FoldsI w B F.length c F
theorem FlatAt.below {w w' : World} {g n : Nat} {xs : List Int} {F : List Fd} (h : FlatAt w g n xs F) (hb : Below w.heap.size w w') : FlatAt w' g n xs F := by
  obtain ⟨A, c, h1, h2⟩ := h.places
  obtain ⟨B, d, h3, h4⟩ := h.folds
  exact ⟨cell_below hb h.many, ⟨A, c, cell_below hb h1, h2.below hb⟩, ⟨B, d, cell_below hb h3, Cells.below h4 hb⟩⟩

end Go.Proofs.Ytahbflbhkalehaa
