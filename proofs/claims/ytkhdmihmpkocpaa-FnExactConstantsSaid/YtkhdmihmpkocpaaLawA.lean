/-
  The walks through the first laws on folds and angles: each returns true.
-/
import Derived.Test.YtkhdmihmpkocpaaFolds
import Derived.Test.YtkhdmihmpkocpaaAngles
import Derived.Test.YtkhdmihmpkocpaaShell
namespace Go.Proofs.Ytkhdmihmpkocpaa
open Go.RowKit

theorem law_FnExactConstants (w : World) : Calls Try.prog 3 #[] w (RVal w (.bool true)) := by
  go_enter Try.func3, Try.ntmps3
  go_wp2
  go_ret
  exact ⟨rfl, Below.refl _ _⟩

theorem law_FnExactFoldsValid (w : World) (s : ByteArray) (hs : s.size ≤ maxLen) (n : Int) (_hn : (Lit.int .i64 n).wf = true) :
    Calls Try.prog 4 #[.string s, .int .i64 n] w (RVal w (.bool true)) := by
  by_cases h : s.size ≤ 1048576
  · go_enter Try.func4, Try.ntmps4
    go_wp2_with (first | (go_at_call 15; refine (spec_FoldsValid s n _ hs).mono ?_; rintro e w' ⟨rfl, rfl⟩) | (go_at_call 16; refine (impl_FoldsValid s n _ hs).mono ?_; rintro e w' ⟨rfl, rfl⟩))
    go_ret
    exact ⟨rfl, Below.refl _ _⟩
  · go_enter Try.func4, Try.ntmps4
    go_wp2_with fail
    go_ret
    exact ⟨rfl, Below.refl _ _⟩

end Go.Proofs.Ytkhdmihmpkocpaa
