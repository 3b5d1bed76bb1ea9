/-
  The walk through the exact law on StampClasses: it returns true.
-/
import Derived.Test.YthlgagngeedgjaaSClasses
import Derived.Test.YthlgagngeedgjaaHelp
import Derived.Test.YthlgagngeedgjaaShell
namespace Go.Proofs.Ythlgagngeedgjaa
open Go.RowKit

theorem law_FnExactStampClasses (w : World) (x : Int) (_hx : (Lit.int .i64 x).wf = true) :
    Calls Try.prog 3 #[.int .i64 x] w (RVal w (.bool true)) := by
  go_enter Try.func3, Try.ntmps3
  go_wp2_with fail
  refine (spec_StampClasses x w).mono ?_
  rintro e w1 ⟨rfl, b1⟩
  go_wp2_with fail
  refine (impl_StampClasses x w1).mono ?_
  rintro e w2 ⟨rfl, b2⟩
  go_wp2_with fail
  go_ret
  exact ⟨rfl, Below.call b1 b1.size b2⟩

end Go.Proofs.Ythlgagngeedgjaa
