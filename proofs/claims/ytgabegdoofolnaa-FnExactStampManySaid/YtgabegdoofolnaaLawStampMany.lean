/-
  The walk through the exact law on StampMany: it returns true.
-/
import Derived.Test.YtgabegdoofolnaaSMany
import Derived.Test.YtgabegdoofolnaaHelp
import Derived.Test.YtgabegdoofolnaaShell
namespace Go.Proofs.Ytgabegdoofolnaa
open Go.RowKit

theorem law_FnExactStampMany (w : World) (x : Int) (_hx : (Lit.int .i64 x).wf = true) :
    Calls Try.prog 7 #[.int .i64 x] w (RVal w (.bool true)) := by
  go_enter Try.func7, Try.ntmps7
  go_wp2_with fail
  refine (spec_StampMany x w).mono ?_
  rintro e w1 ⟨rfl, b1⟩
  go_wp2_with fail
  refine (impl_StampMany x w1).mono ?_
  rintro e w2 ⟨rfl, b2⟩
  go_wp2_with fail
  go_ret
  exact ⟨rfl, Below.call b1 b1.size b2⟩

end Go.Proofs.Ytgabegdoofolnaa
