/-
  The walk through the exact law on StampLow: it returns true.
-/
import Derived.Test.YtgabegdoofolnaaSLow
import Derived.Test.YtgabegdoofolnaaHelp
import Derived.Test.YtgabegdoofolnaaShell
namespace Go.Proofs.Ytgabegdoofolnaa
open Go.RowKit

theorem law_FnExactStampLow (w : World) (x : Int) (_hx : (Lit.int .i64 x).wf = true) (k : Int) (_hk : (Lit.int .i64 k).wf = true) :
    Calls Try.prog 8 #[.int .i64 x, .int .i64 k] w (RVal w (.bool true)) := by
  go_enter Try.func8, Try.ntmps8
  go_wp2_with fail
  refine (spec_StampLow x k w).mono ?_
  rintro e w1 ⟨rfl, b1⟩
  go_wp2_with fail
  refine (impl_StampLow x k w1).mono ?_
  rintro e w2 ⟨rfl, b2⟩
  go_wp2_with fail
  go_ret
  exact ⟨rfl, Below.call b1 b1.size b2⟩

end Go.Proofs.Ytgabegdoofolnaa
