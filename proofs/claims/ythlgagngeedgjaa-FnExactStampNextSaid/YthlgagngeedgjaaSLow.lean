/-
  What the program's StampLow computes, by a walk.
-/
import Derived.Test.YthlgagngeedgjaaSMany
import Derived.Test.YthlgagngeedgjaaAll4
namespace Go.Proofs.Ythlgagngeedgjaa
open Go.RowKit Go.Shelf
attribute [local go_sem] Oper.semAt_some

end Go.Proofs.Ythlgagngeedgjaa
