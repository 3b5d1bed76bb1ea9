/-
  What the program's StampRank computes, by a walk.
-/
import Derived.Test.YthlgagngeedgjaaSLow
import Derived.Test.YthlgagngeedgjaaCompare
namespace Go.Proofs.Ythlgagngeedgjaa
open Go.RowKit Go.Shelf
attribute [local go_sem] Oper.semAt_some

end Go.Proofs.Ythlgagngeedgjaa
