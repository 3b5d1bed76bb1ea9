/-
  What StampOver, StampBack and StampTurn compute, in the reference and in the program, by a walk through each.
-/
import Derived.Test.YtahbflbhkalehaaStampS
import Derived.Test.YtahbflbhkalehaaBack
import Derived.Test.YtahbflbhkalehaaPlainR
namespace Go.Proofs.Ytahbflbhkalehaa
open Go.RowKit

end Go.Proofs.Ytahbflbhkalehaa
