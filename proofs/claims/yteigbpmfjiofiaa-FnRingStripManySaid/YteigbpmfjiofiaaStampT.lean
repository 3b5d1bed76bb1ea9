/-
  What StampOver, StampBack and StampTurn compute, in the reference and in the program, by a walk through each.
-/
import Derived.Test.YteigbpmfjiofiaaStampS
import Derived.Test.YteigbpmfjiofiaaBack
import Derived.Test.YteigbpmfjiofiaaPlainR
namespace Go.Proofs.Yteigbpmfjiofiaa
open Go.RowKit

end Go.Proofs.Yteigbpmfjiofiaa
