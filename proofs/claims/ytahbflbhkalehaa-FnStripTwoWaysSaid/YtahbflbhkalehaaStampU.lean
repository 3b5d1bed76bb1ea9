/-
  What the reference's StampTurn computes, by a walk.
-/
import Derived.Test.YtahbflbhkalehaaStampT
namespace Go.Proofs.Ytahbflbhkalehaa
open Go.RowKit

theorem OwnI.lit0' (w : World) {base g : Nat} (hg : g = w.heap.size) (hb : base ≤ w.heap.size) : OwnI (w.alloc (.cells #[] 3)) base (some ⟨g, 0, none⟩) 0 0 [] := by
  subst hg; exact OwnI.lit0 w hb

end Go.Proofs.Ytahbflbhkalehaa
