/-
  No cell of these rows narrows 'for every input' (looked for: loops, veiled, ifaces, maps, wideKeys, modest, calm, conditions, laid).
  DERIVED. THE GIVEN ROWS OF THIS SEAT. 4 by the template 'for every input the law returns true; each argument reads behind the call as it read before'; 0 by the template 'total and deterministic' (their statements: YteigbpmfjiofiabTotals.lean).
  GIVEN WITH THE SEED: the statements are not yours to turn. If you find one false, say at which input.
  Laid BY PROGRAM, IN A SANDBOX (cutbox-rows.mjs): the forced cells as the released guide's own fill.sh prints them over the translation 836f2493ad0eb008… (all of the seat's roots in one cut). By AI agents, Wed Nov 11 2026. No macro, syntax, notation, axiom, sorry.
-/
import Derived.Test.YteigbpmfjiofiabChecked
import GoSem.Claim
import GoSem.ClaimJoined
import GoSem.ClaimMapViews
import Derived.JoinedTies
import Derived.KernelRfl
namespace Go.Proofs.Yteigbpmfjiofiab
/- THE CELL 'sum', in the pinned program and in every row, IS THE sha256 OF THE DUMP (.gsa) THAT YteigbpmfjiofiabProg.lean LOADS. Nothing in Lean hashes anything: it is a label: what it is worth is what the hold of that sum in a sandbox is worth. -/
noncomputable def Try.pinned : Pinned := { name := "yteigbpmfjiofiab", sum := "836f2493ad0eb008e06b9e51dd9ddd89c3f0b5917e18e1b74ba6a6cd68066fcb", checked := Try.checked }
namespace Rows
def none {H : Type} : Left H := { results := [], args := [] }

/-- 'laws.FnZigzag': WHATEVER THE INPUT: true; the input reads as it did. -/
def fnZigzagSpec : ChangeSpec := { name := "fnZigzag", fn := fun _ => fun
  | [d] => { results := [.lit (.bool true)], args := [d] }
  | _ => none }
def fnZigzagRow : OpenClaim := { program := "yteigbpmfjiofiab", sum := "836f2493ad0eb008e06b9e51dd9ddd89c3f0b5917e18e1b74ba6a6cd68066fcb", func := "loop.example/flatfolding/laws.FnZigzag", spec := "fnZigzag", apart := false }
def FnZigzagSaid : Prop := fnZigzagRow.holds Try.pinned (OpenSpec.ofChange fnZigzagSpec)

/-- ITS FALSE NEIGHBOUR: 'it returns false'. Refute it at one input. -/
def fnZigzagWrong : ChangeSpec := { name := "fnZigzag", fn := fun _ => fun
  | [d] => { results := [.lit (.bool false)], args := [d] }
  | _ => none }
def FnZigzagWrongFalsely : Prop := fnZigzagRow.holds Try.pinned (OpenSpec.ofChange fnZigzagWrong)

/-- 'laws.FnStripSteps': WHATEVER THE INPUT: true; the input reads as it did. -/
def fnStripStepsSpec : ChangeSpec := { name := "fnStripSteps", fn := fun _ => fun
  | [d1, d2] => { results := [.lit (.bool true)], args := [d1, d2] }
  | _ => none }
def fnStripStepsRow : OpenClaim := { program := "yteigbpmfjiofiab", sum := "836f2493ad0eb008e06b9e51dd9ddd89c3f0b5917e18e1b74ba6a6cd68066fcb", func := "loop.example/flatfolding/laws.FnStripSteps", spec := "fnStripSteps", recurses := true, apart := false }
def FnStripStepsSaid : Prop := fnStripStepsRow.holds Try.pinned (OpenSpec.ofChange fnStripStepsSpec)

/-- ITS FALSE NEIGHBOUR: 'it returns false'. Refute it at one input. -/
def fnStripStepsWrong : ChangeSpec := { name := "fnStripSteps", fn := fun _ => fun
  | [d1, d2] => { results := [.lit (.bool false)], args := [d1, d2] }
  | _ => none }
def FnStripStepsWrongFalsely : Prop := fnStripStepsRow.holds Try.pinned (OpenSpec.ofChange fnStripStepsWrong)

/-- 'laws.FnStripTwoWays': WHATEVER THE INPUT: true; the input reads as it did. -/
def fnStripTwoWaysSpec : ChangeSpec := { name := "fnStripTwoWays", fn := fun _ => fun
  | [d] => { results := [.lit (.bool true)], args := [d] }
  | _ => none }
def fnStripTwoWaysRow : OpenClaim := { program := "yteigbpmfjiofiab", sum := "836f2493ad0eb008e06b9e51dd9ddd89c3f0b5917e18e1b74ba6a6cd68066fcb", func := "loop.example/flatfolding/laws.FnStripTwoWays", spec := "fnStripTwoWays", unfollowed := true, recurses := true, apart := false }
def FnStripTwoWaysSaid : Prop := fnStripTwoWaysRow.holds Try.pinned (OpenSpec.ofChange fnStripTwoWaysSpec)

/-- ITS FALSE NEIGHBOUR: 'it returns false'. Refute it at one input. -/
def fnStripTwoWaysWrong : ChangeSpec := { name := "fnStripTwoWays", fn := fun _ => fun
  | [d] => { results := [.lit (.bool false)], args := [d] }
  | _ => none }
def FnStripTwoWaysWrongFalsely : Prop := fnStripTwoWaysRow.holds Try.pinned (OpenSpec.ofChange fnStripTwoWaysWrong)

/-- 'laws.FnExactVertexCrimps': WHATEVER THE INPUT: true; the input reads as it did. -/
def fnExactVertexCrimpsSpec : ChangeSpec := { name := "fnExactVertexCrimps", fn := fun _ => fun
  | [d1, d2] => { results := [.lit (.bool true)], args := [d1, d2] }
  | _ => none }
def fnExactVertexCrimpsRow : OpenClaim := { program := "yteigbpmfjiofiab", sum := "836f2493ad0eb008e06b9e51dd9ddd89c3f0b5917e18e1b74ba6a6cd68066fcb", func := "loop.example/flatfolding/laws.FnExactVertexCrimps", spec := "fnExactVertexCrimps", apart := false }
def FnExactVertexCrimpsSaid : Prop := fnExactVertexCrimpsRow.holds Try.pinned (OpenSpec.ofChange fnExactVertexCrimpsSpec)

/-- ITS FALSE NEIGHBOUR: 'it returns false'. Refute it at one input. -/
def fnExactVertexCrimpsWrong : ChangeSpec := { name := "fnExactVertexCrimps", fn := fun _ => fun
  | [d1, d2] => { results := [.lit (.bool false)], args := [d1, d2] }
  | _ => none }
def FnExactVertexCrimpsWrongFalsely : Prop := fnExactVertexCrimpsRow.holds Try.pinned (OpenSpec.ofChange fnExactVertexCrimpsWrong)

/- THE SECOND FORM. 'bulk': how many values and letters a reading holds, each counted each time it is reached (what is shared counts as often as it is met; a slice's spare places count too). A statement '..UptoSaid' is the law's where the arguments, and the package variables that the reading takes, are together of bulk at most 1048576: NARROWER than '..Said'. Prove '..Said' where nothing that the law and all that it calls make is longer than what came in: it says more and counts as full. Else prove '..UptoSaid'. A law counts once. -/
mutual
def uptoBulk {H : Type} : DataW H → Nat
  | .lit (.string bytes) => bytes.length + 1
  | .lit _ => 1
  | .nil => 1
  | .ptr d => uptoBulk d + 1
  | .slice elems spare => uptoBulkAll elems + uptoBulkAll spare + 1
  | .agg parts => uptoBulkAll parts + 1
  | .iface _ d => uptoBulk d + 1
  | .map entries => uptoBulkEntries entries + 1
  | .held _ => 1
def uptoBulkAll {H : Type} : List (DataW H) → Nat
  | [] => 0
  | d :: r => uptoBulk d + uptoBulkAll r
def uptoBulkEntries {H : Type} : List (Lit × DataW H) → Nat
  | [] => 0
  | x :: r => uptoBulkEntry x + uptoBulkEntries r
def uptoBulkEntry {H : Type} : Lit × DataW H → Nat
  | (.string bytes, d) => bytes.length + uptoBulk d + 1
  | (_, d) => uptoBulk d + 1
 end
def uptoSmall : (H : Type) → List (DataW H) → Bool := fun _ ds => decide (uptoBulkAll ds ≤ 1048576)
def OpenSpec.upto (s : _root_.Go.ChangeSpec) : _root_.Go.OpenSpec := { _root_.Go.OpenSpec.ofChange s with cond := some uptoSmall }

/-- 'laws.FnZigzag', WHERE WHAT IT READS IS OF BULK AT MOST 1048576: true; the input reads as it did. -/
def fnZigzagUptoRow : OpenClaim := { program := "yteigbpmfjiofiab", sum := "836f2493ad0eb008e06b9e51dd9ddd89c3f0b5917e18e1b74ba6a6cd68066fcb", func := "loop.example/flatfolding/laws.FnZigzag", spec := "fnZigzag", apart := false, narrowed := true }
def FnZigzagUptoSaid : Prop := fnZigzagUptoRow.holds Try.pinned (OpenSpec.upto fnZigzagSpec)

/-- 'laws.FnStripSteps', WHERE WHAT IT READS IS OF BULK AT MOST 1048576: true; the input reads as it did. -/
def fnStripStepsUptoRow : OpenClaim := { program := "yteigbpmfjiofiab", sum := "836f2493ad0eb008e06b9e51dd9ddd89c3f0b5917e18e1b74ba6a6cd68066fcb", func := "loop.example/flatfolding/laws.FnStripSteps", spec := "fnStripSteps", recurses := true, apart := false, narrowed := true }
def FnStripStepsUptoSaid : Prop := fnStripStepsUptoRow.holds Try.pinned (OpenSpec.upto fnStripStepsSpec)

/-- 'laws.FnStripTwoWays', WHERE WHAT IT READS IS OF BULK AT MOST 1048576: true; the input reads as it did. -/
def fnStripTwoWaysUptoRow : OpenClaim := { program := "yteigbpmfjiofiab", sum := "836f2493ad0eb008e06b9e51dd9ddd89c3f0b5917e18e1b74ba6a6cd68066fcb", func := "loop.example/flatfolding/laws.FnStripTwoWays", spec := "fnStripTwoWays", unfollowed := true, recurses := true, apart := false, narrowed := true }
def FnStripTwoWaysUptoSaid : Prop := fnStripTwoWaysUptoRow.holds Try.pinned (OpenSpec.upto fnStripTwoWaysSpec)

/-- 'laws.FnExactVertexCrimps', WHERE WHAT IT READS IS OF BULK AT MOST 1048576: true; the input reads as it did. -/
def fnExactVertexCrimpsUptoRow : OpenClaim := { program := "yteigbpmfjiofiab", sum := "836f2493ad0eb008e06b9e51dd9ddd89c3f0b5917e18e1b74ba6a6cd68066fcb", func := "loop.example/flatfolding/laws.FnExactVertexCrimps", spec := "fnExactVertexCrimps", apart := false, narrowed := true }
def FnExactVertexCrimpsUptoSaid : Prop := fnExactVertexCrimpsUptoRow.holds Try.pinned (OpenSpec.upto fnExactVertexCrimpsSpec)

end Rows
end Go.Proofs.Yteigbpmfjiofiab
