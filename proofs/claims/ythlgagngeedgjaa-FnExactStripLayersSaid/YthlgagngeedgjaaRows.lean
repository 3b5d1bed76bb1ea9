/-
  No cell of these rows narrows 'for every input' (looked for: loops, veiled, ifaces, maps, wideKeys, modest, calm, conditions, laid).
  DERIVED. THE GIVEN ROWS OF THIS SEAT. 12 by the template 'for every input the law returns true; each argument reads behind the call as it read before'; 0 by the template 'total and deterministic' (their statements: YthlgagngeedgjaaTotals.lean).
  GIVEN WITH THE SEED: the statements are not yours to turn. If you find one false, say at which input.
  Laid BY PROGRAM, IN A SANDBOX (cutbox-rows.mjs): the forced cells as the released guide's own fill.sh prints them over the translation b576f3053678ce8d… (all of the seat's roots in one cut). By AI agents, Wed Nov 11 2026. No macro, syntax, notation, axiom, sorry.
-/
import Derived.Test.YthlgagngeedgjaaChecked
import GoSem.Claim
import GoSem.ClaimJoined
import GoSem.ClaimMapViews
import Derived.JoinedTies
import Derived.KernelRfl
namespace Go.Proofs.Ythlgagngeedgjaa
/- THE CELL 'sum', in the pinned program and in every row, IS THE sha256 OF THE DUMP (.gsa) THAT YthlgagngeedgjaaProg.lean LOADS. Nothing in Lean hashes anything: it is a label: what it is worth is what the hold of that sum in a sandbox is worth. -/
noncomputable def Try.pinned : Pinned := { name := "ythlgagngeedgjaa", sum := "b576f3053678ce8db8308e3907191814364c3d561a2aa6c037ed146361b5a516", checked := Try.checked }
namespace Rows
def none {H : Type} : Left H := { results := [], args := [] }

/-- 'laws.FnExactStampClasses': WHATEVER THE INPUT: true; the input reads as it did. -/
def fnExactStampClassesSpec : ChangeSpec := { name := "fnExactStampClasses", fn := fun _ => fun
  | [d] => { results := [.lit (.bool true)], args := [d] }
  | _ => none }
def fnExactStampClassesRow : OpenClaim := { program := "ythlgagngeedgjaa", sum := "b576f3053678ce8db8308e3907191814364c3d561a2aa6c037ed146361b5a516", func := "loop.example/flatfolding/laws.FnExactStampClasses", spec := "fnExactStampClasses", unfollowed := true, recurses := true, apart := false }
def FnExactStampClassesSaid : Prop := fnExactStampClassesRow.holds Try.pinned (OpenSpec.ofChange fnExactStampClassesSpec)

/-- ITS FALSE NEIGHBOUR: 'it returns false'. Refute it at one input. -/
def fnExactStampClassesWrong : ChangeSpec := { name := "fnExactStampClasses", fn := fun _ => fun
  | [d] => { results := [.lit (.bool false)], args := [d] }
  | _ => none }
def FnExactStampClassesWrongFalsely : Prop := fnExactStampClassesRow.holds Try.pinned (OpenSpec.ofChange fnExactStampClassesWrong)

/-- 'laws.FnExactStampNext': WHATEVER THE INPUT: true; the input reads as it did. -/
def fnExactStampNextSpec : ChangeSpec := { name := "fnExactStampNext", fn := fun _ => fun
  | [d] => { results := [.lit (.bool true)], args := [d] }
  | _ => none }
def fnExactStampNextRow : OpenClaim := { program := "ythlgagngeedgjaa", sum := "b576f3053678ce8db8308e3907191814364c3d561a2aa6c037ed146361b5a516", func := "loop.example/flatfolding/laws.FnExactStampNext", spec := "fnExactStampNext", unfollowed := true, recurses := true, apart := false }
def FnExactStampNextSaid : Prop := fnExactStampNextRow.holds Try.pinned (OpenSpec.ofChange fnExactStampNextSpec)

/-- ITS FALSE NEIGHBOUR: 'it returns false'. Refute it at one input. -/
def fnExactStampNextWrong : ChangeSpec := { name := "fnExactStampNext", fn := fun _ => fun
  | [d] => { results := [.lit (.bool false)], args := [d] }
  | _ => none }
def FnExactStampNextWrongFalsely : Prop := fnExactStampNextRow.holds Try.pinned (OpenSpec.ofChange fnExactStampNextWrong)

/-- 'laws.FnStampGrow': WHATEVER THE INPUT: true; the input reads as it did. -/
def fnStampGrowSpec : ChangeSpec := { name := "fnStampGrow", fn := fun _ => fun
  | [d] => { results := [.lit (.bool true)], args := [d] }
  | _ => none }
def fnStampGrowRow : OpenClaim := { program := "ythlgagngeedgjaa", sum := "b576f3053678ce8db8308e3907191814364c3d561a2aa6c037ed146361b5a516", func := "loop.example/flatfolding/laws.FnStampGrow", spec := "fnStampGrow", unfollowed := true, recurses := true, apart := false }
def FnStampGrowSaid : Prop := fnStampGrowRow.holds Try.pinned (OpenSpec.ofChange fnStampGrowSpec)

/-- ITS FALSE NEIGHBOUR: 'it returns false'. Refute it at one input. -/
def fnStampGrowWrong : ChangeSpec := { name := "fnStampGrow", fn := fun _ => fun
  | [d] => { results := [.lit (.bool false)], args := [d] }
  | _ => none }
def FnStampGrowWrongFalsely : Prop := fnStampGrowRow.holds Try.pinned (OpenSpec.ofChange fnStampGrowWrong)

/-- 'laws.FnTurn': WHATEVER THE INPUT: true; the input reads as it did. -/
def fnTurnSpec : ChangeSpec := { name := "fnTurn", fn := fun _ => fun
  | [d] => { results := [.lit (.bool true)], args := [d] }
  | _ => none }
def fnTurnRow : OpenClaim := { program := "ythlgagngeedgjaa", sum := "b576f3053678ce8db8308e3907191814364c3d561a2aa6c037ed146361b5a516", func := "loop.example/flatfolding/laws.FnTurn", spec := "fnTurn", apart := false }
def FnTurnSaid : Prop := fnTurnRow.holds Try.pinned (OpenSpec.ofChange fnTurnSpec)

/-- ITS FALSE NEIGHBOUR: 'it returns false'. Refute it at one input. -/
def fnTurnWrong : ChangeSpec := { name := "fnTurn", fn := fun _ => fun
  | [d] => { results := [.lit (.bool false)], args := [d] }
  | _ => none }
def FnTurnWrongFalsely : Prop := fnTurnRow.holds Try.pinned (OpenSpec.ofChange fnTurnWrong)

/-- 'laws.FnCloses': WHATEVER THE INPUT: true; the input reads as it did. -/
def fnClosesSpec : ChangeSpec := { name := "fnCloses", fn := fun _ => fun
  | [d1, d2] => { results := [.lit (.bool true)], args := [d1, d2] }
  | _ => none }
def fnClosesRow : OpenClaim := { program := "ythlgagngeedgjaa", sum := "b576f3053678ce8db8308e3907191814364c3d561a2aa6c037ed146361b5a516", func := "loop.example/flatfolding/laws.FnCloses", spec := "fnCloses", apart := false }
def FnClosesSaid : Prop := fnClosesRow.holds Try.pinned (OpenSpec.ofChange fnClosesSpec)

/-- ITS FALSE NEIGHBOUR: 'it returns false'. Refute it at one input. -/
def fnClosesWrong : ChangeSpec := { name := "fnCloses", fn := fun _ => fun
  | [d1, d2] => { results := [.lit (.bool false)], args := [d1, d2] }
  | _ => none }
def FnClosesWrongFalsely : Prop := fnClosesRow.holds Try.pinned (OpenSpec.ofChange fnClosesWrong)

/-- 'laws.FnExactVertexCrimps': WHATEVER THE INPUT: true; the input reads as it did. -/
def fnExactVertexCrimpsSpec : ChangeSpec := { name := "fnExactVertexCrimps", fn := fun _ => fun
  | [d1, d2] => { results := [.lit (.bool true)], args := [d1, d2] }
  | _ => none }
def fnExactVertexCrimpsRow : OpenClaim := { program := "ythlgagngeedgjaa", sum := "b576f3053678ce8db8308e3907191814364c3d561a2aa6c037ed146361b5a516", func := "loop.example/flatfolding/laws.FnExactVertexCrimps", spec := "fnExactVertexCrimps", apart := false }
def FnExactVertexCrimpsSaid : Prop := fnExactVertexCrimpsRow.holds Try.pinned (OpenSpec.ofChange fnExactVertexCrimpsSpec)

/-- ITS FALSE NEIGHBOUR: 'it returns false'. Refute it at one input. -/
def fnExactVertexCrimpsWrong : ChangeSpec := { name := "fnExactVertexCrimps", fn := fun _ => fun
  | [d1, d2] => { results := [.lit (.bool false)], args := [d1, d2] }
  | _ => none }
def FnExactVertexCrimpsWrongFalsely : Prop := fnExactVertexCrimpsRow.holds Try.pinned (OpenSpec.ofChange fnExactVertexCrimpsWrong)

/-- 'laws.FnExactStripFolds': WHATEVER THE INPUT: true; the input reads as it did. -/
def fnExactStripFoldsSpec : ChangeSpec := { name := "fnExactStripFolds", fn := fun _ => fun
  | [d1, d2] => { results := [.lit (.bool true)], args := [d1, d2] }
  | _ => none }
def fnExactStripFoldsRow : OpenClaim := { program := "ythlgagngeedgjaa", sum := "b576f3053678ce8db8308e3907191814364c3d561a2aa6c037ed146361b5a516", func := "loop.example/flatfolding/laws.FnExactStripFolds", spec := "fnExactStripFolds", recurses := true, apart := false }
def FnExactStripFoldsSaid : Prop := fnExactStripFoldsRow.holds Try.pinned (OpenSpec.ofChange fnExactStripFoldsSpec)

/-- ITS FALSE NEIGHBOUR: 'it returns false'. Refute it at one input. -/
def fnExactStripFoldsWrong : ChangeSpec := { name := "fnExactStripFolds", fn := fun _ => fun
  | [d1, d2] => { results := [.lit (.bool false)], args := [d1, d2] }
  | _ => none }
def FnExactStripFoldsWrongFalsely : Prop := fnExactStripFoldsRow.holds Try.pinned (OpenSpec.ofChange fnExactStripFoldsWrong)

/-- 'laws.FnStripSteps': WHATEVER THE INPUT: true; the input reads as it did. -/
def fnStripStepsSpec : ChangeSpec := { name := "fnStripSteps", fn := fun _ => fun
  | [d1, d2] => { results := [.lit (.bool true)], args := [d1, d2] }
  | _ => none }
def fnStripStepsRow : OpenClaim := { program := "ythlgagngeedgjaa", sum := "b576f3053678ce8db8308e3907191814364c3d561a2aa6c037ed146361b5a516", func := "loop.example/flatfolding/laws.FnStripSteps", spec := "fnStripSteps", recurses := true, apart := false }
def FnStripStepsSaid : Prop := fnStripStepsRow.holds Try.pinned (OpenSpec.ofChange fnStripStepsSpec)

/-- ITS FALSE NEIGHBOUR: 'it returns false'. Refute it at one input. -/
def fnStripStepsWrong : ChangeSpec := { name := "fnStripSteps", fn := fun _ => fun
  | [d1, d2] => { results := [.lit (.bool false)], args := [d1, d2] }
  | _ => none }
def FnStripStepsWrongFalsely : Prop := fnStripStepsRow.holds Try.pinned (OpenSpec.ofChange fnStripStepsWrong)

/-- 'laws.FnZigzag': WHATEVER THE INPUT: true; the input reads as it did. -/
def fnZigzagSpec : ChangeSpec := { name := "fnZigzag", fn := fun _ => fun
  | [d] => { results := [.lit (.bool true)], args := [d] }
  | _ => none }
def fnZigzagRow : OpenClaim := { program := "ythlgagngeedgjaa", sum := "b576f3053678ce8db8308e3907191814364c3d561a2aa6c037ed146361b5a516", func := "loop.example/flatfolding/laws.FnZigzag", spec := "fnZigzag", apart := false }
def FnZigzagSaid : Prop := fnZigzagRow.holds Try.pinned (OpenSpec.ofChange fnZigzagSpec)

/-- ITS FALSE NEIGHBOUR: 'it returns false'. Refute it at one input. -/
def fnZigzagWrong : ChangeSpec := { name := "fnZigzag", fn := fun _ => fun
  | [d] => { results := [.lit (.bool false)], args := [d] }
  | _ => none }
def FnZigzagWrongFalsely : Prop := fnZigzagRow.holds Try.pinned (OpenSpec.ofChange fnZigzagWrong)

/-- 'laws.FnExactStripLayers': WHATEVER THE INPUT: true; the input reads as it did. -/
def fnExactStripLayersSpec : ChangeSpec := { name := "fnExactStripLayers", fn := fun _ => fun
  | [d1, d2, d3] => { results := [.lit (.bool true)], args := [d1, d2, d3] }
  | _ => none }
def fnExactStripLayersRow : OpenClaim := { program := "ythlgagngeedgjaa", sum := "b576f3053678ce8db8308e3907191814364c3d561a2aa6c037ed146361b5a516", func := "loop.example/flatfolding/laws.FnExactStripLayers", spec := "fnExactStripLayers", apart := false }
def FnExactStripLayersSaid : Prop := fnExactStripLayersRow.holds Try.pinned (OpenSpec.ofChange fnExactStripLayersSpec)

/-- ITS FALSE NEIGHBOUR: 'it returns false'. Refute it at one input. -/
def fnExactStripLayersWrong : ChangeSpec := { name := "fnExactStripLayers", fn := fun _ => fun
  | [d1, d2, d3] => { results := [.lit (.bool false)], args := [d1, d2, d3] }
  | _ => none }
def FnExactStripLayersWrongFalsely : Prop := fnExactStripLayersRow.holds Try.pinned (OpenSpec.ofChange fnExactStripLayersWrong)

/-- 'laws.FnExactRingLayers': WHATEVER THE INPUT: true; the input reads as it did. -/
def fnExactRingLayersSpec : ChangeSpec := { name := "fnExactRingLayers", fn := fun _ => fun
  | [d1, d2, d3] => { results := [.lit (.bool true)], args := [d1, d2, d3] }
  | _ => none }
def fnExactRingLayersRow : OpenClaim := { program := "ythlgagngeedgjaa", sum := "b576f3053678ce8db8308e3907191814364c3d561a2aa6c037ed146361b5a516", func := "loop.example/flatfolding/laws.FnExactRingLayers", spec := "fnExactRingLayers", apart := false }
def FnExactRingLayersSaid : Prop := fnExactRingLayersRow.holds Try.pinned (OpenSpec.ofChange fnExactRingLayersSpec)

/-- ITS FALSE NEIGHBOUR: 'it returns false'. Refute it at one input. -/
def fnExactRingLayersWrong : ChangeSpec := { name := "fnExactRingLayers", fn := fun _ => fun
  | [d1, d2, d3] => { results := [.lit (.bool false)], args := [d1, d2, d3] }
  | _ => none }
def FnExactRingLayersWrongFalsely : Prop := fnExactRingLayersRow.holds Try.pinned (OpenSpec.ofChange fnExactRingLayersWrong)

/-- 'laws.FnStripBack': WHATEVER THE INPUT: true; the input reads as it did. -/
def fnStripBackSpec : ChangeSpec := { name := "fnStripBack", fn := fun _ => fun
  | [d] => { results := [.lit (.bool true)], args := [d] }
  | _ => none }
def fnStripBackRow : OpenClaim := { program := "ythlgagngeedgjaa", sum := "b576f3053678ce8db8308e3907191814364c3d561a2aa6c037ed146361b5a516", func := "loop.example/flatfolding/laws.FnStripBack", spec := "fnStripBack", unfollowed := true, recurses := true, apart := false }
def FnStripBackSaid : Prop := fnStripBackRow.holds Try.pinned (OpenSpec.ofChange fnStripBackSpec)

/-- ITS FALSE NEIGHBOUR: 'it returns false'. Refute it at one input. -/
def fnStripBackWrong : ChangeSpec := { name := "fnStripBack", fn := fun _ => fun
  | [d] => { results := [.lit (.bool false)], args := [d] }
  | _ => none }
def FnStripBackWrongFalsely : Prop := fnStripBackRow.holds Try.pinned (OpenSpec.ofChange fnStripBackWrong)

/- THE SECOND FORM. 'bulk': how many values and letters a reading holds, each counted each time it is reached (what is shared counts as often as it is met; a slice's spare places count too). A statement '..UptoSaid' is the law's where the arguments, and the package variables that the reading takes, are together of bulk at most 1048576: NARROWER than '..Said'. Prove '..Said' where nothing that the law and all that it calls make is longer than what came in: it says more and counts as full. Else prove '..UptoSaid'. A law counts once. -/
mutual
def uptoBulk {H : Type} : DataW H → Nat
  | .lit (.string bytes) => bytes.length + 1
  | .lit _ => 1
  | .nil => 1
  | .ptr d => uptoBulk d + 1
  | .slice elems spare => uptoBulkAll elems + uptoBulkAll spare + 1
  | .agg parts => uptoBulkAll parts + 1
  | .iface _ d => uptoBulk d + 1
  | .map entries => uptoBulkEntries entries + 1
  | .held _ => 1
def uptoBulkAll {H : Type} : List (DataW H) → Nat
  | [] => 0
  | d :: r => uptoBulk d + uptoBulkAll r
def uptoBulkEntries {H : Type} : List (Lit × DataW H) → Nat
  | [] => 0
  | x :: r => uptoBulkEntry x + uptoBulkEntries r
def uptoBulkEntry {H : Type} : Lit × DataW H → Nat
  | (.string bytes, d) => bytes.length + uptoBulk d + 1
  | (_, d) => uptoBulk d + 1
 end
def uptoSmall : (H : Type) → List (DataW H) → Bool := fun _ ds => decide (uptoBulkAll ds ≤ 1048576)
def OpenSpec.upto (s : _root_.Go.ChangeSpec) : _root_.Go.OpenSpec := { _root_.Go.OpenSpec.ofChange s with cond := some uptoSmall }

/-- 'laws.FnExactStampClasses', WHERE WHAT IT READS IS OF BULK AT MOST 1048576: true; the input reads as it did. -/
def fnExactStampClassesUptoRow : OpenClaim := { program := "ythlgagngeedgjaa", sum := "b576f3053678ce8db8308e3907191814364c3d561a2aa6c037ed146361b5a516", func := "loop.example/flatfolding/laws.FnExactStampClasses", spec := "fnExactStampClasses", unfollowed := true, recurses := true, apart := false, narrowed := true }
def FnExactStampClassesUptoSaid : Prop := fnExactStampClassesUptoRow.holds Try.pinned (OpenSpec.upto fnExactStampClassesSpec)

/-- 'laws.FnExactStampNext', WHERE WHAT IT READS IS OF BULK AT MOST 1048576: true; the input reads as it did. -/
def fnExactStampNextUptoRow : OpenClaim := { program := "ythlgagngeedgjaa", sum := "b576f3053678ce8db8308e3907191814364c3d561a2aa6c037ed146361b5a516", func := "loop.example/flatfolding/laws.FnExactStampNext", spec := "fnExactStampNext", unfollowed := true, recurses := true, apart := false, narrowed := true }
def FnExactStampNextUptoSaid : Prop := fnExactStampNextUptoRow.holds Try.pinned (OpenSpec.upto fnExactStampNextSpec)

/-- 'laws.FnStampGrow', WHERE WHAT IT READS IS OF BULK AT MOST 1048576: true; the input reads as it did. -/
def fnStampGrowUptoRow : OpenClaim := { program := "ythlgagngeedgjaa", sum := "b576f3053678ce8db8308e3907191814364c3d561a2aa6c037ed146361b5a516", func := "loop.example/flatfolding/laws.FnStampGrow", spec := "fnStampGrow", unfollowed := true, recurses := true, apart := false, narrowed := true }
def FnStampGrowUptoSaid : Prop := fnStampGrowUptoRow.holds Try.pinned (OpenSpec.upto fnStampGrowSpec)

/-- 'laws.FnTurn', WHERE WHAT IT READS IS OF BULK AT MOST 1048576: true; the input reads as it did. -/
def fnTurnUptoRow : OpenClaim := { program := "ythlgagngeedgjaa", sum := "b576f3053678ce8db8308e3907191814364c3d561a2aa6c037ed146361b5a516", func := "loop.example/flatfolding/laws.FnTurn", spec := "fnTurn", apart := false, narrowed := true }
def FnTurnUptoSaid : Prop := fnTurnUptoRow.holds Try.pinned (OpenSpec.upto fnTurnSpec)

/-- 'laws.FnCloses', WHERE WHAT IT READS IS OF BULK AT MOST 1048576: true; the input reads as it did. -/
def fnClosesUptoRow : OpenClaim := { program := "ythlgagngeedgjaa", sum := "b576f3053678ce8db8308e3907191814364c3d561a2aa6c037ed146361b5a516", func := "loop.example/flatfolding/laws.FnCloses", spec := "fnCloses", apart := false, narrowed := true }
def FnClosesUptoSaid : Prop := fnClosesUptoRow.holds Try.pinned (OpenSpec.upto fnClosesSpec)

/-- 'laws.FnExactVertexCrimps', WHERE WHAT IT READS IS OF BULK AT MOST 1048576: true; the input reads as it did. -/
def fnExactVertexCrimpsUptoRow : OpenClaim := { program := "ythlgagngeedgjaa", sum := "b576f3053678ce8db8308e3907191814364c3d561a2aa6c037ed146361b5a516", func := "loop.example/flatfolding/laws.FnExactVertexCrimps", spec := "fnExactVertexCrimps", apart := false, narrowed := true }
def FnExactVertexCrimpsUptoSaid : Prop := fnExactVertexCrimpsUptoRow.holds Try.pinned (OpenSpec.upto fnExactVertexCrimpsSpec)

/-- 'laws.FnExactStripFolds', WHERE WHAT IT READS IS OF BULK AT MOST 1048576: true; the input reads as it did. -/
def fnExactStripFoldsUptoRow : OpenClaim := { program := "ythlgagngeedgjaa", sum := "b576f3053678ce8db8308e3907191814364c3d561a2aa6c037ed146361b5a516", func := "loop.example/flatfolding/laws.FnExactStripFolds", spec := "fnExactStripFolds", recurses := true, apart := false, narrowed := true }
def FnExactStripFoldsUptoSaid : Prop := fnExactStripFoldsUptoRow.holds Try.pinned (OpenSpec.upto fnExactStripFoldsSpec)

/-- 'laws.FnStripSteps', WHERE WHAT IT READS IS OF BULK AT MOST 1048576: true; the input reads as it did. -/
def fnStripStepsUptoRow : OpenClaim := { program := "ythlgagngeedgjaa", sum := "b576f3053678ce8db8308e3907191814364c3d561a2aa6c037ed146361b5a516", func := "loop.example/flatfolding/laws.FnStripSteps", spec := "fnStripSteps", recurses := true, apart := false, narrowed := true }
def FnStripStepsUptoSaid : Prop := fnStripStepsUptoRow.holds Try.pinned (OpenSpec.upto fnStripStepsSpec)

/-- 'laws.FnZigzag', WHERE WHAT IT READS IS OF BULK AT MOST 1048576: true; the input reads as it did. -/
def fnZigzagUptoRow : OpenClaim := { program := "ythlgagngeedgjaa", sum := "b576f3053678ce8db8308e3907191814364c3d561a2aa6c037ed146361b5a516", func := "loop.example/flatfolding/laws.FnZigzag", spec := "fnZigzag", apart := false, narrowed := true }
def FnZigzagUptoSaid : Prop := fnZigzagUptoRow.holds Try.pinned (OpenSpec.upto fnZigzagSpec)

/-- 'laws.FnExactStripLayers', WHERE WHAT IT READS IS OF BULK AT MOST 1048576: true; the input reads as it did. -/
def fnExactStripLayersUptoRow : OpenClaim := { program := "ythlgagngeedgjaa", sum := "b576f3053678ce8db8308e3907191814364c3d561a2aa6c037ed146361b5a516", func := "loop.example/flatfolding/laws.FnExactStripLayers", spec := "fnExactStripLayers", apart := false, narrowed := true }
def FnExactStripLayersUptoSaid : Prop := fnExactStripLayersUptoRow.holds Try.pinned (OpenSpec.upto fnExactStripLayersSpec)

/-- 'laws.FnExactRingLayers', WHERE WHAT IT READS IS OF BULK AT MOST 1048576: true; the input reads as it did. -/
def fnExactRingLayersUptoRow : OpenClaim := { program := "ythlgagngeedgjaa", sum := "b576f3053678ce8db8308e3907191814364c3d561a2aa6c037ed146361b5a516", func := "loop.example/flatfolding/laws.FnExactRingLayers", spec := "fnExactRingLayers", apart := false, narrowed := true }
def FnExactRingLayersUptoSaid : Prop := fnExactRingLayersUptoRow.holds Try.pinned (OpenSpec.upto fnExactRingLayersSpec)

/-- 'laws.FnStripBack', WHERE WHAT IT READS IS OF BULK AT MOST 1048576: true; the input reads as it did. -/
def fnStripBackUptoRow : OpenClaim := { program := "ythlgagngeedgjaa", sum := "b576f3053678ce8db8308e3907191814364c3d561a2aa6c037ed146361b5a516", func := "loop.example/flatfolding/laws.FnStripBack", spec := "fnStripBack", unfollowed := true, recurses := true, apart := false, narrowed := true }
def FnStripBackUptoSaid : Prop := fnStripBackUptoRow.holds Try.pinned (OpenSpec.upto fnStripBackSpec)

end Rows
end Go.Proofs.Ythlgagngeedgjaa
