/-
  No cell of these rows narrows 'for every input' (looked for: loops, veiled, ifaces, maps, wideKeys, modest, calm, conditions, laid).
  DERIVED. THE GIVEN ROWS OF THIS SEAT. 11 by the template 'for every input the law returns true; each argument reads behind the call as it read before'; 0 by the template 'total and deterministic' (their statements: YtmbpigakjjfbcaaTotals.lean).
  GIVEN WITH THE SEED: the statements are not yours to turn. If you find one false, say at which input.
  Laid BY PROGRAM, IN A SANDBOX (cutbox-rows.mjs): the forced cells as the released guide's own fill.sh prints them over the translation f1fb1ac02813c728… (all of the seat's roots in one cut). By AI agents, Wed Nov 11 2026. No macro, syntax, notation, axiom, sorry.
-/
import Derived.Test.YtmbpigakjjfbcaaChecked
import GoSem.Claim
import GoSem.ClaimJoined
import GoSem.ClaimMapViews
import Derived.JoinedTies
import Derived.KernelRfl
namespace Go.Proofs.Ytmbpigakjjfbcaa
/- THE CELL 'sum', in the pinned program and in every row, IS THE sha256 OF THE DUMP (.gsa) THAT YtmbpigakjjfbcaaProg.lean LOADS. Nothing in Lean hashes anything: it is a label: what it is worth is what the hold of that sum in a sandbox is worth. -/
noncomputable def Try.pinned : Pinned := { name := "ytmbpigakjjfbcaa", sum := "f1fb1ac02813c7284ef0aed69be2806295bdba1affa4f720ce9f700639891c4d", checked := Try.checked }
namespace Rows
def none {H : Type} : Left H := { results := [], args := [] }

/-- 'laws.FnExactStripValid': WHATEVER THE INPUT: true; the input reads as it did. -/
def fnExactStripValidSpec : ChangeSpec := { name := "fnExactStripValid", fn := fun _ => fun
  | [d1, d2] => { results := [.lit (.bool true)], args := [d1, d2] }
  | _ => none }
def fnExactStripValidRow : OpenClaim := { program := "ytmbpigakjjfbcaa", sum := "f1fb1ac02813c7284ef0aed69be2806295bdba1affa4f720ce9f700639891c4d", func := "loop.example/flatfolding/laws.FnExactStripValid", spec := "fnExactStripValid", apart := false }
def FnExactStripValidSaid : Prop := fnExactStripValidRow.holds Try.pinned (OpenSpec.ofChange fnExactStripValidSpec)

/-- ITS FALSE NEIGHBOUR: 'it returns false'. Refute it at one input. -/
def fnExactStripValidWrong : ChangeSpec := { name := "fnExactStripValid", fn := fun _ => fun
  | [d1, d2] => { results := [.lit (.bool false)], args := [d1, d2] }
  | _ => none }
def FnExactStripValidWrongFalsely : Prop := fnExactStripValidRow.holds Try.pinned (OpenSpec.ofChange fnExactStripValidWrong)

/-- 'laws.FnExactRingValid': WHATEVER THE INPUT: true; the input reads as it did. -/
def fnExactRingValidSpec : ChangeSpec := { name := "fnExactRingValid", fn := fun _ => fun
  | [d1, d2] => { results := [.lit (.bool true)], args := [d1, d2] }
  | _ => none }
def fnExactRingValidRow : OpenClaim := { program := "ytmbpigakjjfbcaa", sum := "f1fb1ac02813c7284ef0aed69be2806295bdba1affa4f720ce9f700639891c4d", func := "loop.example/flatfolding/laws.FnExactRingValid", spec := "fnExactRingValid", apart := false }
def FnExactRingValidSaid : Prop := fnExactRingValidRow.holds Try.pinned (OpenSpec.ofChange fnExactRingValidSpec)

/-- ITS FALSE NEIGHBOUR: 'it returns false'. Refute it at one input. -/
def fnExactRingValidWrong : ChangeSpec := { name := "fnExactRingValid", fn := fun _ => fun
  | [d1, d2] => { results := [.lit (.bool false)], args := [d1, d2] }
  | _ => none }
def FnExactRingValidWrongFalsely : Prop := fnExactRingValidRow.holds Try.pinned (OpenSpec.ofChange fnExactRingValidWrong)

/-- 'laws.FnExactStripPlaces': WHATEVER THE INPUT: true; the input reads as it did. -/
def fnExactStripPlacesSpec : ChangeSpec := { name := "fnExactStripPlaces", fn := fun _ => fun
  | [d] => { results := [.lit (.bool true)], args := [d] }
  | _ => none }
def fnExactStripPlacesRow : OpenClaim := { program := "ytmbpigakjjfbcaa", sum := "f1fb1ac02813c7284ef0aed69be2806295bdba1affa4f720ce9f700639891c4d", func := "loop.example/flatfolding/laws.FnExactStripPlaces", spec := "fnExactStripPlaces", apart := false }
def FnExactStripPlacesSaid : Prop := fnExactStripPlacesRow.holds Try.pinned (OpenSpec.ofChange fnExactStripPlacesSpec)

/-- ITS FALSE NEIGHBOUR: 'it returns false'. Refute it at one input. -/
def fnExactStripPlacesWrong : ChangeSpec := { name := "fnExactStripPlaces", fn := fun _ => fun
  | [d] => { results := [.lit (.bool false)], args := [d] }
  | _ => none }
def FnExactStripPlacesWrongFalsely : Prop := fnExactStripPlacesRow.holds Try.pinned (OpenSpec.ofChange fnExactStripPlacesWrong)

/-- 'laws.FnExactStripWide': WHATEVER THE INPUT: true; the input reads as it did. -/
def fnExactStripWideSpec : ChangeSpec := { name := "fnExactStripWide", fn := fun _ => fun
  | [d] => { results := [.lit (.bool true)], args := [d] }
  | _ => none }
def fnExactStripWideRow : OpenClaim := { program := "ytmbpigakjjfbcaa", sum := "f1fb1ac02813c7284ef0aed69be2806295bdba1affa4f720ce9f700639891c4d", func := "loop.example/flatfolding/laws.FnExactStripWide", spec := "fnExactStripWide", apart := false }
def FnExactStripWideSaid : Prop := fnExactStripWideRow.holds Try.pinned (OpenSpec.ofChange fnExactStripWideSpec)

/-- ITS FALSE NEIGHBOUR: 'it returns false'. Refute it at one input. -/
def fnExactStripWideWrong : ChangeSpec := { name := "fnExactStripWide", fn := fun _ => fun
  | [d] => { results := [.lit (.bool false)], args := [d] }
  | _ => none }
def FnExactStripWideWrongFalsely : Prop := fnExactStripWideRow.holds Try.pinned (OpenSpec.ofChange fnExactStripWideWrong)

/-- 'laws.FnExactStripBack': WHATEVER THE INPUT: true; the input reads as it did. -/
def fnExactStripBackSpec : ChangeSpec := { name := "fnExactStripBack", fn := fun _ => fun
  | [d1, d2] => { results := [.lit (.bool true)], args := [d1, d2] }
  | _ => none }
def fnExactStripBackRow : OpenClaim := { program := "ytmbpigakjjfbcaa", sum := "f1fb1ac02813c7284ef0aed69be2806295bdba1affa4f720ce9f700639891c4d", func := "loop.example/flatfolding/laws.FnExactStripBack", spec := "fnExactStripBack", apart := false }
def FnExactStripBackSaid : Prop := fnExactStripBackRow.holds Try.pinned (OpenSpec.ofChange fnExactStripBackSpec)

/-- ITS FALSE NEIGHBOUR: 'it returns false'. Refute it at one input. -/
def fnExactStripBackWrong : ChangeSpec := { name := "fnExactStripBack", fn := fun _ => fun
  | [d1, d2] => { results := [.lit (.bool false)], args := [d1, d2] }
  | _ => none }
def FnExactStripBackWrongFalsely : Prop := fnExactStripBackRow.holds Try.pinned (OpenSpec.ofChange fnExactStripBackWrong)

/-- 'laws.FnExactStripFolds': WHATEVER THE INPUT: true; the input reads as it did. -/
def fnExactStripFoldsSpec : ChangeSpec := { name := "fnExactStripFolds", fn := fun _ => fun
  | [d1, d2] => { results := [.lit (.bool true)], args := [d1, d2] }
  | _ => none }
def fnExactStripFoldsRow : OpenClaim := { program := "ytmbpigakjjfbcaa", sum := "f1fb1ac02813c7284ef0aed69be2806295bdba1affa4f720ce9f700639891c4d", func := "loop.example/flatfolding/laws.FnExactStripFolds", spec := "fnExactStripFolds", recurses := true, apart := false }
def FnExactStripFoldsSaid : Prop := fnExactStripFoldsRow.holds Try.pinned (OpenSpec.ofChange fnExactStripFoldsSpec)

/-- ITS FALSE NEIGHBOUR: 'it returns false'. Refute it at one input. -/
def fnExactStripFoldsWrong : ChangeSpec := { name := "fnExactStripFolds", fn := fun _ => fun
  | [d1, d2] => { results := [.lit (.bool false)], args := [d1, d2] }
  | _ => none }
def FnExactStripFoldsWrongFalsely : Prop := fnExactStripFoldsRow.holds Try.pinned (OpenSpec.ofChange fnExactStripFoldsWrong)

/-- 'laws.FnPlaces': WHATEVER THE INPUT: true; the input reads as it did. -/
def fnPlacesSpec : ChangeSpec := { name := "fnPlaces", fn := fun _ => fun
  | [d] => { results := [.lit (.bool true)], args := [d] }
  | _ => none }
def fnPlacesRow : OpenClaim := { program := "ytmbpigakjjfbcaa", sum := "f1fb1ac02813c7284ef0aed69be2806295bdba1affa4f720ce9f700639891c4d", func := "loop.example/flatfolding/laws.FnPlaces", spec := "fnPlaces", apart := false }
def FnPlacesSaid : Prop := fnPlacesRow.holds Try.pinned (OpenSpec.ofChange fnPlacesSpec)

/-- ITS FALSE NEIGHBOUR: 'it returns false'. Refute it at one input. -/
def fnPlacesWrong : ChangeSpec := { name := "fnPlaces", fn := fun _ => fun
  | [d] => { results := [.lit (.bool false)], args := [d] }
  | _ => none }
def FnPlacesWrongFalsely : Prop := fnPlacesRow.holds Try.pinned (OpenSpec.ofChange fnPlacesWrong)

/-- 'laws.FnStripSteps': WHATEVER THE INPUT: true; the input reads as it did. -/
def fnStripStepsSpec : ChangeSpec := { name := "fnStripSteps", fn := fun _ => fun
  | [d1, d2] => { results := [.lit (.bool true)], args := [d1, d2] }
  | _ => none }
def fnStripStepsRow : OpenClaim := { program := "ytmbpigakjjfbcaa", sum := "f1fb1ac02813c7284ef0aed69be2806295bdba1affa4f720ce9f700639891c4d", func := "loop.example/flatfolding/laws.FnStripSteps", spec := "fnStripSteps", recurses := true, apart := false }
def FnStripStepsSaid : Prop := fnStripStepsRow.holds Try.pinned (OpenSpec.ofChange fnStripStepsSpec)

/-- ITS FALSE NEIGHBOUR: 'it returns false'. Refute it at one input. -/
def fnStripStepsWrong : ChangeSpec := { name := "fnStripSteps", fn := fun _ => fun
  | [d1, d2] => { results := [.lit (.bool false)], args := [d1, d2] }
  | _ => none }
def FnStripStepsWrongFalsely : Prop := fnStripStepsRow.holds Try.pinned (OpenSpec.ofChange fnStripStepsWrong)

/-- 'laws.FnZigzag': WHATEVER THE INPUT: true; the input reads as it did. -/
def fnZigzagSpec : ChangeSpec := { name := "fnZigzag", fn := fun _ => fun
  | [d] => { results := [.lit (.bool true)], args := [d] }
  | _ => none }
def fnZigzagRow : OpenClaim := { program := "ytmbpigakjjfbcaa", sum := "f1fb1ac02813c7284ef0aed69be2806295bdba1affa4f720ce9f700639891c4d", func := "loop.example/flatfolding/laws.FnZigzag", spec := "fnZigzag", apart := false }
def FnZigzagSaid : Prop := fnZigzagRow.holds Try.pinned (OpenSpec.ofChange fnZigzagSpec)

/-- ITS FALSE NEIGHBOUR: 'it returns false'. Refute it at one input. -/
def fnZigzagWrong : ChangeSpec := { name := "fnZigzag", fn := fun _ => fun
  | [d] => { results := [.lit (.bool false)], args := [d] }
  | _ => none }
def FnZigzagWrongFalsely : Prop := fnZigzagRow.holds Try.pinned (OpenSpec.ofChange fnZigzagWrong)

/-- 'laws.FnExactStripLayers': WHATEVER THE INPUT: true; the input reads as it did. -/
def fnExactStripLayersSpec : ChangeSpec := { name := "fnExactStripLayers", fn := fun _ => fun
  | [d1, d2, d3] => { results := [.lit (.bool true)], args := [d1, d2, d3] }
  | _ => none }
def fnExactStripLayersRow : OpenClaim := { program := "ytmbpigakjjfbcaa", sum := "f1fb1ac02813c7284ef0aed69be2806295bdba1affa4f720ce9f700639891c4d", func := "loop.example/flatfolding/laws.FnExactStripLayers", spec := "fnExactStripLayers", apart := false }
def FnExactStripLayersSaid : Prop := fnExactStripLayersRow.holds Try.pinned (OpenSpec.ofChange fnExactStripLayersSpec)

/-- ITS FALSE NEIGHBOUR: 'it returns false'. Refute it at one input. -/
def fnExactStripLayersWrong : ChangeSpec := { name := "fnExactStripLayers", fn := fun _ => fun
  | [d1, d2, d3] => { results := [.lit (.bool false)], args := [d1, d2, d3] }
  | _ => none }
def FnExactStripLayersWrongFalsely : Prop := fnExactStripLayersRow.holds Try.pinned (OpenSpec.ofChange fnExactStripLayersWrong)

/-- 'laws.FnExactRingLayers': WHATEVER THE INPUT: true; the input reads as it did. -/
def fnExactRingLayersSpec : ChangeSpec := { name := "fnExactRingLayers", fn := fun _ => fun
  | [d1, d2, d3] => { results := [.lit (.bool true)], args := [d1, d2, d3] }
  | _ => none }
def fnExactRingLayersRow : OpenClaim := { program := "ytmbpigakjjfbcaa", sum := "f1fb1ac02813c7284ef0aed69be2806295bdba1affa4f720ce9f700639891c4d", func := "loop.example/flatfolding/laws.FnExactRingLayers", spec := "fnExactRingLayers", apart := false }
def FnExactRingLayersSaid : Prop := fnExactRingLayersRow.holds Try.pinned (OpenSpec.ofChange fnExactRingLayersSpec)

/-- ITS FALSE NEIGHBOUR: 'it returns false'. Refute it at one input. -/
def fnExactRingLayersWrong : ChangeSpec := { name := "fnExactRingLayers", fn := fun _ => fun
  | [d1, d2, d3] => { results := [.lit (.bool false)], args := [d1, d2, d3] }
  | _ => none }
def FnExactRingLayersWrongFalsely : Prop := fnExactRingLayersRow.holds Try.pinned (OpenSpec.ofChange fnExactRingLayersWrong)

/- THE SECOND FORM. 'bulk': how many values and letters a reading holds, each counted each time it is reached (what is shared counts as often as it is met; a slice's spare places count too). A statement '..UptoSaid' is the law's where the arguments, and the package variables that the reading takes, are together of bulk at most 1048576: NARROWER than '..Said'. Prove '..Said' where nothing that the law and all that it calls make is longer than what came in: it says more and counts as full. Else prove '..UptoSaid'. A law counts once. -/
mutual
def uptoBulk {H : Type} : DataW H → Nat
  | .lit (.string bytes) => bytes.length + 1
  | .lit _ => 1
  | .nil => 1
  | .ptr d => uptoBulk d + 1
  | .slice elems spare => uptoBulkAll elems + uptoBulkAll spare + 1
  | .agg parts => uptoBulkAll parts + 1
  | .iface _ d => uptoBulk d + 1
  | .map entries => uptoBulkEntries entries + 1
  | .held _ => 1
def uptoBulkAll {H : Type} : List (DataW H) → Nat
  | [] => 0
  | d :: r => uptoBulk d + uptoBulkAll r
def uptoBulkEntries {H : Type} : List (Lit × DataW H) → Nat
  | [] => 0
  | x :: r => uptoBulkEntry x + uptoBulkEntries r
def uptoBulkEntry {H : Type} : Lit × DataW H → Nat
  | (.string bytes, d) => bytes.length + uptoBulk d + 1
  | (_, d) => uptoBulk d + 1
 end
def uptoSmall : (H : Type) → List (DataW H) → Bool := fun _ ds => decide (uptoBulkAll ds ≤ 1048576)
def OpenSpec.upto (s : _root_.Go.ChangeSpec) : _root_.Go.OpenSpec := { _root_.Go.OpenSpec.ofChange s with cond := some uptoSmall }

/-- 'laws.FnExactStripValid', WHERE WHAT IT READS IS OF BULK AT MOST 1048576: true; the input reads as it did. -/
def fnExactStripValidUptoRow : OpenClaim := { program := "ytmbpigakjjfbcaa", sum := "f1fb1ac02813c7284ef0aed69be2806295bdba1affa4f720ce9f700639891c4d", func := "loop.example/flatfolding/laws.FnExactStripValid", spec := "fnExactStripValid", apart := false, narrowed := true }
def FnExactStripValidUptoSaid : Prop := fnExactStripValidUptoRow.holds Try.pinned (OpenSpec.upto fnExactStripValidSpec)

/-- 'laws.FnExactRingValid', WHERE WHAT IT READS IS OF BULK AT MOST 1048576: true; the input reads as it did. -/
def fnExactRingValidUptoRow : OpenClaim := { program := "ytmbpigakjjfbcaa", sum := "f1fb1ac02813c7284ef0aed69be2806295bdba1affa4f720ce9f700639891c4d", func := "loop.example/flatfolding/laws.FnExactRingValid", spec := "fnExactRingValid", apart := false, narrowed := true }
def FnExactRingValidUptoSaid : Prop := fnExactRingValidUptoRow.holds Try.pinned (OpenSpec.upto fnExactRingValidSpec)

/-- 'laws.FnExactStripPlaces', WHERE WHAT IT READS IS OF BULK AT MOST 1048576: true; the input reads as it did. -/
def fnExactStripPlacesUptoRow : OpenClaim := { program := "ytmbpigakjjfbcaa", sum := "f1fb1ac02813c7284ef0aed69be2806295bdba1affa4f720ce9f700639891c4d", func := "loop.example/flatfolding/laws.FnExactStripPlaces", spec := "fnExactStripPlaces", apart := false, narrowed := true }
def FnExactStripPlacesUptoSaid : Prop := fnExactStripPlacesUptoRow.holds Try.pinned (OpenSpec.upto fnExactStripPlacesSpec)

/-- 'laws.FnExactStripWide', WHERE WHAT IT READS IS OF BULK AT MOST 1048576: true; the input reads as it did. -/
def fnExactStripWideUptoRow : OpenClaim := { program := "ytmbpigakjjfbcaa", sum := "f1fb1ac02813c7284ef0aed69be2806295bdba1affa4f720ce9f700639891c4d", func := "loop.example/flatfolding/laws.FnExactStripWide", spec := "fnExactStripWide", apart := false, narrowed := true }
def FnExactStripWideUptoSaid : Prop := fnExactStripWideUptoRow.holds Try.pinned (OpenSpec.upto fnExactStripWideSpec)

/-- 'laws.FnExactStripBack', WHERE WHAT IT READS IS OF BULK AT MOST 1048576: true; the input reads as it did. -/
def fnExactStripBackUptoRow : OpenClaim := { program := "ytmbpigakjjfbcaa", sum := "f1fb1ac02813c7284ef0aed69be2806295bdba1affa4f720ce9f700639891c4d", func := "loop.example/flatfolding/laws.FnExactStripBack", spec := "fnExactStripBack", apart := false, narrowed := true }
def FnExactStripBackUptoSaid : Prop := fnExactStripBackUptoRow.holds Try.pinned (OpenSpec.upto fnExactStripBackSpec)

/-- 'laws.FnExactStripFolds', WHERE WHAT IT READS IS OF BULK AT MOST 1048576: true; the input reads as it did. -/
def fnExactStripFoldsUptoRow : OpenClaim := { program := "ytmbpigakjjfbcaa", sum := "f1fb1ac02813c7284ef0aed69be2806295bdba1affa4f720ce9f700639891c4d", func := "loop.example/flatfolding/laws.FnExactStripFolds", spec := "fnExactStripFolds", recurses := true, apart := false, narrowed := true }
def FnExactStripFoldsUptoSaid : Prop := fnExactStripFoldsUptoRow.holds Try.pinned (OpenSpec.upto fnExactStripFoldsSpec)

/-- 'laws.FnPlaces', WHERE WHAT IT READS IS OF BULK AT MOST 1048576: true; the input reads as it did. -/
def fnPlacesUptoRow : OpenClaim := { program := "ytmbpigakjjfbcaa", sum := "f1fb1ac02813c7284ef0aed69be2806295bdba1affa4f720ce9f700639891c4d", func := "loop.example/flatfolding/laws.FnPlaces", spec := "fnPlaces", apart := false, narrowed := true }
def FnPlacesUptoSaid : Prop := fnPlacesUptoRow.holds Try.pinned (OpenSpec.upto fnPlacesSpec)

/-- 'laws.FnStripSteps', WHERE WHAT IT READS IS OF BULK AT MOST 1048576: true; the input reads as it did. -/
def fnStripStepsUptoRow : OpenClaim := { program := "ytmbpigakjjfbcaa", sum := "f1fb1ac02813c7284ef0aed69be2806295bdba1affa4f720ce9f700639891c4d", func := "loop.example/flatfolding/laws.FnStripSteps", spec := "fnStripSteps", recurses := true, apart := false, narrowed := true }
def FnStripStepsUptoSaid : Prop := fnStripStepsUptoRow.holds Try.pinned (OpenSpec.upto fnStripStepsSpec)

/-- 'laws.FnZigzag', WHERE WHAT IT READS IS OF BULK AT MOST 1048576: true; the input reads as it did. -/
def fnZigzagUptoRow : OpenClaim := { program := "ytmbpigakjjfbcaa", sum := "f1fb1ac02813c7284ef0aed69be2806295bdba1affa4f720ce9f700639891c4d", func := "loop.example/flatfolding/laws.FnZigzag", spec := "fnZigzag", apart := false, narrowed := true }
def FnZigzagUptoSaid : Prop := fnZigzagUptoRow.holds Try.pinned (OpenSpec.upto fnZigzagSpec)

/-- 'laws.FnExactStripLayers', WHERE WHAT IT READS IS OF BULK AT MOST 1048576: true; the input reads as it did. -/
def fnExactStripLayersUptoRow : OpenClaim := { program := "ytmbpigakjjfbcaa", sum := "f1fb1ac02813c7284ef0aed69be2806295bdba1affa4f720ce9f700639891c4d", func := "loop.example/flatfolding/laws.FnExactStripLayers", spec := "fnExactStripLayers", apart := false, narrowed := true }
def FnExactStripLayersUptoSaid : Prop := fnExactStripLayersUptoRow.holds Try.pinned (OpenSpec.upto fnExactStripLayersSpec)

/-- 'laws.FnExactRingLayers', WHERE WHAT IT READS IS OF BULK AT MOST 1048576: true; the input reads as it did. -/
def fnExactRingLayersUptoRow : OpenClaim := { program := "ytmbpigakjjfbcaa", sum := "f1fb1ac02813c7284ef0aed69be2806295bdba1affa4f720ce9f700639891c4d", func := "loop.example/flatfolding/laws.FnExactRingLayers", spec := "fnExactRingLayers", apart := false, narrowed := true }
def FnExactRingLayersUptoSaid : Prop := fnExactRingLayersUptoRow.holds Try.pinned (OpenSpec.upto fnExactRingLayersSpec)

end Rows
end Go.Proofs.Ytmbpigakjjfbcaa
