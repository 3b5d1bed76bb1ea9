/-
  No cell of these rows narrows 'for every input' (looked for: loops, veiled, ifaces, maps, wideKeys, modest, calm, conditions, laid).
  DERIVED. THE GIVEN ROWS OF THIS SEAT. 12 by the template 'for every input the law returns true; each argument reads behind the call as it read before'; 0 by the template 'total and deterministic' (their statements: YteigbpmfjiofiaaTotals.lean).
  GIVEN WITH THE SEED: the statements are not yours to turn. If you find one false, say at which input.
  Laid BY PROGRAM, IN A SANDBOX (cutbox-rows.mjs): the forced cells as the released guide's own fill.sh prints them over the translation f9916a066fd15e0b… (all of the seat's roots in one cut). By AI agents, Wed Nov 11 2026. No macro, syntax, notation, axiom, sorry.
-/
import Derived.Test.YteigbpmfjiofiaaChecked
import GoSem.Claim
import GoSem.ClaimJoined
import GoSem.ClaimMapViews
import Derived.JoinedTies
import Derived.KernelRfl
namespace Go.Proofs.Yteigbpmfjiofiaa
/- THE CELL 'sum', in the pinned program and in every row, IS THE sha256 OF THE DUMP (.gsa) THAT YteigbpmfjiofiaaProg.lean LOADS. Nothing in Lean hashes anything: it is a label: what it is worth is what the hold of that sum in a sandbox is worth. -/
noncomputable def Try.pinned : Pinned := { name := "yteigbpmfjiofiaa", sum := "f9916a066fd15e0beac29d00bffb8af3585f068d7afe9601fe05b00b3199ad11", checked := Try.checked }
namespace Rows
def none {H : Type} : Left H := { results := [], args := [] }

/-- 'laws.FnExactRingLayers': WHATEVER THE INPUT: true; the input reads as it did. -/
def fnExactRingLayersSpec : ChangeSpec := { name := "fnExactRingLayers", fn := fun _ => fun
  | [d1, d2, d3] => { results := [.lit (.bool true)], args := [d1, d2, d3] }
  | _ => none }
def fnExactRingLayersRow : OpenClaim := { program := "yteigbpmfjiofiaa", sum := "f9916a066fd15e0beac29d00bffb8af3585f068d7afe9601fe05b00b3199ad11", func := "loop.example/flatfolding/laws.FnExactRingLayers", spec := "fnExactRingLayers", apart := false }
def FnExactRingLayersSaid : Prop := fnExactRingLayersRow.holds Try.pinned (OpenSpec.ofChange fnExactRingLayersSpec)

/-- ITS FALSE NEIGHBOUR: 'it returns false'. Refute it at one input. -/
def fnExactRingLayersWrong : ChangeSpec := { name := "fnExactRingLayers", fn := fun _ => fun
  | [d1, d2, d3] => { results := [.lit (.bool false)], args := [d1, d2, d3] }
  | _ => none }
def FnExactRingLayersWrongFalsely : Prop := fnExactRingLayersRow.holds Try.pinned (OpenSpec.ofChange fnExactRingLayersWrong)

/-- 'laws.FnExactStripMany': WHATEVER THE INPUT: true; the input reads as it did. -/
def fnExactStripManySpec : ChangeSpec := { name := "fnExactStripMany", fn := fun _ => fun
  | [d1, d2] => { results := [.lit (.bool true)], args := [d1, d2] }
  | _ => none }
def fnExactStripManyRow : OpenClaim := { program := "yteigbpmfjiofiaa", sum := "f9916a066fd15e0beac29d00bffb8af3585f068d7afe9601fe05b00b3199ad11", func := "loop.example/flatfolding/laws.FnExactStripMany", spec := "fnExactStripMany", unfollowed := true, recurses := true, apart := false }
def FnExactStripManySaid : Prop := fnExactStripManyRow.holds Try.pinned (OpenSpec.ofChange fnExactStripManySpec)

/-- ITS FALSE NEIGHBOUR: 'it returns false'. Refute it at one input. -/
def fnExactStripManyWrong : ChangeSpec := { name := "fnExactStripMany", fn := fun _ => fun
  | [d1, d2] => { results := [.lit (.bool false)], args := [d1, d2] }
  | _ => none }
def FnExactStripManyWrongFalsely : Prop := fnExactStripManyRow.holds Try.pinned (OpenSpec.ofChange fnExactStripManyWrong)

/-- 'laws.FnExactRingMany': WHATEVER THE INPUT: true; the input reads as it did. -/
def fnExactRingManySpec : ChangeSpec := { name := "fnExactRingMany", fn := fun _ => fun
  | [d1, d2] => { results := [.lit (.bool true)], args := [d1, d2] }
  | _ => none }
def fnExactRingManyRow : OpenClaim := { program := "yteigbpmfjiofiaa", sum := "f9916a066fd15e0beac29d00bffb8af3585f068d7afe9601fe05b00b3199ad11", func := "loop.example/flatfolding/laws.FnExactRingMany", spec := "fnExactRingMany", unfollowed := true, recurses := true, apart := false }
def FnExactRingManySaid : Prop := fnExactRingManyRow.holds Try.pinned (OpenSpec.ofChange fnExactRingManySpec)

/-- ITS FALSE NEIGHBOUR: 'it returns false'. Refute it at one input. -/
def fnExactRingManyWrong : ChangeSpec := { name := "fnExactRingMany", fn := fun _ => fun
  | [d1, d2] => { results := [.lit (.bool false)], args := [d1, d2] }
  | _ => none }
def FnExactRingManyWrongFalsely : Prop := fnExactRingManyRow.holds Try.pinned (OpenSpec.ofChange fnExactRingManyWrong)

/-- 'laws.FnExactStripFirst': WHATEVER THE INPUT: true; the input reads as it did. -/
def fnExactStripFirstSpec : ChangeSpec := { name := "fnExactStripFirst", fn := fun _ => fun
  | [d1, d2] => { results := [.lit (.bool true)], args := [d1, d2] }
  | _ => none }
def fnExactStripFirstRow : OpenClaim := { program := "yteigbpmfjiofiaa", sum := "f9916a066fd15e0beac29d00bffb8af3585f068d7afe9601fe05b00b3199ad11", func := "loop.example/flatfolding/laws.FnExactStripFirst", spec := "fnExactStripFirst", unfollowed := true, recurses := true, apart := false }
def FnExactStripFirstSaid : Prop := fnExactStripFirstRow.holds Try.pinned (OpenSpec.ofChange fnExactStripFirstSpec)

/-- ITS FALSE NEIGHBOUR: 'it returns false'. Refute it at one input. -/
def fnExactStripFirstWrong : ChangeSpec := { name := "fnExactStripFirst", fn := fun _ => fun
  | [d1, d2] => { results := [.lit (.bool false)], args := [d1, d2] }
  | _ => none }
def FnExactStripFirstWrongFalsely : Prop := fnExactStripFirstRow.holds Try.pinned (OpenSpec.ofChange fnExactStripFirstWrong)

/-- 'laws.FnExactRingFirst': WHATEVER THE INPUT: true; the input reads as it did. -/
def fnExactRingFirstSpec : ChangeSpec := { name := "fnExactRingFirst", fn := fun _ => fun
  | [d1, d2] => { results := [.lit (.bool true)], args := [d1, d2] }
  | _ => none }
def fnExactRingFirstRow : OpenClaim := { program := "yteigbpmfjiofiaa", sum := "f9916a066fd15e0beac29d00bffb8af3585f068d7afe9601fe05b00b3199ad11", func := "loop.example/flatfolding/laws.FnExactRingFirst", spec := "fnExactRingFirst", unfollowed := true, recurses := true, apart := false }
def FnExactRingFirstSaid : Prop := fnExactRingFirstRow.holds Try.pinned (OpenSpec.ofChange fnExactRingFirstSpec)

/-- ITS FALSE NEIGHBOUR: 'it returns false'. Refute it at one input. -/
def fnExactRingFirstWrong : ChangeSpec := { name := "fnExactRingFirst", fn := fun _ => fun
  | [d1, d2] => { results := [.lit (.bool false)], args := [d1, d2] }
  | _ => none }
def FnExactRingFirstWrongFalsely : Prop := fnExactRingFirstRow.holds Try.pinned (OpenSpec.ofChange fnExactRingFirstWrong)

/-- 'laws.FnRingStripMany': WHATEVER THE INPUT: true; the input reads as it did. -/
def fnRingStripManySpec : ChangeSpec := { name := "fnRingStripMany", fn := fun _ => fun
  | [d] => { results := [.lit (.bool true)], args := [d] }
  | _ => none }
def fnRingStripManyRow : OpenClaim := { program := "yteigbpmfjiofiaa", sum := "f9916a066fd15e0beac29d00bffb8af3585f068d7afe9601fe05b00b3199ad11", func := "loop.example/flatfolding/laws.FnRingStripMany", spec := "fnRingStripMany", unfollowed := true, recurses := true, apart := false }
def FnRingStripManySaid : Prop := fnRingStripManyRow.holds Try.pinned (OpenSpec.ofChange fnRingStripManySpec)

/-- ITS FALSE NEIGHBOUR: 'it returns false'. Refute it at one input. -/
def fnRingStripManyWrong : ChangeSpec := { name := "fnRingStripMany", fn := fun _ => fun
  | [d] => { results := [.lit (.bool false)], args := [d] }
  | _ => none }
def FnRingStripManyWrongFalsely : Prop := fnRingStripManyRow.holds Try.pinned (OpenSpec.ofChange fnRingStripManyWrong)

/-- 'laws.FnRingStrip': WHATEVER THE INPUT: true; the input reads as it did. -/
def fnRingStripSpec : ChangeSpec := { name := "fnRingStrip", fn := fun _ => fun
  | [d] => { results := [.lit (.bool true)], args := [d] }
  | _ => none }
def fnRingStripRow : OpenClaim := { program := "yteigbpmfjiofiaa", sum := "f9916a066fd15e0beac29d00bffb8af3585f068d7afe9601fe05b00b3199ad11", func := "loop.example/flatfolding/laws.FnRingStrip", spec := "fnRingStrip", recurses := true, apart := false }
def FnRingStripSaid : Prop := fnRingStripRow.holds Try.pinned (OpenSpec.ofChange fnRingStripSpec)

/-- ITS FALSE NEIGHBOUR: 'it returns false'. Refute it at one input. -/
def fnRingStripWrong : ChangeSpec := { name := "fnRingStrip", fn := fun _ => fun
  | [d] => { results := [.lit (.bool false)], args := [d] }
  | _ => none }
def FnRingStripWrongFalsely : Prop := fnRingStripRow.holds Try.pinned (OpenSpec.ofChange fnRingStripWrong)

/-- 'laws.FnRingTurn': WHATEVER THE INPUT: true; the input reads as it did. -/
def fnRingTurnSpec : ChangeSpec := { name := "fnRingTurn", fn := fun _ => fun
  | [d] => { results := [.lit (.bool true)], args := [d] }
  | _ => none }
def fnRingTurnRow : OpenClaim := { program := "yteigbpmfjiofiaa", sum := "f9916a066fd15e0beac29d00bffb8af3585f068d7afe9601fe05b00b3199ad11", func := "loop.example/flatfolding/laws.FnRingTurn", spec := "fnRingTurn", unfollowed := true, recurses := true, apart := false }
def FnRingTurnSaid : Prop := fnRingTurnRow.holds Try.pinned (OpenSpec.ofChange fnRingTurnSpec)

/-- ITS FALSE NEIGHBOUR: 'it returns false'. Refute it at one input. -/
def fnRingTurnWrong : ChangeSpec := { name := "fnRingTurn", fn := fun _ => fun
  | [d] => { results := [.lit (.bool false)], args := [d] }
  | _ => none }
def FnRingTurnWrongFalsely : Prop := fnRingTurnRow.holds Try.pinned (OpenSpec.ofChange fnRingTurnWrong)

/-- 'laws.FnLayersTwice': WHATEVER THE INPUT: true; the input reads as it did. -/
def fnLayersTwiceSpec : ChangeSpec := { name := "fnLayersTwice", fn := fun _ => fun
  | [d1, d2] => { results := [.lit (.bool true)], args := [d1, d2] }
  | _ => none }
def fnLayersTwiceRow : OpenClaim := { program := "yteigbpmfjiofiaa", sum := "f9916a066fd15e0beac29d00bffb8af3585f068d7afe9601fe05b00b3199ad11", func := "loop.example/flatfolding/laws.FnLayersTwice", spec := "fnLayersTwice", recurses := true, apart := false }
def FnLayersTwiceSaid : Prop := fnLayersTwiceRow.holds Try.pinned (OpenSpec.ofChange fnLayersTwiceSpec)

/-- ITS FALSE NEIGHBOUR: 'it returns false'. Refute it at one input. -/
def fnLayersTwiceWrong : ChangeSpec := { name := "fnLayersTwice", fn := fun _ => fun
  | [d1, d2] => { results := [.lit (.bool false)], args := [d1, d2] }
  | _ => none }
def FnLayersTwiceWrongFalsely : Prop := fnLayersTwiceRow.holds Try.pinned (OpenSpec.ofChange fnLayersTwiceWrong)

/-- 'laws.FnLayersOver': WHATEVER THE INPUT: true; the input reads as it did. -/
def fnLayersOverSpec : ChangeSpec := { name := "fnLayersOver", fn := fun _ => fun
  | [d1, d2] => { results := [.lit (.bool true)], args := [d1, d2] }
  | _ => none }
def fnLayersOverRow : OpenClaim := { program := "yteigbpmfjiofiaa", sum := "f9916a066fd15e0beac29d00bffb8af3585f068d7afe9601fe05b00b3199ad11", func := "loop.example/flatfolding/laws.FnLayersOver", spec := "fnLayersOver", recurses := true, apart := false }
def FnLayersOverSaid : Prop := fnLayersOverRow.holds Try.pinned (OpenSpec.ofChange fnLayersOverSpec)

/-- ITS FALSE NEIGHBOUR: 'it returns false'. Refute it at one input. -/
def fnLayersOverWrong : ChangeSpec := { name := "fnLayersOver", fn := fun _ => fun
  | [d1, d2] => { results := [.lit (.bool false)], args := [d1, d2] }
  | _ => none }
def FnLayersOverWrongFalsely : Prop := fnLayersOverRow.holds Try.pinned (OpenSpec.ofChange fnLayersOverWrong)

/-- 'laws.FnStripFirst': WHATEVER THE INPUT: true; the input reads as it did. -/
def fnStripFirstSpec : ChangeSpec := { name := "fnStripFirst", fn := fun _ => fun
  | [d] => { results := [.lit (.bool true)], args := [d] }
  | _ => none }
def fnStripFirstRow : OpenClaim := { program := "yteigbpmfjiofiaa", sum := "f9916a066fd15e0beac29d00bffb8af3585f068d7afe9601fe05b00b3199ad11", func := "loop.example/flatfolding/laws.FnStripFirst", spec := "fnStripFirst", unfollowed := true, recurses := true, apart := false }
def FnStripFirstSaid : Prop := fnStripFirstRow.holds Try.pinned (OpenSpec.ofChange fnStripFirstSpec)

/-- ITS FALSE NEIGHBOUR: 'it returns false'. Refute it at one input. -/
def fnStripFirstWrong : ChangeSpec := { name := "fnStripFirst", fn := fun _ => fun
  | [d] => { results := [.lit (.bool false)], args := [d] }
  | _ => none }
def FnStripFirstWrongFalsely : Prop := fnStripFirstRow.holds Try.pinned (OpenSpec.ofChange fnStripFirstWrong)

/-- 'laws.FnStripBack': WHATEVER THE INPUT: true; the input reads as it did. -/
def fnStripBackSpec : ChangeSpec := { name := "fnStripBack", fn := fun _ => fun
  | [d] => { results := [.lit (.bool true)], args := [d] }
  | _ => none }
def fnStripBackRow : OpenClaim := { program := "yteigbpmfjiofiaa", sum := "f9916a066fd15e0beac29d00bffb8af3585f068d7afe9601fe05b00b3199ad11", func := "loop.example/flatfolding/laws.FnStripBack", spec := "fnStripBack", unfollowed := true, recurses := true, apart := false }
def FnStripBackSaid : Prop := fnStripBackRow.holds Try.pinned (OpenSpec.ofChange fnStripBackSpec)

/-- ITS FALSE NEIGHBOUR: 'it returns false'. Refute it at one input. -/
def fnStripBackWrong : ChangeSpec := { name := "fnStripBack", fn := fun _ => fun
  | [d] => { results := [.lit (.bool false)], args := [d] }
  | _ => none }
def FnStripBackWrongFalsely : Prop := fnStripBackRow.holds Try.pinned (OpenSpec.ofChange fnStripBackWrong)

/- THE SECOND FORM. 'bulk': how many values and letters a reading holds, each counted each time it is reached (what is shared counts as often as it is met; a slice's spare places count too). A statement '..UptoSaid' is the law's where the arguments, and the package variables that the reading takes, are together of bulk at most 1048576: NARROWER than '..Said'. Prove '..Said' where nothing that the law and all that it calls make is longer than what came in: it says more and counts as full. Else prove '..UptoSaid'. A law counts once. -/
mutual
def uptoBulk {H : Type} : DataW H → Nat
  | .lit (.string bytes) => bytes.length + 1
  | .lit _ => 1
  | .nil => 1
  | .ptr d => uptoBulk d + 1
  | .slice elems spare => uptoBulkAll elems + uptoBulkAll spare + 1
  | .agg parts => uptoBulkAll parts + 1
  | .iface _ d => uptoBulk d + 1
  | .map entries => uptoBulkEntries entries + 1
  | .held _ => 1
def uptoBulkAll {H : Type} : List (DataW H) → Nat
  | [] => 0
  | d :: r => uptoBulk d + uptoBulkAll r
def uptoBulkEntries {H : Type} : List (Lit × DataW H) → Nat
  | [] => 0
  | x :: r => uptoBulkEntry x + uptoBulkEntries r
def uptoBulkEntry {H : Type} : Lit × DataW H → Nat
  | (.string bytes, d) => bytes.length + uptoBulk d + 1
  | (_, d) => uptoBulk d + 1
 end
def uptoSmall : (H : Type) → List (DataW H) → Bool := fun _ ds => decide (uptoBulkAll ds ≤ 1048576)
def OpenSpec.upto (s : _root_.Go.ChangeSpec) : _root_.Go.OpenSpec := { _root_.Go.OpenSpec.ofChange s with cond := some uptoSmall }

/-- 'laws.FnExactRingLayers', WHERE WHAT IT READS IS OF BULK AT MOST 1048576: true; the input reads as it did. -/
def fnExactRingLayersUptoRow : OpenClaim := { program := "yteigbpmfjiofiaa", sum := "f9916a066fd15e0beac29d00bffb8af3585f068d7afe9601fe05b00b3199ad11", func := "loop.example/flatfolding/laws.FnExactRingLayers", spec := "fnExactRingLayers", apart := false, narrowed := true }
def FnExactRingLayersUptoSaid : Prop := fnExactRingLayersUptoRow.holds Try.pinned (OpenSpec.upto fnExactRingLayersSpec)

/-- 'laws.FnExactStripMany', WHERE WHAT IT READS IS OF BULK AT MOST 1048576: true; the input reads as it did. -/
def fnExactStripManyUptoRow : OpenClaim := { program := "yteigbpmfjiofiaa", sum := "f9916a066fd15e0beac29d00bffb8af3585f068d7afe9601fe05b00b3199ad11", func := "loop.example/flatfolding/laws.FnExactStripMany", spec := "fnExactStripMany", unfollowed := true, recurses := true, apart := false, narrowed := true }
def FnExactStripManyUptoSaid : Prop := fnExactStripManyUptoRow.holds Try.pinned (OpenSpec.upto fnExactStripManySpec)

/-- 'laws.FnExactRingMany', WHERE WHAT IT READS IS OF BULK AT MOST 1048576: true; the input reads as it did. -/
def fnExactRingManyUptoRow : OpenClaim := { program := "yteigbpmfjiofiaa", sum := "f9916a066fd15e0beac29d00bffb8af3585f068d7afe9601fe05b00b3199ad11", func := "loop.example/flatfolding/laws.FnExactRingMany", spec := "fnExactRingMany", unfollowed := true, recurses := true, apart := false, narrowed := true }
def FnExactRingManyUptoSaid : Prop := fnExactRingManyUptoRow.holds Try.pinned (OpenSpec.upto fnExactRingManySpec)

/-- 'laws.FnExactStripFirst', WHERE WHAT IT READS IS OF BULK AT MOST 1048576: true; the input reads as it did. -/
def fnExactStripFirstUptoRow : OpenClaim := { program := "yteigbpmfjiofiaa", sum := "f9916a066fd15e0beac29d00bffb8af3585f068d7afe9601fe05b00b3199ad11", func := "loop.example/flatfolding/laws.FnExactStripFirst", spec := "fnExactStripFirst", unfollowed := true, recurses := true, apart := false, narrowed := true }
def FnExactStripFirstUptoSaid : Prop := fnExactStripFirstUptoRow.holds Try.pinned (OpenSpec.upto fnExactStripFirstSpec)

/-- 'laws.FnExactRingFirst', WHERE WHAT IT READS IS OF BULK AT MOST 1048576: true; the input reads as it did. -/
def fnExactRingFirstUptoRow : OpenClaim := { program := "yteigbpmfjiofiaa", sum := "f9916a066fd15e0beac29d00bffb8af3585f068d7afe9601fe05b00b3199ad11", func := "loop.example/flatfolding/laws.FnExactRingFirst", spec := "fnExactRingFirst", unfollowed := true, recurses := true, apart := false, narrowed := true }
def FnExactRingFirstUptoSaid : Prop := fnExactRingFirstUptoRow.holds Try.pinned (OpenSpec.upto fnExactRingFirstSpec)

/-- 'laws.FnRingStripMany', WHERE WHAT IT READS IS OF BULK AT MOST 1048576: true; the input reads as it did. -/
def fnRingStripManyUptoRow : OpenClaim := { program := "yteigbpmfjiofiaa", sum := "f9916a066fd15e0beac29d00bffb8af3585f068d7afe9601fe05b00b3199ad11", func := "loop.example/flatfolding/laws.FnRingStripMany", spec := "fnRingStripMany", unfollowed := true, recurses := true, apart := false, narrowed := true }
def FnRingStripManyUptoSaid : Prop := fnRingStripManyUptoRow.holds Try.pinned (OpenSpec.upto fnRingStripManySpec)

/-- 'laws.FnRingStrip', WHERE WHAT IT READS IS OF BULK AT MOST 1048576: true; the input reads as it did. -/
def fnRingStripUptoRow : OpenClaim := { program := "yteigbpmfjiofiaa", sum := "f9916a066fd15e0beac29d00bffb8af3585f068d7afe9601fe05b00b3199ad11", func := "loop.example/flatfolding/laws.FnRingStrip", spec := "fnRingStrip", recurses := true, apart := false, narrowed := true }
def FnRingStripUptoSaid : Prop := fnRingStripUptoRow.holds Try.pinned (OpenSpec.upto fnRingStripSpec)

/-- 'laws.FnRingTurn', WHERE WHAT IT READS IS OF BULK AT MOST 1048576: true; the input reads as it did. -/
def fnRingTurnUptoRow : OpenClaim := { program := "yteigbpmfjiofiaa", sum := "f9916a066fd15e0beac29d00bffb8af3585f068d7afe9601fe05b00b3199ad11", func := "loop.example/flatfolding/laws.FnRingTurn", spec := "fnRingTurn", unfollowed := true, recurses := true, apart := false, narrowed := true }
def FnRingTurnUptoSaid : Prop := fnRingTurnUptoRow.holds Try.pinned (OpenSpec.upto fnRingTurnSpec)

/-- 'laws.FnLayersTwice', WHERE WHAT IT READS IS OF BULK AT MOST 1048576: true; the input reads as it did. -/
def fnLayersTwiceUptoRow : OpenClaim := { program := "yteigbpmfjiofiaa", sum := "f9916a066fd15e0beac29d00bffb8af3585f068d7afe9601fe05b00b3199ad11", func := "loop.example/flatfolding/laws.FnLayersTwice", spec := "fnLayersTwice", recurses := true, apart := false, narrowed := true }
def FnLayersTwiceUptoSaid : Prop := fnLayersTwiceUptoRow.holds Try.pinned (OpenSpec.upto fnLayersTwiceSpec)

/-- 'laws.FnLayersOver', WHERE WHAT IT READS IS OF BULK AT MOST 1048576: true; the input reads as it did. -/
def fnLayersOverUptoRow : OpenClaim := { program := "yteigbpmfjiofiaa", sum := "f9916a066fd15e0beac29d00bffb8af3585f068d7afe9601fe05b00b3199ad11", func := "loop.example/flatfolding/laws.FnLayersOver", spec := "fnLayersOver", recurses := true, apart := false, narrowed := true }
def FnLayersOverUptoSaid : Prop := fnLayersOverUptoRow.holds Try.pinned (OpenSpec.upto fnLayersOverSpec)

/-- 'laws.FnStripFirst', WHERE WHAT IT READS IS OF BULK AT MOST 1048576: true; the input reads as it did. -/
def fnStripFirstUptoRow : OpenClaim := { program := "yteigbpmfjiofiaa", sum := "f9916a066fd15e0beac29d00bffb8af3585f068d7afe9601fe05b00b3199ad11", func := "loop.example/flatfolding/laws.FnStripFirst", spec := "fnStripFirst", unfollowed := true, recurses := true, apart := false, narrowed := true }
def FnStripFirstUptoSaid : Prop := fnStripFirstUptoRow.holds Try.pinned (OpenSpec.upto fnStripFirstSpec)

/-- 'laws.FnStripBack', WHERE WHAT IT READS IS OF BULK AT MOST 1048576: true; the input reads as it did. -/
def fnStripBackUptoRow : OpenClaim := { program := "yteigbpmfjiofiaa", sum := "f9916a066fd15e0beac29d00bffb8af3585f068d7afe9601fe05b00b3199ad11", func := "loop.example/flatfolding/laws.FnStripBack", spec := "fnStripBack", unfollowed := true, recurses := true, apart := false, narrowed := true }
def FnStripBackUptoSaid : Prop := fnStripBackUptoRow.holds Try.pinned (OpenSpec.upto fnStripBackSpec)

end Rows
end Go.Proofs.Yteigbpmfjiofiaa
