/-
  No cell of these rows narrows 'for every input' (looked for: loops, veiled, ifaces, maps, wideKeys, modest, calm, conditions, laid).
  DERIVED. THE GIVEN ROWS OF THIS SEAT. 12 by the template 'for every input the law returns true; each argument reads behind the call as it read before'; 0 by the template 'total and deterministic' (their statements: YtkhdmihmpkocpaaTotals.lean).
  GIVEN WITH THE SEED: the statements are not yours to turn. If you find one false, say at which input.
  Laid BY PROGRAM, IN A SANDBOX (cutbox-rows.mjs): the forced cells as the released guide's own fill.sh prints them over the translation 30d8ece45e8539f1… (all of the seat's roots in one cut). By AI agents, Wed Nov 11 2026. No macro, syntax, notation, axiom, sorry.
-/
import Derived.Test.YtkhdmihmpkocpaaChecked
import GoSem.Claim
import GoSem.ClaimJoined
import GoSem.ClaimMapViews
import Derived.JoinedTies
import Derived.KernelRfl
namespace Go.Proofs.Ytkhdmihmpkocpaa
/- THE CELL 'sum', in the pinned program and in every row, IS THE sha256 OF THE DUMP (.gsa) THAT YtkhdmihmpkocpaaProg.lean LOADS. Nothing in Lean hashes anything: it is a label: what it is worth is what the hold of that sum in a sandbox is worth. -/
noncomputable def Try.pinned : Pinned := { name := "ytkhdmihmpkocpaa", sum := "30d8ece45e8539f1b76a7fbbb92a0dbfa46fe5d1f670cfb0fa7dd7b8d83d3ab8", checked := Try.checked }
namespace Rows
def none {H : Type} : Left H := { results := [], args := [] }

/-- 'laws.FnExactConstants': WHATEVER THE INPUT: true; the input reads as it did. -/
def fnExactConstantsSpec : ChangeSpec := { name := "fnExactConstants", fn := fun _ => fun
  | [] => { results := [.lit (.bool true)], args := [] }
  | _ => none }
def fnExactConstantsRow : OpenClaim := { program := "ytkhdmihmpkocpaa", sum := "30d8ece45e8539f1b76a7fbbb92a0dbfa46fe5d1f670cfb0fa7dd7b8d83d3ab8", func := "loop.example/flatfolding/laws.FnExactConstants", spec := "fnExactConstants", apart := false }
def FnExactConstantsSaid : Prop := fnExactConstantsRow.holds Try.pinned (OpenSpec.ofChange fnExactConstantsSpec)

/-- ITS FALSE NEIGHBOUR: 'it returns false'. Refute it at one input. -/
def fnExactConstantsWrong : ChangeSpec := { name := "fnExactConstants", fn := fun _ => fun
  | [] => { results := [.lit (.bool false)], args := [] }
  | _ => none }
def FnExactConstantsWrongFalsely : Prop := fnExactConstantsRow.holds Try.pinned (OpenSpec.ofChange fnExactConstantsWrong)

/-- 'laws.FnExactFoldsValid': WHATEVER THE INPUT: true; the input reads as it did. -/
def fnExactFoldsValidSpec : ChangeSpec := { name := "fnExactFoldsValid", fn := fun _ => fun
  | [d1, d2] => { results := [.lit (.bool true)], args := [d1, d2] }
  | _ => none }
def fnExactFoldsValidRow : OpenClaim := { program := "ytkhdmihmpkocpaa", sum := "30d8ece45e8539f1b76a7fbbb92a0dbfa46fe5d1f670cfb0fa7dd7b8d83d3ab8", func := "loop.example/flatfolding/laws.FnExactFoldsValid", spec := "fnExactFoldsValid", apart := false }
def FnExactFoldsValidSaid : Prop := fnExactFoldsValidRow.holds Try.pinned (OpenSpec.ofChange fnExactFoldsValidSpec)

/-- ITS FALSE NEIGHBOUR: 'it returns false'. Refute it at one input. -/
def fnExactFoldsValidWrong : ChangeSpec := { name := "fnExactFoldsValid", fn := fun _ => fun
  | [d1, d2] => { results := [.lit (.bool false)], args := [d1, d2] }
  | _ => none }
def FnExactFoldsValidWrongFalsely : Prop := fnExactFoldsValidRow.holds Try.pinned (OpenSpec.ofChange fnExactFoldsValidWrong)

/-- 'laws.FnExactFoldsBalance': WHATEVER THE INPUT: true; the input reads as it did. -/
def fnExactFoldsBalanceSpec : ChangeSpec := { name := "fnExactFoldsBalance", fn := fun _ => fun
  | [d] => { results := [.lit (.bool true)], args := [d] }
  | _ => none }
def fnExactFoldsBalanceRow : OpenClaim := { program := "ytkhdmihmpkocpaa", sum := "30d8ece45e8539f1b76a7fbbb92a0dbfa46fe5d1f670cfb0fa7dd7b8d83d3ab8", func := "loop.example/flatfolding/laws.FnExactFoldsBalance", spec := "fnExactFoldsBalance", apart := false }
def FnExactFoldsBalanceSaid : Prop := fnExactFoldsBalanceRow.holds Try.pinned (OpenSpec.ofChange fnExactFoldsBalanceSpec)

/-- ITS FALSE NEIGHBOUR: 'it returns false'. Refute it at one input. -/
def fnExactFoldsBalanceWrong : ChangeSpec := { name := "fnExactFoldsBalance", fn := fun _ => fun
  | [d] => { results := [.lit (.bool false)], args := [d] }
  | _ => none }
def FnExactFoldsBalanceWrongFalsely : Prop := fnExactFoldsBalanceRow.holds Try.pinned (OpenSpec.ofChange fnExactFoldsBalanceWrong)

/-- 'laws.FnExactFoldsSwap': WHATEVER THE INPUT: true; the input reads as it did. -/
def fnExactFoldsSwapSpec : ChangeSpec := { name := "fnExactFoldsSwap", fn := fun _ => fun
  | [d] => { results := [.lit (.bool true)], args := [d] }
  | _ => none }
def fnExactFoldsSwapRow : OpenClaim := { program := "ytkhdmihmpkocpaa", sum := "30d8ece45e8539f1b76a7fbbb92a0dbfa46fe5d1f670cfb0fa7dd7b8d83d3ab8", func := "loop.example/flatfolding/laws.FnExactFoldsSwap", spec := "fnExactFoldsSwap", apart := false }
def FnExactFoldsSwapSaid : Prop := fnExactFoldsSwapRow.holds Try.pinned (OpenSpec.ofChange fnExactFoldsSwapSpec)

/-- ITS FALSE NEIGHBOUR: 'it returns false'. Refute it at one input. -/
def fnExactFoldsSwapWrong : ChangeSpec := { name := "fnExactFoldsSwap", fn := fun _ => fun
  | [d] => { results := [.lit (.bool false)], args := [d] }
  | _ => none }
def FnExactFoldsSwapWrongFalsely : Prop := fnExactFoldsSwapRow.holds Try.pinned (OpenSpec.ofChange fnExactFoldsSwapWrong)

/-- 'laws.FnExactAnglesValid': WHATEVER THE INPUT: true; the input reads as it did. -/
def fnExactAnglesValidSpec : ChangeSpec := { name := "fnExactAnglesValid", fn := fun _ => fun
  | [d] => { results := [.lit (.bool true)], args := [d] }
  | _ => none }
def fnExactAnglesValidRow : OpenClaim := { program := "ytkhdmihmpkocpaa", sum := "30d8ece45e8539f1b76a7fbbb92a0dbfa46fe5d1f670cfb0fa7dd7b8d83d3ab8", func := "loop.example/flatfolding/laws.FnExactAnglesValid", spec := "fnExactAnglesValid", apart := false }
def FnExactAnglesValidSaid : Prop := fnExactAnglesValidRow.holds Try.pinned (OpenSpec.ofChange fnExactAnglesValidSpec)

/-- ITS FALSE NEIGHBOUR: 'it returns false'. Refute it at one input. -/
def fnExactAnglesValidWrong : ChangeSpec := { name := "fnExactAnglesValid", fn := fun _ => fun
  | [d] => { results := [.lit (.bool false)], args := [d] }
  | _ => none }
def FnExactAnglesValidWrongFalsely : Prop := fnExactAnglesValidRow.holds Try.pinned (OpenSpec.ofChange fnExactAnglesValidWrong)

/-- 'laws.FnExactAnglesCloses': WHATEVER THE INPUT: true; the input reads as it did. -/
def fnExactAnglesClosesSpec : ChangeSpec := { name := "fnExactAnglesCloses", fn := fun _ => fun
  | [d] => { results := [.lit (.bool true)], args := [d] }
  | _ => none }
def fnExactAnglesClosesRow : OpenClaim := { program := "ytkhdmihmpkocpaa", sum := "30d8ece45e8539f1b76a7fbbb92a0dbfa46fe5d1f670cfb0fa7dd7b8d83d3ab8", func := "loop.example/flatfolding/laws.FnExactAnglesCloses", spec := "fnExactAnglesCloses", apart := false }
def FnExactAnglesClosesSaid : Prop := fnExactAnglesClosesRow.holds Try.pinned (OpenSpec.ofChange fnExactAnglesClosesSpec)

/-- ITS FALSE NEIGHBOUR: 'it returns false'. Refute it at one input. -/
def fnExactAnglesClosesWrong : ChangeSpec := { name := "fnExactAnglesCloses", fn := fun _ => fun
  | [d] => { results := [.lit (.bool false)], args := [d] }
  | _ => none }
def FnExactAnglesClosesWrongFalsely : Prop := fnExactAnglesClosesRow.holds Try.pinned (OpenSpec.ofChange fnExactAnglesClosesWrong)

/-- 'laws.FnExactAnglesTurn': WHATEVER THE INPUT: true; the input reads as it did. -/
def fnExactAnglesTurnSpec : ChangeSpec := { name := "fnExactAnglesTurn", fn := fun _ => fun
  | [d1, d2] => { results := [.lit (.bool true)], args := [d1, d2] }
  | _ => none }
def fnExactAnglesTurnRow : OpenClaim := { program := "ytkhdmihmpkocpaa", sum := "30d8ece45e8539f1b76a7fbbb92a0dbfa46fe5d1f670cfb0fa7dd7b8d83d3ab8", func := "loop.example/flatfolding/laws.FnExactAnglesTurn", spec := "fnExactAnglesTurn", apart := false }
def FnExactAnglesTurnSaid : Prop := fnExactAnglesTurnRow.holds Try.pinned (OpenSpec.ofChange fnExactAnglesTurnSpec)

/-- ITS FALSE NEIGHBOUR: 'it returns false'. Refute it at one input. -/
def fnExactAnglesTurnWrong : ChangeSpec := { name := "fnExactAnglesTurn", fn := fun _ => fun
  | [d1, d2] => { results := [.lit (.bool false)], args := [d1, d2] }
  | _ => none }
def FnExactAnglesTurnWrongFalsely : Prop := fnExactAnglesTurnRow.holds Try.pinned (OpenSpec.ofChange fnExactAnglesTurnWrong)

/-- 'laws.FnSwap': WHATEVER THE INPUT: true; the input reads as it did. -/
def fnSwapSpec : ChangeSpec := { name := "fnSwap", fn := fun _ => fun
  | [d] => { results := [.lit (.bool true)], args := [d] }
  | _ => none }
def fnSwapRow : OpenClaim := { program := "ytkhdmihmpkocpaa", sum := "30d8ece45e8539f1b76a7fbbb92a0dbfa46fe5d1f670cfb0fa7dd7b8d83d3ab8", func := "loop.example/flatfolding/laws.FnSwap", spec := "fnSwap", apart := false }
def FnSwapSaid : Prop := fnSwapRow.holds Try.pinned (OpenSpec.ofChange fnSwapSpec)

/-- ITS FALSE NEIGHBOUR: 'it returns false'. Refute it at one input. -/
def fnSwapWrong : ChangeSpec := { name := "fnSwap", fn := fun _ => fun
  | [d] => { results := [.lit (.bool false)], args := [d] }
  | _ => none }
def FnSwapWrongFalsely : Prop := fnSwapRow.holds Try.pinned (OpenSpec.ofChange fnSwapWrong)

/-- 'laws.FnExactAnglesBack': WHATEVER THE INPUT: true; the input reads as it did. -/
def fnExactAnglesBackSpec : ChangeSpec := { name := "fnExactAnglesBack", fn := fun _ => fun
  | [d] => { results := [.lit (.bool true)], args := [d] }
  | _ => none }
def fnExactAnglesBackRow : OpenClaim := { program := "ytkhdmihmpkocpaa", sum := "30d8ece45e8539f1b76a7fbbb92a0dbfa46fe5d1f670cfb0fa7dd7b8d83d3ab8", func := "loop.example/flatfolding/laws.FnExactAnglesBack", spec := "fnExactAnglesBack", apart := false }
def FnExactAnglesBackSaid : Prop := fnExactAnglesBackRow.holds Try.pinned (OpenSpec.ofChange fnExactAnglesBackSpec)

/-- ITS FALSE NEIGHBOUR: 'it returns false'. Refute it at one input. -/
def fnExactAnglesBackWrong : ChangeSpec := { name := "fnExactAnglesBack", fn := fun _ => fun
  | [d] => { results := [.lit (.bool false)], args := [d] }
  | _ => none }
def FnExactAnglesBackWrongFalsely : Prop := fnExactAnglesBackRow.holds Try.pinned (OpenSpec.ofChange fnExactAnglesBackWrong)

/-- 'laws.FnTurn': WHATEVER THE INPUT: true; the input reads as it did. -/
def fnTurnSpec : ChangeSpec := { name := "fnTurn", fn := fun _ => fun
  | [d] => { results := [.lit (.bool true)], args := [d] }
  | _ => none }
def fnTurnRow : OpenClaim := { program := "ytkhdmihmpkocpaa", sum := "30d8ece45e8539f1b76a7fbbb92a0dbfa46fe5d1f670cfb0fa7dd7b8d83d3ab8", func := "loop.example/flatfolding/laws.FnTurn", spec := "fnTurn", apart := false }
def FnTurnSaid : Prop := fnTurnRow.holds Try.pinned (OpenSpec.ofChange fnTurnSpec)

/-- ITS FALSE NEIGHBOUR: 'it returns false'. Refute it at one input. -/
def fnTurnWrong : ChangeSpec := { name := "fnTurn", fn := fun _ => fun
  | [d] => { results := [.lit (.bool false)], args := [d] }
  | _ => none }
def FnTurnWrongFalsely : Prop := fnTurnRow.holds Try.pinned (OpenSpec.ofChange fnTurnWrong)

/-- 'laws.FnCloses': WHATEVER THE INPUT: true; the input reads as it did. -/
def fnClosesSpec : ChangeSpec := { name := "fnCloses", fn := fun _ => fun
  | [d1, d2] => { results := [.lit (.bool true)], args := [d1, d2] }
  | _ => none }
def fnClosesRow : OpenClaim := { program := "ytkhdmihmpkocpaa", sum := "30d8ece45e8539f1b76a7fbbb92a0dbfa46fe5d1f670cfb0fa7dd7b8d83d3ab8", func := "loop.example/flatfolding/laws.FnCloses", spec := "fnCloses", apart := false }
def FnClosesSaid : Prop := fnClosesRow.holds Try.pinned (OpenSpec.ofChange fnClosesSpec)

/-- ITS FALSE NEIGHBOUR: 'it returns false'. Refute it at one input. -/
def fnClosesWrong : ChangeSpec := { name := "fnCloses", fn := fun _ => fun
  | [d1, d2] => { results := [.lit (.bool false)], args := [d1, d2] }
  | _ => none }
def FnClosesWrongFalsely : Prop := fnClosesRow.holds Try.pinned (OpenSpec.ofChange fnClosesWrong)

/-- 'laws.FnExactVertexCrimps': WHATEVER THE INPUT: true; the input reads as it did. -/
def fnExactVertexCrimpsSpec : ChangeSpec := { name := "fnExactVertexCrimps", fn := fun _ => fun
  | [d1, d2] => { results := [.lit (.bool true)], args := [d1, d2] }
  | _ => none }
def fnExactVertexCrimpsRow : OpenClaim := { program := "ytkhdmihmpkocpaa", sum := "30d8ece45e8539f1b76a7fbbb92a0dbfa46fe5d1f670cfb0fa7dd7b8d83d3ab8", func := "loop.example/flatfolding/laws.FnExactVertexCrimps", spec := "fnExactVertexCrimps", apart := false }
def FnExactVertexCrimpsSaid : Prop := fnExactVertexCrimpsRow.holds Try.pinned (OpenSpec.ofChange fnExactVertexCrimpsSpec)

/-- ITS FALSE NEIGHBOUR: 'it returns false'. Refute it at one input. -/
def fnExactVertexCrimpsWrong : ChangeSpec := { name := "fnExactVertexCrimps", fn := fun _ => fun
  | [d1, d2] => { results := [.lit (.bool false)], args := [d1, d2] }
  | _ => none }
def FnExactVertexCrimpsWrongFalsely : Prop := fnExactVertexCrimpsRow.holds Try.pinned (OpenSpec.ofChange fnExactVertexCrimpsWrong)

/- THE SECOND FORM. 'bulk': how many values and letters a reading holds, each counted each time it is reached (what is shared counts as often as it is met; a slice's spare places count too). A statement '..UptoSaid' is the law's where the arguments, and the package variables that the reading takes, are together of bulk at most 1048576: NARROWER than '..Said'. Prove '..Said' where nothing that the law and all that it calls make is longer than what came in: it says more and counts as full. Else prove '..UptoSaid'. A law counts once. -/
mutual
def uptoBulk {H : Type} : DataW H → Nat
  | .lit (.string bytes) => bytes.length + 1
  | .lit _ => 1
  | .nil => 1
  | .ptr d => uptoBulk d + 1
  | .slice elems spare => uptoBulkAll elems + uptoBulkAll spare + 1
  | .agg parts => uptoBulkAll parts + 1
  | .iface _ d => uptoBulk d + 1
  | .map entries => uptoBulkEntries entries + 1
  | .held _ => 1
def uptoBulkAll {H : Type} : List (DataW H) → Nat
  | [] => 0
  | d :: r => uptoBulk d + uptoBulkAll r
def uptoBulkEntries {H : Type} : List (Lit × DataW H) → Nat
  | [] => 0
  | x :: r => uptoBulkEntry x + uptoBulkEntries r
def uptoBulkEntry {H : Type} : Lit × DataW H → Nat
  | (.string bytes, d) => bytes.length + uptoBulk d + 1
  | (_, d) => uptoBulk d + 1
 end
def uptoSmall : (H : Type) → List (DataW H) → Bool := fun _ ds => decide (uptoBulkAll ds ≤ 1048576)
def OpenSpec.upto (s : _root_.Go.ChangeSpec) : _root_.Go.OpenSpec := { _root_.Go.OpenSpec.ofChange s with cond := some uptoSmall }

/-- 'laws.FnExactConstants', WHERE WHAT IT READS IS OF BULK AT MOST 1048576: true; the input reads as it did. -/
def fnExactConstantsUptoRow : OpenClaim := { program := "ytkhdmihmpkocpaa", sum := "30d8ece45e8539f1b76a7fbbb92a0dbfa46fe5d1f670cfb0fa7dd7b8d83d3ab8", func := "loop.example/flatfolding/laws.FnExactConstants", spec := "fnExactConstants", apart := false, narrowed := true }
def FnExactConstantsUptoSaid : Prop := fnExactConstantsUptoRow.holds Try.pinned (OpenSpec.upto fnExactConstantsSpec)

/-- 'laws.FnExactFoldsValid', WHERE WHAT IT READS IS OF BULK AT MOST 1048576: true; the input reads as it did. -/
def fnExactFoldsValidUptoRow : OpenClaim := { program := "ytkhdmihmpkocpaa", sum := "30d8ece45e8539f1b76a7fbbb92a0dbfa46fe5d1f670cfb0fa7dd7b8d83d3ab8", func := "loop.example/flatfolding/laws.FnExactFoldsValid", spec := "fnExactFoldsValid", apart := false, narrowed := true }
def FnExactFoldsValidUptoSaid : Prop := fnExactFoldsValidUptoRow.holds Try.pinned (OpenSpec.upto fnExactFoldsValidSpec)

/-- 'laws.FnExactFoldsBalance', WHERE WHAT IT READS IS OF BULK AT MOST 1048576: true; the input reads as it did. -/
def fnExactFoldsBalanceUptoRow : OpenClaim := { program := "ytkhdmihmpkocpaa", sum := "30d8ece45e8539f1b76a7fbbb92a0dbfa46fe5d1f670cfb0fa7dd7b8d83d3ab8", func := "loop.example/flatfolding/laws.FnExactFoldsBalance", spec := "fnExactFoldsBalance", apart := false, narrowed := true }
def FnExactFoldsBalanceUptoSaid : Prop := fnExactFoldsBalanceUptoRow.holds Try.pinned (OpenSpec.upto fnExactFoldsBalanceSpec)

/-- 'laws.FnExactFoldsSwap', WHERE WHAT IT READS IS OF BULK AT MOST 1048576: true; the input reads as it did. -/
def fnExactFoldsSwapUptoRow : OpenClaim := { program := "ytkhdmihmpkocpaa", sum := "30d8ece45e8539f1b76a7fbbb92a0dbfa46fe5d1f670cfb0fa7dd7b8d83d3ab8", func := "loop.example/flatfolding/laws.FnExactFoldsSwap", spec := "fnExactFoldsSwap", apart := false, narrowed := true }
def FnExactFoldsSwapUptoSaid : Prop := fnExactFoldsSwapUptoRow.holds Try.pinned (OpenSpec.upto fnExactFoldsSwapSpec)

/-- 'laws.FnExactAnglesValid', WHERE WHAT IT READS IS OF BULK AT MOST 1048576: true; the input reads as it did. -/
def fnExactAnglesValidUptoRow : OpenClaim := { program := "ytkhdmihmpkocpaa", sum := "30d8ece45e8539f1b76a7fbbb92a0dbfa46fe5d1f670cfb0fa7dd7b8d83d3ab8", func := "loop.example/flatfolding/laws.FnExactAnglesValid", spec := "fnExactAnglesValid", apart := false, narrowed := true }
def FnExactAnglesValidUptoSaid : Prop := fnExactAnglesValidUptoRow.holds Try.pinned (OpenSpec.upto fnExactAnglesValidSpec)

/-- 'laws.FnExactAnglesCloses', WHERE WHAT IT READS IS OF BULK AT MOST 1048576: true; the input reads as it did. -/
def fnExactAnglesClosesUptoRow : OpenClaim := { program := "ytkhdmihmpkocpaa", sum := "30d8ece45e8539f1b76a7fbbb92a0dbfa46fe5d1f670cfb0fa7dd7b8d83d3ab8", func := "loop.example/flatfolding/laws.FnExactAnglesCloses", spec := "fnExactAnglesCloses", apart := false, narrowed := true }
def FnExactAnglesClosesUptoSaid : Prop := fnExactAnglesClosesUptoRow.holds Try.pinned (OpenSpec.upto fnExactAnglesClosesSpec)

/-- 'laws.FnExactAnglesTurn', WHERE WHAT IT READS IS OF BULK AT MOST 1048576: true; the input reads as it did. -/
def fnExactAnglesTurnUptoRow : OpenClaim := { program := "ytkhdmihmpkocpaa", sum := "30d8ece45e8539f1b76a7fbbb92a0dbfa46fe5d1f670cfb0fa7dd7b8d83d3ab8", func := "loop.example/flatfolding/laws.FnExactAnglesTurn", spec := "fnExactAnglesTurn", apart := false, narrowed := true }
def FnExactAnglesTurnUptoSaid : Prop := fnExactAnglesTurnUptoRow.holds Try.pinned (OpenSpec.upto fnExactAnglesTurnSpec)

/-- 'laws.FnSwap', WHERE WHAT IT READS IS OF BULK AT MOST 1048576: true; the input reads as it did. -/
def fnSwapUptoRow : OpenClaim := { program := "ytkhdmihmpkocpaa", sum := "30d8ece45e8539f1b76a7fbbb92a0dbfa46fe5d1f670cfb0fa7dd7b8d83d3ab8", func := "loop.example/flatfolding/laws.FnSwap", spec := "fnSwap", apart := false, narrowed := true }
def FnSwapUptoSaid : Prop := fnSwapUptoRow.holds Try.pinned (OpenSpec.upto fnSwapSpec)

/-- 'laws.FnExactAnglesBack', WHERE WHAT IT READS IS OF BULK AT MOST 1048576: true; the input reads as it did. -/
def fnExactAnglesBackUptoRow : OpenClaim := { program := "ytkhdmihmpkocpaa", sum := "30d8ece45e8539f1b76a7fbbb92a0dbfa46fe5d1f670cfb0fa7dd7b8d83d3ab8", func := "loop.example/flatfolding/laws.FnExactAnglesBack", spec := "fnExactAnglesBack", apart := false, narrowed := true }
def FnExactAnglesBackUptoSaid : Prop := fnExactAnglesBackUptoRow.holds Try.pinned (OpenSpec.upto fnExactAnglesBackSpec)

/-- 'laws.FnTurn', WHERE WHAT IT READS IS OF BULK AT MOST 1048576: true; the input reads as it did. -/
def fnTurnUptoRow : OpenClaim := { program := "ytkhdmihmpkocpaa", sum := "30d8ece45e8539f1b76a7fbbb92a0dbfa46fe5d1f670cfb0fa7dd7b8d83d3ab8", func := "loop.example/flatfolding/laws.FnTurn", spec := "fnTurn", apart := false, narrowed := true }
def FnTurnUptoSaid : Prop := fnTurnUptoRow.holds Try.pinned (OpenSpec.upto fnTurnSpec)

/-- 'laws.FnCloses', WHERE WHAT IT READS IS OF BULK AT MOST 1048576: true; the input reads as it did. -/
def fnClosesUptoRow : OpenClaim := { program := "ytkhdmihmpkocpaa", sum := "30d8ece45e8539f1b76a7fbbb92a0dbfa46fe5d1f670cfb0fa7dd7b8d83d3ab8", func := "loop.example/flatfolding/laws.FnCloses", spec := "fnCloses", apart := false, narrowed := true }
def FnClosesUptoSaid : Prop := fnClosesUptoRow.holds Try.pinned (OpenSpec.upto fnClosesSpec)

/-- 'laws.FnExactVertexCrimps', WHERE WHAT IT READS IS OF BULK AT MOST 1048576: true; the input reads as it did. -/
def fnExactVertexCrimpsUptoRow : OpenClaim := { program := "ytkhdmihmpkocpaa", sum := "30d8ece45e8539f1b76a7fbbb92a0dbfa46fe5d1f670cfb0fa7dd7b8d83d3ab8", func := "loop.example/flatfolding/laws.FnExactVertexCrimps", spec := "fnExactVertexCrimps", apart := false, narrowed := true }
def FnExactVertexCrimpsUptoSaid : Prop := fnExactVertexCrimpsUptoRow.holds Try.pinned (OpenSpec.upto fnExactVertexCrimpsSpec)

end Rows
end Go.Proofs.Ytkhdmihmpkocpaa
