/-
  No cell of these rows narrows 'for every input' (looked for: loops, veiled, ifaces, maps, wideKeys, modest, calm, conditions, laid).
  DERIVED. THE GIVEN ROWS OF THIS SEAT. 12 by the template 'for every input the law returns true; each argument reads behind the call as it read before'; 0 by the template 'total and deterministic' (their statements: YtgabegdoofolnaaTotals.lean).
  GIVEN WITH THE SEED: the statements are not yours to turn. If you find one false, say at which input.
  Laid BY PROGRAM, IN A SANDBOX (cutbox-rows.mjs): the forced cells as the released guide's own fill.sh prints them over the translation df7298eec94f1f2e… (all of the seat's roots in one cut). By AI agents, Wed Nov 11 2026. No macro, syntax, notation, axiom, sorry.
-/
import Derived.Test.YtgabegdoofolnaaChecked
import GoSem.Claim
import GoSem.ClaimJoined
import GoSem.ClaimMapViews
import Derived.JoinedTies
import Derived.KernelRfl
namespace Go.Proofs.Ytgabegdoofolnaa
/- THE CELL 'sum', in the pinned program and in every row, IS THE sha256 OF THE DUMP (.gsa) THAT YtgabegdoofolnaaProg.lean LOADS. Nothing in Lean hashes anything: it is a label: what it is worth is what the hold of that sum in a sandbox is worth. -/
noncomputable def Try.pinned : Pinned := { name := "ytgabegdoofolnaa", sum := "df7298eec94f1f2eb0de909828c99f5f774a4a5df839f68ab52038af02f80be4", checked := Try.checked }
namespace Rows
def none {H : Type} : Left H := { results := [], args := [] }

/-- 'laws.FnExactStampFolds': WHATEVER THE INPUT: true; the input reads as it did. -/
def fnExactStampFoldsSpec : ChangeSpec := { name := "fnExactStampFolds", fn := fun _ => fun
  | [d] => { results := [.lit (.bool true)], args := [d] }
  | _ => none }
def fnExactStampFoldsRow : OpenClaim := { program := "ytgabegdoofolnaa", sum := "df7298eec94f1f2eb0de909828c99f5f774a4a5df839f68ab52038af02f80be4", func := "loop.example/flatfolding/laws.FnExactStampFolds", spec := "fnExactStampFolds", apart := false }
def FnExactStampFoldsSaid : Prop := fnExactStampFoldsRow.holds Try.pinned (OpenSpec.ofChange fnExactStampFoldsSpec)

/-- ITS FALSE NEIGHBOUR: 'it returns false'. Refute it at one input. -/
def fnExactStampFoldsWrong : ChangeSpec := { name := "fnExactStampFolds", fn := fun _ => fun
  | [d] => { results := [.lit (.bool false)], args := [d] }
  | _ => none }
def FnExactStampFoldsWrongFalsely : Prop := fnExactStampFoldsRow.holds Try.pinned (OpenSpec.ofChange fnExactStampFoldsWrong)

/-- 'laws.FnExactStampTurn': WHATEVER THE INPUT: true; the input reads as it did. -/
def fnExactStampTurnSpec : ChangeSpec := { name := "fnExactStampTurn", fn := fun _ => fun
  | [d] => { results := [.lit (.bool true)], args := [d] }
  | _ => none }
def fnExactStampTurnRow : OpenClaim := { program := "ytgabegdoofolnaa", sum := "df7298eec94f1f2eb0de909828c99f5f774a4a5df839f68ab52038af02f80be4", func := "loop.example/flatfolding/laws.FnExactStampTurn", spec := "fnExactStampTurn", apart := false }
def FnExactStampTurnSaid : Prop := fnExactStampTurnRow.holds Try.pinned (OpenSpec.ofChange fnExactStampTurnSpec)

/-- ITS FALSE NEIGHBOUR: 'it returns false'. Refute it at one input. -/
def fnExactStampTurnWrong : ChangeSpec := { name := "fnExactStampTurn", fn := fun _ => fun
  | [d] => { results := [.lit (.bool false)], args := [d] }
  | _ => none }
def FnExactStampTurnWrongFalsely : Prop := fnExactStampTurnRow.holds Try.pinned (OpenSpec.ofChange fnExactStampTurnWrong)

/-- 'laws.FnExactStampBack': WHATEVER THE INPUT: true; the input reads as it did. -/
def fnExactStampBackSpec : ChangeSpec := { name := "fnExactStampBack", fn := fun _ => fun
  | [d] => { results := [.lit (.bool true)], args := [d] }
  | _ => none }
def fnExactStampBackRow : OpenClaim := { program := "ytgabegdoofolnaa", sum := "df7298eec94f1f2eb0de909828c99f5f774a4a5df839f68ab52038af02f80be4", func := "loop.example/flatfolding/laws.FnExactStampBack", spec := "fnExactStampBack", apart := false }
def FnExactStampBackSaid : Prop := fnExactStampBackRow.holds Try.pinned (OpenSpec.ofChange fnExactStampBackSpec)

/-- ITS FALSE NEIGHBOUR: 'it returns false'. Refute it at one input. -/
def fnExactStampBackWrong : ChangeSpec := { name := "fnExactStampBack", fn := fun _ => fun
  | [d] => { results := [.lit (.bool false)], args := [d] }
  | _ => none }
def FnExactStampBackWrongFalsely : Prop := fnExactStampBackRow.holds Try.pinned (OpenSpec.ofChange fnExactStampBackWrong)

/-- 'laws.FnExactStampOver': WHATEVER THE INPUT: true; the input reads as it did. -/
def fnExactStampOverSpec : ChangeSpec := { name := "fnExactStampOver", fn := fun _ => fun
  | [d] => { results := [.lit (.bool true)], args := [d] }
  | _ => none }
def fnExactStampOverRow : OpenClaim := { program := "ytgabegdoofolnaa", sum := "df7298eec94f1f2eb0de909828c99f5f774a4a5df839f68ab52038af02f80be4", func := "loop.example/flatfolding/laws.FnExactStampOver", spec := "fnExactStampOver", apart := false }
def FnExactStampOverSaid : Prop := fnExactStampOverRow.holds Try.pinned (OpenSpec.ofChange fnExactStampOverSpec)

/-- ITS FALSE NEIGHBOUR: 'it returns false'. Refute it at one input. -/
def fnExactStampOverWrong : ChangeSpec := { name := "fnExactStampOver", fn := fun _ => fun
  | [d] => { results := [.lit (.bool false)], args := [d] }
  | _ => none }
def FnExactStampOverWrongFalsely : Prop := fnExactStampOverRow.holds Try.pinned (OpenSpec.ofChange fnExactStampOverWrong)

/-- 'laws.FnExactStampMany': WHATEVER THE INPUT: true; the input reads as it did. -/
def fnExactStampManySpec : ChangeSpec := { name := "fnExactStampMany", fn := fun _ => fun
  | [d] => { results := [.lit (.bool true)], args := [d] }
  | _ => none }
def fnExactStampManyRow : OpenClaim := { program := "ytgabegdoofolnaa", sum := "df7298eec94f1f2eb0de909828c99f5f774a4a5df839f68ab52038af02f80be4", func := "loop.example/flatfolding/laws.FnExactStampMany", spec := "fnExactStampMany", unfollowed := true, recurses := true, apart := false }
def FnExactStampManySaid : Prop := fnExactStampManyRow.holds Try.pinned (OpenSpec.ofChange fnExactStampManySpec)

/-- ITS FALSE NEIGHBOUR: 'it returns false'. Refute it at one input. -/
def fnExactStampManyWrong : ChangeSpec := { name := "fnExactStampMany", fn := fun _ => fun
  | [d] => { results := [.lit (.bool false)], args := [d] }
  | _ => none }
def FnExactStampManyWrongFalsely : Prop := fnExactStampManyRow.holds Try.pinned (OpenSpec.ofChange fnExactStampManyWrong)

/-- 'laws.FnExactStampLow': WHATEVER THE INPUT: true; the input reads as it did. -/
def fnExactStampLowSpec : ChangeSpec := { name := "fnExactStampLow", fn := fun _ => fun
  | [d1, d2] => { results := [.lit (.bool true)], args := [d1, d2] }
  | _ => none }
def fnExactStampLowRow : OpenClaim := { program := "ytgabegdoofolnaa", sum := "df7298eec94f1f2eb0de909828c99f5f774a4a5df839f68ab52038af02f80be4", func := "loop.example/flatfolding/laws.FnExactStampLow", spec := "fnExactStampLow", unfollowed := true, recurses := true, apart := false }
def FnExactStampLowSaid : Prop := fnExactStampLowRow.holds Try.pinned (OpenSpec.ofChange fnExactStampLowSpec)

/-- ITS FALSE NEIGHBOUR: 'it returns false'. Refute it at one input. -/
def fnExactStampLowWrong : ChangeSpec := { name := "fnExactStampLow", fn := fun _ => fun
  | [d1, d2] => { results := [.lit (.bool false)], args := [d1, d2] }
  | _ => none }
def FnExactStampLowWrongFalsely : Prop := fnExactStampLowRow.holds Try.pinned (OpenSpec.ofChange fnExactStampLowWrong)

/-- 'laws.FnExactStampRank': WHATEVER THE INPUT: true; the input reads as it did. -/
def fnExactStampRankSpec : ChangeSpec := { name := "fnExactStampRank", fn := fun _ => fun
  | [d] => { results := [.lit (.bool true)], args := [d] }
  | _ => none }
def fnExactStampRankRow : OpenClaim := { program := "ytgabegdoofolnaa", sum := "df7298eec94f1f2eb0de909828c99f5f774a4a5df839f68ab52038af02f80be4", func := "loop.example/flatfolding/laws.FnExactStampRank", spec := "fnExactStampRank", unfollowed := true, recurses := true, apart := false }
def FnExactStampRankSaid : Prop := fnExactStampRankRow.holds Try.pinned (OpenSpec.ofChange fnExactStampRankSpec)

/-- ITS FALSE NEIGHBOUR: 'it returns false'. Refute it at one input. -/
def fnExactStampRankWrong : ChangeSpec := { name := "fnExactStampRank", fn := fun _ => fun
  | [d] => { results := [.lit (.bool false)], args := [d] }
  | _ => none }
def FnExactStampRankWrongFalsely : Prop := fnExactStampRankRow.holds Try.pinned (OpenSpec.ofChange fnExactStampRankWrong)

/-- 'laws.FnExactStampClasses': WHATEVER THE INPUT: true; the input reads as it did. -/
def fnExactStampClassesSpec : ChangeSpec := { name := "fnExactStampClasses", fn := fun _ => fun
  | [d] => { results := [.lit (.bool true)], args := [d] }
  | _ => none }
def fnExactStampClassesRow : OpenClaim := { program := "ytgabegdoofolnaa", sum := "df7298eec94f1f2eb0de909828c99f5f774a4a5df839f68ab52038af02f80be4", func := "loop.example/flatfolding/laws.FnExactStampClasses", spec := "fnExactStampClasses", unfollowed := true, recurses := true, apart := false }
def FnExactStampClassesSaid : Prop := fnExactStampClassesRow.holds Try.pinned (OpenSpec.ofChange fnExactStampClassesSpec)

/-- ITS FALSE NEIGHBOUR: 'it returns false'. Refute it at one input. -/
def fnExactStampClassesWrong : ChangeSpec := { name := "fnExactStampClasses", fn := fun _ => fun
  | [d] => { results := [.lit (.bool false)], args := [d] }
  | _ => none }
def FnExactStampClassesWrongFalsely : Prop := fnExactStampClassesRow.holds Try.pinned (OpenSpec.ofChange fnExactStampClassesWrong)

/-- 'laws.FnExactStampNext': WHATEVER THE INPUT: true; the input reads as it did. -/
def fnExactStampNextSpec : ChangeSpec := { name := "fnExactStampNext", fn := fun _ => fun
  | [d] => { results := [.lit (.bool true)], args := [d] }
  | _ => none }
def fnExactStampNextRow : OpenClaim := { program := "ytgabegdoofolnaa", sum := "df7298eec94f1f2eb0de909828c99f5f774a4a5df839f68ab52038af02f80be4", func := "loop.example/flatfolding/laws.FnExactStampNext", spec := "fnExactStampNext", unfollowed := true, recurses := true, apart := false }
def FnExactStampNextSaid : Prop := fnExactStampNextRow.holds Try.pinned (OpenSpec.ofChange fnExactStampNextSpec)

/-- ITS FALSE NEIGHBOUR: 'it returns false'. Refute it at one input. -/
def fnExactStampNextWrong : ChangeSpec := { name := "fnExactStampNext", fn := fun _ => fun
  | [d] => { results := [.lit (.bool false)], args := [d] }
  | _ => none }
def FnExactStampNextWrongFalsely : Prop := fnExactStampNextRow.holds Try.pinned (OpenSpec.ofChange fnExactStampNextWrong)

/-- 'laws.FnStampPossible': WHATEVER THE INPUT: true; the input reads as it did. -/
def fnStampPossibleSpec : ChangeSpec := { name := "fnStampPossible", fn := fun _ => fun
  | [d] => { results := [.lit (.bool true)], args := [d] }
  | _ => none }
def fnStampPossibleRow : OpenClaim := { program := "ytgabegdoofolnaa", sum := "df7298eec94f1f2eb0de909828c99f5f774a4a5df839f68ab52038af02f80be4", func := "loop.example/flatfolding/laws.FnStampPossible", spec := "fnStampPossible", recurses := true, apart := false }
def FnStampPossibleSaid : Prop := fnStampPossibleRow.holds Try.pinned (OpenSpec.ofChange fnStampPossibleSpec)

/-- ITS FALSE NEIGHBOUR: 'it returns false'. Refute it at one input. -/
def fnStampPossibleWrong : ChangeSpec := { name := "fnStampPossible", fn := fun _ => fun
  | [d] => { results := [.lit (.bool false)], args := [d] }
  | _ => none }
def FnStampPossibleWrongFalsely : Prop := fnStampPossibleRow.holds Try.pinned (OpenSpec.ofChange fnStampPossibleWrong)

/-- 'laws.FnStampTurn': WHATEVER THE INPUT: true; the input reads as it did. -/
def fnStampTurnSpec : ChangeSpec := { name := "fnStampTurn", fn := fun _ => fun
  | [d] => { results := [.lit (.bool true)], args := [d] }
  | _ => none }
def fnStampTurnRow : OpenClaim := { program := "ytgabegdoofolnaa", sum := "df7298eec94f1f2eb0de909828c99f5f774a4a5df839f68ab52038af02f80be4", func := "loop.example/flatfolding/laws.FnStampTurn", spec := "fnStampTurn", recurses := true, apart := false }
def FnStampTurnSaid : Prop := fnStampTurnRow.holds Try.pinned (OpenSpec.ofChange fnStampTurnSpec)

/-- ITS FALSE NEIGHBOUR: 'it returns false'. Refute it at one input. -/
def fnStampTurnWrong : ChangeSpec := { name := "fnStampTurn", fn := fun _ => fun
  | [d] => { results := [.lit (.bool false)], args := [d] }
  | _ => none }
def FnStampTurnWrongFalsely : Prop := fnStampTurnRow.holds Try.pinned (OpenSpec.ofChange fnStampTurnWrong)

/-- 'laws.FnStampLow': WHATEVER THE INPUT: true; the input reads as it did. -/
def fnStampLowSpec : ChangeSpec := { name := "fnStampLow", fn := fun _ => fun
  | [d] => { results := [.lit (.bool true)], args := [d] }
  | _ => none }
def fnStampLowRow : OpenClaim := { program := "ytgabegdoofolnaa", sum := "df7298eec94f1f2eb0de909828c99f5f774a4a5df839f68ab52038af02f80be4", func := "loop.example/flatfolding/laws.FnStampLow", spec := "fnStampLow", unfollowed := true, recurses := true, apart := false }
def FnStampLowSaid : Prop := fnStampLowRow.holds Try.pinned (OpenSpec.ofChange fnStampLowSpec)

/-- ITS FALSE NEIGHBOUR: 'it returns false'. Refute it at one input. -/
def fnStampLowWrong : ChangeSpec := { name := "fnStampLow", fn := fun _ => fun
  | [d] => { results := [.lit (.bool false)], args := [d] }
  | _ => none }
def FnStampLowWrongFalsely : Prop := fnStampLowRow.holds Try.pinned (OpenSpec.ofChange fnStampLowWrong)

/- THE SECOND FORM. 'bulk': how many values and letters a reading holds, each counted each time it is reached (what is shared counts as often as it is met; a slice's spare places count too). A statement '..UptoSaid' is the law's where the arguments, and the package variables that the reading takes, are together of bulk at most 1048576: NARROWER than '..Said'. Prove '..Said' where nothing that the law and all that it calls make is longer than what came in: it says more and counts as full. Else prove '..UptoSaid'. A law counts once. -/
mutual
def uptoBulk {H : Type} : DataW H → Nat
  | .lit (.string bytes) => bytes.length + 1
  | .lit _ => 1
  | .nil => 1
  | .ptr d => uptoBulk d + 1
  | .slice elems spare => uptoBulkAll elems + uptoBulkAll spare + 1
  | .agg parts => uptoBulkAll parts + 1
  | .iface _ d => uptoBulk d + 1
  | .map entries => uptoBulkEntries entries + 1
  | .held _ => 1
def uptoBulkAll {H : Type} : List (DataW H) → Nat
  | [] => 0
  | d :: r => uptoBulk d + uptoBulkAll r
def uptoBulkEntries {H : Type} : List (Lit × DataW H) → Nat
  | [] => 0
  | x :: r => uptoBulkEntry x + uptoBulkEntries r
def uptoBulkEntry {H : Type} : Lit × DataW H → Nat
  | (.string bytes, d) => bytes.length + uptoBulk d + 1
  | (_, d) => uptoBulk d + 1
 end
def uptoSmall : (H : Type) → List (DataW H) → Bool := fun _ ds => decide (uptoBulkAll ds ≤ 1048576)
def OpenSpec.upto (s : _root_.Go.ChangeSpec) : _root_.Go.OpenSpec := { _root_.Go.OpenSpec.ofChange s with cond := some uptoSmall }

/-- 'laws.FnExactStampFolds', WHERE WHAT IT READS IS OF BULK AT MOST 1048576: true; the input reads as it did. -/
def fnExactStampFoldsUptoRow : OpenClaim := { program := "ytgabegdoofolnaa", sum := "df7298eec94f1f2eb0de909828c99f5f774a4a5df839f68ab52038af02f80be4", func := "loop.example/flatfolding/laws.FnExactStampFolds", spec := "fnExactStampFolds", apart := false, narrowed := true }
def FnExactStampFoldsUptoSaid : Prop := fnExactStampFoldsUptoRow.holds Try.pinned (OpenSpec.upto fnExactStampFoldsSpec)

/-- 'laws.FnExactStampTurn', WHERE WHAT IT READS IS OF BULK AT MOST 1048576: true; the input reads as it did. -/
def fnExactStampTurnUptoRow : OpenClaim := { program := "ytgabegdoofolnaa", sum := "df7298eec94f1f2eb0de909828c99f5f774a4a5df839f68ab52038af02f80be4", func := "loop.example/flatfolding/laws.FnExactStampTurn", spec := "fnExactStampTurn", apart := false, narrowed := true }
def FnExactStampTurnUptoSaid : Prop := fnExactStampTurnUptoRow.holds Try.pinned (OpenSpec.upto fnExactStampTurnSpec)

/-- 'laws.FnExactStampBack', WHERE WHAT IT READS IS OF BULK AT MOST 1048576: true; the input reads as it did. -/
def fnExactStampBackUptoRow : OpenClaim := { program := "ytgabegdoofolnaa", sum := "df7298eec94f1f2eb0de909828c99f5f774a4a5df839f68ab52038af02f80be4", func := "loop.example/flatfolding/laws.FnExactStampBack", spec := "fnExactStampBack", apart := false, narrowed := true }
def FnExactStampBackUptoSaid : Prop := fnExactStampBackUptoRow.holds Try.pinned (OpenSpec.upto fnExactStampBackSpec)

/-- 'laws.FnExactStampOver', WHERE WHAT IT READS IS OF BULK AT MOST 1048576: true; the input reads as it did. -/
def fnExactStampOverUptoRow : OpenClaim := { program := "ytgabegdoofolnaa", sum := "df7298eec94f1f2eb0de909828c99f5f774a4a5df839f68ab52038af02f80be4", func := "loop.example/flatfolding/laws.FnExactStampOver", spec := "fnExactStampOver", apart := false, narrowed := true }
def FnExactStampOverUptoSaid : Prop := fnExactStampOverUptoRow.holds Try.pinned (OpenSpec.upto fnExactStampOverSpec)

/-- 'laws.FnExactStampMany', WHERE WHAT IT READS IS OF BULK AT MOST 1048576: true; the input reads as it did. -/
def fnExactStampManyUptoRow : OpenClaim := { program := "ytgabegdoofolnaa", sum := "df7298eec94f1f2eb0de909828c99f5f774a4a5df839f68ab52038af02f80be4", func := "loop.example/flatfolding/laws.FnExactStampMany", spec := "fnExactStampMany", unfollowed := true, recurses := true, apart := false, narrowed := true }
def FnExactStampManyUptoSaid : Prop := fnExactStampManyUptoRow.holds Try.pinned (OpenSpec.upto fnExactStampManySpec)

/-- 'laws.FnExactStampLow', WHERE WHAT IT READS IS OF BULK AT MOST 1048576: true; the input reads as it did. -/
def fnExactStampLowUptoRow : OpenClaim := { program := "ytgabegdoofolnaa", sum := "df7298eec94f1f2eb0de909828c99f5f774a4a5df839f68ab52038af02f80be4", func := "loop.example/flatfolding/laws.FnExactStampLow", spec := "fnExactStampLow", unfollowed := true, recurses := true, apart := false, narrowed := true }
def FnExactStampLowUptoSaid : Prop := fnExactStampLowUptoRow.holds Try.pinned (OpenSpec.upto fnExactStampLowSpec)

/-- 'laws.FnExactStampRank', WHERE WHAT IT READS IS OF BULK AT MOST 1048576: true; the input reads as it did. -/
def fnExactStampRankUptoRow : OpenClaim := { program := "ytgabegdoofolnaa", sum := "df7298eec94f1f2eb0de909828c99f5f774a4a5df839f68ab52038af02f80be4", func := "loop.example/flatfolding/laws.FnExactStampRank", spec := "fnExactStampRank", unfollowed := true, recurses := true, apart := false, narrowed := true }
def FnExactStampRankUptoSaid : Prop := fnExactStampRankUptoRow.holds Try.pinned (OpenSpec.upto fnExactStampRankSpec)

/-- 'laws.FnExactStampClasses', WHERE WHAT IT READS IS OF BULK AT MOST 1048576: true; the input reads as it did. -/
def fnExactStampClassesUptoRow : OpenClaim := { program := "ytgabegdoofolnaa", sum := "df7298eec94f1f2eb0de909828c99f5f774a4a5df839f68ab52038af02f80be4", func := "loop.example/flatfolding/laws.FnExactStampClasses", spec := "fnExactStampClasses", unfollowed := true, recurses := true, apart := false, narrowed := true }
def FnExactStampClassesUptoSaid : Prop := fnExactStampClassesUptoRow.holds Try.pinned (OpenSpec.upto fnExactStampClassesSpec)

/-- 'laws.FnExactStampNext', WHERE WHAT IT READS IS OF BULK AT MOST 1048576: true; the input reads as it did. -/
def fnExactStampNextUptoRow : OpenClaim := { program := "ytgabegdoofolnaa", sum := "df7298eec94f1f2eb0de909828c99f5f774a4a5df839f68ab52038af02f80be4", func := "loop.example/flatfolding/laws.FnExactStampNext", spec := "fnExactStampNext", unfollowed := true, recurses := true, apart := false, narrowed := true }
def FnExactStampNextUptoSaid : Prop := fnExactStampNextUptoRow.holds Try.pinned (OpenSpec.upto fnExactStampNextSpec)

/-- 'laws.FnStampPossible', WHERE WHAT IT READS IS OF BULK AT MOST 1048576: true; the input reads as it did. -/
def fnStampPossibleUptoRow : OpenClaim := { program := "ytgabegdoofolnaa", sum := "df7298eec94f1f2eb0de909828c99f5f774a4a5df839f68ab52038af02f80be4", func := "loop.example/flatfolding/laws.FnStampPossible", spec := "fnStampPossible", recurses := true, apart := false, narrowed := true }
def FnStampPossibleUptoSaid : Prop := fnStampPossibleUptoRow.holds Try.pinned (OpenSpec.upto fnStampPossibleSpec)

/-- 'laws.FnStampTurn', WHERE WHAT IT READS IS OF BULK AT MOST 1048576: true; the input reads as it did. -/
def fnStampTurnUptoRow : OpenClaim := { program := "ytgabegdoofolnaa", sum := "df7298eec94f1f2eb0de909828c99f5f774a4a5df839f68ab52038af02f80be4", func := "loop.example/flatfolding/laws.FnStampTurn", spec := "fnStampTurn", recurses := true, apart := false, narrowed := true }
def FnStampTurnUptoSaid : Prop := fnStampTurnUptoRow.holds Try.pinned (OpenSpec.upto fnStampTurnSpec)

/-- 'laws.FnStampLow', WHERE WHAT IT READS IS OF BULK AT MOST 1048576: true; the input reads as it did. -/
def fnStampLowUptoRow : OpenClaim := { program := "ytgabegdoofolnaa", sum := "df7298eec94f1f2eb0de909828c99f5f774a4a5df839f68ab52038af02f80be4", func := "loop.example/flatfolding/laws.FnStampLow", spec := "fnStampLow", unfollowed := true, recurses := true, apart := false, narrowed := true }
def FnStampLowUptoSaid : Prop := fnStampLowUptoRow.holds Try.pinned (OpenSpec.upto fnStampLowSpec)

end Rows
end Go.Proofs.Ytgabegdoofolnaa
