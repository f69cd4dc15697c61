/-
  No cell of these rows narrows 'for every input' (looked for: loops, veiled, ifaces, maps, wideKeys, modest, calm, conditions, laid).
  DERIVED. THE GIVEN ROWS OF THIS SEAT. 5 by the template 'for every input the law returns true; each argument reads behind the call as it read before'; 0 by the template 'total and deterministic' (their statements: YtmmlmcanjacngaaTotals.lean).
  GIVEN WITH THE SEED: the statements are not yours to turn. If you find one false, say at which input.
  Laid BY PROGRAM, IN A SANDBOX (cutbox-rows.mjs): the forced cells as the released guide's own fill.sh prints them over the translation 9f008ae5303514fb… (all of the seat's roots in one cut). By AI agents, Wed Nov 11 2026. No macro, syntax, notation, axiom, sorry.
-/
import Derived.Test.YtmmlmcanjacngaaChecked
import GoSem.Claim
import GoSem.ClaimJoined
import GoSem.ClaimMapViews
import Derived.JoinedTies
import Derived.KernelRfl
namespace Go.Proofs.Ytmmlmcanjacngaa
/- THE CELL 'sum', in the pinned program and in every row, IS THE sha256 OF THE DUMP (.gsa) THAT YtmmlmcanjacngaaProg.lean LOADS. Nothing in Lean hashes anything: it is a label: what it is worth is what the hold of that sum in a sandbox is worth. -/
noncomputable def Try.pinned : Pinned := { name := "ytmmlmcanjacngaa", sum := "9f008ae5303514fb78bbdf652b8b4bd6fb4ee33a2e9266eae76a9d535c8df141", checked := Try.checked }
namespace Rows
def none {H : Type} : Left H := { results := [], args := [] }

/-- 'stepstonelaw01.NotchNums': WHATEVER THE INPUT: true; the input reads as it did. -/
def notchNumsSpec : ChangeSpec := { name := "notchNums", fn := fun _ => fun
  | [d1, d2] => { results := [.lit (.bool true)], args := [d1, d2] }
  | _ => none }
def notchNumsRow : OpenClaim := { program := "ytmmlmcanjacngaa", sum := "9f008ae5303514fb78bbdf652b8b4bd6fb4ee33a2e9266eae76a9d535c8df141", func := "stepstone/stepstonelaw01.NotchNums", spec := "notchNums", apart := false }
def NotchNumsSaid : Prop := notchNumsRow.holds Try.pinned (OpenSpec.ofChange notchNumsSpec)

/-- ITS FALSE NEIGHBOUR: 'it returns false'. Refute it at one input. -/
def notchNumsWrong : ChangeSpec := { name := "notchNums", fn := fun _ => fun
  | [d1, d2] => { results := [.lit (.bool false)], args := [d1, d2] }
  | _ => none }
def NotchNumsWrongFalsely : Prop := notchNumsRow.holds Try.pinned (OpenSpec.ofChange notchNumsWrong)

/-- 'stepstonelaw01.NotchOrder': WHATEVER THE INPUT: true; the input reads as it did. -/
def notchOrderSpec : ChangeSpec := { name := "notchOrder", fn := fun _ => fun
  | [d] => { results := [.lit (.bool true)], args := [d] }
  | _ => none }
def notchOrderRow : OpenClaim := { program := "ytmmlmcanjacngaa", sum := "9f008ae5303514fb78bbdf652b8b4bd6fb4ee33a2e9266eae76a9d535c8df141", func := "stepstone/stepstonelaw01.NotchOrder", spec := "notchOrder", apart := false }
def NotchOrderSaid : Prop := notchOrderRow.holds Try.pinned (OpenSpec.ofChange notchOrderSpec)

/-- ITS FALSE NEIGHBOUR: 'it returns false'. Refute it at one input. -/
def notchOrderWrong : ChangeSpec := { name := "notchOrder", fn := fun _ => fun
  | [d] => { results := [.lit (.bool false)], args := [d] }
  | _ => none }
def NotchOrderWrongFalsely : Prop := notchOrderRow.holds Try.pinned (OpenSpec.ofChange notchOrderWrong)

/-- 'stepstonelaw01.NotchPieces': WHATEVER THE INPUT: true; the input reads as it did. -/
def notchPiecesSpec : ChangeSpec := { name := "notchPieces", fn := fun _ => fun
  | [d1, d2] => { results := [.lit (.bool true)], args := [d1, d2] }
  | _ => none }
def notchPiecesRow : OpenClaim := { program := "ytmmlmcanjacngaa", sum := "9f008ae5303514fb78bbdf652b8b4bd6fb4ee33a2e9266eae76a9d535c8df141", func := "stepstone/stepstonelaw01.NotchPieces", spec := "notchPieces", apart := false }
def NotchPiecesSaid : Prop := notchPiecesRow.holds Try.pinned (OpenSpec.ofChange notchPiecesSpec)

/-- ITS FALSE NEIGHBOUR: 'it returns false'. Refute it at one input. -/
def notchPiecesWrong : ChangeSpec := { name := "notchPieces", fn := fun _ => fun
  | [d1, d2] => { results := [.lit (.bool false)], args := [d1, d2] }
  | _ => none }
def NotchPiecesWrongFalsely : Prop := notchPiecesRow.holds Try.pinned (OpenSpec.ofChange notchPiecesWrong)

/-- 'stepstonelaw01.NotchReads': WHATEVER THE INPUT: true; the input reads as it did. -/
def notchReadsSpec : ChangeSpec := { name := "notchReads", fn := fun _ => fun
  | [d1, d2] => { results := [.lit (.bool true)], args := [d1, d2] }
  | _ => none }
def notchReadsRow : OpenClaim := { program := "ytmmlmcanjacngaa", sum := "9f008ae5303514fb78bbdf652b8b4bd6fb4ee33a2e9266eae76a9d535c8df141", func := "stepstone/stepstonelaw01.NotchReads", spec := "notchReads", apart := false }
def NotchReadsSaid : Prop := notchReadsRow.holds Try.pinned (OpenSpec.ofChange notchReadsSpec)

/-- ITS FALSE NEIGHBOUR: 'it returns false'. Refute it at one input. -/
def notchReadsWrong : ChangeSpec := { name := "notchReads", fn := fun _ => fun
  | [d1, d2] => { results := [.lit (.bool false)], args := [d1, d2] }
  | _ => none }
def NotchReadsWrongFalsely : Prop := notchReadsRow.holds Try.pinned (OpenSpec.ofChange notchReadsWrong)

/-- 'stepstonelaw01.NotchBack': WHATEVER THE INPUT: true; the input reads as it did. -/
def notchBackSpec : ChangeSpec := { name := "notchBack", fn := fun _ => fun
  | [d] => { results := [.lit (.bool true)], args := [d] }
  | _ => none }
def notchBackRow : OpenClaim := { program := "ytmmlmcanjacngaa", sum := "9f008ae5303514fb78bbdf652b8b4bd6fb4ee33a2e9266eae76a9d535c8df141", func := "stepstone/stepstonelaw01.NotchBack", spec := "notchBack", apart := false }
def NotchBackSaid : Prop := notchBackRow.holds Try.pinned (OpenSpec.ofChange notchBackSpec)

/-- ITS FALSE NEIGHBOUR: 'it returns false'. Refute it at one input. -/
def notchBackWrong : ChangeSpec := { name := "notchBack", fn := fun _ => fun
  | [d] => { results := [.lit (.bool false)], args := [d] }
  | _ => none }
def NotchBackWrongFalsely : Prop := notchBackRow.holds Try.pinned (OpenSpec.ofChange notchBackWrong)

/- THE SECOND FORM. 'bulk': how many values and letters a reading holds, each counted each time it is reached (what is shared counts as often as it is met; a slice's spare places count too). A statement '..UptoSaid' is the law's where the arguments, and the package variables that the reading takes, are together of bulk at most 1048576: NARROWER than '..Said'. Prove '..Said' where nothing that the law and all that it calls make is longer than what came in: it says more and counts as full. Else prove '..UptoSaid'. A law counts once. -/
mutual
def uptoBulk {H : Type} : DataW H → Nat
  | .lit (.string bytes) => bytes.length + 1
  | .lit _ => 1
  | .nil => 1
  | .ptr d => uptoBulk d + 1
  | .slice elems spare => uptoBulkAll elems + uptoBulkAll spare + 1
  | .agg parts => uptoBulkAll parts + 1
  | .iface _ d => uptoBulk d + 1
  | .map entries => uptoBulkEntries entries + 1
  | .held _ => 1
def uptoBulkAll {H : Type} : List (DataW H) → Nat
  | [] => 0
  | d :: r => uptoBulk d + uptoBulkAll r
def uptoBulkEntries {H : Type} : List (Lit × DataW H) → Nat
  | [] => 0
  | x :: r => uptoBulkEntry x + uptoBulkEntries r
def uptoBulkEntry {H : Type} : Lit × DataW H → Nat
  | (.string bytes, d) => bytes.length + uptoBulk d + 1
  | (_, d) => uptoBulk d + 1
 end
def uptoSmall : (H : Type) → List (DataW H) → Bool := fun _ ds => decide (uptoBulkAll ds ≤ 1048576)
def OpenSpec.upto (s : _root_.Go.ChangeSpec) : _root_.Go.OpenSpec := { _root_.Go.OpenSpec.ofChange s with cond := some uptoSmall }

/-- 'stepstonelaw01.NotchNums', WHERE WHAT IT READS IS OF BULK AT MOST 1048576: true; the input reads as it did. -/
def notchNumsUptoRow : OpenClaim := { program := "ytmmlmcanjacngaa", sum := "9f008ae5303514fb78bbdf652b8b4bd6fb4ee33a2e9266eae76a9d535c8df141", func := "stepstone/stepstonelaw01.NotchNums", spec := "notchNums", apart := false, narrowed := true }
def NotchNumsUptoSaid : Prop := notchNumsUptoRow.holds Try.pinned (OpenSpec.upto notchNumsSpec)

/-- 'stepstonelaw01.NotchOrder', WHERE WHAT IT READS IS OF BULK AT MOST 1048576: true; the input reads as it did. -/
def notchOrderUptoRow : OpenClaim := { program := "ytmmlmcanjacngaa", sum := "9f008ae5303514fb78bbdf652b8b4bd6fb4ee33a2e9266eae76a9d535c8df141", func := "stepstone/stepstonelaw01.NotchOrder", spec := "notchOrder", apart := false, narrowed := true }
def NotchOrderUptoSaid : Prop := notchOrderUptoRow.holds Try.pinned (OpenSpec.upto notchOrderSpec)

/-- 'stepstonelaw01.NotchPieces', WHERE WHAT IT READS IS OF BULK AT MOST 1048576: true; the input reads as it did. -/
def notchPiecesUptoRow : OpenClaim := { program := "ytmmlmcanjacngaa", sum := "9f008ae5303514fb78bbdf652b8b4bd6fb4ee33a2e9266eae76a9d535c8df141", func := "stepstone/stepstonelaw01.NotchPieces", spec := "notchPieces", apart := false, narrowed := true }
def NotchPiecesUptoSaid : Prop := notchPiecesUptoRow.holds Try.pinned (OpenSpec.upto notchPiecesSpec)

/-- 'stepstonelaw01.NotchReads', WHERE WHAT IT READS IS OF BULK AT MOST 1048576: true; the input reads as it did. -/
def notchReadsUptoRow : OpenClaim := { program := "ytmmlmcanjacngaa", sum := "9f008ae5303514fb78bbdf652b8b4bd6fb4ee33a2e9266eae76a9d535c8df141", func := "stepstone/stepstonelaw01.NotchReads", spec := "notchReads", apart := false, narrowed := true }
def NotchReadsUptoSaid : Prop := notchReadsUptoRow.holds Try.pinned (OpenSpec.upto notchReadsSpec)

/-- 'stepstonelaw01.NotchBack', WHERE WHAT IT READS IS OF BULK AT MOST 1048576: true; the input reads as it did. -/
def notchBackUptoRow : OpenClaim := { program := "ytmmlmcanjacngaa", sum := "9f008ae5303514fb78bbdf652b8b4bd6fb4ee33a2e9266eae76a9d535c8df141", func := "stepstone/stepstonelaw01.NotchBack", spec := "notchBack", apart := false, narrowed := true }
def NotchBackUptoSaid : Prop := notchBackUptoRow.holds Try.pinned (OpenSpec.upto notchBackSpec)

end Rows
end Go.Proofs.Ytmmlmcanjacngaa
