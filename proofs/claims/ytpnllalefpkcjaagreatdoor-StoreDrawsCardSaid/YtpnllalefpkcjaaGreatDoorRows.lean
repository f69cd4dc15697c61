/-
  NARROWER THAN 'FOR EVERY INPUT', by the rows' own cells (each row's printed sentence says how): StoreDraws: laid.
  DERIVED. THE GIVEN ROWS OF THIS SEAT. 1 by the template 'for every input the law returns true; each argument reads behind the call as it read before'; 0 by the template 'total and deterministic' (their statements: YtpnllalefpkcjaaGreatDoorTotals.lean).
  GIVEN WITH THE SEED: the statements are not yours to turn. If you find one false, say at which input.
  Laid BY PROGRAM, IN A SANDBOX (cutbox-rows.mjs): the forced cells as the released guide's own fill.sh prints them over the translation de577418ecce2f16… (all of the seat's roots in one cut). By AI agents, Wed Nov 11 2026. No macro, syntax, notation, axiom, sorry.
-/
import Derived.Test.YtpnllalefpkcjaaGreatDoorChecked
import GoSem.Claim
import GoSem.ClaimJoined
import GoSem.ClaimMapViews
import Derived.JoinedTies
import Derived.KernelRfl
namespace Go.Proofs.YtpnllalefpkcjaaGreatDoor
/- THE CELL 'sum', in the pinned program and in every row, IS THE sha256 OF THE DUMP (.gsa) THAT YtpnllalefpkcjaaGreatDoorProg.lean LOADS. Nothing in Lean hashes anything: it is a label: what it is worth is what the hold of that sum in a sandbox is worth. -/
noncomputable def Tryz.pinned : Pinned := { name := "ytpnllalefpkcjaagreatdoor", sum := "de577418ecce2f160cc70503ccae56d5acde723988efb45a43d85f5cd5987597", checked := Tryz.checked }
namespace Rows
def none {H : Type} : Left H := { results := [], args := [] }

/- WHAT THE LISTED PACKAGE-LEVEL VARIABLES READ AS WHEN THE CALL BEGINS. Each datum BY PROGRAM (the guide's laid-datum.mjs) off the statement by which the dump's own 'gosem.cut.vars' lays the variable. In a bare row this is a premise. The card (YtpnllalefpkcjaaGreatDoorCards.lean) ties it to the program's text. -/
def laid_stepstone_cast_shifts {H : Type} : DataW H := .agg [.lit (.int .u64 1), .lit (.int .u64 256), .lit (.int .u64 65536), .lit (.int .u64 16777216), .lit (.int .u64 4294967296), .lit (.int .u64 1099511627776), .lit (.int .u64 281474976710656), .lit (.int .u64 72057594037927936)]

/-- 'stepstonelaw29.StoreDraws': WHATEVER THE INPUT: true; the input reads as it did. -/
def storeDrawsSpec : ChangeSpec := { name := "storeDraws", fn := fun _ => fun
  | [d1, d2, d3] => { results := [.lit (.bool true)], args := [d1, d2, d3] }
  | _ => none }
def storeDrawsRow : OpenClaim := { program := "ytpnllalefpkcjaagreatdoor", sum := "de577418ecce2f160cc70503ccae56d5acde723988efb45a43d85f5cd5987597", func := "stepstone/stepstonelaw29.StoreDraws", spec := "storeDraws", inPlace := ["internal/abi.NoEscape", "internal/bytealg.MakeNoZero", "math/bits.Add64"], unfollowed := true, recurses := true, named := ["stepstone/cast.shifts", "math/bits.divideError", "math/bits.overflowError"], apart := false, laid := [("stepstone/cast.shifts", laid_stepstone_cast_shifts)] }
def StoreDrawsSaid : Prop := storeDrawsRow.holds Tryz.pinned (OpenSpec.ofChange storeDrawsSpec)

/-- ITS FALSE NEIGHBOUR: 'it returns false'. Refute it at one input. -/
def storeDrawsWrong : ChangeSpec := { name := "storeDraws", fn := fun _ => fun
  | [d1, d2, d3] => { results := [.lit (.bool false)], args := [d1, d2, d3] }
  | _ => none }
def StoreDrawsWrongFalsely : Prop := storeDrawsRow.holds Tryz.pinned (OpenSpec.ofChange storeDrawsWrong)

/- THE SECOND FORM. 'bulk': how many values and letters a reading holds, each counted each time it is reached (what is shared counts as often as it is met; a slice's spare places count too). A statement '..UptoSaid' is the law's where the arguments, and the package variables that the reading takes, are together of bulk at most 1048576: NARROWER than '..Said'. Prove '..Said' where nothing that the law and all that it calls make is longer than what came in: it says more and counts as full. Else prove '..UptoSaid'. A law counts once. -/
mutual
def uptoBulk {H : Type} : DataW H → Nat
  | .lit (.string bytes) => bytes.length + 1
  | .lit _ => 1
  | .nil => 1
  | .ptr d => uptoBulk d + 1
  | .slice elems spare => uptoBulkAll elems + uptoBulkAll spare + 1
  | .agg parts => uptoBulkAll parts + 1
  | .iface _ d => uptoBulk d + 1
  | .map entries => uptoBulkEntries entries + 1
  | .held _ => 1
def uptoBulkAll {H : Type} : List (DataW H) → Nat
  | [] => 0
  | d :: r => uptoBulk d + uptoBulkAll r
def uptoBulkEntries {H : Type} : List (Lit × DataW H) → Nat
  | [] => 0
  | x :: r => uptoBulkEntry x + uptoBulkEntries r
def uptoBulkEntry {H : Type} : Lit × DataW H → Nat
  | (.string bytes, d) => bytes.length + uptoBulk d + 1
  | (_, d) => uptoBulk d + 1
 end
def uptoSmall : (H : Type) → List (DataW H) → Bool := fun _ ds => decide (uptoBulkAll ds ≤ 1048576)
def OpenSpec.upto (s : _root_.Go.ChangeSpec) : _root_.Go.OpenSpec := { _root_.Go.OpenSpec.ofChange s with cond := some uptoSmall }

/-- 'stepstonelaw29.StoreDraws', WHERE WHAT IT READS IS OF BULK AT MOST 1048576: true; the input reads as it did. -/
def storeDrawsUptoRow : OpenClaim := { program := "ytpnllalefpkcjaagreatdoor", sum := "de577418ecce2f160cc70503ccae56d5acde723988efb45a43d85f5cd5987597", func := "stepstone/stepstonelaw29.StoreDraws", spec := "storeDraws", inPlace := ["internal/abi.NoEscape", "internal/bytealg.MakeNoZero", "math/bits.Add64"], unfollowed := true, recurses := true, named := ["stepstone/cast.shifts", "math/bits.divideError", "math/bits.overflowError"], apart := false, laid := [("stepstone/cast.shifts", laid_stepstone_cast_shifts)], narrowed := true }
def StoreDrawsUptoSaid : Prop := storeDrawsUptoRow.holds Tryz.pinned (OpenSpec.upto storeDrawsSpec)

end Rows
end Go.Proofs.YtpnllalefpkcjaaGreatDoor
