/-
  NARROWER THAN 'FOR EVERY INPUT', by the rows' own cells (each row's printed sentence says how): StorePuts: laid · StoreReads: laid · StoreCut: laid · StoreTurned: laid · StoreJoin: laid.
  DERIVED. THE GIVEN ROWS OF THIS SEAT. 5 by the template 'for every input the law returns true; each argument reads behind the call as it read before'; 0 by the template 'total and deterministic' (their statements: YtaknmionaibodaaDoorTotals.lean).
  GIVEN WITH THE SEED: the statements are not yours to turn. If you find one false, say at which input.
  Laid BY PROGRAM, IN A SANDBOX (cutbox-rows.mjs): the forced cells as the released guide's own fill.sh prints them over the translation a77c82d3521bcf8b… (all of the seat's roots in one cut). By AI agents, Wed Nov 11 2026. No macro, syntax, notation, axiom, sorry.
-/
import Derived.Test.YtaknmionaibodaaDoorChecked
import GoSem.Claim
import GoSem.ClaimJoined
import GoSem.ClaimMapViews
import Derived.JoinedTies
import Derived.KernelRfl
namespace Go.Proofs.YtaknmionaibodaaDoor
/- THE CELL 'sum', in the pinned program and in every row, IS THE sha256 OF THE DUMP (.gsa) THAT YtaknmionaibodaaDoorProg.lean LOADS. Nothing in Lean hashes anything: it is a label: what it is worth is what the hold of that sum in a sandbox is worth. -/
noncomputable def Tryd.pinned : Pinned := { name := "ytaknmionaibodaadoor", sum := "a77c82d3521bcf8bd84806d0db81620dbc83bfc1e7139993075729a680b5d83c", checked := Tryd.checked }
namespace Rows
def none {H : Type} : Left H := { results := [], args := [] }

/- WHAT THE LISTED PACKAGE-LEVEL VARIABLES READ AS WHEN THE CALL BEGINS. Each datum BY PROGRAM (the guide's laid-datum.mjs) off the statement by which the dump's own 'gosem.cut.vars' lays the variable. In a bare row this is a premise. The card (YtaknmionaibodaaDoorCards.lean) ties it to the program's text. -/
def laid_stepstone_cast_shifts {H : Type} : DataW H := .agg [.lit (.int .u64 1), .lit (.int .u64 256), .lit (.int .u64 65536), .lit (.int .u64 16777216), .lit (.int .u64 4294967296), .lit (.int .u64 1099511627776), .lit (.int .u64 281474976710656), .lit (.int .u64 72057594037927936)]

/-- 'stepstonelaw29.StorePuts': WHATEVER THE INPUT: true; the input reads as it did. -/
def storePutsSpec : ChangeSpec := { name := "storePuts", fn := fun _ => fun
  | [d1, d2] => { results := [.lit (.bool true)], args := [d1, d2] }
  | _ => none }
def storePutsRow : OpenClaim := { program := "ytaknmionaibodaadoor", sum := "a77c82d3521bcf8bd84806d0db81620dbc83bfc1e7139993075729a680b5d83c", func := "stepstone/stepstonelaw29.StorePuts", spec := "storePuts", inPlace := ["internal/abi.NoEscape", "internal/bytealg.MakeNoZero", "math/bits.Add64"], unfollowed := true, recurses := true, named := ["stepstone/cast.shifts", "math/bits.divideError", "math/bits.overflowError"], apart := false, laid := [("stepstone/cast.shifts", laid_stepstone_cast_shifts)] }
def StorePutsSaid : Prop := storePutsRow.holds Tryd.pinned (OpenSpec.ofChange storePutsSpec)

/-- ITS FALSE NEIGHBOUR: 'it returns false'. Refute it at one input. -/
def storePutsWrong : ChangeSpec := { name := "storePuts", fn := fun _ => fun
  | [d1, d2] => { results := [.lit (.bool false)], args := [d1, d2] }
  | _ => none }
def StorePutsWrongFalsely : Prop := storePutsRow.holds Tryd.pinned (OpenSpec.ofChange storePutsWrong)

/-- 'stepstonelaw29.StoreReads': WHATEVER THE INPUT: true; the input reads as it did. -/
def storeReadsSpec : ChangeSpec := { name := "storeReads", fn := fun _ => fun
  | [d] => { results := [.lit (.bool true)], args := [d] }
  | _ => none }
def storeReadsRow : OpenClaim := { program := "ytaknmionaibodaadoor", sum := "a77c82d3521bcf8bd84806d0db81620dbc83bfc1e7139993075729a680b5d83c", func := "stepstone/stepstonelaw29.StoreReads", spec := "storeReads", inPlace := ["internal/abi.NoEscape", "internal/bytealg.MakeNoZero", "math/bits.Add64"], unfollowed := true, recurses := true, named := ["stepstone/cast.shifts", "math/bits.divideError", "math/bits.overflowError"], apart := false, laid := [("stepstone/cast.shifts", laid_stepstone_cast_shifts)] }
def StoreReadsSaid : Prop := storeReadsRow.holds Tryd.pinned (OpenSpec.ofChange storeReadsSpec)

/-- ITS FALSE NEIGHBOUR: 'it returns false'. Refute it at one input. -/
def storeReadsWrong : ChangeSpec := { name := "storeReads", fn := fun _ => fun
  | [d] => { results := [.lit (.bool false)], args := [d] }
  | _ => none }
def StoreReadsWrongFalsely : Prop := storeReadsRow.holds Tryd.pinned (OpenSpec.ofChange storeReadsWrong)

/-- 'stepstonelaw29.StoreCut': WHATEVER THE INPUT: true; the input reads as it did. -/
def storeCutSpec : ChangeSpec := { name := "storeCut", fn := fun _ => fun
  | [d1, d2, d3] => { results := [.lit (.bool true)], args := [d1, d2, d3] }
  | _ => none }
def storeCutRow : OpenClaim := { program := "ytaknmionaibodaadoor", sum := "a77c82d3521bcf8bd84806d0db81620dbc83bfc1e7139993075729a680b5d83c", func := "stepstone/stepstonelaw29.StoreCut", spec := "storeCut", inPlace := ["internal/abi.NoEscape", "internal/bytealg.MakeNoZero", "math/bits.Add64"], unfollowed := true, recurses := true, named := ["stepstone/cast.shifts", "math/bits.divideError", "math/bits.overflowError"], apart := false, laid := [("stepstone/cast.shifts", laid_stepstone_cast_shifts)] }
def StoreCutSaid : Prop := storeCutRow.holds Tryd.pinned (OpenSpec.ofChange storeCutSpec)

/-- ITS FALSE NEIGHBOUR: 'it returns false'. Refute it at one input. -/
def storeCutWrong : ChangeSpec := { name := "storeCut", fn := fun _ => fun
  | [d1, d2, d3] => { results := [.lit (.bool false)], args := [d1, d2, d3] }
  | _ => none }
def StoreCutWrongFalsely : Prop := storeCutRow.holds Tryd.pinned (OpenSpec.ofChange storeCutWrong)

/-- 'stepstonelaw29.StoreTurned': WHATEVER THE INPUT: true; the input reads as it did. -/
def storeTurnedSpec : ChangeSpec := { name := "storeTurned", fn := fun _ => fun
  | [d] => { results := [.lit (.bool true)], args := [d] }
  | _ => none }
def storeTurnedRow : OpenClaim := { program := "ytaknmionaibodaadoor", sum := "a77c82d3521bcf8bd84806d0db81620dbc83bfc1e7139993075729a680b5d83c", func := "stepstone/stepstonelaw29.StoreTurned", spec := "storeTurned", inPlace := ["internal/abi.NoEscape", "internal/bytealg.MakeNoZero", "math/bits.Add64"], unfollowed := true, recurses := true, named := ["stepstone/cast.shifts", "math/bits.divideError", "math/bits.overflowError"], apart := false, laid := [("stepstone/cast.shifts", laid_stepstone_cast_shifts)] }
def StoreTurnedSaid : Prop := storeTurnedRow.holds Tryd.pinned (OpenSpec.ofChange storeTurnedSpec)

/-- ITS FALSE NEIGHBOUR: 'it returns false'. Refute it at one input. -/
def storeTurnedWrong : ChangeSpec := { name := "storeTurned", fn := fun _ => fun
  | [d] => { results := [.lit (.bool false)], args := [d] }
  | _ => none }
def StoreTurnedWrongFalsely : Prop := storeTurnedRow.holds Tryd.pinned (OpenSpec.ofChange storeTurnedWrong)

/-- 'stepstonelaw29.StoreJoin': WHATEVER THE INPUT: true; the input reads as it did. -/
def storeJoinSpec : ChangeSpec := { name := "storeJoin", fn := fun _ => fun
  | [d1, d2, d3] => { results := [.lit (.bool true)], args := [d1, d2, d3] }
  | _ => none }
def storeJoinRow : OpenClaim := { program := "ytaknmionaibodaadoor", sum := "a77c82d3521bcf8bd84806d0db81620dbc83bfc1e7139993075729a680b5d83c", func := "stepstone/stepstonelaw29.StoreJoin", spec := "storeJoin", inPlace := ["internal/abi.NoEscape", "internal/bytealg.MakeNoZero", "math/bits.Add64"], unfollowed := true, recurses := true, named := ["stepstone/cast.shifts", "math/bits.divideError", "math/bits.overflowError"], apart := false, laid := [("stepstone/cast.shifts", laid_stepstone_cast_shifts)] }
def StoreJoinSaid : Prop := storeJoinRow.holds Tryd.pinned (OpenSpec.ofChange storeJoinSpec)

/-- ITS FALSE NEIGHBOUR: 'it returns false'. Refute it at one input. -/
def storeJoinWrong : ChangeSpec := { name := "storeJoin", fn := fun _ => fun
  | [d1, d2, d3] => { results := [.lit (.bool false)], args := [d1, d2, d3] }
  | _ => none }
def StoreJoinWrongFalsely : Prop := storeJoinRow.holds Tryd.pinned (OpenSpec.ofChange storeJoinWrong)

/- THE SECOND FORM. 'bulk': how many values and letters a reading holds, each counted each time it is reached (what is shared counts as often as it is met; a slice's spare places count too). A statement '..UptoSaid' is the law's where the arguments, and the package variables that the reading takes, are together of bulk at most 1048576: NARROWER than '..Said'. Prove '..Said' where nothing that the law and all that it calls make is longer than what came in: it says more and counts as full. Else prove '..UptoSaid'. A law counts once. -/
mutual
def uptoBulk {H : Type} : DataW H → Nat
  | .lit (.string bytes) => bytes.length + 1
  | .lit _ => 1
  | .nil => 1
  | .ptr d => uptoBulk d + 1
  | .slice elems spare => uptoBulkAll elems + uptoBulkAll spare + 1
  | .agg parts => uptoBulkAll parts + 1
  | .iface _ d => uptoBulk d + 1
  | .map entries => uptoBulkEntries entries + 1
  | .held _ => 1
def uptoBulkAll {H : Type} : List (DataW H) → Nat
  | [] => 0
  | d :: r => uptoBulk d + uptoBulkAll r
def uptoBulkEntries {H : Type} : List (Lit × DataW H) → Nat
  | [] => 0
  | x :: r => uptoBulkEntry x + uptoBulkEntries r
def uptoBulkEntry {H : Type} : Lit × DataW H → Nat
  | (.string bytes, d) => bytes.length + uptoBulk d + 1
  | (_, d) => uptoBulk d + 1
 end
def uptoSmall : (H : Type) → List (DataW H) → Bool := fun _ ds => decide (uptoBulkAll ds ≤ 1048576)
def OpenSpec.upto (s : _root_.Go.ChangeSpec) : _root_.Go.OpenSpec := { _root_.Go.OpenSpec.ofChange s with cond := some uptoSmall }

/-- 'stepstonelaw29.StorePuts', WHERE WHAT IT READS IS OF BULK AT MOST 1048576: true; the input reads as it did. -/
def storePutsUptoRow : OpenClaim := { program := "ytaknmionaibodaadoor", sum := "a77c82d3521bcf8bd84806d0db81620dbc83bfc1e7139993075729a680b5d83c", func := "stepstone/stepstonelaw29.StorePuts", spec := "storePuts", inPlace := ["internal/abi.NoEscape", "internal/bytealg.MakeNoZero", "math/bits.Add64"], unfollowed := true, recurses := true, named := ["stepstone/cast.shifts", "math/bits.divideError", "math/bits.overflowError"], apart := false, laid := [("stepstone/cast.shifts", laid_stepstone_cast_shifts)], narrowed := true }
def StorePutsUptoSaid : Prop := storePutsUptoRow.holds Tryd.pinned (OpenSpec.upto storePutsSpec)

/-- 'stepstonelaw29.StoreReads', WHERE WHAT IT READS IS OF BULK AT MOST 1048576: true; the input reads as it did. -/
def storeReadsUptoRow : OpenClaim := { program := "ytaknmionaibodaadoor", sum := "a77c82d3521bcf8bd84806d0db81620dbc83bfc1e7139993075729a680b5d83c", func := "stepstone/stepstonelaw29.StoreReads", spec := "storeReads", inPlace := ["internal/abi.NoEscape", "internal/bytealg.MakeNoZero", "math/bits.Add64"], unfollowed := true, recurses := true, named := ["stepstone/cast.shifts", "math/bits.divideError", "math/bits.overflowError"], apart := false, laid := [("stepstone/cast.shifts", laid_stepstone_cast_shifts)], narrowed := true }
def StoreReadsUptoSaid : Prop := storeReadsUptoRow.holds Tryd.pinned (OpenSpec.upto storeReadsSpec)

/-- 'stepstonelaw29.StoreCut', WHERE WHAT IT READS IS OF BULK AT MOST 1048576: true; the input reads as it did. -/
def storeCutUptoRow : OpenClaim := { program := "ytaknmionaibodaadoor", sum := "a77c82d3521bcf8bd84806d0db81620dbc83bfc1e7139993075729a680b5d83c", func := "stepstone/stepstonelaw29.StoreCut", spec := "storeCut", inPlace := ["internal/abi.NoEscape", "internal/bytealg.MakeNoZero", "math/bits.Add64"], unfollowed := true, recurses := true, named := ["stepstone/cast.shifts", "math/bits.divideError", "math/bits.overflowError"], apart := false, laid := [("stepstone/cast.shifts", laid_stepstone_cast_shifts)], narrowed := true }
def StoreCutUptoSaid : Prop := storeCutUptoRow.holds Tryd.pinned (OpenSpec.upto storeCutSpec)

/-- 'stepstonelaw29.StoreTurned', WHERE WHAT IT READS IS OF BULK AT MOST 1048576: true; the input reads as it did. -/
def storeTurnedUptoRow : OpenClaim := { program := "ytaknmionaibodaadoor", sum := "a77c82d3521bcf8bd84806d0db81620dbc83bfc1e7139993075729a680b5d83c", func := "stepstone/stepstonelaw29.StoreTurned", spec := "storeTurned", inPlace := ["internal/abi.NoEscape", "internal/bytealg.MakeNoZero", "math/bits.Add64"], unfollowed := true, recurses := true, named := ["stepstone/cast.shifts", "math/bits.divideError", "math/bits.overflowError"], apart := false, laid := [("stepstone/cast.shifts", laid_stepstone_cast_shifts)], narrowed := true }
def StoreTurnedUptoSaid : Prop := storeTurnedUptoRow.holds Tryd.pinned (OpenSpec.upto storeTurnedSpec)

/-- 'stepstonelaw29.StoreJoin', WHERE WHAT IT READS IS OF BULK AT MOST 1048576: true; the input reads as it did. -/
def storeJoinUptoRow : OpenClaim := { program := "ytaknmionaibodaadoor", sum := "a77c82d3521bcf8bd84806d0db81620dbc83bfc1e7139993075729a680b5d83c", func := "stepstone/stepstonelaw29.StoreJoin", spec := "storeJoin", inPlace := ["internal/abi.NoEscape", "internal/bytealg.MakeNoZero", "math/bits.Add64"], unfollowed := true, recurses := true, named := ["stepstone/cast.shifts", "math/bits.divideError", "math/bits.overflowError"], apart := false, laid := [("stepstone/cast.shifts", laid_stepstone_cast_shifts)], narrowed := true }
def StoreJoinUptoSaid : Prop := storeJoinUptoRow.holds Tryd.pinned (OpenSpec.upto storeJoinSpec)

end Rows
end Go.Proofs.YtaknmionaibodaaDoor
