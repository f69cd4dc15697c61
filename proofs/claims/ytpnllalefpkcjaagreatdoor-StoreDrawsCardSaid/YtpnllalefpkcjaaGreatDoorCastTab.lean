/-
The table of package cast, out of the row's condition.
-/
import Derived.Test.YtpnllalefpkcjaaGreatDoorCastA
import Derived.Lib.LaidTab
namespace Go.Proofs.YtpnllalefpkcjaaGreatDoor
theorem shifts_named : Tryz.prog.globalNamed "stepstone/cast.shifts" = some 0 := by kernel_rfl
theorem shifts_of {w : World} (h : Lib.TabIs Tryz.prog w "stepstone/cast.shifts" .u64 [1, 256, 65536, 16777216, 4294967296, 1099511627776, 281474976710656, 72057594037927936]) : Shifts w := fun i hi => by
  rw [h.cell shifts_named i (by simpa using hi)]
  match i, hi with
  | 0, _ => rfl
  | 1, _ => rfl
  | 2, _ => rfl
  | 3, _ => rfl
  | 4, _ => rfl
  | 5, _ => rfl
  | 6, _ => rfl
  | 7, _ => rfl
end Go.Proofs.YtpnllalefpkcjaaGreatDoor
