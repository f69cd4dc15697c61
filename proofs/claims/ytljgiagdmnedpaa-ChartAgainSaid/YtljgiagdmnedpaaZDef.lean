/-
Signs of integers.
-/
import Derived.WalkKit
namespace Go.Proofs.Ytljgiagdmnedpaa.Nat_

/-- The sign of an integer in its normal form. -/
def zneg (b : Bool) (n : Nat) : Bool := b && decide (n ≠ 0)
def zsgn (b : Bool) (n : Nat) : Int := if n = 0 then 0 else if b then -1 else 1
end Go.Proofs.Ytljgiagdmnedpaa.Nat_
