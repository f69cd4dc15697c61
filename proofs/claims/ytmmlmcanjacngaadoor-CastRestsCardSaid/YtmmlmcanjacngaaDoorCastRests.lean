/-
CastRests: cast.More and cast.Rest tell the reference's remainders, of any text of at most 3000 bytes, from any number on; a longer text is let go. No condition.
-/
import Derived.Test.YtmmlmcanjacngaaDoorCastHead
namespace Go.Proofs.YtmmlmcanjacngaaDoor
open Go.RowKit

theorem castRests_walk (r : Int) (s : ByteArray) (w : World) (h0 : 0 ≤ r) (h1 : r < 18446744073709551616) (hs : s.size ≤ maxLen) (hsh : Shifts w) :
    Calls Tryd.prog 3 #[.int .u64 r, .string s] w fun e w' => e = .returned (.bool true) ∧ Below w.heap.size w w' := by
  by_cases hl : 3000 < s.size
  · unfold maxLen at hs
    go_enter Tryd.func3, Tryd.ntmps3
    go_wp2_with fail
    refine (head_any w hsh).mono ?_
    rintro e w1 ⟨rfl, hb1⟩
    go_wp2_with fail
    go_ret
    exact ⟨rfl, hb1⟩
  · go_enter Tryd.func3, Tryd.ntmps3
    go_wp2_with fail
    refine (more_any r s w h0 h1 hs hsh).mono ?_
    rintro e w' ⟨rfl, rfl⟩
    go_wp2_with fail
    obtain ⟨n, rfl⟩ := Int.eq_ofNat_of_zero_le h0
    rw [Int.toNat_natCast]
    refine (refMore_any n s w (by omega) hs).mono ?_
    rintro e w' ⟨rfl, rfl⟩
    go_wp2_with fail
    refine (rest_any s w hs hsh).mono ?_
    rintro e w' ⟨rfl, rfl⟩
    go_wp2_with fail
    refine (refRest_any s w hs).mono ?_
    rintro e w' ⟨rfl, rfl⟩
    go_wp2_with fail
    refine (head_any w hsh).mono ?_
    rintro e w1 ⟨rfl, hb1⟩
    go_wp2_with fail
    go_ret
    exact ⟨rfl, hb1⟩
end Go.Proofs.YtmmlmcanjacngaaDoor
