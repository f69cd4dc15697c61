/-
CastSeals: cast.Seal tells the reference's bytes, and cast.Open tells of any text what the reference tells; texts of more than 3000 bytes are let go. No condition.
-/
import Derived.Test.YtmmlmcanjacngaaDoorCastHead
namespace Go.Proofs.YtmmlmcanjacngaaDoor
open Go.RowKit

theorem openV_form (t : ByteArray) : ∃ x b, openV t = .tuple #[.string x, .bool b] := by
  unfold openV
  cases openL t.data.toList
  · exact ⟨_, _, rfl⟩
  · exact ⟨_, _, rfl⟩
theorem castSeals_big (s t : ByteArray) (w : World) (_hs : s.size ≤ maxLen) (hsh : Shifts w) (hl : 3000 < s.size) :
    Calls Tryd.prog 4 #[.string s, .string t] w fun e w' => e = .returned (.bool true) ∧ Below w.heap.size w w' := by
  have hd : decide ((3000 : Int) < (s.size : Int)) = true := by simp; omega
  unfold maxLen at _hs
  go_enter Tryd.func4, Tryd.ntmps4
  go_wp2_with fail
  refine (head_any w hsh).mono ?_
  rintro e w1 ⟨rfl, hb1⟩
  go_wp2_with fail
  go_ret
  exact ⟨rfl, hb1⟩
theorem castSeals_big2 (s t : ByteArray) (w : World) (_ht : t.size ≤ maxLen) (hsh : Shifts w) (hl : s.size ≤ 3000) (hl2 : 3000 < t.size) :
    Calls Tryd.prog 4 #[.string s, .string t] w fun e w' => e = .returned (.bool true) ∧ Below w.heap.size w w' := by
  have hd : decide ((3000 : Int) < (s.size : Int)) = false := by simp; omega
  have hd2 : decide ((3000 : Int) < (t.size : Int)) = true := by simp; omega
  unfold maxLen at _ht
  go_enter Tryd.func4, Tryd.ntmps4
  go_wp2_with fail
  refine (head_any w hsh).mono ?_
  rintro e w1 ⟨rfl, hb1⟩
  go_wp2_with fail
  go_ret
  exact ⟨rfl, hb1⟩
theorem castSeals_walk (s t : ByteArray) (w : World) (hs : s.size ≤ maxLen) (ht : t.size ≤ maxLen) (hsh : Shifts w) :
    Calls Tryd.prog 4 #[.string s, .string t] w fun e w' => e = .returned (.bool true) ∧ Below w.heap.size w w' := by
  by_cases hl : 3000 < s.size
  · exact castSeals_big s t w hs hsh hl
  by_cases hl2 : 3000 < t.size
  · exact castSeals_big2 s t w ht hsh (by omega) hl2
  have hd : decide ((3000 : Int) < (s.size : Int)) = false := by simp; omega
  have hd2 : decide ((3000 : Int) < (t.size : Int)) = false := by simp; omega
  obtain ⟨x, b, hv⟩ := openV_form t
  have c1 := open_any t
  have c2 := refOpen_any t
  rw [hv] at c1 c2
  have C1 := Lib.hid c1
  have C2 := Lib.hid c2
  clear c1 c2 hv
  have hx : (x.toList == x.toList) = true := by simp
  have hbb : (b == b) = true := by simp
  go_enter Tryd.func4, Tryd.ntmps4
  go_wp2_with fail
  refine (C1.out w (by omega) hsh).mono ?_
  rintro e w1 ⟨rfl, hb1⟩
  have hsh1 := hsh.below hb1
  go_wp2_with fail
  refine (C2.out w1 (by omega)).mono ?_
  rintro e w2 ⟨rfl, hb2⟩
  have hsh2 := hsh1.below hb2
  go_wp2_with fail
  refine (seal_any s w2 (by omega) hsh2).mono ?_
  rintro e w3 ⟨rfl, hb3⟩
  have hsh3 := hsh2.below hb3
  go_wp2_with fail
  refine (refSeal_any s w3 (by omega)).mono ?_
  rintro e w4 ⟨rfl, hb4⟩
  have hsh4 := hsh3.below hb4
  go_wp2_with fail
  refine (head_any w4 hsh4).mono ?_
  rintro e w5 ⟨rfl, hb5⟩
  go_wp2_with fail
  go_ret
  have z1 := hb1.size
  have z2 := hb2.size
  have z3 := hb3.size
  have z4 := hb4.size
  exact ⟨rfl, hb1.trans ((hb2.mono z1).trans ((hb3.mono (by omega)).trans ((hb4.mono (by omega)).trans (hb5.mono (by omega)))))⟩
end Go.Proofs.YtmmlmcanjacngaaDoor
