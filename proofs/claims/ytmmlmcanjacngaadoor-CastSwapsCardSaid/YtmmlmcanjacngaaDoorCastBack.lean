/-
CastBack: what cast.Seal sealed is opened as it was, and is eight bytes longer; sealed again it is another text, that is opened to it. Texts of more than 3000 bytes are let go. No condition.
-/
import Derived.Test.YtmmlmcanjacngaaDoorCastHead
namespace Go.Proofs.YtmmlmcanjacngaaDoor
open Go.RowKit

theorem sealL_length (l : List UInt8) : (sealL l).length = l.length + 8 := by simp [sealL, be8_length]
theorem sealB_size (s : ByteArray) : (sealB s).size = s.size + 8 := by
  show (sealL s.data.toList).toArray.size = _
  rw [List.size_toArray, sealL_length]
  simp
theorem openV_seal (s : ByteArray) : openV (sealB s) = .tuple #[.string s, .bool true] := by
  have e : (sealB s).data.toList = sealL s.data.toList := by simp [sealB]
  have ht : (sealL s.data.toList).take ((sealL s.data.toList).length - 8) = s.data.toList := by
    rw [sealL_length]
    simp [sealL]
  have h : openL (sealB s).data.toList = true := by
    rw [e, sealed_iff _ (by rw [sealL_length]; omega), ht]
    simp
  have hc : cutB (sealB s) = s := by
    unfold cutB
    rw [e, sealB_size, show s.size + 8 - 8 = (sealL s.data.toList).length - 8 by rw [sealL_length]; simp, ht]
  unfold openV
  rw [h, hc]
  rfl
theorem castBack_walk (s : ByteArray) (w : World) (hs : s.size ≤ maxLen) (hsh : Shifts w) :
    Calls Tryd.prog 5 #[.string s] w fun e w' => e = .returned (.bool true) ∧ Below w.heap.size w w' := by
  by_cases hl : 3000 < s.size
  · unfold maxLen at hs
    go_enter Tryd.func5, Tryd.ntmps5
    go_wp2_with fail
    refine (head_any w hsh).mono ?_
    rintro e w1 ⟨rfl, hb1⟩
    go_wp2_with fail
    go_ret
    exact ⟨rfl, hb1⟩
  · have za := sealB_size s
    have zb := sealB_size (sealB s)
    have va := openV_seal s
    have vb := openV_seal (sealB s)
    obtain ⟨a, ha⟩ : ∃ a, a = sealB s := ⟨_, rfl⟩
    have c1 := seal_any s w (by omega) hsh
    have c2 := fun W => seal_any a W
    have c3 := fun W => open_any a W
    rw [← ha] at c1 za zb va vb
    obtain ⟨b, hb⟩ : ∃ b, b = sealB a := ⟨_, rfl⟩
    have c4 := fun W => open_any b W
    rw [← hb] at c2 zb vb
    rw [va] at c3
    rw [vb] at c4
    have C1 := Lib.hid c1
    have C2 := Lib.hid c2
    have C3 := Lib.hid c3
    have C4 := Lib.hid c4
    clear c1 c2 c3 c4 va vb ha hb
    have t1 : ((a.size : Int) == (s.size : Int) + 8) = true := by simp; omega
    have t2 : ((b.size : Int) == (s.size : Int) + 16) = true := by simp; omega
    have t3 : (s.toList == s.toList) = true := by simp
    have t4 : (a.toList == a.toList) = true := by simp
    have az : a.size ≤ 3008 := by omega
    have bz : b.size ≤ 3016 := by omega
    have ZA := Lib.hid za
    have ZB := Lib.hid zb
    clear za zb
    go_enter Tryd.func5, Tryd.ntmps5
    go_wp2_with fail
    refine C1.out.mono ?_
    rintro e w1 ⟨rfl, hb1⟩
    have hsh1 := hsh.below hb1
    go_wp2_with fail
    refine (C2.out w1 (by omega) hsh1).mono ?_
    rintro e w2 ⟨rfl, hb2⟩
    have hsh2 := hsh1.below hb2
    go_wp2_with fail
    refine (C3.out w2 (by omega) hsh2).mono ?_
    rintro e w3 ⟨rfl, hb3⟩
    have hsh3 := hsh2.below hb3
    go_wp2_with fail
    refine (C4.out w3 (by omega) hsh3).mono ?_
    rintro e w4 ⟨rfl, hb4⟩
    have hsh4 := hsh3.below hb4
    go_wp2_with fail
    refine (head_any w4 hsh4).mono ?_
    rintro e w5 ⟨rfl, hb5⟩
    go_wp2_with fail
    go_ret
    have z1 := hb1.size
    have z2 := hb2.size
    have z3 := hb3.size
    have z4 := hb4.size
    exact ⟨rfl, hb1.trans ((hb2.mono z1).trans ((hb3.mono (by omega)).trans ((hb4.mono (by omega)).trans (hb5.mono (by omega)))))⟩
end Go.Proofs.YtmmlmcanjacngaaDoor
