/-
Contracts of notch's reader: its state is a text and a mark, in a block of two cells.
-/
import Derived.Test.YtaknmionaibodaaDoorProg
import Derived.Test.YtaknmionaibodaaDoorMem
import Derived.RegionTactic
import Derived.ChangeAlike
namespace Go.Proofs.YtaknmionaibodaaDoor.Notch
open Go.RowKit

def Rdr (w : World) (g : Nat) (s : ByteArray) (bad : Bool) : Prop := Blk w g 108 [.string s, .bool bad]
def After (w : World) (g : Nat) (s : ByteArray) (bad : Bool) (w' : World) : Prop := Rdr w' g s bad ∧ w.grownBy w' (some g)
theorem Rdr.s {w : World} {g : Nat} {s : ByteArray} {bad : Bool} (h : Rdr w g s bad) : w.cell? ⟨g, 0, none⟩ = some (.string s) := h.cell 0
theorem Rdr.b {w : World} {g : Nat} {s : ByteArray} {bad : Bool} (h : Rdr w g s bad) : w.cell? ⟨g, 1, none⟩ = some (.bool bad) := h.cell 1
theorem Rdr.f0 {w : World} {g : Nat} {s : ByteArray} {bad : Bool} (h : Rdr w g s bad) : w.frozen? ⟨g, 0, none⟩ = false := h.frozen 0 (by simp)
theorem Rdr.f1 {w : World} {g : Nat} {s : ByteArray} {bad : Bool} (h : Rdr w g s bad) : w.frozen? ⟨g, 1, none⟩ = false := h.frozen 1 (by simp)
theorem Rdr.set0 {w : World} {g : Nat} {s : ByteArray} {bad : Bool} (h : Rdr w g s bad) (t : ByteArray) : Rdr (w.setCell ⟨g, 0, none⟩ (.string t)) g t bad := h.set_ 0 _
theorem Rdr.set1 {w : World} {g : Nat} {s : ByteArray} {bad : Bool} (h : Rdr w g s bad) (c : Bool) : Rdr (w.setCell ⟨g, 1, none⟩ (.bool c)) g s c := h.set_ 1 _

theorem Rdr.below {w w' : World} {g : Nat} {s : ByteArray} {bad : Bool} {B : Nat} (h : Rdr w g s bad) (hb : Below B w w') (hg : g < B) : Rdr w' g s bad := Blk.below h hb hg
theorem isbad_any (g : Nat) (s : ByteArray) (bad : Bool) (w : World) (h : Rdr w g s bad) :
    Calls Tryd.prog 55 #[.pointer (some ⟨g, 0, none⟩)] w fun e w' => e = .returned (.bool bad) ∧ w = w' := by
  have h1 := h.b
  clear h
  go_enter Tryd.func55, Tryd.ntmps55
  go_wp2
  go_ret
  exact ⟨rfl, rfl⟩
theorem isbad_nil (w : World) :
    Calls Tryd.prog 55 #[.pointer none] w fun e w' => e = .returned (.bool true) ∧ w = w' := by
  go_enter Tryd.func55, Tryd.ntmps55
  go_wp2
  go_ret
  exact ⟨rfl, rfl⟩
theorem vleft_any (g : Nat) (s : ByteArray) (w : World) (h : w.cell? ⟨g, 0, none⟩ = some (.string s)) :
    Calls Tryd.prog 67 #[.pointer (some ⟨g, 0, none⟩)] w fun e w' => e = .returned (.int .i64 (s.size : Int)) ∧ w = w' := by
  go_enter Tryd.func67, Tryd.ntmps67
  go_wp2
  go_ret
  exact ⟨rfl, rfl⟩
def leftR (s : ByteArray) (bad : Bool) : Nat := if bad then 0 else s.size
theorem left_any (g : Nat) (s : ByteArray) (bad : Bool) (w : World) (h : Rdr w g s bad) :
    Calls Tryd.prog 69 #[.pointer (some ⟨g, 0, none⟩)] w fun e w' => e = .returned (.int .i64 (leftR s bad : Int)) ∧ w = w' := by
  have h0 := h.s
  cases bad
  · have h' := Lib.hid h
    clear h
    go_enter Tryd.func69, Tryd.ntmps69
    go_wp2_with fail
    refine (isbad_any g s false w h'.out).mono ?_
    rintro e w' ⟨rfl, rfl⟩
    go_wp2_with fail
    refine (vleft_any g s w h0).mono ?_
    rintro e w' ⟨rfl, rfl⟩
    go_wp2_with fail
    go_ret
    exact ⟨rfl, rfl⟩
  · have h' := Lib.hid h
    clear h
    go_enter Tryd.func69, Tryd.ntmps69
    go_wp2_with fail
    refine (isbad_any g s true w h'.out).mono ?_
    rintro e w' ⟨rfl, rfl⟩
    go_wp2_with fail
    go_ret
    exact ⟨rfl, rfl⟩
theorem left_nil (w : World) :
    Calls Tryd.prog 69 #[.pointer none] w fun e w' => e = .returned (.int .i64 0) ∧ w = w' := by
  go_enter Tryd.func69, Tryd.ntmps69
  go_wp2_with fail
  refine (isbad_nil w).mono ?_
  rintro e w' ⟨rfl, rfl⟩
  go_wp2_with fail
  go_ret
  exact ⟨rfl, rfl⟩
theorem cut_any (g : Nat) (s : ByteArray) (n : Nat) (w : World) (hn : n ≤ s.size) (_hs : s.size ≤ maxLen) (h : Rdr w g s false) :
    Calls Tryd.prog 68 #[.pointer (some ⟨g, 0, none⟩), .int .i64 (n : Int)] w fun e w' => e = .returned (.string (s.extract 0 n)) ∧ After w g (s.extract n s.size) false w' := by
  have h0 := h.s
  have h2 := h.f0
  have hx : Hid (After w g (s.extract n s.size) false (w.setCell ⟨g, 0, none⟩ (.string (s.extract n s.size)))) := ⟨h.set0 _, grown_set w g 0 _⟩
  clear h
  unfold maxLen at _hs
  go_enter Tryd.func68, Tryd.ntmps68
  go_wp2
  go_ret
  exact ⟨rfl, hx.out⟩
theorem spoil_any (g : Nat) (s : ByteArray) (bad : Bool) (w : World) (h : Rdr w g s bad) :
    Calls Tryd.prog 56 #[.pointer (some ⟨g, 0, none⟩)] w fun e w' => e = .returned (.string ByteArray.empty) ∧ After w g ByteArray.empty true w' := by
  have h0 := h.s
  have h1 := h.b
  have h2 := h.f0
  have h3 := h.f1
  have hx : Hid (After w g ByteArray.empty true ((w.setCell ⟨g, 0, none⟩ (.string ByteArray.empty)).setCell ⟨g, 1, none⟩ (.bool true))) := ⟨(h.set0 _).set1 _, grown_trans (grown_set w g 0 _) (grown_set _ g 1 _)⟩
  clear h
  go_enter Tryd.func56, Tryd.ntmps56
  go_wp2
  go_ret
  exact ⟨rfl, hx.out⟩

/-- What Take tells, and what it leaves. -/
def takeR (s : ByteArray) (bad : Bool) (n : Int) : ByteArray × ByteArray × Bool :=
  if bad then (ByteArray.empty, s, true) else if n < 0 ∨ (s.size : Int) < n then (ByteArray.empty, ByteArray.empty, true) else (s.extract 0 n.toNat, s.extract n.toNat s.size, false)
theorem After.refl {w : World} {g : Nat} {s : ByteArray} {bad : Bool} (h : Rdr w g s bad) : After w g s bad w := ⟨h, grown_refl w _⟩
theorem After.trans {w w1 w2 : World} {g : Nat} {s t : ByteArray} {b c : Bool} (h : After w g s b w1) (k : After w1 g t c w2) : After w g t c w2 := ⟨k.1, grown_trans h.2 k.2⟩
theorem take_any (g : Nat) (s : ByteArray) (bad : Bool) (n : Int) (w : World) (hs : s.size ≤ maxLen) (h : Rdr w g s bad) :
    Calls Tryd.prog 45 #[.pointer (some ⟨g, 0, none⟩), .int .i64 n] w fun e w' => e = .returned (.string (takeR s bad n).1) ∧ After w g (takeR s bad n).2.1 (takeR s bad n).2.2 w' := by
  have H := Lib.hid h
  have h0 := h.s
  clear h
  have hs' := hs
  unfold maxLen at hs
  cases bad
  · by_cases hn : n < 0
    · have e1 : takeR s false n = (ByteArray.empty, ByteArray.empty, true) := by unfold takeR; rw [if_neg (by decide), if_pos (.inl hn)]
      rw [e1]
      have E1 := Lib.hid e1
      clear e1
      go_enter Tryd.func45, Tryd.ntmps45
      go_wp2_with fail
      refine (isbad_any g s false w H.out).mono ?_
      rintro e w' ⟨rfl, rfl⟩
      go_wp2_with fail
      refine (spoil_any g s false w H.out).mono ?_
      rintro e w' ⟨rfl, ha⟩
      go_wp2_with fail
      go_ret
      exact ⟨rfl, ha⟩
    · by_cases hb : (s.size : Int) < n
      · have e1 : takeR s false n = (ByteArray.empty, ByteArray.empty, true) := by unfold takeR; rw [if_neg (by decide), if_pos (.inr hb)]
        rw [e1]
        clear e1
        go_enter Tryd.func45, Tryd.ntmps45
        go_wp2_with fail
        refine (isbad_any g s false w H.out).mono ?_
        rintro e w' ⟨rfl, rfl⟩
        go_wp2_with fail
        refine (vleft_any g s w h0).mono ?_
        rintro e w' ⟨rfl, rfl⟩
        go_wp2_with fail
        refine (spoil_any g s false w H.out).mono ?_
        rintro e w' ⟨rfl, ha⟩
        go_wp2_with fail
        go_ret
        exact ⟨rfl, ha⟩
      · obtain ⟨k, rfl⟩ := Int.eq_ofNat_of_zero_le (show 0 ≤ n by omega)
        have e1 : takeR s false (k : Int) = (s.extract 0 k, s.extract k s.size, false) := by unfold takeR; rw [if_neg (by decide), if_neg (by omega)]; rfl
        rw [e1]
        clear e1
        have hk : k ≤ s.size := by omega
        go_enter Tryd.func45, Tryd.ntmps45
        go_wp2_with fail
        refine (isbad_any g s false w H.out).mono ?_
        rintro e w' ⟨rfl, rfl⟩
        go_wp2_with fail
        refine (vleft_any g s w h0).mono ?_
        rintro e w' ⟨rfl, rfl⟩
        go_wp2_with fail
        refine (cut_any g s k w hk hs' H.out).mono ?_
        rintro e w' ⟨rfl, ha⟩
        go_wp2_with fail
        go_ret
        exact ⟨rfl, ha⟩
  · have e1 : takeR s true n = (ByteArray.empty, s, true) := by unfold takeR; rw [if_pos rfl]
    rw [e1]
    clear e1
    go_enter Tryd.func45, Tryd.ntmps45
    go_wp2_with fail
    refine (isbad_any g s true w H.out).mono ?_
    rintro e w' ⟨rfl, rfl⟩
    go_wp2_with fail
    go_ret
    exact ⟨rfl, After.refl H.out⟩
theorem take_nil (n : Int) (w : World) :
    Calls Tryd.prog 45 #[.pointer none, .int .i64 n] w fun e w' => e = .returned (.string ByteArray.empty) ∧ w = w' := by
  go_enter Tryd.func45, Tryd.ntmps45
  go_wp2_with fail
  refine (isbad_nil w).mono ?_
  rintro e w' ⟨rfl, rfl⟩
  go_wp2_with fail
  go_ret
  exact ⟨rfl, rfl⟩
end Go.Proofs.YtaknmionaibodaaDoor.Notch
