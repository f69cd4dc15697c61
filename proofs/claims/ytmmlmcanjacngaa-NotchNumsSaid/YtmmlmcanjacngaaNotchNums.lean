/-
NotchNums: notch.Long, notch.Num and notch.Text tell the reference's bytes, of at most 50 numbers and a text of at most 70000 bytes; more is let go. No condition.
-/
import Derived.Test.YtmmlmcanjacngaaNotchHead
import Derived.Test.YtmmlmcanjacngaaNotchRef
import Derived.Deep.RegionWith
namespace Go.Proofs.Ytmmlmcanjacngaa.Notch
open Go.RowKit

theorem notchNums_let (a : Option Addr) (len cap : Nat) (s : ByteArray) (w : World) (hlc : len ≤ maxLen) (hs : s.size ≤ maxLen) (hl : 50 < len ∨ 70000 < s.size) :
    Calls Try.prog 3 #[.slice a len cap, .string s] w fun e w' => e = .returned (.bool true) ∧ Below w.heap.size w w' := by
  unfold maxLen at hlc hs
  by_cases h1 : 50 < len
  · have hd : decide ((50 : Int) < (len : Int)) = true := by simp; omega
    clear hl
    go_enter Try.func3, Try.ntmps3
    go_wp2_with fail
    refine (head_any w).mono ?_
    rintro e w1 ⟨rfl, hb1⟩
    go_wp2_with fail
    go_ret
    exact ⟨rfl, hb1⟩
  · have hd : decide ((50 : Int) < (len : Int)) = false := by simp; omega
    have hd2 : decide ((70000 : Int) < (s.size : Int)) = true := by simp; omega
    clear hl
    go_enter Try.func3, Try.ntmps3
    go_wp2_with fail
    refine (head_any w).mono ?_
    rintro e w1 ⟨rfl, hb1⟩
    go_wp2_with fail
    go_ret
    exact ⟨rfl, hb1⟩

theorem numB_size (n : Nat) : (numB n).size = nb n + 1 := by
  show (encL n).toArray.size = _
  rw [List.size_toArray, encL_length]

set_option maxHeartbeats 1000000 in
theorem notchNums_walk (a : Option Addr) (len cap : Nat) (zs : List Int) (s : ByteArray) (w : World) (hrow : IsInts .u64 w a len cap zs) (hs : s.size ≤ maxLen) :
    Calls Try.prog 3 #[.slice a len cap, .string s] w fun e w' => e = .returned (.bool true) ∧ Below w.heap.size w w' := by
  by_cases hl : 50 < len ∨ 70000 < s.size
  · exact notchNums_let a len cap s w (Nat.le_trans hrow.1.2.1 hrow.1.2.2.1) hs hl
  have hl50 : len ≤ 50 := by omega
  have hs7 : s.size ≤ 70000 := by omega
  have hd : decide ((50 : Int) < (len : Int)) = false := by simp; omega
  have hd2 : decide ((70000 : Int) < (s.size : Int)) = false := by simp; omega
  have HR := Lib.hid hrow
  obtain ⟨⟨hll, hlc, hcm, hcells⟩, hwf⟩ := hrow
  unfold maxLen at hcm
  have HC := Lib.hid hcells
  have HL := Lib.hid (show zs.length = len by simpa using hll)
  have HW := Lib.hid hwf
  clear hll hcells hwf hl hs
  go_enter Try.func3, Try.ntmps3
  go_wp2_with fail
  go_loopw [5] (fun i wr => ∃ j : Nat, j ≤ len ∧ i = .int .i64 (j : Int) ∧ Below w.heap.size w wr) (fun i _ => len - (intOf i).toNat)
  case atStart => exact ⟨0, by omega, rfl, Below.refl _ _⟩
  case round =>
    obtain ⟨j, hj, rfl, hbel⟩ := hrel
    by_cases hlt : j < len
    · obtain ⟨b, off, ha, hbw, hcs⟩ := HC.out (by omega)
      subst ha
      obtain ⟨z, hz⟩ : ∃ z, zs[j]? = some z := ⟨zs[j]'(by rw [HL.out]; exact hlt), List.getElem?_eq_getElem _⟩
      have hcell := (hbel.cell (p := ⟨b, off + j, none⟩) hbw).trans (hcs j (.int .u64 z) (by simp [hz]))
      have hzb := bounds_u64 (HW.out z (List.mem_of_getElem? hz))
      obtain ⟨z0, z1⟩ := hzb
      have cl := fun W => long_any z W z0 (by omega)
      have cn := fun W => refNum_any z W z0 (by omega)
      have hsz := numB_size z.toNat
      have h8 := nb_le z.toNat (by omega)
      generalize numB z.toNat = q at *
      generalize nb z.toNat = k at *
      have CL := Lib.hid cl
      have CN := Lib.hid cn
      have hbz := hbel.size
      have hbr : b < wr.heap.size := by omega
      have hq : ((k : Int) + 1 != (q.size : Int)) = false := by rw [hsz]; simp
      have HSZ := Lib.hid hsz
      clear cl cn hcs hz hsz
      go_wp2_with fail
      go_region_with ((first
        | (go_at_call 9; refine (CL.out _).mono ?_; rintro e w' ⟨rfl, rfl⟩)
        | (go_at_call 10; refine (CN.out _).mono ?_; rintro e w9 ⟨rfl, hb9⟩; have hc9 := (hb9.cell (p := ⟨b, off + j, none⟩) hbr).trans hcell)))
      all_goals go_wp2_with fail
      all_goals go_roundw
      all_goals first
        | exact ⟨j + 1, by omega, by go_num, hbel.drew.trans (hb9.mono hbz)⟩
        | (simp [intOf]; omega)
    · have hbz := hbel.size
      have t1 : ((encB (zs.map Int.toNat)).toList == (encB (zs.map Int.toNat)).toList) = true := by simp
      have t2 : ((textB s).toList == (textB s).toList) = true := by simp
      have hr2 := fun W (hb : Below w.heap.size w W) => (⟨HR.out.1.below hb, HR.out.2⟩ : IsInts .u64 W a len cap zs)
      have HR2 := Lib.hid hr2
      clear hr2
      go_wp2_with fail
      refine (nums_any a len cap zs wr (HR2.out wr hbel) (by omega)).mono ?_
      rintro e w1 ⟨rfl, hb1⟩
      have hbel1 := hbel.trans (hb1.mono hbz)
      go_wp2_with fail
      refine (refNums_any a len cap zs w1 (HR2.out w1 hbel1) (by omega)).mono ?_
      rintro e w2 ⟨rfl, hb2⟩
      have hbel2 := hbel1.trans (hb2.mono hbel1.size)
      go_wp2_with fail
      refine (putText_any s w2 (by omega)).mono ?_
      rintro e w3 ⟨rfl, hb3⟩
      have hbel3 := hbel2.trans (hb3.mono hbel2.size)
      go_wp2_with fail
      refine (refText_any s w3 (by omega)).mono ?_
      rintro e w4 ⟨rfl, hb4⟩
      have hbel4 := hbel3.trans (hb4.mono hbel3.size)
      go_wp2_with fail
      refine (head_any w4).mono ?_
      rintro e w5 ⟨rfl, hb5⟩
      go_wp2_with fail
      go_ret
      exact ⟨rfl, hbel4.trans (hb5.mono hbel4.size)⟩
end Go.Proofs.Ytmmlmcanjacngaa.Notch
