/-
slices.Reverse of bytes; nat.Text: the decimal digits.
-/
import Derived.Test.YtljgiagdmnedpaaNatSmall
import Derived.Test.YtljgiagdmnedpaaNatDec
import Derived.BigRegion
namespace Go.Proofs.Ytljgiagdmnedpaa.Nat_
open Go.RowKit

/-- The list with the places below j and their mirrors exchanged. -/
def revTo (l : List UInt8) (j : Nat) : List UInt8 := (List.range l.length).map fun i => if i < j ∨ l.length ≤ i + j then l[l.length - 1 - i]?.getD 0 else l[i]?.getD 0
theorem revTo_length (l : List UInt8) (j : Nat) : (revTo l j).length = l.length := by simp [revTo]
theorem revTo_get (l : List UInt8) (j i : Nat) (hi : i < l.length) : (revTo l j)[i]? = some (if i < j ∨ l.length ≤ i + j then l[l.length - 1 - i]?.getD 0 else l[i]?.getD 0) := by
  simp [revTo, hi]
theorem revTo_zero (l : List UInt8) : revTo l 0 = l := by
  apply List.ext_getElem?
  intro i
  rcases Nat.lt_or_ge i l.length with h | h
  · rw [revTo_get l 0 i h, if_neg (by omega), List.getElem?_eq_getElem h]
    rfl
  · rw [List.getElem?_eq_none h, List.getElem?_eq_none (by rw [revTo_length]; exact h)]
theorem revTo_fin (l : List UInt8) (j : Nat) (h : l.length ≤ 2 * j + 1) : revTo l j = l.reverse := by
  apply List.ext_getElem?
  intro i
  rcases Nat.lt_or_ge i l.length with hi | hi
  · rw [revTo_get l j i hi, List.getElem?_reverse hi]
    have h1 : l.length - 1 - i < l.length := by omega
    rw [List.getElem?_eq_getElem h1, List.getElem?_eq_getElem hi]
    by_cases hc : i < j ∨ l.length ≤ i + j
    · rw [if_pos hc]; rfl
    · rw [if_neg hc]
      have : l.length - 1 - i = i := by omega
      simp only [this, Option.getD_some]
  · rw [List.getElem?_eq_none (by rw [revTo_length]; exact hi), List.getElem?_eq_none (by rw [List.length_reverse]; exact hi)]
/-- One exchange. -/
theorem revTo_step (l : List UInt8) (j : Nat) (h : 2 * j + 1 < l.length) : ((revTo l j).set j (l[l.length - 1 - j]?.getD 0)).set (l.length - 1 - j) (l[j]?.getD 0) = revTo l (j + 1) := by
  apply List.ext_getElem?
  intro i
  rcases Nat.lt_or_ge i l.length with hi | hi
  · rw [List.getElem?_set, List.getElem?_set, revTo_get l (j + 1) i hi, List.length_set, revTo_length, revTo_get l j i hi]
    by_cases h1 : l.length - 1 - j = i
    · rw [if_pos h1, if_pos (by omega), if_pos (by omega)]
      rw [show l.length - 1 - i = j by omega]
    · rw [if_neg h1]
      by_cases h2 : j = i
      · rw [if_pos h2, if_pos (by omega), if_pos (by omega), h2]
      · rw [if_neg h2]
        congr 1
        by_cases h3 : i < j ∨ l.length ≤ i + j
        · rw [if_pos h3, if_pos (by omega)]
        · rw [if_neg h3, if_neg (by omega)]
  · rw [List.getElem?_eq_none (by simp [revTo_length]; exact hi), List.getElem?_eq_none (by rw [revTo_length]; exact hi)]
theorem bytesV_set (l : List UInt8) (i : Nat) (b : UInt8) : (bytesV l).set i (.int .u8 (b.toNat : Int)) = bytesV (l.set i b) := by simp [bytesV, List.map_set]
theorem bytesV_get (l : List UInt8) (i : Nat) (h : i < l.length) : (bytesV l)[i]? = some (.int .u8 ((l[i]).toNat : Int)) := by simp [bytesV, h]

set_option maxRecDepth 100000 in
set_option maxHeartbeats 4000000 in
/-- slices.Reverse of the bytes of a block of one's own. -/
theorem reverse_any (g : Nat) (cap : Nat) (l : List UInt8) (z : List Value) (w : World) (hl : l.length ≤ 1000000) (h : Blk w g 5 (bytesV l ++ z)) :
    Calls Try.prog 46 #[.slice (some ⟨g, 0, none⟩) l.length cap] w fun e w' => (∃ v, e = .returned v) ∧ Blk w' g 5 (bytesV l.reverse ++ z) ∧ w.grownBy w' (some g) := by
  obtain ⟨len, hlen⟩ : ∃ len, l.length = len := ⟨_, rfl⟩
  rw [hlen]
  go_enter Try.func46, Try.ntmps46
  go_wp2_with fail
  go_loopw [2, 3] (fun i k wr => ∃ (j : Nat), 2 * j ≤ len + 1 ∧ i = .int .i64 (j : Int) ∧ k = .int .i64 ((len : Int) - 1 - (j : Int)) ∧ Hid (Blk wr g 5 (bytesV (revTo l j) ++ z)) ∧ w.grownBy wr (some g)) (fun i _ _ => len - (intOf i).toNat)
  case atStart => exact ⟨0, by omega, rfl, by simp, by rw [revTo_zero]; exact h, grown_refl _ _⟩
  case round =>
    obtain ⟨j, hj, rfl, rfl, HB, hgr⟩ := hrel
    by_cases hlt : 2 * j + 1 < len
    · have hB := HB.out
      have hrl := revTo_length l j
      have hx : (bytesV (revTo l j) ++ z)[j]? = some (.int .u8 (((revTo l j)[j]'(by omega)).toNat : Int)) := by
        rw [List.getElem?_append_left (by rw [bytesV_length]; omega), bytesV_get _ _ (by omega)]
      have hy : (bytesV (revTo l j) ++ z)[len - 1 - j]? = some (.int .u8 (((revTo l j)[len - 1 - j]'(by omega)).toNat : Int)) := by
        rw [List.getElem?_append_left (by rw [bytesV_length]; omega), bytesV_get _ _ (by omega)]
      have e1 : (revTo l j)[j]'(by omega) = l[j]?.getD 0 := by
        have := revTo_get l j j (by omega)
        rw [if_neg (by omega), List.getElem?_eq_getElem (by omega)] at this
        exact Option.some.inj this
      have e2 : (revTo l j)[len - 1 - j]'(by omega) = l[l.length - 1 - j]?.getD 0 := by
        have := revTo_get l j (len - 1 - j) (by omega)
        rw [if_neg (by omega), List.getElem?_eq_getElem (by omega)] at this
        have h3 := Option.some.inj this
        rw [h3, hlen]
      rw [e1] at hx
      rw [e2] at hy
      have hstep := revTo_step l j (by omega)
      rw [hlen] at hstep hy
      generalize l[j]?.getD 0 = x at *
      generalize l[len - 1 - j]?.getD 0 = y at *
      have hB2 := (hB.set_ j (.int .u8 (y.toNat : Int))).set_ (len - 1 - j) (.int .u8 (x.toNat : Int))
      rw [List.set_append_left _ _ (by rw [bytesV_length]; omega), bytesV_set, List.set_append_left _ _ (by rw [bytesV_length, List.length_set]; omega), bytesV_set, hstep] at hB2
      have hcx : wr.cell? ⟨g, j, none⟩ = some (.int .u8 (x.toNat : Int)) := by rw [hB.cell]; exact hx
      have hcy : wr.cell? ⟨g, len - 1 - j, none⟩ = some (.int .u8 (y.toNat : Int)) := by rw [hB.cell]; exact hy
      have hfx := hB.frozen j (by simp [bytesV_length]; omega)
      have hfy := hB.frozen (len - 1 - j) (by simp [bytesV_length]; omega)
      obtain ⟨k, hk⟩ : ∃ k, k = len - 1 - j := ⟨_, rfl⟩
      rw [← hk] at hcy hfy hB2
      have hki : (len : Int) - 1 - (j : Int) = (k : Int) := by omega
      have hjk : j < k := by omega
      have H2 := Lib.hid (And.intro hB2 hk)
      clear hB2 hx hy e1 e2 hstep hB hk hrl
      rw [hki]
      go_wp2_with fail
      go_region
      go_wp2_with fail
      go_roundw
      case rel => exact ⟨j + 1, by omega, by simp, by have := H2.out.2; congr 1; omega, H2.out.1.drew, grown_trans (grown_trans hgr (grown_trans (grown_set _ _ _ _) (grown_set _ _ _ _))) ⟨rfl, rfl, rfl, Nat.le_refl _, fun _ _ _ => rfl⟩⟩
      case measure => simp [intOf]; omega
    · have hB := HB.out
      rw [revTo_fin l j (by omega)] at hB
      go_wp2_with fail
      go_end0
      exact ⟨⟨_, rfl⟩, hB, hgr⟩

/-- What a call that appends hands over: a row of bytes as long as its room is cut to. -/
theorem own_bytes {w : World} {base : Nat} {v : Value} {l : List UInt8} (h : w.ownsRow base 5 1 v l.length (bytesV l)) (hl : 0 < l.length) : ∃ g cap z, v = .slice (some ⟨g, 0, none⟩) l.length cap ∧ base ≤ g ∧ Blk w g 5 (bytesV l ++ z) := by
  obtain ⟨-, ⟨rfl, hn⟩ | ⟨g, cap, cur, rfl, hB, hg, hnc, hcm, hcs, htk⟩⟩ := h
  · omega
  · rw [Nat.mul_one] at htk
    refine ⟨g, cap, cur.toList.drop l.length, rfl, hB, 0, 0, ?_, .inl rfl⟩
    rw [hg, ← htk, List.take_append_drop]

theorem digits_nonneg (r : Nat) : UInt8.ofNat (48 + r % 10) = UInt8.ofNat (48 + r % 10) := rfl
theorem digit_byte (r : Nat) : ((UInt8.ofNat (48 + r % 10)).toNat : Int) = 48 + (r : Int) % 10 := by
  rw [UInt8.toNat_ofNat']
  omega
end Go.Proofs.Ytljgiagdmnedpaa.Nat_
