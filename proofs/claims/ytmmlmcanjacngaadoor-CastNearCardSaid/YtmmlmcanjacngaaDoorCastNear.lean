/-
CastNear: what cast.Seal sealed, with any of seven bytes that stand one behind the other turned, is not sealed, wherever they stand; texts of more than 3000 bytes, and masks that turn nothing, are let go. No condition.
-/
import Derived.Test.YtmmlmcanjacngaaDoorCastHead
import Derived.Test.YtmmlmcanjacngaaDoorCastBack
import Derived.Test.YtmmlmcanjacngaaDoorCastNearMath
namespace Go.Proofs.YtmmlmcanjacngaaDoor
open Go.RowKit

theorem and56 (n : Int) (h0 : 0 ≤ n) (h1 : n < 18446744073709551616) : bits .and .u64 n 72057594037927935 = n % 72057594037927936 := mask_u64 56 n _ (by decide) (by decide) h0 h1
theorem near_let (s : ByteArray) (at_ m : Int) (w : World) (hs : s.size ≤ maxLen) (m0 : 0 ≤ m) (m1 : m < 18446744073709551616) (hsh : Shifts w) (hl : 3000 < s.size ∨ m % 72057594037927936 = 0) :
    Calls Tryd.prog 6 #[.string s, .int .u32 at_, .int .u64 m] w fun e w' => e = .returned (.bool true) ∧ Below w.heap.size w w' := by
  have ha := and56 m m0 m1
  unfold maxLen at hs
  by_cases hbig : 3000 < s.size
  · have hd : decide ((3000 : Int) < (s.size : Int)) = true := by simp; omega
    go_enter Tryd.func6, Tryd.ntmps6
    go_wp2_with fail
    refine (head_any w hsh).mono ?_
    rintro e w1 ⟨rfl, hb1⟩
    go_wp2_with fail
    go_ret
    exact ⟨rfl, hb1⟩
  · have hd : decide ((3000 : Int) < (s.size : Int)) = false := by simp; omega
    have hz : ((m % 72057594037927936 : Int) == 0) = true := by rw [beq_iff_eq]; omega
    clear hl
    go_enter Tryd.func6, Tryd.ntmps6
    go_wp2_with fail
    refine (head_any w hsh).mono ?_
    rintro e w1 ⟨rfl, hb1⟩
    go_wp2_with fail
    go_ret
    exact ⟨rfl, hb1⟩

theorem bytesV_set (l : List UInt8) (z : List Value) (i : Nat) (b : UInt8) (h : i < l.length) : (bytesV l ++ z).set i (.int .u8 (b.toNat : Int)) = bytesV (l.set i b) ++ z := by
  rw [List.set_append_left _ _ (by rw [bytesV_length]; exact h)]
  simp [bytesV, List.map_set]
theorem flip_val (x : UInt8) (M i : Nat) : bits .xor .u8 (x.toNat : Int) ((M : Int) / 2 ^ (8 * i) % 256) = ((x ^^^ UInt8.ofNat (M / 256 ^ i)).toNat : Int) := by
  have e : (M : Int) / 2 ^ (8 * i) % 256 = ((M / 256 ^ i % 256 : Nat) : Int) := by
    rw [show (256 : Nat) ^ i = 2 ^ (8 * i) by rw [Nat.pow_mul]]
    simp
  rw [e, u8_xor_nat _ _ x.toNat_lt (Nat.mod_lt _ (by decide)), UInt8.toNat_xor]
  simp

set_option maxHeartbeats 400000 in
theorem near_main (s : ByteArray) (at_ m : Int) (w : World) (a0 : 0 ≤ at_) (a1 : at_ < 4294967296) (m0 : 0 ≤ m) (m1 : m < 18446744073709551616) (hsh : Shifts w) (hl : s.size ≤ 3000) (hmz : m % 72057594037927936 ≠ 0) :
    Calls Tryd.prog 6 #[.string s, .int .u32 at_, .int .u64 m] w fun e w' => e = .returned (.bool true) ∧ Below w.heap.size w w' := by
  have ha := and56 m m0 m1
  have hd : decide ((3000 : Int) < (s.size : Int)) = false := by simp; omega
  have hz : ((m % 72057594037927936 : Int) == 0) = false := by rw [beq_eq_false_iff_ne]; exact hmz
  have hsl := sealB_size s
  have hop : openL (sealB s).data.toList = true := by
    have hv := openV_seal s
    cases h : openL (sealB s).data.toList with
    | true => rfl
    | false =>
      unfold openV at hv
      rw [h] at hv
      cases hv
  obtain ⟨S, hS⟩ : ∃ S, S = sealB s := ⟨_, rfl⟩
  have c1 := seal_any s w (by omega) hsh
  rw [← hS] at c1 hsl hop
  obtain ⟨M, hM⟩ := Int.eq_ofNat_of_zero_le m0
  have hML : S.data.toList.length = S.size := by simp
  have hflip := fun n (hn : n + 7 ≤ S.data.toList.length) => near_flip S.data.toList n M hn (by omega) (by omega) hop
  have HMM := Lib.hid hM
  obtain ⟨n, hn⟩ : ∃ n : Nat, at_ % ((s.size : Int) + 8 - 6) = (n : Int) := ⟨(at_ % ((s.size : Int) + 8 - 6)).toNat, by rw [Int.toNat_of_nonneg (Int.emod_nonneg _ (by omega))]⟩
  have hn7 : n + 7 ≤ S.size := by
    have := Int.emod_lt_of_pos at_ (show (0 : Int) < (s.size : Int) + 8 - 6 by omega)
    omega
  have hfl := hflip n (by omega)
  have HF := Lib.hid hfl
  have HM := Lib.hid hML
  have HC1 := Lib.hid c1
  have hzS : S.size ≤ 3008 := by omega
  have HSL := Lib.hid hsl
  clear hflip hfl hML c1 hop hS hmz hM
  go_enter Tryd.func6, Tryd.ntmps6
  go_wp2_with fail
  refine HC1.out.mono ?_
  rintro e w1 ⟨rfl, hb1⟩
  have hsh1 := hsh.below hb1
  obtain ⟨cap, W1, hcv, hc1, hc2, hsz1, hblk, hbel⟩ := str_bytes (P := Tryd.prog) w1 9 33 5 S Tryd.underlying9 Tryd.underlying33 Tryd.underlying5 (by unfold maxLen; omega)
  unfold maxLen at hc2
  have hS8 : S.size = s.size + 8 := HSL.out
  have HB : Hid (Blk W1 w1.heap.size 5 (bytesV (flipL S.data.toList n M 0) ++ List.replicate (cap - S.size) (.int .u8 0))) := by rw [flipL_zero]; exact hblk
  have hbW : Below w.heap.size w W1 := hb1.trans (hbel.mono hb1.size)
  have hgw := hb1.size
  clear hblk hsz1
  go_wp2_with fail
  go_loopw [9] (fun i wr => ∃ j : Nat, j ≤ 7 ∧ i = .int .i64 (j : Int) ∧ Hid (Blk wr w1.heap.size 5 (bytesV (flipL S.data.toList n M j) ++ List.replicate (cap - S.size) (.int .u8 0))) ∧ Below w.heap.size w wr) (fun i _ => 7 - (intOf i).toNat)
  case atStart => exact ⟨0, by omega, rfl, HB, hbW⟩
  case round =>
    obtain ⟨j, hj, rfl, hblk, hbr⟩ := hrel
    by_cases h7 : j < 7
    · have hx : n + j < S.data.toList.length := by rw [HM.out]; omega
      have hcell := hblk.out.cell (n + j)
      rw [bytesV_get _ _ _ (by rw [flipL_length]; exact hx)] at hcell
      have hgx : (flipL S.data.toList n M j).getD (n + j) 0 = S.data.toList[n + j] := by
        rw [List.getD_eq_getElem?_getD, flipL_out _ _ _ _ _ (by omega), List.getElem?_eq_getElem hx]
        rfl
      rw [hgx] at hcell
      have hfr := hblk.out.frozen (n + j) (by rw [List.length_append, bytesV_length, flipL_length]; omega)
      have hnew := hblk.out.set_ (n + j) (.int .u8 ((S.data.toList[n + j] ^^^ UInt8.ofNat (M / 256 ^ j)).toNat : Int))
      rw [bytesV_set _ _ _ _ (by rw [flipL_length]; exact hx), flipL_set _ _ _ _ hx, ← flip_val, ← HMM.out] at hnew
      obtain ⟨c, hc⟩ : ∃ c : Int, c = (S.data.toList[n + j].toNat : Int) := ⟨_, rfl⟩
      have c0 : 0 ≤ c := by omega
      have c1 : c < 256 := by have := S.data.toList[n + j].toNat_lt; omega
      rw [← hc] at hcell hnew
      have HNEW := Lib.hid hnew
      have hbr2 := hbr.setCell (p := ⟨w1.heap.size, n + j, none⟩) hgw (.int .u8 (bits .xor .u8 c (m / 2 ^ (8 * j) % 256)))
      clear hnew hgx hx hc
      go_wp2_with fail
      go_roundw
      case rel => exact ⟨j + 1, by omega, by go_num, HNEW.out, hbr2⟩
      case measure => simp [intOf]; omega
    · obtain rfl : j = 7 := by omega
      obtain ⟨F, hF⟩ : ∃ F : ByteArray, F = ⟨(flipL S.data.toList n M 7).toArray⟩ := ⟨_, rfl⟩
      have hFl : F.data.toList = flipL S.data.toList n M 7 := by rw [hF]
      have hFs : F.size = s.size + 8 := by
        rw [← hS8, ← HM.out, ← flipL_length S.data.toList n M 7, ← hFl]
        simp
      have hstr := run_str_of_blk (P := Tryd.prog) (w := wr) 33 9 5 Tryd.underlying33 Tryd.underlying5 Tryd.underlying9 w1.heap.size 0 (s.size + 8) cap (flipL S.data.toList n M 7) (by rw [flipL_length, HM.out, hS8]) _ _ hblk.out
        (by rw [List.drop_zero, List.take_left' (by rw [bytesV_length, flipL_length, HM.out, hS8])])
      rw [← hF] at hstr
      have hv : openV F = .tuple #[.string ByteArray.empty, .bool false] := by
        unfold openV
        rw [hFl, HF.out]
        rfl
      have c3 := open_any F wr (by omega) (hsh.below hbr)
      rw [hv] at c3
      have C3 := Lib.hid c3
      have hgr := hbr.size
      clear hv c3 hF hFl
      go_wp2_with fail
      refine C3.out.mono ?_
      rintro e w3 ⟨rfl, hb3⟩
      have hsh3 := (hsh.below hbr).below hb3
      go_wp2_with fail
      refine (head_any w3 hsh3).mono ?_
      rintro e w4 ⟨rfl, hb4⟩
      go_wp2_with fail
      go_ret
      exact ⟨rfl, hbr.trans ((hb3.mono hgr).trans (hb4.mono (Nat.le_trans hgr hb3.size)))⟩

theorem castNear_walk (s : ByteArray) (at_ m : Int) (w : World) (hs : s.size ≤ maxLen) (a0 : 0 ≤ at_) (a1 : at_ < 4294967296) (m0 : 0 ≤ m) (m1 : m < 18446744073709551616) (hsh : Shifts w) :
    Calls Tryd.prog 6 #[.string s, .int .u32 at_, .int .u64 m] w fun e w' => e = .returned (.bool true) ∧ Below w.heap.size w w' := by
  by_cases h1 : 3000 < s.size
  · exact near_let s at_ m w hs m0 m1 hsh (.inl h1)
  by_cases h2 : m % 72057594037927936 = 0
  · exact near_let s at_ m w hs m0 m1 hsh (.inr h2)
  exact near_main s at_ m w a0 a1 m0 m1 hsh (by omega) h2
end Go.Proofs.YtmmlmcanjacngaaDoor
