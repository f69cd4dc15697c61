/-
Contracts of notch's writers.
-/
import Derived.Test.YtaknmionaibodaaDoorShelf
import Derived.Test.YtaknmionaibodaaDoorOwn
import Derived.Test.YtaknmionaibodaaDoorFrame
import Derived.Test.YtaknmionaibodaaDoorNotchMath
namespace Go.Proofs.YtaknmionaibodaaDoor.Notch
open Go.RowKit

theorem info_u8 : (Tryd.prog.info? 5).map (fun i => (i.zero, i.size, i.bytes)) = some (some (.int .u8 0), 1, 1) := by kernel_rfl

theorem long_any (n : Int) (w : World) (h0 : 0 ≤ n) (h1 : n < 18446744073709551616) :
    Calls Tryd.prog 44 #[.int .u64 n] w fun e w' => e = .returned (.int .i64 ((nb n.toNat : Int) + 1)) ∧ w = w' := by
  have hb := Lib.bitLen_le n.toNat 64 (Nat.le_refl _) (by omega)
  have he : (1 : Int) + ((Lib.bitLen n.toNat : Int) + 7) / 8 = (nb n.toNat : Int) + 1 := by unfold nb; omega
  have HE := Lib.hid he
  clear he
  go_enter Tryd.func44, Tryd.ntmps44
  go_wp2_with fail
  refine (Tryd.bits_Len64 n w h0 (by omega)).mono ?_
  rintro e w' ⟨rfl, rfl⟩
  go_wp2_with fail
  go_ret
  exact ⟨ret_int HE.out, rfl⟩

def encB (l : List Nat) : ByteArray := ⟨(encAll l).toArray⟩
theorem encAll_snoc (l : List Nat) (n : Nat) : encAll (l ++ [n]) = encAll l ++ encL n := by simp [encAll]
theorem encAll_take (zs : List Int) (j : Nat) (z : Int) (h : zs[j]? = some z) : encAll ((zs.take (j + 1)).map Int.toNat) = encAll ((zs.take j).map Int.toNat) ++ encL z.toNat := by
  rw [List.take_add_one, h, List.map_append, ← encAll_snoc]
  rfl
theorem beK_take (n k m : Nat) (h : m < k) : (beK n k).take (m + 1) = (beK n k).take m ++ [UInt8.ofNat (n / 256 ^ (k - 1 - m))] := by
  rw [List.take_add_one]
  congr 1
  have : (beK n k)[m]? = some (UInt8.ofNat (n / 256 ^ (k - 1 - m))) := by simp [beK, h]
  rw [this]
  rfl
theorem bytesV_snoc (l : List UInt8) (b : UInt8) : bytesV (l ++ [b]) = bytesV l ++ [.int .u8 (b.toNat : Int)] := by simp [bytesV]
theorem put_val (n K : Nat) : Value.int .u8 ((n : Int) / 2 ^ (8 * K) % 256) = .int .u8 ((UInt8.ofNat (n / 256 ^ K)).toNat : Int) := by
  rw [show (256 : Nat) ^ K = 2 ^ (8 * K) by rw [Nat.pow_mul]]
  simp

set_option maxHeartbeats 1000000 in
theorem nums_any (a : Option Addr) (len cap : Nat) (zs : List Int) (w : World) (hrow : IsInts .u64 w a len cap zs) (hlen : len ≤ 1000000) :
    Calls Tryd.prog 26 #[.slice a len cap] w fun e w' => e = .returned (.string (encB (zs.map Int.toNat))) ∧ Below w.heap.size w w' := by
  obtain ⟨⟨hl, hlc, hcm, hcells⟩, hwf⟩ := hrow
  unfold maxLen at hcm
  have HC := Lib.hid hcells
  have HL := Lib.hid (show zs.length = len by simpa using hl)
  have HW := Lib.hid hwf
  clear hl hcells hwf
  go_enter Tryd.func26, Tryd.ntmps26
  go_wp2_with fail
  go_loopw [3, 9] (fun v i wr => ∃ (j L : Nat), j ≤ len ∧ i = .int .i64 (j : Int) ∧ L ≤ 9 * j ∧ Hid (wr.ownsRow w.heap.size 5 1 v L (bytesV (encAll ((zs.take j).map Int.toNat)))) ∧ Below w.heap.size w wr) (fun _ i _ => len - (intOf i).toNat)
  case atStart => exact ⟨0, 0, by omega, rfl, by omega, World.ownsRow_nil _ _ _ _, Below.refl _ _⟩
  case round =>
    obtain ⟨j, L, hj, rfl, hL, hown, hbel⟩ := hrel
    by_cases hlt : j < len
    · obtain ⟨b, off, ha, hbw, hcs⟩ := HC.out (by omega)
      subst ha
      obtain ⟨z, hz⟩ : ∃ z, zs[j]? = some z := ⟨zs[j]'(by rw [HL.out]; exact hlt), List.getElem?_eq_getElem _⟩
      have hcell := (hbel.cell (p := ⟨b, off + j, none⟩) hbw).trans (hcs j (.int .u64 z) (by simp [hz]))
      have hzb := bounds_u64 (HW.out z (List.mem_of_getElem? hz))
      obtain ⟨z0, z1⟩ := hzb
      have hsucc := encAll_take zs j z hz
      obtain ⟨N, hN⟩ : ∃ N : Nat, N = z.toNat := ⟨_, rfl⟩
      have hzN : z = (N : Int) := by omega
      rw [← hN] at hsucc
      have h8 := nb_le N (by omega)
      obtain ⟨K, hK⟩ : ∃ K : Nat, K = nb N := ⟨_, rfl⟩
      rw [← hK] at h8
      have cl := fun W => long_any z W z0 (by omega)
      rw [← hN, ← hK] at cl
      have CL := Lib.hid cl
      have HZN := Lib.hid hzN
      have HK := Lib.hid hK
      have HSU := Lib.hid hsucc
      have hsz := hbel.size
      clear cl hzN hK hsucc hcs hz hN
      go_wp2_with fail
      refine (CL.out wr).mono ?_
      rintro e w' ⟨rfl, rfl⟩
      have hk256 : (K : Int) % 256 = K := by omega
      have hkb : Hid (bytesV (encAll ((zs.take j).map Int.toNat)) ++ [Value.int .u8 (K : Int)] = bytesV (encAll ((zs.take j).map Int.toNat) ++ [UInt8.ofNat K])) := by
        show _ = _
        rw [bytesV_snoc]
        congr 3
        simp
        omega
      go_wp2_with (at_builtin; refine wpList_append_own1 rfl (.tmp 16) (.tmp 19) _ rfl w.heap.size 5 _ 1 Tryd.underlying48 info_u8 rfl _ L _ rfl wr (.int .u8 (K : Int)) rfl hown.out rfl rfl (by unfold maxLen; omega) (by omega) hsz ?_; intro v1 w1 hown1 hb1; have HO1 := Lib.hid hown1; clear hown1)
      have hbel1 := hbel.trans hb1
      rw [hkb.out] at HO1
      clear hkb hk256
      go_loopw [3, 6] (fun x i wr => ∃ (m K' : Nat), m + K' = K ∧ i = .int .i64 (K' : Int) ∧ Hid (wr.ownsRow w.heap.size 5 1 x (L + 1 + m) (bytesV (encAll ((zs.take j).map Int.toNat) ++ [UInt8.ofNat K] ++ (beK N K).take m))) ∧ Below w.heap.size w wr) (fun _ i _ => (intOf i).toNat)
      case atStart => exact ⟨0, K, by omega, rfl, by simpa using HO1, hbel1⟩
      case round =>
        obtain ⟨m, K', hmk, rfl, hown2, hbel2⟩ := hrel
        by_cases hk0 : 0 < K'
        · obtain ⟨K2, rfl⟩ : ∃ K2, K' = K2 + 1 := ⟨K' - 1, by omega⟩
          have hnew : Hid (bytesV (encAll ((zs.take j).map Int.toNat) ++ [UInt8.ofNat K] ++ (beK N K).take m) ++ [Value.int .u8 (z / 2 ^ (8 * K2) % 256)] = bytesV (encAll ((zs.take j).map Int.toNat) ++ [UInt8.ofNat K] ++ (beK N K).take (m + 1))) := by
            show _ = _
            rw [beK_take N K m (by omega), ← List.append_assoc _ _ [_], bytesV_snoc, HZN.out, show K - 1 - m = K2 by omega, put_val]
          have hsz2 : w.heap.size ≤ wr.heap.size := hbel2.size
          have hK2 : ((K2 + 1 : Nat) : Int) - 1 = (K2 : Int) := by omega
          go_wp2_with (at_builtin; refine wpList_append_own1 rfl (.tmp 25) (.tmp 31) _ rfl w.heap.size 5 _ 1 Tryd.underlying48 info_u8 rfl _ (L + 1 + m) _ rfl wr (.int .u8 (z / 2 ^ (8 * K2) % 256)) rfl hown2.out rfl rfl (by unfold maxLen; omega) (by omega) hsz2 ?_; intro v2 w2 hown3 hb2; have HO2 := Lib.hid hown3; clear hown3)
          go_roundw
          case rel => exact ⟨m + 1, K2, by omega, by go_num, by rw [← hnew.out]; exact HO2.out, hbel2.trans hb2⟩
          case measure => simp [intOf]
        · obtain rfl : K' = 0 := by omega
          have hmK : m = K := by omega
          have hend : Hid (bytesV (encAll ((zs.take j).map Int.toNat) ++ [UInt8.ofNat K] ++ (beK N K).take m) = bytesV (encAll ((zs.take (j + 1)).map Int.toNat))) := by
            show _ = _
            have ht : (beK N K).take K = beK N K := List.take_of_length_le (by rw [beK_length]; exact Nat.le_refl _)
            rw [HSU.out, hmK, ht, List.append_assoc]
            unfold encL
            rw [← HK.out]
            rfl
          rw [hend.out] at hown2
          clear hend
          go_wp2_with fail
          go_roundw
          case rel => exact ⟨j + 1, L + 1 + m, by omega, by go_num, by omega, hown2, hbel2⟩
          case measure => simp [intOf]; omega
    · have hje : Hid (zs.take j = zs) := List.take_of_length_le (by rw [HL.out]; omega)
      have hst := run_str_of_own (P := Tryd.prog) (w := wr) 48 9 5 Tryd.underlying48 Tryd.underlying5 Tryd.underlying9 w.heap.size L _ _ hown.out
      rw [hje.out] at hst
      change _ = Result.ok (Value.string (encB (zs.map Int.toNat))) wr at hst
      clear hown
      go_wp2_with fail
      go_ret
      exact ⟨rfl, hbel⟩

/-- One number, in a slice that has just been laid. -/
theorem isInts_one (w : World) (n : Int) (h0 : 0 ≤ n) (h1 : n < 18446744073709551616) (e : TypeId) : IsInts .u64 (w.alloc (.cells #[.int .u64 n] e)) (some ⟨w.heap.size, 0, none⟩) 1 1 [n] := by
  refine ⟨⟨rfl, Nat.le_refl _, by decide, fun _ => ⟨w.heap.size, 0, rfl, by simp, fun j u hu => ?_⟩⟩, fun m hm => ?_⟩
  · rw [Nat.zero_add]
    have := (Blk.new w e [.int .u64 n]).cell j
    rw [this]
    exact hu
  · simp at hm
    subst hm
    exact WalkArith.wf_u64 (by omega)
def textB (s : ByteArray) : ByteArray := ⟨(encT s.data.toList).toArray⟩
theorem textB_eq (s : ByteArray) : encB [s.size] ++ s = textB s := by
  apply ByteArray.ext
  simp [encB, textB, encT, encAll]
theorem encB_size (n : Nat) (h : n < 18446744073709551616) : (encB [n]).size ≤ 9 := by
  show (encAll [n]).toArray.size ≤ 9
  have := nb_le n h
  simp [encAll, encL_length]
  omega
theorem put_any (n : Int) (w : World) (h0 : 0 ≤ n) (h1 : n < 18446744073709551616) (e : TypeId) :
    Calls Tryd.prog 26 #[.slice (some ⟨w.heap.size, 0, none⟩) 1 1] (w.alloc (.cells #[.int .u64 n] e)) fun r w' => r = .returned (.string (encB [n.toNat])) ∧ Below w.heap.size w w' :=
  (nums_any _ 1 1 [n] _ (isInts_one w n h0 h1 e) (by decide)).mono fun _ _ ⟨h2, h3⟩ => ⟨h2, ((Below.refl _ _).alloc (Nat.le_refl _) _).trans (h3.mono (by simp))⟩
theorem putText_any (s : ByteArray) (w : World) (hs : s.size ≤ 1000000) :
    Calls Tryd.prog 23 #[.string s] w fun e w' => e = .returned (.string (textB s)) ∧ Below w.heap.size w w' := by
  have he := textB_eq s
  have hz := encB_size s.size (by omega)
  have c := put_any (s.size : Int) w (by omega) (by omega) 45
  rw [Int.toNat_natCast] at c
  generalize encB [s.size] = q at *
  have C := Lib.hid c
  clear c
  go_enter Tryd.func23, Tryd.ntmps23
  go_wp2_with fail
  refine C.out.mono ?_
  rintro e w1 ⟨rfl, hb⟩
  go_wp2_with fail
  go_ret
  exact ⟨rfl, hb⟩
end Go.Proofs.YtaknmionaibodaaDoor.Notch
