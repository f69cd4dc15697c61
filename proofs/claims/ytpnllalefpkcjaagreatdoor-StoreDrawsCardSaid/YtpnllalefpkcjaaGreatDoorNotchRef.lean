/-
Contracts of the reference's writers.
-/
import Derived.Test.YtpnllalefpkcjaaGreatDoorNotchA
namespace Go.Proofs.YtpnllalefpkcjaaGreatDoor.Notch
open Go.RowKit

theorem one_byte (v : Int) (W : World) : (convert 89 9 (.slice (some ⟨W.heap.size, 0, none⟩) 1 1)).run Tryz.prog (W.alloc (.cells #[.int .u8 v] 5)) = .ok (.string ⟨#[UInt8.ofNat v.toNat]⟩) (W.alloc (.cells #[.int .u8 v] 5)) := by
  have hc := run_convert_bytes_arg (P := Tryz.prog) (W.alloc (.cells #[.int .u8 v] 5)) 89 5 Tryz.underlying89 Tryz.underlying5 W.heap.size 0 1 1 [v] rfl
    (fun i hi => by
      obtain rfl : i = 0 := by omega
      have := (Blk.new W 5 [.int .u8 v]).cell 0
      simp at this ⊢) 9 Tryz.underlying9
  exact hc
theorem cons_bytes (a : UInt8) (l : List UInt8) : (⟨#[a]⟩ : ByteArray) ++ ⟨l.toArray⟩ = ⟨(a :: l).toArray⟩ := by
  apply ByteArray.ext
  simp
theorem ofNat_mod (m : Nat) : UInt8.ofNat (m % 256) = UInt8.ofNat m := by
  apply UInt8.toNat_inj.1
  simp

def numB (n : Nat) : ByteArray := ⟨(encL n).toArray⟩
set_option maxHeartbeats 400000 in
theorem refNum_any (n : Int) (w : World) (h0 : 0 ≤ n) (h1 : n < 18446744073709551616) :
    Calls Tryz.prog 23 #[.int .u64 n] w fun e w' => e = .returned (.string (numB n.toNat)) ∧ Below w.heap.size w w' := by
  obtain ⟨N, hN⟩ : ∃ N : Nat, N = n.toNat := ⟨_, rfl⟩
  rw [← hN]
  have hNn : n = (N : Int) := by omega
  have hN64 : N < 18446744073709551616 := by omega
  have HNn := Lib.hid hNn
  have HN64 := Lib.hid hN64
  clear hN hNn hN64
  go_enter Tryz.func23, Tryz.ntmps23
  go_wp2_with fail
  go_loopw [0, 3] (fun q s wr => ∃ (j : Nat) (y : Int) (l : List UInt8), j ≤ 8 ∧ q = .int .u64 y ∧ 0 ≤ y ∧ y < 18446744073709551616 ∧ s = .string ⟨l.toArray⟩ ∧ l.length ≤ 8 ∧ Hid (y = ((N / 256 ^ j : Nat) : Int)) ∧ Hid (l = beK N j) ∧ Hid (j = 0 ∨ 256 ^ (j - 1) ≤ N) ∧ Below w.heap.size w wr) (fun q _ _ => (intOf q).toNat)
  case atStart =>
    exact ⟨0, n, [], by omega, rfl, h0, h1, rfl, by decide, by show _ = _; rw [HNn.out]; simp, rfl, .inl rfl, Below.refl _ _⟩
  case round =>
    obtain ⟨j, y, l, hj, rfl, y0, y1, rfl, hll, HY, HL, HM, hbel⟩ := hrel
    have hs2 : (⟨l.toArray⟩ : ByteArray).size = l.length := rfl
    by_cases hy : 0 < y
    · have hge : 256 ^ j ≤ N := by
        have h := HY.out
        rcases Nat.lt_or_ge N (256 ^ j) with h' | h'
        · rw [Nat.div_eq_of_lt h'] at h
          omega
        · exact h'
      have hj8 : j < 8 := by
        rcases Nat.lt_or_ge j 8 with h' | h'
        · exact h'
        · have h2 := Nat.pow_le_pow_right (n := 256) (by decide) h'
          have h3 := HN64.out
          have h4 : (256 : Nat) ^ 8 = 18446744073709551616 := by decide
          omega
      have HY2 : Hid (y / 256 = ((N / 256 ^ (j + 1) : Nat) : Int)) := by
        show _ = _
        rw [HY.out, Nat.pow_succ, ← Nat.div_div_eq_div_mul]
        rfl
      have HN2 : Hid ((UInt8.ofNat (y % 256).toNat :: l) = beK N (j + 1)) := by
        show _ = _
        rw [beK_succ_high, ← HL.out, HY.out, ← ofNat_mod (N / 256 ^ j)]
        rfl
      have HM2 : Hid (j + 1 = 0 ∨ 256 ^ (j + 1 - 1) ≤ N) := .inr (by rw [Nat.add_sub_cancel]; exact hge)
      have hl8 : l.length ≤ 7 := by rw [HL.out, beK_length]; omega
      have hone := one_byte (y % 256)
      obtain ⟨b, hb⟩ : ∃ b, b = UInt8.ofNat (y % 256).toNat := ⟨_, rfl⟩
      rw [← hb] at hone HN2
      have HB := Lib.hid hb
      clear hb hge
      have hap := cons_bytes b l
      have hs1 : (⟨#[b]⟩ : ByteArray).size = 1 := rfl
      have hsz := hbel.size
      go_wp2_with fail
      go_roundw
      case rel => exact ⟨j + 1, _, b :: l, by omega, rfl, by omega, by omega, rfl, by simp; omega, HY2, HN2, HM2, hbel.alloc hsz _⟩
      case measure => simp [intOf]; omega
    · have hnb : nb N = j := by
        refine nb_eq N j HN64.out ?_ HM.out
        have h := HY.out
        have h2 : N / 256 ^ j = 0 := by omega
        rcases Nat.lt_or_ge N (256 ^ j) with h' | h'
        · exact h'
        · have := (Nat.div_pos h' (Nat.pow_pos (by decide)))
          omega
      have hfin : Hid ((⟨(UInt8.ofNat ((l.length : Int) % 256).toNat :: l).toArray⟩ : ByteArray) = numB N) := by
        show _ = _
        unfold numB encL
        have hm : ((nb N : Int) % 256).toNat = nb N % 256 := by omega
        rw [HL.out, beK_length, ← hnb, hm, ofNat_mod]
      have hone := one_byte ((l.length : Int) % 256)
      have hlm : (l.length : Int) % 256 = (l.length : Int) := by omega
      rw [hlm] at hone
      rw [hlm] at hfin
      obtain ⟨b, hb⟩ : ∃ b, b = UInt8.ofNat (l.length : Int).toNat := ⟨_, rfl⟩
      rw [← hb] at hone hfin
      have hap := cons_bytes b l
      rw [hfin.out] at hap
      have hs1 : (⟨#[b]⟩ : ByteArray).size = 1 := rfl
      have hsz := hbel.size
      clear hb hnb hfin HM HL HY
      go_wp2_with fail
      go_ret
      exact ⟨rfl, hbel.alloc hsz _⟩

theorem numB_eq (n : Nat) : numB n = encB [n] := by
  unfold numB encB
  simp [encAll]
theorem encB_snoc (zs : List Int) (j : Nat) (z : Int) (h : zs[j]? = some z) : encB ((zs.take j).map Int.toNat) ++ numB z.toNat = encB ((zs.take (j + 1)).map Int.toNat) := by
  apply ByteArray.ext
  simp only [encB, numB]
  rw [encAll_take zs j z h]
  simp
theorem encAll_length (l : List Nat) (h : ∀ n ∈ l, n < 18446744073709551616) : (encAll l).length ≤ 9 * l.length := by
  induction l with
  | nil => simp [encAll]
  | cons n l ih =>
    have h1 := nb_le n (h n (by simp))
    have h2 := ih (fun m hm => h m (by simp [hm]))
    have e : encAll (n :: l) = encL n ++ encAll l := by simp [encAll]
    rw [e, List.length_append, encL_length, List.length_cons]
    omega

theorem refText_any (s : ByteArray) (w : World) (hs : s.size ≤ 1000000) :
    Calls Tryz.prog 26 #[.string s] w fun e w' => e = .returned (.string (textB s)) ∧ Below w.heap.size w w' := by
  have he := textB_eq s
  rw [← numB_eq] at he
  have hz := encB_size s.size (by omega)
  rw [← numB_eq] at hz
  have c := refNum_any (s.size : Int) w (by omega) (by omega)
  rw [Int.toNat_natCast] at c
  generalize numB s.size = q at *
  have C := Lib.hid c
  clear c
  go_enter Tryz.func26, Tryz.ntmps26
  go_wp2_with fail
  refine C.out.mono ?_
  rintro e w1 ⟨rfl, hb⟩
  go_wp2_with fail
  go_ret
  exact ⟨rfl, hb⟩
end Go.Proofs.YtpnllalefpkcjaaGreatDoor.Notch
