/-
Contract of the reference's Text: decimal digits.
-/
import Derived.Test.YtpnllalefpkcjaaGreatDoorRefDiv
import Derived.Test.YtpnllalefpkcjaaGreatDoorNotchRef
namespace Go.Proofs.YtpnllalefpkcjaaGreatDoor.Nat_
open Go.RowKit

def strLen (v : Value) : Nat := match v with | .string s => s.size | _ => 0
theorem ten_len {n K : Nat} (h : n < 4294967296 ^ K) : (dig n).length ≤ 10 * K := by
  rw [dig_len, Nat.pow_mul]
  exact Nat.lt_of_lt_of_le h (Nat.pow_le_pow_left (by decide) K)
theorem dig_rev (n m : Nat) (l : List UInt8) (hm : m ≠ 0) (h : (dig n).reverse = (dig m).reverse ++ l) : (dig n).reverse = (dig (m / 10)).reverse ++ (UInt8.ofNat (48 + m % 10) :: l) := by
  rw [h, dig_pos m hm, List.reverse_cons, List.append_assoc]
  rfl
theorem nl_small (d : Nat) (h : d < 10) : nl d = if d = 0 then 0 else 1 := by
  unfold nl
  rw [limbs_small d (by omega)]
  split <;> rfl
theorem limbs_one (d : Nat) (h : d < 10) (h0 : d ≠ 0) : limbs d = [d] := by rw [limbs_small d (by omega), if_neg h0]
theorem bsize (l : List UInt8) : (⟨l.toArray⟩ : ByteArray).size = l.length := by show l.toArray.size = _; simp
theorem nn_first {B : Nat} {w : World} {a : Option Addr} {cap d : Nat} (h : NN B w (.slice a 1 cap) d) (hl : limbs d = [d]) : ∃ b off, a = some ⟨b, off, none⟩ ∧ w.cell? ⟨b, off, none⟩ = some (.int .u64 (d : Int)) := by
  have h1 := h.1.lb
  rw [hl] at h1
  obtain ⟨a', len', cap', he, -, -, -, -, -, h5⟩ := h1
  obtain ⟨rfl, rfl, rfl⟩ : a = a' ∧ 1 = len' ∧ cap = cap' := by injection he with h1 h2 h3; exact ⟨h1, h2, h3⟩
  obtain ⟨b, off, rfl, -, hc⟩ := h5 (by omega)
  exact ⟨b, off, rfl, hc 0 d rfl⟩
set_option maxRecDepth 100000 in
set_option maxHeartbeats 2000000 in
theorem rtext_nat (v : Value) (n K : Nat) (w : World) (hv : Nm w v n) (hK : K ≤ 200000) (hK1 : 1 ≤ K) (hn : n < 4294967296 ^ K) :
    Calls Tryz.prog 68 #[v] w fun e w' => e = .returned (.string ⟨(decs n).toArray⟩) ∧ Below w.heap.size w w' := by
  have c0 := rnorm_any v n w hv
  have hdl := ten_len hn
  have H10 : 10 < 4294967296 ^ K := lt_pow_mono (show 10 < 4294967296 ^ 1 by decide) hK1
  obtain ⟨va, vl, vc, rfl, -, -, -⟩ := hv.slice
  have C0 := Lib.hid c0
  have HN := Lib.hid (And.intro hn H10)
  have HDL := Lib.hid hdl
  clear c0 hn hv H10 hdl
  go_enter Tryz.func68, Tryz.ntmps68
  go_wp2_with fail
  refine C0.out.mono ?_
  rintro e w1 ⟨a1, e1, rfl, hn1, hb1⟩
  have HN1 := Lib.hid hn1
  have HB1 := Lib.hid hb1
  clear hn1 hb1
  go_wp2_with fail
  go_loopw [0, 3] (fun av sv wr => ∃ (m : Nat) (l : List UInt8) (ma : Option Addr) (mc : Nat), av = .slice ma (nl m) mc ∧ sv = .string ⟨l.toArray⟩ ∧ l.length ≤ 10 * K ∧ Hid ((dig n).reverse = (dig m).reverse ++ l ∧ m ≤ n) ∧ Hid (NN w.heap.size wr (.slice ma (nl m) mc) m) ∧ Hid (Below w.heap.size w wr)) (fun _ sv _ => 10 * K - strLen sv)
  case atStart => exact ⟨n, [], a1, e1, rfl, rfl, Nat.zero_le _, Lib.hid ⟨by simp, Nat.le_refl _⟩, HN1, HB1⟩
  case round =>
    clear HN1 HB1
    obtain ⟨m, l, ma, mc, rfl, rfl, hl, HD, HM, HB⟩ := hrel
    by_cases hm : m = 0
    · have hnl : nl m = 0 := (nl_zero m).2 hm
      rw [hnl]
      have hlr : (dig n).reverse = l := by
        have := HD.out.1
        rw [hm, dig_zero] at this
        simpa using this
      by_cases hn0 : n = 0
      · have hl0 : l = [] := by rw [← hlr, hn0]; rfl
        have HF := Lib.hid (show (⟨(decs n).toArray⟩ : ByteArray) = ⟨#[48]⟩ by rw [hn0]; rfl)
        subst hl0
        clear hnl hm hlr hn0
        go_wp2_with fail
        go_ret
        exact ⟨ret_str HF.out.symm, HB.out⟩
      · have hne : l ≠ [] := by
          rw [← hlr]
          intro e
          exact hn0 ((dig_nil n).1 (List.reverse_eq_nil_iff.1 e))
        have HF := Lib.hid (show (⟨(decs n).toArray⟩ : ByteArray) = ⟨l.toArray⟩ by unfold decs; rw [if_neg hn0, hlr])
        obtain ⟨b, l', rfl⟩ : ∃ b l', l = b :: l' := by
          cases l with
          | nil => exact absurd rfl hne
          | cons b l' => exact ⟨b, l', rfl⟩
        clear hnl hm hlr hn0 hne
        go_wp2_with fail
        go_ret
        exact ⟨ret_str HF.out.symm, HB.out⟩
    · have hlm : 0 < nl m := Nat.pos_of_ne_zero (fun h => hm ((nl_zero m).1 h))
      have hml : nl m ≤ 1000000 := HM.out.2
      have hmn := HD.out.2
      have hrv := dig_rev n m l hm HD.out.1
      have hl2 : l.length + 1 ≤ 10 * K := by
        have h1 := congrArg List.length hrv
        rw [List.length_reverse, List.length_append, List.length_cons] at h1
        have h2 := HDL.out
        omega
      have hal : Below wr.heap.size wr (wr.alloc (.cells #[.int .u64 10] 26)) := (Below.refl _ _).alloc (Nat.le_refl _) _
      have c1 := rdiv_any _ _ m 10 K (wr.alloc (.cells #[.int .u64 10] 26)) (HM.out.nm.below hal) (nm_one wr 10 (by decide)) hK (Nat.lt_of_le_of_lt hmn HN.out.1) HN.out.2 (by decide)
      have hd10 : m % 10 < 10 := Nat.mod_lt _ (by decide)
      have HD2 := Lib.hid (show (dig n).reverse = (dig (m / 10)).reverse ++ (UInt8.ofNat (48 + m % 10) :: l) ∧ m / 10 ≤ n from ⟨hrv, by omega⟩)
      have hns := nl_small (m % 10) hd10
      have hlo := limbs_one (m % 10) hd10
      generalize m % 10 = d at *
      generalize m / 10 = q at *
      generalize nl m = lm at *
      obtain ⟨b, hb⟩ : ∃ b, UInt8.ofNat (48 + d) = b := ⟨_, rfl⟩
      have hbI : UInt8.ofNat ((48 : Int) + (d : Int)).toNat = b := by rw [← hb, show ((48 : Int) + (d : Int)).toNat = 48 + d by omega]
      have hone := Notch.one_byte ((48 : Int) + (d : Int))
      rw [hbI] at hone
      rw [hb] at HD2
      have hap := Notch.cons_bytes b l
      have hs1 : (⟨#[b]⟩ : ByteArray).size = 1 := rfl
      have C1 := Lib.hid c1
      have HON := Lib.hid hone
      clear c1 hrv hal hm hmn hb hbI hone
      by_cases hd0 : d = 0
      · rw [if_pos hd0] at hns
        have HNS := Lib.hid hns
        subst hd0
        have hone : ∀ W : World, (convert 89 9 (.slice (some ⟨W.heap.size, 0, none⟩) 1 1)).run Tryz.prog (W.alloc (.cells #[.int .u8 48] 5)) = .ok (.string ⟨#[b]⟩) (W.alloc (.cells #[.int .u8 48] 5)) := HON.out
        clear hns hlo
        go_wp2_with fail
        refine C1.out.mono ?_
        rintro e v1 ⟨b1, f1, b2, f2, rfl, hq1, hr1, ha1⟩
        rw [HNS.out] at hr1 ⊢
        have hB1 := bel_al HB.out ha1
        have HQ1 := Lib.hid (hq1.ge (show w.heap.size ≤ _ from by have := HB.out.size; simp; omega))
        have HB1 := Lib.hid hB1
        clear hq1 hr1 ha1 hB1
        go_wp2_with fail
        go_roundw
        have hlen : (b :: l).length ≤ 10 * K := hl2
        have HB2 := Lib.hid (HB1.out.alloc HB1.out.size (.cells #[.int .u8 48] 5))
        have HQ2 := Lib.hid (nn_alloc HQ1.out (.cells #[.int .u8 48] 5))
        first
          | exact ⟨⟨q, b :: l, b1, f1, rfl, rfl, hlen, HD2, HQ2, HB2⟩, by simp only [strLen, bsize, List.length_cons]; omega⟩
          | (case rel => exact ⟨q, b :: l, b1, f1, rfl, rfl, hlen, HD2, HQ2, HB2⟩
             case measure => simp only [strLen, bsize, List.length_cons]; omega)
      · rw [if_neg hd0] at hns
        have HNS := Lib.hid hns
        have HLO := Lib.hid (hlo hd0)
        have hone := HON.out
        have hd1 : (0 : Int) < (d : Int) := by omega
        clear hns hlo hd0
        go_wp2_with fail
        refine C1.out.mono ?_
        rintro e v1 ⟨b1, f1, b2, f2, rfl, hq1, hr1, ha1⟩
        rw [HNS.out] at hr1 ⊢
        have hB1 := bel_al HB.out ha1
        have HQ1 := Lib.hid (hq1.ge (show w.heap.size ≤ _ from by have := HB.out.size; simp; omega))
        have HB1 := Lib.hid hB1
        obtain ⟨rb, ro, rfl, hcell⟩ := nn_first hr1 HLO.out
        clear hq1 hr1 ha1 hB1
        go_wp2_with fail
        go_roundw
        have hlen : (b :: l).length ≤ 10 * K := hl2
        have HB2 := Lib.hid (HB1.out.alloc HB1.out.size (.cells #[.int .u8 (48 + (d : Int))] 5))
        have HQ2 := Lib.hid (nn_alloc HQ1.out (.cells #[.int .u8 (48 + (d : Int))] 5))
        first
          | exact ⟨⟨q, b :: l, b1, f1, rfl, rfl, hlen, HD2, HQ2, HB2⟩, by simp only [strLen, bsize, List.length_cons]; omega⟩
          | (case rel => exact ⟨q, b :: l, b1, f1, rfl, rfl, hlen, HD2, HQ2, HB2⟩
             case measure => simp only [strLen, bsize, List.length_cons]; omega)
end Go.Proofs.YtpnllalefpkcjaaGreatDoor.Nat_
