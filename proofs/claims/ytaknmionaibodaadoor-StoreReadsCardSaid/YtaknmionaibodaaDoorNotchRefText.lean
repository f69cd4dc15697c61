/-
Contract of the reference's reader: a text.
-/
import Derived.Test.YtaknmionaibodaaDoorNotchRefRead
namespace Go.Proofs.YtaknmionaibodaaDoor.Notch
open Go.RowKit

theorem textR_empty_inv (s : ByteArray) (bad : Bool) (h : bad = true → s = ByteArray.empty) : (numR s bad).2.2 = true → (numR s bad).2.1 = ByteArray.empty := by
  cases bad
  · unfold numR
    rw [if_neg (by decide)]
    cases readN s.data.toList with
    | none => exact fun _ => rfl
    | some x => exact fun h => absurd h (by simp)
  · intro _
    rw [h rfl]
    rfl

set_option maxHeartbeats 1000000 in
theorem rtext_any (g : Nat) (s : ByteArray) (bad : Bool) (most : Int) (w : World) (hs : s.size ≤ 1000000) (m0 : -9223372036854775808 ≤ most) (m1 : most ≤ 9223372036854775807) (hbs : bad = true → s = ByteArray.empty) (h : RR w g s bad) :
    Calls Tryd.prog 30 #[.pointer (some ⟨g, 0, none⟩), .int .i64 most] w fun e w' => e = .returned (.string (textR s bad most).1) ∧ AfterR w g (textR s bad most).2.1 (textR s bad most).2.2 w' := by
  have c := rnum_any g s bad w (by unfold maxLen; omega) hbs h
  obtain ⟨hn, hts⟩ := numR_bd s bad
  have hspec : textR s bad most = if (numR s bad).2.2 then (ByteArray.empty, (numR s bad).2.1, true)
    else if most < 0 ∨ most < ((numR s bad).1 : Int) ∨ (numR s bad).2.1.size < (numR s bad).1 then (ByteArray.empty, ByteArray.empty, true)
    else ((numR s bad).2.1.extract 0 (numR s bad).1, (numR s bad).2.1.extract (numR s bad).1 (numR s bad).2.1.size, false) := rfl
  generalize numR s bad = q at *
  obtain ⟨n, t, b⟩ := q
  simp only at c hn hts hspec
  have ht : t.size ≤ 1000000 := by omega
  obtain ⟨N, hN⟩ : ∃ N : Int, N = (n : Int) := ⟨_, rfl⟩
  have hN0 : 0 ≤ N := by omega
  have hN1 : N < 18446744073709551616 := by omega
  rw [← hN] at c
  have C := Lib.hid c
  have HS := Lib.hid hspec
  have HN := Lib.hid hN
  clear c hspec h hs hN hn hts hbs
  cases b
  · go_enter Tryd.func30, Tryd.ntmps30
    go_wp2_with fail
    refine C.out.mono ?_
    rintro e w1 ⟨rfl, ha⟩
    have HA := Lib.hid ha
    have h1 := ha.1.b
    have hsz : w.heap.size ≤ w1.heap.size := ha.2.size
    clear ha
    go_wp2_with fail
    go_loopw [6] (fun k wr => ∃ j : Nat, j ≤ 1000001 ∧ k = .int .i64 (j : Int) ∧ (j : Int) ≤ N ∧ Hid (RR wr g t false) ∧ w.heap.size ≤ wr.heap.size ∧ Hid (w.grownBy wr (some g))) (fun k _ => 1000001 - (intOf k).toNat)
    case atStart => exact ⟨0, by omega, rfl, by omega, HA.out.1, hsz, HA.out.2⟩
    case round =>
      obtain ⟨j, hj, rfl, hjN, HR, hwz, HG⟩ := hrel
      have h0 := HR.out.s
      have f0 := HR.out.f0
      by_cases hc : (j : Int) ≤ most ∧ j ≤ t.size
      · have d1 : decide ((j : Int) ≤ most) = true := by simpa using hc.1
        have d2 : decide (j ≤ t.size) = true := by simpa using hc.2
        have hjt := hc.2
        by_cases he : (j : Int) = N
        · have d3 : ((j : Int) == N) = true := by simpa using he
          have hnj : n = j := by have := HN.out; omega
          have hfin : textR s bad most = (t.extract 0 j, t.extract j t.size, false) := by
            rw [HS.out, hnj, if_neg (by decide), if_neg (by omega)]
          have HF := Lib.hid hfin
          have hset : Hid (AfterR w g (t.extract j t.size) false (wr.setCell ⟨g, 0, none⟩ (.string (t.extract j t.size)))) := ⟨HR.out.set0 _, grown_trans HG.out (grown_set wr g 0 _)⟩
          clear hc hfin he hnj
          go_wp2_with fail
          go_ret
          rw [HF.out]
          exact ⟨rfl, hset.out⟩
        · have d3 : ((j : Int) == N) = false := by simpa using he
          have hjN' : ((j + 1 : Nat) : Int) ≤ N := by omega
          clear hc
          go_wp2_with fail
          go_roundw
          · exact ⟨j + 1, by omega, by go_num, hjN', HR, hwz, HG⟩
          · simp [intOf]; omega
      · have hfin : textR s bad most = (ByteArray.empty, ByteArray.empty, true) := by
          have := HN.out
          rw [HS.out, if_neg (by decide), if_pos (by omega)]
        have HF := Lib.hid hfin
        clear hfin
        by_cases h8 : (j : Int) ≤ most
        · have d1 : decide ((j : Int) ≤ most) = true := by simpa using h8
          have d2 : decide (j ≤ t.size) = false := by simp; omega
          clear hc h8
          go_wp2_with fail
          refine (rspoil_any g t false _ HR.out).mono ?_
          rintro e w1 ⟨rfl, ha⟩
          go_wp2_with fail
          go_ret
          rw [HF.out]
          exact ⟨rfl, ha.1, grown_trans HG.out ha.2⟩
        · have d1 : decide ((j : Int) ≤ most) = false := by simpa using h8
          clear hc h8
          go_wp2_with fail
          refine (rspoil_any g t false _ HR.out).mono ?_
          rintro e w1 ⟨rfl, ha⟩
          go_wp2_with fail
          go_ret
          rw [HF.out]
          exact ⟨rfl, ha.1, grown_trans HG.out ha.2⟩
  · have hfin : textR s bad most = (ByteArray.empty, t, true) := by rw [HS.out, if_pos rfl]
    have HF := Lib.hid hfin
    clear hfin
    go_enter Tryd.func30, Tryd.ntmps30
    go_wp2_with fail
    refine C.out.mono ?_
    rintro e w1 ⟨rfl, ha⟩
    have HA := Lib.hid ha
    have h1 := ha.1.b
    clear ha
    go_wp2_with fail
    go_ret
    rw [HF.out]
    exact ⟨rfl, HA.out⟩
end Go.Proofs.YtaknmionaibodaaDoor.Notch
