/-
Contracts of notch's reader: a text. And what a reader keeps to.
-/
import Derived.Test.YtaknmionaibodaaDoorNotchRead2
namespace Go.Proofs.YtaknmionaibodaaDoor.Notch
open Go.RowKit

def textR (s : ByteArray) (bad : Bool) (most : Int) : ByteArray × ByteArray × Bool :=
  if (numR s bad).2.2 then (ByteArray.empty, (numR s bad).2.1, true)
  else if most < 0 ∨ most < ((numR s bad).1 : Int) ∨ (numR s bad).2.1.size < (numR s bad).1 then (ByteArray.empty, ByteArray.empty, true)
  else ((numR s bad).2.1.extract 0 (numR s bad).1, (numR s bad).2.1.extract (numR s bad).1 (numR s bad).2.1.size, false)

theorem numR_bd (s : ByteArray) (bad : Bool) : (numR s bad).1 < 18446744073709551616 ∧ (numR s bad).2.1.size ≤ s.size := by
  cases bad
  · unfold numR
    rw [if_neg (by decide)]
    cases h : readN s.data.toList with
    | none => exact ⟨by decide, Nat.zero_le _⟩
    | some x =>
      obtain ⟨n, r⟩ := x
      obtain ⟨h1, h2⟩ := readN_some _ _ _ h
      refine ⟨h1, ?_⟩
      rw [← size_list s, h2]
      show r.toArray.size ≤ _
      simp
  · exact ⟨by simp [numR], by simp [numR]⟩

set_option maxHeartbeats 400000 in
theorem text_any (g : Nat) (s : ByteArray) (bad : Bool) (most : Int) (w : World) (hs : s.size ≤ maxLen) (m0 : -9223372036854775808 ≤ most) (m1 : most ≤ 9223372036854775807) (h : Rdr w g s bad) :
    Calls Tryd.prog 46 #[.pointer (some ⟨g, 0, none⟩), .int .i64 most] w fun e w' => e = .returned (.string (textR s bad most).1) ∧ After w g (textR s bad most).2.1 (textR s bad most).2.2 w' := by
  have c := num_any g s bad w hs h
  obtain ⟨hn, hts⟩ := numR_bd s bad
  have hspec : textR s bad most = if (numR s bad).2.2 then (ByteArray.empty, (numR s bad).2.1, true)
    else if most < 0 ∨ most < ((numR s bad).1 : Int) ∨ (numR s bad).2.1.size < (numR s bad).1 then (ByteArray.empty, ByteArray.empty, true)
    else ((numR s bad).2.1.extract 0 (numR s bad).1, (numR s bad).2.1.extract (numR s bad).1 (numR s bad).2.1.size, false) := rfl
  generalize numR s bad = q at *
  obtain ⟨n, t, b⟩ := q
  simp only at c hn hts hspec
  have htm : t.size ≤ maxLen := by omega
  have htm' := htm
  unfold maxLen at htm'
  obtain ⟨N, hN⟩ : ∃ N : Int, N = (n : Int) := ⟨_, rfl⟩
  have hN0 : 0 ≤ N := by omega
  have hN1 : N < 18446744073709551616 := by omega
  rw [← hN] at c
  have C := Lib.hid c
  have HS := Lib.hid hspec
  have HN := Lib.hid hN
  clear c hspec h hs hN hn hts
  cases b
  · by_cases hneg : most < 0
    · have d1 : decide (most < 0) = true := by simpa using hneg
      go_enter Tryd.func46, Tryd.ntmps46
      go_wp2_with fail
      refine C.out.mono ?_
      rintro e w1 ⟨rfl, ha⟩
      have HA := Lib.hid ha
      clear ha
      go_wp2_with fail
      refine (isbad_any g _ false w1 HA.out.1).mono ?_
      rintro e w' ⟨rfl, rfl⟩
      go_wp2_with fail
      refine (spoil_any g _ false w1 HA.out.1).mono ?_
      rintro e w2 ⟨rfl, hb⟩
      go_wp2_with fail
      go_ret
      rw [HS.out, if_neg (by decide), if_pos (.inl hneg)]
      exact ⟨rfl, HA.out.trans hb⟩
    · have d1 : decide (most < 0) = false := by simpa using hneg
      by_cases hbig : most < N
      · have d2 : decide (most < N) = true := by simpa using hbig
        go_enter Tryd.func46, Tryd.ntmps46
        go_wp2_with fail
        refine C.out.mono ?_
        rintro e w1 ⟨rfl, ha⟩
        have HA := Lib.hid ha
        clear ha
        go_wp2_with fail
        refine (isbad_any g _ false w1 HA.out.1).mono ?_
        rintro e w' ⟨rfl, rfl⟩
        go_wp2_with fail
        refine (spoil_any g _ false w1 HA.out.1).mono ?_
        rintro e w2 ⟨rfl, hb⟩
        go_wp2_with fail
        go_ret
        rw [HS.out, if_neg (by decide), if_pos (.inr (.inl (by rw [← HN.out]; exact hbig)))]
        exact ⟨rfl, HA.out.trans hb⟩
      · have d2 : decide (most < N) = false := by simpa using hbig
        by_cases hlong : (t.size : Int) < N
        · have d3 : decide ((t.size : Int) < N) = true := by simpa using hlong
          go_enter Tryd.func46, Tryd.ntmps46
          go_wp2_with fail
          refine C.out.mono ?_
          rintro e w1 ⟨rfl, ha⟩
          have HA := Lib.hid ha
          clear ha
          go_wp2_with fail
          refine (isbad_any g _ false w1 HA.out.1).mono ?_
          rintro e w' ⟨rfl, rfl⟩
          go_wp2_with fail
          refine (vleft_any g _ w1 HA.out.1.s).mono ?_
          rintro e w' ⟨rfl, rfl⟩
          go_wp2_with fail
          refine (spoil_any g _ false w1 HA.out.1).mono ?_
          rintro e w2 ⟨rfl, hb⟩
          go_wp2_with fail
          go_ret
          rw [HS.out, if_neg (by decide), if_pos (.inr (.inr (by have := HN.out; omega)))]
          exact ⟨rfl, HA.out.trans hb⟩
        · have d3 : decide ((t.size : Int) < N) = false := by simpa using hlong
          have hle : n ≤ t.size := by have := HN.out; omega
          have cc := fun W hW => cut_any g t n W hle htm hW
          rw [← HN.out] at cc
          have CC := Lib.hid cc
          clear cc
          go_enter Tryd.func46, Tryd.ntmps46
          go_wp2_with fail
          refine C.out.mono ?_
          rintro e w1 ⟨rfl, ha⟩
          have HA := Lib.hid ha
          clear ha
          go_wp2_with fail
          refine (isbad_any g _ false w1 HA.out.1).mono ?_
          rintro e w' ⟨rfl, rfl⟩
          go_wp2_with fail
          refine (vleft_any g _ w1 HA.out.1.s).mono ?_
          rintro e w' ⟨rfl, rfl⟩
          go_wp2_with fail
          refine (CC.out w1 HA.out.1).mono ?_
          rintro e w2 ⟨rfl, hb⟩
          go_wp2_with fail
          go_ret
          rw [HS.out, if_neg (by decide), if_neg (by have := HN.out; omega)]
          exact ⟨rfl, HA.out.trans hb⟩
  · go_enter Tryd.func46, Tryd.ntmps46
    go_wp2_with fail
    refine C.out.mono ?_
    rintro e w1 ⟨rfl, ha⟩
    have HA := Lib.hid ha
    clear ha
    go_wp2_with fail
    refine (isbad_any g _ true w1 HA.out.1).mono ?_
    rintro e w' ⟨rfl, rfl⟩
    go_wp2_with fail
    go_ret
    rw [HS.out, if_pos trivial]
    exact ⟨rfl, HA.out⟩
theorem text_none (most : Int) (w : World) :
    Calls Tryd.prog 46 #[.pointer none, .int .i64 most] w fun e w' => e = .returned (.string ByteArray.empty) ∧ w = w' := by
  go_enter Tryd.func46, Tryd.ntmps46
  go_wp2_with fail
  refine (num_none w).mono ?_
  rintro e w' ⟨rfl, rfl⟩
  go_wp2_with fail
  refine (isbad_nil w).mono ?_
  rintro e w' ⟨rfl, rfl⟩
  go_wp2_with fail
  go_ret
  exact ⟨rfl, rfl⟩
theorem open_any (s : ByteArray) (w : World) :
    Calls Tryd.prog 37 #[.string s] w fun e w' => e = .returned (.pointer (some ⟨w.heap.size, 0, none⟩)) ∧ w' = w.alloc (.cells #[.string s, .bool false] 108) := by
  go_enter Tryd.func37, Tryd.ntmps37
  go_wp2
  go_ret
  exact ⟨rfl, rfl⟩
theorem open_new (s : ByteArray) (w : World) :
    Calls Tryd.prog 37 #[.string s] w fun e w' => e = .returned (.pointer (some ⟨w.heap.size, 0, none⟩)) ∧ Rdr w' w.heap.size s false ∧ w.heap.size < w'.heap.size ∧ Below w.heap.size w w' :=
  (open_any s w).mono fun _ _ ⟨h1, h2⟩ => ⟨h1, by rw [h2]; exact Blk.new w _ _, by rw [h2]; simp, by rw [h2]; exact (Below.refl _ _).alloc (Nat.le_refl _) _⟩
end Go.Proofs.YtaknmionaibodaaDoor.Notch
