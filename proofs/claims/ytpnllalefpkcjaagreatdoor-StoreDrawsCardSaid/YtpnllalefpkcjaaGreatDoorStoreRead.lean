/-
Contracts of store.end, head, record: what a reader of bytes finds.
-/
import Derived.Test.YtpnllalefpkcjaaGreatDoorStorePut
import Derived.Test.YtpnllalefpkcjaaGreatDoorNotchA
namespace Go.Proofs.YtpnllalefpkcjaaGreatDoor.Store
open Go.RowKit

/-- Where what a reader went through ends, with its seal; 0: it is not sealed. -/
def endN (s rest : ByteArray) (bad : Bool) : Nat :=
  if bad = true ∨ s.size < s.size - rest.size + 8 then 0 else if openL (s.data.toList.take (s.size - rest.size + 8)) then s.size - rest.size + 8 else 0
theorem endN_le (s rest : ByteArray) (bad : Bool) : endN s rest bad ≤ s.size := by
  unfold endN
  split
  · omega
  · split <;> omega
set_option maxRecDepth 100000 in
set_option maxHeartbeats 1000000 in
theorem end_any (s rest : ByteArray) (bad : Bool) (g : Nat) (w : World) (hs : s.size ≤ 281474976710648) (hr : rest.size ≤ s.size) (hsh : Shifts w) (h : Notch.Rdr w g rest bad) :
    Calls Tryz.prog 55 #[.string s, .pointer (some ⟨g, 0, none⟩)] w fun e w' => e = .returned (.int .i64 (endN s rest bad : Int)) ∧ Below w.heap.size w w' := by
  have hl := Notch.left_any g rest bad w h
  have hb := Notch.isbad_any g rest bad w h
  cases bad with
  | true =>
    have he : endN s rest true = 0 := by unfold endN; rw [if_pos (Or.inl rfl)]
    rw [he]
    have hlr : Notch.leftR rest true = 0 := rfl
    rw [hlr] at hl
    clear h he hlr
    go_enter Tryz.func55, Tryz.ntmps55
    go_wp2_with (first
      | (go_at_call 73; refine hl.mono ?_; rintro e w' ⟨rfl, rfl⟩)
      | (go_at_call 48; refine hb.mono ?_; rintro e w' ⟨rfl, rfl⟩))
    go_ret
    exact ⟨rfl, Below.refl _ _⟩
  | false =>
    have hlr : Notch.leftR rest false = rest.size := rfl
    rw [hlr] at hl
    clear h hlr
    obtain ⟨n, hn⟩ : ∃ n, n = s.size - rest.size + 8 := ⟨_, rfl⟩
    have hni : (s.size : Int) - (rest.size : Int) + 8 = (n : Int) := by omega
    have he : endN s rest false = if s.size < n then 0 else if openL (s.data.toList.take n) then n else 0 := by
      unfold endN
      rw [← hn]
      by_cases h : s.size < n
      · rw [if_pos (Or.inr h), if_pos h]
      · rw [if_neg (by simp; omega), if_neg h]
    rw [he]
    clear he hn
    by_cases h : s.size < n
    · rw [if_pos h]
      go_enter Tryz.func55, Tryz.ntmps55
      go_wp2_with (first
        | (go_at_call 73; refine hl.mono ?_; rintro e w' ⟨rfl, rfl⟩)
        | (go_at_call 48; refine hb.mono ?_; rintro e w' ⟨rfl, rfl⟩))
      go_ret
      exact ⟨rfl, Below.refl _ _⟩
    · rw [if_neg h]
      have hop := open_any (s.extract 0 n) w (by rw [ByteArray.size_extract]; omega) hsh
      have hL : (s.extract 0 n).data.toList = s.data.toList.take n := by simp
      unfold openV at hop
      rw [hL] at hop
      cases ho : openL (s.data.toList.take n) with
      | true =>
        rw [ho] at hop
        simp only [if_true] at hop
        have HO := Lib.hid hop
        clear hop hL
        go_enter Tryz.func55, Tryz.ntmps55
        go_wp2_with (first
          | (go_at_call 73; refine hl.mono ?_; rintro e w' ⟨rfl, rfl⟩)
          | (go_at_call 48; refine hb.mono ?_; rintro e w' ⟨rfl, rfl⟩)
          | (go_at_call 74; refine HO.out.mono ?_; rintro e w2 ⟨rfl, hb2⟩))
        go_ret
        exact ⟨rfl, hb2⟩
      | false =>
        rw [ho] at hop
        simp only [Bool.false_eq_true, if_false] at hop
        have HO := Lib.hid hop
        clear hop hL
        go_enter Tryz.func55, Tryz.ntmps55
        go_wp2_with (first
          | (go_at_call 73; refine hl.mono ?_; rintro e w' ⟨rfl, rfl⟩)
          | (go_at_call 48; refine hb.mono ?_; rintro e w' ⟨rfl, rfl⟩)
          | (go_at_call 74; refine HO.out.mono ?_; rintro e w2 ⟨rfl, hb2⟩))
        go_ret
        exact ⟨rfl, hb2⟩
end Go.Proofs.YtpnllalefpkcjaaGreatDoor.Store
