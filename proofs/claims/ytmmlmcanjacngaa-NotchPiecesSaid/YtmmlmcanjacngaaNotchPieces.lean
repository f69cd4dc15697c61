/-
NotchPieces: what Take tells, piece by piece, is the text, and the rest of it at last; texts of more than 3000 bytes are let go. No condition.
-/
import Derived.Test.YtmmlmcanjacngaaNotchHead
import Derived.Deep.QuietTactic
import Derived.BigQuiet
namespace Go.Proofs.Ytmmlmcanjacngaa.Notch
open Go.RowKit

theorem After.below {w w1 : World} {g : Nat} {s : ByteArray} {b : Bool} {B : Nat} {w0 : World} (h : After w g s b w1) (hb : Below B w0 w) (hB : B ≤ w.heap.size) (hg : B ≤ g) : Below B w0 w1 := below_grown hb h.2 hB hg
theorem below_drewN {B : Nat} {a w : World} (h : Below B a w) (n : Nat) : Below B a (w.drewN n) := ⟨h.os, h.tape, h.output, h.size, h.block⟩
theorem Rdr.drewN {w : World} {g : Nat} {s : ByteArray} {b : Bool} (h : Rdr w g s b) (k : Nat) : Rdr (w.drewN k) g s b := h
theorem left_q (g : Nat) (s : ByteArray) (w : World) (h : Rdr w g s false) :
    Calls Try.prog 16 #[.pointer (some ⟨g, 0, none⟩)] w fun e w' => e = .returned (.int .i64 (s.size : Int)) ∧ w' = w := (left_any g s false w h).mono fun _ _ ⟨h1, h2⟩ => ⟨h1, h2.symm⟩

set_option maxHeartbeats 1000000 in
theorem notchPieces_walk (s : ByteArray) (a : Option Addr) (len cap : Nat) (zs : List Int) (w : World) (hs : s.size ≤ maxLen) (hrow : IsInts .u8 w a len cap zs) :
    Calls Try.prog 5 #[.string s, .slice a len cap] w fun e w' => e = .returned (.bool true) ∧ Below w.heap.size w w' := by
  by_cases hl : 3000 < s.size
  · unfold maxLen at hs
    clear hrow
    go_enter Try.func5, Try.ntmps5
    go_wp2_with fail
    refine (head_any w).mono ?_
    rintro e w1 ⟨rfl, hb1⟩
    go_wp2_with fail
    go_ret
    exact ⟨rfl, hb1⟩
  obtain ⟨⟨hll, hlc, hcm, hcells⟩, hwf⟩ := hrow
  unfold maxLen at hcm
  have HC := Lib.hid hcells
  have HL := Lib.hid (show zs.length = len by simpa using hll)
  have HW := Lib.hid hwf
  clear hll hcells hwf
  go_enter Try.func5, Try.ntmps5
  go_wp2_with fail
  refine (open_new s w).mono ?_
  rintro e w1 ⟨rfl, hr1, hlt1, hb1⟩
  have R1 := Lib.hid hr1
  clear hr1
  obtain ⟨g, hg⟩ : ∃ g, w.heap.size = g := ⟨_, rfl⟩
  rw [hg] at R1 hlt1 hb1 ⊢
  go_wp2_with fail
  go_loopw [6, 7] (fun al i wr => ∃ (j : Nat) (A S : ByteArray), j ≤ len ∧ i = .int .i64 (j : Int) ∧ al = .string A ∧ A.size ≤ 3000 ∧ S.size ≤ 3000 ∧ Hid (Rdr wr g S false) ∧ Hid (A ++ S = s) ∧ g < wr.heap.size ∧ Below g w wr) (fun _ i _ => len - (intOf i).toNat)
  case atStart => exact ⟨0, ByteArray.empty, s, by omega, rfl, rfl, by decide, by omega, R1, ByteArray.empty_append, hlt1, hb1⟩
  case round =>
    obtain ⟨j, A, S, hj, rfl, rfl, hA, hS, HR, HAS, hgw, hbel⟩ := hrel
    have hsum : A.size + S.size = s.size := by rw [← HAS.out, ByteArray.size_append]
    have HSUM := Lib.hid hsum
    by_cases hlt : j < len
    · obtain ⟨b, off, ha, hbw, hcs⟩ := HC.out (by omega)
      subst ha
      obtain ⟨z, hz⟩ : ∃ z, zs[j]? = some z := ⟨zs[j]'(by rw [HL.out]; exact hlt), List.getElem?_eq_getElem _⟩
      have hcell := (hbel.cell (p := ⟨b, off + j, none⟩) (by show b < g; omega)).trans (hcs j (.int .u8 z) (by simp [hz]))
      obtain ⟨z0, z1⟩ := bounds_u8 (HW.out z (List.mem_of_getElem? hz))
      obtain ⟨c, rfl⟩ := Int.eq_ofNat_of_zero_le z0
      obtain ⟨n, hn⟩ : ∃ n, n = min c S.size := ⟨_, rfl⟩
      have hmin : min (c : Int) (S.size : Int) = (n : Int) := by omega
      have hnS : n ≤ S.size := by omega
      have e1 := takeR_yes S n hnS
      have cT := fun W hW => take_any g S false (n : Int) W (by unfold maxLen; omega) hW
      rw [e1] at cT
      obtain ⟨p, hp⟩ : ∃ p, S.extract 0 n = p := ⟨_, rfl⟩
      obtain ⟨S2, hS2⟩ : ∃ S2, S.extract n S.size = S2 := ⟨_, rfl⟩
      rw [hp, hS2] at cT
      have hps : p.size = n := by rw [← hp, ByteArray.size_extract]; omega
      have hS2s : S2.size ≤ 3000 := by rw [← hS2, ByteArray.size_extract]; omega
      have hpS : p ++ S2 = S := by
        apply ByteArray.ext
        apply Array.ext'
        rw [← hp, ← hS2]
        simp only [ByteArray.data_append, Array.toList_append, ex_take, ex_drop, List.take_append_drop]
      obtain ⟨A2, hA2⟩ : ∃ A2, A ++ p = A2 := ⟨_, rfl⟩
      have hA2s : A2.size ≤ 3000 := by rw [← hA2, ByteArray.size_append]; omega
      have HAS2 : Hid (A2 ++ S2 = s) := by
        show _ = _
        rw [← hA2, ByteArray.append_assoc, hpS, HAS.out]
      have CT := Lib.hid cT
      have hne : ((p.size : Int) != (n : Int)) = false := by rw [hps]; simp
      have HPS := Lib.hid hps
      have hp3 : p.size ≤ 3000 := by omega
      clear cT hn e1 hp hS2 hpS hz hcs hps hsum
      go_wp2_with fail
      go_quiet ((go_at_call 16; exact Calls.quiet_of_same (left_q g S _ (HR.out.drewN _))))
      clear hmin
      go_wp2_with fail
      refine (CT.out _ (HR.out.drewN _)).mono ?_
      rintro e w2 ⟨rfl, ha2⟩
      have HA2 := Lib.hid ha2
      have hb2 : Below g w w2 := below_grown (below_drewN hbel _) ha2.2 (by show g ≤ wr.heap.size; omega) (Nat.le_refl _)
      have hg2 : g < w2.heap.size := Nat.lt_of_lt_of_le hgw ha2.2.size
      clear ha2
      go_wp2_with fail
      refine (isbad_any g S2 false w2 HA2.out.1).mono ?_
      rintro e w' ⟨rfl, rfl⟩
      go_wp2_with fail
      go_roundw
      case rel => exact ⟨j + 1, A2, S2, by omega, by go_num, rfl, hA2s, hS2s, HA2.out.1, HAS2, hg2, hb2⟩
      case measure => simp [intOf]; omega
    · have e1 := takeR_yes S S.size (Nat.le_refl _)
      have e2 : S.extract 0 S.size = S := by simp
      have e3 : S.extract S.size S.size = ByteArray.empty := by
        apply ByteArray.ext
        apply Array.ext'
        rw [ex_drop, List.drop_of_length_le (by simp)]
        rfl
      rw [e2, e3] at e1
      have cT := fun W hW => take_any g S false (S.size : Int) W (by unfold maxLen; omega) hW
      rw [e1] at cT
      have CT := Lib.hid cT
      have t1 : (s.toList == s.toList) = true := by simp
      have hAS := HAS.out
      clear cT e1 e2 e3
      go_wp2_with fail
      refine (left_any g S false wr HR.out).mono ?_
      rintro e w' ⟨rfl, rfl⟩
      rw [show ((leftR S false : Nat) : Int) = S.size from rfl]
      go_wp2_with fail
      refine (CT.out wr HR.out).mono ?_
      rintro e w2 ⟨rfl, ha2⟩
      have HA2 := Lib.hid ha2
      have hb2 : Below g w w2 := below_grown hbel ha2.2 (by omega) (Nat.le_refl _)
      have hg2 : g ≤ w2.heap.size := Nat.le_trans (Nat.le_of_lt hgw) ha2.2.size
      clear ha2
      go_wp2_with fail
      refine (left_any g _ false w2 HA2.out.1).mono ?_
      rintro e w' ⟨rfl, rfl⟩
      rw [show ((leftR ByteArray.empty false : Nat) : Int) = 0 from rfl]
      go_wp2_with fail
      refine (isbad_any g _ false w2 HA2.out.1).mono ?_
      rintro e w' ⟨rfl, rfl⟩
      go_wp2_with fail
      refine (head_any w2).mono ?_
      rintro e w3 ⟨rfl, hb3⟩
      go_wp2_with fail
      go_ret
      exact ⟨rfl, hg ▸ hb2.trans (hb3.mono hg2)⟩
end Go.Proofs.Ytmmlmcanjacngaa.Notch
