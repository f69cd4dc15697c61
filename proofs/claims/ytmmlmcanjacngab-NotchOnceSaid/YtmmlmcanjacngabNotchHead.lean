/-
The calls of the chapter's examples, which every statement of the layer ends with: they answer true.
-/
import Derived.Test.YtmmlmcanjacngabNotchPut
import Derived.Test.YtmmlmcanjacngabNotchRead3
namespace Go.Proofs.Ytmmlmcanjacngab.Notch
open Go.RowKit

theorem num_ex1 (g : Nat) (w : World) (h : Rdr w g ⟨#[2, 1, 2, 5]⟩ false) :
    Calls Try.prog 8 #[.pointer (some ⟨g, 0, none⟩)] w fun e w' => e = .returned (.int .u64 258) ∧ After w g ⟨#[5]⟩ false w' := by
  have e1 : numR ⟨#[2, 1, 2, 5]⟩ false = (258, ⟨#[5]⟩, false) := by
    rw [numR_yes _ 2 [1, 2, 5] rfl (by decide)]
    rfl
  have c := num_any g _ _ w (by decide) h
  rw [e1] at c
  exact c
theorem num_ex2 (g : Nat) (w : World) (h : Rdr w g ⟨#[5]⟩ false) :
    Calls Try.prog 8 #[.pointer (some ⟨g, 0, none⟩)] w fun e w' => e = .returned (.int .u64 0) ∧ After w g ByteArray.empty true w' := by
  have e1 : numR ⟨#[5]⟩ false = (0, ByteArray.empty, true) := numR_no _ 5 [] rfl (by decide)
  have c := num_any g _ _ w (by decide) h
  rw [e1] at c
  exact c
theorem nums_ex (w : World) (e : TypeId) :
    Calls Try.prog 7 #[.slice (some ⟨w.heap.size, 0, none⟩) 2 2] (w.alloc (.cells #[.int .u64 258, .int .u64 7] e)) fun r w' => r = .returned (.string ⟨#[2, 1, 2, 1, 7]⟩) ∧ Below w.heap.size w w' := by
  have hi : IsInts .u64 (w.alloc (.cells #[.int .u64 258, .int .u64 7] e)) (some ⟨w.heap.size, 0, none⟩) 2 2 [258, 7] := by
    refine ⟨⟨rfl, Nat.le_refl _, by decide, fun _ => ⟨w.heap.size, 0, rfl, by simp, fun j u hu => ?_⟩⟩, fun m hm => ?_⟩
    · rw [Nat.zero_add]
      have := (Blk.new w e [.int .u64 258, .int .u64 7]).cell j
      rw [this]
      exact hu
    · simp at hm
      rcases hm with rfl | rfl <;> decide
  have e1 : encB ([258, 7].map Int.toNat) = ⟨#[2, 1, 2, 1, 7]⟩ := by
    have h : encAll ([258, 7].map Int.toNat) = [2, 1, 2, 1, 7] := by decide +kernel
    unfold encB
    rw [h]
  rw [← e1]
  exact (nums_any _ 2 2 [258, 7] _ hi (by decide)).mono fun _ _ ⟨h2, h3⟩ => ⟨h2, ((Below.refl _ _).alloc (Nat.le_refl _) _).trans (h3.mono (by simp))⟩
theorem text_ex (w : World) : Calls Try.prog 9 #[.string ⟨#[97, 98]⟩] w fun e w' => e = .returned (.string ⟨#[1, 2, 97, 98]⟩) ∧ Below w.heap.size w w' := by
  have e1 : textB ⟨#[97, 98]⟩ = ⟨#[1, 2, 97, 98]⟩ := by
    have h : encT [97, 98] = [1, 2, 97, 98] := by decide +kernel
    show ByteArray.mk (encT [97, 98]).toArray = _
    rw [h]
  rw [← e1]
  exact putText_any _ w (by decide)
theorem long_ex (w : World) : Calls Try.prog 14 #[.int .u64 65536] w fun e w' => e = .returned (.int .i64 4) ∧ w = w' := by
  have e1 : ((nb (65536 : Int).toNat : Int) + 1) = 4 := by decide +kernel
  rw [← e1]
  exact long_any 65536 w (by omega) (by omega)

set_option maxHeartbeats 400000 in
theorem head_any (w : World) : Calls Try.prog 5 #[] w fun e w' => e = .returned (.bool true) ∧ Below w.heap.size w w' := by
  go_enter Try.func5, Try.ntmps5
  go_wp2_with fail
  refine (open_new ⟨#[2, 1, 2, 5]⟩ w).mono ?_
  rintro e w1 ⟨rfl, hr1, hlt1, hb1⟩
  have R1 := Lib.hid hr1
  clear hr1
  go_wp2_with fail
  refine (num_ex1 _ w1 R1.out).mono ?_
  rintro e w2 ⟨rfl, ha2⟩
  have A2 := Lib.hid ha2
  clear ha2
  go_wp2_with fail
  refine (left_any _ _ _ w2 A2.out.1).mono ?_
  rintro e w' ⟨rfl, rfl⟩
  rw [show ((leftR ⟨#[5]⟩ false : Nat) : Int) = 1 from rfl]
  go_wp2_with fail
  refine (num_ex2 _ w2 A2.out.1).mono ?_
  rintro e w3 ⟨rfl, ha3⟩
  have A3 := Lib.hid ha3
  clear ha3
  go_wp2_with fail
  refine (nums_ex w3 _).mono ?_
  rintro e w4 ⟨rfl, hb4⟩
  go_wp2_with fail
  refine (text_ex w4).mono ?_
  rintro e w5 ⟨rfl, hb5⟩
  go_wp2_with fail
  refine (long_ex w5).mono ?_
  rintro e w' ⟨rfl, rfl⟩
  have g2 := A2.out.2
  have g3 := A3.out.2
  have s2 := g2.size
  have s3 := g3.size
  have s4 := hb4.size
  have r4 := A3.out.1.below hb4 (by omega)
  have r5 := Rdr.below r4 hb5 (by omega)
  have R5 := Lib.hid r5
  clear r4 r5 g2 g3
  go_wp2_with fail
  refine (isbad_any _ _ _ w5 R5.out).mono ?_
  rintro e w' ⟨rfl, rfl⟩
  go_wp2_with fail
  refine (left_any _ _ _ w5 R5.out).mono ?_
  rintro e w' ⟨rfl, rfl⟩
  rw [show ((leftR ByteArray.empty true : Nat) : Int) = 0 from rfl]
  go_wp2_with fail
  go_ret
  refine ⟨rfl, ?_⟩
  have b2 := below_grown hb1 A2.out.2 hb1.size (Nat.le_refl _)
  have b3 := below_grown b2 A3.out.2 b2.size (Nat.le_refl _)
  exact (b3.trans (hb4.mono b3.size)).trans (hb5.mono (Nat.le_trans b3.size hb4.size))
end Go.Proofs.Ytmmlmcanjacngab.Notch
