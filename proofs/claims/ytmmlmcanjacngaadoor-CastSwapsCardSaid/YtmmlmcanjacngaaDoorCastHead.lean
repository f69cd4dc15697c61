/-
The calls of the chapter's examples, which every statement of the layer ends with: they answer true.
-/
import Derived.Test.YtmmlmcanjacngaaDoorCastSeal
namespace Go.Proofs.YtmmlmcanjacngaaDoor
open Go.RowKit

theorem open_ex1 (w : World) (hsh : Shifts w) : Calls Tryd.prog 15 #[.string ⟨#[97, 0, 0, 0, 0, 0, 0, 1, 97]⟩] w fun e w' => e = .returned (.tuple #[.string ⟨#[97]⟩, .bool true]) ∧ Below w.heap.size w w' := by
  have o1 : openV ⟨#[97, 0, 0, 0, 0, 0, 0, 1, 97]⟩ = .tuple #[.string ⟨#[97]⟩, .bool true] := by
    have h : openL [97, 0, 0, 0, 0, 0, 0, 1, 97] = true := by decide +kernel
    show Value.tuple (if openL [97, 0, 0, 0, 0, 0, 0, 1, 97] then _ else _) = _
    rw [h]
    rfl
  rw [← o1]
  exact open_any _ w (by decide) hsh
theorem open_ex2 (w : World) (hsh : Shifts w) : Calls Tryd.prog 15 #[.string ⟨#[97, 0, 0, 0, 0, 0, 0, 1, 98]⟩] w fun e w' => e = .returned (.tuple #[.string ByteArray.empty, .bool false]) ∧ Below w.heap.size w w' := by
  have o1 : openV ⟨#[97, 0, 0, 0, 0, 0, 0, 1, 98]⟩ = .tuple #[.string ByteArray.empty, .bool false] := by
    have h : openL [97, 0, 0, 0, 0, 0, 0, 1, 98] = false := by decide +kernel
    show Value.tuple (if openL [97, 0, 0, 0, 0, 0, 0, 1, 98] then _ else _) = _
    rw [h]
    rfl
  rw [← o1]
  exact open_any _ w (by decide) hsh
theorem rest_ex1 (w : World) (hsh : Shifts w) : Calls Tryd.prog 13 #[.string ⟨#[]⟩] w fun e w' => e = .returned (.int .u64 1) ∧ w = w' := by
  have r : ((rest (ByteArray.mk #[]).data.toList : Nat) : Int) = 1 := by decide +kernel
  rw [← r]
  exact rest_any _ w (by decide) hsh
theorem rest_ex2 (w : World) (hsh : Shifts w) : Calls Tryd.prog 13 #[.string ⟨#[97, 98]⟩] w fun e w' => e = .returned (.int .u64 90466) ∧ w = w' := by
  have r : ((rest (ByteArray.mk #[97, 98]).data.toList : Nat) : Int) = 90466 := by decide +kernel
  rw [← r]
  exact rest_any _ w (by decide) hsh
theorem rest_ex3 (w : World) (hsh : Shifts w) : Calls Tryd.prog 13 #[.string ⟨#[0, 0, 0, 0, 0, 0, 0, 0]⟩] w fun e w' => e = .returned (.int .u64 8) ∧ w = w' := by
  have r : ((rest (ByteArray.mk #[0, 0, 0, 0, 0, 0, 0, 0]).data.toList : Nat) : Int) = 8 := by decide +kernel
  rw [← r]
  exact rest_any _ w (by decide) hsh
theorem seal_ex1 (w : World) (hsh : Shifts w) : Calls Tryd.prog 17 #[.string ⟨#[]⟩] w fun e w' => e = .returned (.string ⟨#[0, 0, 0, 0, 0, 0, 0, 1]⟩) ∧ Below w.heap.size w w' := by
  have s1 : sealB ⟨#[]⟩ = ⟨#[0, 0, 0, 0, 0, 0, 0, 1]⟩ := by
    have h : sealL [] = [0, 0, 0, 0, 0, 0, 0, 1] := by decide +kernel
    show ByteArray.mk (sealL []).toArray = _
    rw [h]
  rw [← s1]
  exact seal_any _ w (by decide) hsh

set_option maxHeartbeats 400000 in
theorem head_any (w : World) (hsh : Shifts w) :
    Calls Tryd.prog 10 #[] w fun e w' => e = .returned (.bool true) ∧ Below w.heap.size w w' := by
  go_enter Tryd.func10, Tryd.ntmps10
  go_wp2_with fail
  refine (open_ex1 w hsh).mono ?_
  rintro e w1 ⟨rfl, hb1⟩
  have hsh1 := hsh.below hb1
  go_wp2_with fail
  refine (open_ex2 w1 hsh1).mono ?_
  rintro e w2 ⟨rfl, hb2⟩
  have hsh2 := hsh1.below hb2
  go_wp2_with fail
  refine (rest_ex1 w2 hsh2).mono ?_
  rintro e w' ⟨rfl, rfl⟩
  go_wp2_with fail
  refine (rest_ex2 w2 hsh2).mono ?_
  rintro e w' ⟨rfl, rfl⟩
  go_wp2_with fail
  refine (rest_ex3 w2 hsh2).mono ?_
  rintro e w' ⟨rfl, rfl⟩
  go_wp2_with fail
  refine (seal_ex1 w2 hsh2).mono ?_
  rintro e w3 ⟨rfl, hb3⟩
  go_wp2_with fail
  go_ret
  exact ⟨rfl, hb1.trans ((hb2.mono hb1.size).trans (hb3.mono (Nat.le_trans hb1.size hb2.size)))⟩
end Go.Proofs.YtmmlmcanjacngaaDoor
