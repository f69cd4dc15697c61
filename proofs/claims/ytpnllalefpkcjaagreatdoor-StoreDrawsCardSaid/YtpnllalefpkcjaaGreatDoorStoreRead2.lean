/-
Contracts of store.head and store.record.
-/
import Derived.Test.YtpnllalefpkcjaaGreatDoorStoreRead
namespace Go.Proofs.YtpnllalefpkcjaaGreatDoor.Store
open Go.RowKit

def STEP : ByteArray := ⟨#[83, 84, 69, 80]⟩
/-- What head tells of bytes: the head's text, and where it ends. -/
def headR (s : ByteArray) : ByteArray × Nat :=
  if (Notch.takeR s false 4).1 = STEP then
    ((Notch.textR (Notch.takeR s false 4).2.1 (Notch.takeR s false 4).2.2 100000).1,
      endN s (Notch.textR (Notch.takeR s false 4).2.1 (Notch.takeR s false 4).2.2 100000).2.1 (Notch.textR (Notch.takeR s false 4).2.1 (Notch.takeR s false 4).2.2 100000).2.2)
  else (ByteArray.empty, 0)
/-- What record tells: the kind, the data, and where it ends. -/
def recR (s : ByteArray) : Nat × ByteArray × Nat :=
  if (Notch.numR s false).1 < 1 ∨ 3 < (Notch.numR s false).1 then (0, ByteArray.empty, 0)
  else ((Notch.numR s false).1, (Notch.textR (Notch.numR s false).2.1 (Notch.numR s false).2.2 65536).1,
    endN s (Notch.textR (Notch.numR s false).2.1 (Notch.numR s false).2.2 65536).2.1 (Notch.textR (Notch.numR s false).2.1 (Notch.numR s false).2.2 65536).2.2)
theorem textR_size (s : ByteArray) (bad : Bool) (m : Int) : (Notch.textR s bad m).2.1.size ≤ s.size := by
  have h := (Notch.numR_bd s bad).2
  unfold Notch.textR
  split
  · exact h
  · split
    · exact Nat.zero_le _
    · rw [ByteArray.size_extract]; omega
theorem takeR_size (s : ByteArray) (bad : Bool) (n : Int) : (Notch.takeR s bad n).2.1.size ≤ s.size := by
  unfold Notch.takeR
  split
  · exact Nat.le_refl _
  · split
    · exact Nat.zero_le _
    · rw [ByteArray.size_extract]; omega
/-- A reader of one's own: what a call through it leaves of the world ahead of it. -/
theorem after_below {w0 w w' : World} {g : Nat} {s : ByteArray} {b : Bool} (h : Notch.After w g s b w') (hb : Below w0.heap.size w0 w) (hg : w0.heap.size ≤ g) : Below w0.heap.size w0 w' := below_grown hb h.2 hb.size hg

set_option maxRecDepth 100000 in
set_option maxHeartbeats 1000000 in
theorem shead_any (s : ByteArray) (w : World) (hs : s.size ≤ 281474976710648) (hsh : Shifts w) :
    Calls Tryz.prog 34 #[.string s] w fun e w' => e = .returned (.tuple #[.string (headR s).1, .int .i64 ((headR s).2 : Int)]) ∧ Below w.heap.size w w' := by
  obtain ⟨w0, hw0⟩ : ∃ w0, w.alloc (.cells #[.string s, .bool false] 95) = w0 := ⟨_, rfl⟩
  have hR0 : Notch.Rdr w0 w.heap.size s false := by rw [← hw0]; exact Blk.new _ _ [_, _]
  have hB0 : Below w.heap.size w w0 := by rw [← hw0]; exact (Below.refl _ _).alloc (Nat.le_refl _) _
  have ht := Notch.take_any w.heap.size s false 4 w0 (by unfold maxLen; omega) hR0
  have hts := takeR_size s false 4
  have ho := Notch.open_any s w
  rw [hw0] at ho
  have hspec : headR s = if (Notch.takeR s false 4).1 = STEP then
    ((Notch.textR (Notch.takeR s false 4).2.1 (Notch.takeR s false 4).2.2 100000).1,
      endN s (Notch.textR (Notch.takeR s false 4).2.1 (Notch.takeR s false 4).2.2 100000).2.1 (Notch.textR (Notch.takeR s false 4).2.1 (Notch.takeR s false 4).2.2 100000).2.2)
    else (ByteArray.empty, 0) := rfl
  generalize Notch.takeR s false 4 = tk at *
  obtain ⟨a, r, b⟩ := tk
  simp only [] at ht hts hspec
  by_cases ha : a = STEP
  · rw [if_pos ha] at hspec
    subst ha
    have hrs := textR_size r b 100000
    have hx : ∀ W, Notch.Rdr W w.heap.size r b → _ := fun W h => Notch.text_any w.heap.size r b 100000 W (by unfold maxLen; omega) (by decide) (by decide) h
    generalize Notch.textR r b 100000 = tx at *
    obtain ⟨t, r2, b2⟩ := tx
    simp only [] at hx hrs hspec
    have HS := Lib.hid hspec
    have HX := Lib.hid hx
    clear hspec hx hw0
    go_enter Tryz.func34, Tryz.ntmps34
    go_wp2_with fail
    refine ho.mono ?_
    rintro e w1 ⟨rfl, rfl⟩
    go_wp2_with fail
    refine ht.mono ?_
    rintro e w2 ⟨rfl, ha2⟩
    have hB2 := after_below ha2 hB0 (Nat.le_refl _)
    unfold STEP
    go_wp2_with fail
    refine (HX.out _ ha2.1).mono ?_
    rintro e w3 ⟨rfl, ha3⟩
    have hB3 := after_below ha3 hB2 (Nat.le_refl _)
    go_wp2_with fail
    refine (end_any s r2 b2 w.heap.size w3 hs (by omega) (hsh.below hB3) ha3.1).mono ?_
    rintro e w4 ⟨rfl, hb4⟩
    go_wp2_with fail
    go_ret2
    rw [HS.out]
    exact ⟨rfl, hB3.trans (hb4.mono hB3.size)⟩
  · rw [if_neg ha] at hspec
    have HS := Lib.hid hspec
    have hne : (a.toList == [83, 84, 69, 80]) = false := by
      rw [beq_eq_false_iff_ne]
      intro h
      apply ha
      apply ByteArray.ext
      apply Array.ext'
      rw [ByteArray.toList_eq] at h
      exact h
    clear hspec hw0
    go_enter Tryz.func34, Tryz.ntmps34
    go_wp2_with fail
    refine ho.mono ?_
    rintro e w1 ⟨rfl, rfl⟩
    go_wp2_with fail
    refine ht.mono ?_
    rintro e w2 ⟨rfl, ha2⟩
    have hB2 := after_below ha2 hB0 (Nat.le_refl _)
    clear ha
    go_wp2_with fail
    go_ret2
    rw [HS.out]
    exact ⟨rfl, hB2⟩
set_option maxRecDepth 100000 in
set_option maxHeartbeats 2000000 in
theorem srecord_any (s : ByteArray) (w : World) (hs : s.size ≤ 281474976710648) (hsh : Shifts w) :
    Calls Tryz.prog 35 #[.string s] w fun e w' => e = .returned (.tuple #[.agg #[.int .u8 ((recR s).1 : Int), .string (recR s).2.1], .int .i64 ((recR s).2.2 : Int)]) ∧ Below w.heap.size w w' := by
  obtain ⟨w00, hw00⟩ : ∃ w00, w.alloc (.cells #[.int .u8 0, .string ⟨#[]⟩] 51) = w00 := ⟨_, rfl⟩
  have hB00 : Below w.heap.size w w00 := by rw [← hw00]; exact (Below.refl _ _).alloc (Nat.le_refl _) _
  have k0 : Blk w00 w.heap.size 51 [.int .u8 0, .string ⟨#[]⟩] := by rw [← hw00]; exact Blk.new _ _ [_, _]
  obtain ⟨w0, hw0⟩ : ∃ w0, w00.alloc (.cells #[.string s, .bool false] 95) = w0 := ⟨_, rfl⟩
  have hR0 : Notch.Rdr w0 w00.heap.size s false := by rw [← hw0]; exact Blk.new _ _ [_, _]
  have hB0 : Below w00.heap.size w00 w0 := by rw [← hw0]; exact (Below.refl _ _).alloc (Nat.le_refl _) _
  have ht := Notch.num_any w00.heap.size s false w0 (by unfold maxLen; omega) hR0
  have hts := Notch.numR_bd s false
  have ho := Notch.open_any s w00
  rw [hw0] at ho
  have hspec : recR s = if (Notch.numR s false).1 < 1 ∨ 3 < (Notch.numR s false).1 then (0, ByteArray.empty, 0)
    else ((Notch.numR s false).1, (Notch.textR (Notch.numR s false).2.1 (Notch.numR s false).2.2 65536).1,
      endN s (Notch.textR (Notch.numR s false).2.1 (Notch.numR s false).2.2 65536).2.1 (Notch.textR (Notch.numR s false).2.1 (Notch.numR s false).2.2 65536).2.2) := rfl
  generalize Notch.numR s false = nm at *
  obtain ⟨k, r, b⟩ := nm
  simp only [] at ht hts hspec
  obtain ⟨hk64, hts⟩ := hts
  have hrs := textR_size r b 65536
  have hx : ∀ W, Notch.Rdr W w00.heap.size r b → _ := fun W h => Notch.text_any w00.heap.size r b 65536 W (by unfold maxLen; omega) (by decide) (by decide) h
  generalize Notch.textR r b 65536 = tx at *
  obtain ⟨t, r2, b2⟩ := tx
  simp only [] at hx hrs hspec
  have HX := Lib.hid hx
  clear hx
  obtain ⟨ik, ek⟩ : ∃ ik : Int, (k : Int) = ik := ⟨_, rfl⟩
  rw [ek] at ht
  have hcc : ∀ (W : World), Below w00.heap.size w00 W → ∀ u v : Value, ((W.setCell ⟨w.heap.size, 0, none⟩ u).setCell ⟨w.heap.size, 1, none⟩ v).cell? ⟨w.heap.size, 0, none⟩ = some u ∧ ((W.setCell ⟨w.heap.size, 0, none⟩ u).setCell ⟨w.heap.size, 1, none⟩ v).cell? ⟨w.heap.size, 1, none⟩ = some v ∧
      Below w.heap.size w ((W.setCell ⟨w.heap.size, 0, none⟩ u).setCell ⟨w.heap.size, 1, none⟩ v) := fun W h u v => by
    have hk := ((k0.below h k0.lt).set_ 0 u).set_ 1 v
    exact ⟨hk.cell 0, hk.cell 1, ((hB00.trans (h.mono hB00.size)).setCell (p := ⟨w.heap.size, 0, none⟩) (Nat.le_refl _) u).setCell (p := ⟨w.heap.size, 1, none⟩) (Nat.le_refl _) v⟩
  have hc3 : ∀ (W : World), Below w00.heap.size w00 W → W.cell? ⟨w.heap.size, 0, none⟩ = some (.int .u8 0) ∧ W.cell? ⟨w.heap.size, 1, none⟩ = some (.string ⟨#[]⟩) ∧ W.frozen? ⟨w.heap.size, 0, none⟩ = false ∧ W.frozen? ⟨w.heap.size, 1, none⟩ = false := fun W h => by
    have hk := k0.below h k0.lt
    exact ⟨hk.cell 0, hk.cell 1, hk.frozen 0 (by simp), hk.frozen 1 (by simp)⟩
  have HCC := Lib.hid (And.intro hcc hc3)
  clear hcc hc3 k0
  by_cases hk : k < 1 ∨ 3 < k
  · rw [if_pos hk] at hspec
    have HS := Lib.hid hspec
    clear hspec
    go_enter Tryz.func35, Tryz.ntmps35
    go_wp2_with fail
    refine ho.mono ?_
    rintro e w1 ⟨rfl, rfl⟩
    go_wp2_with fail
    refine ht.mono ?_
    rintro e w2 ⟨rfl, ha2⟩
    have hB2 := after_below ha2 hB0 (Nat.le_refl _)
    go_wp2_with fail
    refine (HX.out _ ha2.1).mono ?_
    rintro e w3 ⟨rfl, ha3⟩
    have hB3 := after_below ha3 hB2 (Nat.le_refl _)
    obtain ⟨c0, c1, f0, f1⟩ := HCC.out.2 w3 hB3
    go_wp2_with fail
    all_goals exact bodyPost_ret (v := .tuple #[.agg #[.int .u8 0, .string ⟨#[]⟩], .int .i64 0]) (by simp [results, Tryz.results35, go_sem, (HCC.out.1 w3 hB3 _ _).1, (HCC.out.1 w3 hB3 _ _).2.1]) rfl ⟨by rw [HS.out]; rfl, (HCC.out.1 w3 hB3 _ _).2.2⟩
  · rw [if_neg hk] at hspec
    have HS := Lib.hid hspec
    clear hspec
    go_enter Tryz.func35, Tryz.ntmps35
    go_wp2_with fail
    refine ho.mono ?_
    rintro e w1 ⟨rfl, rfl⟩
    go_wp2_with fail
    refine ht.mono ?_
    rintro e w2 ⟨rfl, ha2⟩
    have hB2 := after_below ha2 hB0 (Nat.le_refl _)
    go_wp2_with fail
    refine (HX.out _ ha2.1).mono ?_
    rintro e w3 ⟨rfl, ha3⟩
    have hB3 := after_below ha3 hB2 (Nat.le_refl _)
    go_wp2_with fail
    refine (end_any s r2 b2 w00.heap.size w3 hs (by omega) ((hsh.below hB00).below hB3) ha3.1).mono ?_
    rintro e w4 ⟨rfl, hb4⟩
    have hB4 := hB3.trans (hb4.mono hB3.size)
    obtain ⟨c0, c1, f0, f1⟩ := HCC.out.2 w4 hB4
    have hwk : IntKind.u8.wrap ik = ik := by rw [IntKind.wrap_u8]; omega
    go_wp2_with fail
    refine bodyPost_ret (v := .tuple #[.agg #[.int .u8 ik, .string t], .int .i64 ((endN s r2 b2 : Nat) : Int)]) (by simp [results, Tryz.results35, go_sem, (HCC.out.1 w4 hB4 _ _).1, (HCC.out.1 w4 hB4 _ _).2.1]) rfl ⟨?_, (HCC.out.1 w4 hB4 _ _).2.2⟩
    rw [HS.out, ← ek]
end Go.Proofs.YtpnllalefpkcjaaGreatDoor.Store
