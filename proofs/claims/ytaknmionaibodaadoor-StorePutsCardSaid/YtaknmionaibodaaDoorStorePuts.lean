/-
StorePuts: store.Head and store.Put tell the reference's texts and errors; texts of more than 101000 bytes and Data of more than 70000 are let go. No condition.
-/
import Derived.Test.YtaknmionaibodaaDoorStoreEx
import Derived.Test.YtaknmionaibodaaDoorStorePut
namespace Go.Proofs.YtaknmionaibodaaDoor.Store
open Go.RowKit Nat_

theorem headV_form (s : ByteArray) : ∃ x k, headV s = .tuple #[.string x, .int .i64 k] := by
  unfold headV
  split
  · exact ⟨_, _, rfl⟩
  · exact ⟨_, _, rfl⟩
theorem putV_form (k : Nat) (d : ByteArray) : ∃ x k', putV k d = .tuple #[.string x, .int .i64 k'] := by
  unfold putV
  split
  · exact ⟨_, _, rfl⟩
  split
  · exact ⟨_, _, rfl⟩
  · exact ⟨_, _, rfl⟩
set_option maxRecDepth 100000 in
set_option maxHeartbeats 1000000 in
theorem storePuts_big (s : ByteArray) (k : Nat) (d : ByteArray) (w : World) (hs : s.size ≤ maxLen) (hd : d.size ≤ maxLen) (hsh : Shifts w) (hl : 101000 < s.size ∨ 70000 < d.size) :
    Calls Tryd.prog 3 #[.string s, .agg #[.int .u8 (k : Int), .string d]] w fun e w' => e = .returned (.bool true) ∧ Below w.heap.size w w' := by
  unfold maxLen at hs hd
  have hal := (Below.refl w.heap.size w).alloc (Nat.le_refl _) (.cells #[.int .u8 (k : Int), .string d] 23)
  by_cases h1 : 101000 < s.size
  · clear hl
    go_enter Tryd.func3, Tryd.ntmps3
    go_wp2_with fail
    refine (lawHead_any _ (hsh.below hal)).mono ?_
    rintro e w1 ⟨rfl, hb1⟩
    go_wp2_with fail
    go_ret
    exact ⟨rfl, hal.trans (hb1.mono hal.size)⟩
  · have h2 : 70000 < d.size := by omega
    clear hl
    go_enter Tryd.func3, Tryd.ntmps3
    go_wp2_with fail
    refine (lawHead_any _ (hsh.below hal)).mono ?_
    rintro e w1 ⟨rfl, hb1⟩
    go_wp2_with fail
    go_ret
    exact ⟨rfl, hal.trans (hb1.mono hal.size)⟩
set_option maxRecDepth 100000 in
set_option maxHeartbeats 1000000 in
theorem storePuts_nat (s : ByteArray) (k : Nat) (d : ByteArray) (w : World) (hk : k < 256) (hs : s.size ≤ maxLen) (hd : d.size ≤ maxLen) (hsh : Shifts w) :
    Calls Tryd.prog 3 #[.string s, .agg #[.int .u8 (k : Int), .string d]] w fun e w' => e = .returned (.bool true) ∧ Below w.heap.size w w' := by
  by_cases hl : 101000 < s.size ∨ 70000 < d.size
  · exact storePuts_big s k d w hs hd hsh hl
  have h1 : ¬ 101000 < s.size := fun h => hl (.inl h)
  have h2 : ¬ 70000 < d.size := fun h => hl (.inr h)
  clear hl
  have c1 := head_any s
  have c2 := rhead_any s
  have c3 := put_any k d
  have c4 := rput_any k d
  obtain ⟨x, m, hx⟩ := headV_form s
  obtain ⟨y, n, hy⟩ := putV_form k d
  rw [hx] at c1 c2
  rw [hy] at c3 c4
  have C1 := Lib.hid c1
  have C2 := Lib.hid c2
  have C3 := Lib.hid c3
  have C4 := Lib.hid c4
  clear c1 c2 c3 c4 hx hy
  have hxx : (x.toList == x.toList) = true := by simp
  have hyy : (y.toList == y.toList) = true := by simp
  have hal := (Below.refl w.heap.size w).alloc (Nat.le_refl _) (.cells #[.int .u8 (k : Int), .string d] 23)
  have hsz := hal.size
  have hblk : Blk (w.alloc (.cells #[.int .u8 (k : Int), .string d] 23)) w.heap.size 23 [.int .u8 (k : Int), .string d] := Blk.new w _ [_, _]
  have hs1 := hsh.below hal
  have hdm : d.size ≤ maxLen := hd
  have hsm : s.size ≤ maxLen := hs
  have HL := Lib.hid (And.intro hsm hdm)
  clear hs hd hsm hdm
  go_enter Tryd.func3, Tryd.ntmps3
  go_wp2_with fail
  refine (C1.out _ HL.out.1 hs1).mono ?_
  rintro e w1 ⟨rfl, hb1⟩
  have hs2 := hs1.below hb1
  have k1 := hblk.below hb1 hblk.lt
  have hB1 := hal.trans (hb1.mono hal.size)
  go_wp2_with fail
  refine (C2.out w1 HL.out.1).mono ?_
  rintro e w2 ⟨rfl, hb2⟩
  have hs3 := hs2.below hb2
  have k2 := k1.below hb2 k1.lt
  have hB2 := hB1.trans (hb2.mono hB1.size)
  have e0 := k2.cell 0
  have e1 := k2.cell 1
  have el := k2.lt
  simp only [List.getElem?_cons_zero, List.getElem?_cons_succ] at e0 e1
  go_wp2_with fail
  refine (C3.out w2 hk HL.out.2 hs3).mono ?_
  rintro e w3 ⟨rfl, hb3⟩
  have hs4 := hs3.below hb3
  have k3 := k2.below hb3 k2.lt
  have hB3 := hB2.trans (hb3.mono hB2.size)
  have f0 := k3.cell 0
  have f1 := k3.cell 1
  have fl := k3.lt
  simp only [List.getElem?_cons_zero, List.getElem?_cons_succ] at f0 f1
  go_wp2_with fail
  refine (C4.out w3 hk HL.out.2).mono ?_
  rintro e w4 ⟨rfl, hb4⟩
  have hs5 := hs4.below hb4
  have hB4 := hB3.trans (hb4.mono hB3.size)
  go_wp2_with fail
  refine (lawHead_any w4 hs5).mono ?_
  rintro e w5 ⟨rfl, hb5⟩
  go_wp2_with fail
  go_ret
  exact ⟨rfl, hB4.trans (hb5.mono hB4.size)⟩
theorem storePuts_walk (s : ByteArray) (k : Int) (d : ByteArray) (w : World) (hs : s.size ≤ maxLen) (hk0 : 0 ≤ k) (hk : k < 256) (hd : d.size ≤ maxLen) (hsh : Shifts w) :
    Calls Tryd.prog 3 #[.string s, .agg #[.int .u8 k, .string d]] w fun e w' => e = .returned (.bool true) ∧ Below w.heap.size w w' := by
  obtain ⟨n, rfl⟩ := Int.eq_ofNat_of_zero_le hk0
  exact storePuts_nat s n d w (by omega) hs hd hsh
end Go.Proofs.YtaknmionaibodaaDoor.Store
