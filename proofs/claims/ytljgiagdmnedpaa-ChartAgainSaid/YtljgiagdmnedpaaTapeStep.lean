/-
tape: fields, right, step, One, Two, Num, Par.
-/
import Derived.Test.YtljgiagdmnedpaaTapePut
namespace Go.Proofs.Ytljgiagdmnedpaa.Tape_
open Go.RowKit Nat_ Frac_

/-- fields, told of an Op: what it is. -/
def FieldsOf (op : Nat) (how : Int) : Prop := ∀ V : World, Calls Try.prog 40 #[.int .u8 (op : Int)] V fun e w' => e = .returned (.int .i64 how) ∧ Below V.heap.size V w'
set_option maxRecDepth 100000 in
set_option maxHeartbeats 1000000 in
theorem fields_0 : FieldsOf 0 0 := by
  intro V
  go_enter Try.func40, Try.ntmps40
  go_wp2
  go_ret
  exact ⟨rfl, (Below.refl V.heap.size V).alloc (Nat.le_refl _) _⟩
set_option maxRecDepth 100000 in
set_option maxHeartbeats 1000000 in
theorem fields_3 : FieldsOf 3 3 := by
  intro V
  go_enter Try.func40, Try.ntmps40
  go_wp2
  go_ret
  exact ⟨rfl, (Below.refl V.heap.size V).alloc (Nat.le_refl _) _⟩
set_option maxRecDepth 100000 in
set_option maxHeartbeats 1000000 in
theorem fields_4 : FieldsOf 4 3 := by
  intro V
  go_enter Try.func40, Try.ntmps40
  go_wp2
  go_ret
  exact ⟨rfl, (Below.refl V.heap.size V).alloc (Nat.le_refl _) _⟩
set_option maxRecDepth 100000 in
set_option maxHeartbeats 1000000 in
theorem fields_5 : FieldsOf 5 3 := by
  intro V
  go_enter Try.func40, Try.ntmps40
  go_wp2
  go_ret
  exact ⟨rfl, (Below.refl V.heap.size V).alloc (Nat.le_refl _) _⟩
set_option maxRecDepth 100000 in
set_option maxHeartbeats 1000000 in
theorem fields_6 : FieldsOf 6 3 := by
  intro V
  go_enter Try.func40, Try.ntmps40
  go_wp2
  go_ret
  exact ⟨rfl, (Below.refl V.heap.size V).alloc (Nat.le_refl _) _⟩
set_option maxRecDepth 100000 in
set_option maxHeartbeats 1000000 in
theorem fields_7 : FieldsOf 7 4 := by
  intro V
  go_enter Try.func40, Try.ntmps40
  go_wp2
  go_ret
  exact ⟨rfl, (Below.refl V.heap.size V).alloc (Nat.le_refl _) _⟩
set_option maxRecDepth 100000 in
set_option maxHeartbeats 1000000 in
theorem fields_8 : FieldsOf 8 4 := by
  intro V
  go_enter Try.func40, Try.ntmps40
  go_wp2
  go_ret
  exact ⟨rfl, (Below.refl V.heap.size V).alloc (Nat.le_refl _) _⟩
set_option maxRecDepth 100000 in
set_option maxHeartbeats 1000000 in
theorem fields_9 : FieldsOf 9 4 := by
  intro V
  go_enter Try.func40, Try.ntmps40
  go_wp2
  go_ret
  exact ⟨rfl, (Below.refl V.heap.size V).alloc (Nat.le_refl _) _⟩
theorem ahead_ok (g : Nat) (x n : Nat) (w : World) (hc : w.cell? ⟨g, 0, none⟩ = some (.int .i64 (n : Int))) (h : x < n) :
    Calls Try.prog 54 #[.int .i64 (x : Int), .pointer (some ⟨g, 0, none⟩)] w fun e w' => e = .returned (.bool true) ∧ w' = w := by
  go_enter Try.func54, Try.ntmps54
  go_wp2
  go_ret
  exact ⟨rfl, rfl⟩
set_option maxRecDepth 100000 in
set_option maxHeartbeats 2000000 in
theorem right_two (op x y n pars : Nat) (w : World) (hf : FieldsOf op 3) (hx : x < n) (hy : y < n) :
    Calls Try.prog 41 #[.agg #[.int .u8 (op : Int), .int .i64 (x : Int), .int .i64 (y : Int), .bool false, .slice none 0 0, .slice none 0 0], .int .i64 (n : Int), .int .i64 (pars : Int)] w fun e w' => e = .returned (.bool true) ∧ Below w.heap.size w w' := by
  have hmf : ∀ (fn : Fn) (first cap : Array Value) (w : World), (Instr.makeFunc fn first cap).run Try.prog w = .ok (.func fn first cap) w := fun _ _ _ _ => rfl
  obtain ⟨W, hW⟩ : ∃ W, (w.alloc (.cells #[.int .u8 (op : Int), .int .i64 (x : Int), .int .i64 (y : Int), .bool false, .slice none 0 0, .slice none 0 0] 49)).alloc (.cells #[.int .i64 (n : Int)] 3) = W := ⟨_, rfl⟩
  obtain ⟨G, hG⟩ : ∃ G, w.heap.size = G := ⟨_, rfl⟩
  have hbw : Below w.heap.size w W := by rw [← hW]; exact ((Below.refl w.heap.size w).alloc (Nat.le_refl _) _).alloc (by simp) _
  have k1 : Blk W G 49 [.int .u8 (op : Int), .int .i64 (x : Int), .int .i64 (y : Int), .bool false, .slice none 0 0, .slice none 0 0] := by rw [← hW]; exact (blk_new _ _ [_, _, _, _, _, _] _ hG).alloc _
  have k2 : Blk W (G + 1) 3 [.int .i64 (n : Int)] := by rw [← hW]; exact blk_new _ _ [_] _ (by simp [hG])
  have hFF := Lib.hid (hf W)
  have HK := Lib.hid (And.intro k1 (And.intro k2 hbw))
  have HW := Lib.hid hW
  have g0 := k1.cell 0
  have g3 := k1.cell 3
  have g4 := k1.cell 4
  have g5 := k1.cell 5
  simp only [List.getElem?_cons_zero, List.getElem?_cons_succ] at g0 g3 g4 g5
  clear hW k1 k2 hf hbw
  go_enter Try.func41, Try.ntmps41
  go_wp2_with fail
  rw [HW.out]
  go_wp2_with fail
  refine hFF.out.mono ?_
  rintro e w1 ⟨rfl, hb1⟩
  have k1 := HK.out.1.below hb1 HK.out.1.lt
  have k2 := HK.out.2.1.below hb1 HK.out.2.1.lt
  have HB := Lib.hid (HK.out.2.2.trans (hb1.mono HK.out.2.2.size))
  have c1 := k1.cell 1
  have c2 := k1.cell 2
  have c0 := k2.cell 0
  simp only [List.getElem?_cons_zero, List.getElem?_cons_succ] at c0 c1 c2
  clear g0 g3 g4 g5 hb1 k1 k2 hFF HW
  go_wp2_with fail
  refine (ahead_ok (G + 1) x n w1 c0 hx).mono ?_
  rintro e w2 ⟨rfl, rfl⟩
  go_wp2_with fail
  refine (ahead_ok (G + 1) y n w2 c0 hy).mono ?_
  rintro e w3 ⟨rfl, rfl⟩
  go_wp2_with fail
  go_ret
  exact ⟨rfl, HB.out⟩
set_option maxRecDepth 100000 in
set_option maxHeartbeats 2000000 in
theorem right_one (op x n pars : Nat) (w : World) (hf : FieldsOf op 4) (hx : x < n) :
    Calls Try.prog 41 #[.agg #[.int .u8 (op : Int), .int .i64 (x : Int), .int .i64 0, .bool false, .slice none 0 0, .slice none 0 0], .int .i64 (n : Int), .int .i64 (pars : Int)] w fun e w' => e = .returned (.bool true) ∧ Below w.heap.size w w' := by
  have hmf : ∀ (fn : Fn) (first cap : Array Value) (w : World), (Instr.makeFunc fn first cap).run Try.prog w = .ok (.func fn first cap) w := fun _ _ _ _ => rfl
  obtain ⟨W, hW⟩ : ∃ W, (w.alloc (.cells #[.int .u8 (op : Int), .int .i64 (x : Int), .int .i64 0, .bool false, .slice none 0 0, .slice none 0 0] 49)).alloc (.cells #[.int .i64 (n : Int)] 3) = W := ⟨_, rfl⟩
  obtain ⟨G, hG⟩ : ∃ G, w.heap.size = G := ⟨_, rfl⟩
  have hbw : Below w.heap.size w W := by rw [← hW]; exact ((Below.refl w.heap.size w).alloc (Nat.le_refl _) _).alloc (by simp) _
  have k1 : Blk W G 49 [.int .u8 (op : Int), .int .i64 (x : Int), .int .i64 0, .bool false, .slice none 0 0, .slice none 0 0] := by rw [← hW]; exact (blk_new _ _ [_, _, _, _, _, _] _ hG).alloc _
  have k2 : Blk W (G + 1) 3 [.int .i64 (n : Int)] := by rw [← hW]; exact blk_new _ _ [_] _ (by simp [hG])
  have hFF := Lib.hid (hf W)
  have HK := Lib.hid (And.intro k1 (And.intro k2 hbw))
  have HW := Lib.hid hW
  have g0 := k1.cell 0
  have g3 := k1.cell 3
  have g4 := k1.cell 4
  have g5 := k1.cell 5
  simp only [List.getElem?_cons_zero, List.getElem?_cons_succ] at g0 g3 g4 g5
  clear hW k1 k2 hf hbw
  go_enter Try.func41, Try.ntmps41
  go_wp2_with fail
  rw [HW.out]
  go_wp2_with fail
  refine hFF.out.mono ?_
  rintro e w1 ⟨rfl, hb1⟩
  have k1 := HK.out.1.below hb1 HK.out.1.lt
  have k2 := HK.out.2.1.below hb1 HK.out.2.1.lt
  have HB := Lib.hid (HK.out.2.2.trans (hb1.mono HK.out.2.2.size))
  have c1 := k1.cell 1
  have c2 := k1.cell 2
  have c0 := k2.cell 0
  simp only [List.getElem?_cons_zero, List.getElem?_cons_succ] at c0 c1 c2
  clear g0 g3 g4 g5 hb1 k1 k2 hFF HW
  go_wp2_with fail
  refine (ahead_ok (G + 1) x n w1 c0 hx).mono ?_
  rintro e w2 ⟨rfl, rfl⟩
  go_wp2_with fail
  go_ret
  exact ⟨rfl, HB.out⟩
end Go.Proofs.Ytljgiagdmnedpaa.Tape_
