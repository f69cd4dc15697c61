/-
Contracts of store.Head and store.Put, and of the reference's.
-/
import Derived.Test.YtpnllalefpkcjaaGreatDoorCastA
import Derived.Test.YtpnllalefpkcjaaGreatDoorNotchA
import Derived.Test.YtpnllalefpkcjaaGreatDoorNotchRef
import Derived.RegionTactic
namespace Go.Proofs.YtpnllalefpkcjaaGreatDoor.Store
open Go.RowKit

/-- What Head lays, sealed; what Put lays. -/
def headS (s : ByteArray) : ByteArray := sealB (⟨#[83, 84, 69, 80]⟩ ++ Notch.textB s)
def putS (k : Nat) (d : ByteArray) : ByteArray := sealB (Notch.encB [k] ++ Notch.textB d)
theorem textB_size (s : ByteArray) (h : s.size ≤ 1000000) : (Notch.textB s).size ≤ s.size + 9 := by
  rw [← Notch.textB_eq, ByteArray.size_append]
  have := Notch.encB_size s.size (by omega)
  omega
def headV (s : ByteArray) : Value := if 100000 < s.size then .tuple #[.string ByteArray.empty, .int .i64 3] else .tuple #[.string (headS s), .int .i64 0]
def putV (k : Nat) (d : ByteArray) : Value :=
  if k < 1 ∨ 3 < k then .tuple #[.string ByteArray.empty, .int .i64 2] else if 65536 < d.size then .tuple #[.string ByteArray.empty, .int .i64 3] else .tuple #[.string (putS k d), .int .i64 0]
theorem head_any (s : ByteArray) (w : World) (hs : s.size ≤ maxLen) (hsh : Shifts w) :
    Calls Tryz.prog 13 #[.string s] w fun e w' => e = .returned (headV s) ∧ Below w.heap.size w w' := by
  unfold headV
  by_cases h : 100000 < s.size
  · rw [if_pos h]
    unfold maxLen at hs
    go_enter Tryz.func13, Tryz.ntmps13
    go_wp2_with fail
    go_ret2
    exact ⟨rfl, Below.refl _ _⟩
  · rw [if_neg h]
    have ht := textB_size s (by omega)
    go_enter Tryz.func13, Tryz.ntmps13
    go_wp2_with fail
    refine (Notch.putText_any s w (by omega)).mono ?_
    rintro e w1 ⟨rfl, hb1⟩
    have hsl := seal_any (⟨#[83, 84, 69, 80]⟩ ++ Notch.textB s) w1 (by rw [ByteArray.size_append]; show 4 + _ ≤ _; omega) (hsh.below hb1)
    have hh : sealB (⟨#[83, 84, 69, 80]⟩ ++ Notch.textB s) = headS s := rfl
    rw [hh] at hsl
    clear hh
    go_wp2_with fail
    refine hsl.mono ?_
    rintro e w2 ⟨rfl, hb2⟩
    go_wp2_with fail
    go_ret2
    exact ⟨rfl, hb1.trans (hb2.mono hb1.size)⟩
theorem below_al {a W : World} (h : Below a.heap.size a W) (o : Obj) : Below a.heap.size a (W.alloc o) := h.alloc h.size o
set_option maxRecDepth 100000 in
set_option maxHeartbeats 2000000 in
theorem put_any (k : Nat) (d : ByteArray) (w : World) (hk : k < 256) (hs : d.size ≤ maxLen) (hsh : Shifts w) :
    Calls Tryz.prog 14 #[.agg #[.int .u8 (k : Int), .string d]] w fun e w' => e = .returned (putV k d) ∧ Below w.heap.size w w' := by
  unfold putV
  have hal := (Below.refl w.heap.size w).alloc (Nat.le_refl _) (.cells #[.int .u8 (k : Int), .string d] 51)
  by_cases h : k < 1 ∨ 3 < k
  · rw [if_pos h]
    unfold maxLen at hs
    go_enter Tryz.func14, Tryz.ntmps14
    go_wp2_with fail
    all_goals go_ret2
    all_goals exact ⟨rfl, hal⟩
  · rw [if_neg h]
    by_cases h2 : 65536 < d.size
    · rw [if_pos h2]
      unfold maxLen at hs
      go_enter Tryz.func14, Tryz.ntmps14
      go_wp2_with fail
      all_goals go_ret2
      all_goals exact ⟨rfl, hal⟩
    · rw [if_neg h2]
      obtain ⟨w0, hw0⟩ : ∃ w0, w.alloc (.cells #[.int .u8 (k : Int), .string d] 51) = w0 := ⟨_, rfl⟩
      have hblk : Blk w0 w.heap.size 51 [.int .u8 (k : Int), .string d] := by rw [← hw0]; exact Blk.new _ _ [_, _]
      have hcell : ∀ W, Below w0.heap.size w0 W → W.cell? ⟨w.heap.size, 0, none⟩ = some (.int .u8 (k : Int)) ∧ W.cell? ⟨w.heap.size, 1, none⟩ = some (.string d) ∧ w.heap.size < W.heap.size := fun W hb => by
        have := hblk.below hb hblk.lt
        exact ⟨this.cell 0, this.cell 1, this.lt⟩
      have hnum : ∀ W, Below w0.heap.size w0 W → Calls Tryz.prog 20 #[.slice (some ⟨W.heap.size, 0, none⟩) 1 1] (W.alloc (.cells #[.int .u64 (k : Int)] 26)) fun e w' => e = .returned (.string (Notch.encB [k])) ∧ Below w0.heap.size w0 w' := fun W hb => by
        refine (Notch.put_any (k : Int) W (by omega) (by omega) 26).mono ?_
        rintro e w' ⟨rfl, hb2⟩
        exact ⟨by rw [Int.toNat_natCast], hb.trans (hb2.mono hb.size)⟩
      have hnum2 : ∀ W, Below w0.heap.size w0 W → Calls Tryz.prog 20 #[.slice (some ⟨W.heap.size, 0, none⟩) 1 1] (W.alloc (.cells #[.int .u64 (k : Int)] 26)).drew fun e w' => e = .returned (.string (Notch.encB [k])) ∧ Below w0.heap.size w0 w' := fun W hb => by
        refine (Notch.nums_any _ 1 1 [(k : Int)] (W.alloc (.cells #[.int .u64 (k : Int)] 26)).drew (Notch.isInts_one W (k : Int) (by omega) (by omega) 26) (by decide)).mono ?_
        rintro e w' ⟨rfl, hb2⟩
        have h1 := (below_al hb (.cells #[.int .u64 (k : Int)] 26)).drew
        exact ⟨by simp, h1.trans (hb2.mono h1.size)⟩
      have htext : ∀ W, Below w0.heap.size w0 W → Calls Tryz.prog 25 #[.string d] W fun e w' => e = .returned (.string (Notch.textB d)) ∧ Below w0.heap.size w0 w' := fun W hb => by
        refine (Notch.putText_any d W (by omega)).mono ?_
        rintro e w' ⟨rfl, hb2⟩
        exact ⟨rfl, hb.trans (hb2.mono hb.size)⟩
      have hz1 := Notch.encB_size k (by omega)
      have hz2 := textB_size d (by omega)
      rw [hw0] at hal
      have hseal : ∀ W, Below w0.heap.size w0 W → Calls Tryz.prog 33 #[.string (Notch.encB [k] ++ Notch.textB d)] W fun e w' => e = .returned (.string (putS k d)) ∧ Below w0.heap.size w0 w' := fun W hb => by
        refine (seal_any (Notch.encB [k] ++ Notch.textB d) W (by rw [ByteArray.size_append]; omega) ((hsh.below hal).below hb)).mono ?_
        rintro e w' ⟨rfl, hb2⟩
        exact ⟨rfl, hb.trans (hb2.mono hb.size)⟩
      have hfin : ∀ W, Below w0.heap.size w0 W → Below w.heap.size w W := fun W hb => hal.trans (hb.mono hal.size)
      have F := Lib.hid (And.intro hnum (And.intro htext (And.intro hseal (And.intro hcell hfin))))
      have F2 := Lib.hid hnum2
      have hwk : IntKind.u64.wrap (k : Int) = (k : Int) := by rw [IntKind.wrap_u64]; omega
      have hB0 : Below w0.heap.size w0 w0.drew := (Below.refl _ _).drew
      obtain ⟨c0, c1, c2⟩ := hcell _ hB0
      have z2 := hblk.lt
      have z0 := hblk.cell 0
      have z1 := hblk.cell 1
      simp only [List.getElem?_cons_zero, List.getElem?_cons_succ] at z0 z1
      generalize Notch.encB [k] = x at *
      generalize Notch.textB d = y at *
      clear hnum hnum2 htext hseal hcell hfin hal
      go_enter Tryz.func14, Tryz.ntmps14
      go_wp2_with fail
      clear hw0
      go_region_with (first
        | (go_at_call 20; refine (F2.out _ (by first | assumption | (exact Below.refl _ _))).mono ?_; rintro e wn ⟨rfl, hBn⟩; obtain ⟨n0, n1, n2⟩ := F.out.2.2.2.1 _ hBn)
        | (go_at_call 20; refine (F.out.1 _ (by first | assumption | (exact below_al (by assumption) _))).mono ?_; rintro e wn ⟨rfl, hBn⟩; obtain ⟨n0, n1, n2⟩ := F.out.2.2.2.1 _ hBn)
        | (go_at_call 25; refine (F.out.2.1 _ (by first | assumption | (exact below_al (by assumption) _))).mono ?_; rintro e wt ⟨rfl, hBt⟩; obtain ⟨t0, t1, t2⟩ := F.out.2.2.2.1 _ hBt)
        | (go_at_call 33; refine (F.out.2.2.1 _ (by first | assumption | (exact below_al (by assumption) _))).mono ?_; rintro e ws ⟨rfl, hBs⟩))
      all_goals (go_wp2_with fail; go_ret2; exact ⟨rfl, F.out.2.2.2.2 _ hBs⟩)

end Go.Proofs.YtpnllalefpkcjaaGreatDoor.Store
