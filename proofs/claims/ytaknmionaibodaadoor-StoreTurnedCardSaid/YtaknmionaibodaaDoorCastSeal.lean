/-
Contracts of cast.Seal and cast.Open, and of the reference's.
-/
import Derived.Test.YtaknmionaibodaaDoorCastWalks
namespace Go.Proofs.YtaknmionaibodaaDoor
open Go.RowKit

/-- A number's eight bytes, the highest first. -/
def be8 (n : Nat) : List UInt8 := (List.range 8).map fun i => UInt8.ofNat (n / 256 ^ (7 - i))
def sealL (l : List UInt8) : List UInt8 := l ++ be8 (rest l)
def sealB (s : ByteArray) : ByteArray := ⟨(sealL s.data.toList).toArray⟩
theorem be8_length (n : Nat) : (be8 n).length = 8 := by simp [be8]
def rowI (l : List UInt8) (n i : Nat) : List Value := bytesV (l ++ (be8 n).take i) ++ List.replicate (8 - i) (.int .u8 0)
theorem rowI_length (l : List UInt8) (n i : Nat) (h : i ≤ 8) : (rowI l n i).length = l.length + 8 := by
  simp [rowI, bytesV_length, be8_length]; omega
theorem be8_get (n i : Nat) (h : i < 8) : (be8 n)[i]? = some (UInt8.ofNat (n / 256 ^ (7 - i))) := by simp [be8, h]
theorem rowI_set (l : List UInt8) (n i : Nat) (h : i < 8) :
    (rowI l n i).set (l.length + i) (.int .u8 ((n / 256 ^ (7 - i) % 256 : Nat) : Int)) = rowI l n (i + 1) := by
  have e : List.take (i + 1) (be8 n) = List.take i (be8 n) ++ [UInt8.ofNat (n / 256 ^ (7 - i))] := by
    rw [List.take_add_one, be8_get n i h]; rfl
  have r : List.replicate (8 - i) (Value.int .u8 0) = .int .u8 0 :: List.replicate (8 - (i + 1)) (.int .u8 0) := by
    rw [show 8 - i = (8 - (i + 1)) + 1 by omega, List.replicate_succ]
  unfold rowI
  rw [e, r, ← List.append_assoc l, bytesV_append (l ++ _)]
  rw [List.set_append_right _ _ (by simp [bytesV_length, be8_length]; omega)]
  have z : l.length + i - (bytesV (l ++ List.take i (be8 n))).length = 0 := by simp [bytesV_length, be8_length]; omega
  rw [z]
  simp [bytesV]
theorem info_u8 : (Tryd.prog.info? 5).map (fun i => (i.zero, i.size, i.bytes)) = some (some (.int .u8 0), 1, 1) := by kernel_rfl
theorem rowI_zero (l : List UInt8) (n : Nat) (Z : List Value) (hZ : Z = List.replicate (l.length + 8) (.int .u8 0)) : spliceL Z 0 (bytesV l) = rowI l n 0 := by
  subst hZ
  simp [spliceL, rowI, bytesV_length]
theorem byte_val (n j : Nat) : Value.int .u8 ((n / 256 ^ (7 - j) % 256 : Nat) : Int) = .int .u8 ((n : Int) / 2 ^ (8 * (7 - j)) % 256) := by
  have e : (256 : Nat) ^ (7 - j) = 2 ^ (8 * (7 - j)) := by rw [Nat.pow_mul]
  rw [e]
  congr 1
theorem rowI_end (s : ByteArray) (n : Nat) (h : n = rest s.data.toList) : ((rowI s.data.toList n 8).drop 0).take (s.size + 8) = bytesV (sealL s.data.toList) := by
  have e : s.data.toList.length = s.size := by simp
  rw [List.drop_zero, List.take_of_length_le (by rw [rowI_length _ _ _ (Nat.le_refl _), e]; exact Nat.le_refl _)]
  simp [rowI, sealL, h, be8_length, List.take_of_length_le]
theorem madeCells_one (z : Value) (n : Nat) : madeCells #[z] n = (List.replicate n z).toArray := by
  apply Array.ext'
  rw [toList_madeCells_one]

set_option maxRecDepth 100000 in
set_option maxHeartbeats 400000 in
theorem seal_any (s : ByteArray) (w : World) (hs : s.size ≤ 281474976710648) (hsh : Shifts w) :
    Calls Tryd.prog 22 #[.string s] w fun e w' => e = .returned (.string (sealB s)) ∧ Below w.heap.size w w' := by
  obtain ⟨Z, hZ⟩ : ∃ Z : List Value, Z = List.replicate (s.size + 8) (.int .u8 0) := ⟨_, rfl⟩
  have hmk : ∀ W : World, (Instr.makeSlice 48 (.int .i64 ((s.size : Int) + 8)) (.int .i64 ((s.size : Int) + 8))).run Tryd.prog W = .ok (.slice (some ⟨W.heap.size, 0, none⟩) (s.size + 8) (s.size + 8)) (W.alloc (.cells Z.toArray 5)) := by
    intro W
    have h := run_make_row' (P := Tryd.prog) 48 5 _ 1 Tryd.underlying48 info_u8 rfl .i64 .i64 (s.size + 8) (by omega) (by omega) W
    rw [madeCells_one, ← hZ] at h
    exact h
  have HZ := Lib.hid hZ
  have hZl : Z.length = s.size + 8 := by rw [hZ]; simp
  clear hZ
  go_enter Tryd.func22, Tryd.ntmps22
  go_wp2_with (with_reducible refine wpList_copy_str rfl (.tmp 11) (.tmp 12) _ _ rfl 5 Tryd.underlying48 (by kernel_rfl) w.heap.size 0 _ _ s rfl rfl 5 Z (Blk.new _ _ _) (by omega) (by omega) ?_; intro w1 hb1 hg1; clear hmk)
  have hB1 : Below w.heap.size w w1 := below_grown ((Below.refl _ _).alloc (Nat.le_refl _) _) hg1 (by simp) (Nat.le_refl _)
  have hb2 := Lib.hid (rowI_zero s.data.toList (rest s.data.toList) Z HZ.out ▸ hb1)
  clear hg1 hb1
  refine (rest_any s w1 (by unfold maxLen; omega) (hsh.below hB1)).mono ?_
  rintro e w' ⟨rfl, rfl⟩
  have hr := more_lt 1 s.data.toList
  obtain ⟨n, hn⟩ : ∃ n : Nat, n = rest s.data.toList := ⟨_, rfl⟩
  rw [← hn] at hb2 ⊢
  change rest s.data.toList < P61 at hr
  rw [← hn] at hr
  unfold P61 at hr
  have HN := Lib.hid hn
  clear hn
  go_wp2_with fail
  go_loopw [16] (fun i wr => ∃ j : Nat, j ≤ 8 ∧ i = .int .i64 (j : Int) ∧ Hid (Blk wr w.heap.size 5 (rowI s.data.toList n j)) ∧ Below w.heap.size w wr) (fun i _ => 8 - (intOf i).toNat)
  case atStart => exact ⟨0, by omega, rfl, hb2, hB1⟩
  case round =>
    obtain ⟨j, hj, rfl, hblk, hbel⟩ := hrel
    by_cases h8 : j < 8
    · have hlen := rowI_length s.data.toList n j hj
      have hfr := hblk.out.frozen (s.size + j) (by rw [hlen]; simp; omega)
      obtain ⟨old, hcell⟩ : ∃ u, wr.cell? ⟨w.heap.size, s.size + j, none⟩ = some u := by
        rw [hblk.out.cell, List.getElem?_eq_getElem (by rw [hlen]; simp; omega)]
        exact ⟨_, rfl⟩
      have hset := rowI_set s.data.toList n j h8
      have hnew := hblk.out.set_ (s.data.toList.length + j) (.int .u8 ((n / 256 ^ (7 - j) % 256 : Nat) : Int))
      rw [hset] at hnew
      have e1 : s.data.toList.length = s.size := by simp
      rw [e1, byte_val n j] at hnew
      have HN2 := Lib.hid hnew
      have hbel2 := hbel.setCell (p := ⟨w.heap.size, s.size + j, none⟩) (Nat.le_refl _) (.int .u8 ((n : Int) / 2 ^ (8 * (7 - j)) % 256))
      clear hnew hset hlen e1
      go_wp2_with fail
      go_roundw
      case rel => exact ⟨j + 1, by omega, by go_num, HN2.out, hbel2⟩
      case measure => simp [intOf]; omega
    · have e : j = 8 := by omega
      subst e
      have hstr := run_str_of_blk (P := Tryd.prog) (w := wr) 48 9 5 Tryd.underlying48 Tryd.underlying5 Tryd.underlying9 w.heap.size 0 (s.size + 8) (s.size + 8) (sealL s.data.toList) (by simp [sealL, be8_length]) _ _ hblk.out (rowI_end s n HN.out)
      go_wp2_with fail
      go_ret
      exact ⟨rfl, hbel⟩

theorem be8_drop (n j : Nat) (h : j < 8) : (be8 n).drop (8 - (j + 1)) = UInt8.ofNat (n / 256 ^ j) :: (be8 n).drop (8 - j) := by
  rw [List.drop_eq_getElem_cons (by rw [be8_length]; omega)]
  have e := be8_get n (8 - (j + 1)) (by omega)
  rw [List.getElem?_eq_getElem (by rw [be8_length]; omega)] at e
  injection e with e
  rw [e]
  congr 1
  · rw [show 7 - (8 - (j + 1)) = j by omega]
  · rw [show 8 - (j + 1) + 1 = 8 - j by omega]
theorem ofNat_mod (m : Nat) : UInt8.ofNat (m % 256) = UInt8.ofNat m := by
  apply UInt8.toNat_inj.1
  simp
theorem one_byte (v : Int) (W : World) : (convert 48 9 (.slice (some ⟨W.heap.size, 0, none⟩) 1 1)).run Tryd.prog (W.alloc (.cells #[.int .u8 v] 5)) = .ok (.string ⟨#[UInt8.ofNat v.toNat]⟩) (W.alloc (.cells #[.int .u8 v] 5)) := by
  have hc := run_convert_bytes_arg (P := Tryd.prog) (W.alloc (.cells #[.int .u8 v] 5)) 48 5 Tryd.underlying48 Tryd.underlying5 W.heap.size 0 1 1 [v] rfl
    (fun i hi => by
      obtain rfl : i = 0 := by omega
      have := (Blk.new W 5 [.int .u8 v]).cell 0
      simp at this ⊢) 9 Tryd.underlying9
  exact hc
theorem cons_bytes (a : UInt8) (l : List UInt8) : (⟨#[a]⟩ : ByteArray) ++ ⟨l.toArray⟩ = ⟨(a :: l).toArray⟩ := by
  apply ByteArray.ext
  simp

def eightB (n : Nat) : ByteArray := ⟨(be8 n).toArray⟩
theorem eight_any (n : Nat) (w : World) (hn : n < 18446744073709551616) :
    Calls Tryd.prog 64 #[.int .u64 (n : Int)] w fun e w' => e = .returned (.string (eightB n)) ∧ Below w.heap.size w w' := by
  go_enter Tryd.func64, Tryd.ntmps64
  go_wp2_with fail
  go_loopw [0, 3, 4] (fun q s i wr => ∃ (j : Nat) (y : Int) (l : List UInt8), j ≤ 8 ∧ i = .int .i64 (j : Int) ∧ q = .int .u64 y ∧ s = .string ⟨l.toArray⟩ ∧ Hid (y = ((n / 256 ^ j : Nat) : Int)) ∧ Hid (l = (be8 n).drop (8 - j)) ∧ Below w.heap.size w wr) (fun _ _ i _ => 8 - (intOf i).toNat)
  case atStart => exact ⟨0, n, [], by omega, rfl, rfl, rfl, by show _ = _; simp, by show _ = _; rw [List.drop_of_length_le (by simp [be8_length])], Below.refl _ _⟩
  case round =>
    obtain ⟨j, y, l, hj, rfl, rfl, rfl, HY, HL, hbel⟩ := hrel
    by_cases h8 : j < 8
    · have y0 : 0 ≤ y := by rw [HY.out]; exact Int.natCast_nonneg _
      have y1 : y < 18446744073709551616 := by
        have := HY.out
        have h2 : n / 256 ^ j ≤ n := Nat.div_le_self _ _
        generalize n / 256 ^ j = z at *
        omega
      have hll : l.length ≤ 8 := by rw [HL.out]; simp [be8_length]
      have hone := one_byte (y % 256)
      have HN : Hid ((UInt8.ofNat (y % 256).toNat :: l) = (be8 n).drop (8 - (j + 1))) := by
        show _ = _
        rw [be8_drop n j h8, ← HL.out, HY.out, ← ofNat_mod (n / 256 ^ j)]
        rfl
      have HY2 : Hid (y / 256 = ((n / 256 ^ (j + 1) : Nat) : Int)) := by
        show _ = _
        rw [HY.out, Nat.pow_succ, ← Nat.div_div_eq_div_mul]
        rfl
      obtain ⟨b, hb⟩ : ∃ b, b = UInt8.ofNat (y % 256).toNat := ⟨_, rfl⟩
      rw [← hb] at hone HN
      have HB := Lib.hid hb
      clear hb
      have hap := cons_bytes b l
      have hs1 : (⟨#[b]⟩ : ByteArray).size = 1 := rfl
      have hs2 : (⟨l.toArray⟩ : ByteArray).size = l.length := rfl
      go_wp2_with fail
      go_roundw
      case rel => exact ⟨j + 1, _, _, by omega, by go_num, rfl, rfl, HY2, HN, hbel.alloc hbel.size _⟩
      case measure => simp [intOf]; omega
    · have e : j = 8 := by omega
      subst e
      have hl : (⟨l.toArray⟩ : ByteArray) = eightB n := by rw [HL.out]; rfl
      rw [hl]
      go_wp2_with fail
      go_ret
      exact ⟨rfl, hbel⟩

theorem refSeal_any (s : ByteArray) (w : World) (hs : s.size ≤ 281474976710648) :
    Calls Tryd.prog 43 #[.string s] w fun e w' => e = .returned (.string (sealB s)) ∧ Below w.heap.size w w' := by
  have hr := more_lt 1 s.data.toList
  change rest s.data.toList < P61 at hr
  unfold P61 at hr
  have hsz : (eightB (rest s.data.toList)).size = 8 := be8_length _
  have hap : s ++ eightB (rest s.data.toList) = sealB s := by
    apply ByteArray.ext
    simp [eightB, sealB, sealL]
  go_enter Tryd.func43, Tryd.ntmps43
  go_wp2_with fail
  refine (refRest_any s _ (by unfold maxLen; omega)).mono ?_
  rintro e w' ⟨rfl, rfl⟩
  go_wp2_with fail
  refine (eight_any _ _ (by omega)).mono ?_
  rintro e w' ⟨rfl, hb⟩
  go_wp2_with fail
  go_ret
  exact ⟨rfl, hb⟩

def openL (l : List UInt8) : Bool := decide (8 ≤ l.length) && (be (l.drop (l.length - 8)) == rest (l.take (l.length - 8)))
theorem open_short (s : ByteArray) (w : World) (hs : s.size < 8) :
    Calls Tryd.prog 70 #[.string s] w fun e w' => e = .returned (.tuple #[.string ByteArray.empty, .bool false]) ∧ Below w.heap.size w w' := by
  go_enter Tryd.func70, Tryd.ntmps70
  go_wp2_with fail
  go_ret2
  exact ⟨rfl, Below.refl _ _⟩
theorem bytesV_get (l : List UInt8) (z : List Value) (i : Nat) (h : i < l.length) : (bytesV l ++ z)[i]? = some (.int .u8 ((l.getD i 0).toNat : Int)) := by
  rw [List.getElem?_append_left (by rw [bytesV_length]; exact h)]
  simp [bytesV, h]
theorem be_drop_snoc (l : List UInt8) (m j : Nat) (h : m + j < l.length) : be ((l.drop m).take (j + 1)) = be ((l.drop m).take j) * 256 + (l.getD (m + j) 0).toNat := by
  rw [List.take_add_one, List.getElem?_drop, List.getElem?_eq_getElem h]
  rw [show (some l[m + j]).toList = [l[m + j]] from rfl, be_snoc]
  simp [h]
theorem byte_drop (l : List UInt8) (z : List Value) (m j : Nat) (h : m + j < l.length) : ∃ c : Nat, c < 256 ∧ (bytesV l ++ z)[m + j]? = some (.int .u8 (c : Int)) ∧ Hid (be ((l.drop m).take (j + 1)) = be ((l.drop m).take j) * 256 + c) :=
  ⟨(l.getD (m + j) 0).toNat, (l.getD (m + j) 0).toNat_lt, bytesV_get l z (m + j) h, be_drop_snoc l m j h⟩
def cutB (s : ByteArray) : ByteArray := ⟨(s.data.toList.take (s.size - 8)).toArray⟩
theorem take_bytes (s : ByteArray) (z : List Value) : ((bytesV s.data.toList ++ z).drop 0).take (s.size - 8) = bytesV (s.data.toList.take (s.size - 8)) := by
  rw [List.drop_zero, List.take_append_of_le_length (by rw [bytesV_length]; simp)]
  simp [bytesV, List.map_take]
theorem open_iff (s : ByteArray) (h : 8 ≤ s.size) : openL s.data.toList = decide (be ((s.data.toList.drop (s.size - 8)).take 8) = rest (cutB s).data.toList) := by
  have e : s.data.toList.length = s.size := by simp
  unfold openL cutB
  rw [e, decide_eq_true h, Bool.true_and, List.take_of_length_le (i := 8) (by rw [List.length_drop, e]; omega)]
  rfl
def openV (s : ByteArray) : Value := .tuple (if openL s.data.toList then #[.string (cutB s), .bool true] else #[.string ByteArray.empty, .bool false])
set_option maxRecDepth 100000 in
set_option maxHeartbeats 400000 in
theorem open_long (s : ByteArray) (w : World) (hs : 8 ≤ s.size) (hm : s.size ≤ 281474976710648) (hsh : Shifts w) :
    Calls Tryd.prog 70 #[.string s] w fun e w' => e = .returned (openV s) ∧ Below w.heap.size w w' := by
  obtain ⟨cap, W1, hcv, hc1, hc2, hsz1, hblk, hbel⟩ := str_bytes (P := Tryd.prog) w 9 48 5 s Tryd.underlying9 Tryd.underlying48 Tryd.underlying5 (by unfold maxLen; omega)
  unfold maxLen at hc2
  have hsh1 := hsh.below hbel
  have HB := Lib.hid hblk
  have hll : s.data.toList.length = s.size := by simp
  have HLL := Lib.hid hll
  clear hblk hll hsz1
  go_enter Tryd.func70, Tryd.ntmps70
  go_wp2_with fail
  go_loop [7, 25] (fun n i => ∃ j : Nat, j ≤ 8 ∧ i = .int .i64 (j : Int) ∧ n = .int .u64 (be ((s.data.toList.drop (s.size - 8)).take j) : Nat)) (fun _ i => 8 - (intOf i).toNat)
  case atStart => exact ⟨0, by omega, rfl, rfl⟩
  case round =>
    obtain ⟨j, hj, rfl, rfl⟩ := hrel
    have hb := be_take (s.data.toList.drop (s.size - 8)) j 8 hj
    by_cases hlt : j < 8
    · have hb := be_take (s.data.toList.drop (s.size - 8)) j 7 (by omega)
      obtain ⟨c, hc, hcu, HN⟩ := byte_drop s.data.toList (List.replicate (cap - s.size) (.int .u8 0)) (s.size - 8) j (by rw [HLL.out]; omega)
      have hcell := HB.out.cell (s.size - 8 + j)
      rw [hcu] at hcell
      clear hcu
      have ho := or8 (be ((s.data.toList.drop (s.size - 8)).take j)) (c : Int) (by omega) (by omega) (by omega) (by omega)
      go_wp2_with fail
      go_round
      case rel => exact ⟨j + 1, by omega, by go_num, by rw [HN.out]; go_num⟩
      case measure => simp [intOf]; omega
    · obtain rfl : j = 8 := by omega
      have hstr := run_str_of_blk (P := Tryd.prog) (w := W1) 48 9 5 Tryd.underlying48 Tryd.underlying5 Tryd.underlying9 w.heap.size 0 (s.size - 8) (s.size - 8) (s.data.toList.take (s.size - 8)) (by rw [List.length_take, HLL.out]; omega) _ _ HB.out (take_bytes s _)
      change _ = Result.ok (Value.string (cutB s)) W1 at hstr
      have hcz : (cutB s).size ≤ s.size := by
        show ((s.data.toList.take (s.size - 8)).toArray).size ≤ _
        simp
      have hd := open_iff s hs
      obtain ⟨n, hn⟩ : ∃ n : Nat, n = be ((s.data.toList.drop (s.size - 8)).take 8) := ⟨_, rfl⟩
      obtain ⟨r, hr⟩ : ∃ r : Nat, r = rest (cutB s).data.toList := ⟨_, rfl⟩
      rw [← hn] at hd ⊢
      rw [← hr] at hd
      have HR := Lib.hid hr
      have HN := Lib.hid hn
      clear hr hn hb
      by_cases hq : n = r
      · have hv : openV s = .tuple #[.string (cutB s), .bool true] := by unfold openV; rw [hd, decide_eq_true hq]; rfl
        have HV := Lib.hid hv
        have hbo : ((n : Int) != (r : Int)) = false := by rw [hq]; simp
        clear hv hd hq
        go_wp2_with fail
        refine (rest_any (cutB s) W1 (by unfold maxLen; omega) hsh1).mono ?_
        rintro e w' ⟨rfl, rfl⟩
        rw [← HR.out]
        go_wp2_with fail
        go_ret2
        exact ⟨congrArg Ending.returned HV.out.symm, hbel⟩
      · have hv : openV s = .tuple #[.string ByteArray.empty, .bool false] := by unfold openV; rw [hd, decide_eq_false hq]; rfl
        have HV := Lib.hid hv
        have hbo : ((n : Int) != (r : Int)) = true := by simp; omega
        clear hv hd hq
        go_wp2_with fail
        refine (rest_any (cutB s) W1 (by unfold maxLen; omega) hsh1).mono ?_
        rintro e w' ⟨rfl, rfl⟩
        rw [← HR.out]
        go_wp2_with fail
        go_ret2
        exact ⟨congrArg Ending.returned HV.out.symm, hbel⟩

theorem openV_short (s : ByteArray) (h : s.size < 8) : openV s = .tuple #[.string ByteArray.empty, .bool false] := by
  have e : s.data.toList.length = s.size := by simp
  unfold openV openL
  rw [e, decide_eq_false (by omega)]
  rfl
theorem open_any (s : ByteArray) (w : World) (hm : s.size ≤ 281474976710648) (hsh : Shifts w) :
    Calls Tryd.prog 70 #[.string s] w fun e w' => e = .returned (openV s) ∧ Below w.heap.size w w' := by
  by_cases h : s.size < 8
  · rw [openV_short s h]
    exact open_short s w h
  · exact open_long s w (by omega) hm hsh

/-- Eight bytes are a number's bytes just if they are the number. -/
theorem be8_of (l : List UInt8) (h : l.length = 8) : l = be8 (be l) := by
  match l, h with
  | [a, b, c, d, e, f, g, i], _ =>
    have ha := a.toNat_lt; have hb := b.toNat_lt; have hc := c.toNat_lt; have hd := d.toNat_lt
    have he := e.toNat_lt; have hf := f.toNat_lt; have hg := g.toNat_lt; have hi := i.toNat_lt
    have hn : be [a, b, c, d, e, f, g, i] = ((((((a.toNat * 256 + b.toNat) * 256 + c.toNat) * 256 + d.toNat) * 256 + e.toNat) * 256 + f.toNat) * 256 + g.toNat) * 256 + i.toNat := by simp [be]
    rw [hn]
    simp only [be8, List.range, List.range.loop, List.map_cons, List.map_nil, List.cons.injEq, and_true]
    refine ⟨?_, ?_, ?_, ?_, ?_, ?_, ?_, ?_⟩ <;> (apply UInt8.toNat_inj.1; simp only [UInt8.toNat_ofNat']; omega)
theorem be_be8 (n : Nat) (h : n < 18446744073709551616) : be (be8 n) = n := by
  simp only [be, be8, List.range, List.range.loop, List.map_cons, List.map_nil, List.foldl_cons, List.foldl_nil, UInt8.toNat_ofNat']
  omega
theorem sealed_iff (l : List UInt8) (h : 8 ≤ l.length) : openL l = decide (sealL (l.take (l.length - 8)) = l) := by
  unfold openL
  rw [decide_eq_true h, Bool.true_and]
  have hsplit : l = l.take (l.length - 8) ++ l.drop (l.length - 8) := (List.take_append_drop _ _).symm
  have hr : rest (l.take (l.length - 8)) < 18446744073709551616 := by
    have := more_lt 1 (l.take (l.length - 8))
    change rest _ < P61 at this
    unfold P61 at this
    omega
  rw [Bool.eq_iff_iff]
  simp only [beq_iff_eq, decide_eq_true_eq]
  unfold sealL
  constructor
  · intro e
    rw [← e, ← be8_of (l.drop (l.length - 8)) (by rw [List.length_drop]; omega)]
    exact hsplit.symm
  · intro e
    have := e.trans hsplit
    have h2 := List.append_cancel_left this
    rw [← h2, be_be8 _ hr]

theorem extract_cut (s : ByteArray) : s.extract 0 (s.size - 8) = cutB s := by
  apply ByteArray.ext
  apply Array.ext'
  simp [cutB]
end Go.Proofs.YtaknmionaibodaaDoor
