/-
Contracts of notch's reader: a number, a text.
-/
import Derived.Test.YtaknmionaibodaaDoorNotchRead
import Derived.Test.YtaknmionaibodaaDoorNotchMath
namespace Go.Proofs.YtaknmionaibodaaDoor.Notch
open Go.RowKit

def numR (s : ByteArray) (bad : Bool) : Nat × ByteArray × Bool :=
  if bad then (0, s, true) else match readN s.data.toList with
  | some (n, r) => (n, ⟨r.toArray⟩, false)
  | none => (0, ByteArray.empty, true)
theorem numR_true (s : ByteArray) : numR s true = (0, s, true) := rfl
theorem numR_nil (s : ByteArray) (h : s.data.toList = []) : numR s false = (0, ByteArray.empty, true) := by
  unfold numR
  rw [if_neg (by decide), h]
  rfl
theorem numR_no (s : ByteArray) (k : UInt8) (r : List UInt8) (h : s.data.toList = k :: r) (hc : 8 < k.toNat ∨ r.length < k.toNat ∨ (0 < k.toNat ∧ r[0]? = some 0)) : numR s false = (0, ByteArray.empty, true) := by
  unfold numR
  rw [if_neg (by decide), h, readN, if_pos hc]
theorem numR_yes (s : ByteArray) (k : UInt8) (r : List UInt8) (h : s.data.toList = k :: r) (hc : ¬ (8 < k.toNat ∨ r.length < k.toNat ∨ (0 < k.toNat ∧ r[0]? = some 0))) : numR s false = (bev (r.take k.toNat), ⟨(r.drop k.toNat).toArray⟩, false) := by
  unfold numR
  rw [if_neg (by decide), h, readN, if_neg hc]
theorem bev_take_lt (l : List UInt8) (j k : Nat) (h : j ≤ k) : bev (l.take j) < 256 ^ k :=
  Nat.lt_of_lt_of_le (bev_lt _) (Nat.pow_le_pow_right (by decide) (Nat.le_trans (List.length_take_le _ _) h))
theorem bev_take_succ (l : List UInt8) (j : Nat) (h : j < l.length) : bev (l.take (j + 1)) = bev (l.take j) * 256 + (l[j]'h).toNat := by
  rw [List.take_succ_eq_append_getElem h, bev_snoc]
theorem grown_of_below {a w : World} (h : Below a.heap.size a w) (row : Option Nat) : a.grownBy w row := ⟨h.os, h.tape, h.output, h.size, fun i hi _ => h.block i hi⟩
theorem takeR_true (s : ByteArray) (n : Int) : takeR s true n = (ByteArray.empty, s, true) := rfl
theorem takeR_no (s : ByteArray) (n : Int) (h : n < 0 ∨ (s.size : Int) < n) : takeR s false n = (ByteArray.empty, ByteArray.empty, true) := by unfold takeR; rw [if_neg (by decide), if_pos h]
theorem takeR_yes (s : ByteArray) (n : Nat) (h : n ≤ s.size) : takeR s false (n : Int) = (s.extract 0 n, s.extract n s.size, false) := by unfold takeR; rw [if_neg (by decide), if_neg (by omega)]; rfl
theorem size_list (s : ByteArray) : s.data.toList.length = s.size := by simp
theorem ex_take (s : ByteArray) (n : Nat) : (s.extract 0 n).data.toList = s.data.toList.take n := by simp
theorem ex_drop (s : ByteArray) (n : Nat) : (s.extract n s.size).data.toList = s.data.toList.drop n := by
  simp only [ByteArray.data_extract, Array.toList_extract, List.extract]
  rw [List.take_of_length_le (by simp)]
theorem of_toList (s : ByteArray) (l : List UInt8) (h : s.data.toList = l) : s = ⟨l.toArray⟩ := by
  subst h
  rfl

theorem num_true (g : Nat) (s : ByteArray) (w : World) (hs : s.size ≤ maxLen) (h : Rdr w g s true) :
    Calls Tryd.prog 38 #[.pointer (some ⟨g, 0, none⟩)] w fun e w' => e = .returned (.int .u64 ((numR s true).1 : Int)) ∧ After w g (numR s true).2.1 (numR s true).2.2 w' := by
  rw [numR_true]
  have c := take_any g s true 1 w hs h
  rw [takeR_true] at c
  have C := Lib.hid c
  clear c h
  go_enter Tryd.func38, Tryd.ntmps38
  go_wp2_with fail
  refine C.out.mono ?_
  rintro e w1 ⟨rfl, ha⟩
  go_wp2_with fail
  refine (isbad_any g s true w1 ha.1).mono ?_
  rintro e w' ⟨rfl, rfl⟩
  go_wp2_with fail
  go_ret
  exact ⟨rfl, ha⟩
theorem num_nil (g : Nat) (s : ByteArray) (w : World) (hs : s.size ≤ maxLen) (hz : s.data.toList = []) (h : Rdr w g s false) :
    Calls Tryd.prog 38 #[.pointer (some ⟨g, 0, none⟩)] w fun e w' => e = .returned (.int .u64 ((numR s false).1 : Int)) ∧ After w g (numR s false).2.1 (numR s false).2.2 w' := by
  rw [numR_nil s hz]
  have c := take_any g s false 1 w hs h
  rw [takeR_no s 1 (by right; rw [← size_list, hz]; decide)] at c
  have C := Lib.hid c
  clear c h hz
  go_enter Tryd.func38, Tryd.ntmps38
  go_wp2_with fail
  refine C.out.mono ?_
  rintro e w1 ⟨rfl, ha⟩
  go_wp2_with fail
  refine (isbad_any g _ true w1 ha.1).mono ?_
  rintro e w' ⟨rfl, rfl⟩
  go_wp2_with fail
  go_ret
  exact ⟨rfl, ha⟩

set_option maxHeartbeats 800000 in
theorem num_cons (g : Nat) (s : ByteArray) (w : World) (hs : s.size ≤ maxLen) (k : UInt8) (r : List UInt8) (hz : s.data.toList = k :: r) (h : Rdr w g s false) :
    Calls Tryd.prog 38 #[.pointer (some ⟨g, 0, none⟩)] w fun e w' => e = .returned (.int .u64 ((numR s false).1 : Int)) ∧ After w g (numR s false).2.1 (numR s false).2.2 w' := by
  have hsz : s.size = r.length + 1 := by rw [← size_list, hz]; rfl
  have c := take_any g s false ((1 : Nat) : Int) w hs h
  rw [takeR_yes s 1 (by omega)] at c
  have hd : (s.extract 0 1).data.toList = [k] := by rw [ex_take, hz]; rfl
  have ht : (s.extract 1 s.size).data.toList = r := by rw [ex_drop, hz]; rfl
  generalize s.extract 0 1 = hh at *
  generalize s.extract 1 s.size = tt at *
  have hhs : 0 < hh.size := by rw [← size_list, hd]; exact Nat.one_pos
  have hk : ((hh[0]'hhs).toNat : Int) = (k.toNat : Int) := by
    have : hh = ⟨[k].toArray⟩ := of_toList _ _ hd
    subst this
    rfl
  have hts : tt.size = r.length := by rw [← size_list, ht]
  have htm : tt.size ≤ maxLen := by omega
  have htm' := htm
  unfold maxLen at htm'
  obtain ⟨K, hK⟩ : ∃ K : Nat, K = k.toNat := ⟨_, rfl⟩
  have hK256 : K < 256 := by have := k.toNat_lt; omega
  rw [← hK] at hk
  have hno := numR_no s k r hz
  have hyes := numR_yes s k r hz
  rw [← hK] at hno hyes
  have C := Lib.hid c
  have HNO := Lib.hid hno
  have HYES := Lib.hid hyes
  have HT := Lib.hid ht
  have HTS := Lib.hid hts
  clear c h hz hd hno hyes ht hsz hts hK hs
  by_cases h8 : 8 < K
  · rw [HNO.out (.inl h8)]
    go_enter Tryd.func38, Tryd.ntmps38
    go_wp2_with fail
    refine C.out.mono ?_
    rintro e w1 ⟨rfl, ha⟩
    have HA := Lib.hid ha
    clear ha
    go_wp2_with fail
    refine (isbad_any g _ false w1 HA.out.1).mono ?_
    rintro e w' ⟨rfl, rfl⟩
    go_wp2_with fail
    refine (spoil_any g _ false w1 HA.out.1).mono ?_
    rintro e w2 ⟨rfl, hb⟩
    go_wp2_with fail
    go_ret
    exact ⟨rfl, HA.out.trans hb⟩
  · obtain ⟨u, t2, c2, he⟩ : ∃ u t2 c2, takeR tt false (K : Int) = (u, t2, c2) := ⟨_, _, _, rfl⟩
    have cc := fun W hW => take_any g tt false (K : Int) W htm hW
    rw [he] at cc
    have CC := Lib.hid cc
    clear cc
    have hul : u.data.toList = if K ≤ r.length then r.take K else [] := by
      by_cases hle : K ≤ r.length
      · rw [if_pos hle]
        rw [takeR_yes tt K (by rw [HTS.out]; exact hle)] at he
        have : u = tt.extract 0 K := (congrArg Prod.fst he).symm
        rw [this, ex_take, HT.out]
      · rw [if_neg hle]
        rw [takeR_no tt K (by right; rw [HTS.out]; omega)] at he
        have : u = ByteArray.empty := (congrArg Prod.fst he).symm
        rw [this]
        rfl
    have hus : u.size ≤ 8 := by
      rw [← size_list, hul]
      split
      · have := List.length_take_le K r; omega
      · simp
    -- what is told if all goes well, and if the first byte is a 0
    have hgood : (u.data.toList[0]? ≠ some 0) → numR s false = (bev u.data.toList, t2, c2) := by
      intro hne
      by_cases hle : K ≤ r.length
      · rw [if_pos hle] at hul
        rw [takeR_yes tt K (by rw [HTS.out]; exact hle)] at he
        have e2 : t2 = tt.extract K tt.size := (congrArg (fun x => x.2.1) he).symm
        have e3 : c2 = false := (congrArg (fun x => x.2.2) he).symm
        rw [HYES.out ?_, hul, e2, e3]
        · rw [of_toList (tt.extract K tt.size) (r.drop K) (by rw [ex_drop, HT.out])]
        · rintro (h1 | h1 | ⟨h1, h2⟩)
          · omega
          · omega
          · apply hne
            rw [hul, List.getElem?_take, if_pos h1]
            exact h2
      · rw [takeR_no tt K (by right; rw [HTS.out]; omega)] at he
        rw [if_neg hle] at hul
        rw [HNO.out (.inr (.inl (by omega)))]
        cases he
        rfl
    have hbad : u.data.toList[0]? = some 0 → numR s false = (0, ByteArray.empty, true) := by
      intro h0
      by_cases hle : K ≤ r.length
      · rw [if_pos hle] at hul
        rw [hul, List.getElem?_take] at h0
        split at h0
        · rename_i hpos
          exact HNO.out (.inr (.inr ⟨hpos, h0⟩))
        · cases h0
      · rw [if_neg hle] at hul
        rw [hul] at h0
        cases h0
    have HG := Lib.hid hgood
    have HB := Lib.hid hbad
    have HUL := Lib.hid (size_list u)
    clear hgood hbad he hul HNO HYES HT HTS
    have hcmp : ¬ 8 < K := h8
    go_enter Tryd.func38, Tryd.ntmps38
    go_wp2_with fail
    refine C.out.mono ?_
    rintro e w1 ⟨rfl, ha⟩
    have HA := Lib.hid ha
    clear ha
    go_wp2_with fail
    refine (isbad_any g _ false w1 HA.out.1).mono ?_
    rintro e w' ⟨rfl, rfl⟩
    go_wp2_with fail
    refine (CC.out w1 HA.out.1).mono ?_
    rintro e w2 ⟨rfl, hb⟩
    have HBB := Lib.hid (HA.out.trans hb)
    clear hb
    obtain ⟨cap, W3, hcv, hc1, hc2, hsz3, hblk, hbel⟩ := str_bytes (P := Tryd.prog) w2 9 48 5 u Tryd.underlying9 Tryd.underlying48 Tryd.underlying5 (by unfold maxLen; omega)
    have hrd3 : Rdr W3 g t2 c2 := HBB.out.1.below hbel HBB.out.1.lt
    have hg3 : w.grownBy W3 (some g) := grown_trans HBB.out.2 (grown_of_below hbel _)
    have HR3 := Lib.hid hrd3
    have HG3 := Lib.hid hg3
    have HK3 := Lib.hid hblk
    clear hblk hbel hsz3 hrd3 hg3 hc2
    go_wp2_with fail
    go_loop [5, 24] (fun n i => ∃ (j : Nat) (x : Int), j ≤ u.size ∧ i = .int .i64 (j : Int) ∧ n = .int .u64 x ∧ 0 ≤ x ∧ Hid (x = ((bev (u.data.toList.take j) : Nat) : Int)) ∧ (0 < j → Hid (u.data.toList[0]? ≠ some 0))) (fun _ i => u.size - (intOf i).toNat)
    case atStart => exact ⟨0, 0, by omega, rfl, rfl, by omega, rfl, fun h => absurd h (by omega)⟩
    case round =>
      obtain ⟨j, x, hj, rfl, rfl, hx0, HX, hnz⟩ := hrel
      by_cases hlt : j < u.size
      · have hjl : j < u.data.toList.length := by rw [HUL.out]; exact hlt
        have hcell := HK3.out.cell j
        rw [List.getElem?_append_left (by rw [bytesV_length]; exact hjl)] at hcell
        have hb1 : (bytesV u.data.toList)[j]? = some (.int .u8 ((u.data.toList[j]'hjl).toNat : Int)) := by simp [bytesV, hlt]
        rw [hb1] at hcell
        obtain ⟨c, hc⟩ : ∃ c : Int, c = ((u.data.toList[j]'hjl).toNat : Int) := ⟨_, rfl⟩
        have hc0 : 0 ≤ c := by omega
        have hc256 : c < 256 := by have := (u.data.toList[j]'hjl).toNat_lt; omega
        rw [← hc] at hcell
        have hx1 : x < 72057594037927936 := by
          rw [HX.out]
          have := bev_take_lt u.data.toList j 7 (by omega)
          omega
        have hsucc : x * 256 + c = ((bev (u.data.toList.take (j + 1)) : Nat) : Int) := by
          rw [bev_take_succ _ _ hjl, HX.out, hc]
          simp
        have ho := or8 x c hx0 hx1 hc0 hc256
        have HS := Lib.hid hsucc
        have hj0 : j = 0 → (u.data.toList[0]? = some 0 ↔ c = 0) := by
          intro hz
          subst hz
          rw [List.getElem?_eq_getElem hjl, hc]
          simp only [Option.some.injEq]
          constructor
          · intro h; rw [h]; rfl
          · intro h; exact UInt8.toNat_inj.1 (by have : (0 : UInt8).toNat = 0 := rfl; omega)
        have HJ0 := Lib.hid hj0
        clear hb1 hsucc hj0 hc
        by_cases hz : j = 0
        · by_cases hcz : c = 0
          · have hfin := HB.out ((HJ0.out hz).2 hcz)
            have HFIN := Lib.hid hfin
            have t1 : ((j : Int) == 0) = true := by rw [beq_iff_eq]; omega
            have t2' : (c == 0) = true := by rw [beq_iff_eq]; exact hcz
            clear hfin hz hcz
            go_wp2_with fail
            refine (spoil_any g _ _ W3 HR3.out).mono ?_
            rintro e w4 ⟨rfl, hd⟩
            go_wp2_with fail
            go_ret
            rw [HFIN.out]
            exact ⟨rfl, hd.1, grown_trans HG3.out hd.2⟩
          · have t1 : ((j : Int) == 0) = true := by rw [beq_iff_eq]; omega
            have t2' : (c == 0) = false := by rw [beq_eq_false_iff_ne]; exact hcz
            have hn0 : Hid (u.data.toList[0]? ≠ some 0) := fun h => hcz ((HJ0.out hz).1 h)
            clear hz hcz hnz
            go_wp2_with fail
            go_round
            case rel => exact ⟨j + 1, _, by omega, by go_num, rfl, by omega, HS.out, fun _ => hn0⟩
            case measure => simp [intOf]; omega
        · have t1 : ((j : Int) == 0) = false := by rw [beq_eq_false_iff_ne]; omega
          have hn0 := hnz (by omega)
          clear hnz
          go_wp2_with fail
          go_round
          case rel => exact ⟨j + 1, _, by omega, by go_num, rfl, by omega, HS.out, fun _ => hn0⟩
          case measure => simp [intOf]; omega
      · have hfin : numR s false = (bev u.data.toList, t2, c2) := by
          refine HG.out ?_
          by_cases hz : j = 0
          · have : u.data.toList = [] := List.eq_nil_of_length_eq_zero (by rw [HUL.out]; omega)
            rw [this]
            intro h
            cases h
          · exact hnz (by omega)
        have hxe : x = ((bev u.data.toList : Nat) : Int) := by
          rw [HX.out, List.take_of_length_le (by rw [HUL.out]; omega)]
        have HFIN := Lib.hid hfin
        have HXE := Lib.hid hxe
        clear hfin hxe hnz
        go_wp2_with fail
        go_ret
        rw [HFIN.out]
        exact ⟨ret_int HXE.out, HR3.out, HG3.out⟩
theorem num_any (g : Nat) (s : ByteArray) (bad : Bool) (w : World) (hs : s.size ≤ maxLen) (h : Rdr w g s bad) :
    Calls Tryd.prog 38 #[.pointer (some ⟨g, 0, none⟩)] w fun e w' => e = .returned (.int .u64 ((numR s bad).1 : Int)) ∧ After w g (numR s bad).2.1 (numR s bad).2.2 w' := by
  cases bad
  · cases hz : s.data.toList with
    | nil => exact num_nil g s w hs hz h
    | cons k r => exact num_cons g s w hs k r hz h
  · exact num_true g s w hs h
theorem num_none (w : World) :
    Calls Tryd.prog 38 #[.pointer none] w fun e w' => e = .returned (.int .u64 0) ∧ w = w' := by
  go_enter Tryd.func38, Tryd.ntmps38
  go_wp2_with fail
  refine (take_nil 1 w).mono ?_
  rintro e w' ⟨rfl, rfl⟩
  go_wp2_with fail
  refine (isbad_nil w).mono ?_
  rintro e w' ⟨rfl, rfl⟩
  go_wp2_with fail
  go_ret
  exact ⟨rfl, rfl⟩
end Go.Proofs.YtaknmionaibodaaDoor.Notch
