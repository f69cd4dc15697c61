/-
CastSwaps: where bytes of two texts of one length are changed for each other, place by place, the sum of both remainders is the same, by the prime; texts of more than 1000 bytes are let go. No condition.
-/
import Derived.Test.YtmmlmcanjacngaaDoorCastHead
import Derived.Test.YtmmlmcanjacngaaDoorFrame
import Derived.Test.YtmmlmcanjacngaaDoorCastSwapMath
import Derived.RegionTactic
import Derived.ChangeAlike
import Derived.Deep.QuietTactic
import Derived.BigQuiet
import Derived.BigRegion
namespace Go.Proofs.YtmmlmcanjacngaaDoor
open Go.RowKit

theorem castSwaps_let (s t : ByteArray) (a : Option Addr) (len cap : Nat) (w : World) (hs : s.size ≤ maxLen) (ht : t.size ≤ maxLen) (hsh : Shifts w) (hl : 1000 < s.size ∧ 1000 < t.size) :
    Calls Tryd.prog 9 #[.string s, .string t, .slice a len cap] w fun e w' => e = .returned (.bool true) ∧ Below w.heap.size w w' := by
  unfold maxLen at hs ht
  obtain ⟨h1, h2⟩ := hl
  go_enter Tryd.func9, Tryd.ntmps9
  go_wp2_with fail
  all_goals
    refine (head_any w hsh).mono ?_
    rintro e w1 ⟨rfl, hb1⟩
    go_wp2_with fail
    go_ret
    exact ⟨rfl, hb1⟩

theorem bytesV_set (l : List UInt8) (z : List Value) (i : Nat) (b : UInt8) (h : i < l.length) : (bytesV l ++ z).set i (.int .u8 (b.toNat : Int)) = bytesV (l.set i b) ++ z := by
  rw [List.set_append_left _ _ (by rw [bytesV_length]; exact h)]
  simp [bytesV, List.map_set]
theorem extract_take (s : ByteArray) (n : Nat) : (s.extract 0 n).data.toList = s.data.toList.take n := by simp
theorem below_drewN {B : Nat} {a w : World} (h : Below B a w) (n : Nat) : Below B a (w.drewN n) := ⟨h.os, h.tape, h.output, h.size, h.block⟩
theorem Shifts.drewN {w : World} (h : Shifts w) (k : Nat) : Shifts (w.drewN k) := fun i hi => h i hi
theorem rest_bd (l : List UInt8) : ((rest l : Nat) : Int) < 2305843009213693951 := by
  have := more_lt 1 l
  change rest l < P61 at this
  unfold P61 at this
  omega
theorem sum_wrap (a b : Nat) (ha : (a : Int) < 2305843009213693951) (hb : (b : Int) < 2305843009213693951) : IntKind.u64.wrap ((a : Int) + b) = (a : Int) + b := IntWalk.u64_in _ (by omega)
theorem sum_mod (a b : Nat) : ((a : Int) + b).tmod 2305843009213693951 = ((a : Int) + b) % 2305843009213693951 := Int.tmod_eq_emod_of_nonneg (by omega)
theorem sum_eq (a b c d : List UInt8) (n rA rB rC rD : Nat) (ha : a.length = n) (hb : b.length = n) (hc : c.length = n) (hd : d.length = n) (h : be c + be d = be a + be b) (hA : rest a = rA) (hB : rest b = rB) (hC : rest c = rC) (hD : rest d = rD) :
    (((rA : Int) + rB) % 2305843009213693951 == ((rC : Int) + rD) % 2305843009213693951) = true := by
  have := rest_sum a b c d n ha hb hc hd h.symm
  rw [hA, hB, hC, hD] at this
  unfold P61 at this
  rw [beq_iff_eq]
  omega
theorem rest_of (S : ByteArray) (l : List UInt8) (r : Nat) (W : World) (hS : S.data.toList = l) (hr : rest l = r) (hm : S.size ≤ maxLen) (hsh : Shifts W) :
    Calls Tryd.prog 13 #[.string S] W fun e w' => e = .returned (.int .u64 (r : Int)) ∧ w' = W := by
  subst hr hS
  exact (rest_any S W hm hsh).mono fun _ _ ⟨h1, h2⟩ => ⟨h1, h2.symm⟩
set_option maxHeartbeats 1000000 in
theorem castSwaps_main (s t : ByteArray) (a : Option Addr) (len cap : Nat) (zs : List Bool) (w : World) (_hs : s.size ≤ maxLen) (_ht : t.size ≤ maxLen) (hrow : IsBools w a len cap zs) (hsh : Shifts w) (n : Nat) (hn : n ≤ 1000) (hns : n ≤ s.size) (hnt : n ≤ t.size)
    (hmin : (Builtin.min_ #[3, 3] 3 #[.int .i64 (s.size : Int), .int .i64 (t.size : Int)]).run Tryd.prog w = .ok (.int .i64 (n : Int)) w) :
    Calls Tryd.prog 9 #[.string s, .string t, .slice a len cap] w fun e w' => e = .returned (.bool true) ∧ Below w.heap.size w w' := by
  have HR := Lib.hid hrow
  have hl2 := hrow.2.1
  have hl3 := hrow.2.2.1
  clear hrow
  unfold maxLen at _hs _ht hl3
  have hs1 : Hid ((s.data.toList.take n).length = n) := by show _ = _; rw [List.length_take]; simp; omega
  have ht1 : Hid ((t.data.toList.take n).length = n) := by show _ = _; rw [List.length_take]; simp; omega
  have hcv := fun (W : World) (u : ByteArray) => Lib.run_convert_string_bytes (P := Tryd.prog) W 9 33 5 u Tryd.underlying9 Tryd.underlying33 Tryd.underlying5
  go_enter Tryd.func9, Tryd.ntmps9
  go_wp2_with fail
  go_region
  all_goals go_wp2_with fail
  all_goals clear hcv hmin
  · obtain ⟨y1, y2, q1, q2, q3, q4⟩ := bw_two w 5 (s.extract 0 n) (t.extract 0 n)
    rw [extract_take] at q1 q2
    obtain ⟨G, hG⟩ : ∃ G, G = (Lib.bytesWorld w.drew 5 (s.extract 0 n)).heap.size := ⟨_, rfl⟩
    rw [← hG] at q2 q3 ⊢
    have hGG : w.heap.size < G := by omega
    have hne : w.heap.size ≠ G := by omega
    have hne2 : G ≠ w.heap.size := by omega
    have hg1 : w.heap.size ≤ w.heap.size := Nat.le_refl _
    have hg2 : w.heap.size ≤ G := by omega
    clear hG q3
    go_loopw [10] (fun i wr => ∃ (j : Nat) (la lb : List UInt8) (z1 z2 : List Value), i = .int .i64 (j : Int) ∧ j ≤ n ∧ Hid (la.length = n) ∧ Hid (lb.length = n) ∧ Hid (Blk wr w.heap.size 5 (bytesV la ++ z1)) ∧ Hid (Blk wr G 5 (bytesV lb ++ z2)) ∧ Below w.heap.size w wr ∧ Hid (be la + be lb = be (s.data.toList.take n) + be (t.data.toList.take n))) (fun i _ => n - (intOf i).toNat)
    case atStart => exact ⟨0, _, _, _, _, rfl, by omega, hs1, ht1, q1, q2, q4, rfl⟩
    case round =>
      obtain ⟨j, la, lb, z1, z2, rfl, hj, hla, hlb, hk1, hk2, hbr, hsum⟩ := hrel
      by_cases hjn : j < n
      · have d1 : decide ((j : Int) < (n : Int)) = true := by simp; omega
        by_cases hjl : j < len
        · have d2 : decide ((j : Int) < (len : Int)) = true := by simp; omega
          obtain ⟨b, off, ha, hbw, hcs⟩ := HR.out.2.2.2 (by omega)
          have hzl : (zs.map Value.bool).length = len := HR.out.1
          obtain ⟨q, hq⟩ : ∃ q, zs[j]? = some q := ⟨zs[j]'(by simpa using (by omega : j < (zs.map Value.bool).length)), List.getElem?_eq_getElem _⟩
          have hcell := (hbr.cell (p := ⟨b, off + j, none⟩) hbw).trans (hcs j (.bool q) (by simp [hq]))
          subst ha
          clear hcs hzl hq
          cases q
          · go_wp2_with fail
            go_roundw
            case rel => exact ⟨j + 1, la, lb, z1, z2, by go_num, by omega, hla, hlb, hk1, hk2, hbr, hsum⟩
            case measure => simp [intOf]; omega
          · obtain ⟨x, hx⟩ : ∃ x, la[j]? = some x := ⟨la[j]'(by rw [hla.out]; omega), List.getElem?_eq_getElem _⟩
            obtain ⟨y, hy⟩ : ∃ y, lb[j]? = some y := ⟨lb[j]'(by rw [hlb.out]; omega), List.getElem?_eq_getElem _⟩
            have k1 := hk1.out.cell j
            have k2 := hk2.out.cell j
            rw [bytesV_get _ _ _ (by rw [hla.out]; omega), List.getD_eq_getElem?_getD, hx] at k1
            rw [bytesV_get _ _ _ (by rw [hlb.out]; omega), List.getD_eq_getElem?_getD, hy] at k2
            have f1 := hk1.out.frozen j (by rw [List.length_append, bytesV_length, hla.out]; omega)
            have f2 := hk2.out.frozen j (by rw [List.length_append, bytesV_length, hlb.out]; omega)
            have hs2 : Hid (be (la.set j y) + be (lb.set j x) = be (s.data.toList.take n) + be (t.data.toList.take n)) := (be_swap la lb j n hla.out hlb.out hjn x y hx hy).trans hsum.out
            have hla2 : Hid ((la.set j y).length = n) := by show _ = _; rw [List.length_set]; exact hla.out
            have hlb2 : Hid ((lb.set j x).length = n) := by show _ = _; rw [List.length_set]; exact hlb.out
            have hn1 : Hid (Blk ((wr.setCell ⟨w.heap.size, j, none⟩ (.int .u8 (y.toNat : Int))).setCell ⟨G, j, none⟩ (.int .u8 (x.toNat : Int))) w.heap.size 5 (bytesV (la.set j y) ++ z1)) := by
              rw [← bytesV_set _ _ _ _ (by rw [hla.out]; omega)]
              exact (hk1.out.set_ j _).far hne _
            have hn2 : Hid (Blk ((wr.setCell ⟨w.heap.size, j, none⟩ (.int .u8 (y.toNat : Int))).setCell ⟨G, j, none⟩ (.int .u8 (x.toNat : Int))) G 5 (bytesV (lb.set j x) ++ z2)) := by
              rw [← bytesV_set _ _ _ _ (by rw [hlb.out]; omega)]
              exact (hk2.out.far hne2 _).set_ j _
            have hn3 : Hid (Blk ((wr.setCell ⟨G, j, none⟩ (.int .u8 (x.toNat : Int))).setCell ⟨w.heap.size, j, none⟩ (.int .u8 (y.toNat : Int))) w.heap.size 5 (bytesV (la.set j y) ++ z1)) := by
              rw [← bytesV_set _ _ _ _ (by rw [hla.out]; omega)]
              exact (hk1.out.far hne _).set_ j _
            have hn4 : Hid (Blk ((wr.setCell ⟨G, j, none⟩ (.int .u8 (x.toNat : Int))).setCell ⟨w.heap.size, j, none⟩ (.int .u8 (y.toNat : Int))) G 5 (bytesV (lb.set j x) ++ z2)) := by
              rw [← bytesV_set _ _ _ _ (by rw [hlb.out]; omega)]
              exact (hk2.out.set_ j _).far hne2 _
            have hw1 := (hbr.setCell (p := ⟨w.heap.size, j, none⟩) hg1 (.int .u8 (y.toNat : Int))).setCell (p := ⟨G, j, none⟩) hg2 (.int .u8 (x.toNat : Int))
            have hw2 := (hbr.setCell (p := ⟨G, j, none⟩) hg2 (.int .u8 (x.toNat : Int))).setCell (p := ⟨w.heap.size, j, none⟩) hg1 (.int .u8 (y.toNat : Int))
            simp only [Option.getD_some] at k1 k2
            clear hx hy
            go_wp2_with fail
            go_region
            all_goals go_wp2_with fail
            all_goals go_roundw
            all_goals first
              | exact ⟨j + 1, la.set j y, lb.set j x, z1, z2, by go_num, by omega, hla2, hlb2, hn1, hn2, hw1.drew, hs2⟩
              | exact ⟨j + 1, la.set j y, lb.set j x, z1, z2, by go_num, by omega, hla2, hlb2, hn3, hn4, hw2.drew, hs2⟩
              | (simp [intOf]; omega)
        · have d2 : decide ((j : Int) < (len : Int)) = false := by simp; omega
          (obtain ⟨rA, hrA⟩ : ∃ r : Nat, rest (s.data.toList.take n) = r := ⟨_, rfl⟩
           obtain ⟨rB, hrB⟩ : ∃ r : Nat, rest (t.data.toList.take n) = r := ⟨_, rfl⟩
           obtain ⟨rC, hrC⟩ : ∃ r : Nat, rest la = r := ⟨_, rfl⟩
           obtain ⟨rD, hrD⟩ : ∃ r : Nat, rest lb = r := ⟨_, rfl⟩
           have bA : (rA : Int) < 2305843009213693951 := hrA ▸ rest_bd _
           have bB : (rB : Int) < 2305843009213693951 := hrB ▸ rest_bd _
           have bC : (rC : Int) < 2305843009213693951 := hrC ▸ rest_bd _
           have bD : (rD : Int) < 2305843009213693951 := hrD ▸ rest_bd _
           have hfin := sum_eq _ _ _ _ n rA rB rC rD hs1.out ht1.out hla.out hlb.out hsum.out hrA hrB hrC hrD
           have cA := fun W hW => rest_of (s.extract 0 n) (s.data.toList.take n) rA W (extract_take s n) hrA (by rw [ByteArray.size_extract]; unfold maxLen; omega) hW
           have cB := fun W hW => rest_of (t.extract 0 n) (t.data.toList.take n) rB W (extract_take t n) hrB (by rw [ByteArray.size_extract]; unfold maxLen; omega) hW
           have cC := fun W hW => rest_of ⟨la.toArray⟩ la rC W rfl hrC (by show la.toArray.size ≤ _; rw [List.size_toArray, hla.out]; unfold maxLen; omega) hW
           have cD := fun W hW => rest_of ⟨lb.toArray⟩ lb rD W rfl hrD (by show lb.toArray.size ≤ _; rw [List.size_toArray, hlb.out]; unfold maxLen; omega) hW
           have hsr := hsh.below hbr
           have CA := Lib.hid cA
           have CB := Lib.hid cB
           have CC := Lib.hid cC
           have CD := Lib.hid cD
           clear cA cB cC cD hrA hrB hrC hrD
           have u1 := sum_wrap rA rB bA bB
           have u2 := sum_wrap rC rD bC bD
           have u3 := sum_mod rA rB
           have u4 := sum_mod rC rD
           go_wp2_with fail
           go_quiet ((first | (go_at_call 13; exact Calls.quiet_of_same (CA.out _ (hsr.drewN _))) | (go_at_call 13; exact Calls.quiet_of_same (CB.out _ (hsr.drewN _)))))
           have K1 := fun k => Lib.hid (hk1.out.drewN k)
           have K2 := fun k => Lib.hid (hk2.out.drewN k)
           have K3 := fun k => Lib.hid (below_drewN hbr k)
           clear hk1 hk2 hbr hsr CA CB u1 u3
           go_wp2_with fail
           generalize hW : World.drewN wr _ = W3
           obtain ⟨k, hk⟩ : ∃ k, wr.drewN k = W3 := ⟨_, hW⟩
           have L1 := (K1 k).out
           have L2 := (K2 k).out
           have L3 := (K3 k).out
           rw [hk] at L1 L2 L3
           clear hk hW K1 K2 K3 k
           have hsr := hsh.below L3
           have v1 := fun c k => run_str_of_blk (P := Tryd.prog) (w := W3.drewN k) 33 9 5 Tryd.underlying33 Tryd.underlying5 Tryd.underlying9 _ 0 n c la hla.out _ _ (L1.drewN k) (by rw [List.drop_zero, List.take_left' (by rw [bytesV_length]; exact hla.out)])
           have v2 := fun c k => run_str_of_blk (P := Tryd.prog) (w := W3.drewN k) 33 9 5 Tryd.underlying33 Tryd.underlying5 Tryd.underlying9 _ 0 n c lb hlb.out _ _ (L2.drewN k) (by rw [List.drop_zero, List.take_left' (by rw [bytesV_length]; exact hlb.out)])
           clear L1 L2
           go_quiet ((first | (go_at_call 13; exact Calls.quiet_of_same (CC.out _ (hsr.drewN _))) | (go_at_call 13; exact Calls.quiet_of_same (CD.out _ (hsr.drewN _)))))
           clear v1 v2 CC CD u2 u4
           go_wp2_with fail
           refine (head_any _ (hsr.drewN _)).mono ?_
           rintro e w4 ⟨rfl, hb4⟩
           go_wp2_with fail
           go_ret
           exact ⟨rfl, (below_drewN L3 _).trans (hb4.mono L3.size)⟩)
      · have d1 : decide ((j : Int) < (n : Int)) = false := by simp; omega
        (obtain ⟨rA, hrA⟩ : ∃ r : Nat, rest (s.data.toList.take n) = r := ⟨_, rfl⟩
         obtain ⟨rB, hrB⟩ : ∃ r : Nat, rest (t.data.toList.take n) = r := ⟨_, rfl⟩
         obtain ⟨rC, hrC⟩ : ∃ r : Nat, rest la = r := ⟨_, rfl⟩
         obtain ⟨rD, hrD⟩ : ∃ r : Nat, rest lb = r := ⟨_, rfl⟩
         have bA : (rA : Int) < 2305843009213693951 := hrA ▸ rest_bd _
         have bB : (rB : Int) < 2305843009213693951 := hrB ▸ rest_bd _
         have bC : (rC : Int) < 2305843009213693951 := hrC ▸ rest_bd _
         have bD : (rD : Int) < 2305843009213693951 := hrD ▸ rest_bd _
         have hfin := sum_eq _ _ _ _ n rA rB rC rD hs1.out ht1.out hla.out hlb.out hsum.out hrA hrB hrC hrD
         have cA := fun W hW => rest_of (s.extract 0 n) (s.data.toList.take n) rA W (extract_take s n) hrA (by rw [ByteArray.size_extract]; unfold maxLen; omega) hW
         have cB := fun W hW => rest_of (t.extract 0 n) (t.data.toList.take n) rB W (extract_take t n) hrB (by rw [ByteArray.size_extract]; unfold maxLen; omega) hW
         have cC := fun W hW => rest_of ⟨la.toArray⟩ la rC W rfl hrC (by show la.toArray.size ≤ _; rw [List.size_toArray, hla.out]; unfold maxLen; omega) hW
         have cD := fun W hW => rest_of ⟨lb.toArray⟩ lb rD W rfl hrD (by show lb.toArray.size ≤ _; rw [List.size_toArray, hlb.out]; unfold maxLen; omega) hW
         have hsr := hsh.below hbr
         have CA := Lib.hid cA
         have CB := Lib.hid cB
         have CC := Lib.hid cC
         have CD := Lib.hid cD
         clear cA cB cC cD hrA hrB hrC hrD
         have u1 := sum_wrap rA rB bA bB
         have u2 := sum_wrap rC rD bC bD
         have u3 := sum_mod rA rB
         have u4 := sum_mod rC rD
         go_wp2_with fail
         go_quiet ((first | (go_at_call 13; exact Calls.quiet_of_same (CA.out _ (hsr.drewN _))) | (go_at_call 13; exact Calls.quiet_of_same (CB.out _ (hsr.drewN _)))))
         have K1 := fun k => Lib.hid (hk1.out.drewN k)
         have K2 := fun k => Lib.hid (hk2.out.drewN k)
         have K3 := fun k => Lib.hid (below_drewN hbr k)
         clear hk1 hk2 hbr hsr CA CB u1 u3
         go_wp2_with fail
         generalize hW : World.drewN wr _ = W3
         obtain ⟨k, hk⟩ : ∃ k, wr.drewN k = W3 := ⟨_, hW⟩
         have L1 := (K1 k).out
         have L2 := (K2 k).out
         have L3 := (K3 k).out
         rw [hk] at L1 L2 L3
         clear hk hW K1 K2 K3 k
         have hsr := hsh.below L3
         have v1 := fun c k => run_str_of_blk (P := Tryd.prog) (w := W3.drewN k) 33 9 5 Tryd.underlying33 Tryd.underlying5 Tryd.underlying9 _ 0 n c la hla.out _ _ (L1.drewN k) (by rw [List.drop_zero, List.take_left' (by rw [bytesV_length]; exact hla.out)])
         have v2 := fun c k => run_str_of_blk (P := Tryd.prog) (w := W3.drewN k) 33 9 5 Tryd.underlying33 Tryd.underlying5 Tryd.underlying9 _ 0 n c lb hlb.out _ _ (L2.drewN k) (by rw [List.drop_zero, List.take_left' (by rw [bytesV_length]; exact hlb.out)])
         clear L1 L2
         go_quiet ((first | (go_at_call 13; exact Calls.quiet_of_same (CC.out _ (hsr.drewN _))) | (go_at_call 13; exact Calls.quiet_of_same (CD.out _ (hsr.drewN _)))))
         clear v1 v2 CC CD u2 u4
         go_wp2_with fail
         refine (head_any _ (hsr.drewN _)).mono ?_
         rintro e w4 ⟨rfl, hb4⟩
         go_wp2_with fail
         go_ret
         exact ⟨rfl, (below_drewN L3 _).trans (hb4.mono L3.size)⟩)
  · obtain ⟨y1, y2, q1, q2, q3, q4⟩ := bw_two w 5 (t.extract 0 n) (s.extract 0 n)
    rw [extract_take] at q1 q2
    obtain ⟨G, hG⟩ : ∃ G, G = (Lib.bytesWorld w.drew 5 (t.extract 0 n)).heap.size := ⟨_, rfl⟩
    rw [← hG] at q2 q3 ⊢
    have hGG : w.heap.size < G := by omega
    have hne2 : w.heap.size ≠ G := by omega
    have hne : G ≠ w.heap.size := by omega
    have hg2 : w.heap.size ≤ w.heap.size := Nat.le_refl _
    have hg1 : w.heap.size ≤ G := by omega
    clear hG q3
    go_loopw [10] (fun i wr => ∃ (j : Nat) (la lb : List UInt8) (z1 z2 : List Value), i = .int .i64 (j : Int) ∧ j ≤ n ∧ Hid (la.length = n) ∧ Hid (lb.length = n) ∧ Hid (Blk wr G 5 (bytesV la ++ z1)) ∧ Hid (Blk wr w.heap.size 5 (bytesV lb ++ z2)) ∧ Below w.heap.size w wr ∧ Hid (be la + be lb = be (s.data.toList.take n) + be (t.data.toList.take n))) (fun i _ => n - (intOf i).toNat)
    case atStart => exact ⟨0, _, _, _, _, rfl, by omega, hs1, ht1, q2, q1, q4, rfl⟩
    case round =>
      obtain ⟨j, la, lb, z1, z2, rfl, hj, hla, hlb, hk1, hk2, hbr, hsum⟩ := hrel
      by_cases hjn : j < n
      · have d1 : decide ((j : Int) < (n : Int)) = true := by simp; omega
        by_cases hjl : j < len
        · have d2 : decide ((j : Int) < (len : Int)) = true := by simp; omega
          obtain ⟨b, off, ha, hbw, hcs⟩ := HR.out.2.2.2 (by omega)
          have hzl : (zs.map Value.bool).length = len := HR.out.1
          obtain ⟨q, hq⟩ : ∃ q, zs[j]? = some q := ⟨zs[j]'(by simpa using (by omega : j < (zs.map Value.bool).length)), List.getElem?_eq_getElem _⟩
          have hcell := (hbr.cell (p := ⟨b, off + j, none⟩) hbw).trans (hcs j (.bool q) (by simp [hq]))
          subst ha
          clear hcs hzl hq
          cases q
          · go_wp2_with fail
            go_roundw
            case rel => exact ⟨j + 1, la, lb, z1, z2, by go_num, by omega, hla, hlb, hk1, hk2, hbr, hsum⟩
            case measure => simp [intOf]; omega
          · obtain ⟨x, hx⟩ : ∃ x, la[j]? = some x := ⟨la[j]'(by rw [hla.out]; omega), List.getElem?_eq_getElem _⟩
            obtain ⟨y, hy⟩ : ∃ y, lb[j]? = some y := ⟨lb[j]'(by rw [hlb.out]; omega), List.getElem?_eq_getElem _⟩
            have k1 := hk1.out.cell j
            have k2 := hk2.out.cell j
            rw [bytesV_get _ _ _ (by rw [hla.out]; omega), List.getD_eq_getElem?_getD, hx] at k1
            rw [bytesV_get _ _ _ (by rw [hlb.out]; omega), List.getD_eq_getElem?_getD, hy] at k2
            have f1 := hk1.out.frozen j (by rw [List.length_append, bytesV_length, hla.out]; omega)
            have f2 := hk2.out.frozen j (by rw [List.length_append, bytesV_length, hlb.out]; omega)
            have hs2 : Hid (be (la.set j y) + be (lb.set j x) = be (s.data.toList.take n) + be (t.data.toList.take n)) := (be_swap la lb j n hla.out hlb.out hjn x y hx hy).trans hsum.out
            have hla2 : Hid ((la.set j y).length = n) := by show _ = _; rw [List.length_set]; exact hla.out
            have hlb2 : Hid ((lb.set j x).length = n) := by show _ = _; rw [List.length_set]; exact hlb.out
            have hn1 : Hid (Blk ((wr.setCell ⟨G, j, none⟩ (.int .u8 (y.toNat : Int))).setCell ⟨w.heap.size, j, none⟩ (.int .u8 (x.toNat : Int))) G 5 (bytesV (la.set j y) ++ z1)) := by
              rw [← bytesV_set _ _ _ _ (by rw [hla.out]; omega)]
              exact (hk1.out.set_ j _).far hne _
            have hn2 : Hid (Blk ((wr.setCell ⟨G, j, none⟩ (.int .u8 (y.toNat : Int))).setCell ⟨w.heap.size, j, none⟩ (.int .u8 (x.toNat : Int))) w.heap.size 5 (bytesV (lb.set j x) ++ z2)) := by
              rw [← bytesV_set _ _ _ _ (by rw [hlb.out]; omega)]
              exact (hk2.out.far hne2 _).set_ j _
            have hn3 : Hid (Blk ((wr.setCell ⟨w.heap.size, j, none⟩ (.int .u8 (x.toNat : Int))).setCell ⟨G, j, none⟩ (.int .u8 (y.toNat : Int))) G 5 (bytesV (la.set j y) ++ z1)) := by
              rw [← bytesV_set _ _ _ _ (by rw [hla.out]; omega)]
              exact (hk1.out.far hne _).set_ j _
            have hn4 : Hid (Blk ((wr.setCell ⟨w.heap.size, j, none⟩ (.int .u8 (x.toNat : Int))).setCell ⟨G, j, none⟩ (.int .u8 (y.toNat : Int))) w.heap.size 5 (bytesV (lb.set j x) ++ z2)) := by
              rw [← bytesV_set _ _ _ _ (by rw [hlb.out]; omega)]
              exact (hk2.out.set_ j _).far hne2 _
            have hw1 := (hbr.setCell (p := ⟨G, j, none⟩) hg1 (.int .u8 (y.toNat : Int))).setCell (p := ⟨w.heap.size, j, none⟩) hg2 (.int .u8 (x.toNat : Int))
            have hw2 := (hbr.setCell (p := ⟨w.heap.size, j, none⟩) hg2 (.int .u8 (x.toNat : Int))).setCell (p := ⟨G, j, none⟩) hg1 (.int .u8 (y.toNat : Int))
            simp only [Option.getD_some] at k1 k2
            clear hx hy
            go_wp2_with fail
            go_region
            all_goals go_wp2_with fail
            all_goals go_roundw
            all_goals first
              | exact ⟨j + 1, la.set j y, lb.set j x, z1, z2, by go_num, by omega, hla2, hlb2, hn1, hn2, hw1.drew, hs2⟩
              | exact ⟨j + 1, la.set j y, lb.set j x, z1, z2, by go_num, by omega, hla2, hlb2, hn3, hn4, hw2.drew, hs2⟩
              | (simp [intOf]; omega)
        · have d2 : decide ((j : Int) < (len : Int)) = false := by simp; omega
          (obtain ⟨rA, hrA⟩ : ∃ r : Nat, rest (s.data.toList.take n) = r := ⟨_, rfl⟩
           obtain ⟨rB, hrB⟩ : ∃ r : Nat, rest (t.data.toList.take n) = r := ⟨_, rfl⟩
           obtain ⟨rC, hrC⟩ : ∃ r : Nat, rest la = r := ⟨_, rfl⟩
           obtain ⟨rD, hrD⟩ : ∃ r : Nat, rest lb = r := ⟨_, rfl⟩
           have bA : (rA : Int) < 2305843009213693951 := hrA ▸ rest_bd _
           have bB : (rB : Int) < 2305843009213693951 := hrB ▸ rest_bd _
           have bC : (rC : Int) < 2305843009213693951 := hrC ▸ rest_bd _
           have bD : (rD : Int) < 2305843009213693951 := hrD ▸ rest_bd _
           have hfin := sum_eq _ _ _ _ n rA rB rC rD hs1.out ht1.out hla.out hlb.out hsum.out hrA hrB hrC hrD
           have cA := fun W hW => rest_of (s.extract 0 n) (s.data.toList.take n) rA W (extract_take s n) hrA (by rw [ByteArray.size_extract]; unfold maxLen; omega) hW
           have cB := fun W hW => rest_of (t.extract 0 n) (t.data.toList.take n) rB W (extract_take t n) hrB (by rw [ByteArray.size_extract]; unfold maxLen; omega) hW
           have cC := fun W hW => rest_of ⟨la.toArray⟩ la rC W rfl hrC (by show la.toArray.size ≤ _; rw [List.size_toArray, hla.out]; unfold maxLen; omega) hW
           have cD := fun W hW => rest_of ⟨lb.toArray⟩ lb rD W rfl hrD (by show lb.toArray.size ≤ _; rw [List.size_toArray, hlb.out]; unfold maxLen; omega) hW
           have hsr := hsh.below hbr
           have CA := Lib.hid cA
           have CB := Lib.hid cB
           have CC := Lib.hid cC
           have CD := Lib.hid cD
           clear cA cB cC cD hrA hrB hrC hrD
           have u1 := sum_wrap rA rB bA bB
           have u2 := sum_wrap rC rD bC bD
           have u3 := sum_mod rA rB
           have u4 := sum_mod rC rD
           go_wp2_with fail
           go_quiet ((first | (go_at_call 13; exact Calls.quiet_of_same (CA.out _ (hsr.drewN _))) | (go_at_call 13; exact Calls.quiet_of_same (CB.out _ (hsr.drewN _)))))
           have K1 := fun k => Lib.hid (hk1.out.drewN k)
           have K2 := fun k => Lib.hid (hk2.out.drewN k)
           have K3 := fun k => Lib.hid (below_drewN hbr k)
           clear hk1 hk2 hbr hsr CA CB u1 u3
           go_wp2_with fail
           generalize hW : World.drewN wr _ = W3
           obtain ⟨k, hk⟩ : ∃ k, wr.drewN k = W3 := ⟨_, hW⟩
           have L1 := (K1 k).out
           have L2 := (K2 k).out
           have L3 := (K3 k).out
           rw [hk] at L1 L2 L3
           clear hk hW K1 K2 K3 k
           have hsr := hsh.below L3
           have v1 := fun c k => run_str_of_blk (P := Tryd.prog) (w := W3.drewN k) 33 9 5 Tryd.underlying33 Tryd.underlying5 Tryd.underlying9 _ 0 n c la hla.out _ _ (L1.drewN k) (by rw [List.drop_zero, List.take_left' (by rw [bytesV_length]; exact hla.out)])
           have v2 := fun c k => run_str_of_blk (P := Tryd.prog) (w := W3.drewN k) 33 9 5 Tryd.underlying33 Tryd.underlying5 Tryd.underlying9 _ 0 n c lb hlb.out _ _ (L2.drewN k) (by rw [List.drop_zero, List.take_left' (by rw [bytesV_length]; exact hlb.out)])
           clear L1 L2
           go_quiet ((first | (go_at_call 13; exact Calls.quiet_of_same (CC.out _ (hsr.drewN _))) | (go_at_call 13; exact Calls.quiet_of_same (CD.out _ (hsr.drewN _)))))
           clear v1 v2 CC CD u2 u4
           go_wp2_with fail
           refine (head_any _ (hsr.drewN _)).mono ?_
           rintro e w4 ⟨rfl, hb4⟩
           go_wp2_with fail
           go_ret
           exact ⟨rfl, (below_drewN L3 _).trans (hb4.mono L3.size)⟩)
      · have d1 : decide ((j : Int) < (n : Int)) = false := by simp; omega
        (obtain ⟨rA, hrA⟩ : ∃ r : Nat, rest (s.data.toList.take n) = r := ⟨_, rfl⟩
         obtain ⟨rB, hrB⟩ : ∃ r : Nat, rest (t.data.toList.take n) = r := ⟨_, rfl⟩
         obtain ⟨rC, hrC⟩ : ∃ r : Nat, rest la = r := ⟨_, rfl⟩
         obtain ⟨rD, hrD⟩ : ∃ r : Nat, rest lb = r := ⟨_, rfl⟩
         have bA : (rA : Int) < 2305843009213693951 := hrA ▸ rest_bd _
         have bB : (rB : Int) < 2305843009213693951 := hrB ▸ rest_bd _
         have bC : (rC : Int) < 2305843009213693951 := hrC ▸ rest_bd _
         have bD : (rD : Int) < 2305843009213693951 := hrD ▸ rest_bd _
         have hfin := sum_eq _ _ _ _ n rA rB rC rD hs1.out ht1.out hla.out hlb.out hsum.out hrA hrB hrC hrD
         have cA := fun W hW => rest_of (s.extract 0 n) (s.data.toList.take n) rA W (extract_take s n) hrA (by rw [ByteArray.size_extract]; unfold maxLen; omega) hW
         have cB := fun W hW => rest_of (t.extract 0 n) (t.data.toList.take n) rB W (extract_take t n) hrB (by rw [ByteArray.size_extract]; unfold maxLen; omega) hW
         have cC := fun W hW => rest_of ⟨la.toArray⟩ la rC W rfl hrC (by show la.toArray.size ≤ _; rw [List.size_toArray, hla.out]; unfold maxLen; omega) hW
         have cD := fun W hW => rest_of ⟨lb.toArray⟩ lb rD W rfl hrD (by show lb.toArray.size ≤ _; rw [List.size_toArray, hlb.out]; unfold maxLen; omega) hW
         have hsr := hsh.below hbr
         have CA := Lib.hid cA
         have CB := Lib.hid cB
         have CC := Lib.hid cC
         have CD := Lib.hid cD
         clear cA cB cC cD hrA hrB hrC hrD
         have u1 := sum_wrap rA rB bA bB
         have u2 := sum_wrap rC rD bC bD
         have u3 := sum_mod rA rB
         have u4 := sum_mod rC rD
         go_wp2_with fail
         go_quiet ((first | (go_at_call 13; exact Calls.quiet_of_same (CA.out _ (hsr.drewN _))) | (go_at_call 13; exact Calls.quiet_of_same (CB.out _ (hsr.drewN _)))))
         have K1 := fun k => Lib.hid (hk1.out.drewN k)
         have K2 := fun k => Lib.hid (hk2.out.drewN k)
         have K3 := fun k => Lib.hid (below_drewN hbr k)
         clear hk1 hk2 hbr hsr CA CB u1 u3
         go_wp2_with fail
         generalize hW : World.drewN wr _ = W3
         obtain ⟨k, hk⟩ : ∃ k, wr.drewN k = W3 := ⟨_, hW⟩
         have L1 := (K1 k).out
         have L2 := (K2 k).out
         have L3 := (K3 k).out
         rw [hk] at L1 L2 L3
         clear hk hW K1 K2 K3 k
         have hsr := hsh.below L3
         have v1 := fun c k => run_str_of_blk (P := Tryd.prog) (w := W3.drewN k) 33 9 5 Tryd.underlying33 Tryd.underlying5 Tryd.underlying9 _ 0 n c la hla.out _ _ (L1.drewN k) (by rw [List.drop_zero, List.take_left' (by rw [bytesV_length]; exact hla.out)])
         have v2 := fun c k => run_str_of_blk (P := Tryd.prog) (w := W3.drewN k) 33 9 5 Tryd.underlying33 Tryd.underlying5 Tryd.underlying9 _ 0 n c lb hlb.out _ _ (L2.drewN k) (by rw [List.drop_zero, List.take_left' (by rw [bytesV_length]; exact hlb.out)])
         clear L1 L2
         go_quiet ((first | (go_at_call 13; exact Calls.quiet_of_same (CC.out _ (hsr.drewN _))) | (go_at_call 13; exact Calls.quiet_of_same (CD.out _ (hsr.drewN _)))))
         clear v1 v2 CC CD u2 u4
         go_wp2_with fail
         refine (head_any _ (hsr.drewN _)).mono ?_
         rintro e w4 ⟨rfl, hb4⟩
         go_wp2_with fail
         go_ret
         exact ⟨rfl, (below_drewN L3 _).trans (hb4.mono L3.size)⟩)

theorem min_run (a b : Nat) (W : World) : (Builtin.min_ #[3, 3] 3 #[.int .i64 (a : Int), .int .i64 (b : Int)]).run Tryd.prog W = .ok (.int .i64 ((min a b : Nat) : Int)) W := by
  by_cases h : b < a
  · rw [Nat.min_eq_right (by omega)]
    simp [Builtin.min_, Builtin.min2, go_sem, h]
  · rw [Nat.min_eq_left (by omega)]
    simp [Builtin.min_, Builtin.min2, go_sem, h]
theorem castSwaps_walk (s t : ByteArray) (a : Option Addr) (len cap : Nat) (zs : List Bool) (w : World) (hs : s.size ≤ maxLen) (ht : t.size ≤ maxLen) (hrow : IsBools w a len cap zs) (hsh : Shifts w) :
    Calls Tryd.prog 9 #[.string s, .string t, .slice a len cap] w fun e w' => e = .returned (.bool true) ∧ Below w.heap.size w w' := by
  by_cases h : 1000 < s.size ∧ 1000 < t.size
  · exact castSwaps_let s t a len cap w hs ht hsh h
  · exact castSwaps_main s t a len cap zs w hs ht hrow hsh (min s.size t.size) (by omega) (by omega) (by omega) (min_run _ _ _)
end Go.Proofs.YtmmlmcanjacngaaDoor
