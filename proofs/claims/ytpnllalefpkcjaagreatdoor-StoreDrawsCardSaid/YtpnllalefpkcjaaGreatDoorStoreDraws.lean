/-
StoreDraws: PutDraw and PutMark tell the reference's Data, GetDraw and GetMark these back; any text is the Data of what they tell of it, or refused. No condition.
-/
import Derived.Test.YtpnllalefpkcjaaGreatDoorTripA
import Derived.Test.YtpnllalefpkcjaaGreatDoorStoreRMark
import Derived.Test.YtpnllalefpkcjaaGreatDoorStoreRDraw
import Derived.Test.YtpnllalefpkcjaaGreatDoorStoreEx
import Derived.Deep.CutRange
namespace Go.Proofs.YtpnllalefpkcjaaGreatDoor.Store
open Go.RowKit Nat_ Notch

/-- What the walk keeps: nothing of old has changed, and the two arguments' boxes. -/
def KeepD (w : World) (G : Nat) (d m : List Value) (W : World) : Prop := Below w.heap.size w W ∧ Blk W G 25 d ∧ Blk W (G + 1) 28 m
theorem KeepD.below {w : World} {G : Nat} {d m : List Value} {W W' : World} (h : KeepD w G d m W) (_hw : w.heap.size ≤ G) (hb : Below W.heap.size W W') : KeepD w G d m W' :=
  ⟨h.1.trans (hb.mono h.1.size), h.2.1.below hb h.2.1.lt, h.2.2.below hb h.2.2.lt⟩
theorem KeepD.al {w : World} {G : Nat} {d m : List Value} {W : World} (h : KeepD w G d m W) (hw : w.heap.size ≤ G) (o : Obj) : KeepD w G d m (W.alloc o) :=
  h.below hw ((Below.refl _ _).alloc (Nat.le_refl _) _)
theorem norm_map (rs : List (Bool × Value × List Nat)) : ((rs.map valZ).map fun z => (z.1, z.2.2)).map normZ = (rs.map valZ).map fun z => (zneg z.1 z.2.2, z.2.2) := by
  rw [List.map_map]
  rfl
set_option maxRecDepth 100000 in
set_option maxHeartbeats 8000000 in
theorem storeDraws_ok (da : Option Addr) (dl dc : Nat) (rs : List (Bool × Value × List Nat)) (k n r : Nat) (qa : Option Addr) (ql qc : Nat) (qs : List (Bool × Value × List Nat)) (t s : ByteArray) (w : World)
    (h1 : RawInts w da dl rs) (h2 : RawInts w qa ql qs) (hk : k < 256) (hn : n < 18446744073709551616) (hr : r < 18446744073709551616) (hsh : Shifts w) (hdl : dl ≤ maxLen) (hql : ql ≤ maxLen) (ht : t.size ≤ maxLen) (hs : s.size ≤ maxLen) :
    Calls Tryz.prog 3 #[.agg #[.slice da dl dc, .int .u8 (k : Int)], .agg #[.int .u64 (n : Int), .int .u64 (r : Int), .slice qa ql qc, .string t], .string s] w fun e w' => e = .returned (.bool true) ∧ Below w.heap.size w w' := by
  obtain ⟨G, hG⟩ : ∃ G, w.heap.size = G := ⟨_, rfl⟩
  obtain ⟨W, hW⟩ : ∃ W, (w.alloc (.cells #[.slice da dl dc, .int .u8 (k : Int)] 25)).alloc (.cells #[.int .u64 (n : Int), .int .u64 (r : Int), .slice qa ql qc, .string t] 28) = W := ⟨_, rfl⟩
  have hK : KeepD w G [.slice da dl dc, .int .u8 (k : Int)] [.int .u64 (n : Int), .int .u64 (r : Int), .slice qa ql qc, .string t] W := by
    rw [← hW, ← hG]
    exact ⟨((Below.refl _ w).alloc (Nat.le_refl _) _).alloc (by simp) _, (Blk.new w _ [_, _]).alloc _, blk_new _ _ [_, _, _, _] _ (by simp)⟩
  have hGw : w.heap.size ≤ G := by omega
  have c0 := hK.2.1.cell 0
  have c1 := hK.2.1.cell 1
  have d0 := hK.2.2.cell 0
  have d1 := hK.2.2.cell 1
  have d2 := hK.2.2.cell 2
  have d3 := hK.2.2.cell 3
  have hGl := hK.2.1.lt
  have hGl1 := hK.2.2.lt
  simp only [List.getElem?_cons_zero, List.getElem?_cons_succ] at c0 c1 d0 d1 d2 d3
  have hs1 := small_any da dl dc rs W (h1.below hK.1) hdl
  have hs2 := small_any qa ql qc qs W (h2.below hK.1) hql
  have S1 := Lib.hid hs1
  have S2 := Lib.hid hs2
  have HSH := Lib.hid hsh
  have HK := Lib.hid hK
  have HR1 := Lib.hid h1
  have HR2 := Lib.hid h2
  have HN := Lib.hid (And.intro hk (And.intro hn hr))
  have HGw := Lib.hid hGw
  unfold maxLen at ht hs
  clear hs1 hs2 hsh hK h1 h2 hk hn hr hGw
  have hHead := fun V (hV : KeepD w G [.slice da dl dc, .int .u8 (k : Int)] [.int .u64 (n : Int), .int .u64 (r : Int), .slice qa ql qc, .string t] V) => (lawHead_any V (HSH.out.below hV.1)).mono (fun e w' (h : e = .returned (.bool true) ∧ Below V.heap.size V w') => (show e = .returned (.bool true) ∧ Below w.heap.size w w' from ⟨h.1, hV.1.trans (h.2.mono hV.1.size)⟩))
  have HHD := Lib.hid hHead
  clear hHead
  go_enter Tryz.func3, Tryz.ntmps3
  go_wp2_with fail
  clear hW
  refine S1.out.mono ?_
  rintro e _ ⟨⟨b1, rfl, hb1⟩, rfl⟩
  cases b1 with
  | false =>
    go_wp2_with fail
    refine (HHD.out _ HK.out).mono ?_
    rintro e w1 ⟨rfl, hb⟩
    go_wp2_with fail
    go_ret
    exact ⟨rfl, hb⟩
  | true =>
    obtain ⟨hd20, hr4⟩ := hb1 rfl
    have HR4 := Lib.hid hr4
    clear hb1 hr4
    go_wp2_with fail
    refine S2.out.mono ?_
    rintro e _ ⟨⟨b2, rfl, hb2⟩, rfl⟩
    cases b2 with
    | false =>
      go_wp2_with fail
      refine (HHD.out _ HK.out).mono ?_
      rintro e w1 ⟨rfl, hb⟩
      go_wp2_with fail
      go_ret
      exact ⟨rfl, hb⟩
    | true =>
      obtain ⟨hq20, hq4⟩ := hb2 rfl
      have HQ4 := Lib.hid hq4
      clear hb2 hq4
      by_cases ht7 : 70000 < t.size
      · go_wp2_with fail
        refine (HHD.out _ HK.out).mono ?_
        rintro e w1 ⟨rfl, hb⟩
        go_wp2_with fail
        go_ret
        exact ⟨rfl, hb⟩
      by_cases hs2 : 2000 < s.size
      · go_wp2_with fail
        refine (HHD.out _ HK.out).mono ?_
        rintro e w1 ⟨rfl, hb⟩
        go_wp2_with fail
        go_ret
        exact ⟨rfl, hb⟩
      have hz1 := HR1.out.zs HR4.out
      have hz2 := HR2.out.zs HQ4.out
      have hC1 := fun V (hV : Below w.heap.size w V) => putDraw_any k da dl dc (rs.map valZ) V HN.out.1 (hz1.below hV) (by omega)
      have hC2 := fun V (hV : Below w.heap.size w V) => rputDraw_any k da dl dc (rs.map valZ) V HN.out.1 (hz1.below hV) (by omega)
      have hC3 := fun V (hV : Below w.heap.size w V) => putMark_any n r qa ql qc (qs.map valZ) t V HN.out.2.1 HN.out.2.2 (hz2.below hV) (by omega)
      have hC4 := fun V (hV : Below w.heap.size w V) => rputMark_any n r qa ql qc (qs.map valZ) t V HN.out.2.1 HN.out.2.2 (hz2.below hV) (by omega) (by omega)
      have hl1 : (rs.map valZ).length = dl := hz1.1
      have hl2 : (qs.map valZ).length = ql := hz2.1
      have nm1 := norm_map rs
      have nm2 := norm_map qs
      have hlD : ((rs.map valZ).map fun z => (z.1, z.2.2)).length = dl := by rw [List.length_map, hl1]
      have hlM : ((qs.map valZ).map fun z => (z.1, z.2.2)).length = ql := by rw [List.length_map, hl2]
      rw [drawV_eq] at hC1 hC2
      rw [markV_eq] at hC3 hC4
      generalize rs.map valZ = zs at *
      generalize qs.map valZ = ys at *
      generalize zs.map (fun z => (z.1, z.2.2)) = L1 at *
      generalize ys.map (fun z => (z.1, z.2.2)) = L2 at *
      generalize hq1 : drawW k L1 = q1 at *
      generalize hq2 : markW n r L2 t = q2 at *
      obtain ⟨T, E⟩ := q1
      obtain ⟨T2, E2⟩ := q2
      simp only [] at hC1 hC2 hC3 hC4
      have C1 := Lib.hid hC1
      have C2 := Lib.hid hC2
      have C3 := Lib.hid hC3
      have C4 := Lib.hid hC4
      have HZ := Lib.hid (And.intro hz1 hz2)
      have NM := Lib.hid (And.intro nm1 nm2)
      have HL := Lib.hid (And.intro hlD hlM)
      have HQ1 := Lib.hid hq1
      have HQ2 := Lib.hid hq2
      clear hC1 hC2 hC3 hC4 hz1 hz2 nm1 nm2 hlD hlM hq1 hq2 hl1 hl2
      have hTT : (T.toList == T.toList) = true := by simp
      have hTT2 : (T2.toList == T2.toList) = true := by simp
      have hEE : (E == E) = true := by simp
      have hEE2 : (E2 == E2) = true := by simp
      go_wp2_with fail
      refine (C1.out _ HK.out.1).mono ?_
      rintro e w1 ⟨rfl, hb1⟩
      have HK1 := Lib.hid (HK.out.below HGw.out hb1)
      have x0 := HK1.out.2.1.cell 0
      have x1 := HK1.out.2.1.cell 1
      simp only [List.getElem?_cons_zero, List.getElem?_cons_succ] at x0 x1
      clear hb1
      go_wp2_with fail
      refine (C2.out _ HK1.out.1).mono ?_
      rintro e w2 ⟨rfl, hb2⟩
      have HK2 := Lib.hid (HK1.out.below HGw.out hb2)
      have y0 := HK2.out.2.2.cell 0
      have y1 := HK2.out.2.2.cell 1
      have y2 := HK2.out.2.2.cell 2
      have y3 := HK2.out.2.2.cell 3
      simp only [List.getElem?_cons_zero, List.getElem?_cons_succ] at y0 y1 y2 y3
      clear hb2
      go_wp2_with fail
      refine (C3.out _ HK2.out.1).mono ?_
      rintro e w3 ⟨rfl, hb3⟩
      have HK3 := Lib.hid (HK2.out.below HGw.out hb3)
      have z0 := HK3.out.2.2.cell 0
      have z1 := HK3.out.2.2.cell 1
      have z2 := HK3.out.2.2.cell 2
      have z3 := HK3.out.2.2.cell 3
      simp only [List.getElem?_cons_zero, List.getElem?_cons_succ] at z0 z1 z2 z3
      clear hb3
      go_wp2_with fail
      refine (C4.out _ HK3.out.1).mono ?_
      rintro e w4 ⟨rfl, hb4⟩
      have HK4 := Lib.hid (HK3.out.below HGw.out hb4)
      clear hb4 x0 x1 y0 y1 y2 y3 z0 z1 z2 z3 c0 c1 d0 d1 d2 d3 HK1 HK2 HK3
      go_upto_if 88 with fail
      go_cut [] from 89 to 110 (fun wx => KeepD w G [.slice da dl dc, .int .u8 (k : Int)] [.int .u64 (n : Int), .int .u64 (r : Int), .slice qa ql qc, .string t] wx)
      case first =>
        by_cases hE : E = 0
        · subst hE
          go_wp2_with fail
          refine (getDraw_back k L1 T w4 HN.out.1 HQ1.out).mono ?_
          rintro e w5 ⟨a5, c5, us, rfl, hN5, hm5, hl5, hb5⟩
          have hul : us.length = dl := by have := congrArg List.length hm5; rw [List.length_map, List.length_map, HL.out.1] at this; exact this
          rw [hul] at hN5 ⊢
          have HK5 := Lib.hid (HK4.out.below HGw.out hb5)
          have HA5 := Lib.hid (HK5.out.al HGw.out (.cells #[.slice a5 dl c5, .int .u8 (k : Int)] 25))
          have hal5 := (Below.refl w5.heap.size w5).alloc (Nat.le_refl _) (.cells #[.slice a5 dl c5, .int .u8 (k : Int)] 25)
          have HS := Lib.hid (lawSame_any a5 da dl c5 dc us zs _ (hN5.below hal5) (HZ.out.1.below HA5.out.1) (by omega) (hm5.trans NM.out.1))
          have x0 := HA5.out.2.1.cell 0
          have x1 := HA5.out.2.1.cell 1
          have xl := HK5.out.2.1.lt
          simp only [List.getElem?_cons_zero, List.getElem?_cons_succ] at x0 x1
          clear hN5 hm5 hb5 hal5 hul
          go_wp2_with fail
          refine HS.out.mono ?_
          rintro e w6 ⟨rfl, hb6⟩
          have HK6 := Lib.hid (HA5.out.below HGw.out hb6)
          clear x0 x1 xl hb6
          go_wp2_with fail
          go_meet
          case rel => exact HK6.out
        · go_wp2_with fail
          go_meet
          case rel => exact HK4.out
      case rest =>
        have HKc := Lib.hid hcut
        clear hcut
        go_upto_if 112 with fail
        go_cut [] from 113 to 148 (fun wx => KeepD w G [.slice da dl dc, .int .u8 (k : Int)] [.int .u64 (n : Int), .int .u64 (r : Int), .slice qa ql qc, .string t] wx)
        case first =>
          by_cases hE : E2 = 0
          · subst hE
            go_wp2_with fail
            refine (getMark_back n r L2 t T2 wc HN.out.2.1 HN.out.2.2 HQ2.out).mono ?_
            rintro e w5 ⟨a5, c5, us, rfl, hN5, hm5, hl5, hb5⟩
            have hul : us.length = ql := by have := congrArg List.length hm5; rw [List.length_map, List.length_map, HL.out.2] at this; exact this
            rw [hul] at hN5 ⊢
            have HK5 := Lib.hid (HKc.out.below HGw.out hb5)
            have HA5 := Lib.hid (HK5.out.al HGw.out (.cells #[.int .u64 (n : Int), .int .u64 (r : Int), .slice a5 ql c5, .string t] 28))
            have hal5 := (Below.refl w5.heap.size w5).alloc (Nat.le_refl _) (.cells #[.int .u64 (n : Int), .int .u64 (r : Int), .slice a5 ql c5, .string t] 28)
            have HS := Lib.hid (lawSame_any a5 qa ql c5 qc us ys _ (hN5.below hal5) (HZ.out.2.below HA5.out.1) (by omega) (hm5.trans NM.out.2))
            have x0 := HA5.out.2.2.cell 0
            have x1 := HA5.out.2.2.cell 1
            have x2 := HA5.out.2.2.cell 2
            have x3 := HA5.out.2.2.cell 3
            have xl := HK5.out.2.2.lt
            simp only [List.getElem?_cons_zero, List.getElem?_cons_succ] at x0 x1 x2 x3
            have hnew := Blk.new w5 28 [.int .u64 (n : Int), .int .u64 (r : Int), .slice a5 ql c5, .string t]
            have m0 := hnew.cell 0
            have m1 := hnew.cell 1
            have m2 := hnew.cell 2
            have m3 := hnew.cell 3
            have ml := hnew.lt
            simp only [List.getElem?_cons_zero, List.getElem?_cons_succ] at m0 m1 m2 m3
            have htt : (t.toList == t.toList) = true := by simp
            clear hN5 hm5 hb5 hal5 hul hnew
            go_wp2_with fail
            refine HS.out.mono ?_
            rintro e w6 ⟨rfl, hb6⟩
            have HK6 := Lib.hid (HA5.out.below HGw.out hb6)
            clear x0 x1 x2 x3 xl m0 m1 m2 m3 ml hb6
            go_wp2_with fail
            go_meet
            case rel => exact HK6.out
          · go_wp2_with fail
            go_meet
            case rel => exact HKc.out
        case rest =>
          have HKd := Lib.hid hcut
          clear hcut
          have hss : (s.toList == s.toList) = true := by simp
          go_wp2_with fail
          refine (getDraw_put s _ (by omega)).mono ?_
          rintro e w7 ⟨⟨k7, a7, c7, us7, hk7, rfl, hZ7, hD7, hl7⟩ | rfl, hb7⟩
          · have HK7 := Lib.hid (HKd.out.below HGw.out hb7)
            have HB7 := Lib.hid (HK7.out.al HGw.out (.cells #[.slice a7 us7.length c7, .int .u8 (k7 : Int)] 25))
            have HZ7 := Lib.hid (And.intro hZ7 (And.intro hk7 (And.intro hD7 hl7)))
            clear hZ7 hk7 hD7 hl7 hb7
            go_upto_if 155 with fail
            go_cut [] from 156 to 167 (fun wx => KeepD w G [.slice da dl dc, .int .u8 (k : Int)] [.int .u64 (n : Int), .int .u64 (r : Int), .slice qa ql qc, .string t] wx)
            case first =>
              have hnew := Blk.new w7 25 [.slice a7 us7.length c7, .int .u8 (k7 : Int)]
              have m0 := hnew.cell 0
              have m1 := hnew.cell 1
              have ml := hnew.lt
              simp only [List.getElem?_cons_zero, List.getElem?_cons_succ] at m0 m1
              have hput := putDraw_any k7 a7 us7.length c7 us7 _ HZ7.out.2.1 (HZ7.out.1.below ((Below.refl w7.heap.size w7).alloc (Nat.le_refl _) (.cells #[.slice a7 us7.length c7, .int .u8 (k7 : Int)] 25))) (by have := HZ7.out.2.2.2; omega)
              rw [drawV_eq, HZ7.out.2.2.1] at hput
              have HPUT := Lib.hid hput
              clear hput hnew
              go_wp2_with fail
              refine HPUT.out.mono ?_
              rintro e wy ⟨rfl, hby⟩
              have HKy := Lib.hid (HB7.out.below HGw.out hby)
              clear m0 m1 ml
              go_wp2_with fail
              go_meet
              case rel => exact HKy.out
            case rest =>
              have HKX0 := Lib.hid hcut
              clear hcut
              go_wp2_with fail
              refine (getMark_put s _ (by omega)).mono ?_
              rintro e w9 ⟨⟨n9, r9, a9, c9, us9, t9, hn9, hr9, rfl, hZ9, hM9, hl9⟩ | rfl, hb9⟩
              · have HK9 := Lib.hid (HKX0.out.below HGw.out hb9)
                have HZ9 := Lib.hid (And.intro hZ9 (And.intro hn9 (And.intro hr9 (And.intro hM9 hl9))))
                clear hZ9 hn9 hr9 hM9 hl9 hb9
                have HB9 := Lib.hid (HK9.out.al HGw.out (.cells #[.int .u64 (n9 : Int), .int .u64 (r9 : Int), .slice a9 us9.length c9, .string t9] 28))
                go_upto_if 174 with fail
                go_cut [] from 175 to 186 (fun wx => KeepD w G [.slice da dl dc, .int .u8 (k : Int)] [.int .u64 (n : Int), .int .u64 (r : Int), .slice qa ql qc, .string t] wx)
                case first =>
                  have hnew := Blk.new w9 28 [.int .u64 (n9 : Int), .int .u64 (r9 : Int), .slice a9 us9.length c9, .string t9]
                  have m0 := hnew.cell 0
                  have m1 := hnew.cell 1
                  have m2 := hnew.cell 2
                  have m3 := hnew.cell 3
                  have ml := hnew.lt
                  simp only [List.getElem?_cons_zero, List.getElem?_cons_succ] at m0 m1 m2 m3
                  have hput := putMark_any n9 r9 a9 us9.length c9 us9 t9 _ HZ9.out.2.1 HZ9.out.2.2.1 (HZ9.out.1.below ((Below.refl w9.heap.size w9).alloc (Nat.le_refl _) (.cells #[.int .u64 (n9 : Int), .int .u64 (r9 : Int), .slice a9 us9.length c9, .string t9] 28))) (by have := HZ9.out.2.2.2.2; omega)
                  rw [markV_eq, HZ9.out.2.2.2.1] at hput
                  have HPUT := Lib.hid hput
                  clear hput hnew
                  go_wp2_with fail
                  refine HPUT.out.mono ?_
                  rintro e wy ⟨rfl, hby⟩
                  have HKy := Lib.hid (HB9.out.below HGw.out hby)
                  skip
                  clear m0 m1 m2 m3 ml
                  go_wp2_with fail
                  go_meet
                  case rel => exact HKy.out
                case rest =>
                  have hkc := hcut
                  have HKX := Lib.hid hkc
                  clear hcut hkc
                  go_wp2_with fail
                  refine (HHD.out _ HKX.out).mono ?_
                  rintro e wz ⟨rfl, hbz⟩
                  go_wp2_with fail
                  go_ret
                  exact ⟨rfl, hbz⟩
              · have HK9 := Lib.hid (HKX0.out.below HGw.out hb9)
                have HB9 := Lib.hid (HK9.out.al HGw.out (.cells #[.int .u64 0, .int .u64 0, .slice none 0 0, .string ByteArray.empty] 28))
                skip
                have hnew := Blk.new w9 28 [.int .u64 0, .int .u64 0, .slice none 0 0, .string ByteArray.empty]
                have m2 := hnew.cell 2
                have ml := hnew.lt
                simp only [List.getElem?_cons_zero, List.getElem?_cons_succ] at m2
                clear hb9 hnew

                go_wp2_with fail
                refine (HHD.out _ HB9.out).mono ?_
                rintro e wz ⟨rfl, hbz⟩
                go_wp2_with fail
                go_ret
                exact ⟨rfl, hbz⟩
          · have HK7 := Lib.hid (HKd.out.below HGw.out hb7)
            have HB7 := Lib.hid (HK7.out.al HGw.out (.cells #[.slice none 0 0, .int .u8 0] 25))
            have hD8 := Blk.new w7 25 [.slice none 0 0, .int .u8 0]
            obtain ⟨w8, hw8⟩ : ∃ w8, w7.alloc (.cells #[.slice none 0 0, .int .u8 0] 25) = w8 := ⟨_, rfl⟩
            obtain ⟨g19, hg19⟩ : ∃ g, w7.heap.size = g := ⟨_, rfl⟩
            rw [hg19, show w7.alloc (.cells [Value.slice none 0 0, .int .u8 0].toArray 25) = w8 from hw8] at hD8
            rw [hw8] at HB7
            have HD8 := Lib.hid hD8
            have HHH := Lib.hid (And.intro hw8 hg19)
            clear hD8 hb7 hw8 hg19
            go_wp2_with fail
            rw [HHH.out.1, HHH.out.2]
            go_wp2_with fail
            refine (getMark_put s _ (by omega)).mono ?_
            rintro e w9 ⟨⟨n9, r9, a9, c9, us9, t9, hn9, hr9, rfl, hZ9, hM9, hl9⟩ | rfl, hb9⟩
            · have HK9 := Lib.hid (HB7.out.below HGw.out hb9)
              have HD9 := Lib.hid (HD8.out.below hb9 HD8.out.lt)
              have HZ9 := Lib.hid (And.intro hZ9 (And.intro hn9 (And.intro hr9 (And.intro hM9 hl9))))
              clear hZ9 hn9 hr9 hM9 hl9 hb9
              have HB9 := Lib.hid (HK9.out.al HGw.out (.cells #[.int .u64 (n9 : Int), .int .u64 (r9 : Int), .slice a9 us9.length c9, .string t9] 28))
              go_upto_if 174 with fail
              go_cut [] from 175 to 186 (fun wx => KeepD w G [.slice da dl dc, .int .u8 (k : Int)] [.int .u64 (n : Int), .int .u64 (r : Int), .slice qa ql qc, .string t] wx ∧ Blk wx g19 25 [.slice none 0 0, .int .u8 0])
              case first =>
                have hnew := Blk.new w9 28 [.int .u64 (n9 : Int), .int .u64 (r9 : Int), .slice a9 us9.length c9, .string t9]
                have m0 := hnew.cell 0
                have m1 := hnew.cell 1
                have m2 := hnew.cell 2
                have m3 := hnew.cell 3
                have ml := hnew.lt
                simp only [List.getElem?_cons_zero, List.getElem?_cons_succ] at m0 m1 m2 m3
                have hput := putMark_any n9 r9 a9 us9.length c9 us9 t9 _ HZ9.out.2.1 HZ9.out.2.2.1 (HZ9.out.1.below ((Below.refl w9.heap.size w9).alloc (Nat.le_refl _) (.cells #[.int .u64 (n9 : Int), .int .u64 (r9 : Int), .slice a9 us9.length c9, .string t9] 28))) (by have := HZ9.out.2.2.2.2; omega)
                rw [markV_eq, HZ9.out.2.2.2.1] at hput
                have HPUT := Lib.hid hput
                clear hput hnew
                go_wp2_with fail
                refine HPUT.out.mono ?_
                rintro e wy ⟨rfl, hby⟩
                have HKy := Lib.hid (HB9.out.below HGw.out hby)
                have HDy := Lib.hid ((HD9.out.alloc (.cells #[.int .u64 (n9 : Int), .int .u64 (r9 : Int), .slice a9 us9.length c9, .string t9] 28)).below hby ((HD9.out.alloc _).lt))
                clear m0 m1 m2 m3 ml
                go_wp2_with fail
                go_meet
                case rel => exact ⟨HKy.out, HDy.out⟩
              case rest =>
                obtain ⟨hkc, hdc⟩ := hcut
                have HDX := Lib.hid hdc
                have q0 := HDX.out.cell 0
                have q1 := HDX.out.lt
                simp only [List.getElem?_cons_zero] at q0
                have HKX := Lib.hid hkc
                clear hkc hdc
                go_wp2_with fail
                refine (HHD.out _ HKX.out).mono ?_
                rintro e wz ⟨rfl, hbz⟩
                go_wp2_with fail
                go_ret
                exact ⟨rfl, hbz⟩
            · have HK9 := Lib.hid (HB7.out.below HGw.out hb9)
              have HD9 := Lib.hid (HD8.out.below hb9 HD8.out.lt)
              have HB9 := Lib.hid (HK9.out.al HGw.out (.cells #[.int .u64 0, .int .u64 0, .slice none 0 0, .string ByteArray.empty] 28))
              have HDX := Lib.hid (HD9.out.alloc (.cells #[.int .u64 0, .int .u64 0, .slice none 0 0, .string ByteArray.empty] 28))
              have hnew := Blk.new w9 28 [.int .u64 0, .int .u64 0, .slice none 0 0, .string ByteArray.empty]
              have m2 := hnew.cell 2
              have ml := hnew.lt
              simp only [List.getElem?_cons_zero, List.getElem?_cons_succ] at m2
              clear hb9 hnew
              have q0 := HDX.out.cell 0
              have q1 := HDX.out.lt
              simp only [List.getElem?_cons_zero] at q0

              go_wp2_with fail
              refine (HHD.out _ HB9.out).mono ?_
              rintro e wz ⟨rfl, hbz⟩
              go_wp2_with fail
              go_ret
              exact ⟨rfl, hbz⟩
theorem rawInts_of {w : World} {a : Option Addr} {len cap : Nat} {rows : List (List Value)} (h : IsRecs w a len cap 2 rows) (hp : ∀ q ∈ rows, ∃ (x : Bool) (v : Value) (z : List Nat), q = [.bool x, v] ∧ RawNat w v z) : ∃ rs, RawInts w a len rs ∧ len ≤ maxLen := by
  obtain ⟨h1, h2, h3, h4⟩ := h
  obtain ⟨rs, hl, hq⟩ := list_of_idx (Q := fun i (r : Bool × Value × List Nat) => rows[i]? = some [.bool r.1, r.2.1] ∧ RawNat w r.2.1 r.2.2) len (fun i hi => by
    have hir : i < rows.length := by omega
    obtain ⟨x, v, z, e, hz⟩ := hp _ (List.getElem_mem hir)
    exact ⟨(x, v, z), by rw [List.getElem?_eq_getElem hir, e], hz⟩)
  refine ⟨rs, ⟨hl, ?_, fun h0 => ?_⟩, by omega⟩
  · intro r hr
    obtain ⟨i, hi, rfl⟩ := List.mem_iff_getElem.1 hr
    exact (hq i _ (List.getElem?_eq_getElem hi)).2
  · obtain ⟨b, off, ha, hb, hc⟩ := h4 h0
    refine ⟨b, off, ha, hb, fun i r hi => ?_⟩
    have := hc i _ (hq i r hi).1
    exact ⟨by simpa using this 0 _ rfl, by simpa [Nat.add_assoc] using this 1 _ rfl⟩
theorem storeDraws_walk (da : Option Addr) (dl dc : Nat) (z0 : List (List Value)) (k : Int) (n r : Int) (qa : Option Addr) (ql qc : Nat) (z1 : List (List Value)) (t s : ByteArray) (w : World)
    (h1 : IsRecs w da dl dc 2 z0) (p1 : ∀ q ∈ z0, ∃ (x : Bool) (v : Value) (z : List Nat), q = [.bool x, v] ∧ RawNat w v z) (hk0 : 0 ≤ k) (hk : k < 256) (hn0 : 0 ≤ n) (hn : n < 18446744073709551616) (hr0 : 0 ≤ r) (hr : r < 18446744073709551616)
    (h2 : IsRecs w qa ql qc 2 z1) (p2 : ∀ q ∈ z1, ∃ (x : Bool) (v : Value) (z : List Nat), q = [.bool x, v] ∧ RawNat w v z) (ht : t.size ≤ maxLen) (hs : s.size ≤ maxLen) (hsh : Shifts w) :
    Calls Tryz.prog 3 #[.agg #[.slice da dl dc, .int .u8 k], .agg #[.int .u64 n, .int .u64 r, .slice qa ql qc, .string t], .string s] w fun e w' => e = .returned (.bool true) ∧ Below w.heap.size w w' := by
  obtain ⟨k, rfl⟩ := Int.eq_ofNat_of_zero_le hk0
  obtain ⟨n, rfl⟩ := Int.eq_ofNat_of_zero_le hn0
  obtain ⟨r, rfl⟩ := Int.eq_ofNat_of_zero_le hr0
  obtain ⟨rs, hrs, hdl⟩ := rawInts_of h1 p1
  obtain ⟨qs, hqs, hql⟩ := rawInts_of h2 p2
  exact storeDraws_ok da dl dc rs k n r qa ql qc qs t s w hrs hqs (by omega) (by omega) (by omega) hsh hdl hql ht hs
end Go.Proofs.YtpnllalefpkcjaaGreatDoor.Store
