/-
law 29: small (which places are looked at); reference 25: Same, of what is the same.
law 29: same: a place is another one, normal.
Plain laws: what GetDraw and GetMark read of what PutDraw and PutMark tell.
Plain law: what GetMark reads of what PutMark tells.
GetDraw and GetMark of what PutDraw and PutMark tell; and of any text.
-/
import Derived.Test.YtpnllalefpkcjaaGreatDoorRefZint
import Derived.Test.YtpnllalefpkcjaaGreatDoorStoreMay
import Derived.Test.YtpnllalefpkcjaaGreatDoorStoreGet
import Derived.Test.YtpnllalefpkcjaaGreatDoorNatB
import Derived.Deep.RegionHeld3
import Derived.Test.YtpnllalefpkcjaaGreatDoorStoreGet3
import Derived.Test.YtpnllalefpkcjaaGreatDoorStoreGet4
namespace Go.Proofs.YtpnllalefpkcjaaGreatDoor.Store
open Go.RowKit Nat_

/-- A slice of integers as it came in: sign, slice of limbs, limbs. -/
def RawInts (w : World) (a : Option Addr) (len : Nat) (rs : List (Bool × Value × List Nat)) : Prop :=
  rs.length = len ∧ (∀ r ∈ rs, RawNat w r.2.1 r.2.2) ∧
    (0 < len → ∃ b off, a = some ⟨b, off, none⟩ ∧ b < w.heap.size ∧ ∀ i r, rs[i]? = some r → w.cell? ⟨b, off + i * 2, none⟩ = some (.bool r.1) ∧ w.cell? ⟨b, off + i * 2 + 1, none⟩ = some r.2.1)
theorem RawInts.below {w w' : World} {a : Option Addr} {len : Nat} {rs : List (Bool × Value × List Nat)} (h : RawInts w a len rs) (hb : Below w.heap.size w w') : RawInts w' a len rs := by
  refine ⟨h.1, fun r hr => (h.2.1 r hr).below hb (Nat.le_refl _), fun h0 => ?_⟩
  obtain ⟨b, off, ha, hbw, hc⟩ := h.2.2 h0
  exact ⟨b, off, ha, Nat.lt_of_lt_of_le hbw hb.size, fun i z hi => ⟨(hb.cell (p := ⟨b, off + i * 2, none⟩) hbw).trans (hc i z hi).1, (hb.cell (p := ⟨b, off + i * 2 + 1, none⟩) hbw).trans (hc i z hi).2⟩⟩
def valZ (r : Bool × Value × List Nat) : Bool × Value × Nat := (r.1, r.2.1, val r.2.2)
theorem RawInts.zs {w : World} {a : Option Addr} {len : Nat} {rs : List (Bool × Value × List Nat)} (h : RawInts w a len rs) (hs : ∀ r ∈ rs, r.2.2.length ≤ 4) : Zs w a len (rs.map valZ) := by
  obtain ⟨h1, h2, h3⟩ := h
  refine ⟨by simpa using h1, ?_, fun h0 => ?_⟩
  · intro z hz
    obtain ⟨r, hr, rfl⟩ := List.mem_map.1 hz
    have := hs r hr
    exact ⟨r.2.2, (h2 r hr).lb (by omega), rfl, by omega⟩
  · obtain ⟨b, off, ha, hb, hc⟩ := h3 h0
    refine ⟨b, off, ha, hb, fun i z hi => ?_⟩
    rw [List.getElem?_map] at hi
    cases hq : rs[i]? with
    | none => rw [hq] at hi; cases hi
    | some r =>
      rw [hq] at hi
      injection hi with hi
      subst hi
      exact hc i r hq
theorem nl_four {l : List Nat} (hl : ∀ x ∈ l, x < 18446744073709551616) (h : l.length ≤ 4) : nl (val l) ≤ 4 := by
  unfold nl
  rw [← trim_limbs l hl]
  exact Nat.le_trans (trim_le l) h
/-- What small tells: where it is true, there are at most 20 integers of at most 4 limbs each. -/
def SmallE (len : Nat) (rs : List (Bool × Value × List Nat)) (e : Ending) : Prop := ∃ b, e = .returned (.bool b) ∧ (b = true → len ≤ 20 ∧ ∀ r ∈ rs, r.2.2.length ≤ 4)
set_option maxHeartbeats 2000000 in
theorem small_any (a : Option Addr) (len cap : Nat) (rs : List (Bool × Value × List Nat)) (w : World) (h : RawInts w a len rs) (hlen : len ≤ maxLen) :
    Calls Tryz.prog 4 #[.slice a len cap] w fun e w' => SmallE len rs e ∧ w' = w := by
  unfold maxLen at hlen
  obtain ⟨h1, h2, h3⟩ := h
  by_cases hl : 20 < len
  · go_enter Tryz.func4, Tryz.ntmps4
    go_wp2
    go_ret
    exact ⟨⟨false, rfl, fun h => by cases h⟩, rfl⟩
  go_enter Tryz.func4, Tryz.ntmps4
  go_wp2
  go_loop [3] (fun i => ∃ j : Nat, j ≤ len ∧ i = .int .i64 (j : Int) ∧ Hid (∀ r ∈ rs.take j, r.2.2.length ≤ 4)) (fun i => len - (intOf i).toNat)
  case atStart => exact ⟨0, Nat.zero_le _, rfl, by intro r hr; simp at hr⟩
  case round =>
    obtain ⟨j, hj, rfl, HN⟩ := hrel
    by_cases hlt : j < len
    · have hjr : j < rs.length := by omega
      obtain ⟨b, off, rfl, hbw, hc⟩ := h3 (by omega)
      obtain ⟨-, c1⟩ := hc j _ (List.getElem?_eq_getElem hjr)
      obtain ⟨a', l', cap', e, g1, g2, g3, -, -⟩ := h2 _ (List.getElem_mem hjr)
      have e1 : rs.take (j + 1) = rs.take j ++ [rs[j]] := List.take_succ_eq_append_getElem hjr
      rw [e] at c1
      unfold maxLen at g3
      have HE := Lib.hid (And.intro e1 g1)
      clear e1 g1 e hc h1
      by_cases hL : 4 < l'
      · go_wp2
        go_ret
        exact ⟨⟨false, rfl, fun h => by cases h⟩, rfl⟩
      · go_wp2
        go_round
        case rel =>
          refine ⟨j + 1, by omega, by simp, ?_⟩
          intro r hr
          rw [HE.out.1] at hr
          rcases List.mem_append.1 hr with hr | hr
          · exact HN r hr
          · obtain rfl : r = rs[j] := by simpa using hr
            rw [HE.out.2]; omega
        case measure => simp [intOf]; omega
    · obtain rfl : j = len := by omega
      go_wp2
      go_ret
      exact ⟨⟨true, rfl, fun _ => ⟨by omega, fun r hr => HN r (by rw [List.take_of_length_le (by omega)]; exact hr)⟩⟩, rfl⟩

/-- A slice of integers in their normal forms. -/
def Nz (w : World) (a : Option Addr) (len : Nat) (zs : List (Bool × Value × Nat)) : Prop :=
  zs.length = len ∧ (∀ z ∈ zs, Lb w z.2.1 (limbs z.2.2) ∧ (z.1 = true → z.2.2 ≠ 0)) ∧
    (0 < len → ∃ b off, a = some ⟨b, off, none⟩ ∧ b < w.heap.size ∧ ∀ i z, zs[i]? = some z → w.cell? ⟨b, off + i * 2, none⟩ = some (.bool z.1) ∧ w.cell? ⟨b, off + i * 2 + 1, none⟩ = some z.2.1)
theorem Nz.below {w w' : World} {a : Option Addr} {len : Nat} {zs : List (Bool × Value × Nat)} (h : Nz w a len zs) (hb : Below w.heap.size w w') : Nz w' a len zs := by
  refine ⟨h.1, fun z hz => ⟨((h.2.1 z hz).1).below hb, (h.2.1 z hz).2⟩, fun h0 => ?_⟩
  obtain ⟨b, off, ha, hbw, hc⟩ := h.2.2 h0
  exact ⟨b, off, ha, Nat.lt_of_lt_of_le hbw hb.size, fun i z hi => ⟨(hb.cell (p := ⟨b, off + i * 2, none⟩) hbw).trans (hc i z hi).1, (hb.cell (p := ⟨b, off + i * 2 + 1, none⟩) hbw).trans (hc i z hi).2⟩⟩
set_option maxRecDepth 100000 in
set_option maxHeartbeats 4000000 in
theorem rows_same (a a' : Option Addr) (len cap cap' : Nat) (zs ys : List (Bool × Value × Nat)) (w : World) (h : Nz w a len zs) (h' : Nz w a' len ys) (hlen : len ≤ 1000000)
    (he : zs.map (fun z => (z.1, z.2.2)) = ys.map (fun z => (z.1, z.2.2))) :
    Calls Tryz.prog 31 #[.slice a len cap, .slice a' len cap'] w fun e w' => e = .returned (.bool true) ∧ Below w.heap.size w w' := by
  go_enter Tryz.func31, Tryz.ntmps31
  go_wp2
  go_loopw [5] (fun i wr => ∃ j : Nat, j ≤ len ∧ i = .int .i64 (j : Int) ∧ Below w.heap.size w wr) (fun i _ => len - (intOf i).toNat)
  case atStart => exact ⟨0, Nat.zero_le _, rfl, Below.refl _ _⟩
  case round =>
    obtain ⟨j, hj, rfl, hB⟩ := hrel
    by_cases hlt : j < len
    · have hjz : j < zs.length := by have := h.1; omega
      have hjy : j < ys.length := by have := h'.1; omega
      obtain ⟨b, off, rfl, hbw, hc⟩ := h.2.2 (by omega)
      obtain ⟨b', off', rfl, hbw', hc'⟩ := h'.2.2 (by omega)
      obtain ⟨c0, c1⟩ := hc j _ (List.getElem?_eq_getElem hjz)
      obtain ⟨d0, d1⟩ := hc' j _ (List.getElem?_eq_getElem hjy)
      obtain ⟨n1, n2⟩ := h.2.1 _ (List.getElem_mem hjz)
      obtain ⟨m1, -⟩ := h'.2.1 _ (List.getElem_mem hjy)
      have hq : (zs[j].1, zs[j].2.2) = (ys[j].1, ys[j].2.2) := by
        have := congrArg (fun l => l[j]?) he
        simpa [hjz, hjy] using this
      generalize zs[j] = z at *
      generalize ys[j] = y at *
      obtain ⟨zb, zv, zn⟩ := z
      obtain ⟨yb, yv, yn⟩ := y
      obtain ⟨rfl, rfl⟩ : zb = yb ∧ zn = yn := by simpa using hq
      simp only [] at c0 c1 d0 d1 n1 n2 m1
      have F := Lib.hid (fun W (hb : Below w.heap.size w W) => (show W.cell? ⟨b, off + j * 2, none⟩ = some (.bool zb) ∧ W.cell? ⟨b, off + j * 2 + 1, none⟩ = some zv ∧ W.cell? ⟨b', off' + j * 2, none⟩ = some (.bool zb) ∧ W.cell? ⟨b', off' + j * 2 + 1, none⟩ = some yv ∧ Below w.heap.size w W from
        ⟨(hb.cell (p := ⟨b, off + j * 2, none⟩) hbw).trans c0, (hb.cell (p := ⟨b, off + j * 2 + 1, none⟩) hbw).trans c1, (hb.cell (p := ⟨b', off' + j * 2, none⟩) hbw').trans d0, (hb.cell (p := ⟨b', off' + j * 2 + 1, none⟩) hbw').trans d1, hb⟩))
      have C := Lib.hid (fun W (hb : Below w.heap.size w W) => (rzsame_eq zb zv yv zn W (n1.below hb) (m1.below hb) n2).mono (fun e w' (h : e = .returned (.bool true) ∧ Below W.heap.size W w') => (show e = .returned (.bool true) ∧ Below w.heap.size w w' from ⟨h.1, hb.trans (h.2.mono hb.size)⟩)))
      have HB := Lib.hid hB
      have HBd := Lib.hid hB.drew
      clear hc hc' c0 c1 d0 d1 n1 n2 m1 hq he h h' hB
      obtain ⟨c0, c1, d0, d1, -⟩ := F.out _ HB.out
      have hbr : b < wr.heap.size := Nat.lt_of_lt_of_le hbw HB.out.size
      have hbr' : b' < wr.heap.size := Nat.lt_of_lt_of_le hbw' HB.out.size
      have hj1 : (0 : Int) ≤ (j : Int) ∧ (j : Int) < (len : Int) := by omega
      go_wp2_with fail
      go_region_held3 (fun W => W.cell? ⟨b, off + j * 2, none⟩ = some (.bool zb) ∧ W.cell? ⟨b, off + j * 2 + 1, none⟩ = some zv ∧ W.cell? ⟨b', off' + j * 2, none⟩ = some (.bool zb) ∧ W.cell? ⟨b', off' + j * 2 + 1, none⟩ = some yv ∧ Below w.heap.size w W) ((first | (exact F.out _ (by assumption)) | (exact F.out _ HB.out) | (exact F.out _ HBd.out)))
        (first
        | (go_at_call 51; (with_reducible refine (C.out _ (by first | assumption | (exact HB.out) | (exact HBd.out))).mono ?_); rintro e wn ⟨rfl, hBn⟩)
        | fail)
      go_wp2_with fail
      go_round
      case rel => exact ⟨j + 1, by omega, by simp, by first | exact hBn | exact hBn.drew⟩
      case measure => simp [intOf]; omega
    · obtain rfl : j = len := by omega
      go_wp2
      go_ret
      exact ⟨rfl, hB⟩
end Go.Proofs.YtpnllalefpkcjaaGreatDoor.Store

namespace Go.Proofs.YtpnllalefpkcjaaGreatDoor.Store
open Go.RowKit Nat_

theorem nz_row {w : World} {B : Nat} {v : Value} {zs : List (Bool × Value × Nat)} {e : TypeId} (h : w.ownsRow B e 2 v zs.length (flatZ zs)) (hz : ∀ z ∈ zs, NN B w z.2.1 z.2.2) (hs : ∀ z ∈ zs, z.1 = true → z.2.2 ≠ 0) : ∃ a cap, v = .slice a zs.length cap ∧ Nz w a zs.length zs := by
  obtain ⟨a, cap, e, hZ⟩ := zs_row h hz
  exact ⟨a, cap, e, hZ.1, fun z hzz => ⟨(hz z hzz).1.lb, hs z hzz⟩, hZ.2.2⟩
theorem zneg_ne {b : Bool} {n : Nat} (h : zneg b n = true) : n ≠ 0 := by
  unfold zneg at h
  simp at h
  exact h.2
set_option maxRecDepth 100000 in
set_option maxHeartbeats 4000000 in
theorem lawSame_any (a a' : Option Addr) (len cap cap' : Nat) (zs ys : List (Bool × Value × Nat)) (w : World) (h : Nz w a len zs) (h' : Zs w a' len ys) (hlen : len ≤ 1000)
    (he : zs.map (fun z => (z.1, z.2.2)) = ys.map (fun z => (zneg z.1 z.2.2, z.2.2))) :
    Calls Tryz.prog 11 #[.slice a len cap, .slice a' len cap'] w fun e w' => e = .returned (.bool true) ∧ Below w.heap.size w w' := by
  have HNz := Lib.hid h
  have HZs := Lib.hid h'
  have HE := Lib.hid he
  have hyl : ys.length = len := h'.1
  clear h h' he
  go_enter Tryz.func11, Tryz.ntmps11
  go_wp2
  go_loopw [5, 6] (fun q i wr => ∃ (j : Nat) (us : List (Bool × Value × Nat)), j ≤ len ∧ i = .int .i64 (j : Int) ∧ us.length = j ∧ wr.ownsRow w.heap.size 47 2 q us.length (flatZ us) ∧ Hid (∀ z ∈ us, NN w.heap.size wr z.2.1 z.2.2) ∧
      Hid (us.map (fun z => (z.1, z.2.2)) = (ys.take j).map (fun z => (zneg z.1 z.2.2, z.2.2))) ∧ Below w.heap.size w wr) (fun _ i _ => len - (intOf i).toNat)
  case atStart => exact ⟨0, [], Nat.zero_le _, rfl, rfl, World.ownsRow_nil _ _ _ _, by intro z hz; simp at hz, rfl, Below.refl _ _⟩
  case round =>
    obtain ⟨j, us, hj, rfl, hul, hrow, HZ, HM, hB⟩ := hrel
    obtain ⟨qa, qc, rfl⟩ := own_slice hrow
    have hsB := hB.size
    by_cases hlt : j < len
    · have hjy : j < ys.length := by omega
      obtain ⟨b, off, rfl, hbw, hc⟩ := (HZs.out.below hB).2.2 (by omega)
      obtain ⟨c0, c1⟩ := hc j _ (List.getElem?_eq_getElem hjy)
      have hnm := (HZs.out.below hB).2.1 _ (List.getElem_mem hjy)
      have e1 : ys.take (j + 1) = ys.take j ++ [ys[j]] := List.take_succ_eq_append_getElem hjy
      generalize ys[j] = y at *
      obtain ⟨yb, yv, yn⟩ := y
      simp only [] at c0 c1 hnm
      obtain ⟨ma, ml, mc, rfl, -, -, -⟩ := hnm.slice
      have C := Lib.hid (rznorm_any yb _ yn wr hnm)
      have HE1 := Lib.hid e1
      have HUL := Lib.hid hul
      have HYL := Lib.hid hyl
      clear hc hnm e1 hul hyl
      have hj1 : (0 : Int) ≤ (j : Int) ∧ (j : Int) < (len : Int) := by omega
      go_wp2_with fail
      refine C.out.mono ?_
      rintro e w1 ⟨a1, k1, rfl, hn1, hb1⟩
      have hrow1 := own_below hrow hb1
      have hB1 : Below w.heap.size w w1 := hB.trans (hb1.mono hsB)
      have hs1 := hB1.size
      have hu5 : us.length ≤ 1000000 := by rw [HUL.out]; omega
      go_wp2_with (at_builtin; refine app_int w1 rfl _ _ rfl w.heap.size (.slice qa us.length qc) us.length (flatZ us) (zneg yb yn) a1 (nl yn) k1 rfl hrow1 w1.heap.size rfl rfl hu5 hs1 ?_; intro g' cap' w2 hrow2 hgr2 hb2)
      have hgr3 : (w1.alloc (.cells #[.bool (zneg yb yn), .slice a1 (nl yn) k1] 47)).grownBy w2 (Value.slice qa us.length qc).ownBlock := hgr2
      have hz2 : ∀ z ∈ us, NN w.heap.size w2 z.2.1 z.2.2 := by
        intro z hz
        have z1 := (HZ.out z hz).below hb1
        exact nn_row (nn_alloc z1 _) hgr3 (nn_ne z1 hrow1)
      have hy2 : NN w.heap.size w2 (.slice a1 (nl yn) k1) yn := by
        have z1 : NN w.heap.size w1 (.slice a1 (nl yn) k1) yn := hn1.ge hsB
        exact nn_row (nn_alloc z1 _) hgr3 (nn_ne z1 hrow1)
      have hfl : flatZ us ++ [.bool (zneg yb yn), .slice a1 (nl yn) k1] = flatZ (us ++ [(zneg yb yn, .slice a1 (nl yn) k1, yn)]) := (flatZ_snoc us (zneg yb yn, .slice a1 (nl yn) k1, yn)).symm
      have hln : us.length + 1 = (us ++ [(zneg yb yn, Value.slice a1 (nl yn) k1, yn)]).length := by simp
      rw [hfl] at hrow2
      go_wp2_with fail
      go_round
      case rel =>
        refine ⟨j + 1, us ++ [(zneg yb yn, .slice a1 (nl yn) k1, yn)], by omega, by simp, by rw [← hln, HUL.out], ?_, ?_, ?_, hB1.trans hb2⟩
        · rw [← hln]; exact hrow2
        · intro z hz
          rcases List.mem_append.1 hz with hz | hz
          · exact hz2 z hz
          · obtain rfl : z = _ := by simpa using hz
            exact hy2
        · show _ = _
          rw [HE1.out, List.map_append, List.map_append, HM.out]
          rfl
      case measure => simp [intOf]; omega
    · obtain rfl : j = len := by omega
      have hs : ∀ z ∈ us, z.1 = true → z.2.2 ≠ 0 := by
        intro z hz h1
        have : (z.1, z.2.2) ∈ us.map (fun z => (z.1, z.2.2)) := List.mem_map.2 ⟨z, hz, rfl⟩
        rw [HM.out] at this
        obtain ⟨y, -, hy⟩ := List.mem_map.1 this
        obtain ⟨y1, y2⟩ : zneg y.1 y.2.2 = z.1 ∧ y.2.2 = z.2.2 := by simpa using hy
        rw [h1] at y1
        rw [← y2]
        exact zneg_ne y1
      obtain ⟨a2, c2, e2, hN⟩ := nz_row hrow HZ.out hs
      obtain ⟨rfl, rfl⟩ : qa = a2 ∧ qc = c2 := by simpa using e2
      have HM2 := HM.out
      rw [List.take_of_length_le (by omega)] at HM2
      subst hul
      have C := Lib.hid (rows_same a qa us.length cap qc zs us wr (HNz.out.below hB) hN (by omega) (HE.out.trans HM2.symm))
      clear HM2 hs e2
      go_wp2_with fail
      refine C.out.mono ?_
      rintro e w1 ⟨rfl, hb1⟩
      go_wp2_with fail
      go_ret
      exact ⟨rfl, hB.trans (hb1.mono hsB)⟩
end Go.Proofs.YtpnllalefpkcjaaGreatDoor.Store

namespace Go.Proofs.YtpnllalefpkcjaaGreatDoor.Store
open Go.RowKit Nat_ Notch

theorem s_bytes_eq {a b : ByteArray} (h : a.data.toList = b.data.toList) : a = b := ByteArray.ext (Array.ext' h)
theorem s_numR_enc (s : ByteArray) (n : Nat) (r : List UInt8) (hn : n < 18446744073709551616) (h : s.data.toList = encL n ++ r) : numR s false = (n, ⟨r.toArray⟩, false) := by
  unfold numR
  rw [if_neg (by decide), h, readN_enc n hn r]
theorem s_textR_enc (s x : ByteArray) (r : List UInt8) (m : Nat) (hm : x.size ≤ m) (hx : x.size < 18446744073709551616) (h : s.data.toList = encT x.data.toList ++ r) : textR s false (m : Int) = (x, ⟨r.toArray⟩, false) := by
  have h1 : s.data.toList = encL x.size ++ (x.data.toList ++ r) := by
    rw [h, encT, size_list, List.append_assoc]
  have h2 := s_numR_enc s x.size _ hx h1
  have hz : (⟨(x.data.toList ++ r).toArray⟩ : ByteArray).size = x.size + r.length := by
    show (x.data.toList ++ r).toArray.size = _
    rw [List.size_toArray, List.length_append, size_list]
  unfold textR
  rw [h2]
  show (if (false = true) then _ else if (m : Int) < 0 ∨ (m : Int) < (x.size : Int) ∨ (⟨(x.data.toList ++ r).toArray⟩ : ByteArray).size < x.size then _ else _) = _
  rw [if_neg (by decide), if_neg (by omega)]
  have e1 : (ByteArray.extract ⟨(x.data.toList ++ r).toArray⟩ 0 x.size) = x := by
    rw [of_toList x _ rfl]
    refine of_toList _ _ ?_
    rw [ex_take]
    exact List.take_left' (by rw [size_list])
  have e2 : (ByteArray.extract ⟨(x.data.toList ++ r).toArray⟩ x.size (⟨(x.data.toList ++ r).toArray⟩ : ByteArray).size) = ⟨r.toArray⟩ := by
    refine of_toList _ _ ?_
    rw [ex_drop]
    exact List.drop_left' (by rw [size_list])
  exact Prod.ext e1 (Prod.ext e2 rfl)
theorem trim_minus (l : List UInt8) : Lib.trimPrefix (45 :: l) [45] = l ∧ Lib.hasPrefix (45 :: l) [45] = true := by
  constructor
  · simp [Lib.trimPrefix, Lib.hasPrefix]
  · simp [Lib.hasPrefix]
theorem trim_digs (l : List UInt8) (h : ∀ c ∈ l, isDig c = true) : Lib.trimPrefix l [45] = l ∧ Lib.hasPrefix l [45] = false := by
  have hp : Lib.hasPrefix l [45] = false := by
    cases l with
    | nil => simp [Lib.hasPrefix]
    | cons c r =>
      have hc : c ≠ 45 := by
        rintro rfl
        have := h 45 List.mem_cons_self
        exact absurd this (by decide)
      show ((45 : UInt8) == c && ([] : List UInt8).isPrefixOf r) = false
      rw [beq_eq_false_iff_ne.2 (fun h => hc h.symm)]
      rfl
  refine ⟨?_, hp⟩
  simp [Lib.trimPrefix, hp]
theorem zparV_decs (b : Bool) (n : Nat) (h : nl n ≤ 64) : zparV (zdecs b n) = (zneg b n, n) := by
  have hlim : n < Lim := (nl_iff n).1 (by omega)
  have hlen : (decs n).length ≤ 40000 := by
    have := zdecs_len false n h
    unfold zdecs at this
    simp only [Bool.false_and, Bool.false_eq_true, if_false] at this
    omega
  unfold zdecs zneg
  by_cases hc : (b && decide (n ≠ 0)) = true
  · rw [if_pos hc, hc]
    obtain ⟨t1, t2⟩ := trim_minus (decs n)
    unfold zparV
    rw [t1, t2, if_pos ⟨hlen, decs_ne n, decs_digs n, by rw [parse_decs]; exact hlim⟩, parse_decs]
    simp at hc
    simp [hc.2]
  · rw [if_neg hc]
    have hc' : (b && decide (n ≠ 0)) = false := by simpa using hc
    rw [hc']
    obtain ⟨t1, t2⟩ := trim_digs (decs n) (decs_digs n)
    unfold zparV
    rw [t1, t2, if_pos ⟨hlen, decs_ne n, decs_digs n, by rw [parse_decs]; exact hlim⟩, parse_decs]
    simp
def normZ (z : Bool × Nat) : Bool × Nat := (zneg z.1 z.2, z.2)
theorem zdecs_norm (b : Bool) (n : Nat) : zdecs (zneg b n) n = zdecs b n := by
  unfold zdecs zneg
  cases b <;> by_cases h : n = 0 <;> simp [h]
theorem placeF_enc (rest : List UInt8) : ∀ (l : List (Bool × Nat)) (s : ByteArray), (∀ z ∈ l, nl z.2 ≤ 64) → s.data.toList = (l.flatMap fun z => encT (zdecs z.1 z.2)) ++ rest → placeF l.length s false = (l.map normZ, ⟨rest.toArray⟩, false)
  | [], s, _, h => by
    have : s = ⟨rest.toArray⟩ := s_bytes_eq (by rw [h]; simp)
    rw [this]
    rfl
  | z :: l, s, hz, h => by
    have h1 := hz z List.mem_cons_self
    have hl := zdecs_len z.1 z.2 h1
    have hs : (⟨(zdecs z.1 z.2).toArray⟩ : ByteArray).size = (zdecs z.1 z.2).length := by rw [← size_list]
    have ht : textR s false 65536 = _ := s_textR_enc s ⟨(zdecs z.1 z.2).toArray⟩ ((l.flatMap fun z => encT (zdecs z.1 z.2)) ++ rest) 65536 (by rw [hs]; omega) (by rw [hs]; omega) (by rw [h]; simp)
    rw [List.length_cons, placeF_succ, ht]
    rw [placeF_enc rest l ⟨_⟩ (fun y hy => hz y (List.mem_cons_of_mem _ hy)) rfl]
    simp only [List.map_cons]
    rw [zparV_decs _ _ h1]
    rfl
theorem placeR_enc (l : List (Bool × Nat)) (s : ByteArray) (rest : List UInt8) (hl : l.length ≤ 200) (hz : ∀ z ∈ l, nl z.2 ≤ 64) (h : s.data.toList = (encL l.length ++ l.flatMap fun z => encT (zdecs z.1 z.2)) ++ rest) :
    placeR s false = (l.map normZ, ⟨rest.toArray⟩, false) := by
  have hn := s_numR_enc s l.length _ (by omega) (by rw [h, List.append_assoc])
  unfold placeR
  rw [hn]
  simp only []
  rw [if_neg (by omega)]
  exact placeF_enc rest l _ hz rfl
theorem flat_norm (l : List (Bool × Nat)) : ((l.map normZ).flatMap fun z => encT (zdecs z.1 z.2)) = l.flatMap fun z => encT (zdecs z.1 z.2) := by
  induction l with
  | nil => rfl
  | cons z l ih =>
    rw [List.map_cons, List.flatMap_cons, List.flatMap_cons, ih]
    show encT (zdecs (zneg z.1 z.2) z.2) ++ _ = _
    rw [zdecs_norm]
theorem s_encB_list (n : Nat) : (encB [n]).data.toList = encL n := by simp [encB, encAll]
/-- What GetDraw reads of what PutDraw tells. -/
theorem draw_trip (k : Nat) (l : List (Bool × Nat)) (T : ByteArray) (hk : k < 256) (h : drawW k l = (T, 0)) :
    (numR T false).1 % 256 = k ∧ (placeR (numR T false).2.1 (numR T false).2.2).1 = l.map normZ ∧ drawW ((numR T false).1 % 256) (placeR (numR T false).2.1 (numR T false).2.2).1 = (T, 0) ∧ T.size ≤ 65536 := by
  unfold drawW at h
  split at h
  · exact absurd (show (2 : Int) = 0 from congrArg Prod.snd h) (by decide)
  rename_i hc
  split at h
  · exact absurd (show (3 : Int) = 0 from congrArg Prod.snd h) (by decide)
  rename_i hsz
  have hT : T = _ := (congrArg Prod.fst h).symm
  simp only at hT
  have hq := hc
  have hml : l.length ≤ 200 ∧ ∀ z ∈ l, nl z.2 ≤ 64 := by
    by_cases h9 : l.length ≤ 200 ∧ ∀ z ∈ l, nl z.2 ≤ 64
    · exact h9
    · exact absurd (.inr h9) hc
  have hlist : T.data.toList = encL k ++ (encL l.length ++ l.flatMap fun z => encT (zdecs z.1 z.2)) := by
    rw [hT]
    simp [s_encB_list, txtB]
  have hn := s_numR_enc T k _ (by omega) hlist
  have hp := placeR_enc l ⟨(encL l.length ++ l.flatMap fun z => encT (zdecs z.1 z.2)).toArray⟩ [] hml.1 hml.2 (by simp)
  rw [hn]
  simp only []
  rw [hp]
  simp only []
  rw [Nat.mod_eq_of_lt hk]
  have hTs : T.size ≤ 65536 := by rw [hT]; exact Nat.le_of_not_lt hsz
  refine ⟨by trivial, by trivial, ?_, hTs⟩
  unfold drawW
  have hm' : ¬ (3 < k ∨ ¬ ((l.map normZ).length ≤ 200 ∧ ∀ z ∈ l.map normZ, nl z.2 ≤ 64)) := by
    intro h9
    refine hc (h9.imp id fun h8 h7 => h8 ⟨by simpa using h7.1, fun z hz => ?_⟩)
    obtain ⟨y, hy, rfl⟩ := List.mem_map.1 hz
    exact h7.2 y hy
  rw [if_neg hm', List.length_map, flat_norm, if_neg hsz, ← hT]
end Go.Proofs.YtpnllalefpkcjaaGreatDoor.Store

namespace Go.Proofs.YtpnllalefpkcjaaGreatDoor.Store
open Go.RowKit Nat_ Notch

theorem mark_trip (n r : Nat) (l : List (Bool × Nat)) (t T : ByteArray) (hn : n < 18446744073709551616) (hr : r < 18446744073709551616) (h : markW n r l t = (T, 0)) :
    readM T = (n, r, l.map normZ, t) ∧ markW n r (l.map normZ) t = (T, 0) ∧ T.size ≤ 65536 := by
  unfold markW at h
  split at h
  · exact absurd (show (2 : Int) = 0 from congrArg Prod.snd h) (by decide)
  rename_i hc
  split at h
  · exact absurd (show (3 : Int) = 0 from congrArg Prod.snd h) (by decide)
  rename_i hsz
  have hT : T = markL n r l t := (congrArg Prod.fst h).symm
  have hml : l.length ≤ 200 ∧ ∀ z ∈ l, nl z.2 ≤ 64 := by
    by_cases h9 : l.length ≤ 200 ∧ ∀ z ∈ l, nl z.2 ≤ 64
    · exact h9
    · exact absurd h9 hc
  have hTs : T.size ≤ 65536 := by rw [hT]; exact Nat.le_of_not_lt hsz
  have hlist : T.data.toList = encL n ++ (encL r ++ ((encL l.length ++ l.flatMap fun z => encT (zdecs z.1 z.2)) ++ encT t.data.toList)) := by
    rw [hT]
    simp [markL, s_encB_list, txtB, Notch.textB]
  have hts : t.size ≤ 65536 := by
    have := congrArg List.length hlist
    rw [size_list] at this
    simp only [List.length_append, encT, size_list] at this
    omega
  have h1 := s_numR_enc T n _ hn hlist
  have h2 := s_numR_enc ⟨(encL r ++ ((encL l.length ++ l.flatMap fun z => encT (zdecs z.1 z.2)) ++ encT t.data.toList)).toArray⟩ r ((encL l.length ++ l.flatMap fun z => encT (zdecs z.1 z.2)) ++ encT t.data.toList) hr (by simp)
  have h3 := placeR_enc l ⟨((encL l.length ++ l.flatMap fun z => encT (zdecs z.1 z.2)) ++ encT t.data.toList).toArray⟩ (encT t.data.toList) hml.1 hml.2 (by simp)
  have h4 : textR ⟨(encT t.data.toList).toArray⟩ false 65536 = _ := s_textR_enc ⟨(encT t.data.toList).toArray⟩ t [] 65536 hts (by omega) (by simp)
  refine ⟨?_, ?_, hTs⟩
  · unfold readM
    rw [h1]
    simp only []
    rw [h2]
    simp only []
    rw [h3]
    simp only []
    rw [h4]
  · have e : markL n r (l.map normZ) t = markL n r l t := by
      unfold markL
      rw [List.length_map, flat_norm]
    unfold markW
    have hm' : ¬ ¬ ((l.map normZ).length ≤ 200 ∧ ∀ z ∈ l.map normZ, nl z.2 ≤ 64) := by
      intro h9
      refine h9 ⟨by simpa using hml.1, fun z hz => ?_⟩
      obtain ⟨y, hy, rfl⟩ := List.mem_map.1 hz
      exact hml.2 y hy
    rw [if_neg hm', e, if_neg hsz, ← hT]
end Go.Proofs.YtpnllalefpkcjaaGreatDoor.Store

namespace Go.Proofs.YtpnllalefpkcjaaGreatDoor.Store
open Go.RowKit Nat_ Notch

theorem nz_of {w : World} {B : Nat} {v : Value} {zs : List (Bool × Value × Nat)} {l : List (Bool × Nat)} {e : TypeId} (h : w.ownsRow B e 2 v zs.length (flatZ zs)) (hz : ∀ z ∈ zs, NN B w z.2.1 z.2.2) (hm : zs.map (fun z => (z.1, z.2.2)) = l.map normZ) :
    ∃ a cap, v = .slice a zs.length cap ∧ Nz w a zs.length zs := by
  refine nz_row h hz fun z hz h1 => ?_
  have : (z.1, z.2.2) ∈ zs.map (fun z => (z.1, z.2.2)) := List.mem_map.2 ⟨z, hz, rfl⟩
  rw [hm] at this
  obtain ⟨y, -, hy⟩ := List.mem_map.1 this
  obtain ⟨y1, y2⟩ : zneg y.1 y.2 = z.1 ∧ y.2 = z.2.2 := by simpa [normZ] using hy
  rw [h1] at y1
  rw [← y2]
  exact zneg_ne y1
theorem getDraw_back (k : Nat) (L : List (Bool × Nat)) (T : ByteArray) (w : World) (hk : k < 256) (h : drawW k L = (T, 0)) :
    Calls Tryz.prog 10 #[.string T] w fun e w' => ∃ a c us, e = .returned (.tuple #[.agg #[.slice a us.length c, .int .u8 (k : Int)], .int .i64 0]) ∧ Nz w' a us.length us ∧ us.map (fun z => (z.1, z.2.2)) = L.map normZ ∧ us.length ≤ 200 ∧ Below w.heap.size w w' := by
  obtain ⟨h1, h2, h3, h4⟩ := draw_trip k L T hk h
  refine (getDraw_any T w (by omega)).mono ?_
  rintro e w' ⟨⟨-, v, us, rfl, hrow, hnn, hmap, hul⟩ | ⟨hne, -⟩, hb⟩
  · rw [h2] at hmap
    obtain ⟨a, c, rfl, hN⟩ := nz_of hrow hnn hmap
    exact ⟨a, c, us, by rw [h1], hN, hmap, hul, hb⟩
  · exact absurd h3 hne
theorem getMark_back (n r : Nat) (L : List (Bool × Nat)) (t T : ByteArray) (w : World) (hn : n < 18446744073709551616) (hr : r < 18446744073709551616) (h : markW n r L t = (T, 0)) :
    Calls Tryz.prog 12 #[.string T] w fun e w' => ∃ a c us, e = .returned (.tuple #[.agg #[.int .u64 (n : Int), .int .u64 (r : Int), .slice a us.length c, .string t], .int .i64 0]) ∧ Nz w' a us.length us ∧ us.map (fun z => (z.1, z.2.2)) = L.map normZ ∧ us.length ≤ 200 ∧ Below w.heap.size w w' := by
  obtain ⟨h1, h3, h4⟩ := mark_trip n r L t T hn hr h
  refine (getMark_any T w (by omega)).mono ?_
  rw [h1]
  rintro e w' ⟨⟨-, v, us, rfl, hrow, hnn, hmap, hul⟩ | ⟨hne, -⟩, hb⟩
  · obtain ⟨a, c, rfl, hN⟩ := nz_of hrow hnn hmap
    exact ⟨a, c, us, rfl, hN, hmap, hul, hb⟩
  · exact absurd h3 hne
theorem getDraw_put (s : ByteArray) (w : World) (hs : s.size ≤ 1000000) :
    Calls Tryz.prog 10 #[.string s] w fun e w' => ((∃ (k : Nat) (a : Option Addr) (c : Nat) (us : List (Bool × Value × Nat)), k < 256 ∧ e = .returned (.tuple #[.agg #[.slice a us.length c, .int .u8 (k : Int)], .int .i64 0]) ∧ Zs w' a us.length us ∧ drawW k (us.map fun z => (z.1, z.2.2)) = (s, 0) ∧ us.length ≤ 200) ∨
      e = .returned (.tuple #[.agg #[.slice none 0 0, .int .u8 0], .int .i64 5])) ∧ Below w.heap.size w w' := by
  refine (getDraw_any s w hs).mono ?_
  rintro e w' ⟨⟨hc, v, us, rfl, hrow, hnn, hmap, hul⟩ | ⟨-, rfl⟩, hb⟩
  · obtain ⟨a, c, rfl, hZ⟩ := zs_row hrow hnn
    rw [← hmap] at hc
    exact ⟨.inl ⟨_, a, c, us, Nat.mod_lt _ (by decide), rfl, hZ, hc, hul⟩, hb⟩
  · exact ⟨.inr rfl, hb⟩
theorem getMark_put (s : ByteArray) (w : World) (hs : s.size ≤ 1000000) :
    Calls Tryz.prog 12 #[.string s] w fun e w' => ((∃ (n r : Nat) (a : Option Addr) (c : Nat) (us : List (Bool × Value × Nat)) (t : ByteArray), n < 18446744073709551616 ∧ r < 18446744073709551616 ∧ e = .returned (.tuple #[.agg #[.int .u64 (n : Int), .int .u64 (r : Int), .slice a us.length c, .string t], .int .i64 0]) ∧ Zs w' a us.length us ∧ markW n r (us.map fun z => (z.1, z.2.2)) t = (s, 0) ∧ us.length ≤ 200) ∨
      e = .returned (.tuple #[.agg #[.int .u64 0, .int .u64 0, .slice none 0 0, .string ByteArray.empty], .int .i64 5])) ∧ Below w.heap.size w w' := by
  refine (getMark_any s w hs).mono ?_
  rintro e w' ⟨⟨hc, v, us, rfl, hrow, hnn, hmap, hul⟩ | ⟨-, rfl⟩, hb⟩
  · obtain ⟨a, c, rfl, hZ⟩ := zs_row hrow hnn
    rw [← hmap] at hc
    refine ⟨.inl ⟨_, _, a, c, us, _, (numR_bd s false).1, ?_, rfl, hZ, hc, hul⟩, hb⟩
    exact (numR_bd _ _).1
  · exact ⟨.inr rfl, hb⟩
end Go.Proofs.YtpnllalefpkcjaaGreatDoor.Store
