/-
Contract of the reference's PutMark.
-/
import Derived.Test.YtpnllalefpkcjaaGreatDoorStoreRDraw
import Derived.Deep.RegionHeld3
namespace Go.Proofs.YtpnllalefpkcjaaGreatDoor.Store
open Go.RowKit Nat_

def markB (n r : Nat) (zs : List (Bool × Value × Nat)) (t : ByteArray) : ByteArray := Notch.encB [n] ++ Notch.encB [r] ++ txtB (placeL zs) ++ Notch.textB t
def markV (n r : Nat) (zs : List (Bool × Value × Nat)) (t : ByteArray) : Value :=
  if mayB zs = false then .tuple #[.string ByteArray.empty, .int .i64 2] else toldV (markB n r zs t)
set_option maxRecDepth 100000 in
set_option maxHeartbeats 4000000 in
theorem rputMark_any (n r : Nat) (a : Option Addr) (len cap : Nat) (zs : List (Bool × Value × Nat)) (t : ByteArray) (w : World) (hn : n < 18446744073709551616) (hr : r < 18446744073709551616) (h : Zs w a len zs) (hlen : len ≤ 1000000) (ht : t.size ≤ 100000) :
    Calls Tryz.prog 9 #[.agg #[.int .u64 (n : Int), .int .u64 (r : Int), .slice a len cap, .string t]] w fun e w' => e = .returned (markV n r zs t) ∧ Below w.heap.size w w' := by
  unfold markV
  have hal := (Below.refl w.heap.size w).alloc (Nat.le_refl _) (.cells #[.int .u64 (n : Int), .int .u64 (r : Int), .slice a len cap, .string t] 28)
  have hm := rmay_any a len cap zs _ (h.below hal) hlen
  cases hmb : mayB zs with
  | false =>
    rw [if_pos rfl]
    rw [hmb] at hm
    have HM := Lib.hid hm
    clear hm hn hr
    go_enter Tryz.func9, Tryz.ntmps9
    go_wp2_with fail
    refine HM.out.mono ?_
    rintro e w1 ⟨rfl, hb⟩
    go_wp2_with fail
    go_ret2
    exact ⟨rfl, hal.trans (hb.mono (by simp))⟩
  | true =>
    rw [if_neg (by simp)]
    rw [hmb] at hm
    have HM := Lib.hid hm
    clear hm
    unfold mayB at hmb
    rw [Bool.and_eq_true, List.all_eq_true] at hmb
    obtain ⟨m1, m2⟩ := hmb
    have hl200 : len ≤ 200 := by have := of_decide_eq_true m1; have := h.1; omega
    have hz64 : ∀ z ∈ zs, nl z.2.2 ≤ 64 := fun z hz => of_decide_eq_true (m2 z hz)
    clear m1 m2
    have hz1 := Notch.encB_size n hn
    have hz1' := Notch.encB_size r hr
    have hz2 : (txtB (placeL zs)).size ≤ 1000000 := by
      show (placeL zs).toArray.size ≤ _
      rw [List.size_toArray]
      have := place_len zs (by have := h.1; omega) hz64
      have := h.1
      omega
    have hz3 := textB_size t (by omega)
    have hnum0 := fun W => Notch.refNum_any (n : Int) W (by omega) (by omega)
    have hnum1 := fun W => Notch.refNum_any (r : Int) W (by omega) (by omega)
    rw [Int.toNat_natCast, Notch.numB_eq] at hnum0 hnum1
    have hpl0 := fun W (hb : Below w.heap.size w W) => rplace_any a len cap zs W (h.below hb) hl200 hz64
    have htx0 := fun W => Notch.refText_any t W (by omega)
    unfold markB
    obtain ⟨x, hx⟩ : ∃ x, Notch.encB [n] = x := ⟨_, rfl⟩
    obtain ⟨x', hx'⟩ : ∃ x', Notch.encB [r] = x' := ⟨_, rfl⟩
    obtain ⟨y, hy⟩ : ∃ y, txtB (placeL zs) = y := ⟨_, rfl⟩
    obtain ⟨u, hu⟩ : ∃ u, Notch.textB t = u := ⟨_, rfl⟩
    rw [hx, hx', hy, hu]
    rw [hx] at hz1 hnum0
    rw [hx'] at hz1' hnum1
    rw [hy] at hz2 hpl0
    rw [hu] at hz3 htx0
    have HN0 := Lib.hid hnum0
    have HN1 := Lib.hid hnum1
    have HP0 := Lib.hid hpl0
    have HT0 := Lib.hid htx0
    have HAL := Lib.hid hal
    clear hnum0 hnum1 hpl0 htx0 hx hx' hy hu h hal hn hr
    obtain ⟨z1, hz1e⟩ : ∃ z, x ++ x' = z := ⟨_, rfl⟩
    rw [hz1e]
    obtain ⟨z2, hz2e⟩ : ∃ z, z1 ++ y = z := ⟨_, rfl⟩
    rw [hz2e]
    obtain ⟨z, hz⟩ : ∃ z, z2 ++ u = z := ⟨_, rfl⟩
    rw [hz]
    have hzs1 : z1.size ≤ 18 := by rw [← hz1e, ByteArray.size_append]; omega
    have hzs2 : z2.size ≤ 1000018 := by rw [← hz2e, ByteArray.size_append]; omega
    have hzs : z.size ≤ 1200000 := by rw [← hz, ByteArray.size_append]; omega
    obtain ⟨G, hG⟩ : ∃ G, w.heap.size = G := ⟨_, rfl⟩
    have HG := Lib.hid hG
    go_enter Tryz.func9, Tryz.ntmps9
    go_wp2_with fail
    clear hG
    refine HM.out.mono ?_
    rintro e w0 ⟨rfl, hb⟩
    have hB0 : Below w.heap.size w w0 := HAL.out.trans (hb.mono (by simp))
    have hblk : Blk w0 G 28 [.int .u64 (n : Int), .int .u64 (r : Int), .slice a len cap, .string t] := by
      rw [← HG.out]
      exact Blk.below (Blk.new w _ [_, _, _, _]) hb (by simp)
    have hF : ∀ W, Below w0.heap.size w0 W → W.cell? ⟨G, 0, none⟩ = some (.int .u64 (n : Int)) ∧ W.cell? ⟨G, 1, none⟩ = some (.int .u64 (r : Int)) ∧ W.cell? ⟨G, 2, none⟩ = some (.slice a len cap) ∧ W.cell? ⟨G, 3, none⟩ = some (.string t) ∧ G < W.heap.size ∧ Below w.heap.size w W := fun W hb => by
      have := hblk.below hb hblk.lt
      exact ⟨this.cell 0, this.cell 1, this.cell 2, this.cell 3, this.lt, bel_tr hB0 hb⟩
    have F := Lib.hid hF
    have hBd : Below w0.heap.size w0 w0.drew := (Below.refl _ _).drew
    clear hb hF hblk hB0
    have F1 := Lib.hid (fun W (hb : Below w0.heap.size w0 W) => (HN0.out W).mono (fun e w' (h : e = .returned (.string x) ∧ Below W.heap.size W w') => (show e = .returned (.string x) ∧ Below w0.heap.size w0 w' from ⟨h.1, bel_tr hb h.2⟩)))
    have F1' := Lib.hid (fun W (hb : Below w0.heap.size w0 W) => (HN1.out W).mono (fun e w' (h : e = .returned (.string x') ∧ Below W.heap.size W w') => (show e = .returned (.string x') ∧ Below w0.heap.size w0 w' from ⟨h.1, bel_tr hb h.2⟩)))
    have F2 := Lib.hid (fun W (hb : Below w0.heap.size w0 W) => (HP0.out W (F.out W hb).2.2.2.2.2).mono (fun e w' (h : e = .returned (.string y) ∧ Below W.heap.size W w') => (show e = .returned (.string y) ∧ Below w0.heap.size w0 w' from ⟨h.1, bel_tr hb h.2⟩)))
    have F3 := Lib.hid (fun W (hb : Below w0.heap.size w0 W) => (HT0.out W).mono (fun e w' (h : e = .returned (.string u) ∧ Below W.heap.size W w') => (show e = .returned (.string u) ∧ Below w0.heap.size w0 w' from ⟨h.1, bel_tr hb h.2⟩)))
    obtain ⟨c0, c1, c2, c3, c4, -⟩ := F.out _ (Below.refl _ _)
    obtain ⟨d0, d1, d2, d3, d4, -⟩ := F.out _ hBd
    have hret : toldV z = .tuple #[.string (if 65536 < z.size then ByteArray.empty else z), .int .i64 (if 65536 < z.size then 3 else 0)] := by
      unfold toldV
      split <;> rfl
    have HRET := Lib.hid hret
    clear hret
    go_wp2_with fail
    have HSF := Lib.hid (fun W (hb : Below w0.heap.size w0 W) => (show W.cell? ⟨G, 0, none⟩ = some (.int .u64 (n : Int)) ∧ W.cell? ⟨G, 1, none⟩ = some (.int .u64 (r : Int)) ∧ W.cell? ⟨G, 2, none⟩ = some (.slice a len cap) ∧ W.cell? ⟨G, 3, none⟩ = some (.string t) ∧ Below w0.heap.size w0 W from by
      obtain ⟨a0, a1, a2, a3, -, -⟩ := F.out W hb
      exact ⟨a0, a1, a2, a3, hb⟩))
    have hcat1 : ¬ 9223372036854775807 < x.size + x'.size := by omega
    have hcat2 : ¬ 9223372036854775807 < z1.size + y.size := by omega
    have hcat3 : ¬ 9223372036854775807 < z2.size + u.size := by omega
    go_region_held3 (fun W => W.cell? ⟨G, 0, none⟩ = some (.int .u64 (n : Int)) ∧ W.cell? ⟨G, 1, none⟩ = some (.int .u64 (r : Int)) ∧ W.cell? ⟨G, 2, none⟩ = some (.slice a len cap) ∧ W.cell? ⟨G, 3, none⟩ = some (.string t) ∧ Below w0.heap.size w0 W) ((first | (exact HSF.out _ (by assumption)) | (exact HSF.out _ hBd) | (exact HSF.out _ (Below.refl _ _))))
      (first
      | (go_at_call 23; (with_reducible refine (F1.out _ (by first | assumption | (exact Below.refl _ _))).mono ?_); rintro e wn ⟨rfl, hBn⟩)
      | (go_at_call 23; (with_reducible refine (F1'.out _ (by first | assumption | (exact Below.refl _ _))).mono ?_); rintro e wr ⟨rfl, hBr⟩)
      | (go_at_call 24; (with_reducible refine (F2.out _ (by first | assumption | (exact Below.refl _ _))).mono ?_); rintro e wt ⟨rfl, hBt⟩)
      | (go_at_call 26; (with_reducible refine (F3.out _ (by first | assumption | (exact Below.refl _ _))).mono ?_); rintro e wu ⟨rfl, hBu⟩))
    have hfin : Below w.heap.size w wu := (F.out _ hBu).2.2.2.2.2
    clear F F1 F1' F2 F3 HSF
    by_cases hbig : 65536 < z.size
    · rw [if_pos hbig, if_pos hbig] at HRET
      go_wp2_with fail
      go_ret2
      rw [HRET.out]
      exact ⟨rfl, by first | exact hfin | exact hfin.drew⟩
    · rw [if_neg hbig, if_neg hbig] at HRET
      go_wp2_with fail
      go_ret2
      rw [HRET.out]
      exact ⟨rfl, by first | exact hfin | exact hfin.drew⟩
end Go.Proofs.YtpnllalefpkcjaaGreatDoor.Store
