/-
Contract of the reference's PutDraw.
-/
import Derived.Test.YtpnllalefpkcjaaGreatDoorStoreRPlace
import Derived.Test.YtpnllalefpkcjaaGreatDoorStoreDraw
namespace Go.Proofs.YtpnllalefpkcjaaGreatDoor.Store
open Go.RowKit Nat_

set_option maxRecDepth 100000 in
set_option maxHeartbeats 2000000 in
theorem rputDraw_any (k : Nat) (a : Option Addr) (len cap : Nat) (zs : List (Bool × Value × Nat)) (w : World) (hk : k < 256) (h : Zs w a len zs) (hlen : len ≤ 1000000) :
    Calls Tryz.prog 7 #[.agg #[.slice a len cap, .int .u8 (k : Int)]] w fun e w' => e = .returned (drawV k zs) ∧ Below w.heap.size w w' := by
  unfold drawV
  have hal := (Below.refl w.heap.size w).alloc (Nat.le_refl _) (.cells #[.slice a len cap, .int .u8 (k : Int)] 25)
  by_cases h3 : 3 < k
  · rw [if_pos (Or.inl h3)]
    go_enter Tryz.func7, Tryz.ntmps7
    go_wp2_with fail
    go_ret2
    exact ⟨rfl, hal⟩
  have hm := rmay_any a len cap zs _ (h.below hal) hlen
  cases hmb : mayB zs with
  | false =>
    rw [if_pos (Or.inr rfl)]
    rw [hmb] at hm
    have HM := Lib.hid hm
    clear hm
    go_enter Tryz.func7, Tryz.ntmps7
    go_wp2_with fail
    refine HM.out.mono ?_
    rintro e w1 ⟨rfl, hb⟩
    go_wp2_with fail
    go_ret2
    exact ⟨rfl, hal.trans (hb.mono (by simp))⟩
  | true =>
    rw [if_neg (by simp; omega)]
    rw [hmb] at hm
    have HM := Lib.hid hm
    clear hm
    unfold mayB at hmb
    rw [Bool.and_eq_true, List.all_eq_true] at hmb
    obtain ⟨m1, m2⟩ := hmb
    have hl200 : len ≤ 200 := by have := of_decide_eq_true m1; have := h.1; omega
    have hz64 : ∀ z ∈ zs, nl z.2.2 ≤ 64 := fun z hz => of_decide_eq_true (m2 z hz)
    clear m1 m2
    have hz1 := Notch.encB_size k (by omega)
    have hz2 : (txtB (placeL zs)).size ≤ 1000000 := by
      show (placeL zs).toArray.size ≤ _
      rw [List.size_toArray]
      have := place_len zs (by have := h.1; omega) hz64
      have := h.1
      omega
    have htv : toldV (Notch.encB [k] ++ txtB (placeL zs)) = .tuple #[.string (if 65536 < (Notch.encB [k] ++ txtB (placeL zs)).size then ByteArray.empty else (Notch.encB [k] ++ txtB (placeL zs))), .int .i64 (if 65536 < (Notch.encB [k] ++ txtB (placeL zs)).size then 3 else 0)] := by
      unfold toldV
      split <;> rfl
    have hnum0 := fun W => Notch.refNum_any (k : Int) W (by omega) (by omega)
    rw [Int.toNat_natCast, Notch.numB_eq] at hnum0
    have hpl0 := fun W (hb : Below w.heap.size w W) => rplace_any a len cap zs W (h.below hb) hl200 hz64
    obtain ⟨x, hx⟩ : ∃ x, Notch.encB [k] = x := ⟨_, rfl⟩
    obtain ⟨y, hy⟩ : ∃ y, txtB (placeL zs) = y := ⟨_, rfl⟩
    rw [hx, hy] at htv ⊢
    rw [hx] at hz1 hnum0
    rw [hy] at hz2 hpl0
    have HT := Lib.hid htv
    have HN0 := Lib.hid hnum0
    have HP0 := Lib.hid hpl0
    have HAL := Lib.hid hal
    have hwk : IntKind.u64.wrap (k : Int) = (k : Int) := by rw [IntKind.wrap_u64]; omega
    clear htv hnum0 hpl0 hx hy h hal
    obtain ⟨z, hz⟩ : ∃ z, x ++ y = z := ⟨_, rfl⟩
    have hzs : z.size ≤ 1000009 := by rw [← hz, ByteArray.size_append]; omega
    obtain ⟨G, hG⟩ : ∃ G, w.heap.size = G := ⟨_, rfl⟩
    have HG := Lib.hid hG
    go_enter Tryz.func7, Tryz.ntmps7
    go_wp2_with fail
    clear hG
    refine HM.out.mono ?_
    rintro e w0 ⟨rfl, hb⟩
    have hB0 : Below w.heap.size w w0 := HAL.out.trans (hb.mono (by simp))
    have hblk : Blk w0 G 25 [.slice a len cap, .int .u8 (k : Int)] := by
      rw [← HG.out]
      exact Blk.below (Blk.new w _ [_, _]) hb (by simp)
    have hF : ∀ W, Below w0.heap.size w0 W → W.cell? ⟨G, 0, none⟩ = some (.slice a len cap) ∧ W.cell? ⟨G, 1, none⟩ = some (.int .u8 (k : Int)) ∧ G < W.heap.size ∧ Below w.heap.size w W := fun W hb => by
      have := hblk.below hb hblk.lt
      exact ⟨this.cell 0, this.cell 1, this.lt, bel_tr hB0 hb⟩
    have F := Lib.hid hF
    have c0 := hblk.cell 0
    have c1 := hblk.cell 1
    have cl := hblk.lt
    simp only [List.getElem?_cons_zero, List.getElem?_cons_succ] at c0 c1
    have hBd : Below w0.heap.size w0 w0.drew := (Below.refl _ _).drew
    clear hb hF hblk hB0
    have F1 := Lib.hid (fun W (hb : Below w0.heap.size w0 W) => (HN0.out W).mono (fun e w' (h : e = .returned (.string x) ∧ Below W.heap.size W w') => (show e = .returned (.string x) ∧ Below w0.heap.size w0 w' from ⟨h.1, bel_tr hb h.2⟩)))
    have F2 := Lib.hid (fun W (hb : Below w0.heap.size w0 W) => (HP0.out W (F.out W hb).2.2.2).mono (fun e w' (h : e = .returned (.string y) ∧ Below W.heap.size W w') => (show e = .returned (.string y) ∧ Below w0.heap.size w0 w' from ⟨h.1, bel_tr hb h.2⟩)))
    obtain ⟨d0, d1, d2, d3⟩ := F.out _ hBd
    have D3 := Lib.hid d3
    clear d3
    by_cases hbig : 65536 < z.size
    · have HT2 := Lib.hid (show toldV z = .tuple #[.string ByteArray.empty, .int .i64 3] by unfold toldV; rw [if_pos hbig])
      go_wp2_with fail
      go_region_with (first
        | (go_at_call 23; refine (F1.out _ (by first | assumption | (exact Below.refl _ _))).mono ?_; rintro e wn ⟨rfl, hBn⟩; obtain ⟨n0, n1, n2, n3⟩ := F.out _ hBn; clear n3)
        | (go_at_call 24; refine (F2.out _ (by first | assumption | (exact Below.refl _ _))).mono ?_; rintro e wt ⟨rfl, hBt⟩; obtain ⟨t0, t1, t2, t3⟩ := F.out _ hBt; have HT3 := Lib.hid t3; clear t3))
      all_goals (go_wp2_with fail; go_ret2; refine ⟨?_, HT3.out⟩; rw [hz, HT2.out]; rfl)
    · have HT2 := Lib.hid (show toldV z = .tuple #[.string z, .int .i64 0] by unfold toldV; rw [if_neg hbig])
      go_wp2_with fail
      go_region_with (first
        | (go_at_call 23; refine (F1.out _ (by first | assumption | (exact Below.refl _ _))).mono ?_; rintro e wn ⟨rfl, hBn⟩; obtain ⟨n0, n1, n2, n3⟩ := F.out _ hBn; clear n3)
        | (go_at_call 24; refine (F2.out _ (by first | assumption | (exact Below.refl _ _))).mono ?_; rintro e wt ⟨rfl, hBt⟩; obtain ⟨t0, t1, t2, t3⟩ := F.out _ hBt; have HT3 := Lib.hid t3; clear t3))
      all_goals (go_wp2_with fail; go_ret2; refine ⟨?_, HT3.out⟩; rw [hz, HT2.out]; rfl)
end Go.Proofs.YtpnllalefpkcjaaGreatDoor.Store
