/-
zint.Norm, Sign.
-/
import Derived.Test.YtljgiagdmnedpaaZint
import Derived.Test.YtljgiagdmnedpaaZDef
namespace Go.Proofs.Ytljgiagdmnedpaa.Nat_
open Go.RowKit

/-- An integer told well, in its normal form, in memory made from block B on. -/
def ZTold (B : Nat) (w : World) (b : Bool) (n : Nat) (e : Ending) : Prop :=
  ∃ a c, e = .returned (.tuple #[.agg #[.bool (zneg b n), .slice a (nl n) c], .int .i64 0]) ∧ NN B w (.slice a (nl n) c) n
theorem ztold_ok (b : Bool) (m : Value) (n : Nat) (w : World) (h : Nm w m n) (hn : n < Lim) :
    Calls Try.prog 26 #[.bool b, m, .int .i64 0] w fun e w' => ZTold w.heap.size w' b n e ∧ Below w.heap.size w w' := by
  refine (ztold_any b m n w h).mono ?_
  rintro e w' ⟨⟨-, a, c, rfl, h1⟩ | ⟨h1, -⟩, hb⟩
  · exact ⟨⟨a, c, rfl, h1⟩, hb⟩
  · omega
theorem ztold_long (b : Bool) (m : Value) (n : Nat) (w : World) (h : Nm w m n) (hn : Lim ≤ n) :
    Calls Try.prog 26 #[.bool b, m, .int .i64 0] w fun e w' => e = .returned (.tuple #[zeroZ, .int .i64 3]) ∧ Below w.heap.size w w' := by
  refine (ztold_any b m n w h).mono ?_
  rintro e w' ⟨⟨h1, -⟩ | ⟨-, rfl⟩, hb⟩
  · omega
  · exact ⟨rfl, hb⟩
set_option maxRecDepth 100000 in
set_option maxHeartbeats 1000000 in
theorem znorm_ok (b : Bool) (m : Value) (n : Nat) (w : World) (h : Nm w m n) (hn : n < Lim) :
    Calls Try.prog 36 #[.agg #[.bool b, m]] w fun e w' => ZTold w.heap.size w' b n e ∧ Below w.heap.size w w' := by
  have h0 := h
  obtain ⟨a, len, cap, rfl, -, -, -⟩ := h.slice
  obtain ⟨W, hW⟩ : ∃ W, (w.alloc (.cells #[.bool b, .slice a len cap] 33)).alloc (.cells #[.bool false, .slice none 0 0] 33) = W := ⟨_, rfl⟩
  have hal : Below w.heap.size w W := by rw [← hW]; exact ((Below.refl w.heap.size w).alloc (Nat.le_refl _) _).alloc (by simp) _
  have k1 : Blk W w.heap.size 33 [.bool b, .slice a len cap] := by rw [← hW]; exact (Blk.new w _ [_, _]).alloc _
  have k2 : Blk W (w.heap.size + 1) 33 [.bool false, .slice none 0 0] := by rw [← hW]; exact blk_new _ _ [_, _] _ (by simp)
  have C0 := Lib.hid (ztold_ok b _ n W (h0.below hal) hn)
  have HAL := Lib.hid hal
  have hsW : W.heap.size = w.heap.size + 2 := by rw [← hW]; simp
  have HSW := Lib.hid hsW
  obtain ⟨G, hG⟩ : ∃ G, w.heap.size = G := ⟨_, rfl⟩
  rw [hG] at k1 k2
  have HG := Lib.hid hG
  have x0 := k1.cell 0
  have x1 := k1.cell 1
  have q1 := k1.lt
  simp only [List.getElem?_cons_zero, List.getElem?_cons_succ] at x0 x1
  clear hal hsW h0 h
  go_enter Try.func36, Try.ntmps36
  go_wp2_with fail
  clear hW hG
  refine C0.out.mono ?_
  rintro e w1 ⟨⟨a1, c1, rfl, hn1⟩, hb1⟩
  have k21 := k2.below hb1 k2.lt
  have hB : Below w.heap.size w w1 := HAL.out.trans (hb1.mono HAL.out.size)
  have f0 := k21.cell 0
  have f1 := k21.cell 1
  have g0 := k21.frozen 0 (by simp)
  have g1 := k21.frozen 1 (by simp)
  have gl := k21.lt
  simp only [List.getElem?_cons_zero, List.getElem?_cons_succ] at f0 f1
  have hk := (k21.set_ 0 (.bool (zneg b n))).set_ 1 (.slice a1 (nl n) c1)
  have d0 := hk.cell 0
  have d1 := hk.cell 1
  simp only [List.set_cons_zero, List.set_cons_succ, List.getElem?_cons_zero, List.getElem?_cons_succ] at d0 d1
  have hGw : w.heap.size ≤ G := by rw [HG.out]; exact Nat.le_refl _
  have FF := Lib.hid (And.intro d0 (And.intro d1 (And.intro hGw (And.intro (nn_set hn1 (G + 1) 0 (.bool (zneg b n)) (by rw [HSW.out, HG.out]; omega)) hB))))
  clear hk d0 d1 hn1 hB hb1 k21 x0 x1 q1 hGw
  go_wp2_with fail
  refine bodyPost_ret (v := .tuple #[.agg #[.bool (zneg b n), .slice a1 (nl n) c1], .int .i64 0]) (by simp [results, Try.results36, go_sem, FF.out.1, FF.out.2.1]) rfl ⟨⟨a1, c1, rfl, ?_⟩, ?_⟩
  · exact (nn_set FF.out.2.2.2.1 (G + 1) 1 _ (by rw [HSW.out, HG.out]; omega)).ge (by rw [HSW.out]; omega)
  · have hg := FF.out.2.2.1
    exact ((FF.out.2.2.2.2.setCell (p := ⟨G + 1, 0, none⟩) (by show w.heap.size ≤ G + 1; omega) _).setCell (p := ⟨G + 1, 1, none⟩) (by show w.heap.size ≤ G + 1; omega) _)
set_option maxRecDepth 100000 in
set_option maxHeartbeats 1000000 in
theorem zsign_any (b : Bool) (m : Value) (n : Nat) (w : World) (h : Nm w m n) :
    Calls Try.prog 48 #[.agg #[.bool b, m]] w fun e w' => e = .returned (.int .i64 (zsgn b n)) ∧ Below w.heap.size w w' := by
  have h0 := h
  obtain ⟨a, len, cap, rfl, -, -, -⟩ := h.slice
  have hal := (Below.refl w.heap.size w).alloc (Nat.le_refl _) (.cells #[.bool b, .slice a len cap] 33)
  have k1 : Blk (w.alloc (.cells #[.bool b, .slice a len cap] 33)) w.heap.size 33 [.bool b, .slice a len cap] := Blk.new w _ [_, _]
  have hz0 := zof_any b _ n _ (h0.below hal)
  obtain ⟨ng, hng⟩ : ∃ ng, (b && decide (n ≠ 0)) = ng := ⟨_, rfl⟩
  rw [hng] at hz0
  have C0 := Lib.hid hz0
  have HNG := Lib.hid hng
  clear hz0 hng
  have HAL := Lib.hid hal
  have HH := Lib.hid h0
  clear hal h0 h
  go_enter Try.func48, Try.ntmps48
  go_wp2_with fail
  refine C0.out.mono ?_
  rintro e w1 ⟨rfl, hb1⟩
  have HB1 := Lib.hid (HAL.out.trans (hb1.mono HAL.out.size))
  have hb2 := (Below.refl w1.heap.size w1).alloc (Nat.le_refl _) (.cells #[.slice a len cap, .bool ng] 91)
  have k2 : Blk (w1.alloc (.cells #[.slice a len cap, .bool ng] 91)) w1.heap.size 91 [.slice a len cap, .bool ng] := Blk.new w1 _ [_, _]
  have C1 := Lib.hid (zzero_any _ n _ ((HH.out.below HB1.out).below hb2))
  have HB2 := Lib.hid (HB1.out.trans (hb2.mono HB1.out.size))
  have x0 := k2.cell 0
  have x1 := k2.cell 1
  have q1 := k2.lt
  simp only [List.getElem?_cons_zero, List.getElem?_cons_succ] at x0 x1
  clear hb1 hb2
  go_wp2_with fail
  refine C1.out.mono ?_
  rintro e w2 ⟨rfl, hb3⟩
  have k3 := k2.below hb3 k2.lt
  have y1 := k3.cell 1
  have y2 := k3.lt
  simp only [List.getElem?_cons_zero, List.getElem?_cons_succ] at y1
  have HB3 := Lib.hid (HB2.out.trans (hb3.mono HB2.out.size))
  clear hb3 x0 x1 q1 k1 k2
  by_cases hz : n = 0
  · subst hz
    go_wp2_with fail
    go_ret
    exact ⟨rfl, HB3.out⟩
  · have hs : zsgn b n = if b then -1 else 1 := by unfold zsgn; rw [if_neg hz]
    have HS := Lib.hid hs
    have hnb : ng = b := by rw [← HNG.out]; simp [hz]
    subst hnb
    clear hs
    cases ng with
    | true =>
      go_wp2_with fail
      go_ret
      rw [HS.out]
      exact ⟨rfl, HB3.out⟩
    | false =>
      go_wp2_with fail
      go_ret
      rw [HS.out]
      exact ⟨rfl, HB3.out⟩
end Go.Proofs.Ytljgiagdmnedpaa.Nat_
