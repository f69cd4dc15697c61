/-
frac.Norm, Of.
-/
import Derived.Test.YtljgiagdmnedpaaFracMake
import Derived.Deep.RegionHeld3
namespace Go.Proofs.Ytljgiagdmnedpaa.Frac_
open Go.RowKit Nat_

set_option maxRecDepth 100000 in
set_option maxHeartbeats 4000000 in
theorem norm_ok (b : Bool) (m1 m2 : Value) (N D : Nat) (w : World) (h1 : Nm w m1 N) (h2 : Nm w m2 D) (hN : N < Lim) (hD : D < Lim) (h0 : D ≠ 0) :
    Calls Try.prog 14 #[.agg #[.bool b, m1, m2]] w (FOutE w (zneg b (fn N D)) (fn N D) (fd N D)) := by
  obtain ⟨a1, l1, c1, rfl, -, -, -⟩ := h1.slice
  obtain ⟨a2, l2, c2, rfl, -, -, -⟩ := h2.slice
  obtain ⟨W, hW⟩ : ∃ W, (w.alloc (.cells #[.bool b, .slice a1 l1 c1, .slice a2 l2 c2] 35)).alloc (.cells #[.bool false, .slice none 0 0, .slice none 0 0] 35) = W := ⟨_, rfl⟩
  obtain ⟨G, hG⟩ : ∃ G, w.heap.size = G := ⟨_, rfl⟩
  have hal : Below w.heap.size w W := by rw [← hW]; exact ((Below.refl w.heap.size w).alloc (Nat.le_refl _) _).alloc (by simp) _
  have k1 : Blk W G 35 [.bool b, .slice a1 l1 c1, .slice a2 l2 c2] := by rw [← hW, ← hG]; exact (Blk.new w _ [_, _, _]).alloc _
  have k3 : Blk W (G + 1) 35 [.bool false, .slice none 0 0, .slice none 0 0] := by rw [← hW]; exact blk_new _ _ [_, _, _] _ (by simp [hG])
  have hsW : W.heap.size = G + 2 := by rw [← hW]; simp [hG]
  have hK1 : ∀ V, Below W.heap.size W V → Below (G + 1) W V := fun V hV => hV.mono (by omega)
  have K1 := Lib.hid hK1
  have S1 := Lib.hid (fun (V : World) (i : Nat) (u : Value) (h : Below (G + 1) W V) => h.setCell (p := ⟨G + 1, i, none⟩) (Nat.le_refl _) u)
  have hF : ∀ V, Below (G + 1) W V → V.cell? ⟨G, 0, none⟩ = some (.bool b) ∧ V.cell? ⟨G, 1, none⟩ = some (.slice a1 l1 c1) ∧ V.cell? ⟨G, 2, none⟩ = some (.slice a2 l2 c2) ∧ Below (G + 1) W V := by
    intro V hV
    have q1 := k1.below hV (Nat.lt_succ_self G)
    exact ⟨q1.cell 0, q1.cell 1, q1.cell 2, hV⟩
  have F := Lib.hid hF
  have hgl := k1.lt
  have hB0 := Lib.hid (Below.refl W.heap.size W)
  have hBd := Lib.hid (Below.refl W.heap.size W).drew
  have CW := Lib.hid (fun V (hV : Below W.heap.size W V) => (whole_any a2 l2 c2 V).mono (fun e w' (h : e = .returned (.agg #[.bool false, .slice a2 l2 c2]) ∧ w' = V.alloc (.cells #[.bool false, .slice a2 l2 c2] 33)) =>
    (show e = .returned (.agg #[.bool false, .slice a2 l2 c2]) ∧ Below W.heap.size W w' from ⟨h.1, by rw [h.2]; exact hV.alloc hV.size _⟩)))
  have CM := Lib.hid (fun V (hV : Below W.heap.size W V) => (make_ok b false _ _ N D V (h1.below (hal.trans (hV.mono hal.size))) (h2.below (hal.trans (hV.mono hal.size))) hN hD h0).mono (fun e w' (h : FOutE V (zneg (b != false) (fn N D)) (fn N D) (fd N D) e w') =>
    (show ∃ a c a' c', e = .returned (.tuple #[.agg #[.bool (zneg b (fn N D)), .slice a (nl (fn N D)) c, .slice a' (nl (fd N D)) c'], .int .i64 0]) ∧ Hid (NN W.heap.size w' (.slice a (nl (fn N D)) c) (fn N D) ∧ NN W.heap.size w' (.slice a' (nl (fd N D)) c') (fd N D)) ∧ Below W.heap.size W w' from by
      obtain ⟨⟨v, h3, a, c, a', c', h4, h5, h6⟩, h7⟩ := h
      refine ⟨a, c, a', c', ?_, ⟨h5.ge hV.size, h6.ge hV.size⟩, hV.trans (h7.mono hV.size)⟩
      rw [h3, h4]
      cases b <;> rfl)))
  have K := Lib.hid (And.intro k3 (And.intro hsW (And.intro hal hG)))
  obtain ⟨x0, x1, x2, -⟩ := hF _ (hK1 _ hB0.out)
  obtain ⟨y0, y1, y2, -⟩ := hF _ (hK1 _ hBd.out)
  clear k1 k3 hsW hal h1 h2 hN hD h0 hF hK1
  generalize zneg b (fn N D) = sg at *
  generalize fn N D = pn at *
  generalize fd N D = pd at *
  go_enter Try.func14, Try.ntmps14
  go_wp2_with fail
  go_region_held3 (fun V => V.cell? ⟨G, 0, none⟩ = some (.bool b) ∧ V.cell? ⟨G, 1, none⟩ = some (.slice a1 l1 c1) ∧ V.cell? ⟨G, 2, none⟩ = some (.slice a2 l2 c2) ∧ Below (G + 1) W V) ((with_reducible first | (exact F.out _ (K1.out _ (by assumption))) | (exact F.out _ (K1.out _ hB0.out)) | (exact F.out _ (K1.out _ hBd.out)) | (exact F.out _ (S1.out _ _ _ (S1.out _ _ _ (S1.out _ _ _ (K1.out _ (by assumption)))))) | (exact F.out _ (S1.out _ _ _ (S1.out _ _ _ (K1.out _ (by assumption))))) | (exact F.out _ (S1.out _ _ _ (K1.out _ (by assumption))))))
    (first
    | (go_at_call 25; (with_reducible refine (CW.out _ (by first | assumption | (exact hB0.out) | (exact hBd.out))).mono ?_); rintro e wm ⟨rfl, hbm⟩)
    | (go_at_call 24; (with_reducible refine (CM.out _ (by first | assumption | (exact hB0.out) | (exact hBd.out))).mono ?_); rintro e wn ⟨a, c, a', c', rfl, hnn, hbn⟩; have q := K.out.1.below hbn K.out.1.lt; have f0 := q.frozen 0 (by simp); have f1 := q.frozen 1 (by simp); have f2 := q.frozen 2 (by simp); have p0 := q.cell 0; have p1 := q.cell 1; have p2 := q.cell 2; have pl := q.lt; simp only [List.getElem?_cons_zero, List.getElem?_cons_succ] at p0 p1 p2)
    | fail)
  have hk := ((q.set_ 0 (.bool sg)).set_ 1 (.slice a (nl pn) c)).set_ 2 (.slice a' (nl pd) c')
  have d0 := hk.cell 0
  have d1 := hk.cell 1
  have d2 := hk.cell 2
  simp only [List.set_cons_zero, List.set_cons_succ, List.getElem?_cons_zero, List.getElem?_cons_succ] at d0 d1 d2
  have hB := K.out.2.2.1.trans (hbn.mono K.out.2.2.1.size)
  have hn1 := hnn.out.1
  have hn2 := hnn.out.2
  rw [K.out.2.1] at hn1 hn2
  have hE2 : G + 1 < G + 2 := by omega
  have hz1 := nn_set (nn_set (nn_set hn1 (G + 1) 0 (.bool sg) hE2) (G + 1) 1 (.slice a (nl pn) c) hE2) (G + 1) 2 (.slice a' (nl pd) c') hE2
  have hz2 := nn_set (nn_set (nn_set hn2 (G + 1) 0 (.bool sg) hE2) (G + 1) 1 (.slice a (nl pn) c) hE2) (G + 1) 2 (.slice a' (nl pd) c') hE2
  have hwE : w.heap.size ≤ G + 1 := by rw [K.out.2.2.2]; omega
  have hbE := ((hB.setCell (p := ⟨G + 1, 0, none⟩) hwE (.bool sg)).setCell (p := ⟨G + 1, 1, none⟩) hwE (.slice a (nl pn) c)).setCell (p := ⟨G + 1, 2, none⟩) hwE (.slice a' (nl pd) c')
  have hge : w.heap.size ≤ G + 2 := by rw [K.out.2.2.2]; omega
  have FF := Lib.hid (And.intro d0 (And.intro d1 (And.intro d2 (And.intro (hz1.ge hge) (And.intro (hz2.ge hge) hbE)))))
  clear d0 d1 d2 hz1 hz2 hbE hk hn1 hn2 q hwE hE2 hge hB x0 x1 x2 y0 y1 y2 f0 f1 f2 p0 p1 p2
  go_wp2_with fail
  exact bodyPost_ret (v := .tuple #[.agg #[.bool sg, .slice a (nl pn) c, .slice a' (nl pd) c'], .int .i64 0]) (by simp [results, Try.results14, go_sem, FF.out.1, FF.out.2.1, FF.out.2.2.1]) rfl ⟨⟨_, rfl, a, c, a', c', rfl, FF.out.2.2.2.1, FF.out.2.2.2.2.1⟩, FF.out.2.2.2.2.2⟩
end Go.Proofs.Ytljgiagdmnedpaa.Frac_
