/-
frac.Make, Norm: of what may be.
-/
import Derived.Test.YtljgiagdmnedpaaFracTold
import Derived.Defers
import Derived.Recover
import Derived.Laws.Pointers
namespace Go.Proofs.Ytljgiagdmnedpaa.Frac_
open Go.RowKit Nat_

/-- What a call tells that makes a rational number well. -/
def FOut (w : World) (b : Bool) (n d : Nat) (e : Ending) (w' : World) : Prop := (∃ v, e = .returned v ∧ FVal w.heap.size w' b n d v) ∧ Below w.heap.size w w'
/-- The same, with an error beside it that is none. -/
def FOutE (w : World) (b : Bool) (n d : Nat) (e : Ending) (w' : World) : Prop := (∃ v, e = .returned (.tuple #[v, .int .i64 0]) ∧ FVal w.heap.size w' b n d v) ∧ Below w.heap.size w w'
set_option maxRecDepth 100000 in
set_option maxHeartbeats 2000000 in
theorem make1_ok (G H : Nat) (b1 b2 : Bool) (m1 m2 : Value) (N D : Nat) (w : World) (hG : G < w.heap.size) (hH : H < w.heap.size) (h10 : w.cell? ⟨G, 0, none⟩ = some (.bool b1)) (h11 : w.cell? ⟨G, 1, none⟩ = some m1) (h20 : w.cell? ⟨H, 0, none⟩ = some (.bool b2)) (h21 : w.cell? ⟨H, 1, none⟩ = some m2)
    (h1 : Nm w m1 N) (h2 : Nm w m2 D) (hN : N < Lim) (hD : D < Lim) (h0 : D ≠ 0) :
    Calls Try.prog 35 #[.pointer (some ⟨G, 0, none⟩), .pointer (some ⟨H, 0, none⟩)] w (FOut w (zneg (b1 != b2) (fn N D)) (fn N D) (fd N D)) := by
  obtain ⟨a1, l1, c1, rfl, -, -, -⟩ := h1.slice
  obtain ⟨a2, l2, c2, rfl, -, -, -⟩ := h2.slice
  have hF : ∀ V, Below w.heap.size w V → V.cell? ⟨G, 0, none⟩ = some (.bool b1) ∧ V.cell? ⟨G, 1, none⟩ = some (.slice a1 l1 c1) ∧ V.cell? ⟨H, 0, none⟩ = some (.bool b2) ∧ V.cell? ⟨H, 1, none⟩ = some (.slice a2 l2 c2) ∧ G < V.heap.size ∧ H < V.heap.size ∧
      Nm V (.slice a1 l1 c1) N ∧ Nm V (.slice a2 l2 c2) D := by
    intro V hb
    exact ⟨(hb.cell (p := ⟨G, 0, none⟩) hG).trans h10, (hb.cell (p := ⟨G, 1, none⟩) hG).trans h11, (hb.cell (p := ⟨H, 0, none⟩) hH).trans h20, (hb.cell (p := ⟨H, 1, none⟩) hH).trans h21, Nat.lt_of_lt_of_le hG hb.size, Nat.lt_of_lt_of_le hH hb.size, h1.below hb, h2.below hb⟩
  have F := Lib.hid hF
  have HL := Lib.hid (And.intro hN (And.intro hD h0))
  have hb0 := (Below.refl w.heap.size w).alloc (Nat.le_refl _) (.cells #[.bool false, .slice none 0 0, .slice none 0 0] 35)
  have k0 : Blk (w.alloc (.cells #[.bool false, .slice none 0 0, .slice none 0 0] 35)) w.heap.size 35 [.bool false, .slice none 0 0, .slice none 0 0] := Blk.new w _ [_, _, _]
  have HB0 := Lib.hid hb0
  obtain ⟨x0, x1, x2, x3, xl, xl1, -⟩ := hF _ hb0
  clear hF hN hD h0 h1 h2 h10 h11 h20 h21 hb0
  obtain ⟨E, hE⟩ : ∃ E, w.heap.size = E := ⟨_, rfl⟩
  have HE := Lib.hid hE
  rw [hE] at k0
  go_enter Try.func35, Try.ntmps35
  go_wp2_with fail
  refine (znorm_ok b1 _ N _ (F.out _ HB0.out).2.2.2.2.2.2.1 HL.out.1).mono ?_
  rintro e w1 ⟨⟨za, zc, rfl, -⟩, hb1⟩
  have HB1 := Lib.hid (HB0.out.trans (hb1.mono HB0.out.size))
  have k1 := k0.below hb1 k0.lt
  have hb1a := (Below.refl w1.heap.size w1).alloc (Nat.le_refl _) (.cells #[.bool (zneg b1 N), .slice za (nl N) zc] 33)
  have HB1a := Lib.hid (HB1.out.trans (hb1a.mono HB1.out.size))
  obtain ⟨y0, y1, y2, y3, yl, yl1, -⟩ := F.out _ HB1a.out
  clear hb1 x0 x1 x2 x3 xl xl1
  go_wp2_with fail
  refine (znorm_ok b2 _ D _ (F.out _ HB1a.out).2.2.2.2.2.2.2 HL.out.2.1).mono ?_
  rintro e w2 ⟨⟨za2, zc2, rfl, -⟩, hb2⟩
  have HB2 := Lib.hid (HB1a.out.trans (hb2.mono HB1a.out.size))
  have k2 := (k1.alloc (.cells #[.bool (zneg b1 N), .slice za (nl N) zc] 33)).below hb2 (Blk.lt (k1.alloc _))
  have hEl : E < w2.heap.size := k2.lt
  have hb2a := (Below.refl w2.heap.size w2).alloc (Nat.le_refl _) (.cells #[.bool (zneg b2 D), .slice za2 (nl D) zc2] 33)
  have HB2a := Lib.hid (HB2.out.trans (hb2a.mono HB2.out.size))
  have k3 := k2.alloc (.cells #[.bool (zneg b2 D), .slice za2 (nl D) zc2] 33)
  obtain ⟨z0, z1, z2, z3, zl, zl1, -⟩ := F.out _ HB2a.out
  have HT := Lib.hid (told_ok b1 b2 _ _ N D _ (F.out _ HB2a.out).2.2.2.2.2.2.1 (F.out _ HB2a.out).2.2.2.2.2.2.2 HL.out.1 HL.out.2.1 HL.out.2.2)
  clear hb2 y0 y1 y2 y3 yl yl1 hb1a hb2a k0 k1 k2
  go_wp2_with fail
  refine HT.out.mono ?_
  rintro e w3 ⟨⟨v, rfl, a, c, a', c', rfl, hn1, hn2⟩, hb3⟩
  have HB3 := Lib.hid (HB2a.out.trans (hb3.mono HB2a.out.size))
  have q := k3.below hb3 k3.lt
  have f0 := q.frozen 0 (by simp)
  have f1 := q.frozen 1 (by simp)
  have f2 := q.frozen 2 (by simp)
  have p0 := q.cell 0
  have p1 := q.cell 1
  have p2 := q.cell 2
  have pl := q.lt
  simp only [List.getElem?_cons_zero, List.getElem?_cons_succ] at p0 p1 p2
  have hk := ((q.set_ 0 (.bool (zneg (b1 != b2) (fn N D)))).set_ 1 (.slice a (nl (fn N D)) c)).set_ 2 (.slice a' (nl (fd N D)) c')
  have d0 := hk.cell 0
  have d1 := hk.cell 1
  have d2 := hk.cell 2
  simp only [List.set_cons_zero, List.set_cons_succ, List.getElem?_cons_zero, List.getElem?_cons_succ] at d0 d1 d2
  have hE2 : E < (w2.alloc (.cells #[.bool (zneg b2 D), .slice za2 (nl D) zc2] 33)).heap.size := by simp; omega
  have hz1 := nn_set (nn_set (nn_set hn1 E 0 (.bool (zneg (b1 != b2) (fn N D))) hE2) E 1 (.slice a (nl (fn N D)) c) hE2) E 2 (.slice a' (nl (fd N D)) c') hE2
  have hz2 := nn_set (nn_set (nn_set hn2 E 0 (.bool (zneg (b1 != b2) (fn N D))) hE2) E 1 (.slice a (nl (fn N D)) c) hE2) E 2 (.slice a' (nl (fd N D)) c') hE2
  have hwE : w.heap.size ≤ E := by rw [HE.out]; exact Nat.le_refl _
  have hbE := ((HB3.out.setCell (p := ⟨E, 0, none⟩) hwE (.bool (zneg (b1 != b2) (fn N D)))).setCell (p := ⟨E, 1, none⟩) hwE (.slice a (nl (fn N D)) c)).setCell (p := ⟨E, 2, none⟩) hwE (.slice a' (nl (fd N D)) c')
  have FF := Lib.hid (And.intro d0 (And.intro d1 (And.intro d2 (And.intro hz1 (And.intro hz2 hbE)))))
  have hge := HB2a.out.size
  clear d0 d1 d2 hz1 hz2 hbE hk hn1 hn2 hb3 q z0 z1 z2 z3 zl zl1 HT k3 hwE hE2 hEl
  go_wp2_with fail
  refine bodyPost_ret (v := .agg #[.bool (zneg (b1 != b2) (fn N D)), .slice a (nl (fn N D)) c, .slice a' (nl (fd N D)) c']) (by simp [results, Try.results35, go_sem, FF.out.1, FF.out.2.1, FF.out.2.2.1]) rfl ⟨⟨_, rfl, a, c, a', c', rfl, FF.out.2.2.2.1.ge hge, FF.out.2.2.2.2.1.ge hge⟩, FF.out.2.2.2.2.2⟩
theorem face1_idle (G H : Nat) (w : World) :
    CallsD Try.prog 47 #[.pointer (some ⟨G, 0, none⟩), .pointer (some ⟨H, 0, none⟩)] .returning w fun e u' w' => e = .returned (.tuple #[]) ∧ u' = .returning ∧ w' = w := by
  refine callsD_of_wpS Try.func47 rfl fun c₀ cs hu => ?_
  apply wpS_seq
  apply wpS_region
  simp [wpOpsS, go_sem, recoverD, hu, Try.ntmps47, Exit.thenS]
  apply wpS_seq
  apply wpS_region
  simp [wpOpsS, go_sem, Exit.thenS, Act.eval, Array.replicate]
  refine wpS_cond (t := false) (by simp [Act.eval]) ?_
  simp only [Bool.false_eq_true, if_false]
  refine wpS_of_wp (wp_skip ?_)
  cases c₀
  simp_all [bodyPostS, results, Try.results47]
set_option maxRecDepth 100000 in
set_option maxHeartbeats 2000000 in
/-- face, of a call that does not give up. -/
theorem face_ok (f : Nat) (cap : Array Value) (b : Bool) (n d : Nat) (w : World) (hen : ∀ W : World, (callFunc f cap).run Try.prog W = .ok (.enter f cap) W)
    (hcall : ∀ W, Below w.heap.size w W → Calls Try.prog f cap W (FOut W b n d)) :
    Calls Try.prog 34 #[.func (.func f) #[] cap] w (FOutE w b n d) := by
  have hmf : ∀ (fn : Fn) (first cap : Array Value) (w : World), (Instr.makeFunc fn first cap).run Try.prog w = .ok (.func fn first cap) w := fun _ _ _ _ => rfl
  have hb0 : Below w.heap.size w ((w.alloc (.cells #[.bool false, .slice none 0 0, .slice none 0 0] 35)).alloc (.cells #[.int .i64 0] 24)) := ((Below.refl w.heap.size w).alloc (Nat.le_refl _) _).alloc (by simp) _
  have k1 : Blk ((w.alloc (.cells #[.bool false, .slice none 0 0, .slice none 0 0] 35)).alloc (.cells #[.int .i64 0] 24)) w.heap.size 35 [.bool false, .slice none 0 0, .slice none 0 0] := (Blk.new w _ [_, _, _]).alloc _
  have k2 : Blk ((w.alloc (.cells #[.bool false, .slice none 0 0, .slice none 0 0] 35)).alloc (.cells #[.int .i64 0] 24)) (w.heap.size + 1) 24 [.int .i64 0] := blk_new _ _ [_] _ (by simp)
  have hs : ((w.alloc (.cells #[.bool false, .slice none 0 0, .slice none 0 0] 35)).alloc (.cells #[.int .i64 0] 24)).heap.size = w.heap.size + 2 := by simp
  have C := Lib.hid (hcall _ hb0)
  have K := Lib.hid (And.intro k1 (And.intro k2 (And.intro hs hb0)))
  clear hcall hb0 k1 k2 hs
  go_enter_defers Try.func34, Try.ntmps34
  go_wp2_with fail
  refine C.out.mono ?_
  rintro e w1 ⟨⟨v, rfl, a, c, a', c', rfl, hn1, hn2⟩, hb1⟩
  have q1 := K.out.1.below hb1 K.out.1.lt
  have q2 := K.out.2.1.below hb1 K.out.2.1.lt
  have HB := Lib.hid (K.out.2.2.2.trans (hb1.mono K.out.2.2.2.size))
  have hs1 : w.heap.size + 1 < w1.heap.size := q2.lt
  have x0 := q1.cell 0
  have x1 := q1.cell 1
  have x2 := q1.cell 2
  have x3 := q2.cell 0
  have f0 := q1.frozen 0 (by simp)
  have f1 := q1.frozen 1 (by simp)
  have f2 := q1.frozen 2 (by simp)
  have f3 := q2.frozen 0 (by simp)
  simp only [List.getElem?_cons_zero, List.getElem?_cons_succ] at x0 x1 x2 x3
  have hk1 := ((q1.set_ 0 (.bool b)).set_ 1 (.slice a (nl n) c)).set_ 2 (.slice a' (nl d) c')
  have hk := hk1.far (p := ⟨w.heap.size + 1, 0, none⟩) (by show w.heap.size ≠ w.heap.size + 1; omega) (.int .i64 0)
  have hk2 := (((q2.far (p := ⟨w.heap.size, 0, none⟩) (by show w.heap.size + 1 ≠ w.heap.size; omega) (.bool b)).far (p := ⟨w.heap.size, 1, none⟩) (by show w.heap.size + 1 ≠ w.heap.size; omega) (.slice a (nl n) c)).far (p := ⟨w.heap.size, 2, none⟩) (by show w.heap.size + 1 ≠ w.heap.size; omega) (.slice a' (nl d) c')).set_ 0 (.int .i64 0)
  have d0 := hk.cell 0
  have d1 := hk.cell 1
  have d2 := hk.cell 2
  have d3 := hk2.cell 0
  simp only [List.set_cons_zero, List.set_cons_succ, List.getElem?_cons_zero, List.getElem?_cons_succ] at d0 d1 d2 d3
  have hl : w.heap.size < w.heap.size + 2 := by omega
  rw [K.out.2.2.1] at hn1 hn2
  have hz1 := nn_set (nn_set (nn_set (nn_set hn1 w.heap.size 0 (.bool b) (by omega)) w.heap.size 1 (.slice a (nl n) c) (by omega)) w.heap.size 2 (.slice a' (nl d) c') (by omega)) (w.heap.size + 1) 0 (.int .i64 0) (by omega)
  have hz2 := nn_set (nn_set (nn_set (nn_set hn2 w.heap.size 0 (.bool b) (by omega)) w.heap.size 1 (.slice a (nl n) c) (by omega)) w.heap.size 2 (.slice a' (nl d) c') (by omega)) (w.heap.size + 1) 0 (.int .i64 0) (by omega)
  have hbE := (((HB.out.setCell (p := ⟨w.heap.size, 0, none⟩) (Nat.le_refl _) (.bool b)).setCell (p := ⟨w.heap.size, 1, none⟩) (Nat.le_refl _) (.slice a (nl n) c)).setCell (p := ⟨w.heap.size, 2, none⟩) (Nat.le_refl _) (.slice a' (nl d) c')).setCell (p := ⟨w.heap.size + 1, 0, none⟩) (by show w.heap.size ≤ w.heap.size + 1; omega) (.int .i64 0)
  have FF := Lib.hid (And.intro d0 (And.intro d1 (And.intro d2 (And.intro d3 (And.intro hz1 (And.intro hz2 hbE))))))
  clear d0 d1 d2 d3 hz1 hz2 hbE hk1 hk hk2 hn1 hn2 hb1 K C q1 q2
  go_wp2_with fail
  refine leaves_cons (f := 47) (args := #[.pointer (some ⟨w.heap.size, 0, none⟩), .pointer (some ⟨w.heap.size + 1, 0, none⟩)]) (by simp) (by simp [go_sem]) ?_
  refine (face1_idle w.heap.size (w.heap.size + 1) _).mono ?_
  rintro e u' w'' ⟨rfl, rfl, rfl⟩
  have HWW := Lib.hid (show w.heap.size ≤ w.heap.size + 2 by omega)
  refine ⟨.tuple #[.agg #[.bool b, .slice a (nl n) c, .slice a' (nl d) c'], .int .i64 0], by simp [results, Try.results34, go_sem, FF.out.1, FF.out.2.1, FF.out.2.2.1, FF.out.2.2.2.1], ⟨_, rfl, a, c, a', c', rfl, FF.out.2.2.2.2.1.ge HWW.out, FF.out.2.2.2.2.2.1.ge HWW.out⟩, FF.out.2.2.2.2.2.2⟩
set_option maxRecDepth 100000 in
set_option maxHeartbeats 2000000 in
theorem make_ok (b1 b2 : Bool) (m1 m2 : Value) (N D : Nat) (w : World) (h1 : Nm w m1 N) (h2 : Nm w m2 D) (hN : N < Lim) (hD : D < Lim) (h0 : D ≠ 0) :
    Calls Try.prog 24 #[.agg #[.bool b1, m1], .agg #[.bool b2, m2]] w (FOutE w (zneg (b1 != b2) (fn N D)) (fn N D) (fd N D)) := by
  obtain ⟨a1, l1, c1, rfl, -, -, -⟩ := h1.slice
  obtain ⟨a2, l2, c2, rfl, -, -, -⟩ := h2.slice
  have hmf : ∀ (fn : Fn) (first cap : Array Value) (w : World), (Instr.makeFunc fn first cap).run Try.prog w = .ok (.func fn first cap) w := fun _ _ _ _ => rfl
  obtain ⟨W, hW⟩ : ∃ W, ((w.alloc (.cells #[.bool b1, .slice a1 l1 c1] 33)).alloc (.cells #[.bool b2, .slice a2 l2 c2] 33)).alloc (.cells #[.bool false, .slice none 0 0, .slice none 0 0] 35) = W := ⟨_, rfl⟩
  obtain ⟨G, hG⟩ : ∃ G, w.heap.size = G := ⟨_, rfl⟩
  have hal : Below w.heap.size w W := by rw [← hW]; exact (((Below.refl w.heap.size w).alloc (Nat.le_refl _) _).alloc (by simp) _).alloc (by simp; omega) _
  have k1 : Blk W G 33 [.bool b1, .slice a1 l1 c1] := by rw [← hW, ← hG]; exact ((Blk.new w _ [_, _]).alloc _).alloc _
  have k2 : Blk W (G + 1) 33 [.bool b2, .slice a2 l2 c2] := by rw [← hW]; exact (blk_new _ _ [_, _] _ (by simp [hG])).alloc _
  have k3 : Blk W (G + 1 + 1) 35 [.bool false, .slice none 0 0, .slice none 0 0] := by rw [← hW]; exact blk_new _ _ [_, _, _] _ (by simp [hG])
  have hsW : W.heap.size = G + 3 := by rw [← hW]; simp [hG]
  have C := Lib.hid (face_ok 35 #[.pointer (some ⟨G, 0, none⟩), .pointer (some ⟨G + 1, 0, none⟩)] (zneg (b1 != b2) (fn N D)) (fn N D) (fd N D) W (fun _ => rfl) (fun V hV => by
    have q1 := k1.below hV k1.lt
    have q2 := k2.below hV k2.lt
    have hb := hal.trans (hV.mono hal.size)
    exact make1_ok G (G + 1) b1 b2 _ _ N D V q1.lt q2.lt (q1.cell 0) (q1.cell 1) (q2.cell 0) (q2.cell 1) (h1.below hb) (h2.below hb) hN hD h0))
  have K := Lib.hid (And.intro k3 (And.intro hsW (And.intro hal hG)))
  clear k1 k2 k3 hsW hal h1 h2 hN hD h0
  go_enter Try.func24, Try.ntmps24
  go_wp2_with fail
  refine C.out.mono ?_
  rintro e w1 ⟨⟨v, rfl, a, c, a', c', rfl, hn1, hn2⟩, hb1⟩
  have q := K.out.1.below hb1 K.out.1.lt
  have hB := K.out.2.2.1.trans (hb1.mono K.out.2.2.1.size)
  have f0 := q.frozen 0 (by simp)
  have f1 := q.frozen 1 (by simp)
  have f2 := q.frozen 2 (by simp)
  have p0 := q.cell 0
  have p1 := q.cell 1
  have p2 := q.cell 2
  have pl := q.lt
  simp only [List.getElem?_cons_zero, List.getElem?_cons_succ] at p0 p1 p2
  have hk := ((q.set_ 0 (.bool (zneg (b1 != b2) (fn N D)))).set_ 1 (.slice a (nl (fn N D)) c)).set_ 2 (.slice a' (nl (fd N D)) c')
  have d0 := hk.cell 0
  have d1 := hk.cell 1
  have d2 := hk.cell 2
  simp only [List.set_cons_zero, List.set_cons_succ, List.getElem?_cons_zero, List.getElem?_cons_succ] at d0 d1 d2
  rw [K.out.2.1] at hn1 hn2
  have hE2 : G + 1 + 1 < G + 3 := by omega
  have hz1 := nn_set (nn_set (nn_set hn1 (G + 1 + 1) 0 (.bool (zneg (b1 != b2) (fn N D))) hE2) (G + 1 + 1) 1 (.slice a (nl (fn N D)) c) hE2) (G + 1 + 1) 2 (.slice a' (nl (fd N D)) c') hE2
  have hz2 := nn_set (nn_set (nn_set hn2 (G + 1 + 1) 0 (.bool (zneg (b1 != b2) (fn N D))) hE2) (G + 1 + 1) 1 (.slice a (nl (fn N D)) c) hE2) (G + 1 + 1) 2 (.slice a' (nl (fd N D)) c') hE2
  have hwE : w.heap.size ≤ G + 1 + 1 := by rw [K.out.2.2.2]; omega
  have hbE := ((hB.setCell (p := ⟨G + 1 + 1, 0, none⟩) hwE (.bool (zneg (b1 != b2) (fn N D)))).setCell (p := ⟨G + 1 + 1, 1, none⟩) hwE (.slice a (nl (fn N D)) c)).setCell (p := ⟨G + 1 + 1, 2, none⟩) hwE (.slice a' (nl (fd N D)) c')
  have hge : w.heap.size ≤ G + 3 := by rw [K.out.2.2.2]; omega
  have FF := Lib.hid (And.intro d0 (And.intro d1 (And.intro d2 (And.intro (hz1.ge hge) (And.intro (hz2.ge hge) hbE)))))
  clear d0 d1 d2 hz1 hz2 hbE hk hn1 hn2 hb1 q hwE hE2 C hge hB
  go_wp2_with fail
  exact bodyPost_ret (v := .tuple #[.agg #[.bool (zneg (b1 != b2) (fn N D)), .slice a (nl (fn N D)) c, .slice a' (nl (fd N D)) c'], .int .i64 0]) (by simp [results, Try.results24, go_sem, FF.out.1, FF.out.2.1, FF.out.2.2.1]) rfl ⟨⟨_, rfl, a, c, a', c', rfl, FF.out.2.2.2.1, FF.out.2.2.2.2.1⟩, FF.out.2.2.2.2.2⟩
end Go.Proofs.Ytljgiagdmnedpaa.Frac_
