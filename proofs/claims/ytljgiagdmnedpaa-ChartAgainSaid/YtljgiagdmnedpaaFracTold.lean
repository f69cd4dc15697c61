/-
frac: must, whole, told.
-/
import Derived.Test.YtljgiagdmnedpaaZSign
import Derived.Test.YtljgiagdmnedpaaNatGcd
namespace Go.Proofs.Ytljgiagdmnedpaa.Frac_
open Go.RowKit Nat_

theorem mustNat_ok (a : Option Addr) (l c : Nat) (w : World) :
    Calls Try.prog 49 #[.slice a l c, .int .i64 0] w fun e w' => e = .returned (.slice a l c) ∧ w' = w := by
  go_enter Try.func49, Try.ntmps49
  go_wp2
  go_ret
  exact ⟨rfl, rfl⟩
theorem mustInt_ok (b : Bool) (a : Option Addr) (l c : Nat) (w : World) :
    Calls Try.prog 52 #[.agg #[.bool b, .slice a l c], .int .i64 0] w fun e w' => e = .returned (.agg #[.bool b, .slice a l c]) ∧ Below w.heap.size w w' := by
  have hb := ((Below.refl w.heap.size w).alloc (Nat.le_refl _) (.cells #[.bool b, .slice a l c] 33)).alloc (by simp) (.cells #[.bool b, .slice a l c] 33)
  go_enter Try.func52, Try.ntmps52
  go_wp2
  exact bodyPost_ret (v := .agg #[.bool b, .slice a l c]) (by simp [results, Try.results52, go_sem]) rfl ⟨rfl, hb⟩
theorem whole_any (a : Option Addr) (l c : Nat) (w : World) :
    Calls Try.prog 25 #[.slice a l c] w fun e w' => e = .returned (.agg #[.bool false, .slice a l c]) ∧ w' = w.alloc (.cells #[.bool false, .slice a l c] 33) := by
  go_enter Try.func25, Try.ntmps25
  go_wp2
  exact bodyPost_ret (v := .agg #[.bool false, .slice a l c]) (by simp [results, Try.results25, go_sem]) rfl ⟨rfl, rfl⟩
/-- A rational number told in its normal form, in memory made from block B on: sign, numerator, denominator. -/
def FVal (B : Nat) (w : World) (b : Bool) (n d : Nat) (v : Value) : Prop :=
  ∃ a c a' c', v = .agg #[.bool b, .slice a (nl n) c, .slice a' (nl d) c'] ∧ NN B w (.slice a (nl n) c) n ∧ NN B w (.slice a' (nl d) c') d
theorem FVal.below {B : Nat} {w w' : World} {b : Bool} {n d : Nat} {v : Value} (h : FVal B w b n d v) (hb : Below w.heap.size w w') : FVal B w' b n d v := by
  obtain ⟨a, c, a', c', e, h1, h2⟩ := h
  exact ⟨a, c, a', c', e, h1.below hb, h2.below hb⟩
theorem FVal.ge {B C : Nat} {w : World} {b : Bool} {n d : Nat} {v : Value} (h : FVal B w b n d v) (hb : C ≤ B) : FVal C w b n d v := by
  obtain ⟨a, c, a', c', e, h1, h2⟩ := h
  exact ⟨a, c, a', c', e, h1.ge hb, h2.ge hb⟩
theorem FVal.set {B : Nat} {w : World} {b : Bool} {n d : Nat} {v : Value} (h : FVal B w b n d v) (g i : Nat) (u : Value) (hg : g < B) : FVal B (w.setCell ⟨g, i, none⟩ u) b n d v := by
  obtain ⟨a, c, a', c', e, h1, h2⟩ := h
  exact ⟨a, c, a', c', e, nn_set h1 g i u hg, nn_set h2 g i u hg⟩
/-- N by D, brought down, with a sign. -/
def fn (N D : Nat) : Nat := N / Nat.gcd N D
def fd (N D : Nat) : Nat := D / Nat.gcd N D
set_option maxRecDepth 100000 in
set_option maxHeartbeats 4000000 in
theorem told_ok (b1 b2 : Bool) (m1 m2 : Value) (N D : Nat) (w : World) (h1 : Nm w m1 N) (h2 : Nm w m2 D) (hN : N < Lim) (hD : D < Lim) (h0 : D ≠ 0) :
    Calls Try.prog 37 #[.agg #[.bool b1, m1], .agg #[.bool b2, m2]] w fun e w' => (∃ v, e = .returned v ∧ FVal w.heap.size w' (zneg (b1 != b2) (fn N D)) (fn N D) (fd N D) v) ∧ Below w.heap.size w w' := by
  obtain ⟨a1, l1, c1, rfl, -, -, -⟩ := h1.slice
  obtain ⟨a2, l2, c2, rfl, -, -, -⟩ := h2.slice
  obtain ⟨W, hW⟩ : ∃ W, ((w.alloc (.cells #[.bool b1, .slice a1 l1 c1] 33)).alloc (.cells #[.bool b2, .slice a2 l2 c2] 33)).alloc (.cells #[.bool false, .slice none 0 0, .slice none 0 0] 35) = W := ⟨_, rfl⟩
  obtain ⟨G, hG⟩ : ∃ G, w.heap.size = G := ⟨_, rfl⟩
  have hal : Below w.heap.size w W := by rw [← hW]; exact (((Below.refl w.heap.size w).alloc (Nat.le_refl _) _).alloc (by simp) _).alloc (by simp; omega) _
  have k1 : Blk W G 33 [.bool b1, .slice a1 l1 c1] := by rw [← hW, ← hG]; exact ((Blk.new w _ [_, _]).alloc _).alloc _
  have k2 : Blk W (G + 1) 33 [.bool b2, .slice a2 l2 c2] := by rw [← hW]; exact (blk_new _ _ [_, _] _ (by simp [hG])).alloc _
  have k3 : Blk W (G + 1 + 1) 35 [.bool false, .slice none 0 0, .slice none 0 0] := by rw [← hW]; exact blk_new _ _ [_, _, _] _ (by simp [hG])
  have hsW : W.heap.size = G + 3 := by rw [← hW]; simp [hG]
  -- what holds in every later world
  have hF : ∀ V, Below W.heap.size W V → V.cell? ⟨G, 0, none⟩ = some (.bool b1) ∧ V.cell? ⟨G, 1, none⟩ = some (.slice a1 l1 c1) ∧ V.cell? ⟨G + 1, 0, none⟩ = some (.bool b2) ∧ V.cell? ⟨G + 1, 1, none⟩ = some (.slice a2 l2 c2) ∧ G < V.heap.size ∧ G + 1 < V.heap.size ∧
      Nm V (.slice a1 l1 c1) N ∧ Nm V (.slice a2 l2 c2) D ∧ Blk V (G + 1 + 1) 35 [.bool false, .slice none 0 0, .slice none 0 0] ∧ Below w.heap.size w V := by
    intro V hV
    have q1 := k1.below hV k1.lt
    have q2 := k2.below hV k2.lt
    have hb := hal.trans (hV.mono hal.size)
    exact ⟨q1.cell 0, q1.cell 1, q2.cell 0, q2.cell 1, q1.lt, q2.lt, h1.below hb, h2.below hb, k3.below hV k3.lt, hb⟩
  have F := Lib.hid hF
  have hg0 : Nat.gcd N D ≠ 0 := fun h => h0 (Nat.eq_zero_of_gcd_eq_zero_right h)
  have hgL : Nat.gcd N D < Lim := Nat.lt_of_le_of_lt (Nat.gcd_le_right N (Nat.pos_of_ne_zero h0)) hD
  have HL := Lib.hid (And.intro hN (And.intro hD (And.intro hg0 hgL)))
  have HS := Lib.hid (And.intro hsW hG)
  have hsg : ¬ zsgn b2 D = 0 := by unfold zsgn; rw [if_neg h0]; split <;> decide
  have C0 := Lib.hid (zsign_any b2 _ D W (hF W (Below.refl _ _)).2.2.2.2.2.2.2.1)
  obtain ⟨x0, x1, x2, x3, xl, xl1, -⟩ := hF W (Below.refl _ _)
  clear hF hal k1 k2 k3 hsW h1 h2 hN hD h0 hg0 hgL
  generalize zsgn b2 D = sg at *
  go_enter Try.func37, Try.ntmps37
  rw [hG]
  go_wp2_with fail
  refine C0.out.mono ?_
  rintro e w1 ⟨rfl, hb1⟩
  obtain ⟨y0, y1, y2, y3, yl, yl1, hm1, hm2, -, -⟩ := F.out w1 hb1
  have HG := Lib.hid (gcd_any _ _ N D w1 hm1 hm2 HL.out.1 HL.out.2.1)
  have HB1 := Lib.hid hb1
  clear hW x0 x1 x2 x3 xl xl1 hm1 hm2 hb1
  go_wp2_with fail
  refine HG.out.mono ?_
  rintro e w2 ⟨ht, hb2⟩
  obtain ⟨ga, gc, rfl, hgn⟩ := ht.ok HL.out.2.2.2
  have HB2 := Lib.hid (HB1.out.trans (hb2.mono HB1.out.size))
  have HGN := Lib.hid hgn
  obtain ⟨z0, z1, z2, z3, zl, zl1, hm1, hm2, -, -⟩ := F.out w2 HB2.out
  have HD1 := Lib.hid (div_any _ _ N (Nat.gcd N D) w2 hm1 hgn.nm HL.out.1 HL.out.2.2.2 HL.out.2.2.1)
  clear ht hb2 hgn hm1 hm2 y0 y1 y2 y3 yl yl1 HG
  go_wp2_with (go_at_call 49; refine (mustNat_ok _ _ _ _).mono ?_; rintro e wm ⟨rfl, rfl⟩)
  refine HD1.out.mono ?_
  rintro e w3 ⟨⟨qa, qc, ra, rc, rfl, hqn, -⟩, hb3⟩
  have HB3 := Lib.hid (HB2.out.trans (hb3.mono HB2.out.size))
  have HQ1 := Lib.hid (hqn.ge HB2.out.size)
  obtain ⟨u0, u1, u2, u3, ul, ul1, hm1, hm2, -, -⟩ := F.out w3 HB3.out
  have HD2 := Lib.hid (div_any _ _ D (Nat.gcd N D) w3 hm2 (HGN.out.nm.below hb3) HL.out.2.1 HL.out.2.2.2 HL.out.2.2.1)
  clear hb3 hqn hm1 hm2 z0 z1 z2 z3 zl zl1 HD1
  go_wp2_with (go_at_call 49; refine (mustNat_ok _ _ _ _).mono ?_; rintro e wm ⟨rfl, rfl⟩)
  refine HD2.out.mono ?_
  rintro e w4 ⟨⟨qa2, qc2, ra2, rc2, rfl, hqn2, -⟩, hb4⟩
  have HB4 := Lib.hid (HB3.out.trans (hb4.mono HB3.out.size))
  have HQ2 := Lib.hid (hqn2.ge HB3.out.size)
  have HQ1' := Lib.hid (HQ1.out.below hb4)
  obtain ⟨v0, v1, v2, v3, vl, vl1, hm1, hm2, -, -⟩ := F.out w4 HB4.out
  have hnl : N / Nat.gcd N D < Lim := Nat.lt_of_le_of_lt (Nat.div_le_self _ _) HL.out.1
  have HZ := Lib.hid (znorm_ok (!(b1 == b2)) _ _ w4 HQ1'.out.nm hnl)
  clear hb4 hqn2 hm1 hm2 u0 u1 u2 u3 ul ul1 HD2 hnl
  go_wp2_with (go_at_call 49; refine (mustNat_ok _ _ _ _).mono ?_; rintro e wm ⟨rfl, rfl⟩)
  refine HZ.out.mono ?_
  rintro e w5 ⟨⟨za, zc, rfl, hzn⟩, hb5⟩
  have HB5 := Lib.hid (HB4.out.trans (hb5.mono HB4.out.size))
  have HZ5 := Lib.hid (hzn.ge HB4.out.size)
  have HQ5 := Lib.hid (HQ2.out.below hb5)
  clear hzn hb5 v0 v1 v2 v3 vl vl1 HZ
  go_wp2_with fail
  refine (mustInt_ok _ _ _ _ _).mono ?_
  rintro e w6 ⟨rfl, hb6⟩
  have HB6 := Lib.hid (HB5.out.trans (hb6.mono HB5.out.size))
  have HZ6 := Lib.hid (HZ5.out.below hb6)
  have HQ6 := Lib.hid (HQ5.out.below hb6)
  obtain ⟨-, -, -, -, -, -, -, -, k6, hbw6⟩ := F.out w6 HB6.out
  have f0 := k6.frozen 0 (by simp)
  have f1 := k6.frozen 1 (by simp)
  have f2 := k6.frozen 2 (by simp)
  have c0 := k6.cell 0
  have c1' := k6.cell 1
  have c2' := k6.cell 2
  have kl := k6.lt
  simp only [List.getElem?_cons_zero, List.getElem?_cons_succ] at c0 c1' c2'
  have hk := ((k6.set_ 0 (.bool (zneg (!(b1 == b2)) (N / Nat.gcd N D)))).set_ 1 (.slice za (nl (N / Nat.gcd N D)) zc)).set_ 2 (.slice qa2 (nl (D / Nat.gcd N D)) qc2)
  have d0 := hk.cell 0
  have d1 := hk.cell 1
  have d2 := hk.cell 2
  simp only [List.set_cons_zero, List.set_cons_succ, List.getElem?_cons_zero, List.getElem?_cons_succ] at d0 d1 d2
  have hwG : w.heap.size ≤ G := by rw [HS.out.2]; exact Nat.le_refl _
  have hGW : G + 1 + 1 < W.heap.size := by rw [HS.out.1]; omega
  have hbE : ∀ x y z : Value, Below w.heap.size w (((w6.setCell ⟨G + 1 + 1, 0, none⟩ x).setCell ⟨G + 1 + 1, 1, none⟩ y).setCell ⟨G + 1 + 1, 2, none⟩ z) := fun x y z =>
    ((hbw6.setCell (p := ⟨G + 1 + 1, 0, none⟩) (by show w.heap.size ≤ G + 1 + 1; omega) x).setCell (p := ⟨G + 1 + 1, 1, none⟩) (by show w.heap.size ≤ G + 1 + 1; omega) y).setCell (p := ⟨G + 1 + 1, 2, none⟩) (by show w.heap.size ≤ G + 1 + 1; omega) z
  have hz1 := fun (x y z : Value) => nn_set (nn_set (nn_set HZ6.out (G + 1 + 1) 0 x hGW) (G + 1 + 1) 1 y hGW) (G + 1 + 1) 2 z hGW
  have hq1 := fun (x y z : Value) => nn_set (nn_set (nn_set HQ6.out (G + 1 + 1) 0 x hGW) (G + 1 + 1) 1 y hGW) (G + 1 + 1) 2 z hGW
  have FF := Lib.hid (And.intro d0 (And.intro d1 (And.intro d2 (And.intro hbE (And.intro hz1 hq1)))))
  have hws : G ≤ W.heap.size := by omega
  clear d0 d1 d2 hk hbE hz1 hq1 hb6 hbw6 k6 F
  go_wp2_with fail
  refine bodyPost_ret (v := .agg #[.bool (zneg (!(b1 == b2)) (N / Nat.gcd N D)), .slice za (nl (N / Nat.gcd N D)) zc, .slice qa2 (nl (D / Nat.gcd N D)) qc2]) (by simp [results, Try.results37, go_sem, FF.out.1, FF.out.2.1, FF.out.2.2.1]) rfl ⟨⟨_, rfl, za, zc, qa2, qc2, rfl, ?_, ?_⟩, (FF.out.2.2.2.1 _ _ _).mono (by rw [HS.out.2]; exact Nat.le_refl _)⟩
  · exact (FF.out.2.2.2.2.1 _ _ _).ge hws
  · exact (FF.out.2.2.2.2.2 _ _ _).ge hws
end Go.Proofs.Ytljgiagdmnedpaa.Frac_
