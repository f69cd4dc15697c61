/-
frac.Of, Text.
-/
import Derived.Test.YtljgiagdmnedpaaFracNorm
namespace Go.Proofs.Ytljgiagdmnedpaa.Frac_
open Go.RowKit Nat_

theorem limb_dec (k m : Nat) (h : m = 20 * k) : 18446744073709551616 ^ k ≤ 10 ^ m := by
  rw [h, Nat.pow_mul]
  exact Nat.pow_le_pow_left (by decide) k
theorem decs_lim_k (k m n : Nat) (hm : m = 20 * k) (h0 : 0 < m) (h : n < 18446744073709551616 ^ k) : (decs n).length ≤ m := by
  rw [decs_len m n h0]
  exact Nat.lt_of_lt_of_le h (limb_dec k m hm)
theorem decs_lim (n : Nat) (h : n < Lim) : (decs n).length ≤ 40960 := by
  unfold Lim at h
  exact decs_lim_k _ _ n (by decide) (by decide) h
set_option maxRecDepth 100000 in
set_option maxHeartbeats 2000000 in
theorem of_any (x : Int) (w : World) (h0 : -9223372036854775808 ≤ x) (h1 : x ≤ 9223372036854775807) :
    Calls Try.prog 8 #[.int .i64 x] w (FOut w (decide (x < 0)) x.natAbs 1) := by
  obtain ⟨W, hW⟩ : ∃ W, w.alloc (.cells #[.bool false, .slice none 0 0, .slice none 0 0] 35) = W := ⟨_, rfl⟩
  obtain ⟨G, hG⟩ : ∃ G, w.heap.size = G := ⟨_, rfl⟩
  have hal : Below w.heap.size w W := by rw [← hW]; exact (Below.refl w.heap.size w).alloc (Nat.le_refl _) _
  have k3 : Blk W G 35 [.bool false, .slice none 0 0, .slice none 0 0] := by rw [← hW]; exact blk_new _ _ [_, _, _] _ hG
  have hsW : W.heap.size = G + 1 := by rw [← hW]; simp [hG]
  have K := Lib.hid (And.intro k3 (And.intro hsW (And.intro hal hG)))
  have C1 := Lib.hid (zof_small x W h0 h1)
  clear k3 hsW hal h0 h1
  generalize decide (x < 0) = sg at *
  generalize x.natAbs = pn at *
  go_enter Try.func8, Try.ntmps8
  go_wp2_with fail
  clear hW
  refine C1.out.mono ?_
  rintro e w1 ⟨a, c, rfl, hn1, hb1⟩
  have q1 := K.out.1.below hb1 K.out.1.lt
  have hB1 := K.out.2.2.1.trans (hb1.mono K.out.2.2.1.size)
  have C2 := Lib.hid (Nat_.of_any 1 w1 (by decide))
  have HN1 := Lib.hid hn1
  have HB1 := Lib.hid (And.intro hB1 (And.intro q1 hb1.size))
  clear hn1 hb1 hB1 q1 C1
  go_wp2_with fail
  refine C2.out.mono ?_
  rintro e w2 ⟨a', c', rfl, hn2, hb2⟩
  have q := HB1.out.2.1.below hb2 HB1.out.2.1.lt
  have hB := HB1.out.1.trans (hb2.mono HB1.out.1.size)
  have hn1 := HN1.out.below hb2
  have hn2' := hn2.ge HB1.out.2.2
  have h1l : nl 1 = 1 := rfl
  have f0 := q.frozen 0 (by simp)
  have f1 := q.frozen 1 (by simp)
  have f2 := q.frozen 2 (by simp)
  have p0 := q.cell 0
  have p1 := q.cell 1
  have p2 := q.cell 2
  have pl := q.lt
  simp only [List.getElem?_cons_zero, List.getElem?_cons_succ] at p0 p1 p2
  have hk := ((q.set_ 0 (.bool sg)).set_ 1 (.slice a (nl pn) c)).set_ 2 (.slice a' (nl 1) c')
  have d0 := hk.cell 0
  have d1 := hk.cell 1
  have d2 := hk.cell 2
  simp only [List.set_cons_zero, List.set_cons_succ, List.getElem?_cons_zero, List.getElem?_cons_succ] at d0 d1 d2
  rw [K.out.2.1] at hn1 hn2'
  have hE2 : G < G + 1 := by omega
  have hz1 := nn_set (nn_set (nn_set hn1 G 0 (.bool sg) hE2) G 1 (.slice a (nl pn) c) hE2) G 2 (.slice a' (nl 1) c') hE2
  have hz2 := nn_set (nn_set (nn_set hn2' G 0 (.bool sg) hE2) G 1 (.slice a (nl pn) c) hE2) G 2 (.slice a' (nl 1) c') hE2
  have hwE : w.heap.size ≤ G := by rw [K.out.2.2.2]; omega
  have hbE := ((hB.setCell (p := ⟨G, 0, none⟩) hwE (.bool sg)).setCell (p := ⟨G, 1, none⟩) hwE (.slice a (nl pn) c)).setCell (p := ⟨G, 2, none⟩) hwE (.slice a' (nl 1) c')
  have hge : w.heap.size ≤ G + 1 := by rw [K.out.2.2.2]; omega
  have FF := Lib.hid (And.intro d0 (And.intro d1 (And.intro d2 (And.intro (hz1.ge hge) (And.intro (hz2.ge hge) hbE)))))
  clear d0 d1 d2 hz1 hz2 hbE hk hn1 hn2 hn2' q hwE hE2 hge hB hb2 h1l
  obtain ⟨l1, hl1⟩ : ∃ l, nl 1 = l := ⟨_, rfl⟩
  rw [hl1] at FF ⊢
  have HL1 := Lib.hid hl1
  clear hl1
  go_wp2_with fail
  exact bodyPost_ret (v := .agg #[.bool sg, .slice a (nl pn) c, .slice a' l1 c']) (by simp [results, Try.results8, go_sem, FF.out.1, FF.out.2.1, FF.out.2.2.1]) rfl ⟨⟨_, rfl, a, c, a', c', by rw [HL1.out], FF.out.2.2.2.1, by rw [HL1.out]; exact FF.out.2.2.2.2.1⟩, FF.out.2.2.2.2.2⟩
/-- The text of a rational number. -/
def fracT (b : Bool) (n d : Nat) : List UInt8 := if d = 1 then zdecs b n else zdecs b n ++ 47 :: decs d
set_option maxRecDepth 100000 in
set_option maxHeartbeats 4000000 in
theorem text_ok (b : Bool) (m1 m2 : Value) (N D : Nat) (w : World) (h1 : Nm w m1 N) (h2 : Nm w m2 D) (hN : N < Lim) (hD : D < Lim) (h0 : D ≠ 0) :
    Calls Try.prog 23 #[.agg #[.bool b, m1, m2]] w fun e w' => e = .returned (.string ⟨(fracT (zneg b (fn N D)) (fn N D) (fd N D)).toArray⟩) ∧ Below w.heap.size w w' := by
  obtain ⟨a1, l1, c1, rfl, -, -, -⟩ := h1.slice
  obtain ⟨a2, l2, c2, rfl, -, -, -⟩ := h2.slice
  obtain ⟨W, hW⟩ : ∃ W, w.alloc (.cells #[.bool b, .slice a1 l1 c1, .slice a2 l2 c2] 35) = W := ⟨_, rfl⟩
  obtain ⟨G, hG⟩ : ∃ G, w.heap.size = G := ⟨_, rfl⟩
  have hal : Below w.heap.size w W := by rw [← hW]; exact (Below.refl w.heap.size w).alloc (Nat.le_refl _) _
  have k1 : Blk W G 35 [.bool b, .slice a1 l1 c1, .slice a2 l2 c2] := by rw [← hW]; exact blk_new _ _ [_, _, _] _ hG
  have hsW : W.heap.size = G + 1 := by rw [← hW]; simp [hG]
  have C := Lib.hid (norm_ok b _ _ N D W (h1.below hal) (h2.below hal) hN hD h0)
  have K := Lib.hid (And.intro k1 (And.intro hsW (And.intro hal hG)))
  have hfn : fn N D < Lim := Nat.lt_of_le_of_lt (Nat.div_le_self _ _) hN
  have hfd : fd N D < Lim := Nat.lt_of_le_of_lt (Nat.div_le_self _ _) hD
  have x0 := k1.cell 0
  have x1 := k1.cell 1
  have x2 := k1.cell 2
  have xl := k1.lt
  simp only [List.getElem?_cons_zero, List.getElem?_cons_succ] at x0 x1 x2
  have HL := Lib.hid (And.intro hfn hfd)
  clear k1 hsW hal h1 h2 hN hD h0 hfn hfd
  generalize zneg b (fn N D) = sg at *
  generalize fn N D = pn at *
  generalize fd N D = pd at *
  go_enter Try.func23, Try.ntmps23
  go_wp2_with fail
  clear hW
  refine C.out.mono ?_
  rintro e w1 ⟨⟨v, rfl, a, c, a', c', rfl, hn1, hn2⟩, hb1⟩
  have q := K.out.1.below hb1 K.out.1.lt
  have hB := K.out.2.2.1.trans (hb1.mono K.out.2.2.1.size)
  have f0 := q.frozen 0 (by simp)
  have f1 := q.frozen 1 (by simp)
  have f2 := q.frozen 2 (by simp)
  have p0 := q.cell 0
  have p1 := q.cell 1
  have p2 := q.cell 2
  have pl := q.lt
  simp only [List.getElem?_cons_zero, List.getElem?_cons_succ] at p0 p1 p2
  have hk := ((q.set_ 0 (.bool sg)).set_ 1 (.slice a (nl pn) c)).set_ 2 (.slice a' (nl pd) c')
  simp only [List.set_cons_zero, List.set_cons_succ] at hk
  rw [K.out.2.1] at hn1 hn2
  have hE2 : G < G + 1 := by omega
  have hz1 := nn_set (nn_set (nn_set hn1 G 0 (.bool sg) hE2) G 1 (.slice a (nl pn) c) hE2) G 2 (.slice a' (nl pd) c') hE2
  have hz2 := nn_set (nn_set (nn_set hn2 G 0 (.bool sg) hE2) G 1 (.slice a (nl pn) c) hE2) G 2 (.slice a' (nl pd) c') hE2
  have hwE : w.heap.size ≤ G := by rw [K.out.2.2.2]; omega
  have hbE := ((hB.setCell (p := ⟨G, 0, none⟩) hwE (.bool sg)).setCell (p := ⟨G, 1, none⟩) hwE (.slice a (nl pn) c)).setCell (p := ⟨G, 2, none⟩) hwE (.slice a' (nl pd) c')
  obtain ⟨w2, hw2⟩ : ∃ w2, ((w1.setCell ⟨G, 0, none⟩ (.bool sg)).setCell ⟨G, 1, none⟩ (.slice a (nl pn) c)).setCell ⟨G, 2, none⟩ (.slice a' (nl pd) c') = w2 := ⟨_, rfl⟩
  rw [hw2] at hk hz1 hz2 hbE
  have y0 := hk.cell 0
  have y1 := hk.cell 1
  have y2 := hk.cell 2
  have yl := hk.lt
  simp only [List.getElem?_cons_zero, List.getElem?_cons_succ] at y0 y1 y2
  have CT := Lib.hid (ztext_any sg _ pn w2 hz1.nm HL.out.1)
  have H2 := Lib.hid (And.intro hk (And.intro hz2 (And.intro hbE hz1)))
  clear hk hz1 hz2 hbE hwE hn1 hn2 q hB hb1 x0 x1 x2 xl C
  go_wp2_with fail
  refine CT.out.mono ?_
  rintro e w3 ⟨rfl, hb3⟩
  have HB3 := Lib.hid (H2.out.2.2.1.trans (hb3.mono H2.out.2.2.1.size))
  have k3 := H2.out.1.below hb3 H2.out.1.lt
  have hnd := H2.out.2.1.below hb3
  have hG3 := k3.lt
  have F := Lib.hid (fun V (hV : Below w3.heap.size w3 V) => (show V.cell? ⟨G, 2, none⟩ = some (.slice a' (nl pd) c') ∧ Below w3.heap.size w3 V from ⟨(k3.below hV hG3).cell 2, hV⟩))
  have hB0 := Lib.hid (Below.refl w3.heap.size w3)
  have hBd := Lib.hid (Below.refl w3.heap.size w3).drew
  have CO := Lib.hid (fun V (hV : Below w3.heap.size w3 V) => (show Calls Try.prog 16 #[.int .u64 1] V _ from Nat_.of_any 1 V (by decide)).mono (fun e w' (h : ∃ a c, e = .returned (.slice a (nl 1) c) ∧ NN V.heap.size w' (.slice a (nl 1) c) 1 ∧ Below V.heap.size V w') =>
    (show ∃ a c, e = .returned (.slice a 1 c) ∧ Hid (NN V.heap.size w' (.slice a 1 c) 1) ∧ Below w3.heap.size w3 w' from by obtain ⟨a, c, h1, h2, h3⟩ := h; exact ⟨a, c, h1, h2, hV.trans (h3.mono hV.size)⟩)))
  have CC := Lib.hid (fun V (o : Value) (hV : Below w3.heap.size w3 V) (ho : Nm V o 1) => (cmp_any _ o pd 1 V (hnd.nm.below hV) ho).mono (fun e w' (h : e = .returned (.int .i64 (cmpN pd 1)) ∧ Below V.heap.size V w') =>
    (show e = .returned (.int .i64 (cmpN pd 1)) ∧ Below w3.heap.size w3 w' from ⟨h.1, hV.trans (h.2.mono hV.size)⟩)))
  obtain ⟨z2, -⟩ := F.out _ hB0.out
  obtain ⟨zd2, -⟩ := F.out _ hBd.out
  have hcn : (cmpN pd 1 = 0 ↔ pd = 1) := by unfold cmpN; split; · simp; omega
                                            split <;> simp <;> omega
  have HCN := Lib.hid hcn
  have HND := Lib.hid (And.intro hnd (And.intro k3 hG3))
  clear hcn hb3 hnd k3 y0 y1 y2 yl CT f0 f1 f2 p0 p1 p2 pl
  generalize cmpN pd 1 = cv at *
  go_wp2_with fail
  go_region_held3 (fun V => V.cell? ⟨G, 2, none⟩ = some (.slice a' (nl pd) c') ∧ Below w3.heap.size w3 V) ((with_reducible first | (exact F.out _ (by assumption)) | (exact F.out _ hB0.out) | (exact F.out _ hBd.out)))
    (first
    | (go_at_call 16; (with_reducible refine (CO.out _ (by first | assumption | (exact hB0.out) | (exact hBd.out))).mono ?_); rintro e wm ⟨oa, oc, rfl, hon, hbm⟩)
    | (go_at_call 32; (with_reducible refine (CC.out _ _ (by assumption) hon.out.nm).mono ?_); rintro e wn ⟨rfl, hbn⟩)
    | fail)
  have HBN := Lib.hid (HB3.out.trans (hbn.mono HB3.out.size))
  have k4 := HND.out.2.1.below hbn HND.out.2.2
  have u2 := k4.cell 2
  have ul := k4.lt
  simp only [List.getElem?_cons_zero, List.getElem?_cons_succ] at u2
  have HTX := Lib.hid (Nat_.text_ok _ pd wn (HND.out.1.below hbn).nm HL.out.2)
  clear CO CC F z2 zd2 hbn hbm hon k4
  by_cases h1 : pd = 1
  · have hc0 : cv = 0 := HCN.out.2 h1
    subst hc0
    have HR := Lib.hid (show fracT sg pn pd = zdecs sg pn by unfold fracT; rw [if_pos h1])
    clear h1
    go_wp2_with fail
    go_ret
    rw [HR.out]
    exact ⟨rfl, HBN.out.mono (by rw [K.out.2.2.2]; exact Nat.le_refl _)⟩
  · have hc0 : ¬ cv = 0 := fun h => h1 (HCN.out.1 h)
    have HR := Lib.hid (show fracT sg pn pd = zdecs sg pn ++ 47 :: decs pd by unfold fracT; rw [if_neg h1])
    have hl1 := decs_lim pd HL.out.2
    have hl2 : (zdecs sg pn).length ≤ 40961 := by
      have := decs_lim pn HL.out.1
      unfold zdecs
      split
      · simp; omega
      · omega
    clear h1
    obtain ⟨x, hx⟩ : ∃ x : ByteArray, (⟨(zdecs sg pn).toArray⟩ : ByteArray) = x := ⟨_, rfl⟩
    obtain ⟨y, hy⟩ : ∃ y : ByteArray, (⟨(decs pd).toArray⟩ : ByteArray) = y := ⟨_, rfl⟩
    have hxs : x.size ≤ 40961 := by rw [← hx]; exact hl2
    have hys : y.size ≤ 40960 := by rw [← hy]; exact hl1
    obtain ⟨z, hz⟩ : ∃ z : ByteArray, (⟨#[47]⟩ : ByteArray) ++ y = z := ⟨_, rfl⟩
    have hzs : z.size ≤ 40961 := by rw [← hz, ByteArray.size_append]; show 1 + y.size ≤ _; omega
    have hcat1 : ¬ 9223372036854775807 < (⟨#[47]⟩ : ByteArray).size + y.size := by show ¬ 9223372036854775807 < 1 + y.size; omega
    have hcat2 : ¬ 9223372036854775807 < x.size + z.size := by omega
    have HXY := Lib.hid (And.intro hx (And.intro hy hz))
    rw [hx]
    rw [hy] at HTX
    clear hx hy hl1 hl2
    go_wp2_with fail
    refine HTX.out.mono ?_
    rintro e w5 ⟨rfl, hb5⟩
    have HB5 := Lib.hid (HBN.out.trans (hb5.mono HBN.out.size))
    go_wp2_with fail
    go_ret
    refine ⟨?_, HB5.out.mono (by rw [K.out.2.2.2]; exact Nat.le_refl _)⟩
    rw [HR.out]
    show Ending.returned (.string (x ++ z)) = _
    rw [← HXY.out.2.2, ← HXY.out.1, ← HXY.out.2.1]
    congr 2
    first
    | done
    | (apply ByteArray.ext
       apply Array.ext'
       simp)
end Go.Proofs.Ytljgiagdmnedpaa.Frac_
