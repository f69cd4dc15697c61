/-
Contracts of the reference's integers: Norm, Sign, Text, Same.
-/
import Derived.Test.YtpnllalefpkcjaaGreatDoorRefText
namespace Go.Proofs.YtpnllalefpkcjaaGreatDoor.Nat_
open Go.RowKit

/-- The sign of an integer in its normal form. -/
def zneg (b : Bool) (n : Nat) : Bool := b && decide (n ≠ 0)
/-- An integer told in its normal form, in new memory. -/
def RInt (w : World) (b : Bool) (n : Nat) (e : Ending) (w' : World) : Prop :=
  ∃ a c, e = .returned (.agg #[.bool (zneg b n), .slice a (nl n) c]) ∧ NN w.heap.size w' (.slice a (nl n) c) n ∧ Below w.heap.size w w'
set_option maxRecDepth 100000 in
set_option maxHeartbeats 1000000 in
theorem rznorm_any (b : Bool) (m : Value) (n : Nat) (w : World) (h : Nm w m n) :
    Calls Tryz.prog 30 #[.agg #[.bool b, m]] w (RInt w b n) := by
  obtain ⟨a, len, cap, rfl, -, -, -⟩ := h.slice
  obtain ⟨W, hW⟩ : ∃ W, (w.alloc (.cells #[.bool b, .slice a len cap] 47)).alloc (.cells #[.bool false, .slice none 0 0] 47) = W := ⟨_, rfl⟩
  have hal : Below w.heap.size w W := by rw [← hW]; exact ((Below.refl w.heap.size w).alloc (Nat.le_refl _) _).alloc (by simp) _
  have k1 : Blk W w.heap.size 47 [.bool b, .slice a len cap] := by rw [← hW]; exact (Blk.new w _ [_, _]).alloc _
  have k2 : Blk W (w.heap.size + 1) 47 [.bool false, .slice none 0 0] := by rw [← hW]; exact blk_new _ _ [_, _] _ (by simp)
  have c0 := rnorm_any _ n W (h.below hal)
  have C0 := Lib.hid c0
  have HAL := Lib.hid hal
  have hsW : W.heap.size = w.heap.size + 2 := by rw [← hW]; simp
  have HSW := Lib.hid hsW
  obtain ⟨G, hG⟩ : ∃ G, w.heap.size = G := ⟨_, rfl⟩
  rw [hG] at k1 k2
  have HG := Lib.hid hG
  have hz : (n = 0 ↔ nl n = 0) := (nl_zero n).symm
  have x0 := k1.cell 0
  have x1 := k1.cell 1
  simp only [List.getElem?_cons_zero, List.getElem?_cons_succ] at x0 x1
  clear c0 hal hsW h
  go_enter Tryz.func30, Tryz.ntmps30
  go_wp2_with fail
  clear hW hG
  refine C0.out.mono ?_
  rintro e w1 ⟨a1, c1, rfl, hn1, hb1⟩
  have k11 := k1.below hb1 k1.lt
  have k21 := k2.below hb1 k2.lt
  have y0 := k11.cell 0
  have y1 := k11.cell 1
  have f0 := k21.frozen 0 (by simp)
  have f1 := k21.frozen 1 (by simp)
  have z0 := k21.cell 0
  have z1 := k21.cell 1
  have l1 := k11.lt
  have l2 := k21.lt
  simp only [List.getElem?_cons_zero, List.getElem?_cons_succ] at y0 y1 z0 z1
  have hneg : ∃ ng : Bool, (b && decide (0 < nl n)) = ng ∧ zneg b n = ng := by
    refine ⟨_, rfl, ?_⟩
    unfold zneg
    congr 1
    by_cases h0 : n = 0
    · simp [h0, (nl_zero 0).2 rfl]
    · have : nl n ≠ 0 := fun h => h0 ((nl_zero n).1 h)
      simp [h0]; omega
  obtain ⟨ng, hng, hzn⟩ := hneg
  have HZN := Lib.hid hzn
  have k3 := (k21.set_ 0 (.bool ng)).set_ 1 (.slice a1 (nl n) c1)
  have hN2 := nn_set (nn_set (hn1.ge (show G + 2 ≤ W.heap.size by rw [HSW.out, HG.out]; exact Nat.le_refl _)) (G + 1) 0 (.bool ng) (by omega)) (G + 1) 1 (.slice a1 (nl n) c1) (by omega)
  have hB2 := ((HAL.out.trans (hb1.mono HAL.out.size)).setCell (p := ⟨G + 1, 0, none⟩) (by show w.heap.size ≤ G + 1; rw [HG.out]; omega) (.bool ng)).setCell (p := ⟨G + 1, 1, none⟩) (by show w.heap.size ≤ G + 1; rw [HG.out]; omega) (.slice a1 (nl n) c1)
  have u0 := k3.cell 0
  have u1 := k3.cell 1
  simp only [List.set_cons_zero, List.set_cons_succ, List.getElem?_cons_zero, List.getElem?_cons_succ] at u0 u1
  have FX := Lib.hid (And.intro u0 (And.intro u1 (And.intro hN2 hB2)))
  clear u0 u1 hN2 hB2 k3 hzn hn1 hb1 k1 k2 x0 x1 k11 k21 hz
  cases b with
  | false =>
    obtain rfl : false = ng := by simpa using hng
    clear hng
    go_wp2_with fail
    refine bodyPost_ret (v := .agg #[.bool false, .slice a1 (nl n) c1]) (by simp [results, Tryz.results30, go_sem, FX.out.1, FX.out.2.1]) rfl ⟨a1, c1, by rw [HZN.out], FX.out.2.2.1.ge (by rw [HG.out]; omega), FX.out.2.2.2⟩
  | true =>
    by_cases h0 : nl n = 0
    · obtain rfl : false = ng := by simpa [h0] using hng
      clear hng
      have d0 : decide (0 < nl n) = false := by simp [h0]
      clear h0
      go_wp2_with fail
      refine bodyPost_ret (v := .agg #[.bool false, .slice a1 (nl n) c1]) (by simp [results, Tryz.results30, go_sem, FX.out.1, FX.out.2.1]) rfl ⟨a1, c1, by rw [HZN.out], FX.out.2.2.1.ge (by rw [HG.out]; omega), FX.out.2.2.2⟩
    · have d0 : decide (0 < nl n) = true := by simp; omega
      obtain rfl : true = ng := by simpa [d0] using hng
      clear hng h0
      go_wp2_with fail
      refine bodyPost_ret (v := .agg #[.bool true, .slice a1 (nl n) c1]) (by simp [results, Tryz.results30, go_sem, FX.out.1, FX.out.2.1]) rfl ⟨a1, c1, by rw [HZN.out], FX.out.2.2.1.ge (by rw [HG.out]; omega), FX.out.2.2.2⟩
def zsgn (b : Bool) (n : Nat) : Int := if n = 0 then 0 else if b then -1 else 1
set_option maxRecDepth 100000 in
set_option maxHeartbeats 1000000 in
theorem rzsign_any (b : Bool) (m : Value) (n : Nat) (w : World) (h : Nm w m n) :
    Calls Tryz.prog 67 #[.agg #[.bool b, m]] w fun e w' => e = .returned (.int .i64 (zsgn b n)) ∧ Below w.heap.size w w' := by
  obtain ⟨a, len, cap, rfl, -, -, -⟩ := h.slice
  have hal := (Below.refl w.heap.size w).alloc (Nat.le_refl _) (.cells #[.bool b, .slice a len cap] 47)
  have c0 := rbits_any _ n _ (h.below hal)
  have C0 := Lib.hid c0
  have HAL := Lib.hid hal
  have hz := nbits_zero n
  have hbb : nbits n = 0 ∨ 0 < nbits n := by omega
  have hs : ∃ sg, zsgn b n = sg := ⟨_, rfl⟩
  clear c0 hal h
  by_cases h0 : n = 0
  · have e0 : nbits n = 0 := hz.2 h0
    have HF := Lib.hid (show zsgn b n = 0 by unfold zsgn; rw [if_pos h0])
    rw [e0] at C0
    clear hz hbb hs h0 e0
    go_enter Tryz.func67, Tryz.ntmps67
    go_wp2_with fail
    refine C0.out.mono ?_
    rintro e w1 ⟨rfl, rfl⟩
    go_wp2_with fail
    go_ret
    exact ⟨ret_int (by rw [HF.out]), HAL.out⟩
  · have e0 : nbits n ≠ 0 := fun h => h0 (hz.1 h)
    have hne : ((nbits n : Int) == 0) = false := by rw [beq_eq_false_iff_ne]; omega
    have HF := Lib.hid (show zsgn b n = if b then -1 else 1 by unfold zsgn; rw [if_neg h0])
    generalize nbits n = nb at *
    clear hz hbb hs h0 e0
    cases b with
    | false =>
      go_enter Tryz.func67, Tryz.ntmps67
      go_wp2_with fail
      refine C0.out.mono ?_
      rintro e w1 ⟨rfl, rfl⟩
      go_wp2_with fail
      go_ret
      exact ⟨ret_int (by rw [HF.out]; rfl), HAL.out⟩
    | true =>
      go_enter Tryz.func67, Tryz.ntmps67
      go_wp2_with fail
      refine C0.out.mono ?_
      rintro e w1 ⟨rfl, rfl⟩
      go_wp2_with fail
      go_ret
      exact ⟨ret_int (by rw [HF.out]; rfl), HAL.out⟩
theorem zdecs_neg (b : Bool) (n : Nat) : zdecs b n = if zsgn b n < 0 then 45 :: decs n else decs n := by
  unfold zdecs zsgn
  by_cases h : n = 0
  · simp [h]
  · cases b <;> simp [h]
set_option maxRecDepth 100000 in
set_option maxHeartbeats 1000000 in
theorem rztext_any (b : Bool) (m : Value) (n K : Nat) (w : World) (h : Nm w m n) (hK : K ≤ 200000) (hK1 : 1 ≤ K) (hn : n < 4294967296 ^ K) :
    Calls Tryz.prog 46 #[.agg #[.bool b, m]] w fun e w' => e = .returned (.string ⟨(zdecs b n).toArray⟩) ∧ Below w.heap.size w w' := by
  obtain ⟨a, len, cap, rfl, -, -, -⟩ := h.slice
  obtain ⟨W, hW⟩ : ∃ W, w.alloc (.cells #[.bool b, .slice a len cap] 47) = W := ⟨_, rfl⟩
  have hal : Below w.heap.size w W := by rw [← hW]; exact (Below.refl w.heap.size w).alloc (Nat.le_refl _) _
  have k1 : Blk W w.heap.size 47 [.bool b, .slice a len cap] := by rw [← hW]; exact Blk.new w _ [_, _]
  have c1 := rzsign_any b _ n W (h.below hal)
  have c2 := fun w' (hb : Below w.heap.size w w') => rtext_nat _ n K w' (h.below hb) hK hK1 hn
  have hzd := zdecs_neg b n
  have hsg : zsgn b n < 0 ∨ ¬ zsgn b n < 0 := Decidable.em _
  have hsb : -1 ≤ zsgn b n ∧ zsgn b n ≤ 1 := by
    unfold zsgn
    split
    · omega
    · split <;> omega
  generalize zsgn b n = sg at *
  have hdl : (decs n).length ≤ 10 * K + 1 := by
    have := ten_len hn
    unfold decs
    split
    · simp
    · rw [List.length_reverse]; omega
  have C1 := Lib.hid c1
  have C2 := Lib.hid c2
  have HAL := Lib.hid hal
  obtain ⟨G, hG⟩ : ∃ G, w.heap.size = G := ⟨_, rfl⟩
  rw [hG] at k1
  have x0 := k1.cell 0
  have x1 := k1.cell 1
  simp only [List.getElem?_cons_zero, List.getElem?_cons_succ] at x0 x1
  rcases hsg with hs | hs
  · have HF := Lib.hid (show (⟨(zdecs b n).toArray⟩ : ByteArray) = ⟨#[45]⟩ ++ ⟨(decs n).toArray⟩ by rw [hzd, if_pos hs, Notch.cons_bytes])
    have hs1 : (⟨#[45]⟩ : ByteArray).size = 1 := rfl
    have hbs := bsize (decs n)
    clear c1 c2 hal h hzd
    go_enter Tryz.func46, Tryz.ntmps46
    go_wp2_with fail
    clear hW hG
    refine C1.out.mono ?_
    rintro e w1 ⟨rfl, hb1⟩
    have k2 := k1.below hb1 k1.lt
    have y1 := k2.cell 1
    have l2 := k2.lt
    have hB1 := HAL.out.trans (hb1.mono HAL.out.size)
    simp only [List.getElem?_cons_zero, List.getElem?_cons_succ] at y1
    clear hb1
    go_wp2_with fail
    refine (C2.out w1 hB1).mono ?_
    rintro e w2 ⟨rfl, hb2⟩
    have hB2 := bel_tr hB1 hb2
    go_wp2_with fail
    go_ret
    exact ⟨ret_str HF.out.symm, hB2⟩
  · have HF := Lib.hid (show (⟨(zdecs b n).toArray⟩ : ByteArray) = ⟨(decs n).toArray⟩ by rw [hzd, if_neg hs])
    clear c1 c2 hal h hzd
    go_enter Tryz.func46, Tryz.ntmps46
    go_wp2_with fail
    clear hW hG
    refine C1.out.mono ?_
    rintro e w1 ⟨rfl, hb1⟩
    have k2 := k1.below hb1 k1.lt
    have y1 := k2.cell 1
    have l2 := k2.lt
    have hB1 := HAL.out.trans (hb1.mono HAL.out.size)
    simp only [List.getElem?_cons_zero, List.getElem?_cons_succ] at y1
    clear hb1
    go_wp2_with fail
    refine (C2.out w1 hB1).mono ?_
    rintro e w2 ⟨rfl, hb2⟩
    have hB2 := bel_tr hB1 hb2
    go_wp2_with fail
    go_ret
    exact ⟨ret_str HF.out.symm, hB2⟩
set_option maxRecDepth 100000 in
set_option maxHeartbeats 1000000 in
/-- Same, of what is the same. -/
theorem rzsame_eq (b : Bool) (v u : Value) (n : Nat) (w : World) (h : Lb w v (limbs n)) (h' : Lb w u (limbs n)) (hb : b = true → n ≠ 0) :
    Calls Tryz.prog 51 #[.agg #[.bool b, v], .agg #[.bool b, u]] w fun e w' => e = .returned (.bool true) ∧ Below w.heap.size w w' := by
  obtain ⟨W, hW⟩ : ∃ W, (w.alloc (.cells #[.bool b, v] 47)).alloc (.cells #[.bool b, u] 47) = W := ⟨_, rfl⟩
  have hal : Below w.heap.size w W := by rw [← hW]; exact ((Below.refl w.heap.size w).alloc (Nat.le_refl _) _).alloc (by simp) _
  have k1 : Blk W w.heap.size 47 [.bool b, v] := by rw [← hW]; exact (Blk.new w _ [_, _]).alloc _
  have k2 : Blk W (w.heap.size + 1) 47 [.bool b, u] := by rw [← hW]; exact blk_new _ _ [_, _] _ (by simp)
  have c0 := rsame_eq v u n W (h.below hal) (h'.below hal)
  have hlen : b = true → 0 < (limbs n).length := fun h => Nat.pos_of_ne_zero (fun h0 => hb h ((limbs_nil n).1 (List.length_eq_zero_iff.1 h0)))
  obtain ⟨a1, l1, e1, rfl, z1, -, y1, -, -, -⟩ := h
  obtain ⟨a2, l2, e2, rfl, z2, -, y2, -, -, -⟩ := h'
  rw [z1] at hlen
  unfold maxLen at y1 y2
  have C0 := Lib.hid c0
  have HAL := Lib.hid hal
  obtain ⟨G, hG⟩ : ∃ G, w.heap.size = G := ⟨_, rfl⟩
  rw [hG] at k1 k2
  have x0 := k1.cell 0
  have x1 := k1.cell 1
  have x2 := k2.cell 0
  have x3 := k2.cell 1
  simp only [List.getElem?_cons_zero, List.getElem?_cons_succ] at x0 x1 x2 x3
  clear c0 hal hb z1 z2
  cases b with
  | false =>
    clear hlen
    go_enter Tryz.func51, Tryz.ntmps51
    go_wp2_with fail
    clear hW hG
    refine C0.out.mono ?_
    rintro e w1 ⟨rfl, hb1⟩
    have k11 := k1.below hb1 k1.lt
    have k21 := k2.below hb1 k2.lt
    have t0 := k11.cell 0
    have t1 := k11.cell 1
    have q1 := k11.lt
    simp only [List.getElem?_cons_zero, List.getElem?_cons_succ] at t0 t1
    go_wp2_with fail
    go_ret
    exact ⟨rfl, bel_tr HAL.out hb1⟩
  | true =>
    have hl1 := hlen rfl
    clear hlen
    go_enter Tryz.func51, Tryz.ntmps51
    go_wp2_with fail
    clear hW hG
    refine C0.out.mono ?_
    rintro e w1 ⟨rfl, hb1⟩
    have k11 := k1.below hb1 k1.lt
    have k21 := k2.below hb1 k2.lt
    have t0 := k11.cell 0
    have t1 := k11.cell 1
    have q1 := k11.lt
    simp only [List.getElem?_cons_zero, List.getElem?_cons_succ] at t0 t1
    go_wp2_with fail
    go_ret
    exact ⟨rfl, bel_tr HAL.out hb1⟩
end Go.Proofs.YtpnllalefpkcjaaGreatDoor.Nat_
