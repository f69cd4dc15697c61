/-
nat.times: a number times a limb.
-/
import Derived.Test.YtljgiagdmnedpaaNatShift
namespace Go.Proofs.Ytljgiagdmnedpaa.Nat_
open Go.RowKit Go.Shelf

/-- What stands in the row, and the carry, when j limbs have been multiplied. -/
def TiAt (l : List Nat) (g j : Nat) (O : List Nat) (c : Nat) : Prop :=
  O.length = l.length + 1 ∧ (∀ x ∈ O, x < 18446744073709551616) ∧ c < 18446744073709551616 ∧ val O + 18446744073709551616 ^ j * c = val (l.take j) * g ∧ ∀ i, j ≤ i → digit O i = 0
theorem TiAt.start (l : List Nat) (g : Nat) : TiAt l g 0 (List.replicate (l.length + 1) 0) 0 := by
  refine ⟨by simp, ?_, by decide, ?_, fun i _ => digit_rep _ _⟩
  · intro x hx
    obtain rfl := List.eq_of_mem_replicate hx
    decide
  · rw [val_rep]; simp [val]
theorem TiAt.step {l O : List Nat} {g j c : Nat} (h : TiAt l g j O c) (hj : j < l.length) (hl : ∀ x ∈ l, x < 18446744073709551616) (hg : g < 18446744073709551616) (hi lo s d : Nat)
    (hs : s < 18446744073709551616) (hm : digit l j * g = hi * 18446744073709551616 + lo) (ha : s + 18446744073709551616 * d = lo + c) : TiAt l g (j + 1) (O.set j s) (hi + d) := by
  obtain ⟨h1, h2, h3, h4, h5⟩ := h
  have hx := digit_lt l hl j
  have e1 := val_set O j s (by omega)
  have g1 : O[j]'(by omega) = 0 := by rw [← digit_get O j (by omega), h5 _ (Nat.le_refl _)]
  rw [g1, Nat.mul_zero, Nat.add_zero] at e1
  have ht : val (l.take (j + 1)) = val (l.take j) + 18446744073709551616 ^ j * digit l j := by
    rw [List.take_succ_eq_append_getElem hj, val_snoc, List.length_take, Nat.min_eq_left (by omega), digit_get l j hj]
  have htop : hi + d < 18446744073709551616 := by
    refine mul_top (digit l j) g 0 c (hi + d) hx hg (by decide) h3 s ?_
    rw [hm]; omega
  refine ⟨by simp [h1], mem_set_lt _ _ _ hs h2, htop, ?_, ?_⟩
  · rw [e1, ht, Nat.add_mul, ← h4, Nat.mul_assoc, hm, Nat.pow_succ]
    generalize 18446744073709551616 ^ j = P at *
    have e2 : P * (s + 18446744073709551616 * d) = P * (lo + c) := by rw [ha]
    rw [Nat.mul_add, Nat.mul_add, ← Nat.mul_assoc] at e2
    rw [Nat.mul_add, Nat.mul_add, Nat.mul_comm hi, ← Nat.mul_assoc]
    omega
  · intro i hi2
    rw [digit_set _ _ _ _ (by omega), if_neg (by omega)]
    exact h5 i (by omega)
theorem TiAt.fin {l O : List Nat} {g c : Nat} (h : TiAt l g l.length O c) : (O.set l.length c).length = l.length + 1 ∧ (∀ x ∈ O.set l.length c, x < 18446744073709551616) ∧ val (O.set l.length c) = val l * g := by
  obtain ⟨h1, h2, h3, h4, h5⟩ := h
  have e1 := val_set O l.length c (by omega)
  have g1 : O[l.length]'(by omega) = 0 := by rw [← digit_get O _ (by omega), h5 _ (Nat.le_refl _)]
  rw [g1, Nat.mul_zero, Nat.add_zero, h4, List.take_length] at e1
  exact ⟨by simp [h1], mem_set_lt _ _ _ h3 h2, e1⟩

set_option maxRecDepth 100000 in
set_option maxHeartbeats 4000000 in
theorem times_lb (v : Value) (l : List Nat) (g : Nat) (w : World) (h : Lb w v l) (hg : g < 18446744073709551616) (hs : l.length ≤ 900000) :
    Calls Try.prog 65 #[v, .int .u64 (g : Int)] w fun e w' => ∃ a c, e = .returned (.slice a (nl (val l * g)) c) ∧ NN w.heap.size w' (.slice a (nl (val l * g)) c) (val l * g) ∧ Below w.heap.size w w' := by
  have hl := h
  obtain ⟨a, len, cap, rfl, h1, -, -, -, hlt, -⟩ := h
  obtain ⟨Z, hZ⟩ : ∃ Z : List Value, Z = (List.replicate (len + 1) 0).map limbV := ⟨_, rfl⟩
  have hmk : ∀ V : World, (Instr.makeSlice 31 (.int .i64 ((len : Int) + 1)) (.int .i64 ((len : Int) + 1))).run Try.prog V = .ok (.slice (some ⟨V.heap.size, 0, none⟩) (len + 1) (len + 1)) (V.alloc (.cells Z.toArray 54)) := by
    intro V
    have h := run_make_row' (P := Try.prog) 31 54 _ 8 Try.underlying31 Try.limbInfo rfl .i64 .i64 (len + 1) (by omega) (by omega) V
    rw [toList_made] at h
    rw [hZ]
    simpa [limbV] using h
  have HZ := Lib.hid hZ
  have A := Lib.hid hlt
  have HLEN := Lib.hid h1
  have hlen : len ≤ 900000 := by omega
  clear hZ hlt h1 hs
  go_enter Try.func65, Try.ntmps65
  go_wp2_with fail
  have hZb : Blk (w.alloc (.cells Z.toArray 54)) w.heap.size 54 ((List.replicate (l.length + 1) 0).map limbV) := by
    rw [HLEN.out, ← HZ.out]; exact Blk.new _ _ _
  go_loopw [6, 18] (fun c i wr => ∃ (j cc : Nat) (O : List Nat), j ≤ len ∧ i = .int .i64 (j : Int) ∧ c = .int .u64 (cc : Int) ∧ Hid (TiAt l g j O cc) ∧ Hid (Blk wr w.heap.size 54 (O.map limbV)) ∧ Below w.heap.size w wr) (fun _ i _ => len - (intOf i).toNat)
  case atStart => exact ⟨0, 0, _, Nat.zero_le _, rfl, rfl, TiAt.start l g, hZb, (Below.refl _ _).alloc (Nat.le_refl _) _⟩
  case round =>
    obtain ⟨j, c, O, hj, rfl, rfl, HO, HB, hbel⟩ := hrel
    clear hmk hZb HZ
    have hO1 : O.length = len + 1 := by rw [HO.out.1, HLEN.out]
    by_cases hjn : j < len
    · obtain ⟨b1, off1, rfl, hbw1⟩ := lb_addr hl (by rw [HLEN.out]; omega)
      have hc1 := lb_cell (hl.below hbel) j (by rw [HLEN.out]; omega)
      have hf := HB.out.frozen j (by simp; omega)
      have ho := limb_cell HB.out j (by omega)
      obtain ⟨hi, lo, k1, k2, k3, hmul⟩ := mul64n (digit l j) g (digit_lt l A.out j) hg
      obtain ⟨s, d, k4, k5, k6, hadd⟩ := add64_0 lo c k2 HO.out.2.2.1
      have hstep := HO.out.step (by rw [HLEN.out]; omega) A.out hg hi lo s d k4 k3 k6
      have hbd := hstep.2.2.1
      have HS := Lib.hid hstep
      have HB2 := Lib.hid (HB.out.set_ j (.int .u64 (s : Int)))
      have hbel2 := hbel.setCell (p := ⟨w.heap.size, j, none⟩) (Nat.le_refl _) (.int .u64 (s : Int))
      clear hstep k3 k6 hO1
      generalize digit l j = x1 at *
      generalize digit O j = x3 at *
      go_wp2_with (go_at_call 72; refine (hmul _).mono ?_; rintro e w' ⟨rfl, rfl⟩)
      go_roundw
      case rel => exact ⟨j + 1, hi + d, O.set j s, by omega, by simp, by simp, HS, by rw [← map_limb_set]; exact HB2, hbel2⟩
      case measure => simp [intOf]; omega
    · obtain rfl : j = len := by omega
      have hO := HO.out
      have hcb := hO.2.2.1
      obtain ⟨f1, f2, f3⟩ := (HLEN.out ▸ hO : TiAt l g l.length O c).fin
      rw [HLEN.out] at f1 f2 f3
      have hf := HB.out.frozen j (by simp; omega)
      have ho := limb_cell HB.out j (by omega)
      have HB2 := HB.out.set_ j (.int .u64 (c : Int))
      have hbel2 := hbel.setCell (p := ⟨w.heap.size, j, none⟩) (Nat.le_refl _) (.int .u64 (c : Int))
      have hLb : Lb (wr.setCell ⟨w.heap.size, j, none⟩ (.int .u64 (c : Int))) (.slice (some ⟨w.heap.size, 0, none⟩) (j + 1) (j + 1)) (O.set j c) := by
        refine ⟨_, _, _, rfl, f1, Nat.le_refl _, by unfold maxLen; omega, by omega, f2, fun _ => ⟨w.heap.size, 0, rfl, HB2.lt, fun i x hi => ?_⟩⟩
        rw [Nat.zero_add, HB2.cell, map_limb_set, List.getElem?_map, hi]
        rfl
      have hnorm := normal_any _ (val l * g) _ ⟨_, hLb, f3, by rw [f1]; omega⟩
      have HNO := Lib.hid hnorm
      have HBE := Lib.hid hbel2
      have hsz := hbel2.size
      clear hnorm hLb hbel2 HB2 f1 f2 f3 hO hO1
      go_wp2_with fail
      refine HNO.out.mono ?_
      rintro e w' ⟨av, cv, rfl, hn, hb⟩
      go_wp2_with fail
      go_ret
      exact ⟨av, cv, rfl, hn.ge hsz, HBE.out.trans (hb.mono hsz)⟩
end Go.Proofs.Ytljgiagdmnedpaa.Nat_
