/-
nat.small: the quotient and the rest by a limb.
-/
import Derived.Test.YtljgiagdmnedpaaNatDiv64
namespace Go.Proofs.Ytljgiagdmnedpaa.Nat_
open Go.RowKit

/-- math/bits.Div64 where the first word is below the third. -/
theorem div64_any (hi lo y : Nat) (hy : hi < y) (hl : lo < 18446744073709551616) (hy1 : y < 18446744073709551616) (w : World) :
    Calls Try.prog 61 #[.int .u64 (hi : Int), .int .u64 (lo : Int), .int .u64 (y : Int)] w fun e w' => ∃ q r : Nat, e = .returned (.tuple #[.int .u64 (q : Int), .int .u64 (r : Int)]) ∧ q < 18446744073709551616 ∧ r < y ∧ hi * 18446744073709551616 + lo = q * y + r ∧ Below w.heap.size w w' := by
  rcases Nat.eq_zero_or_pos hi with h0 | h0
  · subst h0
    refine (div64_zero lo y hy hl hy1 w).mono ?_
    rintro e w' ⟨rfl, hb⟩
    refine ⟨lo / y, lo % y, rfl, Nat.lt_of_le_of_lt (Nat.div_le_self lo y) hl, Nat.mod_lt lo hy, ?_, hb⟩
    have := Nat.div_add_mod lo y
    rw [Nat.mul_comm] at this
    rw [Nat.zero_mul, Nat.zero_add]
    exact this.symm
  · exact div64_more hi lo y h0 hy hl hy1 w

/-- What the loop of small keeps: the limbs from j on are divided. -/
def SmallAt (l : List Nat) (d j : Nat) (Q : List Nat) (r : Nat) : Prop :=
  Q.length = l.length ∧ (∀ x ∈ Q, x < 18446744073709551616) ∧ r < d ∧ val (l.drop j) = val (Q.drop j) * d + r
theorem SmallAt.start (l : List Nat) (d : Nat) (hd : 0 < d) : SmallAt l d l.length (List.replicate l.length 0) 0 :=
  ⟨by simp, fun x hx => by rw [List.eq_of_mem_replicate hx]; decide, hd, by simp [val]⟩
theorem SmallAt.step {l Q : List Nat} {d j r : Nat} (h : SmallAt l d (j + 1) Q r) (hj : j < l.length) (t r2 : Nat) (ht : t < 18446744073709551616) (hr : r2 < d) (hs : r * 18446744073709551616 + digit l j = t * d + r2) : SmallAt l d j (Q.set j t) r2 := by
  obtain ⟨h1, h2, h3, h4⟩ := h
  have hjQ : j < Q.length := by omega
  refine ⟨by simp [h1], ?_, hr, ?_⟩
  · intro x hx
    rcases List.mem_or_eq_of_mem_set hx with hx | rfl
    · exact h2 x hx
    · exact ht
  · have e2 : (Q.set j t).drop (j + 1) = Q.drop (j + 1) := by
      rw [List.drop_set_of_lt (by omega)]
    rw [val_drop l j hj, val_drop (Q.set j t) j (by simpa using hjQ), e2, List.getElem_set_self]
    rw [digit_in l j _ (List.getElem?_eq_getElem hj)] at hs
    exact small_step _ _ _ _ _ _ _ h4 hs

set_option maxRecDepth 100000 in
set_option maxHeartbeats 4000000 in
theorem small_lb (v : Value) (l : List Nat) (d : Nat) (w : World) (h : Lb w v l) (hd : 0 < d) (hd1 : d < 18446744073709551616) :
    Calls Try.prog 45 #[v, .int .u64 (d : Int)] w fun e w' => ∃ a c, e = .returned (.tuple #[.slice a (nl (val l / d)) c, .int .u64 ((val l % d : Nat) : Int)]) ∧ Ow w.heap.size w' (.slice a (nl (val l / d)) c) (limbs (val l / d)) ∧ Below w.heap.size w w' := by
  have hl0 := h
  have hlt := h.lt
  obtain ⟨a, len, cap, rfl, h1, -, -, hsz, -⟩ := h
  obtain ⟨Z, hZ⟩ : ∃ Z : List Value, Z = (List.replicate l.length 0).map limbV := ⟨_, rfl⟩
  have hmk : ∀ V : World, (Instr.makeSlice 31 (.int .i64 (len : Int)) (.int .i64 (len : Int))).run Try.prog V = .ok (.slice (some ⟨V.heap.size, 0, none⟩) len len) (V.alloc (.cells Z.toArray 54)) := by
    intro V
    have h := run_make_row' (P := Try.prog) 31 54 _ 8 Try.underlying31 Try.limbInfo rfl .i64 .i64 len (by omega) (by omega) V
    rw [toList_made] at h
    rw [hZ, h1]
    simpa [limbV] using h
  have hZb : Blk (w.alloc (.cells Z.toArray 54)) w.heap.size 54 ((List.replicate l.length 0).map limbV) := by
    rw [← hZ]; exact Blk.new _ _ _
  have A : Go.Aside (∀ x ∈ l, x < 18446744073709551616) := hlt
  clear hZ hlt
  go_enter Try.func45, Try.ntmps45
  go_wp2_with fail
  go_loopw [7, 8] (fun r i wr => ∃ (j : Nat) (ii : Int) (rr : Nat) (Q : List Nat), j ≤ len ∧ i = .int .i64 ii ∧ ii + 1 = (j : Int) ∧ r = .int .u64 (rr : Int) ∧ Hid (SmallAt l d j Q rr) ∧ Hid (Blk wr w.heap.size 54 (Q.map limbV)) ∧ Below w.heap.size w wr) (fun _ i _ => (intOf i + 1).toNat)
  case atStart =>
    refine ⟨len, _, 0, _, Nat.le_refl _, rfl, by omega, rfl, ?_, hZb, (Below.refl _ _).alloc (Nat.le_refl _) _⟩
    have := SmallAt.start l d hd
    rw [h1] at this ⊢
    exact this
  case round =>
    clear hmk hZb
    obtain ⟨j, ii, rr, Q, hj, rfl, hij, rfl, HS, HB, hbel⟩ := hrel
    cases j with
    | zero =>
      have hfin := HS.out
      obtain ⟨f1, f2, f3, f4⟩ := hfin
      rw [List.drop_zero, List.drop_zero] at f4
      have hLb : Lb wr (.slice (some ⟨w.heap.size, 0, none⟩) len len) Q := by
        refine ⟨_, _, _, rfl, by omega, Nat.le_refl _, by unfold maxLen; omega, by omega, f2, fun _ => ⟨w.heap.size, 0, rfl, HB.out.lt, fun i x hi => ?_⟩⟩
        rw [Nat.zero_add, HB.out.cell, List.getElem?_map, hi]
        rfl
      have e1 : val l / d = val Q := by
        rw [f4, Nat.add_comm, Nat.add_mul_div_right _ _ hd, Nat.div_eq_of_lt f3, Nat.zero_add]
      have e2 : val l % d = rr := by
        rw [f4, Nat.mul_add_mod_self_right, Nat.mod_eq_of_lt f3]
      have E := Lib.hid (And.intro e1 e2)
      clear e1 e2 f4 f1
      go_wp2_with fail
      refine (normal_lb _ Q _ hLb).mono ?_
      rintro e w' ⟨a', c', rfl, ho, hb⟩
      go_wp2_with fail
      go_ret2
      refine ⟨a', c', ?_, ?_, hbel.trans (hb.mono hbel.size)⟩
      · rw [E.out.1, E.out.2]; rfl
      · rw [E.out.1]; exact ho.ge hbel.size
    | succ k =>
      obtain ⟨b, off, rfl, hbw⟩ := lb_addr hl0 (by omega)
      have hc := lb_cell (hl0.below hbel) k (by omega)
      obtain rfl : ii = (k : Int) := by omega
      have hQl := HS.out.1
      have ho := limb_cell HB.out k (by omega)
      have hf := HB.out.frozen k (by simp; omega)
      have hrd := HS.out.2.2.1
      have hdl := digit_lt l A.out k
      go_wp2_with fail
      refine (div64_any rr (digit l k) d hrd hdl hd1 _).mono ?_
      rintro e w2 ⟨t, r2, rfl, ht, hr2, heq, hb2⟩
      have HS2 := Lib.hid (HS.out.step (by omega) t r2 ht hr2 heq)
      have hB2 : Blk w2 w.heap.size 54 (Q.map limbV) := HB.out.below hb2 HB.out.lt
      have ho2 := limb_cell hB2 k (by omega)
      have hf2 := hB2.frozen k (by simp; omega)
      have hbel2 := hbel.trans (hb2.mono hbel.size)
      have HB3 := Lib.hid (hB2.set_ k (.int .u64 (t : Int)))
      have hbel3 := hbel2.setCell (p := ⟨w.heap.size, k, none⟩) (Nat.le_refl _) (.int .u64 (t : Int))
      clear heq hQl
      go_wp2_with fail
      go_roundw
      case rel => exact ⟨k, (k : Int) - 1, r2, Q.set k t, by omega, by simp, by omega, rfl, HS2, by rw [← map_limb_set]; exact HB3, hbel3⟩
      case measure => simp [intOf]
end Go.Proofs.Ytljgiagdmnedpaa.Nat_
