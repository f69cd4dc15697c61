/-
nat.Cmp: which of two numbers is the greater one.
-/
import Derived.Test.YtljgiagdmnedpaaNatAdd
namespace Go.Proofs.Ytljgiagdmnedpaa.Nat_
open Go.RowKit Go.Shelf

attribute [local go_sem] Oper.semAt_some

/-- How two numbers stand to each other. -/
def cmpN (x y : Nat) : Int := if x < y then -1 else if y < x then 1 else 0
theorem cmp_top (x y a b P : Nat) (hx : x < P) (hy : y < P) : cmpN (x + P * a) (y + P * b) = if a < b then -1 else if b < a then 1 else cmpN x y := by
  unfold cmpN
  by_cases h1 : a < b
  · rw [if_pos h1]
    have : P * (a + 1) ≤ P * b := Nat.mul_le_mul_left P h1
    rw [Nat.mul_add, Nat.mul_one] at this
    rw [if_pos (by omega)]
  · rw [if_neg h1]
    by_cases h2 : b < a
    · rw [if_pos h2]
      have : P * (b + 1) ≤ P * a := Nat.mul_le_mul_left P h2
      rw [Nat.mul_add, Nat.mul_one] at this
      rw [if_neg (by omega), if_pos (by omega)]
    · rw [if_neg h2]
      obtain rfl : a = b := by omega
      by_cases h3 : x < y
      · rw [if_pos h3, if_pos (by omega)]
      · rw [if_neg h3, if_neg (by omega)]
        by_cases h4 : y < x
        · rw [if_pos h4, if_pos (by omega)]
        · rw [if_neg h4, if_neg (by omega)]
def cmpP (pre : List (Nat × Limb × Limb)) : Int := cmpN (val (fstL pre)) (val (sndL pre))
theorem fstL_lt (pre : List (Nat × Limb × Limb)) : ∀ x ∈ fstL pre, x < 18446744073709551616 := by
  intro x hx
  obtain ⟨y, -, rfl⟩ := List.mem_map.1 hx
  exact y.2.1.2
theorem sndL_lt (pre : List (Nat × Limb × Limb)) : ∀ x ∈ sndL pre, x < 18446744073709551616 := by
  intro x hx
  obtain ⟨y, -, rfl⟩ := List.mem_map.1 hx
  exact y.2.2.2
theorem cmpP_snoc (pre : List (Nat × Limb × Limb)) (x : Nat × Limb × Limb) : cmpP (pre ++ [x]) = if x.2.1.1 < x.2.2.1 then -1 else if x.2.2.1 < x.2.1.1 then 1 else cmpP pre := by
  have e1 : fstL (pre ++ [x]) = fstL pre ++ [x.2.1.1] := by simp [fstL]
  have e2 : sndL (pre ++ [x]) = sndL pre ++ [x.2.2.1] := by simp [sndL]
  have l1 : (fstL pre).length = pre.length := by simp [fstL]
  have l2 : (sndL pre).length = pre.length := by simp [sndL]
  unfold cmpP
  rw [e1, e2, val_snoc, val_snoc, l1, l2]
  have h1 := val_lt (fstL pre) (fstL_lt pre)
  have h2 := val_lt (sndL pre) (sndL_lt pre)
  rw [l1] at h1
  rw [l2] at h2
  exact cmp_top _ _ _ _ _ h1 h2

set_option maxRecDepth 100000 in
set_option maxHeartbeats 4000000 in
theorem cmp_any (v u : Value) (x y : Nat) (w : World) (hv : Nm w v x) (hu : Nm w u y) :
    Calls Try.prog 32 #[v, u] w fun e w' => e = .returned (.int .i64 (cmpN x y)) ∧ Below w.heap.size w w' := by
  obtain ⟨l, hl, rfl, hsz⟩ := hv
  obtain ⟨m, hm, rfl, hsz'⟩ := hu
  have hl0 := hl
  have hm0 := hm
  obtain ⟨a, len, cap, rfl, h1, -, -, -, hlb, -⟩ := hl
  obtain ⟨a', len', cap', rfl, h1', -, -, -, hmb, -⟩ := hm
  refine (callsIn_wide (n := 9)).1 ?_
  refine callsIn_of_wp_marks Try.func32 rfl trivial ?_ rfl
  simp only [Try.ntmps32, List.size_toArray, List.length_cons, List.length_nil, Nat.reduceAdd, Nat.reduceSub, Array.replicate_succ, Array.replicate_zero, List.push_toArray, List.append_toArray, List.nil_append, List.cons_append]
  gi_wp2_with (first
    | (refine ⟨trivial, ?_⟩; gi_at_call 43; refine (pairs_in _ _ _ _ _ _ _ _).mono ?_; rintro e w2 ⟨rfl, rfl⟩))
  have bO := (((Boxed.new w 3 (.int .i64 0)).alloc (.cells #[.slice a len cap] 31)).alloc (.cells #[.slice a' len' cap'] 31)).alloc (.cells #[.func (.func 57) #[] #[]] 109)
  have bA := ((Boxed.new (w.alloc (.cells #[.int .i64 0] 3)) 31 (.slice a len cap)).alloc (.cells #[.slice a' len' cap'] 31)).alloc (.cells #[.func (.func 57) #[] #[]] 109)
  have bB := (Boxed.new ((w.alloc (.cells #[.int .i64 0] 3)).alloc (.cells #[.slice a len cap] 31)) 31 (.slice a' len' cap')).alloc (.cells #[.func (.func 57) #[] #[]] 109)
  have bF := Boxed.new (((w.alloc (.cells #[.int .i64 0] 3)).alloc (.cells #[.slice a len cap] 31)).alloc (.cells #[.slice a' len' cap'] 31)) 109 (.func (.func 57) #[] #[])
  have hW1 : Below w.heap.size w ((((w.alloc (.cells #[.int .i64 0] 3)).alloc (.cells #[.slice a len cap] 31)).alloc (.cells #[.slice a' len' cap'] 31)).alloc (.cells #[.func (.func 57) #[] #[]] 109)) :=
    ((((Below.refl _ w).alloc (Nat.le_refl _) _).alloc (by simp) _).alloc (by simp; omega) _).alloc (by simp; omega) _
  have hsz1 : ((((w.alloc (.cells #[.int .i64 0] 3)).alloc (.cells #[.slice a len cap] 31)).alloc (.cells #[.slice a' len' cap'] 31)).alloc (.cells #[.func (.func 57) #[] #[]] 109)).heap.size = w.heap.size + 4 := by simp
  simp only [World.size_alloc] at bA bB bF
  obtain ⟨W0, hW0⟩ : ∃ W0, (((w.alloc (.cells #[.int .i64 0] 3)).alloc (.cells #[.slice a len cap] 31)).alloc (.cells #[.slice a' len' cap'] 31)).alloc (.cells #[.func (.func 57) #[] #[]] 109) = W0 := ⟨_, rfl⟩
  rw [hW0] at bO bA bB bF hW1 hsz1 ⊢
  clear hW0
  refine wpIn_rangeFunc_ownH rfl (by omega) (gf := 58) (lb := #[.pointer (some ⟨w.heap.size + 1, 0, none⟩), .pointer (some ⟨w.heap.size + 1 + 1, 0, none⟩), .pointer (some ⟨w.heap.size + 1 + 2, 0, none⟩)]) rfl trivial (enters_of Try.func58 (by kernel_rfl) rfl)
    (pairs_stops 8 (by omega) (w.heap.size + 1) w.heap.size _ _ l m hlb hmb w W0 hl0 hm0 (Nat.le_refl _) hW1 (by omega) (by omega) bA.cell bB.cell bF.cell) Kp.trans (kp_b (by omega) (by omega)) (Below.refl _ _) (fun _ => rfl)
    (fun pre W => Boxed W w.heap.size 3 (.int .i64 (cmpP pre)) ∧ Below w.heap.size W0 W)
    (fun _ _ _ => False)
    (OwnFrom.and (Own.from (fun s X Y row hs hg hr => boxed_own _ _ (fun (_ : Unit) => .int .i64 (cmpP s)) () X Y row hs hg hr) _) (ownFrom_below (by omega) (by omega)))
    (fun _ _ _ _ _ hs _ _ => hs)
    ⟨bO, Below.refl _ _⟩
    (fun x a₁ W => ∃ Bx, w.heap.size + 4 ≤ Bx ∧ Boxed2 W Bx 95 (.int .u64 (x.2.1.1 : Int)) (.int .u64 (x.2.2.1 : Int)) ∧ a₁ = { tmps := #[Value.slice a len cap, Value.slice a' len' cap', undef, undef, Value.int IntKind.i64 0,
          Value.pointer (some { block := w.heap.size, off := 0 }), undef, .pointer (some ⟨Bx, 0, none⟩), Value.slice a len cap, Value.slice a' len' cap',
          Value.func (Fn.func 58) #[] #[Value.pointer (some { block := w.heap.size + 1, off := 0 }), Value.pointer (some { block := w.heap.size + 1 + 1, off := 0 }), Value.pointer (some { block := w.heap.size + 1 + 2, off := 0 })],
          .int .i64 (x.1 : Int), .agg #[.int .u64 (x.2.1.1 : Int), .int .u64 (x.2.2.1 : Int)], undef, undef, undef, undef, undef, undef, undef, undef, undef, undef, undef, undef, undef], defers := [] })
    (fun x a₁ _ X Y row hs hg hr => by obtain ⟨Bx, h1, h2, h3⟩ := hs; exact ⟨Bx, h1, h2.own hg (fun r e => (hr r e).2), h3⟩)
    ?assign ?body ?done ?stop
  case assign =>
    rintro L pre x W K ⟨h4, hB1⟩ hK
    simp only [encP]
    gi_wp2
    have hsW := hB1.size
    exact hK _ _ ((KeepsOthers.alloc _ _).from _) (Kp.of_below ((Below.refl _ W).alloc (by omega) _) (by omega)) ⟨h4.alloc _, hB1.alloc (by omega) _⟩ ⟨W.heap.size, by omega, Boxed2.new _ _ _ _, rfl⟩
  case body =>
    rintro L pre x a₁ W hL ⟨r0, hr0⟩ ⟨h4, hB1⟩ ⟨Bx, hBx, bX, rfl⟩ hlt
    have hsW := hB1.size
    have cC := h4.cell
    have fC := h4.frozen
    have c0 := bX.cell0
    have c1 := bX.cell1
    have hcp := cmpP_snoc pre x
    have hp1 := x.2.1.2
    have hp2 := x.2.2.2
    have HCP := Lib.hid hcp
    clear hcp
    by_cases q1 : x.2.1.1 < x.2.2.1
    · gi_wp2
      refine ⟨(KeepsOthers.setCell _ _ _).from _, Kp.set W w.heap.size (.int .i64 (-1)) (Nat.le_refl _) (by omega), ?_, hB1.trans (Kp.set (lo := w.heap.size + 1) W w.heap.size (.int .i64 (-1)) (Nat.le_refl _) (by omega)).1⟩
      rw [HCP.out, if_pos q1]
      exact h4.set _
    · by_cases q2 : x.2.2.1 < x.2.1.1
      · gi_wp2
        refine ⟨(KeepsOthers.setCell _ _ _).from _, Kp.set W w.heap.size (.int .i64 1) (Nat.le_refl _) (by omega), ?_, hB1.trans (Kp.set (lo := w.heap.size + 1) W w.heap.size (.int .i64 1) (Nat.le_refl _) (by omega)).1⟩
        rw [HCP.out, if_neg q1, if_pos q2]
        exact h4.set _
      · gi_wp2
        refine ⟨(KeepsOthers.refl _).from _, Kp.refl _, ?_, hB1⟩
        rw [HCP.out, if_neg q1, if_neg q2]
        exact h4
  case done =>
    rintro D zs W hD rfl ⟨h4, hB1⟩ hK
    have hsW := hB1.size
    have cC := h4.cell
    have fC := h4.frozen
    obtain ⟨y1, y2⟩ := all_pairs l m hlb hmb
    have hv : cmpP (upto (pairAt l m hlb hmb) (max l.length m.length)) = cmpN (val l) (val m) := by
      unfold cmpP
      rw [y1, y2]
    rw [hv] at cC
    clear hv y1 y2
    gi_wp2
    refine ⟨by simp, .inl ⟨_, _, rfl, run_takeDeferred hK, ?_⟩⟩
    exact ⟨_, results_tmp rfl _ _ _, rfl, (hW1.trans hB1).trans (belowK_b (w := w) (Nat.le_refl _) W D _ _ (by omega) hK rfl rfl)⟩
  case stop =>
    rintro D c pre W _ _ h _
    exact h.elim
end Go.Proofs.Ytljgiagdmnedpaa.Nat_
