/-
nat.less: a difference.
-/
import Derived.Test.YtljgiagdmnedpaaNatCmp
import Derived.Shelf.Spec.BitsCarry
namespace Go.Proofs.Ytljgiagdmnedpaa.Nat_
open Go.RowKit Go.Shelf

attribute [local go_sem] Oper.semAt_some

/-- math/bits.Sub64, a borrow of 0 or 1. -/
theorem sub64 (a b c : Nat) (ha : a < 18446744073709551616) (hb : b < 18446744073709551616) (hc : c ≤ 1) :
    ∃ s c2 : Nat, s < 18446744073709551616 ∧ c2 ≤ 1 ∧ s + b + c = a + 18446744073709551616 * c2 ∧
      ∀ w : World, (callFunc 74 #[.int .u64 (a : Int), .int .u64 (b : Int), .int .u64 (c : Int)]).run Try.prog w = .ok (.value (.tuple #[.int .u64 (s : Int), .int .u64 (c2 : Int)])) w := by
  refine ⟨(a + 18446744073709551616 - b - c) % 18446744073709551616, if a < b + c then 1 else 0, by omega, by split <;> omega, by split <;> omega, fun w => ?_⟩
  rw [run_callFunc_extern Try.func74 (by kernel_rfl) (by kernel_rfl) (by kernel_rfl) (e := sub64Entry) (by kernel_rfl), run_sub64 a b c hc]
  rfl
/-- What the row r and the borrow c are, when the limbs pre have been subtracted. -/
def SubOf (pre : List (Nat × Limb × Limb)) (r : List Nat) (c : Nat) : Prop :=
  r.length = pre.length ∧ c ≤ 1 ∧ (∀ x ∈ r, x < 18446744073709551616) ∧ val r + val (sndL pre) = val (fstL pre) + 18446744073709551616 ^ pre.length * c
theorem SubOf.nil : SubOf [] [] 0 := ⟨rfl, by decide, by simp, by simp [val, fstL, sndL]⟩
theorem SubOf.snoc {pre : List (Nat × Limb × Limb)} {r : List Nat} {c : Nat} (h : SubOf pre r c) (x : Nat × Limb × Limb) (s c2 : Nat) (hs : s < 18446744073709551616) (hc : c2 ≤ 1) (e : s + x.2.2.1 + c = x.2.1.1 + 18446744073709551616 * c2) : SubOf (pre ++ [x]) (r ++ [s]) c2 := by
  obtain ⟨h1, h2, h3, h4⟩ := h
  refine ⟨by simp [h1], hc, ?_, ?_⟩
  · intro y hy
    rcases List.mem_append.1 hy with hy | hy
    · exact h3 y hy
    · obtain rfl : y = s := by simpa using hy
      exact hs
  · have e1 : fstL (pre ++ [x]) = fstL pre ++ [x.2.1.1] := by simp [fstL]
    have e2 : sndL (pre ++ [x]) = sndL pre ++ [x.2.2.1] := by simp [sndL]
    have l1 : (fstL pre).length = pre.length := by simp [fstL]
    have l2 : (sndL pre).length = pre.length := by simp [sndL]
    rw [e1, e2, val_snoc, val_snoc, val_snoc, l1, l2, h1, List.length_append, List.length_singleton, Nat.pow_succ]
    exact sub_step _ _ _ _ _ _ _ _ _ h4 e

set_option maxRecDepth 100000 in
set_option maxHeartbeats 4000000 in
theorem less_lb (v u : Value) (l m : List Nat) (w : World) (hl : Lb w v l) (hm : Lb w u m) (hsz : l.length ≤ 1000000) (hsz' : m.length ≤ 1000000) (hle : val m ≤ val l) :
    Calls Try.prog 66 #[v, u] w fun e w' => ∃ a c, e = .returned (.slice a (nl (val l - val m)) c) ∧ NN w.heap.size w' (.slice a (nl (val l - val m)) c) (val l - val m) ∧ Below w.heap.size w w' := by
  have hl0 := hl
  have hm0 := hm
  obtain ⟨a, len, cap, rfl, h1, -, -, -, hlb, -⟩ := hl
  obtain ⟨a', len', cap', rfl, h1', -, -, -, hmb, -⟩ := hm
  have hsm : nl (val l - val m) ≤ 1000000 := by
    have h2 : limbs (val l) = trim l := (trim_limbs l hlb).symm
    have h3 := trim_le l
    unfold nl
    have h4 : (limbs (val l)).length ≤ 1000000 := by rw [h2]; omega
    rw [limbs_len] at h4 ⊢
    exact Nat.lt_of_le_of_lt (Nat.sub_le _ _) h4
  have HS := Lib.hid hsm
  clear hsm
  refine (callsIn_wide (n := 9)).1 ?_
  refine callsIn_of_wp_marks Try.func66 rfl trivial ?_ rfl
  simp only [Try.ntmps66, List.size_toArray, List.length_cons, List.length_nil, Nat.reduceAdd, Nat.reduceSub, Array.replicate_succ, Array.replicate_zero, List.push_toArray, List.append_toArray, List.nil_append, List.cons_append]
  gi_wp2_with (first
    | (refine ⟨trivial, ?_⟩; gi_at_call 43; refine (pairs_in _ _ _ _ _ _ _ _).mono ?_; rintro e w2 ⟨rfl, rfl⟩))
  have bO := ((((Boxed.new w 31 (.slice none 0 0)).alloc (.cells #[.int .u64 0] 54)).alloc (.cells #[.slice a len cap] 31)).alloc (.cells #[.slice a' len' cap'] 31)).alloc (.cells #[.func (.func 57) #[] #[]] 109)
  have bC := (((Boxed.new (w.alloc (.cells #[.slice none 0 0] 31)) 54 (.int .u64 0)).alloc (.cells #[.slice a len cap] 31)).alloc (.cells #[.slice a' len' cap'] 31)).alloc (.cells #[.func (.func 57) #[] #[]] 109)
  have bA := ((Boxed.new ((w.alloc (.cells #[.slice none 0 0] 31)).alloc (.cells #[.int .u64 0] 54)) 31 (.slice a len cap)).alloc (.cells #[.slice a' len' cap'] 31)).alloc (.cells #[.func (.func 57) #[] #[]] 109)
  have bB := (Boxed.new (((w.alloc (.cells #[.slice none 0 0] 31)).alloc (.cells #[.int .u64 0] 54)).alloc (.cells #[.slice a len cap] 31)) 31 (.slice a' len' cap')).alloc (.cells #[.func (.func 57) #[] #[]] 109)
  have bF := Boxed.new ((((w.alloc (.cells #[.slice none 0 0] 31)).alloc (.cells #[.int .u64 0] 54)).alloc (.cells #[.slice a len cap] 31)).alloc (.cells #[.slice a' len' cap'] 31)) 109 (.func (.func 57) #[] #[])
  have hW1 : Below w.heap.size w (((((w.alloc (.cells #[.slice none 0 0] 31)).alloc (.cells #[.int .u64 0] 54)).alloc (.cells #[.slice a len cap] 31)).alloc (.cells #[.slice a' len' cap'] 31)).alloc (.cells #[.func (.func 57) #[] #[]] 109)) :=
    (((((Below.refl _ w).alloc (Nat.le_refl _) _).alloc (by simp) _).alloc (by simp; omega) _).alloc (by simp; omega) _).alloc (by simp; omega) _
  have hsz1 : (((((w.alloc (.cells #[.slice none 0 0] 31)).alloc (.cells #[.int .u64 0] 54)).alloc (.cells #[.slice a len cap] 31)).alloc (.cells #[.slice a' len' cap'] 31)).alloc (.cells #[.func (.func 57) #[] #[]] 109)).heap.size = w.heap.size + 5 := by simp
  simp only [World.size_alloc] at bC bA bB bF
  obtain ⟨W0, hW0⟩ : ∃ W0, ((((w.alloc (.cells #[.slice none 0 0] 31)).alloc (.cells #[.int .u64 0] 54)).alloc (.cells #[.slice a len cap] 31)).alloc (.cells #[.slice a' len' cap'] 31)).alloc (.cells #[.func (.func 57) #[] #[]] 109) = W0 := ⟨_, rfl⟩
  rw [hW0] at bO bC bA bB bF hW1 hsz1 ⊢
  clear hW0
  refine wpIn_rangeFunc_ownH rfl (by omega) (gf := 58) (lb := #[.pointer (some ⟨w.heap.size + 1 + 1, 0, none⟩), .pointer (some ⟨w.heap.size + 1 + 1 + 1, 0, none⟩), .pointer (some ⟨w.heap.size + 1 + 1 + 2, 0, none⟩)]) rfl trivial (enters_of Try.func58 (by kernel_rfl) rfl)
    (pairs_stops 8 (by omega) (w.heap.size + 1 + 1) w.heap.size _ _ l m hlb hmb w W0 hl0 hm0 (Nat.le_refl _) hW1 (by omega) (by omega) bA.cell bB.cell bF.cell) Kp.trans (kp_b (by omega) (by omega)) (Below.refl _ _) (fun _ => rfl)
    (fun pre W => (∃ (r : List Nat) (c : Nat), SubOf pre r c ∧ (∃ v, Boxed W w.heap.size 31 v ∧ W.ownsRow (w.heap.size + 5) 54 1 v r.length (r.map limbV)) ∧ Boxed W (w.heap.size + 1) 54 (.int .u64 (c : Int))) ∧ Below w.heap.size W0 W)
    (fun _ _ _ => False)
    (OwnFrom.and (Own.from (fun s X Y row hs hg hr => by
      obtain ⟨r, c, h1, ⟨v, h2, h3⟩, h4⟩ := hs
      obtain ⟨v', h5, h6, -⟩ := holdsRow_own (w.heap.size + 5) w.heap.size 31 54 1 (fun (_ : Unit) => r.length) (fun _ => r.map limbV) (fun _ _ => True) () X Y row ⟨v, h2, h3, trivial⟩ hg hr
      exact ⟨r, c, h1, ⟨v', h5, h6⟩, boxed_own _ _ (fun (_ : Unit) => .int .u64 (c : Int)) () X Y row h4 hg hr⟩) _) (ownFrom_below (by omega) (by omega)))
    (fun _ _ _ _ _ hs _ _ => hs)
    ⟨⟨[], 0, SubOf.nil, ⟨_, bO, World.ownsRow_nil _ _ _ _⟩, bC⟩, Below.refl _ _⟩
    (fun x a₁ W => ∃ Bx, w.heap.size + 5 ≤ Bx ∧ Boxed2 W Bx 95 (.int .u64 (x.2.1.1 : Int)) (.int .u64 (x.2.2.1 : Int)) ∧ a₁ = { tmps := #[Value.slice a len cap, Value.slice a' len' cap', undef, undef, Value.slice none 0 0,
          Value.pointer (some { block := w.heap.size, off := 0 }), Value.pointer (some { block := w.heap.size + 1, off := 0 }), undef, .pointer (some ⟨Bx, 0, none⟩), undef, undef,
          Value.slice a len cap, Value.slice a' len' cap',
          Value.func (Fn.func 58) #[] #[Value.pointer (some { block := w.heap.size + 1 + 1, off := 0 }), Value.pointer (some { block := w.heap.size + 1 + 1 + 1, off := 0 }), Value.pointer (some { block := w.heap.size + 1 + 1 + 2, off := 0 })],
          .int .i64 (x.1 : Int), .agg #[.int .u64 (x.2.1.1 : Int), .int .u64 (x.2.2.1 : Int)], undef, undef, undef, undef, undef, undef, undef, undef, undef, undef, undef, undef, undef, undef, undef, undef], defers := [] })
    (fun x a₁ _ X Y row hs hg hr => by obtain ⟨Bx, h1, h2, h3⟩ := hs; exact ⟨Bx, h1, h2.own hg (fun r e => (hr r e).2), h3⟩)
    ?assign ?body ?done ?stop
  case assign =>
    rintro L pre x W K ⟨⟨r, c, h1, ⟨v, h2, h3⟩, h4⟩, hB1⟩ hK
    simp only [encP]
    gi_wp2
    have hsW := hB1.size
    exact hK _ _ ((KeepsOthers.alloc _ _).from _) (Kp.of_below ((Below.refl _ W).alloc (by omega) _) (by omega)) ⟨⟨r, c, h1, ⟨v, h2.alloc _, h3.alloc _⟩, h4.alloc _⟩, hB1.alloc (by omega) _⟩ ⟨W.heap.size, by omega, Boxed2.new _ _ _ _, rfl⟩
  case body =>
    rintro L pre x a₁ W hL ⟨r0, hr0⟩ ⟨⟨r, c, h1, ⟨v, h2, h3⟩, h4⟩, hB1⟩ ⟨Bx, hBx, bX, rfl⟩ hlt
    have hsW := hB1.size
    have hlen : r.length ≤ 1000000 := by have := h1.1; omega
    obtain ⟨s, c2, hs, hc2, hsum, hadd⟩ := sub64 x.2.1.1 x.2.2.1 c x.2.1.2 x.2.2.2 h1.2.1
    have H := Lib.hid (h1.snoc x s c2 hs hc2 hsum)
    clear hsum h1
    have cO := h2.cell
    have fO := h2.frozen
    have cC := h4.cell
    have fC := h4.frozen
    have c0 := bX.cell0
    have c1 := bX.cell1
    gi_wp2_with (first
      | (refine ⟨trivial, ?_⟩)
      | (gi_at_builtin; refine app1_in W rfl _ _ rfl (w.heap.size + 5) v r s rfl h3 rfl (by omega) (by omega) ?_; intro g' cap' w2 hown' hgrow; obtain ⟨hv1, hk2, hb2⟩ := appended_low h2 h3 (by omega) (by omega) hgrow; have h42 : Boxed w2 (w.heap.size + 1) 54 (.int .u64 (c : Int)) := (hb2.block _ (by omega)).trans h4; have hc1 := hv1.cell; have hf1 := hv1.frozen; have hc42 := h42.cell; have hf42 := h42.frozen))
    have e1 := hv1.set (.slice (some ⟨g', 0, none⟩) (r.length + 1) cap')
    have e2 := (own_set (own_set hown' w.heap.size (.slice (some ⟨g', 0, none⟩) (r.length + 1) cap') (by omega)) (w.heap.size + 1) (.int .u64 (c2 : Int)) (by omega))
    have k1 : Kp w.heap.size (w.heap.size + 1 + 1) W w2 := Kp.of_below hb2 (by omega)
    have k2 := (k1.trans (Kp.set w2 w.heap.size (.slice (some ⟨g', 0, none⟩) (r.length + 1) cap') (Nat.le_refl _) (by omega))).trans (Kp.set _ (w.heap.size + 1) (.int .u64 (c2 : Int)) (by omega) (by omega))
    refine ⟨((hk2.trans (KeepsOthers.setCell _ _ _)).trans (KeepsOthers.setCell _ _ _)).from _, k2, ⟨r ++ [s], c2, H.out, ⟨_, boxed_set e1 (by omega), ?_⟩, (boxed_set h42 (by omega)).set _⟩, hB1.trans k2.1⟩
    rw [List.length_append, List.length_singleton]
    exact e2
  case done =>
    rintro D zs W hD rfl ⟨⟨r, c, h1, ⟨v, h2, h3⟩, h4⟩, hB1⟩ hK
    have hsW := hB1.size
    have hlen : r.length ≤ 1000000 := by have := h1.1; rw [upto_length] at this; omega
    have H := Lib.hid h1
    clear h1
    have cO := h2.cell
    have fO := h2.frozen
    obtain ⟨z1, z2, z3, z4⟩ := H.out
    obtain ⟨y1, y2⟩ := all_pairs l m hlb hmb
    rw [y1, y2] at z4
    have hvl := val_lt r z3
    have hlen2 : r.length = (upto (pairAt l m hlb hmb) (max l.length m.length)).length := z1
    rw [← hlen2] at z4
    have hval : val r = val l - val m := by
      rcases Nat.lt_or_ge 0 c with h | h
      · obtain rfl : c = 1 := by omega
        omega
      · obtain rfl : c = 0 := by omega
        omega
    have hL : Lb W v r := Lb.row (B := w.heap.size + 5) (e := 54) h3 (by omega) z3
    have HV := Lib.hid hval
    clear z1 z4 y1 y2 hvl hlen2 hval H
    gi_wp2
    refine ⟨trivial, ?_⟩
    refine (callsIn_wide.2 (normal_lb v r W hL)).mono ?_
    rw [HV.out]
    rintro e w3 ⟨av, cv, rfl, hn, hb3⟩
    have hkD3 := (hb3.block D (Array.getElem?_eq_some_iff.1 hK).1).trans hK
    have hbB : Below w.heap.size w w3 := (hW1.trans hB1).trans (hb3.mono (by omega))
    gi_wp2
    refine ⟨by simp, .inl ⟨_, _, rfl, run_takeDeferred hkD3, ?_⟩⟩
    refine ⟨_, results_tmp rfl _ _ _, av, cv, rfl, ?_, hbB.trans (belowK_b (w := w) (Nat.le_refl _) w3 D _ _ (by omega) hkD3 rfl rfl)⟩
    have hn2 := hn.ge (show w.heap.size ≤ W.heap.size by omega)
    refine ⟨⟨ownsRow_putObj hn2.1 _ hkD3 rfl, hn2.2⟩, ?_⟩
    exact HS.out
  case stop =>
    rintro D c pre W _ _ h _
    exact h.elim
end Go.Proofs.Ytljgiagdmnedpaa.Nat_
