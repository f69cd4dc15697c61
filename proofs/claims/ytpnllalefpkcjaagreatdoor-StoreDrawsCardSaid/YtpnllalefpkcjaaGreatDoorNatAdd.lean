/-
nat.Add: the sum, or that it is too long.
-/
import Derived.Test.YtpnllalefpkcjaaGreatDoorNatPairs
import Derived.Laws.Externs
namespace Go.Proofs.YtpnllalefpkcjaaGreatDoor.Nat_
open Go.RowKit Go.Shelf

attribute [local go_sem] Oper.semAt_some

/-- math/bits.Add64, a carry of 0 or 1. -/
theorem add64 (a b c : Nat) (ha : a < 18446744073709551616) (hb : b < 18446744073709551616) (hc : c ≤ 1) :
    ∃ s c2 : Nat, s < 18446744073709551616 ∧ c2 ≤ 1 ∧ s + 18446744073709551616 * c2 = a + b + c ∧
      ∀ w : World, (callFunc 108 #[.int .u64 (a : Int), .int .u64 (b : Int), .int .u64 (c : Int)]).run Tryz.prog w = .ok (.value (.tuple #[.int .u64 (s : Int), .int .u64 (c2 : Int)])) w := by
  refine ⟨(a + b + c) % 18446744073709551616, (a + b + c) / 18446744073709551616, by omega, by omega, by omega, fun w => ?_⟩
  rw [run_callFunc_extern Tryz.func108 (by kernel_rfl) (by kernel_rfl) (by kernel_rfl) (e := add64Entry) (by kernel_rfl), run_add64 a b c (by omega) (by omega) (by omega) (by omega)]
  simp only [Result.andThen]
  congr 5 <;> omega

theorem add64_0 (a b : Nat) (ha : a < 18446744073709551616) (hb : b < 18446744073709551616) :
    ∃ s c2 : Nat, s < 18446744073709551616 ∧ c2 ≤ 1 ∧ s + 18446744073709551616 * c2 = a + b ∧
      ∀ w : World, (callFunc 108 #[.int .u64 (a : Int), .int .u64 (b : Int), .int .u64 0]).run Tryz.prog w = .ok (.value (.tuple #[.int .u64 (s : Int), .int .u64 (c2 : Int)])) w := by
  obtain ⟨s, c2, h1, h2, h3, h4⟩ := add64 a b 0 ha hb (by decide)
  exact ⟨s, c2, h1, h2, by omega, h4⟩
theorem val_upto (l : List Nat) (h : ∀ x ∈ l, x < 18446744073709551616) : ∀ k, val ((upto (fun j => digit l j) k)) = low l k
  | 0 => rfl
  | k + 1 => by
    rw [upto_succ, val_snoc, val_upto l h k, upto_length, low]
def fstL (pre : List (Nat × Limb × Limb)) : List Nat := pre.map fun x => x.2.1.1
def sndL (pre : List (Nat × Limb × Limb)) : List Nat := pre.map fun x => x.2.2.1
theorem fst_upto (l m : List Nat) (hl hm) (k : Nat) : fstL (upto (pairAt l m hl hm) k) = upto (fun j => digit l j) k := by simp [fstL, upto, pairAt, dg, Function.comp_def]
theorem snd_upto (l m : List Nat) (hl hm) (k : Nat) : sndL (upto (pairAt l m hl hm) k) = upto (fun j => digit m j) k := by simp [sndL, upto, pairAt, dg, Function.comp_def]
theorem all_pairs (l m : List Nat) (hl hm) : val (fstL (upto (pairAt l m hl hm) (max l.length m.length))) = val l ∧ val (sndL (upto (pairAt l m hl hm) (max l.length m.length))) = val m := by
  rw [fst_upto, snd_upto, val_upto l hl, val_upto m hm]
  exact ⟨low_all l _ (by omega), low_all m _ (by omega)⟩
/-- What the row r and the carry c are, when the limbs pre have been added. -/
def SumOf (pre : List (Nat × Limb × Limb)) (r : List Nat) (c : Nat) : Prop :=
  r.length = pre.length ∧ c ≤ 1 ∧ (∀ x ∈ r, x < 18446744073709551616) ∧ val r + 18446744073709551616 ^ pre.length * c = val (fstL pre) + val (sndL pre)
theorem SumOf.nil : SumOf [] [] 0 := ⟨rfl, by decide, by simp, by simp [val, fstL, sndL]⟩
theorem SumOf.snoc {pre : List (Nat × Limb × Limb)} {r : List Nat} {c : Nat} (h : SumOf pre r c) (x : Nat × Limb × Limb) (s c2 : Nat) (hs : s < 18446744073709551616) (hc : c2 ≤ 1) (e : s + 18446744073709551616 * c2 = x.2.1.1 + x.2.2.1 + c) : SumOf (pre ++ [x]) (r ++ [s]) c2 := by
  obtain ⟨h1, h2, h3, h4⟩ := h
  refine ⟨by simp [h1], hc, ?_, ?_⟩
  · intro y hy
    rcases List.mem_append.1 hy with hy | hy
    · exact h3 y hy
    · obtain rfl : y = s := by simpa using hy
      exact hs
  · have e1 : fstL (pre ++ [x]) = fstL pre ++ [x.2.1.1] := by simp [fstL]
    have e2 : sndL (pre ++ [x]) = sndL pre ++ [x.2.2.1] := by simp [sndL]
    have l1 : (fstL pre).length = pre.length := by simp [fstL]
    have l2 : (sndL pre).length = pre.length := by simp [sndL]
    rw [e1, e2, val_snoc, val_snoc, val_snoc, l1, l2, h1, List.length_append, List.length_singleton, Nat.pow_succ]
    exact add_step _ _ _ _ _ _ _ _ _ h4 e

/-- append of one limb to a row of the call's own. -/
theorem app1_in {n : Nat} {F : Fence} {ops : Array Oper} {rest : List Oper} {o : Oper} {a : Act} {Q : Exit → Act → World → Prop} (W : World) (hg : o.guard = none) (s x : Operand)
    (hop : o.op = Op.call { callee := Callee.builtin Builtin.append, args := #[s, x], argTypes := #[45, 45] }) (base : Nat) (v : Value) (r : List Nat) (u : Nat) (hs : a.eval s = v)
    (hown : W.ownsRow base 26 1 v r.length (r.map limbV)) (hx : a.eval x = .slice (some ⟨W.heap.size, 0, none⟩) 1 1) (hr : r.length ≤ 3000000) (hb : base ≤ W.heap.size)
    (hK : ∀ g cap w', w'.ownsRow base 26 1 (.slice (some ⟨g, 0, none⟩) (r.length + 1) cap) (r.length + 1) ((r ++ [u]).map limbV) → (W.alloc (.cells #[.int .u64 (u : Int)] 26)).grownBy w' v.ownBlock →
      wpListIn F n Tryz.prog ops Q rest (a.put o.dst (.slice (some ⟨g, 0, none⟩) (r.length + 1) cap)) w') :
    wpListIn F n Tryz.prog ops Q (o :: rest) a (W.alloc (.cells #[.int .u64 (u : Int)] 26)) := by
  obtain ⟨i0, hi, hz0, hz1, hz2⟩ := info_parts Tryz.limbInfo
  refine wpListIn_append_own _ hg s x 45 hop base 26 i0 (.int .u64 0) 1 8 Tryz.underlying45 hi hz0 hz1 hz2 rfl (by decide) v r.length (r.map limbV) hs (hown.alloc _) ⟨W.heap.size, 0, none⟩ 1 1 [.int .u64 (u : Int)] hx rfl (cell_one_new _ _ _) (by simp [Value.oneCell']) (by unfold maxLen; omega) (by omega) (by simp; omega) ?_
  intro v' w' h1 h2 _
  obtain ⟨g, cap, rfl⟩ := ownsRow_succ h1
  refine hK g cap w' ?_ h2
  rw [List.map_append]
  exact h1

set_option maxRecDepth 100000 in
set_option maxHeartbeats 4000000 in
theorem add_any (v u : Value) (x y : Nat) (w : World) (hv : Nm w v x) (hu : Nm w u y) :
    Calls Tryz.prog 88 #[v, u] w fun e w' => Told w.heap.size w' (x + y) e ∧ Below w.heap.size w w' := by
  obtain ⟨l, hl, rfl, hsz⟩ := hv
  obtain ⟨m, hm, rfl, hsz'⟩ := hu
  have hl0 := hl
  have hm0 := hm
  obtain ⟨a, len, cap, rfl, h1, -, -, -, hlb, -⟩ := hl
  obtain ⟨a', len', cap', rfl, h1', -, -, -, hmb, -⟩ := hm
  by_cases hL : Lim ≤ val l ∨ Lim ≤ val m
  · go_enter Tryz.func88, Tryz.ntmps88
    go_wp2_with fail
    refine (long2_yes _ _ _ _ _ _ _ rfl ⟨l, hl0, rfl, hsz⟩ ⟨m, hm0, rfl, hsz'⟩ hL).mono ?_
    rintro e w1 ⟨rfl, hb1⟩
    go_wp2
    go_ret2
    exact ⟨.inr ⟨by omega, rfl⟩, ((Below.refl w.heap.size w).alloc (Nat.le_refl _) (.cells #[.slice a len cap, .slice a' len' cap'] 45)).trans (hb1.mono (by simp))⟩
  have hLl : val l < Lim := by omega
  have hLm : val m < Lim := by omega
  clear hL
  refine (callsIn_wide (n := 9)).1 ?_
  refine callsIn_of_wp_marks Tryz.func88 rfl trivial ?_ rfl
  simp only [Tryz.ntmps88, List.size_toArray, List.length_cons, List.length_nil, Nat.reduceAdd, Nat.reduceSub, Array.replicate_succ, Array.replicate_zero, List.push_toArray, List.append_toArray, List.nil_append, List.cons_append]
  gi_wp2_with (first
    | (refine ⟨trivial, ?_⟩; gi_at_call 57; refine (callsIn_wide.2 (long2_no _ _ _ _ _ _ _ rfl ⟨l, hl0, rfl, hsz⟩ ⟨m, hm0, rfl, hsz'⟩ hLl hLm)).mono ?_; rintro e w1 ⟨rfl, hb1⟩)
    | (refine ⟨trivial, ?_⟩; gi_at_call 109; refine (pairs_in _ _ _ _ _ _ _ _).mono ?_; rintro e w2 ⟨rfl, rfl⟩))
  have hb0 : Below w.heap.size w w1 := ((Below.refl w.heap.size w).alloc (Nat.le_refl _) (.cells #[.slice a len cap, .slice a' len' cap'] 45)).trans (hb1.mono (by simp))
  have hs0 := hb0.size
  have bO := ((((Boxed.new w1 45 (.slice none 0 0)).alloc (.cells #[.int .u64 0] 26)).alloc (.cells #[.slice a len cap] 45)).alloc (.cells #[.slice a' len' cap'] 45)).alloc (.cells #[.func (.func 110) #[] #[]] 143)
  have bC := (((Boxed.new (w1.alloc (.cells #[.slice none 0 0] 45)) 26 (.int .u64 0)).alloc (.cells #[.slice a len cap] 45)).alloc (.cells #[.slice a' len' cap'] 45)).alloc (.cells #[.func (.func 110) #[] #[]] 143)
  have bA := ((Boxed.new ((w1.alloc (.cells #[.slice none 0 0] 45)).alloc (.cells #[.int .u64 0] 26)) 45 (.slice a len cap)).alloc (.cells #[.slice a' len' cap'] 45)).alloc (.cells #[.func (.func 110) #[] #[]] 143)
  have bB := (Boxed.new (((w1.alloc (.cells #[.slice none 0 0] 45)).alloc (.cells #[.int .u64 0] 26)).alloc (.cells #[.slice a len cap] 45)) 45 (.slice a' len' cap')).alloc (.cells #[.func (.func 110) #[] #[]] 143)
  have bF := Boxed.new ((((w1.alloc (.cells #[.slice none 0 0] 45)).alloc (.cells #[.int .u64 0] 26)).alloc (.cells #[.slice a len cap] 45)).alloc (.cells #[.slice a' len' cap'] 45)) 143 (.func (.func 110) #[] #[])
  have hW1 : Below w1.heap.size w1 (((((w1.alloc (.cells #[.slice none 0 0] 45)).alloc (.cells #[.int .u64 0] 26)).alloc (.cells #[.slice a len cap] 45)).alloc (.cells #[.slice a' len' cap'] 45)).alloc (.cells #[.func (.func 110) #[] #[]] 143)) :=
    (((((Below.refl _ w1).alloc (Nat.le_refl _) _).alloc (by simp) _).alloc (by simp; omega) _).alloc (by simp; omega) _).alloc (by simp; omega) _
  have hsz1 : (((((w1.alloc (.cells #[.slice none 0 0] 45)).alloc (.cells #[.int .u64 0] 26)).alloc (.cells #[.slice a len cap] 45)).alloc (.cells #[.slice a' len' cap'] 45)).alloc (.cells #[.func (.func 110) #[] #[]] 143)).heap.size = w1.heap.size + 5 := by simp
  simp only [World.size_alloc] at bC bA bB bF
  obtain ⟨W0, hW0⟩ : ∃ W0, ((((w1.alloc (.cells #[.slice none 0 0] 45)).alloc (.cells #[.int .u64 0] 26)).alloc (.cells #[.slice a len cap] 45)).alloc (.cells #[.slice a' len' cap'] 45)).alloc (.cells #[.func (.func 110) #[] #[]] 143) = W0 := ⟨_, rfl⟩
  rw [hW0] at bO bC bA bB bF hW1 hsz1 ⊢
  clear hW0
  refine wpIn_rangeFunc_ownH rfl (by omega) (gf := 111) (lb := #[.pointer (some ⟨w1.heap.size + 1 + 1, 0, none⟩), .pointer (some ⟨w1.heap.size + 1 + 1 + 1, 0, none⟩), .pointer (some ⟨w1.heap.size + 1 + 1 + 2, 0, none⟩)]) rfl trivial (enters_of Tryz.func111 (by kernel_rfl) rfl)
    (pairs_stops 8 (by omega) (w1.heap.size + 1 + 1) w1.heap.size _ _ l m hlb hmb w W0 hl0 hm0 hs0 (hb0.trans (hW1.mono hs0)) (by omega) (by omega) bA.cell bB.cell bF.cell) Kp.trans (kp_b (by omega) (by omega)) (Below.refl _ _) (fun _ => rfl)
    (fun pre W => (∃ (r : List Nat) (c : Nat), SumOf pre r c ∧ (∃ v, Boxed W w1.heap.size 45 v ∧ W.ownsRow (w1.heap.size + 5) 26 1 v r.length (r.map limbV)) ∧ Boxed W (w1.heap.size + 1) 26 (.int .u64 (c : Int))) ∧ Below w1.heap.size W0 W)
    (fun _ _ _ => False)
    (OwnFrom.and (Own.from (fun s X Y row hs hg hr => by
      obtain ⟨r, c, h1, ⟨v, h2, h3⟩, h4⟩ := hs
      obtain ⟨v', h5, h6, -⟩ := holdsRow_own (w1.heap.size + 5) w1.heap.size 45 26 1 (fun (_ : Unit) => r.length) (fun _ => r.map limbV) (fun _ _ => True) () X Y row ⟨v, h2, h3, trivial⟩ hg hr
      exact ⟨r, c, h1, ⟨v', h5, h6⟩, boxed_own _ _ (fun (_ : Unit) => .int .u64 (c : Int)) () X Y row h4 hg hr⟩) _) (ownFrom_below (by omega) (by omega)))
    (fun _ _ _ _ _ hs _ _ => hs)
    ⟨⟨[], 0, SumOf.nil, ⟨_, bO, World.ownsRow_nil _ _ _ _⟩, bC⟩, Below.refl _ _⟩
    (fun x a₁ W => ∃ Bx, w1.heap.size + 5 ≤ Bx ∧ Boxed2 W Bx 153 (.int .u64 (x.2.1.1 : Int)) (.int .u64 (x.2.2.1 : Int)) ∧ a₁ = { tmps := #[Value.slice a len cap, Value.slice a' len' cap', undef, undef, Value.slice none 0 0, Value.int IntKind.i64 0,
          Value.pointer (some { block := w1.heap.size, off := 0 }), Value.pointer (some { block := w1.heap.size + 1, off := 0 }), undef, .pointer (some ⟨Bx, 0, none⟩), undef, undef,
          Value.slice a len cap, Value.slice a' len' cap', Value.slice (some { block := w.heap.size, off := 0 }) 2 2, Value.bool false, Value.slice a len cap, Value.slice a' len' cap',
          Value.func (Fn.func 111) #[] #[Value.pointer (some { block := w1.heap.size + 1 + 1, off := 0 }), Value.pointer (some { block := w1.heap.size + 1 + 1 + 1, off := 0 }), Value.pointer (some { block := w1.heap.size + 1 + 1 + 2, off := 0 })],
          .int .i64 (x.1 : Int), .agg #[.int .u64 (x.2.1.1 : Int), .int .u64 (x.2.2.1 : Int)], undef, undef, undef, undef, undef, undef, undef, undef, undef, undef, undef, undef, undef, undef, undef, undef, undef, undef, undef, undef, undef], defers := [] })
    (fun x a₁ _ X Y row hs hg hr => by obtain ⟨Bx, h1, h2, h3⟩ := hs; exact ⟨Bx, h1, h2.own hg (fun r e => (hr r e).2), h3⟩)
    ?assign ?body ?done ?stop
  case assign =>
    rintro L pre x W K ⟨⟨r, c, h1, ⟨v, h2, h3⟩, h4⟩, hB1⟩ hK
    simp only [encP]
    gi_wp2
    have hsW := hB1.size
    exact hK _ _ ((KeepsOthers.alloc _ _).from _) (Kp.of_below ((Below.refl _ W).alloc (by omega) _) (by omega)) ⟨⟨r, c, h1, ⟨v, h2.alloc _, h3.alloc _⟩, h4.alloc _⟩, hB1.alloc (by omega) _⟩ ⟨W.heap.size, by omega, Boxed2.new _ _ _ _, rfl⟩
  case body =>
    rintro L pre x a₁ W hL ⟨r0, hr0⟩ ⟨⟨r, c, h1, ⟨v, h2, h3⟩, h4⟩, hB1⟩ ⟨Bx, hBx, bX, rfl⟩ hlt
    have hsW := hB1.size
    have hlen : r.length ≤ 1000000 := by have := h1.1; omega
    obtain ⟨s, c2, hs, hc2, hsum, hadd⟩ := add64 x.2.1.1 x.2.2.1 c x.2.1.2 x.2.2.2 h1.2.1
    have H := Lib.hid (h1.snoc x s c2 hs hc2 hsum)
    clear hsum h1
    have cO := h2.cell
    have fO := h2.frozen
    have cC := h4.cell
    have fC := h4.frozen
    have c0 := bX.cell0
    have c1 := bX.cell1
    gi_wp2_with (first
      | (refine ⟨trivial, ?_⟩)
      | (gi_at_builtin; refine app1_in W rfl _ _ rfl (w1.heap.size + 5) v r s rfl h3 rfl (by omega) (by omega) ?_; intro g' cap' w2 hown' hgrow; obtain ⟨hv1, hk2, hb2⟩ := appended_low h2 h3 (by omega) (by omega) hgrow; have h42 : Boxed w2 (w1.heap.size + 1) 26 (.int .u64 (c : Int)) := (hb2.block _ (by omega)).trans h4; have hc1 := hv1.cell; have hf1 := hv1.frozen; have hc42 := h42.cell; have hf42 := h42.frozen))
    have e1 := hv1.set (.slice (some ⟨g', 0, none⟩) (r.length + 1) cap')
    have e2 := (own_set (own_set hown' w1.heap.size (.slice (some ⟨g', 0, none⟩) (r.length + 1) cap') (by omega)) (w1.heap.size + 1) (.int .u64 (c2 : Int)) (by omega))
    have k1 : Kp w1.heap.size (w1.heap.size + 1 + 1) W w2 := Kp.of_below hb2 (by omega)
    have k2 := (k1.trans (Kp.set w2 w1.heap.size (.slice (some ⟨g', 0, none⟩) (r.length + 1) cap') (Nat.le_refl _) (by omega))).trans (Kp.set _ (w1.heap.size + 1) (.int .u64 (c2 : Int)) (by omega) (by omega))
    refine ⟨((hk2.trans (KeepsOthers.setCell _ _ _)).trans (KeepsOthers.setCell _ _ _)).from _, k2, ⟨r ++ [s], c2, H.out, ⟨_, boxed_set e1 (by omega), ?_⟩, (boxed_set h42 (by omega)).set _⟩, hB1.trans k2.1⟩
    rw [List.length_append, List.length_singleton]
    exact e2
  case done =>
    rintro D zs W hD rfl ⟨⟨r, c, h1, ⟨v, h2, h3⟩, h4⟩, hB1⟩ hK
    have hsW := hB1.size
    have hlen : r.length ≤ 1000000 := by have := h1.1; rw [upto_length] at this; omega
    have H := Lib.hid h1
    clear h1
    have cO := h2.cell
    have fO := h2.frozen
    have cC := h4.cell
    have fC := h4.frozen
    gi_wp2_with (first
      | (gi_at_builtin; refine app1_in W rfl _ _ rfl (w1.heap.size + 5) v r c rfl h3 rfl (by omega) (by omega) ?_; intro g' cap' w2 hown' hgrow; obtain ⟨hv1, hk2, hb2⟩ := appended_low h2 h3 (by omega) (by omega) hgrow))
    refine ⟨trivial, ?_⟩
    have hkD := hk2.same D _ hK rfl
    obtain ⟨z1, z2, z3, z4⟩ := H.out
    obtain ⟨y1, y2⟩ := all_pairs l m hlb hmb
    have hval : val (r ++ [c]) = val l + val m := by
      rw [val_snoc, z1, z4, y1, y2]
    refine (callsIn_wide.2 (told_lb _ (r ++ [c]) (val l + val m) _ (Lb.row (B := w1.heap.size + 5) (e := 26) ?_ ?_ ?_) hval)).mono ?_
    · rw [List.length_append, List.length_singleton]
      exact hown'
    · rw [List.length_append, List.length_singleton]; omega
    · intro x hx
      rcases List.mem_append.1 hx with hx | hx
      · exact z3 x hx
      · obtain rfl : x = c := by simpa using hx
        omega
    rintro e w3 ⟨ht, hb3⟩
    have hkD3 := (hb3.block D (Array.getElem?_eq_some_iff.1 hkD).1).trans hkD
    have hs2 := hk2.size
    have hbB : Below w.heap.size w w3 := ((hb0.trans (hW1.mono hs0)).trans ((hB1.mono hs0).trans (hb2.mono (by omega)))).trans (hb3.mono (by omega))
    rcases ht with ⟨hlt, av, cv, rfl, hn⟩ | ⟨hge, rfl⟩
    · gi_wp2
      refine ⟨by simp, .inl ⟨_, _, rfl, run_takeDeferred hkD3, ?_⟩⟩
      exact ⟨_, results_tmp2 rfl _ _ _, .inl ⟨hlt, av, cv, rfl, ⟨ownsRow_putObj (hn.ge (by omega)).1.1 _ hkD3 rfl, hn.1.2⟩, hn.2⟩, hbB.trans (belowK_b (w := w) (Nat.le_refl _) w3 D _ _ (by omega) hkD3 rfl rfl)⟩
    · gi_wp2
      refine ⟨by simp, .inl ⟨_, _, rfl, run_takeDeferred hkD3, ?_⟩⟩
      exact ⟨_, results_tmp2 rfl _ _ _, .inr ⟨hge, rfl⟩, hbB.trans (belowK_b (w := w) (Nat.le_refl _) w3 D _ _ (by omega) hkD3 rfl rfl)⟩
  case stop =>
    rintro D c pre W _ _ h _
    exact h.elim
end Go.Proofs.YtpnllalefpkcjaaGreatDoor.Nat_
