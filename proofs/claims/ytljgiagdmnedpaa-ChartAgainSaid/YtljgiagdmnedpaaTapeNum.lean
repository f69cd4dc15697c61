/-
tape: Par (the first one), Num (of a small number).
-/
import Derived.Test.YtljgiagdmnedpaaTapeCall
namespace Go.Proofs.Ytljgiagdmnedpaa.Tape_
open Go.RowKit Nat_ Frac_

theorem Sp.set {F F' : Nat → Prop} {w w' : World} (h : Sp F w F' w') (M i : Nat) (v : Value) (hM : F' M) : Sp F w F' (w'.setCell ⟨M, i, none⟩ v) :=
  h.trans ⟨rfl, rfl, rfl, by rw [World.size_setCell]; exact Nat.le_refl _, fun k _ hn => Below.heap_setCell w' _ _ k (fun (e : k = M) => hn (e ▸ hM)), fun _ h => .inl h⟩
theorem Mkr.par {w : World} {M : Nat} {F : Nat → Prop} {B : Nat} {L : List Key} (h : Mkr w M F B 0 L) : Mkr (w.setCell ⟨M, 1, none⟩ (.int .i64 1)) M F B 1 L := by
  obtain ⟨b, v, xs, h1, h2, h3, h4, h5, h6, h7, h8, h9, h10, h11⟩ := h
  refine ⟨b, v, xs, h1.set_ 1 _, h2.of_same (Below.heap_setCell w _ _ b (fun (e : b = M) => h4 e.symm)), h3.kept (grown_set w M 1 _) ?_, h4, h5, h6, h7, h8, h9, fun k hk => by rw [World.size_setCell]; exact h10 k hk, h11.1, h11.2.1, by omega⟩
  rcases hv : v.ownBlock with _ | k
  · exact .inl rfl
  · exact .inr (by rw [← hv]; exact h5)
set_option maxRecDepth 100000 in
set_option maxHeartbeats 2000000 in
theorem par_ok (M : Nat) (F : Nat → Prop) (B : Nat) (w : World) (h : Mkr w M F B 0 []) (hB : 1 ≤ B) :
    Calls Try.prog 6 #[.pointer (some ⟨M, 0, none⟩)] w fun e w' => ∃ F', e = .returned (.tuple #[.int .i64 0, .int .i64 0]) ∧ Mkr w' M F' B 1 [⟨2, 0, 0, []⟩] ∧ Sp F w F' w' := by
  have C := Lib.hid (put_op M F B 0 [] 2 0 0 w h (by decide) ⟨by decide, by decide, by decide, by simp [maxLen]⟩)
  have hput : put B [] ⟨2, 0, 0, []⟩ = some (0, [⟨2, 0, 0, []⟩]) := by
    unfold put
    rw [if_neg (by simp), if_pos (show ([] : List Key).length < B from hB)]
    rfl
  obtain ⟨b, v, xs, h1, h2, h3, -⟩ := h
  have c1 := h1.cell 1
  have c3 := h1.cell 3
  have HP := Lib.hid hput
  simp only [List.getElem?_cons_zero, List.getElem?_cons_succ] at c1 c3
  clear hput h1 h2 h3
  go_enter Try.func6, Try.ntmps6
  go_wp2_with (go_at_call 12; refine (there_ok M b w c3).mono ?_; rintro e wt ⟨rfl, rfl⟩)
  refine C.out.mono ?_
  rintro e w1 (⟨i, L', F', hq, rfl, hm, hs⟩ | ⟨hq, -, -, -⟩)
  · rw [HP.out] at hq
    simp only [Option.some.injEq, Prod.mk.injEq] at hq
    obtain ⟨rfl, rfl⟩ := hq
    have HM := Lib.hid hm.par
    have HS := Lib.hid (hs.set M 1 (.int .i64 1) hm.has.1)
    obtain ⟨b', v', xs', h1, -⟩ := hm
    have d1 := h1.cell 1
    have f1 := h1.frozen 1 (by simp)
    simp only [List.getElem?_cons_zero, List.getElem?_cons_succ] at d1
    clear h1 hs c1 c3 C
    go_wp2_with fail
    go_ret2
    exact ⟨F', rfl, HM.out, HS.out⟩
  · rw [HP.out] at hq
    cases hq
theorem fits_num (b : Bool) (n : Nat) (hn : n < Lim) : Fits ⟨1, 0, 0, fracT b n 1⟩ := by
  have h1 := decs_lim n hn
  have h2 : (fracT b n 1).length ≤ 40961 := by
    unfold fracT
    rw [if_pos rfl]
    unfold zdecs
    split
    · simp; omega
    · omega
  refine ⟨show 1 < 256 by decide, show 0 < 9223372036854775808 by decide, show 0 < 9223372036854775808 by decide, ?_⟩
  exact Nat.le_trans h2 (by decide)
theorem one_lim : 1 < Lim := (nl_iff 1).1 (by rw [show nl 1 = 1 from rfl]; omega)
theorem fn_one (n : Nat) : fn n 1 = n := by simp [fn]
theorem fd_one (n : Nat) : fd n 1 = 1 := by simp [fd]
set_option maxRecDepth 100000 in
set_option maxHeartbeats 4000000 in
theorem num_ok (M : Nat) (F : Nat → Prop) (B pars : Nat) (L : List Key) (b : Bool) (n C : Nat) (v : Value) (w : World) (h : Mkr w M F B pars L) (hn : n < Lim) (hb : zneg b n = b) (hv : FVal C w b n 1 v) :
    Calls Try.prog 7 #[.pointer (some ⟨M, 0, none⟩), v] w (PutE w M F B pars L ⟨1, 0, 0, fracT b n 1⟩) := by
  obtain ⟨a, c, a', c', rfl, hn1, hn2⟩ := hv
  have h1L : (1 : Nat) < Lim := one_lim
  obtain ⟨W, hW⟩ : ∃ W, w.alloc (.cells #[.bool b, .slice a (nl n) c, .slice a' (nl 1) c'] 35) = W := ⟨_, rfl⟩
  obtain ⟨G, hG⟩ : ∃ G, w.heap.size = G := ⟨_, rfl⟩
  have hbw : Below w.heap.size w W := by rw [← hW]; exact (Below.refl w.heap.size w).alloc (Nat.le_refl _) _
  have k1 : Blk W G 35 [.bool b, .slice a (nl n) c, .slice a' (nl 1) c'] := by rw [← hW]; exact blk_new _ _ [_, _, _] _ hG
  have hsW : W.heap.size = G + 1 := by rw [← hW]; simp [hG]
  have hMW := h.below hbw
  have C1 := Lib.hid (norm_ok b _ _ n 1 W (hn1.nm.below hbw) (hn2.nm.below hbw) hn h1L (by decide))
  have HK := Lib.hid (And.intro k1 (And.intro hbw (And.intro hsW (And.intro h hG))))
  have HL := Lib.hid (And.intro hn (And.intro h1L hb))
  obtain ⟨bm, vm, xs, q1, -⟩ := hMW
  have c3 := q1.cell 3
  have x0 := k1.cell 0
  have x1 := k1.cell 1
  have x2 := k1.cell 2
  simp only [List.getElem?_cons_zero, List.getElem?_cons_succ] at c3 x0 x1 x2
  rw [fn_one, fd_one, hb] at C1
  clear q1 k1 hbw h hn h1L hb hn1 hn2 hsW
  obtain ⟨l1, hl1⟩ : ∃ l, nl 1 = l := ⟨_, rfl⟩
  rw [hl1] at x2 hW C1 ⊢
  have HL1 := Lib.hid hl1
  clear hl1
  have HW := Lib.hid hW
  clear hW
  go_enter Try.func7, Try.ntmps7
  go_wp2_with (rw [HW.out]; go_at_call 12; refine (there_ok M bm W c3).mono ?_; rintro e wt ⟨rfl, rfl⟩)
  refine C1.out.mono ?_
  rintro e w1 ⟨⟨v1, rfl, a1, c1, a1', c1', rfl, hn1, hn2⟩, hb1⟩
  have q := HK.out.1.below hb1 HK.out.1.lt
  have hB := HK.out.2.1.trans (hb1.mono HK.out.2.1.size)
  have f0 := q.frozen 0 (by simp)
  have f1 := q.frozen 1 (by simp)
  have f2 := q.frozen 2 (by simp)
  have p0 := q.cell 0
  have p1 := q.cell 1
  have p2 := q.cell 2
  simp only [List.getElem?_cons_zero, List.getElem?_cons_succ] at p0 p1 p2
  have hk := ((q.set_ 0 (.bool b)).set_ 1 (.slice a1 (nl n) c1)).set_ 2 (.slice a1' (nl 1) c1')
  simp only [List.set_cons_zero, List.set_cons_succ] at hk
  rw [HK.out.2.2.1] at hn1 hn2
  have hE2 : G < G + 1 := by omega
  have hz1 := nn_set (nn_set (nn_set hn1 G 0 (.bool b) hE2) G 1 (.slice a1 (nl n) c1) hE2) G 2 (.slice a1' (nl 1) c1') hE2
  have hz2 := nn_set (nn_set (nn_set hn2 G 0 (.bool b) hE2) G 1 (.slice a1 (nl n) c1) hE2) G 2 (.slice a1' (nl 1) c1') hE2
  have hwE : w.heap.size ≤ G := by rw [HK.out.2.2.2.2]; omega
  have hbE := ((hB.setCell (p := ⟨G, 0, none⟩) hwE (.bool b)).setCell (p := ⟨G, 1, none⟩) hwE (.slice a1 (nl n) c1)).setCell (p := ⟨G, 2, none⟩) hwE (.slice a1' (nl 1) c1')
  rw [HL1.out] at p2 hk hz1 hz2 hbE ⊢
  obtain ⟨w2, hw2⟩ : ∃ w2, ((w1.setCell ⟨G, 0, none⟩ (.bool b)).setCell ⟨G, 1, none⟩ (.slice a1 (nl n) c1)).setCell ⟨G, 2, none⟩ (.slice a1' l1 c1') = w2 := ⟨_, rfl⟩
  rw [hw2] at hk hz1 hz2 hbE
  have y0 := hk.cell 0
  have y1 := hk.cell 1
  have y2 := hk.cell 2
  simp only [List.getElem?_cons_zero, List.getElem?_cons_succ] at y0 y1 y2
  have hfit := fits_num b n HL.out.1
  have hPN := put_num M F B pars L b (.slice a1 (nl n) c1) (.slice a1' l1 c1') n 1 w2 (HK.out.2.2.2.1.below hbE) hz1.nm hz2.nm HL.out.1 HL.out.2.1 (by decide) (by rw [fn_one, fd_one, HL.out.2.2]; exact hfit)
  rw [fn_one, fd_one, HL.out.2.2] at hPN
  have CP := Lib.hid (hPN.mono (fun e w' hh => (PutE.below hbE hh).form))
  have HW2 := Lib.hid hw2
  clear hw2 hk hz1 hz2 hbE hwE hE2 hn1 hn2 hB hb1 q hPN hfit C1 x0 x1 x2 c3 HW
  go_wp2_with fail
  rw [HW2.out]
  go_wp2_with fail
  refine CP.out.mono ?_
  rintro e w' ⟨i, no, rfl, hh⟩
  go_wp2_with fail
  go_ret2
  exact hh.out
/-- A small number's key. -/
def numK (x : Int) : Key := ⟨1, 0, 0, fracT (decide (x < 0)) x.natAbs 1⟩
theorem zneg_small (x : Int) : zneg (decide (x < 0)) x.natAbs = decide (x < 0) := by
  unfold zneg
  by_cases h : x < 0
  · have : x.natAbs ≠ 0 := by omega
    simp [h, this]
  · simp [h]
theorem small_lim (x : Int) (h0 : -9223372036854775808 ≤ x) (h1 : x ≤ 9223372036854775807) : x.natAbs < Lim := by
  have h2 : x.natAbs < 18446744073709551616 := by omega
  exact lim_small _ 1 (by decide) (by simpa using h2)
end Go.Proofs.Ytljgiagdmnedpaa.Tape_
